/- A choice of things that lie side by side, in any order. No program in sight. -/
import Derived.Test.YthefpmmeoajaiaaBd7
import Derived.Test.YthefpmmeoajaiaaBd14
import Derived.Maps.RangeWalk
import Derived.Maps.OwnIn
import Derived.Sort.MapsRangeIn
import Derived.Test.YthefpmmeoajaiaaBd13
import Derived.Test.YthefpmmeoajaiaaBd11
set_option linter.unusedVariables false
set_option linter.unusedSimpArgs false
namespace Go.Proofs.Ythefpmmeoajaiaa
open Go.RowKit
theorem SW.sel {w0 w : World} {R R' : List Asn} (h : SW w0 R w) (is : List Nat) (hd : is.Nodup) (he : is.map (fun i => R[i]?) = R'.map some) : SW w0 R' w := by
  have hm : ∀ A ∈ R', A ∈ R := fun A hA => by
    have h1 : some A ∈ R'.map some := List.mem_map.2 ⟨A, hA, rfl⟩
    rw [← he] at h1
    obtain ⟨i, _, h2⟩ := List.mem_map.1 h1
    exact List.mem_of_getElem? h2
  have hp : (R'.map some).Pairwise (fun a b => ∀ A B, a = some A → b = some B → Dis A B) := by
    rw [← he]
    exact List.pairwise_map.2 (hd.imp (fun {i j} hij A B ha hb => h.get_ne ha hb hij))
  exact ⟨h.g, ⟨fun A hA => h.s.1 A (hm A hA), (List.pairwise_map.1 hp).imp (fun {A B} hab => hab A B rfl rfl)⟩, fun A hA => h.n A (hm A hA)⟩
/-- What a callee has laid beside what the caller held. -/
theorem SW.both {w w0 w1 : World} {R R2 : List Asn} (h : SW w R w0) (h2 : SW w0 R2 w1) : SW w (R2 ++ R) w1 := by
  have hr := h.s.gr h2.g
  refine ⟨h.g.trans h2.g, ⟨fun A hA => (List.mem_append.1 hA).elim (h2.s.1 A) (hr.1 A), List.pairwise_append.2 ⟨h2.s.2, h.s.2, fun A hA B hB k ka kb => ?_⟩⟩, fun A hA k hk => (List.mem_append.1 hA).elim (fun e => Nat.le_trans h.g.sz (h2.n A e k hk)) (fun e => h.n A e k hk)⟩
  have h3 := h2.n A hA k ka
  have h4 := h.s.lt hB k kb
  omega
/-- A block that lies apart from all of them. -/
theorem SW.addD {w0 W : World} {R : List Asn} {D : Nat} {o : Obj} (h : SW w0 R W) (hd : W.heap[D]? = some o) (hn : ∀ B ∈ R, ∀ k, B.S k → k ≠ D) (h0 : w0.heap.size ≤ D) : SW w0 (blkA D o :: R) W :=
  ⟨h.g, ⟨fun A hA => (List.mem_cons.1 hA).elim (fun e => by rw [e]; exact hd) (h.s.1 A), List.pairwise_cons.2 ⟨fun B hB k ka kb => hn B hB k kb ka, h.s.2⟩⟩, fun A hA k hk => (List.mem_cons.1 hA).elim (fun e => by rw [e] at hk; rw [show k = D from hk]; exact h0) (fun e => h.n A e k hk)⟩
end Go.Proofs.Ythefpmmeoajaiaa

/- A Go map from strings to 64-bit integers, as a sorted list of pairs. -/
set_option linter.unusedVariables false
set_option linter.unusedSimpArgs false
namespace Go.Proofs.Ythefpmmeoajaiaa
open Go.RowKit Go.Maps

abbrev SqI := ByteArray × Int
abbrev ks (k : ByteArray) : Lit := .string k.data.toList
abbrev kq (x : Int) : Lit := .int .i64 x
abbrev DU := DataW Unit
/-- The datum reads as the list. -/
structure RS (D : DU) (L : List SqI) : Prop where
  tidy : Maps.Tidy D
  has : ∀ k : ByteArray, Maps.has D (ks k) = (look ltS L k).isSome
  at0 : ∀ k : ByteArray, D.atKey (ks k) (.lit (kq 0)) = .lit (kq ((look ltS L k).getD 0))
  sz : Maps.size D = L.length
  srt : Srt ltS L
theorem RS.nil : RS (.map []) [] := ⟨Maps.tidy_empty, fun _ => rfl, fun _ => rfl, rfl, List.Pairwise.nil⟩
theorem ks_inj {a b : ByteArray} (h : ks a = ks b) : a = b := by
  injection h with h
  obtain ⟨⟨a⟩⟩ := a
  obtain ⟨⟨b⟩⟩ := b
  simp only at h
  subst h
  rfl
theorem ks_ne {a b : ByteArray} (h : a ≠ b) : ks a ≠ ks b := fun e => h (ks_inj e)
theorem isks (k : ByteArray) : WideAt.IsKeyLit (ks k) := trivial
theorem RS.put {D : DU} {L : List SqI} (h : RS D L) (k : ByteArray) (v : Int) : RS (D.put (ks k) (.lit (kq v))) (putL ltS L k v) := by
  refine ⟨h.tidy.put (isks k) _, fun k' => ?_, fun k' => ?_, ?_, put_srt ordS h.srt k v⟩
  · rw [put_look ordS h.srt]
    by_cases e : k' = k
    · subst e; rw [if_pos rfl]; exact Maps.has_put_same h.tidy.isMap (isks _) _
    · rw [if_neg e, ← h.has]; exact Maps.has_put_other (ks_ne e) _
  · rw [put_look ordS h.srt]
    by_cases e : k' = k
    · subst e; rw [if_pos rfl]; exact Maps.atKey_put_same h.tidy.isMap (isks _) _ _
    · rw [if_neg e, ← h.at0]; exact Maps.atKey_put_other (ks_ne e) _ _
  · rw [Maps.size_put h.tidy, put_length, h.has, h.sz]
    cases look ltS L k <;> simp
/-- What stands at a key that is there. -/
theorem RS.val {D : DU} {L : List SqI} (h : RS D L) {k : ByteArray} {c : Int} (hat : ∀ zd, D.atKey (ks k) zd = .lit (kq c)) : look ltS L k = some c := by
  have h1 := Maps.has_true_of_atKey hat
  have h2 := h.at0 k
  rw [hat] at h2
  rw [h.has] at h1
  obtain ⟨u, hu⟩ := Option.isSome_iff_exists.1 h1
  rw [hu] at h2 ⊢
  injection h2 with h3
  injection h3 with _ h4
  rw [h4]
  rfl
theorem put_endS {pre : List SqI} {k : ByteArray} {v : Int} (s : Srt ltS (pre ++ [(k, v)])) : putL ltS pre k v = pre ++ [(k, v)] := by
  have h := List.pairwise_append.1 s
  have hr : pre.length = rk ltS pre k := rk_uniq ordS h.1 k pre.length (Nat.le_refl _) (fun j x _ hx => h.2.2 x (List.mem_of_getElem? hx) (k, v) (by simp)) (fun j x hj hx => by
    have := (List.getElem?_eq_some_iff.1 hx).1; omega)
  have hl : look ltS pre k = none := by
    unfold look
    rw [← hr, List.getElem?_eq_none (Nat.le_refl _)]
  unfold putL
  rw [hl, ← hr]
  simp

theorem lawS : Keyed Try.prog 9 := string_keyed Try.underlying9
theorem zeroQ (w : World) : (zeroValue 2).run Try.prog w = .ok (.int .i64 0) w := by kernel_rfl
/-- Block b is a map of at most n entries, the pairs of L. -/
def GS (w : World) (b n : Nat) (L : List SqI) : Prop := ∃ D : DU, w.ownsMap Try.prog 9 (plainElem Try.prog 2) b n D ∧ RS D L
section
variable {w w' : World} {b n : Nat} {L : List SqI}
theorem GS.mdh {F : Nat → Prop} (h : GS w b n L) (m : Mdh F w w') (hb : ¬ F b) : GS w' b n L := by
  obtain ⟨D, ⟨es, clock, h1, h2⟩, h3⟩ := h
  exact ⟨D, ⟨es, clock, m.blk h1 hb, h2⟩, h3⟩
theorem GS.gr (h : GS w b n L) (g : Gr w w') : GS w' b n L := h.mdh (g.mdh (fun _ => False)) (fun h => h)
theorem GS.made (w : World) : GS (w.alloc (.map #[] 0)) w.heap.size 0 [] := ⟨_, World.ownsMap_made _ _ _ _, RS.nil⟩
theorem GS.lt (h : GS w b n L) : b < w.heap.size := let ⟨_, h1, _⟩ := h; h1.lt
end
/-- A map as a thing. -/
def gsA (b n : Nat) (L : List SqI) : Asn := ⟨fun k => k = b, fun w => GS w b n L, fun h m hs => h.mdh m (hs b rfl), fun h k hk => by subst hk; exact h.lt⟩
theorem md_of_grownS {w w' : World} {b : Nat} (h : w.grownBy w' (some b)) : Mdh (fun q => q = b) w w' := (Mdh.refl _ w).grown h (fun r hr => (Option.some.inj hr).symm)
theorem gr_grownS {w w' : World} (g : w.grownBy w' none) : Gr w w' := ⟨g.os, g.tape, g.output, g.size, fun k hk => g.block k hk (by simp)⟩
section
variable {ops : Array Oper} {rest : List Oper} {o : Oper} {a : Act} {Q : Exit → Act → World → Prop} {F : Fence} {f : Nat} (w : World)
theorem wpList_gs_look (hg : o.guard = none) (m x : Operand) (hop : o.op = Op.lookup 102 m x true) (b n : Nat) (L : List SqI) (hm : a.eval m = .map (some b)) (h : GS w b n L) (k : ByteArray) (hx : a.eval x = .string k) (hk : k.size ≤ maxLen)
    (hK : wpList Try.prog ops Q rest (a.put o.dst (.tuple #[.int .i64 ((look ltS L k).getD 0), .bool (look ltS L k).isSome])) w) : wpList Try.prog ops Q (o :: rest) a w := by
  obtain ⟨D, h1, h2⟩ := h
  refine wpList_lookup_own_ok_int w hg m x 102 hop 9 2 .i64 lawS Try.underlying102 Try.underlying2 (zeroQ w) b n D hm h1 _ (ks k) hx (WideMaps.keyOf_string_mk Try.underlying9 hk) ?_
  intro c hat _
  rw [h2.at0] at hat
  injection hat with hat
  injection hat with _ hat
  subst hat
  rw [h2.has]
  exact hK
theorem wpListIn_gs_set (hg : o.guard = none) (m x v : Operand) (hop : o.op = Op.mapUpdate 102 m x v) (b n : Nat) (L : List SqI) (hm : a.eval m = .map (some b)) (h : GS w b n L) (hn : n ≤ 1000000) (k : ByteArray) (u : Int) (hx : a.eval x = .string k) (hv : a.eval v = .int .i64 u) (hk : k.size ≤ maxLen) (hu : (Lit.int .i64 u).wf = true)
    (hK : ∀ w', GS w' b (n + 1) (putL ltS L k u) → Mdh (fun q => q = b) w w' → wpListIn F f Try.prog ops Q rest (a.put o.dst undef) w') : wpListIn F f Try.prog ops Q (o :: rest) a w := by
  obtain ⟨D, h1, h2⟩ := h
  refine wpListIn_mapUpdate_own w hg m x v 102 hop 9 2 lawS Try.underlying102 (plainElem Try.prog 2) b n D hm h1 (by unfold maxLen; omega) _ _ (ks k) hx hv (WideMaps.keyOf_string_mk Try.underlying9 hk) _ [] (plainElem_int Try.underlying2 hu) ?_
  intro w' h3 h4
  exact hK w' ⟨_, h3, h2.put k u⟩ (md_of_grownS h4)
theorem wpList_next_gs (hg : o.guard = none) (it : Operand) (hop : o.op = Op.next it false) (b r n : Nat) (D : DU) (left : Lit → Bool) (cnt : Nat) (hit : a.eval it = .pointer (some ⟨r, 0, none⟩)) (h : w.ranges Try.prog 9 (plainElem Try.prog 2) b r n D left cnt)
    (hDone : cnt = 0 → (∀ kl, left kl = false) → wpList Try.prog ops Q rest (a.put o.dst (.tuple #[.bool false])) w)
    (hMore : ∀ (x : ByteArray) (c : Int) (w' : World) (cnt' : Nat), x.size ≤ maxLen → (∀ zd, D.atKey (ks x) zd = .lit (kq c)) → w'.ranges Try.prog 9 (plainElem Try.prog 2) b r n D (fun z => left z && !z.sameKey (ks x)) cnt' → cnt' < cnt →
      w.grownBy w' (some r) → w'.heap.size = w.heap.size → (Instr.entry (.pointer (some ⟨r, 0, none⟩))).run Try.prog w' = .ok (.tuple #[.string x, .int .i64 c]) w' → wpList Try.prog ops Q rest (a.put o.dst (.tuple #[.bool true, .string x, .int .i64 c])) w') :
    wpList Try.prog ops Q (o :: rest) a w :=
  wpList_next_ranges w hg it hop 9 lawS (plainElem Try.prog 2) Value.string (Value.int .i64) (fun key kl hkey => Maps.keyOf_string_inv Try.underlying9 hkey) (fun v y hv => by obtain ⟨c, rfl, _⟩ := plainElem_int_inv Try.underlying2 hv; exact ⟨c, rfl⟩)
    b r n D left cnt hit h hDone (fun x c kl y w' cnt' hkey _ hv hat hrg hlt hgr hsz hen => by
      obtain ⟨s, e1, rfl, hs⟩ := WideMaps.string_of_keyOf Try.underlying9 hkey
      cases e1
      obtain ⟨c', ec, rfl, _⟩ := plainElem_int_inv Try.underlying2 hv
      cases ec
      exact hMore x c w' cnt' hs hat hrg hlt hgr hsz hen)
end
theorem gs_len_run {w : World} {b n : Nat} {L : List SqI} (h : GS w b n L) (ty : TypeId) : (Builtin.len_ #[102] ty #[.map (some b)]).run Try.prog w = .ok (.int .i64 L.length) w := by
  obtain ⟨D, h1, h2⟩ := h
  rw [h1.len Try.underlying102, h2.sz]
end Go.Proofs.Ythefpmmeoajaiaa

/- drumlinlaw22.Made in plain Lean. No walk. -/
set_option linter.unusedVariables false
set_option linter.unusedSimpArgs false
namespace Go.Proofs.Ythefpmmeoajaiaa

structure Tn where
  kind : Int
  slot : Int
  n : Int
  size : Int
structure Tn.Ok (t : Tn) : Prop where
  kind : 0 ≤ t.kind ∧ t.kind ≤ 255
  slot : 0 ≤ t.slot ∧ t.slot ≤ 255
  n : 0 ≤ t.n ∧ t.n ≤ 255
  size : 0 ≤ t.size ∧ t.size ≤ 255
def nmL : List ByteArray := [⟨#[97]⟩, ⟨#[98]⟩, ⟨#[97, 98]⟩, ⟨#[107, 49]⟩, ⟨#[120, 46, 121]⟩, ⟨#[122, 122]⟩]
def tnKey (n : Int) : ByteArray := nmL.getD (n % 6).toNat ⟨#[97]⟩
theorem tnKey_ok (n : Int) : keyChk (tnKey n) = 0 ∧ 1 ≤ (tnKey n).size ∧ (tnKey n).size ≤ 3 ∧ Low (tnKey n) := by
  have hl : ∀ x ∈ nmL, keyChk x = 0 ∧ 1 ≤ x.size ∧ x.size ≤ 3 ∧ Low x := by
    intro x hx
    simp only [nmL, List.mem_cons, List.not_mem_nil, or_false] at hx
    rcases hx with rfl | rfl | rfl | rfl | rfl | rfl
    all_goals
      refine ⟨by kernel_rfl, by decide, by decide, ?_⟩
      unfold Low
      decide
  have hk : (n % 6).toNat < nmL.length := by
    have h1 : 0 ≤ n % 6 ∧ n % 6 < 6 := by omega
    have h2 : nmL.length = 6 := rfl
    omega
  unfold tnKey
  rw [List.getD_eq_getElem?_getD, List.getElem?_eq_getElem hk]
  exact hl _ (List.getElem_mem hk)
structure MS where
  X : IX
  all : List En
  nx : Int
/-- Where the entries of a slot end. -/
def endF (s : Int) (a : Int) (e : En) : Int := if e.slot = s then max a (e.off + e.size) else a
def endL (all : List En) (s : Int) : Int := all.foldl (endF s) 0
theorem endL_snoc (all : List En) (e : En) (s : Int) : endL (all ++ [e]) s = endF s (endL all s) e := by simp [endL]
theorem endL_nn (all : List En) (s : Int) : 0 ≤ endL all s := by
  have h : ∀ (l : List En) (a : Int), a ≤ l.foldl (endF s) a := by
    intro l
    induction l with
    | nil => intro a; exact Int.le_refl _
    | cons e l ih =>
      intro a
      refine Int.le_trans ?_ (ih _)
      unfold endF
      split <;> omega
  exact h all 0
theorem endL_filter (all : List En) {s t : Int} (h : t ≠ s) : endL (all.filter (fun o => !decide (o.slot = s))) t = endL all t := by
  have h : ∀ (l : List En) (a : Int), (l.filter (fun o => !decide (o.slot = s))).foldl (endF t) a = l.foldl (endF t) a := by
    intro l
    induction l with
    | nil => intro a; rfl
    | cons e l ih =>
      intro a
      rw [List.filter_cons]
      by_cases he : e.slot = s
      · rw [if_neg (by simp [he]), ih, List.foldl_cons]
        congr 1
        unfold endF
        rw [if_neg (by omega)]
      · rw [if_pos (by simp [he]), List.foldl_cons, List.foldl_cons, ih]
  exact h all 0
theorem endL_zero (all : List En) (s : Int) : endL (all.filter (fun o => !decide (o.slot = s))) s = 0 := by
  have h : ∀ (l : List En), (l.filter (fun o => !decide (o.slot = s))).foldl (endF s) 0 = 0 := by
    intro l
    induction l with
    | nil => rfl
    | cons e l ih =>
      rw [List.filter_cons]
      by_cases he : e.slot = s
      · rw [if_neg (by simp [he]), ih]
      · rw [if_pos (by simp [he]), List.foldl_cons, show endF s 0 e = 0 from if_neg he, ih]
  exact h all
/-- An entry behind those of its slot. -/
def atM (st : MS) (e : En) : En := { e with off := endL st.all e.slot }
def dupM (st : MS) (e : En) : Bool := st.all.any (fun o => decide (o.slot = e.slot) && decide (o.seq = e.seq))
def addM (st : MS) (e : En) : MS := if dupM st e = true then st else ⟨addX st.X (atM st e), st.all ++ [atM st e], st.nx⟩
def newM (N : Int) (st : MS) (t : Tn) : En := ⟨st.nx, tnKey t.n, decide (t.kind % 8 = 4), t.slot % N, 0, 16 + ((tnKey t.n).size : Int) + if t.kind % 8 = 4 then 0 else t.size % 60⟩
def cpM (N : Int) (st : MS) (t : Tn) : En := { (st.all.getD (t.n % st.all.length).toNat zE) with slot := t.slot % N }
def nextM (st : MS) : MS := { st with nx := st.nx + 1 }
def dropM (st : MS) (s : Int) : MS := ⟨dropX st.X s, st.all.filter (fun o => !decide (o.slot = s)), st.nx⟩
def stepM (N : Int) (st : MS) (t : Tn) : MS :=
  if t.kind % 8 < 5 then addM (nextM st) (newM N st t)
  else if t.kind % 8 < 7 then (if st.all = [] then st else addM st (cpM N st t))
  else dropM st (t.slot % N)
def foldM (n : Nat) (L : List Tn) : MS := L.foldl (stepM n) ⟨ixNew n, [], 1⟩
theorem foldM_snoc (n : Nat) (L : List Tn) (t : Tn) : foldM n (L ++ [t]) = stepM n (foldM n L) t := by simp [foldM]
structure MS.Ok (st : MS) (N : Int) (j : Nat) : Prop where
  g : FG st.X st.all (endL st.all) N
  n : st.all.length ≤ j
  q0 : 1 ≤ st.nx
  q1 : st.nx ≤ j + 1
  u : ∀ s, endL st.all s ≤ 78 * j
  e : ∀ e ∈ st.all, 1 ≤ e.seq ∧ e.seq < st.nx ∧ Low e.key ∧ 1 ≤ e.key.size ∧ e.key.size ≤ 3 ∧ e.size ≤ 78
theorem MS.later {st : MS} {N : Int} {j j' : Nat} (h : st.Ok N j) (hj : j ≤ j') : st.Ok N j' := ⟨h.g, Nat.le_trans h.n hj, h.q0, by have := h.q1; omega, fun s => by have := h.u s; omega, h.e⟩
structure AddM (st : MS) (N : Int) (e : En) : Prop where
  slot : 0 ≤ e.slot ∧ e.slot < N
  sq : e.seq < st.nx ∧ 1 ≤ e.seq
  k : keyChk e.key = 0 ∧ 1 ≤ e.key.size ∧ e.key.size ≤ 3 ∧ Low e.key
  z : 16 + (e.key.size : Int) ≤ e.size ∧ e.size ≤ 78 ∧ (e.size = 16 + (e.key.size : Int) ∨ e.del = false)
  o : (∀ o ∈ st.all, o.seq ≠ e.seq) ∨ ∃ x ∈ st.all, x.seq = e.seq ∧ x.key = e.key ∧ x.del = e.del ∧ x.size = e.size
theorem dupM_iff {st : MS} {e : En} : dupM st e = true ↔ ∃ o ∈ st.all, o.slot = (atM st e).slot ∧ o.seq = (atM st e).seq := by
  unfold dupM
  rw [List.any_eq_true]
  simp only [Bool.and_eq_true, decide_eq_true_eq]
  exact Iff.rfl
theorem endM_upd {st : MS} {e : En} (hz : 0 ≤ e.size) : upd (endL st.all) e.slot (endL st.all e.slot + e.size) = endL (st.all ++ [atM st e]) := by
  funext s
  rw [endL_snoc]
  unfold upd endF
  by_cases h : s = e.slot
  · subst h
    rw [if_pos rfl, if_pos (show (atM st e).slot = e.slot from rfl)]
    show _ = max (endL st.all e.slot) (endL st.all e.slot + e.size)
    omega
  · rw [if_neg h, if_neg (show ¬ (atM st e).slot = s from fun hh => h hh.symm)]
theorem addM_ok {st : MS} {N : Int} {j : Nat} {e : En} (h : st.Ok N j) (hj : j ≤ 101) (a : AddM st N e) :
    (dupM st e = true → addE st.X (atM st e) = 6) ∧ (dupM st e = false → addE st.X (atM st e) = 0) ∧ (addM st e).Ok N (j + 1) ∧ Low (atM st e).key ∧ En64 (atM st e) ∧ validE (atM st e) = true ∧ 0 ≤ endL st.all e.slot ∧ endL st.all e.slot ≤ 7878 := by
  have hu := h.u e.slot
  have hu0 := endL_nn st.all e.slot
  have q1 := h.q1
  obtain ⟨z1, z2, z3⟩ := a.z
  obtain ⟨k1, k2, k3, k4⟩ := a.k
  have hv : validE (atM st e) = true := (valid_iff _).2 ⟨k1, a.sq.2, show e.seq ≤ 1099511627776 by have := a.sq.1; omega, hu0, z1, z3, show e.size ≤ (8192 : Int) by omega, show endL st.all e.slot ≤ 8192 - e.size by omega⟩
  have hpush : FG (addX st.X (atM st e)) (st.all ++ [atM st e]) (upd (endL st.all) e.slot (endL st.all e.slot + e.size)) N → (⟨addX st.X (atM st e), st.all ++ [atM st e], st.nx⟩ : MS).Ok N (j + 1) := fun g => by
    rw [endM_upd (by omega)] at g
    refine ⟨g, ?_, h.q0, by show st.nx ≤ ((j + 1 : Nat) : Int) + 1; omega, fun s => ?_, fun o ho => ?_⟩
    · show (st.all ++ [_]).length ≤ j + 1
      have := h.n
      rw [List.length_append]; simp; omega
    · have hs := h.u s
      show endL (st.all ++ [atM st e]) s ≤ 78 * ((j + 1 : Nat) : Int)
      rw [endL_snoc]
      unfold endF
      split
      · show max _ (endL st.all e.slot + e.size) ≤ _
        omega
      · omega
    · rcases List.mem_append.1 ho with ho | ho
      · exact h.e o ho
      · rw [List.mem_singleton.1 ho]
        exact ⟨a.sq.2, a.sq.1, k4, k2, k3, z2⟩
  refine ⟨fun hd => ?_, fun hd => ?_, ?_, k4, ⟨by show e.size ≤ 9223372036854775807; omega, by show -9223372036854775808 ≤ e.size; omega, by show e.key.size ≤ 140737488351232; omega⟩, hv, hu0, by omega⟩
  · have hd := dupM_iff.1 hd
    rcases a.o with ho | ⟨x, hx, e1, e2, e3, e4⟩
    · obtain ⟨o, hm, _, hq⟩ := hd
      exact absurd hq (ho o hm)
    · exact h.g.copyNo hx (En.ext' (show e.seq = x.seq from e1.symm) (show e.key = x.key from e2.symm) (show e.del = x.del from e3.symm) rfl rfl (show e.size = x.size from e4.symm)) a.slot.1 a.slot.2 hv hd
  · have hd' : ¬ ∃ o ∈ st.all, o.slot = (atM st e).slot ∧ o.seq = (atM st e).seq := fun hh => by rw [dupM_iff.2 hh] at hd; cases hd
    rcases a.o with ho | ⟨x, hx, e1, e2, e3, e4⟩
    · exact (h.g.new (e := atM st e) ho a.slot.1 a.slot.2 hv (Int.le_refl _)).1
    · exact (h.g.copyYes (e := atM st e) hx (En.ext' (show e.seq = x.seq from e1.symm) (show e.key = x.key from e2.symm) (show e.del = x.del from e3.symm) rfl rfl (show e.size = x.size from e4.symm)) a.slot.1 a.slot.2 hv (Int.le_refl _) hd').1
  · unfold addM
    split
    · exact MS.later h (by omega)
    · rename_i hd
      have hd' : ¬ ∃ o ∈ st.all, o.slot = (atM st e).slot ∧ o.seq = (atM st e).seq := fun hh => hd (dupM_iff.2 hh)
      rcases a.o with ho | ⟨x, hx, e1, e2, e3, e4⟩
      · exact hpush (h.g.new (e := atM st e) ho a.slot.1 a.slot.2 hv (Int.le_refl _)).2
      · exact hpush (h.g.copyYes (e := atM st e) hx (En.ext' (show e.seq = x.seq from e1.symm) (show e.key = x.key from e2.symm) (show e.del = x.del from e3.symm) rfl rfl (show e.size = x.size from e4.symm)) a.slot.1 a.slot.2 hv (Int.le_refl _) hd').2
theorem newM_ok {st : MS} {N : Int} {j : Nat} (h : st.Ok N j) (hN : 1 ≤ N) {t : Tn} (ht : t.Ok) : AddM (nextM st) N (newM N st t) ∧ (∀ o ∈ st.all, o.seq ≠ st.nx) := by
  obtain ⟨k1, k2, k3, k4⟩ := tnKey_ok t.n
  have hq := h.q0
  have hn : ∀ o ∈ st.all, o.seq ≠ st.nx := fun o ho => by have := (h.e o ho).2.1; omega
  refine ⟨⟨⟨Int.emod_nonneg _ (by omega), Int.emod_lt_of_pos _ (by omega)⟩, ⟨by show st.nx < st.nx + 1; omega, hq⟩, ⟨k1, k2, k3, k4⟩, ?_, .inl hn⟩, hn⟩
  show 16 + ((tnKey t.n).size : Int) ≤ 16 + ((tnKey t.n).size : Int) + (if t.kind % 8 = 4 then 0 else t.size % 60) ∧ 16 + ((tnKey t.n).size : Int) + (if t.kind % 8 = 4 then 0 else t.size % 60) ≤ 78 ∧ (16 + ((tnKey t.n).size : Int) + (if t.kind % 8 = 4 then 0 else t.size % 60) = 16 + ((tnKey t.n).size : Int) ∨ decide (t.kind % 8 = 4) = false)
  by_cases hd : t.kind % 8 = 4
  · rw [if_pos hd]
    exact ⟨by omega, by omega, .inl (by omega)⟩
  · rw [if_neg hd]
    exact ⟨by omega, by omega, .inr (decide_eq_false hd)⟩
theorem cpM_mem {st : MS} (hne : st.all ≠ []) (n : Int) (hn : 0 ≤ n) : st.all.getD (n % st.all.length).toNat zE ∈ st.all := by
  have hl : 0 < st.all.length := List.length_pos_iff.2 hne
  have h1 := Int.emod_lt_of_pos n (show (0 : Int) < st.all.length by omega)
  have h2 := Int.emod_nonneg n (show (st.all.length : Int) ≠ 0 by omega)
  have h3 : (n % st.all.length).toNat < st.all.length := by omega
  rw [List.getD_eq_getElem?_getD, List.getElem?_eq_getElem h3]
  exact List.getElem_mem h3
theorem cpM_ok {st : MS} {N : Int} {j : Nat} (h : st.Ok N j) (hN : 1 ≤ N) (hne : st.all ≠ []) {t : Tn} (ht : t.Ok) : AddM st N (cpM N st t) := by
  have hx := cpM_mem hne t.n ht.n.1
  unfold cpM
  generalize st.all.getD (t.n % st.all.length).toNat zE = x at *
  obtain ⟨h1, h2, h3, h4, h5, h6⟩ := h.e x hx
  have hv := h.g.val hx
  exact ⟨⟨Int.emod_nonneg _ (by omega), Int.emod_lt_of_pos _ (by omega)⟩, ⟨h2, h1⟩, ⟨hv.1, h4, h5, h3⟩, ⟨hv.2.2.2.2.1, h6, hv.2.2.2.2.2.1⟩, .inr ⟨x, hx, rfl, rfl, rfl, rfl⟩⟩
theorem dropM_ok {st : MS} {N : Int} {j : Nat} (h : st.Ok N j) {s : Int} (h0 : 0 ≤ s) (h1 : s < N) : (dropM st s).Ok N j ∧ dropC st.X s = 0 ∧ (st.X.slot s).length + (st.all.filter (fun o => !decide (o.slot = s))).length = st.all.length := by
  obtain ⟨d1, d2, d3⟩ := h.g.drop h0 h1 (en' := endL (st.all.filter (fun o => !decide (o.slot = s)))) (fun t ht => by rw [endL_filter _ ht]; exact Int.le_refl _)
  refine ⟨⟨d3, Nat.le_trans (List.length_filter_le _ _) h.n, h.q0, h.q1, fun t => ?_, fun e he => h.e e (List.mem_filter.1 he).1⟩, d1, d2⟩
  show endL (st.all.filter (fun o => !decide (o.slot = s))) t ≤ _
  by_cases ht : t = s
  · subst ht; rw [endL_zero]; omega
  · rw [endL_filter _ ht]; exact h.u t
theorem nextM_ok {st : MS} {N : Int} {j : Nat} (h : st.Ok N j) : st.nx + 1 ≤ (j + 1 : Nat) + 1 := by have := h.q1; omega
/-- One turn more. -/
theorem stepM_ok {st : MS} {N : Int} {j : Nat} (h : st.Ok N j) (hj : j < 100) (hN : 1 ≤ N) {t : Tn} (ht : t.Ok) : (stepM N st t).Ok N (j + 1) := by
  unfold stepM
  split
  · have hn : (nextM st).Ok N (j + 1) := ⟨h.g, Nat.le_succ_of_le h.n, by have := h.q0; show 1 ≤ st.nx + 1; omega, by have := h.q1; show st.nx + 1 ≤ ((j + 1 : Nat) : Int) + 1; omega, fun s => by have := h.u s; show endL st.all s ≤ _; omega, fun e he => by
      obtain ⟨h1, h2, h3⟩ := h.e e he
      exact ⟨h1, by show e.seq < st.nx + 1; omega, h3⟩⟩
    obtain ⟨a, hq⟩ := newM_ok h hN ht
    -- the sizes are those of the state before
    have hn0 : addM (nextM st) (newM N st t) = ⟨addX st.X (atM st (newM N st t)), st.all ++ [atM st (newM N st t)], st.nx + 1⟩ := by
      unfold addM
      rw [if_neg (fun hd => by
        obtain ⟨o, ho, _, h2⟩ := dupM_iff.1 hd
        exact hq o ho h2)]
      rfl
    obtain ⟨_, _, b3, _⟩ := addM_ok (st := ⟨st.X, st.all, st.nx + 1⟩) (j := j + 1) hn (by omega) a
    rw [hn0]
    refine ⟨(show (addM (nextM st) (newM N st t)).Ok N (j + 1 + 1) from b3).g |> (fun g => by rw [hn0] at g; exact g), ?_, ?_, ?_, fun s => ?_, ?_⟩
    · show (st.all ++ [_]).length ≤ j + 1
      have := h.n
      rw [List.length_append]; simp; omega
    · have := h.q0; show 1 ≤ st.nx + 1; omega
    · have := h.q1; show st.nx + 1 ≤ ((j + 1 : Nat) : Int) + 1; omega
    · show endL (st.all ++ [atM st (newM N st t)]) s ≤ 78 * ((j + 1 : Nat) : Int)
      rw [endL_snoc]
      have hs := h.u s
      have hz := a.z
      unfold endF
      split
      · rename_i he
        have hs2 : (newM N st t).slot = s := he
        show max _ (endL st.all (newM N st t).slot + (newM N st t).size) ≤ _
        rw [hs2]
        omega
      · omega
    · have := (show (addM (nextM st) (newM N st t)).Ok N (j + 1 + 1) from b3).e
      rw [hn0] at this
      exact this
  · split
    · split
      · exact MS.later h (by omega)
      · rename_i hne
        exact (addM_ok h (by omega) (cpM_ok h hN hne ht)).2.2.1
    · exact MS.later (dropM_ok h (Int.emod_nonneg _ (by omega)) (Int.emod_lt_of_pos _ (by omega))).1 (by omega)
theorem foldM_ok (n : Nat) (h1 : 1 ≤ n) (h2 : n ≤ 32) : ∀ (j : Nat) (L : List Tn), L.length = j → j ≤ 100 → (∀ t ∈ L, t.Ok) → (foldM n L).Ok n j
  | 0, L, hL, _, _ => by
    rw [List.eq_nil_of_length_eq_zero hL]
    exact ⟨FG.start n h1 h2 _, by show 0 ≤ 0; omega, by show (1 : Int) ≤ 1; omega, by show (1 : Int) ≤ 0 + 1; omega, fun s => by show (0 : Int) ≤ 78 * 0; omega, (fun _ h => by cases h)⟩
  | j + 1, L, hL, hj, ht => by
    have hne : L ≠ [] := fun h => by rw [h] at hL; cases hL
    have e := List.dropLast_concat_getLast hne
    have h3 := foldM_ok n h1 h2 j L.dropLast (by rw [List.length_dropLast]; omega) (by omega) (fun m h => ht m (List.dropLast_subset L h))
    rw [← e, foldM_snoc]
    exact stepM_ok h3 (by omega) (by omega) (ht _ (List.getLast_mem hne))
end Go.Proofs.Ythefpmmeoajaiaa

/- keydir: valid, Find, the iterator of Live. -/
set_option linter.unusedVariables false
set_option linter.unusedSimpArgs false
namespace Go.Proofs.Ythefpmmeoajaiaa
open Go.RowKit Go.Shelf
attribute [local go_sem] OvM cell_ovm obj_ovm
attribute [local go_sem] Oper.semAt_some

def findE (X : IX) (k : ByteArray) : Option En := match X.of k with | [] => none | e :: _ => if e.del = true then none else some e
def codeX (X : IX) : Int := if X.slots = [] then 1 else 0
def findV (X : IX) (k : ByteArray) : Value := .tuple #[enV ((findE X k).getD zE), .bool (findE X k).isSome, .int .i64 (codeX X)]
def lvF (X : IX) (l : List ByteArray) : List (ByteArray × En) := l.filterMap fun k => (findE X k).map fun e => (k, e)
def liveL (X : IX) : List (ByteArray × En) := lvF X X.ks
theorem lvF_none {X : IX} {l : List ByteArray} {k : ByteArray} (h : findE X k = none) : lvF X (l ++ [k]) = lvF X l := by simp [lvF, h]
theorem lvF_some {X : IX} {l : List ByteArray} {k : ByteArray} {e : En} (h : findE X k = some e) : lvF X (l ++ [k]) = lvF X l ++ [(k, e)] := by simp [lvF, h]
theorem lvF_pre {X : IX} {l m : List ByteArray} (h : l <+: m) : lvF X l <+: lvF X m := by
  obtain ⟨t, rfl⟩ := h
  exact ⟨lvF X t, by simp [lvF]⟩
theorem of_noslots {X : IX} (h : X.Wf) (h0 : X.slots = []) (k : ByteArray) : X.of k = [] := by unfold IX.of; rw [h.z h0]; rfl
set_option maxRecDepth 40000 in
theorem valid_any {w : World} {p : Option Addr} {X : IX} {S : Nat → Prop} (h : IXP w p X S) : Calls Try.prog 78 #[.pointer p] w fun e w' => e = .returned (.bool (decide (X.slots ≠ []))) ∧ w = w' := by
  have HS := Lib.hid (Slots_any h)
  obtain ⟨n, hn⟩ : ∃ n, n = X.slots.length := ⟨_, rfl⟩
  have HB : Hid (decide (X.slots ≠ []) = decide (0 < n)) := Lib.hid (by rw [hn, decide_eq_decide]; exact ⟨fun h => List.length_pos_iff.2 h, fun h => List.length_pos_iff.1 h⟩)
  rw [← hn] at HS
  clear h hn
  by_cases h0 : 0 < n
  · have h0' : (0 : Int) < n := by omega
    have HR : Hid (decide (X.slots ≠ []) = true) := Lib.hid (by rw [HB.out]; exact decide_eq_true h0)
    go_enter Try.func78, Try.ntmps78
    go_wp2_with (go_at_call 33; refine Calls.mono HS.out ?_; rintro e w1 ⟨rfl, rfl⟩)
    go_ret
    exact ⟨ret_bool HR.out.symm, rfl⟩
  · have h0' : ¬ (0 : Int) < n := by omega
    have HR : Hid (decide (X.slots ≠ []) = false) := Lib.hid (by rw [HB.out]; exact decide_eq_false h0)
    go_enter Try.func78, Try.ntmps78
    go_wp2_with (go_at_call 33; refine Calls.mono HS.out ?_; rintro e w1 ⟨rfl, rfl⟩)
    go_ret
    exact ⟨ret_bool HR.out.symm, rfl⟩
set_option maxRecDepth 40000 in
set_option maxHeartbeats 2000000 in
theorem Find_any {w : World} {p : Option Addr} {X : IX} {S : Nat → Prop} (h : IXP w p X S) (k : ByteArray) : Calls Try.prog 26 #[.pointer p, .string k] w fun e w' => e = .returned (findV X k) ∧ Gr w w' := by
  have H := Lib.hid h
  have HV : Hid (findV X k = .tuple #[enV ((findE X k).getD zE), .bool (findE X k).isSome, .int .i64 (codeX X)]) := Lib.hid rfl
  have HE : Hid (findE X k = match X.of k with | [] => none | e :: _ => if e.del = true then none else some e) := Lib.hid rfl
  have HNE := Lib.hid (of_noslots h.ok)
  clear h
  go_enter Try.func26, Try.ntmps26
  by_cases h0 : X.slots = []
  · have HR : Hid (findV X k = .tuple #[enV zE, .bool false, .int .i64 1]) := Lib.hid (by rw [HV.out, HE.out, HNE.out h0 k, show codeX X = 1 from if_pos h0]; rfl)
    have HD : Hid (decide (X.slots ≠ []) = false) := Lib.hid (decide_eq_false (fun h => h h0))
    clear h0
    go_wp2_with (go_at_call 78; refine (valid_any (H.out.gr ((Gr.refl _).alloc _))).mono ?_; rintro e w1 ⟨rfl, rfl⟩; rw [HD.out])
    refine bodyPost_ret (v := .tuple #[enV zE, .bool false, .int .i64 1]) ?_ rfl ⟨by rw [HR.out], by (repeat (first | (with_reducible exact Gr.refl _) | assumption | (with_reducible apply Gr.from_drew) | (with_reducible apply Gr.alloc) | (with_reducible apply Gr.drew) | (with_reducible refine Gr.trans ?_ (by assumption)) | (with_reducible refine Gr.setCell ?_ (by omega) _)))⟩
    simp [results, Try.results26, go_sem, enV, zE]
  · have HC : Hid (codeX X = 0) := Lib.hid (if_neg h0)
    have HD : Hid (decide (X.slots ≠ []) = true) := Lib.hid (decide_eq_true h0)
    clear h0
    go_wp2_with (first
      | (go_at_call 78; refine (valid_any (H.out.gr ((Gr.refl _).alloc _))).mono ?_; rintro e w1 ⟨rfl, rfl⟩; rw [HD.out])
      | fail)
    refine (Newest_any (H.out.gr ((Gr.refl _).alloc _)) k).mono ?_
    rintro e w2 ⟨rfl, hg⟩
    obtain ⟨b4, hb4⟩ : ∃ q, q = w.heap.size := ⟨_, rfl⟩
    have H2 : Hid (Gr w w2 ∧ w2.heap[b4]? = some (.cells #[.int .i64 0, .string ⟨#[]⟩, .bool false, .int .i64 0, .int .i64 0, .int .i64 0] 43) ∧ w.heap.size ≤ b4) := Lib.hid ⟨((Gr.refl w).alloc _).trans hg, by rw [hb4]; exact hg.blk (blkNew w _), by omega⟩
    obtain ⟨c4, f4⟩ := cellsOf H2.out.2.1
    have l4 := blkLt H2.out.2.1
    rw [← hb4]
    clear hg hb4
    cases ho : X.of k with
    | nil =>
      have HR : Hid (findV X k = .tuple #[enV zE, .bool false, .int .i64 0]) := Lib.hid (by rw [HV.out, HE.out, ho, HC.out]; rfl)
      clear ho
      simp only [newV, enV, zE]
      go_wp2_with fail
      refine bodyPost_ret (v := .tuple #[enV zE, .bool false, .int .i64 0]) ?_ rfl ⟨by rw [HR.out], ?_⟩
      · have h1 := blk6 (y0 := .int .i64 0) (y1 := .string ⟨#[]⟩) (y2 := .bool false) (y3 := .int .i64 0) (y4 := .int .i64 0) (y5 := .int .i64 0) H2.out.2.1
        have h2 := blkOld (o' := .cells #[.int .i64 0, .string ⟨#[]⟩, .bool false, .int .i64 0, .int .i64 0, .int .i64 0] 43) h1
        have d4 := (cellsOf h2).1
        simp [results, Try.results26, go_sem, d4, enV, zE]
      · have hn := H2.out.2.2
        exact (((((((H2.out.1.setCell (p := ⟨b4, 0, none⟩) hn _).setCell (p := ⟨b4, 1, none⟩) hn _).setCell (p := ⟨b4, 2, none⟩) hn _).setCell (p := ⟨b4, 3, none⟩) hn _).setCell (p := ⟨b4, 4, none⟩) hn _).setCell (p := ⟨b4, 5, none⟩) hn _).alloc _)
    | cons x l =>
      simp only [newV, enV]
      cases hd : x.del with
      | true =>
        have HR : Hid (findV X k = .tuple #[enV zE, .bool false, .int .i64 0]) := Lib.hid (by rw [HV.out, HE.out, ho, HC.out]; simp [hd])
        clear ho hd
        go_wp2_with fail
        refine bodyPost_ret (v := .tuple #[enV zE, .bool false, .int .i64 0]) ?_ rfl ⟨by rw [HR.out], ?_⟩
        · have h1 := blk6 (y0 := .int .i64 0) (y1 := .string ⟨#[]⟩) (y2 := .bool false) (y3 := .int .i64 0) (y4 := .int .i64 0) (y5 := .int .i64 0) H2.out.2.1
          have h2 := blkOld (o' := .cells #[.int .i64 x.seq, .string x.key, .bool true, .int .i64 x.slot, .int .i64 x.off, .int .i64 x.size] 43) h1
          have d4 := (cellsOf h2).1
          simp [results, Try.results26, go_sem, d4, enV, zE]
        · have hn := H2.out.2.2
          exact (((((((H2.out.1.setCell (p := ⟨b4, 0, none⟩) hn _).setCell (p := ⟨b4, 1, none⟩) hn _).setCell (p := ⟨b4, 2, none⟩) hn _).setCell (p := ⟨b4, 3, none⟩) hn _).setCell (p := ⟨b4, 4, none⟩) hn _).setCell (p := ⟨b4, 5, none⟩) hn _).alloc _)
      | false =>
        have HR : Hid (findV X k = .tuple #[enV x, .bool true, .int .i64 0]) := Lib.hid (by rw [HV.out, HE.out, ho, HC.out]; simp [hd])
        have HDX := Lib.hid hd
        clear ho hd
        go_wp2_with fail
        refine bodyPost_ret (v := .tuple #[enV x, .bool true, .int .i64 0]) ?_ rfl ⟨by rw [HR.out], ?_⟩
        · have h1 := blk6 (y0 := .int .i64 x.seq) (y1 := .string x.key) (y2 := .bool false) (y3 := .int .i64 x.slot) (y4 := .int .i64 x.off) (y5 := .int .i64 x.size) H2.out.2.1
          have h2 := blkOld (o' := .cells #[.int .i64 x.seq, .string x.key, .bool false, .int .i64 x.slot, .int .i64 x.off, .int .i64 x.size] 43) h1
          have d4 := (cellsOf h2).1
          simp [results, Try.results26, go_sem, d4, enV, HDX.out]
        · have hn := H2.out.2.2
          exact (((((((H2.out.1.setCell (p := ⟨b4, 0, none⟩) hn _).setCell (p := ⟨b4, 1, none⟩) hn _).setCell (p := ⟨b4, 2, none⟩) hn _).setCell (p := ⟨b4, 3, none⟩) hn _).setCell (p := ⟨b4, 4, none⟩) hn _).setCell (p := ⟨b4, 5, none⟩) hn _).alloc _)
/-- Blocks that stay as they were, beside an iterator's own, which are new. -/
structure KeptA (w0 : World) (A : Nat → Prop) (n : Nat) (Z : Nat → Prop) (X : World) : Prop where
  m : Mdh (fun k => ¬ A k) w0 X
  z : ∀ k, Z k → n ≤ k
  s : n ≤ X.heap.size
theorem KeptA.apart {β : Type} (w0 : World) (A : Nat → Prop) {n : Nat} (hA : ∀ k, A k → k < n) : Apart (fun Z (_ : β) X => KeptA w0 A n Z X) := fun Z Z' _ X Y h hm hz =>
  ⟨h.m.trans (hm.mono (fun k hk ha => by have := h.z k hk; have := hA k ha; omega)), fun k hk => (hz k hk).elim (h.z k) (fun y => Nat.le_trans h.s y.1), Nat.le_trans h.s hm.size⟩
def encKE (x : ByteArray × En) : Array Value := #[.string x.1, enV x.2]
set_option maxRecDepth 40000 in
set_option maxHeartbeats 4000000 in
theorem SeqLive {w : World} {p : Option Addr} {X : IX} {S : Nat → Prop} (h : IXP w p X S) (bb : Nat) (hbb : w.cell? ⟨bb, 0, none⟩ = some (.pointer p)) :
    SeqZ Fence.wide 2 Try.prog 83 #[.pointer (some ⟨bb, 0, none⟩)] encKE (fun q => q = bb ∨ S q) (fun xs => xs = liveL X) (fun pre => pre <+: liveL X) w := by
  intro l J Jx W hW hJ hJx hY h0
  have hbW : W.cell? ⟨bb, 0, none⟩ = some (.pointer p) := hW.keep hbb (fun h => h (.inl rfl))
  have lbb : bb < W.heap.size := World.block_lt_of_cell? W ⟨bb, 0, none⟩ hbW
  have HI : Hid (IXP W p X S) := Lib.hid (h.mdh hW (fun q hq hn => hn (.inr hq)))
  have HBB := Lib.hid hbW
  have HLB := Lib.hid lbb
  have HY := Lib.hid hY
  have H0 := Lib.hid h0
  have HJ := Lib.hid hJ
  have HJx := Lib.hid hJx
  have HLV : Hid (liveL X = lvF X X.ks) := Lib.hid rfl
  clear hY h0 hW h hbb hJ hJx
  refine callsIn_wide.2 (calls_of_wp_marks Try.func83 rfl ?_)
  simp only [Try.ntmps83, List.size_toArray, List.length_cons, List.length_nil, Nat.reduceAdd, Nat.reduceSub, Array.replicate_succ, Array.replicate_zero, List.push_toArray, List.append_toArray, List.nil_append, List.cons_append]
  go_wp2_with fail
  obtain ⟨b0, hb0⟩ : ∃ q, q = W.heap.size := ⟨_, rfl⟩
  refine (Keys_any p _).mono ?_
  rintro e w2 ⟨b2, rfl, c2, hlt, hg⟩
  have HG2 := Lib.hid (((Gr.refl W).alloc (.cells #[.func (.yield l) #[] #[]] 145)).trans hg)
  have HBY : Hid (w2.heap[b0]? = some (.cells #[.func (.yield l) #[] #[]] 145)) := Lib.hid (by rw [hb0]; exact hg.blk (blkNew W _))
  have HSQ := Lib.hid (SeqKeysP (HI.out.gr HG2.out) b2 c2)
  have HL2 : Hid (b0 < b2 ∧ b2 < w2.heap.size ∧ b0 = W.heap.size) := Lib.hid (by
    have l2 := World.block_lt_of_cell? w2 ⟨b2, 0, none⟩ c2
    rw [World.size_alloc] at hlt
    exact ⟨by omega, l2, hb0⟩)
  have HFF : Hid (∀ k, (k = b2 ∨ S k) → k < w2.heap.size) := Lib.hid (fun k hk => hk.elim (fun e => by rw [e]; exact HL2.out.2.1) (fun e => by have := HI.out.lt k e; have := HL2.out; omega))
  have HAA : Hid (∀ k, (k = bb ∨ S k) → k < w2.heap.size) := Lib.hid (fun k hk => hk.elim (fun e => by rw [e]; have := HLB.out; have := HL2.out; omega) (fun e => by have := HI.out.lt k e; have := HL2.out; omega))
  rw [← hb0]
  clear hg hlt c2 hb0 hbW lbb
  go_wp2_with fail
  apply wp_rangeFunc_zb (gf := 124) (lb := #[.pointer (some ⟨b2, 0, none⟩)]) rfl (enters_of Try.func124 (by kernel_rfl) rfl) HSQ.out (Mdh.refl _ w2) HFF.out (fun _ => rfl)
    (fun Z pre X' => plusS (fun q => q = b0 ∨ q = b2) J Z (lvF X pre) X' ∧ (X'.heap[b0]? = some (.cells #[.func (.yield l) #[] #[]] 145) ∧ ¬ Z b0) ∧ KeptA W (fun k => k = bb ∨ S k) w2.heap.size Z X')
    (fun _ _ _ => False)
    (fun Z pre X' => plusS (fun q => q = b0 ∨ q = b2) Jx Z (lvF X pre) X')
    (((plusS_apart _ HJ.out).map _).and ((Apart.block b0 (fun _ => _)).and (KeptA.apart _ _ HAA.out))) apart_no ((plusS_apart _ HJx.out).map _)
    ⟨HJ.out _ _ _ _ _ H0.out (HG2.out.mdh _) (fun k hk => hk.elim .inl (fun e => .inr (by have := HL2.out; omega))), ⟨HBY.out, fun h => h⟩, HG2.out.mdh _, fun k hk => hk.elim, Nat.le_refl _⟩
    _ ?assign ?body ?hend ?hret
  case assign =>
    intro l' x X' K hK
    dsimp only [encK]
    gi_wp2
    exact hK
  case body =>
    intro l' Z pre x X' hI hsp
    obtain ⟨hj, ⟨hby, hzy⟩, hk⟩ := hI
    have HK := Lib.hid hk
    have HBY' := Lib.hid hby
    have HJI := Lib.hid hj
    have HZY := Lib.hid hzy
    have HIX : Hid (IXP X' p X S) := Lib.hid (HI.out.mdh hk.m (fun q hq hn => hn (.inr hq)))
    have hbX : X'.cell? ⟨bb, 0, none⟩ = some (.pointer p) := hk.m.keep HBB.out (fun h => h (.inl rfl))
    have HSP := Lib.hid hsp
    clear hj hby hzy hk hsp
    gi_wp2_with fail
    refine ⟨trivial, (CallsIn.inRound l' (callsIn_wide.2 (Find_any HIX.out x))).mono ?_⟩
    rintro e w9 ⟨rfl, hg9⟩
    cases hfe : findE X x with
    | none =>
      have HV : Hid (findV X x = .tuple #[enV zE, .bool false, .int .i64 (codeX X)]) := Lib.hid (by unfold findV; rw [hfe]; rfl)
      have HN := Lib.hid (lvF_none (l := pre) hfe)
      have HG9 := Lib.hid (hg9.alloc (.cells #[.int .i64 0, .string ⟨#[]⟩, .bool false, .int .i64 0, .int .i64 0, .int .i64 0] 43))
      rw [HV.out]
      simp only [enV, zE]
      clear hfe hg9 hbX
      gi_wp2_with fail
      refine ⟨fun _ h => (by cases h), ?_⟩
      gi_wp2_with fail
      refine ⟨HG9.out.mdh _, ?_, ⟨HG9.out.blk HBY'.out, HZY.out⟩, HK.out.m.trans (HG9.out.mdh _), HK.out.z, Nat.le_trans HK.out.s HG9.out.sz⟩
      show plusS _ _ _ _ _
      rw [HN.out]
      exact HJ.out _ _ _ _ _ HJI.out (HG9.out.mdh _) (fun k hk => .inl hk)
    | some y =>
      have HV : Hid (findV X x = .tuple #[enV y, .bool true, .int .i64 (codeX X)]) := Lib.hid (by unfold findV; rw [hfe]; rfl)
      have HN := Lib.hid (lvF_some (l := pre) hfe)
      have HG9 := Lib.hid (hg9.alloc (.cells #[.int .i64 y.seq, .string y.key, .bool y.del, .int .i64 y.slot, .int .i64 y.off, .int .i64 y.size] 43))
      have hpf : lvF X pre ++ [(x, y)] <+: liveL X := by rw [← HN.out, HLV.out]; exact lvF_pre HSP.out
      obtain ⟨fn, tmps, assign, body, hy, hR⟩ := yield_any 0 (HY.out _ _ (x, y) _ (HJ.out _ _ _ _ _ HJI.out (HG9.out.mdh _) (fun k hk => .inl hk)) hpf)
      have cy := (cellsOf (hg9.blk HBY'.out)).1
      have ly := blkLt (hg9.blk HBY'.out)
      rw [HV.out]
      simp only [encKE, enV] at hy
      simp only [enV]
      clear hfe hg9 hbX hpf
      gi_wp2_with fail
      refine hR.mono ?_
      rintro e W5 (⟨rfl, hj5, hm5⟩ | ⟨rfl, hjx5, hm5⟩)
      · have HJ5 := Lib.hid hj5
        have HM5 := Lib.hid hm5
        clear hj5 hm5 hR hy
        gi_wp2_with fail
        refine ⟨(HG9.out.mdh _).trans (HM5.out.mono (fun k hk => ⟨fun h => h.elim (fun e => hk.2 (.inr (.inr e))) (fun e => hk.1 (.inr e)), fun h => hk.2 (.inl h)⟩)), ?_, ⟨HM5.out.blk (HG9.out.blk HBY'.out) (fun h => h.2 (.inr (.inl rfl))), HZY.out⟩, (HK.out.m.trans (HG9.out.mdh _)).trans (HM5.out.mono (fun k hk => hk.1)), HK.out.z, Nat.le_trans HK.out.s (Nat.le_trans HG9.out.sz HM5.out.size)⟩
        show plusS _ _ _ _ _
        rw [HN.out]; exact HJ5.out
      · have HJ5 := Lib.hid hjx5
        have HM5 := Lib.hid hm5
        clear hjx5 hm5 hR hy
        gi_wp2_with fail
        refine ⟨(HG9.out.mdh _).trans (HM5.out.mono (fun k hk h => hk (.inl h))), ?_⟩
        show plusS _ _ _ _ _
        rw [HN.out]; exact HJ5.out
  case hend =>
    intro Z D xs W' hD hZD hcase hdef
    obtain ⟨hxs, hj, _⟩ := hcase.elim (fun h => h) (fun h => h.2.elim)
    dsimp only
    go_wp2_with fail
    refine retM1 (D := D) rfl hdef (results_none rfl _ _ _) ⟨⟨_, rfl⟩, .inl ⟨_, _, ?_, HJ.out _ _ _ _ _ hj ((Mdh.refl _ W').putObj (.inl hZD) _) (fun k hk => .inl hk)⟩⟩
    show lvF X xs = liveL X
    rw [show xs = X.ks from hxs, HLV.out]
  case hret =>
    intro Z D pre W' hD hZD hsp hj hdef
    dsimp only
    go_wp2_with fail
    refine retM1 (D := D) rfl hdef (results_none rfl _ _ _) ⟨⟨_, rfl⟩, .inr ⟨_, _, ?_, HJx.out _ _ _ _ _ hj ((Mdh.refl _ W').putObj (.inl hZD) _) (fun k hk => .inl hk)⟩⟩
    show lvF X pre <+: liveL X
    rw [HLV.out]
    exact lvF_pre hsp
set_option maxRecDepth 40000 in
theorem Live_any (p : Option Addr) (w : World) : Calls Try.prog 32 #[.pointer p] w fun e w' =>
    ∃ bb, e = .returned (.func (.func 83) #[] #[.pointer (some ⟨bb, 0, none⟩)]) ∧ w'.cell? ⟨bb, 0, none⟩ = some (.pointer p) ∧ w.heap.size ≤ bb ∧ Gr w w' := by
  go_enter Try.func32, Try.ntmps32
  go_wp2
  go_ret
  exact ⟨_, rfl, by simp [go_sem], Nat.le_refl _, by (repeat (first | (with_reducible exact Gr.refl _) | assumption | (with_reducible apply Gr.from_drew) | (with_reducible apply Gr.alloc) | (with_reducible apply Gr.drew) | (with_reducible refine Gr.trans ?_ (by assumption)) | (with_reducible refine Gr.setCell ?_ (by omega) _)))⟩
end Go.Proofs.Ythefpmmeoajaiaa

/- keydir: sum, Count, Cost. -/
set_option linter.unusedVariables false
set_option linter.unusedSimpArgs false
namespace Go.Proofs.Ythefpmmeoajaiaa
open Go.RowKit Go.Shelf
attribute [local go_sem] OvM cell_ovm obj_ovm
attribute [local go_sem] Oper.semAt_some

structure NumC (g : Nat) (f : En → Int) : Prop where
  enter : ∀ args w, (callFunc g args).run Try.prog w = .ok (.enter g args) w
  run : ∀ x w, Calls Try.prog g #[enV x] w fun e w' => e = .returned (.int .i64 (f x)) ∧ Gr w w'
  b : ∀ x, validE x = true → 0 ≤ f x ∧ f x ≤ 8192
set_option maxRecDepth 40000 in
theorem numCount : NumC 81 (fun _ => 1) := ⟨enters_of Try.func81 (by kernel_rfl) rfl, fun x w => by
  obtain ⟨x1, x2, x3, x4, x5, x6⟩ := x
  simp only [enV]
  go_enter Try.func81, Try.ntmps81
  go_wp2
  go_ret
  exact ⟨rfl, by (repeat (first | (with_reducible exact Gr.refl _) | assumption | (with_reducible apply Gr.from_drew) | (with_reducible apply Gr.alloc) | (with_reducible apply Gr.drew) | (with_reducible refine Gr.trans ?_ (by assumption)) | (with_reducible refine Gr.setCell ?_ (by omega) _)))⟩, fun _ _ => ⟨by omega, by omega⟩⟩
set_option maxRecDepth 40000 in
theorem numCost : NumC 82 (fun e => e.size) := ⟨enters_of Try.func82 (by kernel_rfl) rfl, fun x w => by
  obtain ⟨x1, x2, x3, x4, x5, x6⟩ := x
  simp only [enV]
  go_enter Try.func82, Try.ntmps82
  go_wp2
  go_ret
  exact ⟨rfl, by (repeat (first | (with_reducible exact Gr.refl _) | assumption | (with_reducible apply Gr.from_drew) | (with_reducible apply Gr.alloc) | (with_reducible apply Gr.drew) | (with_reducible refine Gr.trans ?_ (by assumption)) | (with_reducible refine Gr.setCell ?_ (by omega) _)))⟩, fun x hv => by have := (valid_iff x).1 hv; exact ⟨by omega, by omega⟩⟩
def sumF (f : En → Int) (l : List (ByteArray × En)) : Int := l.foldl (fun a x => a + f x.2) 0
theorem sumF_snoc (f : En → Int) (l : List (ByteArray × En)) (x : ByteArray × En) : sumF f (l ++ [x]) = sumF f l + f x.2 := by simp [sumF]
theorem sumF_ok' (f : En → Int) : ∀ (l : List (ByteArray × En)) (a : Int), (∀ x ∈ l, 0 ≤ f x.2 ∧ f x.2 ≤ 8192) → a ≤ l.foldl (fun a x => a + f x.2) a ∧ l.foldl (fun a x => a + f x.2) a ≤ a + 8192 * l.length
  | [], a, _ => by simp
  | x :: l, a, h => by
    have h1 := h x (by simp)
    have h2 := sumF_ok' f l (a + f x.2) (fun y hy => h y (List.mem_cons_of_mem _ hy))
    simp only [List.foldl_cons, List.length_cons, Int.natCast_add]
    omega
theorem sumF_ok (f : En → Int) (l : List (ByteArray × En)) (h : ∀ x ∈ l, 0 ≤ f x.2 ∧ f x.2 ≤ 8192) : 0 ≤ sumF f l ∧ sumF f l ≤ 8192 * l.length := by
  have := sumF_ok' f l 0 h
  unfold sumF
  omega
theorem findE_mem {X : IX} {k : ByteArray} {e : En} (h : findE X k = some e) : e ∈ X.of k := by
  unfold findE at h
  split at h
  · cases h
  · rename_i y t hy
    split at h
    · cases h
    · cases h; rw [hy]; simp
theorem live_valid {X : IX} (h : X.Wf) : ∀ x ∈ liveL X, validE x.2 = true := by
  intro x hx
  unfold liveL lvF at hx
  obtain ⟨k, _, hk⟩ := List.mem_filterMap.1 hx
  cases hf : findE X k with
  | none => rw [hf] at hk; cases hk
  | some e =>
    rw [hf] at hk
    simp only [Option.map_some, Option.some.injEq] at hk
    subst hk
    exact (h.valid ((h.of_mem k e).1 (findE_mem hf)).1).1
theorem live_len {X : IX} (h : X.Wf) : (liveL X).length ≤ 16384 := by
  refine Nat.le_trans (List.length_filterMap_le _ _) ?_
  have := h.keys_le
  unfold IX.ks
  simpa using this
def sumR (X : IX) (f : En → Int) : Value := if X.slots = [] then .tuple #[.int .i64 0, .int .i64 1] else .tuple #[.int .i64 (sumF f (liveL X)), .int .i64 0]
set_option maxRecDepth 40000 in
set_option maxHeartbeats 4000000 in
theorem Sum_any {w : World} {p : Option Addr} {X : IX} {S : Nat → Prop} (h : IXP w p X S) {g : Nat} {f : En → Int} (hp : NumC g f) :
    Calls Try.prog 80 #[.pointer p, .func (.func g) #[] #[]] w fun e w' => e = .returned (sumR X f) ∧ Gr w w' := by
  have H := Lib.hid h
  have HP := Lib.hid hp
  have heg := hp.enter
  have HLV := Lib.hid (live_valid h.ok)
  have HLL := Lib.hid (live_len h.ok)
  clear h hp
  refine calls_of_wp_marks Try.func80 rfl ?_
  simp only [Try.ntmps80, List.size_toArray, List.length_cons, List.length_nil, Nat.reduceAdd, Nat.reduceSub, Array.replicate_succ, Array.replicate_zero, List.push_toArray, List.append_toArray, List.nil_append, List.cons_append]
  go_wp2_with fail
  refine (valid_any (H.out.gr ((Gr.refl w).alloc _))).mono ?_
  rintro e w0 ⟨rfl, rfl⟩
  by_cases h0 : X.slots = []
  · have HS : Hid (sumR X f = .tuple #[.int .i64 0, .int .i64 1]) := Lib.hid (if_pos h0)
    rw [decide_eq_false (fun h => h h0)]
    clear h0
    go_wp2_with fail
    refine retM0 (v := .tuple #[.int .i64 0, .int .i64 1]) ?_ rfl ⟨by rw [HS.out], (Gr.refl w).alloc _⟩
    simp [results, Try.results80, go_sem]
  have HS : Hid (sumR X f = .tuple #[.int .i64 (sumF f (liveL X)), .int .i64 0]) := Lib.hid (if_neg h0)
  rw [decide_eq_true h0]
  clear h0
  go_wp2_with fail
  obtain ⟨b3, hb3⟩ : ∃ q, q = w.heap.size := ⟨_, rfl⟩
  obtain ⟨w0, hw0⟩ : ∃ y, y = (w.alloc (.cells #[.func (.func g) #[] #[]] 144)).alloc (.cells #[.int .i64 0] 3) := ⟨_, rfl⟩
  have HSW : Hid (SW w [blkA (b3 + 1) (.cells #[.int .i64 0] 3), blkA b3 (.cells #[.func (.func g) #[] #[]] 144)] w0) := Lib.hid (by
    have := ((SW.start w).alloc (.cells #[.func (.func g) #[] #[]] 144)).alloc (.cells #[.int .i64 0] 3)
    simp only [World.size_alloc] at this
    rw [hw0, hb3]
    exact this)
  rw [← hw0, ← hb3]
  clear hw0 hb3
  refine (Live_any p _).mono ?_
  rintro e' w1 ⟨bb, rfl, h1, h2, hg⟩
  have HS1 := Lib.hid (HSW.out.gr hg)
  have HI := Lib.hid (H.out.gr HS1.out.g)
  have HSEQ := Lib.hid (SeqLive HI.out bb h1)
  have HA : Hid (∀ q, (q = bb ∨ S q) → q < w1.heap.size) := Lib.hid (fun q hq => by
    have l1 := World.block_lt_of_cell? w1 ⟨bb, 0, none⟩ h1
    rcases hq with rfl | hq
    · exact l1
    · exact HI.out.lt q hq)
  have HZ : Hid (SWz w w1 (fun q => q = bb ∨ S q) [blkA (b3 + 1) (.cells #[.int .i64 0] 3), blkA b3 (.cells #[.func (.func g) #[] #[]] 144)] (fun _ => False) w1) := Lib.hid (SWz.start HS1.out (fun B hB k hk ha => by
    have l1 := HSW.out.s.lt hB k hk
    have l2 := HSW.out.n B hB k hk
    rcases ha with rfl | ha
    · omega
    · have := H.out.lt k ha; omega))
  clear h1 h2 hg
  go_wp2_with fail
  apply wp_rangeFunc_zx (gf := 83) (lb := #[.pointer (some ⟨bb, 0, none⟩)]) rfl (enters_of Try.func83 (by kernel_rfl) rfl) HSEQ.out (Mdh.refl _ w1) HA.out (fun _ => rfl)
    (fun Z pre X' => SWz w w1 (fun q => q = bb ∨ S q) [blkA (b3 + 1) (.cells #[.int .i64 (sumF f pre)] 3), blkA b3 (.cells #[.func (.func g) #[] #[]] 144)] Z X')
    (fun _ _ _ => False) (fun _ _ _ => False)
    (SWz.apart HS1.out.g.sz (fun pre => [blkA (b3 + 1) (.cells #[.int .i64 (sumF f pre)] 3), blkA b3 (.cells #[.func (.func g) #[] #[]] 144)])) apart_no apart_no
    HZ.out (fun Z pre X' h => h.frm HS1.out.g) (fun x => .cells #[.int .i64 x.2.seq, .string x.2.key, .bool x.2.del, .int .i64 x.2.slot, .int .i64 x.2.off, .int .i64 x.2.size] 43)
    _ ?assign ?body ?hend ?hret
  case hret => intro _ _ _ _ _ _ _ h; exact h.elim
  case assign =>
    intro l x bx X' K hbx hK
    dsimp only [encKE, enV]
    gi_wp2
    rw [← hbx]
    exact hK
  case body =>
    intro l Z pre x bx X' hI hbx hx hzx hzl hlr hsp
    have HIZ := Lib.hid hI
    have HX := Lib.hid hx
    have HB3 := Lib.hid (show X'.heap[b3]? = _ from hI.s.get (i := 1) rfl)
    have HB6 := Lib.hid (show X'.heap[b3 + 1]? = _ from hI.s.get (i := 0) rfl)
    have HSN := Lib.hid (sumF_snoc f pre x)
    have hs := sumF_ok f pre (fun y hy => HP.out.b _ (HLV.out y (hsp.subset (List.mem_append_left _ hy))))
    have hf := HP.out.b _ (HLV.out x (hsp.subset (by simp)))
    have hpl : (pre.length : Int) ≤ 16384 := by have := hsp.length_le; have := HLL.out; simp at *; omega
    have HR := Lib.hid (HP.out.run x.2)
    obtain ⟨k, x⟩ := x
    simp only at HX HSN hf HR
    generalize sumF f pre = m at *
    generalize hfx : f x = v at *
    obtain ⟨hs1, hs2⟩ := hs
    obtain ⟨hf1, hf2⟩ := hf
    have hm : m ≤ 8192 * 16384 := by omega
    have dx := (cellsOf HX.out).1
    have d3 := (cellsOf HB3.out).1
    have d6 := (cellsOf HB6.out).1
    clear hI hbx hx hzx hzl hlr hsp hs2 hpl hfx
    gi_wp2_with fail
    refine wpIn_region_flt 5 (fun _ => trivial) rfl (fun _ => False) [] [] (by kernel_rfl) (by kernel_rfl) (by decide) (by kernel_rfl) (fun _ h => h.elim) ?_
    simp only [List.take_succ_cons, List.take_zero, List.drop_succ_cons, List.drop_zero]
    refine flo_seg 3 rfl ?_
    simp only [List.take_succ_cons, List.take_zero, List.drop_succ_cons, List.drop_zero]
    repeat (go_big_quiet_step (fail))
    refine wpQuiet_nil ?_
    refine flo_eff rfl rfl rfl rfl (fun K hK => ?_)
    gi_wp2_with ((refine ⟨trivial, (CallsIn.inRound l (callsIn_wide.2 (HR.out _))).mono ?_⟩; rintro e w9 ⟨rfl, hg9⟩; have HGD := Lib.hid hg9; have HG9 := Lib.hid (((Gr.refl X').drew).trans hg9); clear hg9))
    refine ⟨by first | exact HGD.out.mdh _ | exact HG9.out.mdh _, ?_⟩
    refine flo_seg 1 rfl ?_
    simp only [List.take_succ_cons, List.take_zero, List.drop_succ_cons, List.drop_zero]
    repeat (go_big_quiet_step (fail))
    refine wpQuiet_nil ?_
    refine flo_nil ?_
    obtain ⟨c6, f6⟩ := cellsOf (HG9.out.blk HB6.out)
    have HZ9 := Lib.hid (HIZ.out.gr HG9.out)
    have HB7 := Lib.hid (HZ9.out.1.box (i := 0) rfl HA.out ((Mdh.refl (fun k => k = b3 + 1) w9).setCell (p := ⟨b3 + 1, 0, none⟩) rfl (.int .i64 (m + v))) (blkSet (j := 0) (u := .int .i64 (m + v)) (HG9.out.blk HB6.out)))
    clear dx d3 d6
    gi_wp2_with fail
    refine ⟨HZ9.out.2.trans HB7.out.2, ?_⟩
    dsimp only
    rw [HSN.out]
    exact HB7.out.1
  case hend =>
    intro Z D xs W hD hZD hcase hdef
    obtain ⟨hxs, hI⟩ := hcase.elim (fun h => h) (fun h => h.2.elim)
    have hxs' : xs = liveL X := hxs
    subst hxs'
    have HIW := Lib.hid hI
    have hb6 : W.heap[b3 + 1]? = _ := hI.s.get (i := 0) rfl
    obtain ⟨d6, f6⟩ := cellsOf hb6
    have HD := Lib.hid (And.intro hD (And.intro hZD hdef))
    generalize sumF f (liveL X) = m at *
    clear hI hcase hxs hb6 hD hZD hdef
    dsimp only
    go_wp2_with fail
    refine retM1 (D := D) (v := .tuple #[.int .i64 m, .int .i64 0]) rfl HD.out.2.2 ?_ ⟨by rw [HS.out], HIW.out.s.g.putObj (by have := HS1.out.g.sz; have := HD.out.1; omega) _⟩
    simp [results, Try.results80, go_sem]
set_option maxRecDepth 40000 in
theorem Count_any {w : World} {p : Option Addr} {X : IX} {S : Nat → Prop} (h : IXP w p X S) : Calls Try.prog 28 #[.pointer p] w fun e w' => e = .returned (sumR X (fun _ => 1)) ∧ Gr w w' := by
  have H := Lib.hid h
  obtain ⟨r, hr⟩ : ∃ r, r = sumR X (fun _ => 1) := ⟨_, rfl⟩
  have hrr : ∃ m c : Int, r = .tuple #[.int .i64 m, .int .i64 c] := by rw [hr]; unfold sumR; split <;> exact ⟨_, _, rfl⟩
  obtain ⟨m, c, hmc⟩ := hrr
  have HS : Hid (sumR X (fun _ => 1) = .tuple #[.int .i64 m, .int .i64 c]) := Lib.hid (by rw [← hr, hmc])
  clear h hr hmc
  go_enter Try.func28, Try.ntmps28
  go_wp2_with fail
  refine (Sum_any H.out numCount).mono ?_
  rintro e w1 ⟨rfl, hg⟩
  rw [HS.out]
  have HG := Lib.hid hg
  clear hg
  go_wp2
  go_ret2
  exact ⟨by rw [HS.out] <;> rfl, HG.out⟩
set_option maxRecDepth 40000 in
theorem Cost_any {w : World} {p : Option Addr} {X : IX} {S : Nat → Prop} (h : IXP w p X S) : Calls Try.prog 29 #[.pointer p] w fun e w' => e = .returned (sumR X (fun e => e.size)) ∧ Gr w w' := by
  have H := Lib.hid h
  obtain ⟨r, hr⟩ : ∃ r, r = sumR X (fun e => e.size) := ⟨_, rfl⟩
  have hrr : ∃ m c : Int, r = .tuple #[.int .i64 m, .int .i64 c] := by rw [hr]; unfold sumR; split <;> exact ⟨_, _, rfl⟩
  obtain ⟨m, c, hmc⟩ := hrr
  have HS : Hid (sumR X (fun e => e.size) = .tuple #[.int .i64 m, .int .i64 c]) := Lib.hid (by rw [← hr, hmc])
  clear h hr hmc
  go_enter Try.func29, Try.ntmps29
  go_wp2_with fail
  refine (Sum_any H.out numCost).mono ?_
  rintro e w1 ⟨rfl, hg⟩
  rw [HS.out]
  have HG := Lib.hid hg
  clear hg
  go_wp2
  go_ret2
  exact ⟨by rw [HS.out] <;> rfl, HG.out⟩
end Go.Proofs.Ythefpmmeoajaiaa

/- What the map of an index is, as a sorted list of keys; KeydirDrops in plain Lean. No walk. -/
set_option linter.unusedVariables false
set_option linter.unusedSimpArgs false
namespace Go.Proofs.Ythefpmmeoajaiaa

section
variable {X : IX}
theorem mem_ks (h : X.Wf) (k : ByteArray) : k ∈ X.ks ↔ X.of k ≠ [] := by
  constructor
  · intro hk
    obtain ⟨x, hx, rfl⟩ := List.mem_map.1 hk
    unfold IX.of
    rw [(look_mem ordS h.k0 x.1 x.2).2 hx]
    exact (h.k x hx).ne
  · intro hk
    unfold IX.of at hk
    cases hl : look ltS X.keys k with
    | none => rw [hl] at hk; exact absurd rfl hk
    | some l => exact List.mem_map.2 ⟨(k, l), (look_mem ordS h.k0 k l).1 hl, rfl⟩
theorem ks_srt (h : X.Wf) : X.ks.Pairwise (fun a b => ltS a b = true) := List.pairwise_map.2 h.k0
theorem findE_ne {k : ByteArray} (h : (findE X k).isSome = true) : X.of k ≠ [] := fun h0 => by
  unfold findE at h
  rw [h0] at h
  cases h
/-- The keys of the map: those of the index that are found. -/
def lvK (X : IX) : List ByteArray := X.ks.filter (fun k => (findE X k).isSome)
def szK (X : IX) (k : ByteArray) : Int := ((findE X k).getD zE).size
theorem lvF_fst (l : List ByteArray) : (lvF X l).map (fun x => x.1) = l.filter (fun k => (findE X k).isSome) ∧ (lvF X l).map (fun x => x.2.size) = (l.filter (fun k => (findE X k).isSome)).map (szK X) := by
  induction l with
  | nil => exact ⟨rfl, rfl⟩
  | cons k l ih =>
    unfold lvF at *
    rw [List.filterMap_cons, List.filter_cons]
    cases hf : findE X k with
    | none => simpa using ih
    | some e =>
      simp only [Option.map_some, Option.isSome_some, if_true, List.map_cons]
      refine ⟨by rw [ih.1], ?_⟩
      rw [ih.2]
      congr 1
      unfold szK
      rw [hf]
      rfl
theorem live_keys : (liveL X).map (fun x => x.1) = lvK X := (lvF_fst X.ks).1
theorem sumF_map (f : En → Int) : ∀ l : List (ByteArray × En), sumF f l = (l.map (fun x => f x.2)).sum := by
  have h : ∀ (l : List (ByteArray × En)) (a : Int), l.foldl (fun a x => a + f x.2) a = a + (l.map (fun x => f x.2)).sum := by
    intro l
    induction l with
    | nil => intro a; simp
    | cons x l ih => intro a; rw [List.foldl_cons, ih, List.map_cons, List.sum_cons]; omega
  intro l
  have := h l 0
  unfold sumF
  omega
theorem live_size : sumF (fun e => e.size) (liveL X) = ((lvK X).map (szK X)).sum := by
  rw [sumF_map, show ((liveL X).map (fun x => x.2.size)) = (lvK X).map (szK X) from (lvF_fst X.ks).2]
theorem lvK_mem (h : X.Wf) (k : ByteArray) : k ∈ lvK X ↔ (findE X k).isSome = true := by
  unfold lvK
  rw [List.mem_filter, mem_ks h]
  exact ⟨fun h => h.2, fun h2 => ⟨findE_ne h2, h2⟩⟩
theorem lvK_srt (h : X.Wf) : (lvK X).Pairwise (fun a b => ltS a b = true) := (ks_srt h).sublist List.filter_sublist
theorem keys_eq {l m : List ByteArray} (hl : l.Pairwise (fun a b => ltS a b = true)) (hm : m.Pairwise (fun a b => ltS a b = true)) (h : ∀ x, x ∈ l ↔ x ∈ m) : l = m :=
  pair_eq (R := fun a b => ltS a b = true) (fun a => by rw [ordS.irr]; decide) (fun a b c h1 h2 => ordS.trn h1 h2) hl hm h
end
/-- Each entry of the slot is shadowed, or has a copy elsewhere. -/
def okD (X : IX) (all : List En) (s : Int) (e : En) : Bool := decide (e.seq < ((X.of e.key).headD zE).seq) || all.any (fun o => !decide (o.slot = s) && decide (o.key = e.key) && decide (o.seq = e.seq))
section
variable {X : IX} {all : List En} {en : Int → Int} {n : Int}
theorem drop_find (h : FG X all en n) {s : Int} (hk : ∀ e ∈ all, e.slot = s → okD X all s e = true) (k : ByteArray) : (findE (dropX X s) k).isSome = (findE X k).isSome ∧ szK (dropX X s) k = szK X k := by
  have hof := drop_of h.wf s k
  have hp := h.wf.ofPair k
  have hall := h.of k
  unfold szK
  cases hl : X.of k with
  | nil =>
    rw [hl, List.filter_nil] at hof
    unfold findE
    rw [hof, hl]
    exact ⟨rfl, rfl⟩
  | cons y t =>
    rw [hl] at hof hp hall
    have hy := (hall y).1 (List.mem_cons_self ..)
    rw [List.filter_cons] at hof
    by_cases hs : y.slot = s
    · rw [if_neg (by simp [hs])] at hof
      have h1 := hk y hy.1 hs
      unfold okD at h1
      rw [hy.2, hl, List.headD_cons, decide_eq_false (Int.lt_irrefl _), Bool.false_or] at h1
      obtain ⟨o, ho, h2⟩ := List.any_eq_true.1 h1
      simp only [Bool.and_eq_true, Bool.not_eq_true', decide_eq_false_iff_not, decide_eq_true_eq] at h2
      have h3 : o ∈ t.filter (fun o => decide (o.slot ≠ s)) := by
        refine List.mem_filter.2 ⟨?_, decide_eq_true h2.1.1⟩
        rcases List.mem_cons.1 ((hall o).2 ⟨ho, h2.1.2⟩) with h4 | h4
        · rw [h4] at h2; exact absurd hs h2.1.1
        · exact h4
      cases hf : t.filter (fun o => decide (o.slot ≠ s)) with
      | nil => rw [hf] at h3; cases h3
      | cons z u =>
        rw [hf] at h3 hof
        have hz : z ∈ t := (List.mem_filter.1 (show z ∈ t.filter (fun o => decide (o.slot ≠ s)) by rw [hf]; exact List.mem_cons_self ..)).1
        have hyz : ltE y z = true := (List.pairwise_cons.1 hp).1 z hz
        have hza := (hall z).1 (List.mem_cons_of_mem _ hz)
        have hpt : (z :: u).Pairwise (fun a b => ltE a b = true) := by rw [← hf]; exact (List.pairwise_cons.1 hp).2.sublist List.filter_sublist
        have hq : z.seq = y.seq := by
          unfold ltE at hyz
          have h5 := of_decide_eq_true hyz
          rcases List.mem_cons.1 h3 with h4 | h4
          · rw [← h4]; exact h2.2
          · have h6 := (List.pairwise_cons.1 hpt).1 o h4
            unfold ltE at h6
            have h7 := of_decide_eq_true h6
            omega
        obtain ⟨c1, c2, c3⟩ := h.cp z hza.1 y hy.1 hq
        unfold findE
        rw [hof, hl]
        simp only
        rw [c2]
        cases y.del
        · exact ⟨rfl, c3⟩
        · exact ⟨rfl, rfl⟩
    · rw [if_pos (by simp [hs])] at hof
      unfold findE
      rw [hof, hl]
      exact ⟨rfl, rfl⟩
theorem drop_live (h : FG X all en n) {s : Int} (hk : ∀ e ∈ all, e.slot = s → okD X all s e = true) : lvK (dropX X s) = lvK X ∧ sumF (fun e => e.size) (liveL (dropX X s)) = sumF (fun e => e.size) (liveL X) := by
  have hw := drop_wf h.wf s
  have e1 : lvK (dropX X s) = lvK X := keys_eq (lvK_srt hw) (lvK_srt h.wf) (fun k => by rw [lvK_mem hw, lvK_mem h.wf, (drop_find h hk k).1])
  refine ⟨e1, ?_⟩
  rw [live_size, live_size, e1]
  congr 1
  exact List.map_congr_left (fun k _ => (drop_find h hk k).2)
end
end Go.Proofs.Ythefpmmeoajaiaa
