/- drumlinlaw22.Made in plain Lean. No walk. -/
import Derived.Test.YtanmmnomagfkhaaBd14
import Derived.Test.YtanmmnomagfkhaaBd12
import Derived.Test.YtanmmnomagfkhaaBd6
import Derived.Test.YtanmmnomagfkhaaBd7
set_option linter.unusedVariables false
set_option linter.unusedSimpArgs false
namespace Go.Proofs.Ytanmmnomagfkhaa

structure Tn where
  kind : Int
  slot : Int
  n : Int
  size : Int
structure Tn.Ok (t : Tn) : Prop where
  kind : 0 ≤ t.kind ∧ t.kind ≤ 255
  slot : 0 ≤ t.slot ∧ t.slot ≤ 255
  n : 0 ≤ t.n ∧ t.n ≤ 255
  size : 0 ≤ t.size ∧ t.size ≤ 255
def nmL : List ByteArray := [⟨#[97]⟩, ⟨#[98]⟩, ⟨#[97, 98]⟩, ⟨#[107, 49]⟩, ⟨#[120, 46, 121]⟩, ⟨#[122, 122]⟩]
def tnKey (n : Int) : ByteArray := nmL.getD (n % 6).toNat ⟨#[97]⟩
theorem tnKey_ok (n : Int) : keyChk (tnKey n) = 0 ∧ 1 ≤ (tnKey n).size ∧ (tnKey n).size ≤ 3 ∧ Low (tnKey n) := by
  have hl : ∀ x ∈ nmL, keyChk x = 0 ∧ 1 ≤ x.size ∧ x.size ≤ 3 ∧ Low x := by
    intro x hx
    simp only [nmL, List.mem_cons, List.not_mem_nil, or_false] at hx
    rcases hx with rfl | rfl | rfl | rfl | rfl | rfl
    all_goals
      refine ⟨by kernel_rfl, by decide, by decide, ?_⟩
      unfold Low
      decide
  have hk : (n % 6).toNat < nmL.length := by
    have h1 : 0 ≤ n % 6 ∧ n % 6 < 6 := by omega
    have h2 : nmL.length = 6 := rfl
    omega
  unfold tnKey
  rw [List.getD_eq_getElem?_getD, List.getElem?_eq_getElem hk]
  exact hl _ (List.getElem_mem hk)
structure MS where
  X : IX
  all : List En
  nx : Int
/-- Where the entries of a slot end. -/
def endF (s : Int) (a : Int) (e : En) : Int := if e.slot = s then max a (e.off + e.size) else a
def endL (all : List En) (s : Int) : Int := all.foldl (endF s) 0
theorem endL_snoc (all : List En) (e : En) (s : Int) : endL (all ++ [e]) s = endF s (endL all s) e := by simp [endL]
theorem endL_nn (all : List En) (s : Int) : 0 ≤ endL all s := by
  have h : ∀ (l : List En) (a : Int), a ≤ l.foldl (endF s) a := by
    intro l
    induction l with
    | nil => intro a; exact Int.le_refl _
    | cons e l ih =>
      intro a
      refine Int.le_trans ?_ (ih _)
      unfold endF
      split <;> omega
  exact h all 0
theorem endL_filter (all : List En) {s t : Int} (h : t ≠ s) : endL (all.filter (fun o => !decide (o.slot = s))) t = endL all t := by
  have h : ∀ (l : List En) (a : Int), (l.filter (fun o => !decide (o.slot = s))).foldl (endF t) a = l.foldl (endF t) a := by
    intro l
    induction l with
    | nil => intro a; rfl
    | cons e l ih =>
      intro a
      rw [List.filter_cons]
      by_cases he : e.slot = s
      · rw [if_neg (by simp [he]), ih, List.foldl_cons]
        congr 1
        unfold endF
        rw [if_neg (by omega)]
      · rw [if_pos (by simp [he]), List.foldl_cons, List.foldl_cons, ih]
  exact h all 0
theorem endL_zero (all : List En) (s : Int) : endL (all.filter (fun o => !decide (o.slot = s))) s = 0 := by
  have h : ∀ (l : List En), (l.filter (fun o => !decide (o.slot = s))).foldl (endF s) 0 = 0 := by
    intro l
    induction l with
    | nil => rfl
    | cons e l ih =>
      rw [List.filter_cons]
      by_cases he : e.slot = s
      · rw [if_neg (by simp [he]), ih]
      · rw [if_pos (by simp [he]), List.foldl_cons, show endF s 0 e = 0 from if_neg he, ih]
  exact h all
/-- An entry behind those of its slot. -/
def atM (st : MS) (e : En) : En := { e with off := endL st.all e.slot }
def dupM (st : MS) (e : En) : Bool := st.all.any (fun o => decide (o.slot = e.slot) && decide (o.seq = e.seq))
def addM (st : MS) (e : En) : MS := if dupM st e = true then st else ⟨addX st.X (atM st e), st.all ++ [atM st e], st.nx⟩
def newM (N : Int) (st : MS) (t : Tn) : En := ⟨st.nx, tnKey t.n, decide (t.kind % 8 = 4), t.slot % N, 0, 16 + ((tnKey t.n).size : Int) + if t.kind % 8 = 4 then 0 else t.size % 60⟩
def cpM (N : Int) (st : MS) (t : Tn) : En := { (st.all.getD (t.n % st.all.length).toNat zE) with slot := t.slot % N }
def nextM (st : MS) : MS := { st with nx := st.nx + 1 }
def dropM (st : MS) (s : Int) : MS := ⟨dropX st.X s, st.all.filter (fun o => !decide (o.slot = s)), st.nx⟩
def stepM (N : Int) (st : MS) (t : Tn) : MS :=
  if t.kind % 8 < 5 then addM (nextM st) (newM N st t)
  else if t.kind % 8 < 7 then (if st.all = [] then st else addM st (cpM N st t))
  else dropM st (t.slot % N)
def foldM (n : Nat) (L : List Tn) : MS := L.foldl (stepM n) ⟨ixNew n, [], 1⟩
theorem foldM_snoc (n : Nat) (L : List Tn) (t : Tn) : foldM n (L ++ [t]) = stepM n (foldM n L) t := by simp [foldM]
structure MS.Ok (st : MS) (N : Int) (j : Nat) : Prop where
  g : FG st.X st.all (endL st.all) N
  n : st.all.length ≤ j
  q0 : 1 ≤ st.nx
  q1 : st.nx ≤ j + 1
  u : ∀ s, endL st.all s ≤ 78 * j
  e : ∀ e ∈ st.all, 1 ≤ e.seq ∧ e.seq < st.nx ∧ Low e.key ∧ 1 ≤ e.key.size ∧ e.key.size ≤ 3 ∧ e.size ≤ 78
theorem MS.later {st : MS} {N : Int} {j j' : Nat} (h : st.Ok N j) (hj : j ≤ j') : st.Ok N j' := ⟨h.g, Nat.le_trans h.n hj, h.q0, by have := h.q1; omega, fun s => by have := h.u s; omega, h.e⟩
structure AddM (st : MS) (N : Int) (e : En) : Prop where
  slot : 0 ≤ e.slot ∧ e.slot < N
  sq : e.seq < st.nx ∧ 1 ≤ e.seq
  k : keyChk e.key = 0 ∧ 1 ≤ e.key.size ∧ e.key.size ≤ 3 ∧ Low e.key
  z : 16 + (e.key.size : Int) ≤ e.size ∧ e.size ≤ 78 ∧ (e.size = 16 + (e.key.size : Int) ∨ e.del = false)
  o : (∀ o ∈ st.all, o.seq ≠ e.seq) ∨ ∃ x ∈ st.all, x.seq = e.seq ∧ x.key = e.key ∧ x.del = e.del ∧ x.size = e.size
theorem dupM_iff {st : MS} {e : En} : dupM st e = true ↔ ∃ o ∈ st.all, o.slot = (atM st e).slot ∧ o.seq = (atM st e).seq := by
  unfold dupM
  rw [List.any_eq_true]
  simp only [Bool.and_eq_true, decide_eq_true_eq]
  exact Iff.rfl
theorem endM_upd {st : MS} {e : En} (hz : 0 ≤ e.size) : upd (endL st.all) e.slot (endL st.all e.slot + e.size) = endL (st.all ++ [atM st e]) := by
  funext s
  rw [endL_snoc]
  unfold upd endF
  by_cases h : s = e.slot
  · subst h
    rw [if_pos rfl, if_pos (show (atM st e).slot = e.slot from rfl)]
    show _ = max (endL st.all e.slot) (endL st.all e.slot + e.size)
    omega
  · rw [if_neg h, if_neg (show ¬ (atM st e).slot = s from fun hh => h hh.symm)]
theorem addM_ok {st : MS} {N : Int} {j : Nat} {e : En} (h : st.Ok N j) (hj : j ≤ 101) (a : AddM st N e) :
    (dupM st e = true → addE st.X (atM st e) = 6) ∧ (dupM st e = false → addE st.X (atM st e) = 0) ∧ (addM st e).Ok N (j + 1) ∧ Low (atM st e).key ∧ En64 (atM st e) ∧ validE (atM st e) = true ∧ 0 ≤ endL st.all e.slot ∧ endL st.all e.slot ≤ 7878 := by
  have hu := h.u e.slot
  have hu0 := endL_nn st.all e.slot
  have q1 := h.q1
  obtain ⟨z1, z2, z3⟩ := a.z
  obtain ⟨k1, k2, k3, k4⟩ := a.k
  have hv : validE (atM st e) = true := (valid_iff _).2 ⟨k1, a.sq.2, show e.seq ≤ 1099511627776 by have := a.sq.1; omega, hu0, z1, z3, show e.size ≤ (8192 : Int) by omega, show endL st.all e.slot ≤ 8192 - e.size by omega⟩
  have hpush : FG (addX st.X (atM st e)) (st.all ++ [atM st e]) (upd (endL st.all) e.slot (endL st.all e.slot + e.size)) N → (⟨addX st.X (atM st e), st.all ++ [atM st e], st.nx⟩ : MS).Ok N (j + 1) := fun g => by
    rw [endM_upd (by omega)] at g
    refine ⟨g, ?_, h.q0, by show st.nx ≤ ((j + 1 : Nat) : Int) + 1; omega, fun s => ?_, fun o ho => ?_⟩
    · show (st.all ++ [_]).length ≤ j + 1
      have := h.n
      rw [List.length_append]; simp; omega
    · have hs := h.u s
      show endL (st.all ++ [atM st e]) s ≤ 78 * ((j + 1 : Nat) : Int)
      rw [endL_snoc]
      unfold endF
      split
      · show max _ (endL st.all e.slot + e.size) ≤ _
        omega
      · omega
    · rcases List.mem_append.1 ho with ho | ho
      · exact h.e o ho
      · rw [List.mem_singleton.1 ho]
        exact ⟨a.sq.2, a.sq.1, k4, k2, k3, z2⟩
  refine ⟨fun hd => ?_, fun hd => ?_, ?_, k4, ⟨by show e.size ≤ 9223372036854775807; omega, by show -9223372036854775808 ≤ e.size; omega, by show e.key.size ≤ 140737488351232; omega⟩, hv, hu0, by omega⟩
  · have hd := dupM_iff.1 hd
    rcases a.o with ho | ⟨x, hx, e1, e2, e3, e4⟩
    · obtain ⟨o, hm, _, hq⟩ := hd
      exact absurd hq (ho o hm)
    · exact h.g.copyNo hx (En.ext' (show e.seq = x.seq from e1.symm) (show e.key = x.key from e2.symm) (show e.del = x.del from e3.symm) rfl rfl (show e.size = x.size from e4.symm)) a.slot.1 a.slot.2 hv hd
  · have hd' : ¬ ∃ o ∈ st.all, o.slot = (atM st e).slot ∧ o.seq = (atM st e).seq := fun hh => by rw [dupM_iff.2 hh] at hd; cases hd
    rcases a.o with ho | ⟨x, hx, e1, e2, e3, e4⟩
    · exact (h.g.new (e := atM st e) ho a.slot.1 a.slot.2 hv (Int.le_refl _)).1
    · exact (h.g.copyYes (e := atM st e) hx (En.ext' (show e.seq = x.seq from e1.symm) (show e.key = x.key from e2.symm) (show e.del = x.del from e3.symm) rfl rfl (show e.size = x.size from e4.symm)) a.slot.1 a.slot.2 hv (Int.le_refl _) hd').1
  · unfold addM
    split
    · exact MS.later h (by omega)
    · rename_i hd
      have hd' : ¬ ∃ o ∈ st.all, o.slot = (atM st e).slot ∧ o.seq = (atM st e).seq := fun hh => hd (dupM_iff.2 hh)
      rcases a.o with ho | ⟨x, hx, e1, e2, e3, e4⟩
      · exact hpush (h.g.new (e := atM st e) ho a.slot.1 a.slot.2 hv (Int.le_refl _)).2
      · exact hpush (h.g.copyYes (e := atM st e) hx (En.ext' (show e.seq = x.seq from e1.symm) (show e.key = x.key from e2.symm) (show e.del = x.del from e3.symm) rfl rfl (show e.size = x.size from e4.symm)) a.slot.1 a.slot.2 hv (Int.le_refl _) hd').2
theorem newM_ok {st : MS} {N : Int} {j : Nat} (h : st.Ok N j) (hN : 1 ≤ N) {t : Tn} (ht : t.Ok) : AddM (nextM st) N (newM N st t) ∧ (∀ o ∈ st.all, o.seq ≠ st.nx) := by
  obtain ⟨k1, k2, k3, k4⟩ := tnKey_ok t.n
  have hq := h.q0
  have hn : ∀ o ∈ st.all, o.seq ≠ st.nx := fun o ho => by have := (h.e o ho).2.1; omega
  refine ⟨⟨⟨Int.emod_nonneg _ (by omega), Int.emod_lt_of_pos _ (by omega)⟩, ⟨by show st.nx < st.nx + 1; omega, hq⟩, ⟨k1, k2, k3, k4⟩, ?_, .inl hn⟩, hn⟩
  show 16 + ((tnKey t.n).size : Int) ≤ 16 + ((tnKey t.n).size : Int) + (if t.kind % 8 = 4 then 0 else t.size % 60) ∧ 16 + ((tnKey t.n).size : Int) + (if t.kind % 8 = 4 then 0 else t.size % 60) ≤ 78 ∧ (16 + ((tnKey t.n).size : Int) + (if t.kind % 8 = 4 then 0 else t.size % 60) = 16 + ((tnKey t.n).size : Int) ∨ decide (t.kind % 8 = 4) = false)
  by_cases hd : t.kind % 8 = 4
  · rw [if_pos hd]
    exact ⟨by omega, by omega, .inl (by omega)⟩
  · rw [if_neg hd]
    exact ⟨by omega, by omega, .inr (decide_eq_false hd)⟩
theorem cpM_mem {st : MS} (hne : st.all ≠ []) (n : Int) (hn : 0 ≤ n) : st.all.getD (n % st.all.length).toNat zE ∈ st.all := by
  have hl : 0 < st.all.length := List.length_pos_iff.2 hne
  have h1 := Int.emod_lt_of_pos n (show (0 : Int) < st.all.length by omega)
  have h2 := Int.emod_nonneg n (show (st.all.length : Int) ≠ 0 by omega)
  have h3 : (n % st.all.length).toNat < st.all.length := by omega
  rw [List.getD_eq_getElem?_getD, List.getElem?_eq_getElem h3]
  exact List.getElem_mem h3
theorem cpM_ok {st : MS} {N : Int} {j : Nat} (h : st.Ok N j) (hN : 1 ≤ N) (hne : st.all ≠ []) {t : Tn} (ht : t.Ok) : AddM st N (cpM N st t) := by
  have hx := cpM_mem hne t.n ht.n.1
  unfold cpM
  generalize st.all.getD (t.n % st.all.length).toNat zE = x at *
  obtain ⟨h1, h2, h3, h4, h5, h6⟩ := h.e x hx
  have hv := h.g.val hx
  exact ⟨⟨Int.emod_nonneg _ (by omega), Int.emod_lt_of_pos _ (by omega)⟩, ⟨h2, h1⟩, ⟨hv.1, h4, h5, h3⟩, ⟨hv.2.2.2.2.1, h6, hv.2.2.2.2.2.1⟩, .inr ⟨x, hx, rfl, rfl, rfl, rfl⟩⟩
theorem dropM_ok {st : MS} {N : Int} {j : Nat} (h : st.Ok N j) {s : Int} (h0 : 0 ≤ s) (h1 : s < N) : (dropM st s).Ok N j ∧ dropC st.X s = 0 ∧ (st.X.slot s).length + (st.all.filter (fun o => !decide (o.slot = s))).length = st.all.length := by
  obtain ⟨d1, d2, d3⟩ := h.g.drop h0 h1 (en' := endL (st.all.filter (fun o => !decide (o.slot = s)))) (fun t ht => by rw [endL_filter _ ht]; exact Int.le_refl _)
  refine ⟨⟨d3, Nat.le_trans (List.length_filter_le _ _) h.n, h.q0, h.q1, fun t => ?_, fun e he => h.e e (List.mem_filter.1 he).1⟩, d1, d2⟩
  show endL (st.all.filter (fun o => !decide (o.slot = s))) t ≤ _
  by_cases ht : t = s
  · subst ht; rw [endL_zero]; omega
  · rw [endL_filter _ ht]; exact h.u t
theorem nextM_ok {st : MS} {N : Int} {j : Nat} (h : st.Ok N j) : st.nx + 1 ≤ (j + 1 : Nat) + 1 := by have := h.q1; omega
/-- One turn more. -/
theorem stepM_ok {st : MS} {N : Int} {j : Nat} (h : st.Ok N j) (hj : j < 100) (hN : 1 ≤ N) {t : Tn} (ht : t.Ok) : (stepM N st t).Ok N (j + 1) := by
  unfold stepM
  split
  · have hn : (nextM st).Ok N (j + 1) := ⟨h.g, Nat.le_succ_of_le h.n, by have := h.q0; show 1 ≤ st.nx + 1; omega, by have := h.q1; show st.nx + 1 ≤ ((j + 1 : Nat) : Int) + 1; omega, fun s => by have := h.u s; show endL st.all s ≤ _; omega, fun e he => by
      obtain ⟨h1, h2, h3⟩ := h.e e he
      exact ⟨h1, by show e.seq < st.nx + 1; omega, h3⟩⟩
    obtain ⟨a, hq⟩ := newM_ok h hN ht
    -- the sizes are those of the state before
    have hn0 : addM (nextM st) (newM N st t) = ⟨addX st.X (atM st (newM N st t)), st.all ++ [atM st (newM N st t)], st.nx + 1⟩ := by
      unfold addM
      rw [if_neg (fun hd => by
        obtain ⟨o, ho, _, h2⟩ := dupM_iff.1 hd
        exact hq o ho h2)]
      rfl
    obtain ⟨_, _, b3, _⟩ := addM_ok (st := ⟨st.X, st.all, st.nx + 1⟩) (j := j + 1) hn (by omega) a
    rw [hn0]
    refine ⟨(show (addM (nextM st) (newM N st t)).Ok N (j + 1 + 1) from b3).g |> (fun g => by rw [hn0] at g; exact g), ?_, ?_, ?_, fun s => ?_, ?_⟩
    · show (st.all ++ [_]).length ≤ j + 1
      have := h.n
      rw [List.length_append]; simp; omega
    · have := h.q0; show 1 ≤ st.nx + 1; omega
    · have := h.q1; show st.nx + 1 ≤ ((j + 1 : Nat) : Int) + 1; omega
    · show endL (st.all ++ [atM st (newM N st t)]) s ≤ 78 * ((j + 1 : Nat) : Int)
      rw [endL_snoc]
      have hs := h.u s
      have hz := a.z
      unfold endF
      split
      · rename_i he
        have hs2 : (newM N st t).slot = s := he
        show max _ (endL st.all (newM N st t).slot + (newM N st t).size) ≤ _
        rw [hs2]
        omega
      · omega
    · have := (show (addM (nextM st) (newM N st t)).Ok N (j + 1 + 1) from b3).e
      rw [hn0] at this
      exact this
  · split
    · split
      · exact MS.later h (by omega)
      · rename_i hne
        exact (addM_ok h (by omega) (cpM_ok h hN hne ht)).2.2.1
    · exact MS.later (dropM_ok h (Int.emod_nonneg _ (by omega)) (Int.emod_lt_of_pos _ (by omega))).1 (by omega)
theorem foldM_ok (n : Nat) (h1 : 1 ≤ n) (h2 : n ≤ 32) : ∀ (j : Nat) (L : List Tn), L.length = j → j ≤ 100 → (∀ t ∈ L, t.Ok) → (foldM n L).Ok n j
  | 0, L, hL, _, _ => by
    rw [List.eq_nil_of_length_eq_zero hL]
    exact ⟨FG.start n h1 h2 _, by show 0 ≤ 0; omega, by show (1 : Int) ≤ 1; omega, by show (1 : Int) ≤ 0 + 1; omega, fun s => by show (0 : Int) ≤ 78 * 0; omega, (fun _ h => by cases h)⟩
  | j + 1, L, hL, hj, ht => by
    have hne : L ≠ [] := fun h => by rw [h] at hL; cases hL
    have e := List.dropLast_concat_getLast hne
    have h3 := foldM_ok n h1 h2 j L.dropLast (by rw [List.length_dropLast]; omega) (by omega) (fun m h => ht m (List.dropLast_subset L h))
    rw [← e, foldM_snoc]
    exact stepM_ok h3 (by omega) (by omega) (ht _ (List.getLast_mem hne))
end Go.Proofs.Ytanmmnomagfkhaa

/- keydir: valid, Find, the iterator of Live. -/
set_option linter.unusedVariables false
set_option linter.unusedSimpArgs false
namespace Go.Proofs.Ytanmmnomagfkhaa
open Go.RowKit Go.Shelf
attribute [local go_sem] OvM cell_ovm obj_ovm
attribute [local go_sem] Oper.semAt_some

def findE (X : IX) (k : ByteArray) : Option En := match X.of k with | [] => none | e :: _ => if e.del = true then none else some e
def codeX (X : IX) : Int := if X.slots = [] then 1 else 0
def findV (X : IX) (k : ByteArray) : Value := .tuple #[enV ((findE X k).getD zE), .bool (findE X k).isSome, .int .i64 (codeX X)]
def lvF (X : IX) (l : List ByteArray) : List (ByteArray × En) := l.filterMap fun k => (findE X k).map fun e => (k, e)
def liveL (X : IX) : List (ByteArray × En) := lvF X X.ks
theorem lvF_none {X : IX} {l : List ByteArray} {k : ByteArray} (h : findE X k = none) : lvF X (l ++ [k]) = lvF X l := by simp [lvF, h]
theorem lvF_some {X : IX} {l : List ByteArray} {k : ByteArray} {e : En} (h : findE X k = some e) : lvF X (l ++ [k]) = lvF X l ++ [(k, e)] := by simp [lvF, h]
theorem lvF_pre {X : IX} {l m : List ByteArray} (h : l <+: m) : lvF X l <+: lvF X m := by
  obtain ⟨t, rfl⟩ := h
  exact ⟨lvF X t, by simp [lvF]⟩
theorem of_noslots {X : IX} (h : X.Wf) (h0 : X.slots = []) (k : ByteArray) : X.of k = [] := by unfold IX.of; rw [h.z h0]; rfl
/-- Blocks that stay as they were, beside an iterator's own, which are new. -/
structure KeptA (w0 : World) (A : Nat → Prop) (n : Nat) (Z : Nat → Prop) (X : World) : Prop where
  m : Mdh (fun k => ¬ A k) w0 X
  z : ∀ k, Z k → n ≤ k
  s : n ≤ X.heap.size
theorem KeptA.apart {β : Type} (w0 : World) (A : Nat → Prop) {n : Nat} (hA : ∀ k, A k → k < n) : Apart (fun Z (_ : β) X => KeptA w0 A n Z X) := fun Z Z' _ X Y h hm hz =>
  ⟨h.m.trans (hm.mono (fun k hk ha => by have := h.z k hk; have := hA k ha; omega)), fun k hk => (hz k hk).elim (h.z k) (fun y => Nat.le_trans h.s y.1), Nat.le_trans h.s hm.size⟩
def encKE (x : ByteArray × En) : Array Value := #[.string x.1, enV x.2]
end Go.Proofs.Ytanmmnomagfkhaa

/- keydir: sum, Count, Cost. -/
set_option linter.unusedVariables false
set_option linter.unusedSimpArgs false
namespace Go.Proofs.Ytanmmnomagfkhaa
open Go.RowKit Go.Shelf
attribute [local go_sem] OvM cell_ovm obj_ovm
attribute [local go_sem] Oper.semAt_some

structure NumC (g : Nat) (f : En → Int) : Prop where
  enter : ∀ args w, (callFunc g args).run Try.prog w = .ok (.enter g args) w
  run : ∀ x w, Calls Try.prog g #[enV x] w fun e w' => e = .returned (.int .i64 (f x)) ∧ Gr w w'
  b : ∀ x, validE x = true → 0 ≤ f x ∧ f x ≤ 8192
def sumF (f : En → Int) (l : List (ByteArray × En)) : Int := l.foldl (fun a x => a + f x.2) 0
theorem sumF_snoc (f : En → Int) (l : List (ByteArray × En)) (x : ByteArray × En) : sumF f (l ++ [x]) = sumF f l + f x.2 := by simp [sumF]
theorem sumF_ok' (f : En → Int) : ∀ (l : List (ByteArray × En)) (a : Int), (∀ x ∈ l, 0 ≤ f x.2 ∧ f x.2 ≤ 8192) → a ≤ l.foldl (fun a x => a + f x.2) a ∧ l.foldl (fun a x => a + f x.2) a ≤ a + 8192 * l.length
  | [], a, _ => by simp
  | x :: l, a, h => by
    have h1 := h x (by simp)
    have h2 := sumF_ok' f l (a + f x.2) (fun y hy => h y (List.mem_cons_of_mem _ hy))
    simp only [List.foldl_cons, List.length_cons, Int.natCast_add]
    omega
theorem sumF_ok (f : En → Int) (l : List (ByteArray × En)) (h : ∀ x ∈ l, 0 ≤ f x.2 ∧ f x.2 ≤ 8192) : 0 ≤ sumF f l ∧ sumF f l ≤ 8192 * l.length := by
  have := sumF_ok' f l 0 h
  unfold sumF
  omega
theorem findE_mem {X : IX} {k : ByteArray} {e : En} (h : findE X k = some e) : e ∈ X.of k := by
  unfold findE at h
  split at h
  · cases h
  · rename_i y t hy
    split at h
    · cases h
    · cases h; rw [hy]; simp
theorem live_valid {X : IX} (h : X.Wf) : ∀ x ∈ liveL X, validE x.2 = true := by
  intro x hx
  unfold liveL lvF at hx
  obtain ⟨k, _, hk⟩ := List.mem_filterMap.1 hx
  cases hf : findE X k with
  | none => rw [hf] at hk; cases hk
  | some e =>
    rw [hf] at hk
    simp only [Option.map_some, Option.some.injEq] at hk
    subst hk
    exact (h.valid ((h.of_mem k e).1 (findE_mem hf)).1).1
theorem live_len {X : IX} (h : X.Wf) : (liveL X).length ≤ 16384 := by
  refine Nat.le_trans (List.length_filterMap_le _ _) ?_
  have := h.keys_le
  unfold IX.ks
  simpa using this
def sumR (X : IX) (f : En → Int) : Value := if X.slots = [] then .tuple #[.int .i64 0, .int .i64 1] else .tuple #[.int .i64 (sumF f (liveL X)), .int .i64 0]
end Go.Proofs.Ytanmmnomagfkhaa

/- What the map of an index is, as a sorted list of keys; KeydirDrops in plain Lean. No walk. -/
set_option linter.unusedVariables false
set_option linter.unusedSimpArgs false
namespace Go.Proofs.Ytanmmnomagfkhaa

section
variable {X : IX}
theorem mem_ks (h : X.Wf) (k : ByteArray) : k ∈ X.ks ↔ X.of k ≠ [] := by
  constructor
  · intro hk
    obtain ⟨x, hx, rfl⟩ := List.mem_map.1 hk
    unfold IX.of
    rw [(look_mem ordS h.k0 x.1 x.2).2 hx]
    exact (h.k x hx).ne
  · intro hk
    unfold IX.of at hk
    cases hl : look ltS X.keys k with
    | none => rw [hl] at hk; exact absurd rfl hk
    | some l => exact List.mem_map.2 ⟨(k, l), (look_mem ordS h.k0 k l).1 hl, rfl⟩
theorem ks_srt (h : X.Wf) : X.ks.Pairwise (fun a b => ltS a b = true) := List.pairwise_map.2 h.k0
theorem findE_ne {k : ByteArray} (h : (findE X k).isSome = true) : X.of k ≠ [] := fun h0 => by
  unfold findE at h
  rw [h0] at h
  cases h
/-- The keys of the map: those of the index that are found. -/
def lvK (X : IX) : List ByteArray := X.ks.filter (fun k => (findE X k).isSome)
def szK (X : IX) (k : ByteArray) : Int := ((findE X k).getD zE).size
theorem lvF_fst (l : List ByteArray) : (lvF X l).map (fun x => x.1) = l.filter (fun k => (findE X k).isSome) ∧ (lvF X l).map (fun x => x.2.size) = (l.filter (fun k => (findE X k).isSome)).map (szK X) := by
  induction l with
  | nil => exact ⟨rfl, rfl⟩
  | cons k l ih =>
    unfold lvF at *
    rw [List.filterMap_cons, List.filter_cons]
    cases hf : findE X k with
    | none => simpa using ih
    | some e =>
      simp only [Option.map_some, Option.isSome_some, if_true, List.map_cons]
      refine ⟨by rw [ih.1], ?_⟩
      rw [ih.2]
      congr 1
      unfold szK
      rw [hf]
      rfl
theorem live_keys : (liveL X).map (fun x => x.1) = lvK X := (lvF_fst X.ks).1
theorem sumF_map (f : En → Int) : ∀ l : List (ByteArray × En), sumF f l = (l.map (fun x => f x.2)).sum := by
  have h : ∀ (l : List (ByteArray × En)) (a : Int), l.foldl (fun a x => a + f x.2) a = a + (l.map (fun x => f x.2)).sum := by
    intro l
    induction l with
    | nil => intro a; simp
    | cons x l ih => intro a; rw [List.foldl_cons, ih, List.map_cons, List.sum_cons]; omega
  intro l
  have := h l 0
  unfold sumF
  omega
theorem live_size : sumF (fun e => e.size) (liveL X) = ((lvK X).map (szK X)).sum := by
  rw [sumF_map, show ((liveL X).map (fun x => x.2.size)) = (lvK X).map (szK X) from (lvF_fst X.ks).2]
theorem lvK_mem (h : X.Wf) (k : ByteArray) : k ∈ lvK X ↔ (findE X k).isSome = true := by
  unfold lvK
  rw [List.mem_filter, mem_ks h]
  exact ⟨fun h => h.2, fun h2 => ⟨findE_ne h2, h2⟩⟩
theorem lvK_srt (h : X.Wf) : (lvK X).Pairwise (fun a b => ltS a b = true) := (ks_srt h).sublist List.filter_sublist
theorem keys_eq {l m : List ByteArray} (hl : l.Pairwise (fun a b => ltS a b = true)) (hm : m.Pairwise (fun a b => ltS a b = true)) (h : ∀ x, x ∈ l ↔ x ∈ m) : l = m :=
  pair_eq (R := fun a b => ltS a b = true) (fun a => by rw [ordS.irr]; decide) (fun a b c h1 h2 => ordS.trn h1 h2) hl hm h
end
/-- Each entry of the slot is shadowed, or has a copy elsewhere. -/
def okD (X : IX) (all : List En) (s : Int) (e : En) : Bool := decide (e.seq < ((X.of e.key).headD zE).seq) || all.any (fun o => !decide (o.slot = s) && decide (o.key = e.key) && decide (o.seq = e.seq))
section
variable {X : IX} {all : List En} {en : Int → Int} {n : Int}
theorem drop_find (h : FG X all en n) {s : Int} (hk : ∀ e ∈ all, e.slot = s → okD X all s e = true) (k : ByteArray) : (findE (dropX X s) k).isSome = (findE X k).isSome ∧ szK (dropX X s) k = szK X k := by
  have hof := drop_of h.wf s k
  have hp := h.wf.ofPair k
  have hall := h.of k
  unfold szK
  cases hl : X.of k with
  | nil =>
    rw [hl, List.filter_nil] at hof
    unfold findE
    rw [hof, hl]
    exact ⟨rfl, rfl⟩
  | cons y t =>
    rw [hl] at hof hp hall
    have hy := (hall y).1 (List.mem_cons_self ..)
    rw [List.filter_cons] at hof
    by_cases hs : y.slot = s
    · rw [if_neg (by simp [hs])] at hof
      have h1 := hk y hy.1 hs
      unfold okD at h1
      rw [hy.2, hl, List.headD_cons, decide_eq_false (Int.lt_irrefl _), Bool.false_or] at h1
      obtain ⟨o, ho, h2⟩ := List.any_eq_true.1 h1
      simp only [Bool.and_eq_true, Bool.not_eq_true', decide_eq_false_iff_not, decide_eq_true_eq] at h2
      have h3 : o ∈ t.filter (fun o => decide (o.slot ≠ s)) := by
        refine List.mem_filter.2 ⟨?_, decide_eq_true h2.1.1⟩
        rcases List.mem_cons.1 ((hall o).2 ⟨ho, h2.1.2⟩) with h4 | h4
        · rw [h4] at h2; exact absurd hs h2.1.1
        · exact h4
      cases hf : t.filter (fun o => decide (o.slot ≠ s)) with
      | nil => rw [hf] at h3; cases h3
      | cons z u =>
        rw [hf] at h3 hof
        have hz : z ∈ t := (List.mem_filter.1 (show z ∈ t.filter (fun o => decide (o.slot ≠ s)) by rw [hf]; exact List.mem_cons_self ..)).1
        have hyz : ltE y z = true := (List.pairwise_cons.1 hp).1 z hz
        have hza := (hall z).1 (List.mem_cons_of_mem _ hz)
        have hpt : (z :: u).Pairwise (fun a b => ltE a b = true) := by rw [← hf]; exact (List.pairwise_cons.1 hp).2.sublist List.filter_sublist
        have hq : z.seq = y.seq := by
          unfold ltE at hyz
          have h5 := of_decide_eq_true hyz
          rcases List.mem_cons.1 h3 with h4 | h4
          · rw [← h4]; exact h2.2
          · have h6 := (List.pairwise_cons.1 hpt).1 o h4
            unfold ltE at h6
            have h7 := of_decide_eq_true h6
            omega
        obtain ⟨c1, c2, c3⟩ := h.cp z hza.1 y hy.1 hq
        unfold findE
        rw [hof, hl]
        simp only
        rw [c2]
        cases y.del
        · exact ⟨rfl, c3⟩
        · exact ⟨rfl, rfl⟩
    · rw [if_pos (by simp [hs])] at hof
      unfold findE
      rw [hof, hl]
      exact ⟨rfl, rfl⟩
theorem drop_live (h : FG X all en n) {s : Int} (hk : ∀ e ∈ all, e.slot = s → okD X all s e = true) : lvK (dropX X s) = lvK X ∧ sumF (fun e => e.size) (liveL (dropX X s)) = sumF (fun e => e.size) (liveL X) := by
  have hw := drop_wf h.wf s
  have e1 : lvK (dropX X s) = lvK X := keys_eq (lvK_srt hw) (lvK_srt h.wf) (fun k => by rw [lvK_mem hw, lvK_mem h.wf, (drop_find h hk k).1])
  refine ⟨e1, ?_⟩
  rw [live_size, live_size, e1]
  congr 1
  exact List.map_congr_left (fun k _ => (drop_find h hk k).2)
end
end Go.Proofs.Ytanmmnomagfkhaa

/- The map of an index by its numbers; LivenessKeeps in plain Lean. No walk. -/
set_option linter.unusedVariables false
set_option linter.unusedSimpArgs false
namespace Go.Proofs.Ytanmmnomagfkhaa

def livF (X : IX) (l : List ByteArray) : List (ByteArray × Int) := l.filterMap (fun k => (findE X k).map (fun e => (k, e.seq)))
def liveM (X : IX) : List (ByteArray × Int) := livF X X.ks
theorem livF_none {X : IX} {l : List ByteArray} {k : ByteArray} (h : findE X k = none) : livF X (l ++ [k]) = livF X l := by simp [livF, h]
theorem livF_some {X : IX} {l : List ByteArray} {k : ByteArray} {e : En} (h : findE X k = some e) : livF X (l ++ [k]) = livF X l ++ [(k, e.seq)] := by simp [livF, h]
theorem livF_srt {X : IX} {l : List ByteArray} (h : l.Pairwise (fun a b => ltS a b = true)) : Srt ltS (livF X l) := by
  refine List.pairwise_filterMap.2 (h.imp (fun {a b} hab x hx y hy => ?_))
  obtain ⟨e, _, rfl⟩ := Option.map_eq_some_iff.1 hx
  obtain ⟨e', _, rfl⟩ := Option.map_eq_some_iff.1 hy
  exact hab
def seqK (X : IX) (k : ByteArray) : Option Int := (findE X k).map (fun e => e.seq)
theorem livF_map (X : IX) (l : List ByteArray) : livF X l = (l.filter (fun k => (findE X k).isSome)).map (fun k => (k, (seqK X k).getD 0)) := by
  induction l with
  | nil => rfl
  | cons k l ih =>
    unfold livF seqK at *
    rw [List.filterMap_cons, List.filter_cons]
    cases hf : findE X k with
    | none => simpa using ih
    | some e =>
      simp only [Option.map_some, Option.isSome_some, if_true, List.map_cons, hf, Option.getD_some]
      rw [ih]
theorem liveM_eq {X Y : IX} (hX : X.Wf) (hY : Y.Wf) (h : ∀ k, seqK Y k = seqK X k) : liveM Y = liveM X := by
  have hs : ∀ k, (findE Y k).isSome = (findE X k).isSome := fun k => by
    have := congrArg Option.isSome (h k)
    unfold seqK at this
    simpa using this
  have e1 : lvK Y = lvK X := keys_eq (lvK_srt hY) (lvK_srt hX) (fun k => by rw [lvK_mem hY, lvK_mem hX, hs k])
  unfold liveM
  rw [livF_map, livF_map, show Y.ks.filter (fun k => (findE Y k).isSome) = lvK Y from rfl, e1]
  exact List.map_congr_left (fun k _ => by rw [h k])
/-- What is newest of a key, and what is left of it where a slot of no needed entries is gone. -/
theorem drop_seqK {X : IX} (h : X.Wf) {s : Int} (hk : ∀ e ∈ X.slot s, X.needs e = false) (k : ByteArray) : seqK (dropX X s) k = seqK X k := by
  have hof := drop_of h s k
  have hp := h.ofPair k
  have hall := h.of_mem k
  unfold seqK
  cases hl : X.of k with
  | nil =>
    rw [hl, List.filter_nil] at hof
    unfold findE
    rw [hof, hl]
  | cons y t =>
    rw [hl] at hof hp hall
    have hy := (hall y).1 (List.mem_cons_self ..)
    rw [List.filter_cons] at hof
    by_cases hs : y.slot = s
    · rw [if_neg (by simp [hs])] at hof
      have h1 := hk y ((h.slot_mem s y).2 ⟨hy.1, hs⟩)
      unfold IX.needs at h1
      rw [hy.2, hl] at h1
      have hd1 : ∀ z ∈ t, z.seq < y.seq ∨ z.seq = y.seq := fun z hz => by
        have := (List.pairwise_cons.1 hp).1 z hz
        unfold ltE at this
        have := of_decide_eq_true this
        omega
      have n1 : ¬ (y :: t).any (nd1 y) = true := by
        rw [List.any_eq_true]
        rintro ⟨z, hz, h2⟩
        have h3 : y.seq < z.seq := of_decide_eq_true h2
        rcases List.mem_cons.1 hz with rfl | hz
        · omega
        · have := hd1 z hz; omega
      rw [if_neg n1] at h1
      by_cases n2 : (y :: t).any (nd2 y) = true
      · obtain ⟨o, ho, h2⟩ := List.any_eq_true.1 n2
        have h2 : o.seq = y.seq ∧ o.slot ≠ y.slot := of_decide_eq_true h2
        have ht : o ∈ t := by
          rcases List.mem_cons.1 ho with rfl | h4
          · exact absurd rfl h2.2
          · exact h4
        have h3 : o ∈ t.filter (fun o => decide (o.slot ≠ s)) := List.mem_filter.2 ⟨ht, decide_eq_true (fun h => h2.2 (h.trans hs.symm))⟩
        cases hf : t.filter (fun o => decide (o.slot ≠ s)) with
        | nil => rw [hf] at h3; cases h3
        | cons z u =>
          rw [hf] at h3 hof
          have hz : z ∈ t := (List.mem_filter.1 (show z ∈ t.filter (fun o => decide (o.slot ≠ s)) by rw [hf]; exact List.mem_cons_self ..)).1
          have hza := (hall z).1 (List.mem_cons_of_mem _ hz)
          have hpt : (z :: u).Pairwise (fun a b => ltE a b = true) := by rw [← hf]; exact (List.pairwise_cons.1 hp).2.sublist List.filter_sublist
          have hq : z.seq = y.seq := by
            have h5 := hd1 z hz
            rcases List.mem_cons.1 h3 with h4 | h4
            · rw [← h4]; exact h2.1
            · have h6 := (List.pairwise_cons.1 hpt).1 o h4
              unfold ltE at h6
              have h7 := of_decide_eq_true h6
              omega
          have hc := h.c z hza.1 y hy.1 (hza.2.trans hy.2.symm) hq
          unfold findE
          rw [hof, hl]
          simp only
          rw [hc.1]
          cases y.del
          · exact congrArg some hq
          · rfl
      · rw [if_neg n2] at h1
        have hdel : y.del = true := by
          cases hd : y.del
          · rw [hd, if_pos rfl] at h1; cases h1
          · rfl
        rw [hdel, if_neg (by decide)] at h1
        have hnil : t.filter (fun o => decide (o.slot ≠ s)) = [] := by
          refine List.filter_eq_nil_iff.2 (fun z hz hzs => ?_)
          have hzs : z.slot ≠ s := of_decide_eq_true hzs
          have hzy : z.slot ≠ y.slot := fun e => hzs (e.trans hs)
          rcases hd1 z hz with h5 | h5
          · have : (y :: t).any (nd3 y) = true := List.any_eq_true.2 ⟨z, List.mem_cons_of_mem _ hz, decide_eq_true ⟨h5, hzy⟩⟩
            rw [this] at h1
            cases h1
          · exact n2 (List.any_eq_true.2 ⟨z, List.mem_cons_of_mem _ hz, decide_eq_true ⟨h5, hzy⟩⟩)
        rw [hnil] at hof
        unfold findE
        rw [hof, hl]
        simp only
        rw [hdel]
        rfl
    · rw [if_pos (by simp [hs])] at hof
      unfold findE
      rw [hof, hl]
theorem drop_liveM {X : IX} (h : X.Wf) {s : Int} (hk : ∀ e ∈ X.slot s, X.needs e = false) : liveM (dropX X s) = liveM X := liveM_eq h (drop_wf h s) (drop_seqK h hk)
theorem drop_len (X : IX) (s : Int) : (dropX X s).slots.length = X.slots.length := by
  unfold dropX
  split
  · simp
  · rfl
/-- An index of six slots, of which the last has no entries. -/
structure KI (X : IX) (m : List (ByteArray × Int)) : Prop where
  wf : X.Wf
  ln : X.slots.length = 6
  e5 : X.slot 5 = []
  lv : liveM X = m
def redS (X : IX) (s : Int) : Bool := decide (keepC X s = 0 ∧ keepL X s = [])
def freeL (X : IX) (n : Nat) : List Int := ((List.range n).map (fun i : Nat => (i : Int))).filter (redS X)
section
variable {X : IX} {m : List (ByteArray × Int)}
theorem KI.ne (h : KI X m) : X.slots ≠ [] := fun h0 => by have := h.ln; rw [h0] at this; cases this
theorem KI.code (h : KI X m) {s : Nat} (hs : s < 6) : keepC X s = 0 := by
  unfold keepC
  rw [if_neg h.ne, if_neg]
  unfold IX.has
  rw [h.ln]
  simp
  omega
theorem KI.dcode (h : KI X m) {s : Nat} (hs : s < 6) : dropC X s = 0 := by
  have := h.ne
  unfold dropC
  simp [IX.has, h.ln, this]
  omega
theorem KI.red5 (h : KI X m) : redS X 5 = true := decide_eq_true ⟨h.code (s := 5) (by omega), by unfold keepL; rw [h.e5]; rfl⟩
theorem KI.drop (h : KI X m) {s : Int} (hs : redS X s = true) : KI (dropX X s) m := by
  have h1 := (of_decide_eq_true hs).2
  refine ⟨drop_wf h.wf s, by rw [drop_len, h.ln], ?_, ?_⟩
  · rw [drop_slot h.wf]; split
    · rfl
    · exact h.e5
  · rw [drop_liveM h.wf, h.lv]
    intro e he
    cases hn : X.needs e with
    | false => rfl
    | true =>
      have : e ∈ keepL X s := List.mem_filter.2 ⟨he, hn⟩
      rw [h1] at this
      cases this
theorem free_succ (X : IX) (n : Nat) : freeL X (n + 1) = freeL X n ++ (if redS X n = true then [(n : Int)] else []) := by
  unfold freeL
  rw [List.range_succ, List.map_append, List.filter_append]
  simp only [List.map_cons, List.map_nil, List.filter_cons, List.filter_nil]
theorem free_le (X : IX) (n : Nat) : (freeL X n).length ≤ n := by
  unfold freeL
  have := List.length_filter_le (redS X) ((List.range n).map (fun i : Nat => (i : Int)))
  simpa using this
theorem free_red {X : IX} {n : Nat} {s : Int} (h : s ∈ freeL X n) : redS X s = true ∧ 0 ≤ s ∧ s < n := by
  have h1 := List.mem_filter.1 h
  obtain ⟨i, hi, rfl⟩ := List.mem_map.1 h1.1
  have := List.mem_range.1 hi
  exact ⟨h1.2, by omega, by omega⟩
theorem KI.last (h : KI X m) : ∃ l, freeL X 6 = l ++ [5] := by
  refine ⟨freeL X 5, ?_⟩
  rw [free_succ, if_pos]
  · rfl
  · exact h.red5
end
theorem build_KI {st : LS} {j : Nat} (h : st.Ok j) (h5 : ∀ e ∈ st.all, e.slot < 5) : KI st.X (liveM st.X) := by
  refine ⟨h.g.wf, by have := h.g.ln; omega, ?_, rfl⟩
  cases hl : st.X.slot 5 with
  | nil => rfl
  | cons e t =>
    have h1 := (h.g.slot 5 e).1 (by rw [hl]; simp)
    have := h5 e h1.1
    omega
end Go.Proofs.Ytanmmnomagfkhaa

/- LivenessNeeds in plain Lean. No walk. -/
set_option linter.unusedVariables false
set_option linter.unusedSimpArgs false
namespace Go.Proofs.Ytanmmnomagfkhaa

section
variable {X : IX}
theorem look_live (h : X.Wf) (k : ByteArray) : look ltS (liveM X) k = seqK X k := by
  refine Option.ext (fun v => ?_)
  rw [show (look ltS (liveM X) k = some v) = ((k, v) ∈ liveM X) from propext (look_mem ordS (livF_srt (ks_srt h)) k v)]
  unfold seqK
  constructor
  · intro hm
    obtain ⟨k', _, h2⟩ := List.mem_filterMap.1 hm
    cases hf : findE X k' with
    | none => rw [hf] at h2; cases h2
    | some e =>
      rw [hf] at h2
      simp only [Option.map_some, Option.some.injEq, Prod.mk.injEq] at h2
      obtain ⟨rfl, rfl⟩ := h2
      rw [hf]
      rfl
  · intro hs
    cases hf : findE X k with
    | none => rw [hf] at hs; cases hs
    | some e =>
      rw [hf] at hs
      simp only [Option.map_some, Option.some.injEq] at hs
      refine List.mem_filterMap.2 ⟨k, (mem_ks h k).2 (findE_ne (by rw [hf]; rfl)), ?_⟩
      rw [hf]
      simp [hs]
theorem needs_parts {e : En} (hn : X.needs e = true) : (∀ o ∈ X.of e.key, o.seq ≤ e.seq) ∧ (∀ o ∈ X.of e.key, o.seq = e.seq → o.slot = e.slot) ∧ (e.del = true → ∃ z ∈ X.of e.key, z.seq < e.seq ∧ z.slot ≠ e.slot) := by
  unfold IX.needs at hn
  by_cases h1 : (X.of e.key).any (nd1 e) = true
  · rw [if_pos h1] at hn; cases hn
  · rw [if_neg h1] at hn
    by_cases h2 : (X.of e.key).any (nd2 e) = true
    · rw [if_pos h2] at hn; cases hn
    · rw [if_neg h2] at hn
      refine ⟨fun o ho => ?_, fun o ho hs => ?_, fun hd => ?_⟩
      · refine Int.not_lt.1 (fun hlt => h1 (List.any_eq_true.2 ⟨o, ho, decide_eq_true hlt⟩))
      · refine Classical.byContradiction (fun hne => h2 (List.any_eq_true.2 ⟨o, ho, decide_eq_true ⟨hs, hne⟩⟩))
      · rw [hd, if_neg (by decide)] at hn
        obtain ⟨z, hz, h3⟩ := List.any_eq_true.1 hn
        exact ⟨z, hz, of_decide_eq_true h3⟩
theorem head_max (h : X.Wf) {k : ByteArray} {y : En} {t : List En} (hl : X.of k = y :: t) : ∀ o ∈ X.of k, o.seq ≤ y.seq := by
  intro o ho
  have hp := h.ofPair k
  rw [hl] at hp ho
  rcases List.mem_cons.1 ho with rfl | ho
  · exact Int.le_refl _
  · have := (List.pairwise_cons.1 hp).1 o ho
    unfold ltE at this
    have := of_decide_eq_true this
    omega
theorem seqK_of (h : X.Wf) {k : ByteArray} {v : Int} (hs : seqK X k = some v) : ∃ o ∈ X.of k, o.seq = v := by
  unfold seqK at hs
  cases hf : findE X k with
  | none => rw [hf] at hs; cases hs
  | some e => rw [hf] at hs; exact ⟨e, findE_mem hf, Option.some.inj hs⟩
/-- What holds of an entry that is kept. -/
structure NeedF (X : IX) (s : Int) (y : En) : Prop where
  ent : y ∈ X.ents
  sl : y.slot = s
  hd : y.del = true → ∃ o t, (dropX X s).of y.key = o :: t ∧ o.seq < y.seq
  lv : y.del = false → look ltS (liveM X) y.key = some y.seq ∧ (look ltS (liveM (dropX X s)) y.key).getD 0 ≠ y.seq
theorem needF (h : X.Wf) {s : Int} {y : En} (hy : y ∈ keepL X s) : NeedF X s y := by
  have h1 := List.mem_filter.1 hy
  have h2 := (h.slot_mem s y).1 h1.1
  obtain ⟨n1, n2, n3⟩ := needs_parts h1.2
  have hof := drop_of h s y.key
  have hv := (valid_iff y).1 (h.valid h2.1).1
  have hyk : y ∈ X.of y.key := (h.of_mem y.key y).2 ⟨h2.1, rfl⟩
  refine ⟨h2.1, h2.2, fun hd => ?_, fun hd => ?_⟩
  · obtain ⟨z, hz, hz1, hz2⟩ := n3 hd
    have hzm : z ∈ (dropX X s).of y.key := by rw [hof]; exact List.mem_filter.2 ⟨hz, decide_eq_true (by rw [← h2.2]; exact hz2)⟩
    cases hl : (dropX X s).of y.key with
    | nil => rw [hl] at hzm; cases hzm
    | cons o t =>
      have ho : o ∈ (dropX X s).of y.key := by rw [hl]; simp
      rw [hof] at ho
      have h3 := List.mem_filter.1 ho
      have h4 : o.slot ≠ s := of_decide_eq_true h3.2
      have h5 := n1 o h3.1
      refine ⟨o, t, rfl, ?_⟩
      rcases Int.lt_or_eq_of_le h5 with h6 | h6
      · exact h6
      · exact absurd ((n2 o h3.1 h6).trans h2.2) h4
  · rw [look_live h, look_live (drop_wf h s)]
    constructor
    · cases hl : X.of y.key with
      | nil => rw [hl] at hyk; cases hyk
      | cons o t =>
        have hm := head_max h hl y hyk
        have ho : o ∈ X.of y.key := by rw [hl]; simp
        have hq : o.seq = y.seq := by have := n1 o ho; omega
        have ho2 := (h.of_mem y.key o).1 ho
        have hc := h.c o ho2.1 y h2.1 ho2.2 hq
        unfold seqK findE
        rw [hl]
        simp only
        rw [hc.1, hd]
        simp [hq]
    · cases hs : seqK (dropX X s) y.key with
      | none => simp only [Option.getD_none]; omega
      | some v =>
        obtain ⟨o, ho, rfl⟩ := seqK_of (drop_wf h s) hs
        rw [hof] at ho
        have h3 := List.mem_filter.1 ho
        have h4 : o.slot ≠ s := of_decide_eq_true h3.2
        exact fun h5 => h4 ((n2 o h3.1 h5).trans h2.2)
theorem keep_off (h : X.Wf) {s : Int} {i : Nat} {a y : En} (ha : (keepL X s)[i]? = some a) (hy : (keepL X s)[i + 1]? = some y) : a.off < y.off := by
  have hp : (keepL X s).Pairwise (fun a b => a.off + a.size ≤ b.off) := (h.slotOk s).p.sublist List.filter_sublist
  obtain ⟨h1, rfl⟩ := List.getElem?_eq_some_iff.1 ha
  obtain ⟨h2, rfl⟩ := List.getElem?_eq_some_iff.1 hy
  have h3 := List.pairwise_iff_getElem.1 hp i (i + 1) h1 h2 (by omega)
  have h4 := List.mem_filter.1 (List.getElem_mem h1)
  have h5 := (valid_iff _).1 (h.valid ((h.slot_mem s _).1 h4.1).1).1
  omega
theorem keep_none (h : X.Wf) {s : Int} (hk : keepL X s = []) : liveM (dropX X s) = liveM X := drop_liveM h (fun e he => by
  cases hn : X.needs e with
  | false => rfl
  | true =>
    have : e ∈ keepL X s := List.mem_filter.2 ⟨he, hn⟩
    rw [hk] at this
    cases this)
end
theorem tightA : ∀ (n : Nat) (L : List Ac), L.length = n → n ≤ 90 → (∀ t ∈ L, t.Ok) → (foldA L).all.length ≤ n ∧ (foldA L).sq ≤ n ∧ ∀ s, (foldA L).us s ≤ 19 * n
  | 0, L, hL, _, _ => by
    rw [List.eq_nil_of_length_eq_zero hL]
    exact ⟨by show 0 ≤ 0; omega, by show (0 : Int) ≤ 0; omega, fun s => by show (0 : Int) ≤ 19 * 0; omega⟩
  | n + 1, L, hL, hn, ht => by
    have hne : L ≠ [] := fun h => by rw [h] at hL; cases hL
    have e := List.dropLast_concat_getLast hne
    have hd := fun m h => ht m (List.dropLast_subset L h)
    obtain ⟨h1, h2, h3⟩ := tightA n L.dropLast (by rw [List.length_dropLast]; omega) (by omega) hd
    have hok := (foldA_ok n L.dropLast (by rw [List.length_dropLast]; omega) (by omega) hd).1
    rw [← e, foldA_snoc]
    generalize L.getLast hne = t at *
    generalize foldA L.dropLast = st at *
    have hadd : ∀ (s2 : LS) (e : En), s2.all.length ≤ n → s2.sq ≤ n + 1 → (∀ s, s2.us s ≤ 19 * n) → e.size ≤ 19 → (addA s2 e).all.length ≤ n + 1 ∧ (addA s2 e).sq ≤ ((n + 1 : Nat) : Int) ∧ ∀ s, (addA s2 e).us s ≤ 19 * ((n + 1 : Nat) : Int) := by
      intro s2 e ha hb hc hz
      unfold addA
      split
      · exact ⟨by omega, by omega, fun s => by have := hc s; omega⟩
      · refine ⟨by show (s2.all ++ [_]).length ≤ n + 1; simp; omega, by show s2.sq ≤ _; omega, fun s => ?_⟩
        show upd s2.us e.slot (s2.us e.slot + e.size) s ≤ _
        have := hc s
        have := hc e.slot
        unfold upd
        split <;> omega
    unfold stepA
    split
    · exact hadd _ _ h1 (by show st.sq + 1 ≤ _; omega) h3 (by show 16 + ((acKey t.key).size : Int) ≤ 19; rw [(acKey_ok t.key).2.1]; omega)
    · split
      · exact hadd _ _ h1 (by show st.sq + 1 ≤ _; omega) h3 (by show 18 + ((acKey t.key).size : Int) ≤ 19; rw [(acKey_ok t.key).2.1]; omega)
      · split
        · exact ⟨by omega, by omega, fun s => by have := h3 s; omega⟩
        · rename_i hne2
          have hl : 0 < st.all.length := List.length_pos_iff.2 hne2
          have hk : 0 ≤ t.key := (ht t (by rw [← e]; simp)).key.1
          have g1 := Int.emod_lt_of_pos t.key (show (0 : Int) < st.all.length by omega)
          have g2 := Int.emod_nonneg t.key (show (st.all.length : Int) ≠ 0 by omega)
          have g3 : (t.key % st.all.length).toNat < st.all.length := by omega
          have hm : st.all.getD (t.key % st.all.length).toNat zE ∈ st.all := by
            rw [List.getD_eq_getElem?_getD, List.getElem?_eq_getElem g3]
            exact List.getElem_mem g3
          exact hadd _ _ h1 (by omega) h3 (hok.e _ hm).2.2.2.2
theorem tight_ok {n : Nat} {L : List Ac} (hL : L.length = n) (hn : n ≤ 90) (ht : ∀ t ∈ L, t.Ok) : (foldA L).Ok n := by
  have h := (foldA_ok n L hL hn ht).1
  obtain ⟨h1, h2, h3⟩ := tightA n L hL hn ht
  exact ⟨h.g, h1, h.q0, h2, fun s => ⟨(h.u s).1, h3 s⟩, h.e⟩
end Go.Proofs.Ytanmmnomagfkhaa

/- LivenessRetires in plain Lean. No walk. -/
set_option linter.unusedVariables false
set_option linter.unusedSimpArgs false
namespace Go.Proofs.Ytanmmnomagfkhaa

section
variable {X : IX}
theorem retP_no {e : En} (h : retP X e = false) : e.del = false ∨ X.needs e = true := by
  unfold retP at h
  cases hx : e.del <;> cases hy : X.needs e <;> simp_all
theorem retP_yes {e : En} (h : retP X e = true) : e.del = true ∧ X.needs e = false := by
  unfold retP at h
  cases hx : e.del <;> cases hy : X.needs e <;> simp_all
theorem ret_pre {m n : Nat} (h : m ≤ n) : retL X m <+: retL X n := by
  induction n with
  | zero => obtain rfl : m = 0 := by omega
            exact List.prefix_refl _
  | succ n ih =>
    by_cases h1 : m ≤ n
    · rw [retL_succ]
      exact (ih h1).trans (List.prefix_append _ _)
    · obtain rfl : m = n + 1 := by omega
      exact List.prefix_refl _
/-- The tombstone that is seen is the next one of the list. -/
theorem ret_at {n s : Nat} (hs : s < n) {pre : List En} {y : En} (hp : pre ++ [y] <+: X.slot (s : Nat)) (hr : retP X y = true) : (retL X n)[(retL X s ++ pre.filter (retP X)).length]? = some y := by
  obtain ⟨t, ht⟩ := hp
  obtain ⟨u, hu⟩ := ret_pre (X := X) (show s + 1 ≤ n by omega)
  rw [retL_succ, ← ht, List.filter_append, List.filter_append] at hu
  rw [← hu]
  simp [hr]
def cpN (y : En) (l : List En) : Nat := (l.filter (nd2 y)).length
theorem cpN_snoc (y z : En) (l : List En) : cpN y (l ++ [z]) = cpN y l + (if nd2 y z = true then 1 else 0) := by
  unfold cpN
  rw [List.filter_append, List.length_append]
  by_cases h : nd2 y z = true
  · simp [h]
  · simp [h]
theorem cpN_le (y : En) (l : List En) : cpN y l ≤ l.length := List.length_filter_le _ _
theorem old_snoc (y z : En) (l : List En) : (l ++ [z]).any (nd3 y) = (l.any (nd3 y) || nd3 y z) := by simp
/-- What holds of a tombstone that is not needed, and not shadowed. -/
theorem ret_ok (h : X.Wf) {y : En} (hy : y ∈ X.ents) (hr : retP X y = true) (hn : ¬ y.seq < ((X.of y.key).headD zE).seq) : cpN y (X.of y.key) = 0 → (X.of y.key).any (nd3 y) = false := by
  intro h0
  unfold retP at hr
  simp only [Bool.and_eq_true, Bool.not_eq_true'] at hr
  obtain ⟨hd, hx⟩ := hr
  have hyk : y ∈ X.of y.key := (h.of_mem y.key y).2 ⟨hy, rfl⟩
  cases hl : X.of y.key with
  | nil => rw [hl] at hyk; cases hyk
  | cons o t =>
    rw [hl] at hn
    have hmax := head_max h hl
    have n1 : ¬ (X.of y.key).any (nd1 y) = true := by
      rw [List.any_eq_true]
      rintro ⟨z, hz, hz1⟩
      have h1 : y.seq < z.seq := of_decide_eq_true hz1
      have h2 := hmax z hz
      exact hn (show y.seq < o.seq by omega)
    have n2 : ¬ (X.of y.key).any (nd2 y) = true := by
      rw [List.any_eq_true]
      rintro ⟨z, hz, hz1⟩
      have : z ∈ (X.of y.key).filter (nd2 y) := List.mem_filter.2 ⟨hz, hz1⟩
      unfold cpN at h0
      rw [List.eq_nil_of_length_eq_zero h0] at this
      cases this
    unfold IX.needs at hx
    rw [if_neg n1, if_neg n2, hd, if_neg (by decide)] at hx
    rw [← hl]
    exact hx
end
end Go.Proofs.Ytanmmnomagfkhaa

/- A range over a function within a round of another one. -/
set_option linter.unusedVariables false
set_option linter.unusedSimpArgs false
namespace Go.Proofs.Ytanmmnomagfkhaa
open Go.RowKit
variable {F : Fence} {n : Nat} {P : Program}

theorem room_no {F : Fence} (hd : F.depth = none) (k : Nat) : F.room k := fun d h => by rw [hd] at h; cases h
/-- In the wide fence the figures are all one, and a contract goes into a round as it is. -/
theorem SeqZ.deep {α : Type} {g : Nat} {lb : Array Value} {encs : α → Array Value} {A : Nat → Prop} {S Sp : List α → Prop} {w : World} (l₀ m : Nat) (h : SeqZ Fence.wide n P g lb encs A S Sp w) : SeqZ (Fence.wide.inRound l₀) m P g lb encs A S Sp w := by
  intro l J Jx W hW hJ hJx hY h0
  have := callsIn_wide.1 (h l J Jx W hW hJ hJx (fun Z pre x X hj hs => by
    obtain ⟨fn, tmps, assign, body, hy, hR⟩ := hY Z pre x X hj hs
    exact ⟨fn, tmps, assign, body, hy, hR.1, fun c cs _ => hR.2 c cs (room_no rfl _)⟩) h0)
  exact CallsIn.inRound l₀ (callsIn_wide.2 this)
theorem wpIn_rangeFunc_zn {α : Type} {g : Operand} {ps : Array Tmp} {assign body : Code} {Q : Exit → Act → World → Prop} {a : Act} {w : World}
    {l₀ : Nat} {r₀ : Loop} (hro : F.round = some l₀) (hl₀ : w.heap[l₀]? = some (.loop r₀)) (h1 : 1 ≤ n) {gf : Nat} {lb : Array Value} (hg : a.eval g = .func (.func gf) #[] lb) (hFg : F.fn gf) (eg : ∀ args w, (callFunc gf args).run P w = .ok (.enter gf args) w)
    {encs : α → Array Value} {A : Nat → Prop} {S Sp : List α → Prop} {w0 : World} (hseq : SeqZ F (n - 1) P gf lb encs A S Sp w0)
    (hw0 : Mdh (fun k => ¬ A k) w0 w) (hAlt : ∀ k, A k → k < w.heap.size) (hps : ∀ x, (encs x).size = ps.size)
    (I : (Nat → Prop) → List α → World → Prop) (Ix : Code → (Nat → Prop) → List α → World → Prop) (hI : Apart I) (hIx : ∀ c, Apart (Ix c)) (h0 : I (fun _ => False) [] w)
    (Ax : α → Act → (Nat → Prop) → World → Prop) (hAx : ∀ x a', Apart (fun Z (_ : Unit) W => Ax x a' Z W))
    (hassign : ∀ (l : Nat) (Z : Nat → Prop) (pre : List α) (x : α) (W : World) (K : Act → World → Prop), I Z pre W → (∀ a' W', Mdh (fun k => ¬ A k ∧ ¬ Z k) W W' → I Z pre W' → Ax x a' Z W' → K a' W') →
      assign.wpIn (F.inRound l) (n - 1 - 1) P (Exit.then K (fun _ _ _ => False)) { tmps := (ps.zip (encs x)).foldl (fun t (p, v) => t.setIfInBounds p v) a.tmps, defers := [] } W)
    (hbody : ∀ (l : Nat) (Z : Nat → Prop) (pre : List α) (x : α) (a' : Act) (W : World), Z l → (∃ r, W.heap[l]? = some (.loop r)) → I Z pre W → Ax x a' Z W → Sp (pre ++ [x]) →
      body.wpIn (F.inRound l) (n - 1 - 1) P (zPost A Z I Ix (pre ++ [x]) W) a' W)
    (hdone : ∀ (Z : Nat → Prop) (xs : List α) (W : World), S xs → I Z xs W → Q .normal a W)
    (hstop : ∀ (Z : Nat → Prop) (c : Code) (pre : List α) (W : World), Sp pre → Ix c Z pre W → c.wpIn F n P Q a W) :
    (Code.rangeFunc g ps assign body).wpIn F n P Q a w := by
  refine wpIn_rangeFunc ?_
  intro fn hfn
  rw [hro]
  obtain ⟨rec, hrec⟩ : ∃ rec : LoopState → Option Code → Loop, rec = fun st pe => { state := st, pending := pe, fn, tmps := a.tmps, params := ps, assign, body, defers := r₀.defers } := ⟨_, rfl⟩
  obtain ⟨W1, hW1⟩ : ∃ W1, w.alloc (.loop (rec .ready none)) = W1 := ⟨_, rfl⟩
  have hL1 : W1.heap[w.heap.size]? = some (.loop (rec .ready none)) := by rw [← hW1]; exact World.alloc_heap_new w _
  have hgr : Gr w W1 := by rw [← hW1]; exact (Gr.refl w).alloc _
  -- the book-keeping's two blocks
  obtain ⟨B, hB⟩ : ∃ B : Nat → Prop, B = fun k => k = w.heap.size := ⟨_, rfl⟩
  have hBl : B w.heap.size := by rw [hB]
  have hBA : ∀ k, B k → ¬ A k := fun k hk ha => by rw [hB] at hk; have := hAlt k ha; omega
  have hI1 : I (fun k => False ∨ B k) [] W1 := hI _ _ _ _ _ h0 (hgr.mdh _) (fun k hk => by
    rcases hk with hk | hk
    · exact hk.elim
    · rw [hB] at hk; right; have : w.heap.size < W1.heap.size := (Array.getElem?_eq_some_iff.1 hL1).1; omega)
  refine ⟨w.heap.size, [], W1, { target := .fn (.func gf) lb, args := #[.func (.yield w.heap.size) #[] #[]] }, W1, gf,
    #[.func (.yield w.heap.size) #[] #[]] ++ lb, W1, ?_, ?_, ?_, ?_, fun _ => h1, ?_⟩
  · rw [← hW1, hrec]; exact run_enterLoop_inner hl₀ _ _ _ _ _
  · simp only [resolve, hg]
    simp [go_sem]
  · intro f' hf'; simp [Target.leads] at hf'; subst hf'; exact hFg
  · simp [invoke, go_sem, eg]
  · have hsz : w.heap.size < W1.heap.size := (Array.getElem?_eq_some_iff.1 hL1).1
    refine (hseq w.heap.size
      (fun Z pre W => I (fun k => Z k ∨ B k) pre W ∧ (W.heap[w.heap.size]? = some (.loop (rec .ready none)) ∧ ¬ Z w.heap.size))
      (fun Z pre W => ∃ c, Ix c (fun k => Z k ∨ B k) pre W ∧ (W.heap[w.heap.size]? = some (.loop (rec .done (some c))) ∧ ¬ Z w.heap.size))
      W1 (hw0.gr hgr)
      (fun Z Z' s X Y hs hm hz => ⟨hI _ _ s X Y hs.1 (hm.mono (fun k hk => .inl hk)) (fun k hk => hk.elim (fun h => (hz k h).elim (fun h => .inl (.inl h)) .inr) (fun h => .inl (.inr h))),
        Apart.block (β := Unit) _ (fun _ => .loop (rec .ready none)) Z Z' () X Y hs.2 hm hz⟩)
      (fun Z Z' s X Y hs hm hz => by
        obtain ⟨c, hc, hl⟩ := hs
        exact ⟨c, hIx c _ _ s X Y hc (hm.mono (fun k hk => .inl hk)) (fun k hk => hk.elim (fun h => (hz k h).elim (fun h => .inl (.inl h)) .inr) (fun h => .inl (.inr h))),
          Apart.block (β := Unit) _ (fun _ => .loop (rec .done (some c))) Z Z' () X Y hl hm hz⟩)
      ?_ ⟨hI1, ⟨hL1, fun h => h⟩⟩).mono ?_
    · -- one round
      rintro Z pre x W ⟨hi, ⟨hl, hzl⟩⟩ hlen
      have hy := run_yield (P := P) (args := encs x) hl (by rw [hrec]; exact hps x)
      rw [hrec] at hy
      refine ⟨fn, _, assign, body, hy, roundIn_of_wpIn hfn (hassign _ (fun k => Z k ∨ B k) pre x W _ hi ?_)⟩
      clear hy
      intro a' Wa hma hia hax
      have hl' := hma.blk hl (fun h => h.2 (.inr hBl))
      have hlt : w.heap.size < Wa.heap.size := (Array.getElem?_eq_some_iff.1 hl').1
      refine ⟨_, run_beginRound hl' (by rw [hrec]), ?_⟩
      have mB : ∀ (X : World) (o : Obj), Mdh (fun k => Z k ∨ B k) X (X.putObj w.heap.size o) := fun X o => (Mdh.refl _ X).putObj (.inr hBl) o
      have mA : ∀ (X : World) (o : Obj), Mdh (fun k => ¬ A k ∧ ¬ Z k) X (X.putObj w.heap.size o) := fun X o => (Mdh.refl _ X).putObj ⟨hBA _ hBl, hzl⟩ o
      have hl2 : (Wa.putObj w.heap.size (.loop { rec .ready none with state := .busy })).heap[w.heap.size]? = some (.loop { rec .ready none with state := .busy }) := World.putObj_heap_same hlt
      refine wpIn_mono (hbody _ (fun k => Z k ∨ B k) pre x a' _ (.inr hBl) ⟨_, hl2⟩ (hI _ _ _ _ _ hia (mB _ _) (fun k hk => .inl hk)) (hAx x a' _ _ () _ _ hax (mB _ _) (fun k hk => .inl hk)) hlen) ?_
      have fin : ∀ (jump : Option Code) (W3 : World), Mdh (fun k => ¬ (Z k ∨ B k)) (Wa.putObj w.heap.size (.loop { rec .ready none with state := .busy })) W3 →
          (Instr.endRound w.heap.size jump).run P W3 = .ok (.bool jump.isNone) (W3.putObj w.heap.size (.loop (rec (if jump.isNone then .ready else .done) jump))) ∧
          (W3.putObj w.heap.size (.loop (rec (if jump.isNone then .ready else .done) jump))).heap[w.heap.size]? = some (.loop (rec (if jump.isNone then .ready else .done) jump)) := fun jump W3 hm3 => by
        have hl3 := hm3.blk hl2 (fun h => h (.inr hBl))
        have := run_endRound (P := P) jump hl3
        rw [hrec] at this ⊢
        exact ⟨this, World.putObj_heap_same (Array.getElem?_eq_some_iff.1 hl3).1⟩
      have outM : ∀ (W3 : World), Mdh (fun k => ¬ (Z k ∨ B k)) (Wa.putObj w.heap.size (.loop { rec .ready none with state := .busy })) W3 → ∀ o : Obj, Mdh (fun k => ¬ Z k) W (W3.putObj w.heap.size o) := fun W3 hm3 o =>
        (((hma.mono (fun k h hz => h.2 (.inl hz))).trans ((mA Wa _).mono (fun k h => h.2))).trans (hm3.mono (fun k h hz => h (.inl hz)))).trans ((mA W3 o).mono (fun k h => h.2))
      rintro e a3 W3 hp
      cases e with
      | normal =>
        obtain ⟨hm3, hi3⟩ := hp
        obtain ⟨hr, hl4⟩ := fin none W3 (hm3.mono (fun k h => h.2))
        refine ⟨_, _, hr, .inl ⟨rfl, ⟨hI _ _ _ _ _ hi3 (mB _ _) (fun k hk => .inl hk), ⟨hl4, hzl⟩⟩, ?_⟩⟩
        have h1 : Mdh (fun k => ¬ A k ∧ ¬ Z k) W Wa := hma.mono (fun k h => ⟨h.1, fun hz => h.2 (.inl hz)⟩)
        have h2 : Mdh (fun k => ¬ A k ∧ ¬ Z k) (Wa.putObj w.heap.size (.loop { rec .ready none with state := .busy })) W3 := hm3.mono (fun k h => ⟨h.1, fun hz => h.2 (.inl hz)⟩)
        exact ((h1.trans (mA _ _)).trans h2).trans (mA _ _)
      | ret =>
        obtain ⟨hm3, hi3⟩ := hp
        obtain ⟨hr, hl4⟩ := fin (some .ret) W3 hm3
        exact ⟨_, _, hr, .inr ⟨rfl, ⟨.ret, hIx _ _ _ _ _ _ hi3 (mB _ _) (fun k hk => .inl hk), ⟨hl4, hzl⟩⟩, outM W3 hm3 _⟩⟩
      | exit id =>
        obtain ⟨hm3, hi3⟩ := hp
        obtain ⟨hr, hl4⟩ := fin (some (.exit id)) W3 hm3
        exact ⟨_, _, hr, .inr ⟨rfl, ⟨.exit id, hIx _ _ _ _ _ _ hi3 (mB _ _) (fun k hk => .inl hk), ⟨hl4, hzl⟩⟩, outM W3 hm3 _⟩⟩
      | goto t =>
        obtain ⟨hm3, hi3⟩ := hp
        obtain ⟨hr, hl4⟩ := fin (some (.goto t)) W3 hm3
        exact ⟨_, _, hr, .inr ⟨rfl, ⟨.goto t, hIx _ _ _ _ _ _ hi3 (mB _ _) (fun k hk => .inl hk), ⟨hl4, hzl⟩⟩, outM W3 hm3 _⟩⟩
      | panic ch => exact hp.elim
      | outgrown => exact hp.elim
    · -- behind the iterator
      have mB : ∀ (Z : Nat → Prop) (X : World) (o : Obj), Mdh (fun k => Z k ∨ B k) X (X.putObj w.heap.size o) := fun Z X o => (Mdh.refl _ X).putObj (.inr hBl) o
      rintro e W2 ⟨⟨v, rfl⟩, (⟨Z, xs, hS, hi, ⟨hl, _⟩⟩ | ⟨Z, pre, hSp, c, hi, ⟨hl, _⟩⟩)⟩
      · exact ⟨none, _, by have := run_endLoop (P := P) hl (by rw [hrec]; simp); rw [hrec] at this; exact this, hdone (fun k => Z k ∨ B k) xs _ hS (hI _ _ _ _ _ hi (mB _ _ _) (fun k hk => .inl hk))⟩
      · exact ⟨some c, _, by have := run_endLoop (P := P) hl (by rw [hrec]; simp); rw [hrec] at this; exact this, hstop (fun k => Z k ∨ B k) c pre _ hSp (hIx c _ _ _ _ _ hi (mB _ _ _) (fun k hk => .inl hk))⟩


/-- Within a round in the wide fence, where the assignment lays one block, and no round leaves the loop. -/
theorem wpIn_inner_zx {α : Type} {g : Operand} {ps : Array Tmp} {assign body : Code} {Q : Exit → Act → World → Prop} {a : Act} {w : World} {l₀ : Nat} (hl₀ : ∃ r₀, w.heap[l₀]? = some (.loop r₀))
    {gf : Nat} {lb : Array Value} (hg : a.eval g = .func (.func gf) #[] lb) (eg : ∀ args w, (callFunc gf args).run P w = .ok (.enter gf args) w)
    {encs : α → Array Value} {A : Nat → Prop} {S Sp : List α → Prop} {w0 : World} (hseq : SeqZ Fence.wide 2 P gf lb encs A S Sp w0)
    (hw0 : Mdh (fun k => ¬ A k) w0 w) (hAlt : ∀ k, A k → k < w.heap.size) (hps : ∀ x, (encs x).size = ps.size)
    (I : (Nat → Prop) → List α → World → Prop) (hI : Apart I) (h0 : I (fun _ => False) [] w) (hF : ∀ Z pre W, I Z pre W → ∃ T, Frm w T Z W) (o : α → Obj) (a₁ : α → Nat → Act)
    (hassign : ∀ (l : Nat) (x : α) (bx : Nat) (W : World) (K : Act → World → Prop), bx = W.heap.size → K (a₁ x bx) (W.alloc (o x)) →
      assign.wpIn ((Fence.wide.inRound l₀).inRound l) 0 P (Exit.then K (fun _ _ _ => False)) { tmps := (ps.zip (encs x)).foldl (fun t (p, v) => t.setIfInBounds p v) a.tmps, defers := [] } W)
    (hbody : ∀ (l : Nat) (Z : Nat → Prop) (pre : List α) (x : α) (bx : Nat) (W : World), I Z pre W → w.heap.size ≤ bx → W.heap[bx]? = some (o x) → ¬ Z bx → Sp (pre ++ [x]) → body.wpIn ((Fence.wide.inRound l₀).inRound l) 0 P (zPost A Z I (fun _ _ _ _ => False) (pre ++ [x]) W) (a₁ x bx) W)
    (hend : ∀ (Z : Nat → Prop) (xs : List α) (W : World), S xs → I Z xs W → Q .normal a W) :
    (Code.rangeFunc g ps assign body).wpIn (Fence.wide.inRound l₀) 1 P Q a w := by
  obtain ⟨r₀, hr₀⟩ := hl₀
  exact wpIn_rangeFunc_zn (F := Fence.wide.inRound l₀) (n := 1) rfl hr₀ (by omega) hg trivial eg (hseq.deep l₀ 0) hw0 hAlt hps I (fun _ _ _ _ => False) hI (fun _ => apart_no) h0
    (fun x a' Z W => ∃ bx, a' = a₁ x bx ∧ w.heap.size ≤ bx ∧ W.heap[bx]? = some (o x) ∧ ¬ Z bx)
    (fun x a' Z Z' _ X Y hs hm hz => by
      obtain ⟨bx, e, h1, h2, h3⟩ := hs
      exact ⟨bx, e, h1, hm.blk h2 h3, fun h => (hz bx h).elim h3 (fun y => by have := blkLt h2; omega)⟩)
    (fun l Z pre x W K hi hK => hassign l x _ W K rfl (by
      obtain ⟨T, hT⟩ := hF Z pre W hi
      refine hK _ _ ((Mdh.refl _ W).alloc _) (hI Z Z pre W _ hi ((Mdh.refl _ W).alloc _) (fun k hk => .inl hk)) ⟨W.heap.size, rfl, hT.m.size, blkNew W _, fun h => by have := hT.t _ h; omega⟩))
    (fun l Z pre x a' W _ _ hi ha hlen => by
      obtain ⟨bx, rfl, h1, h2, h3⟩ := ha
      exact hbody l Z pre x bx W hi h1 h2 h3 hlen)
    (fun Z xs W h1 h2 => hend Z xs W h1 h2) (fun Z c pre W _ h => h.elim)
end Go.Proofs.Ytanmmnomagfkhaa

/- A choice of things that lie side by side, in any order. No program in sight. -/
set_option linter.unusedVariables false
set_option linter.unusedSimpArgs false
namespace Go.Proofs.Ytanmmnomagfkhaa
open Go.RowKit
theorem SW.sel {w0 w : World} {R R' : List Asn} (h : SW w0 R w) (is : List Nat) (hd : is.Nodup) (he : is.map (fun i => R[i]?) = R'.map some) : SW w0 R' w := by
  have hm : ∀ A ∈ R', A ∈ R := fun A hA => by
    have h1 : some A ∈ R'.map some := List.mem_map.2 ⟨A, hA, rfl⟩
    rw [← he] at h1
    obtain ⟨i, _, h2⟩ := List.mem_map.1 h1
    exact List.mem_of_getElem? h2
  have hp : (R'.map some).Pairwise (fun a b => ∀ A B, a = some A → b = some B → Dis A B) := by
    rw [← he]
    exact List.pairwise_map.2 (hd.imp (fun {i j} hij A B ha hb => h.get_ne ha hb hij))
  exact ⟨h.g, ⟨fun A hA => h.s.1 A (hm A hA), (List.pairwise_map.1 hp).imp (fun {A B} hab => hab A B rfl rfl)⟩, fun A hA => h.n A (hm A hA)⟩
/-- What a callee has laid beside what the caller held. -/
theorem SW.both {w w0 w1 : World} {R R2 : List Asn} (h : SW w R w0) (h2 : SW w0 R2 w1) : SW w (R2 ++ R) w1 := by
  have hr := h.s.gr h2.g
  refine ⟨h.g.trans h2.g, ⟨fun A hA => (List.mem_append.1 hA).elim (h2.s.1 A) (hr.1 A), List.pairwise_append.2 ⟨h2.s.2, h.s.2, fun A hA B hB k ka kb => ?_⟩⟩, fun A hA k hk => (List.mem_append.1 hA).elim (fun e => Nat.le_trans h.g.sz (h2.n A e k hk)) (fun e => h.n A e k hk)⟩
  have h3 := h2.n A hA k ka
  have h4 := h.s.lt hB k kb
  omega
/-- A block that lies apart from all of them. -/
theorem SW.addD {w0 W : World} {R : List Asn} {D : Nat} {o : Obj} (h : SW w0 R W) (hd : W.heap[D]? = some o) (hn : ∀ B ∈ R, ∀ k, B.S k → k ≠ D) (h0 : w0.heap.size ≤ D) : SW w0 (blkA D o :: R) W :=
  ⟨h.g, ⟨fun A hA => (List.mem_cons.1 hA).elim (fun e => by rw [e]; exact hd) (h.s.1 A), List.pairwise_cons.2 ⟨fun B hB k ka kb => hn B hB k kb ka, h.s.2⟩⟩, fun A hA k hk => (List.mem_cons.1 hA).elim (fun e => by rw [e] at hk; rw [show k = D from hk]; exact h0) (fun e => h.n A e k hk)⟩
end Go.Proofs.Ytanmmnomagfkhaa
