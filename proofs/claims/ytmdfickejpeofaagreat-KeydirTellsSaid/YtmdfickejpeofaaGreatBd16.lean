/- drumlinlaw22.Made in plain Lean. No walk. -/
import Derived.Test.YtmdfickejpeofaaGreatBd15
set_option linter.unusedVariables false
set_option linter.unusedSimpArgs false
namespace Go.Proofs.YtmdfickejpeofaaGreat

structure Tn where
  kind : Int
  slot : Int
  n : Int
  size : Int
structure Tn.Ok (t : Tn) : Prop where
  kind : 0 ≤ t.kind ∧ t.kind ≤ 255
  slot : 0 ≤ t.slot ∧ t.slot ≤ 255
  n : 0 ≤ t.n ∧ t.n ≤ 255
  size : 0 ≤ t.size ∧ t.size ≤ 255
def nmL : List ByteArray := [⟨#[97]⟩, ⟨#[98]⟩, ⟨#[97, 98]⟩, ⟨#[107, 49]⟩, ⟨#[120, 46, 121]⟩, ⟨#[122, 122]⟩]
def tnKey (n : Int) : ByteArray := nmL.getD (n % 6).toNat ⟨#[97]⟩
theorem tnKey_ok (n : Int) : keyChk (tnKey n) = 0 ∧ 1 ≤ (tnKey n).size ∧ (tnKey n).size ≤ 3 ∧ Low (tnKey n) := by
  have hl : ∀ x ∈ nmL, keyChk x = 0 ∧ 1 ≤ x.size ∧ x.size ≤ 3 ∧ Low x := by
    intro x hx
    simp only [nmL, List.mem_cons, List.not_mem_nil, or_false] at hx
    rcases hx with rfl | rfl | rfl | rfl | rfl | rfl
    all_goals
      refine ⟨by kernel_rfl, by decide, by decide, ?_⟩
      unfold Low
      decide
  have hk : (n % 6).toNat < nmL.length := by
    have h1 : 0 ≤ n % 6 ∧ n % 6 < 6 := by omega
    have h2 : nmL.length = 6 := rfl
    omega
  unfold tnKey
  rw [List.getD_eq_getElem?_getD, List.getElem?_eq_getElem hk]
  exact hl _ (List.getElem_mem hk)
structure MS where
  X : IX
  all : List En
  nx : Int
/-- Where the entries of a slot end. -/
def endF (s : Int) (a : Int) (e : En) : Int := if e.slot = s then max a (e.off + e.size) else a
def endL (all : List En) (s : Int) : Int := all.foldl (endF s) 0
theorem endL_snoc (all : List En) (e : En) (s : Int) : endL (all ++ [e]) s = endF s (endL all s) e := by simp [endL]
theorem endL_nn (all : List En) (s : Int) : 0 ≤ endL all s := by
  have h : ∀ (l : List En) (a : Int), a ≤ l.foldl (endF s) a := by
    intro l
    induction l with
    | nil => intro a; exact Int.le_refl _
    | cons e l ih =>
      intro a
      refine Int.le_trans ?_ (ih _)
      unfold endF
      split <;> omega
  exact h all 0
theorem endL_filter (all : List En) {s t : Int} (h : t ≠ s) : endL (all.filter (fun o => !decide (o.slot = s))) t = endL all t := by
  have h : ∀ (l : List En) (a : Int), (l.filter (fun o => !decide (o.slot = s))).foldl (endF t) a = l.foldl (endF t) a := by
    intro l
    induction l with
    | nil => intro a; rfl
    | cons e l ih =>
      intro a
      rw [List.filter_cons]
      by_cases he : e.slot = s
      · rw [if_neg (by simp [he]), ih, List.foldl_cons]
        congr 1
        unfold endF
        rw [if_neg (by omega)]
      · rw [if_pos (by simp [he]), List.foldl_cons, List.foldl_cons, ih]
  exact h all 0
theorem endL_zero (all : List En) (s : Int) : endL (all.filter (fun o => !decide (o.slot = s))) s = 0 := by
  have h : ∀ (l : List En), (l.filter (fun o => !decide (o.slot = s))).foldl (endF s) 0 = 0 := by
    intro l
    induction l with
    | nil => rfl
    | cons e l ih =>
      rw [List.filter_cons]
      by_cases he : e.slot = s
      · rw [if_neg (by simp [he]), ih]
      · rw [if_pos (by simp [he]), List.foldl_cons, show endF s 0 e = 0 from if_neg he, ih]
  exact h all
/-- An entry behind those of its slot. -/
def atM (st : MS) (e : En) : En := { e with off := endL st.all e.slot }
def dupM (st : MS) (e : En) : Bool := st.all.any (fun o => decide (o.slot = e.slot) && decide (o.seq = e.seq))
def addM (st : MS) (e : En) : MS := if dupM st e = true then st else ⟨addX st.X (atM st e), st.all ++ [atM st e], st.nx⟩
def newM (N : Int) (st : MS) (t : Tn) : En := ⟨st.nx, tnKey t.n, decide (t.kind % 8 = 4), t.slot % N, 0, 16 + ((tnKey t.n).size : Int) + if t.kind % 8 = 4 then 0 else t.size % 60⟩
def cpM (N : Int) (st : MS) (t : Tn) : En := { (st.all.getD (t.n % st.all.length).toNat zE) with slot := t.slot % N }
def nextM (st : MS) : MS := { st with nx := st.nx + 1 }
def dropM (st : MS) (s : Int) : MS := ⟨dropX st.X s, st.all.filter (fun o => !decide (o.slot = s)), st.nx⟩
def stepM (N : Int) (st : MS) (t : Tn) : MS :=
  if t.kind % 8 < 5 then addM (nextM st) (newM N st t)
  else if t.kind % 8 < 7 then (if st.all = [] then st else addM st (cpM N st t))
  else dropM st (t.slot % N)
def foldM (n : Nat) (L : List Tn) : MS := L.foldl (stepM n) ⟨ixNew n, [], 1⟩
theorem foldM_snoc (n : Nat) (L : List Tn) (t : Tn) : foldM n (L ++ [t]) = stepM n (foldM n L) t := by simp [foldM]
structure MS.Ok (st : MS) (N : Int) (j : Nat) : Prop where
  g : FG st.X st.all (endL st.all) N
  n : st.all.length ≤ j
  q0 : 1 ≤ st.nx
  q1 : st.nx ≤ j + 1
  u : ∀ s, endL st.all s ≤ 78 * j
  e : ∀ e ∈ st.all, 1 ≤ e.seq ∧ e.seq < st.nx ∧ Low e.key ∧ 1 ≤ e.key.size ∧ e.key.size ≤ 3 ∧ e.size ≤ 78
theorem MS.later {st : MS} {N : Int} {j j' : Nat} (h : st.Ok N j) (hj : j ≤ j') : st.Ok N j' := ⟨h.g, Nat.le_trans h.n hj, h.q0, by have := h.q1; omega, fun s => by have := h.u s; omega, h.e⟩
structure AddM (st : MS) (N : Int) (e : En) : Prop where
  slot : 0 ≤ e.slot ∧ e.slot < N
  sq : e.seq < st.nx ∧ 1 ≤ e.seq
  k : keyChk e.key = 0 ∧ 1 ≤ e.key.size ∧ e.key.size ≤ 3 ∧ Low e.key
  z : 16 + (e.key.size : Int) ≤ e.size ∧ e.size ≤ 78 ∧ (e.size = 16 + (e.key.size : Int) ∨ e.del = false)
  o : (∀ o ∈ st.all, o.seq ≠ e.seq) ∨ ∃ x ∈ st.all, x.seq = e.seq ∧ x.key = e.key ∧ x.del = e.del ∧ x.size = e.size
theorem dupM_iff {st : MS} {e : En} : dupM st e = true ↔ ∃ o ∈ st.all, o.slot = (atM st e).slot ∧ o.seq = (atM st e).seq := by
  unfold dupM
  rw [List.any_eq_true]
  simp only [Bool.and_eq_true, decide_eq_true_eq]
  exact Iff.rfl
theorem endM_upd {st : MS} {e : En} (hz : 0 ≤ e.size) : upd (endL st.all) e.slot (endL st.all e.slot + e.size) = endL (st.all ++ [atM st e]) := by
  funext s
  rw [endL_snoc]
  unfold upd endF
  by_cases h : s = e.slot
  · subst h
    rw [if_pos rfl, if_pos (show (atM st e).slot = e.slot from rfl)]
    show _ = max (endL st.all e.slot) (endL st.all e.slot + e.size)
    omega
  · rw [if_neg h, if_neg (show ¬ (atM st e).slot = s from fun hh => h hh.symm)]
theorem addM_ok {st : MS} {N : Int} {j : Nat} {e : En} (h : st.Ok N j) (hj : j ≤ 101) (a : AddM st N e) :
    (dupM st e = true → addE st.X (atM st e) = 6) ∧ (dupM st e = false → addE st.X (atM st e) = 0) ∧ (addM st e).Ok N (j + 1) ∧ Low (atM st e).key ∧ En64 (atM st e) ∧ validE (atM st e) = true ∧ 0 ≤ endL st.all e.slot ∧ endL st.all e.slot ≤ 7878 := by
  have hu := h.u e.slot
  have hu0 := endL_nn st.all e.slot
  have q1 := h.q1
  obtain ⟨z1, z2, z3⟩ := a.z
  obtain ⟨k1, k2, k3, k4⟩ := a.k
  have hv : validE (atM st e) = true := (valid_iff _).2 ⟨k1, a.sq.2, show e.seq ≤ 1099511627776 by have := a.sq.1; omega, hu0, z1, z3, show e.size ≤ (8192 : Int) by omega, show endL st.all e.slot ≤ 8192 - e.size by omega⟩
  have hpush : FG (addX st.X (atM st e)) (st.all ++ [atM st e]) (upd (endL st.all) e.slot (endL st.all e.slot + e.size)) N → (⟨addX st.X (atM st e), st.all ++ [atM st e], st.nx⟩ : MS).Ok N (j + 1) := fun g => by
    rw [endM_upd (by omega)] at g
    refine ⟨g, ?_, h.q0, by show st.nx ≤ ((j + 1 : Nat) : Int) + 1; omega, fun s => ?_, fun o ho => ?_⟩
    · show (st.all ++ [_]).length ≤ j + 1
      have := h.n
      rw [List.length_append]; simp; omega
    · have hs := h.u s
      show endL (st.all ++ [atM st e]) s ≤ 78 * ((j + 1 : Nat) : Int)
      rw [endL_snoc]
      unfold endF
      split
      · show max _ (endL st.all e.slot + e.size) ≤ _
        omega
      · omega
    · rcases List.mem_append.1 ho with ho | ho
      · exact h.e o ho
      · rw [List.mem_singleton.1 ho]
        exact ⟨a.sq.2, a.sq.1, k4, k2, k3, z2⟩
  refine ⟨fun hd => ?_, fun hd => ?_, ?_, k4, ⟨by show e.size ≤ 9223372036854775807; omega, by show -9223372036854775808 ≤ e.size; omega, by show e.key.size ≤ 140737488351232; omega⟩, hv, hu0, by omega⟩
  · have hd := dupM_iff.1 hd
    rcases a.o with ho | ⟨x, hx, e1, e2, e3, e4⟩
    · obtain ⟨o, hm, _, hq⟩ := hd
      exact absurd hq (ho o hm)
    · exact h.g.copyNo hx (En.ext' (show e.seq = x.seq from e1.symm) (show e.key = x.key from e2.symm) (show e.del = x.del from e3.symm) rfl rfl (show e.size = x.size from e4.symm)) a.slot.1 a.slot.2 hv hd
  · have hd' : ¬ ∃ o ∈ st.all, o.slot = (atM st e).slot ∧ o.seq = (atM st e).seq := fun hh => by rw [dupM_iff.2 hh] at hd; cases hd
    rcases a.o with ho | ⟨x, hx, e1, e2, e3, e4⟩
    · exact (h.g.new (e := atM st e) ho a.slot.1 a.slot.2 hv (Int.le_refl _)).1
    · exact (h.g.copyYes (e := atM st e) hx (En.ext' (show e.seq = x.seq from e1.symm) (show e.key = x.key from e2.symm) (show e.del = x.del from e3.symm) rfl rfl (show e.size = x.size from e4.symm)) a.slot.1 a.slot.2 hv (Int.le_refl _) hd').1
  · unfold addM
    split
    · exact MS.later h (by omega)
    · rename_i hd
      have hd' : ¬ ∃ o ∈ st.all, o.slot = (atM st e).slot ∧ o.seq = (atM st e).seq := fun hh => hd (dupM_iff.2 hh)
      rcases a.o with ho | ⟨x, hx, e1, e2, e3, e4⟩
      · exact hpush (h.g.new (e := atM st e) ho a.slot.1 a.slot.2 hv (Int.le_refl _)).2
      · exact hpush (h.g.copyYes (e := atM st e) hx (En.ext' (show e.seq = x.seq from e1.symm) (show e.key = x.key from e2.symm) (show e.del = x.del from e3.symm) rfl rfl (show e.size = x.size from e4.symm)) a.slot.1 a.slot.2 hv (Int.le_refl _) hd').2
theorem newM_ok {st : MS} {N : Int} {j : Nat} (h : st.Ok N j) (hN : 1 ≤ N) {t : Tn} (ht : t.Ok) : AddM (nextM st) N (newM N st t) ∧ (∀ o ∈ st.all, o.seq ≠ st.nx) := by
  obtain ⟨k1, k2, k3, k4⟩ := tnKey_ok t.n
  have hq := h.q0
  have hn : ∀ o ∈ st.all, o.seq ≠ st.nx := fun o ho => by have := (h.e o ho).2.1; omega
  refine ⟨⟨⟨Int.emod_nonneg _ (by omega), Int.emod_lt_of_pos _ (by omega)⟩, ⟨by show st.nx < st.nx + 1; omega, hq⟩, ⟨k1, k2, k3, k4⟩, ?_, .inl hn⟩, hn⟩
  show 16 + ((tnKey t.n).size : Int) ≤ 16 + ((tnKey t.n).size : Int) + (if t.kind % 8 = 4 then 0 else t.size % 60) ∧ 16 + ((tnKey t.n).size : Int) + (if t.kind % 8 = 4 then 0 else t.size % 60) ≤ 78 ∧ (16 + ((tnKey t.n).size : Int) + (if t.kind % 8 = 4 then 0 else t.size % 60) = 16 + ((tnKey t.n).size : Int) ∨ decide (t.kind % 8 = 4) = false)
  by_cases hd : t.kind % 8 = 4
  · rw [if_pos hd]
    exact ⟨by omega, by omega, .inl (by omega)⟩
  · rw [if_neg hd]
    exact ⟨by omega, by omega, .inr (decide_eq_false hd)⟩
theorem cpM_mem {st : MS} (hne : st.all ≠ []) (n : Int) (hn : 0 ≤ n) : st.all.getD (n % st.all.length).toNat zE ∈ st.all := by
  have hl : 0 < st.all.length := List.length_pos_iff.2 hne
  have h1 := Int.emod_lt_of_pos n (show (0 : Int) < st.all.length by omega)
  have h2 := Int.emod_nonneg n (show (st.all.length : Int) ≠ 0 by omega)
  have h3 : (n % st.all.length).toNat < st.all.length := by omega
  rw [List.getD_eq_getElem?_getD, List.getElem?_eq_getElem h3]
  exact List.getElem_mem h3
theorem cpM_ok {st : MS} {N : Int} {j : Nat} (h : st.Ok N j) (hN : 1 ≤ N) (hne : st.all ≠ []) {t : Tn} (ht : t.Ok) : AddM st N (cpM N st t) := by
  have hx := cpM_mem hne t.n ht.n.1
  unfold cpM
  generalize st.all.getD (t.n % st.all.length).toNat zE = x at *
  obtain ⟨h1, h2, h3, h4, h5, h6⟩ := h.e x hx
  have hv := h.g.val hx
  exact ⟨⟨Int.emod_nonneg _ (by omega), Int.emod_lt_of_pos _ (by omega)⟩, ⟨h2, h1⟩, ⟨hv.1, h4, h5, h3⟩, ⟨hv.2.2.2.2.1, h6, hv.2.2.2.2.2.1⟩, .inr ⟨x, hx, rfl, rfl, rfl, rfl⟩⟩
theorem dropM_ok {st : MS} {N : Int} {j : Nat} (h : st.Ok N j) {s : Int} (h0 : 0 ≤ s) (h1 : s < N) : (dropM st s).Ok N j ∧ dropC st.X s = 0 ∧ (st.X.slot s).length + (st.all.filter (fun o => !decide (o.slot = s))).length = st.all.length := by
  obtain ⟨d1, d2, d3⟩ := h.g.drop h0 h1 (en' := endL (st.all.filter (fun o => !decide (o.slot = s)))) (fun t ht => by rw [endL_filter _ ht]; exact Int.le_refl _)
  refine ⟨⟨d3, Nat.le_trans (List.length_filter_le _ _) h.n, h.q0, h.q1, fun t => ?_, fun e he => h.e e (List.mem_filter.1 he).1⟩, d1, d2⟩
  show endL (st.all.filter (fun o => !decide (o.slot = s))) t ≤ _
  by_cases ht : t = s
  · subst ht; rw [endL_zero]; omega
  · rw [endL_filter _ ht]; exact h.u t
theorem nextM_ok {st : MS} {N : Int} {j : Nat} (h : st.Ok N j) : st.nx + 1 ≤ (j + 1 : Nat) + 1 := by have := h.q1; omega
/-- One turn more. -/
theorem stepM_ok {st : MS} {N : Int} {j : Nat} (h : st.Ok N j) (hj : j < 100) (hN : 1 ≤ N) {t : Tn} (ht : t.Ok) : (stepM N st t).Ok N (j + 1) := by
  unfold stepM
  split
  · have hn : (nextM st).Ok N (j + 1) := ⟨h.g, Nat.le_succ_of_le h.n, by have := h.q0; show 1 ≤ st.nx + 1; omega, by have := h.q1; show st.nx + 1 ≤ ((j + 1 : Nat) : Int) + 1; omega, fun s => by have := h.u s; show endL st.all s ≤ _; omega, fun e he => by
      obtain ⟨h1, h2, h3⟩ := h.e e he
      exact ⟨h1, by show e.seq < st.nx + 1; omega, h3⟩⟩
    obtain ⟨a, hq⟩ := newM_ok h hN ht
    -- the sizes are those of the state before
    have hn0 : addM (nextM st) (newM N st t) = ⟨addX st.X (atM st (newM N st t)), st.all ++ [atM st (newM N st t)], st.nx + 1⟩ := by
      unfold addM
      rw [if_neg (fun hd => by
        obtain ⟨o, ho, _, h2⟩ := dupM_iff.1 hd
        exact hq o ho h2)]
      rfl
    obtain ⟨_, _, b3, _⟩ := addM_ok (st := ⟨st.X, st.all, st.nx + 1⟩) (j := j + 1) hn (by omega) a
    rw [hn0]
    refine ⟨(show (addM (nextM st) (newM N st t)).Ok N (j + 1 + 1) from b3).g |> (fun g => by rw [hn0] at g; exact g), ?_, ?_, ?_, fun s => ?_, ?_⟩
    · show (st.all ++ [_]).length ≤ j + 1
      have := h.n
      rw [List.length_append]; simp; omega
    · have := h.q0; show 1 ≤ st.nx + 1; omega
    · have := h.q1; show st.nx + 1 ≤ ((j + 1 : Nat) : Int) + 1; omega
    · show endL (st.all ++ [atM st (newM N st t)]) s ≤ 78 * ((j + 1 : Nat) : Int)
      rw [endL_snoc]
      have hs := h.u s
      have hz := a.z
      unfold endF
      split
      · rename_i he
        have hs2 : (newM N st t).slot = s := he
        show max _ (endL st.all (newM N st t).slot + (newM N st t).size) ≤ _
        rw [hs2]
        omega
      · omega
    · have := (show (addM (nextM st) (newM N st t)).Ok N (j + 1 + 1) from b3).e
      rw [hn0] at this
      exact this
  · split
    · split
      · exact MS.later h (by omega)
      · rename_i hne
        exact (addM_ok h (by omega) (cpM_ok h hN hne ht)).2.2.1
    · exact MS.later (dropM_ok h (Int.emod_nonneg _ (by omega)) (Int.emod_lt_of_pos _ (by omega))).1 (by omega)
theorem foldM_ok (n : Nat) (h1 : 1 ≤ n) (h2 : n ≤ 32) : ∀ (j : Nat) (L : List Tn), L.length = j → j ≤ 100 → (∀ t ∈ L, t.Ok) → (foldM n L).Ok n j
  | 0, L, hL, _, _ => by
    rw [List.eq_nil_of_length_eq_zero hL]
    exact ⟨FG.start n h1 h2 _, by show 0 ≤ 0; omega, by show (1 : Int) ≤ 1; omega, by show (1 : Int) ≤ 0 + 1; omega, fun s => by show (0 : Int) ≤ 78 * 0; omega, (fun _ h => by cases h)⟩
  | j + 1, L, hL, hj, ht => by
    have hne : L ≠ [] := fun h => by rw [h] at hL; cases hL
    have e := List.dropLast_concat_getLast hne
    have h3 := foldM_ok n h1 h2 j L.dropLast (by rw [List.length_dropLast]; omega) (by omega) (fun m h => ht m (List.dropLast_subset L h))
    rw [← e, foldM_snoc]
    exact stepM_ok h3 (by omega) (by omega) (ht _ (List.getLast_mem hne))
end Go.Proofs.YtmdfickejpeofaaGreat

/- drumlinref21's Drop; drumlinlaw22's Made: end. -/
set_option linter.unusedVariables false
set_option linter.unusedSimpArgs false
namespace Go.Proofs.YtmdfickejpeofaaGreat
open Go.RowKit Go.Shelf
attribute [local go_sem] OvM cell_ovm obj_ovm
attribute [local go_sem] Oper.semAt_some

def nsP (s : Int) (o : En) : Bool := !decide (o.slot = s)
theorem tfs {l : List En} {p : En → Bool} {i : Nat} {x : En} (h : l[i]? = some x) : (l.take (i + 1)).filter p = (l.take i).filter p ++ if p x then [x] else [] := by
  rw [List.take_add_one, h, List.filter_append]
  congr 1
  simp only [Option.toList_some, List.filter_cons, List.filter_nil]
set_option maxRecDepth 40000 in
set_option maxHeartbeats 8000000 in
theorem rDrop {w0 w : World} {rb : Nat} {N : Int} {v : Value} {all : List En} {R : List Asn} (h : SW w0 (rIx rb N v all R) w) (s : Int) (h0 : 0 ≤ s) (h1 : s < N) (hn : all.length ≤ 200) :
    Calls Tryz.prog 47 #[.pointer (some ⟨rb, 0, none⟩), .int .i64 s] w fun r w' => r = .returned (.tuple #[.int .i64 ((all.length : Int) - (all.filter (nsP s)).length), .int .i64 0]) ∧ ∃ v', SW w0 (rIx rb N v' (all.filter (nsP s)) R) w' := by
  obtain ⟨i0, hi, hz0, hz1, hz2⟩ := info_parts infoIten
  have H := Lib.hid h
  obtain ⟨av, cv, rfl, hcv, hmv, hat⟩ := ownE_at (show Own w 56 6 v all.length (rowE all) from h.get (i := 1) rfl)
  have HAT := Lib.hid hat
  unfold maxLen at hmv
  have hN0 : 0 < N := by omega
  have n0 : ¬ s < 0 := by omega
  have n1 : ¬ N ≤ s := by omega
  have dr0 := ((cellsOf (show w.heap[rb]? = _ from H.out.get (i := 0) rfl)).1 0).trans (show _ = some (Value.int .i64 N) from rfl)
  clear h hat
  go_enter Tryz.func47, Tryz.ntmps47
  go_wp2_with (go_at_call 71; refine (rvalid (H.out.get (i := 0) rfl) hN0).mono ?_; rintro e w2 ⟨rfl, rfl⟩)
  go_loopw [6, 7] (fun t6 t7 wx => ∃ i : Nat, i ≤ all.length ∧ t7 = .int .i64 i ∧ Hid (Nw w wx 56 6 t6 ((all.take i).filter (nsP s)).length (rowE ((all.take i).filter (nsP s))) ∧ Gr w wx)) (fun _ t7 _ => all.length - (intOf t7).toNat)
  case atStart => exact ⟨0, by omega, rfl, Lib.hid ⟨⟨nilRow _ _ _, fun q hq => by cases hq⟩, Gr.refl _⟩⟩
  case round =>
    obtain ⟨i, hil, rfl, HI⟩ := hrel
    clear dr0
    have hrb : wr.heap[rb]? = _ := HI.out.2.blk (H.out.get (i := 0) rfl)
    have dr1 := ((cellsOf hrb).1 1).trans (show _ = some (Value.slice av all.length cv) from rfl)
    have HRB := Lib.hid hrb
    clear hrb
    by_cases hli : i < all.length
    · have hli' : (i : Int) < all.length := by omega
      obtain ⟨x, hx⟩ : ∃ x, all[i]? = some x := ⟨_, List.getElem?_eq_getElem hli⟩
      obtain ⟨g0, rfl, _, _, hc⟩ := HAT.out i x hx
      have hr : ∀ i' u, (enC x)[i']? = some u → wr.cell? ⟨g0, i * 6 + i', none⟩ = some u := fun i' u hu => HI.out.2.keep (hc i' u hu)
      have d0 := hr 0 _ rfl
      have d1 := hr 1 _ rfl
      have d2 := hr 2 _ rfl
      have d3 := hr 3 _ rfl
      have d4 := hr 4 _ rfl
      have d5 := hr 5 _ rfl
      simp only [Nat.add_zero] at d0 d1 d2 d3 d4 d5
      have HTF := Lib.hid (tfs (p := nsP s) hx)
      have hfl : ((all.take i).filter (nsP s)).length ≤ 1000 := by
        have h1 := List.length_filter_le (nsP s) (all.take i)
        rw [List.length_take] at h1
        omega
      clear hr hc hx
      by_cases hxs : x.slot = s
      · have hb : (x.slot == s) = true := beq_iff_eq.2 hxs
        have hb2 : (x.slot != s) = false := by simp [bne, hb]
        have HTG : Hid ((all.take (i + 1)).filter (nsP s) = (all.take i).filter (nsP s)) := Lib.hid (by rw [HTF.out, show nsP s x = false by unfold nsP; rw [decide_eq_true hxs]; rfl, if_neg (by decide), List.append_nil])
        clear hxs
        go_wp2_with fail
        exact ⟨⟨i + 1, by omega, by simp, Lib.hid ⟨by rw [HTG.out]; exact HI.out.1, HI.out.2⟩⟩, by simp [intOf]; omega⟩
      · have hb : (x.slot == s) = false := beq_false_of_ne hxs
        have hb2 : (x.slot != s) = true := by simp [bne, hb]
        have HTG : Hid ((all.take (i + 1)).filter (nsP s) = (all.take i).filter (nsP s) ++ [x]) := Lib.hid (by rw [HTF.out, show nsP s x = true by unfold nsP; rw [decide_eq_false hxs]; rfl, if_pos rfl])
        clear hxs
        go_wp2_with (first
          | (at_builtin; go_must (refine wpList_appv _ rfl (.tmp 41) (.tmp 49) 37 rfl 56 i0 _ 6 56 Tryz.underlying37 hi hz0 hz1 hz2 rfl (by decide) u6 ((all.take i).filter (nsP s)).length (rowE ((all.take i).filter (nsP s))) rfl (HI.out.1.own.gr (by (repeat (first | (with_reducible exact Gr.refl _) | assumption | (with_reducible apply Gr.from_drew) | (with_reducible apply Gr.alloc) | (with_reducible apply Gr.drew) | (with_reducible refine Gr.trans ?_ (by assumption)) | (with_reducible refine Gr.setCell ?_ (by omega) _))))) (some ⟨wr.heap.size, 0, none⟩) 1 1 (enC x) rfl (src_newK wr (enC x) _ 6 rfl (enC_one x)) (by simp only [maxLen]; omega) (by omega) ?_); intro v2 w2 hA; have N2 := Lib.hid (hA.nw (HI.out.1.gr ((Gr.refl wr).alloc _)) (by have := HI.out.2.sz; simp; omega)); have HG2 := Lib.hid (hA.gw (HI.out.1.gr ((Gr.refl wr).alloc _)) (HI.out.2.alloc _)); clear hA)
          | fail)
        exact ⟨⟨i + 1, by omega, by simp, Lib.hid ⟨by rw [HTG.out, rowE_snoc, List.length_append]; exact N2.out, HG2.out⟩⟩, by simp [intOf]; omega⟩
    · have hli' : ¬ (i : Int) < all.length := by omega
      obtain rfl : i = all.length := by omega
      rw [List.take_length] at HI
      obtain ⟨a6, c6, rfl, _, _, _⟩ := ownE_at HI.out.1.own
      have hfl : (all.filter (nsP s)).length ≤ all.length := List.length_filter_le _ _
      obtain ⟨_, fr⟩ := cellsOf HRB.out
      have lr := blkLt HRB.out
      generalize hfn : (all.filter (nsP s)).length = fn at *
      go_wp2_with fail
      go_ret2
      rw [← hfn] at HI ⊢
      refine ⟨rfl, .slice a6 (all.filter (nsP s)).length c6, ?_⟩
      have h1 := H.out.new HI.out.2 (A := rowA 56 6 (.slice a6 (all.filter (nsP s)).length c6) (all.filter (nsP s)).length (rowE (all.filter (nsP s)))) HI.out.1.own (fun k hk => HI.out.1.new k hk)
      have h2 := h1.at (i := 1) rfl ((Mdh.refl (fun k => k = rb) wr).setCell (p := ⟨rb, 1, none⟩) rfl (.slice a6 (all.filter (nsP s)).length c6)) (fun k hk => .inl hk) (B := blkA rb (rmO N (.slice a6 (all.filter (nsP s)).length c6))) (blkSet (j := 1) HRB.out) (fun k hk => .inl hk)
      exact (h2.sub (.cons_cons _ (.cons_cons _ (.cons _ (List.Sublist.refl _))))).perm (List.Perm.swap _ _ _)

abbrev mdO (b rb : Nat) (v : Value) (nx : Int) : Obj := .cells #[.pointer (some ⟨b, 0, none⟩), .pointer (some ⟨rb, 0, none⟩), v, .int .i64 nx] 39
theorem endL_take {all : List En} {i : Nat} {x : En} (h : all[i]? = some x) (s : Int) : endL (all.take (i + 1)) s = endF s (endL (all.take i) s) x := by
  rw [List.take_add_one, h]
  exact endL_snoc _ _ _
theorem endL_le {all : List En} {m : Int} (hm : 0 ≤ m) (h : ∀ o ∈ all, o.off + o.size ≤ m) (s : Int) : endL all s ≤ m := by
  have h2 : ∀ (l : List En) (a : Int), a ≤ m → (∀ o ∈ l, o.off + o.size ≤ m) → l.foldl (endF s) a ≤ m := by
    intro l
    induction l with
    | nil => intro a ha _; exact ha
    | cons e l ih =>
      intro a ha hl
      refine ih _ ?_ (fun o ho => hl o (List.mem_cons_of_mem _ ho))
      have := hl e (List.mem_cons_self ..)
      unfold endF
      split <;> omega
  exact h2 all 0 hm h
set_option maxRecDepth 40000 in
set_option maxHeartbeats 8000000 in
theorem mEnd {w : World} {mb b rb : Nat} {v : Value} {nx : Int} {all : List En} (hm : w.heap[mb]? = some (mdO b rb v nx)) (hr : Own w 56 6 v all.length (rowE all)) (hn : all.length ≤ 200) (hb : ∀ o ∈ all, 0 ≤ o.off ∧ o.off ≤ 8192 ∧ 0 ≤ o.size ∧ o.size ≤ 8192) (s : Int) :
    Calls Tryz.prog 153 #[.pointer (some ⟨mb, 0, none⟩), .int .i64 s] w fun r w' => r = .returned (.int .i64 (endL all s)) ∧ Gr w w' := by
  obtain ⟨av, cv, rfl, hcv, hmv, hat⟩ := ownE_at hr
  have HAT := Lib.hid hat
  have HM := Lib.hid hm
  have HB := Lib.hid hb
  unfold maxLen at hmv
  clear hm hr hat hb
  go_enter Tryz.func153, Tryz.ntmps153
  go_wp2_with fail
  go_loopw [5, 6] (fun t5 t6 wx => ∃ i : Nat, i ≤ all.length ∧ t5 = .int .i64 (endL (all.take i) s) ∧ t6 = .int .i64 i ∧ Hid (Gr w wx)) (fun _ t6 _ => all.length - (intOf t6).toNat)
  case atStart => exact ⟨0, by omega, rfl, rfl, Lib.hid (Gr.refl _)⟩
  case round =>
    obtain ⟨i, hil, rfl, rfl, HI⟩ := hrel
    have dm := ((cellsOf (HI.out.blk HM.out)).1 2).trans (show _ = some (Value.slice av all.length cv) from rfl)
    by_cases hli : i < all.length
    · have hli' : (i : Int) < all.length := by omega
      obtain ⟨x, hx⟩ : ∃ x, all[i]? = some x := ⟨_, List.getElem?_eq_getElem hli⟩
      obtain ⟨g0, rfl, _, _, hc⟩ := HAT.out i x hx
      have d3 := HI.out.keep (hc 3 _ rfl)
      have d4 := HI.out.keep (hc 4 _ rfl)
      have d5 := HI.out.keep (hc 5 _ rfl)
      have HTE := Lib.hid (endL_take hx s)
      obtain ⟨q1, q2, q3, q4⟩ := HB.out x (List.mem_of_getElem? hx)
      have p1 := endL_nn (all.take i) s
      have p2 := endL_le (all := all.take i) (m := 16384) (by omega) (fun o ho => by have := HB.out o (List.mem_of_mem_take ho); omega) s
      generalize endL (all.take i) s = en at *
      clear hc hx
      by_cases hxs : x.slot = s
      · have hbb : (x.slot == s) = true := beq_iff_eq.2 hxs
        have HTG : Hid (endL (all.take (i + 1)) s = max en (x.off + x.size)) := Lib.hid (by rw [HTE.out]; exact if_pos hxs)
        clear hxs
        go_wp2_with fail
        refine wp_region_flo (fun _ => False) [] [] (by kernel_rfl) (by kernel_rfl) (fun _ h => h.elim) ?_
        refine flo_seg 20 rfl ?_
        simp only [List.take_succ_cons, List.take_zero, List.drop_succ_cons, List.drop_zero]
        repeat (go_big_quiet_step (fail))
        refine wpQuiet_nil ?_
        refine flo_nil ?_
        go_wp2_with fail
        all_goals
          refine ⟨⟨i + 1, by omega, by rw [HTG.out]; congr 1; omega, by simp, Lib.hid (HI.out.trans (Gr.refl _).drew)⟩, by simp [intOf]; omega⟩
      · have hbb : (x.slot == s) = false := beq_false_of_ne hxs
        have HTG : Hid (endL (all.take (i + 1)) s = en) := Lib.hid (by rw [HTE.out]; exact if_neg hxs)
        clear hxs
        go_wp2_with fail
        exact ⟨⟨i + 1, by omega, by rw [HTG.out], by simp, HI⟩, by simp [intOf]; omega⟩
    · have hli' : ¬ (i : Int) < all.length := by omega
      obtain rfl : i = all.length := by omega
      rw [List.take_length]
      go_wp2_with fail
      go_ret
      exact ⟨rfl, HI.out⟩
end Go.Proofs.YtmdfickejpeofaaGreat

/- drumlinlaw22's Made: add. -/
set_option linter.unusedVariables false
set_option linter.unusedSimpArgs false
namespace Go.Proofs.YtmdfickejpeofaaGreat
open Go.RowKit Go.Shelf
attribute [local go_sem] OvM cell_ovm obj_ovm
attribute [local go_sem] Oper.semAt_some

abbrev mL (b rb mb : Nat) (N : Int) (v1 v2 : Value) (S : Nat → Prop) (st : MS) (R : List Asn) : List Asn :=
  ixA b st.X S :: blkA rb (rmO N v1) :: rowA 56 6 v1 st.all.length (rowE st.all) :: blkA mb (mdO b rb v2 st.nx) :: rowA 56 6 v2 st.all.length (rowE st.all) :: R
/-- What stands behind a call of Made: the same index, with the state st. -/
def MdP (w0 : World) (b rb mb : Nat) (N : Int) (st : MS) (R : List Asn) (r : Ending) (w' : World) : Prop := r = .returned (.bool true) ∧ ∃ v1 v2 S, SW w0 (mL b rb mb N v1 v2 S st R) w'
theorem MS.Ok.rows {st : MS} {N : Int} {j : Nat} (h : st.Ok N j) : ∀ o ∈ st.all, 0 ≤ o.off ∧ o.off ≤ 8192 ∧ 0 ≤ o.size ∧ o.size ≤ 8192 := fun o ho => by
  have := h.g.val ho
  omega
theorem MS.Ok.rix {st : MS} {N : Int} {j : Nat} (h : st.Ok N j) (hN : 1 ≤ N) (e : En) : rAddC N st.all e = addE st.X e := rAddC_eq h.g.wf h.g.ln hN h.g.pm e
/-- The order of the parts behind the reference's Add. -/
theorem h8p {w0 w : World} {A B C D E F : Asn} {R : List Asn} (h : SW w0 (A :: B :: C :: D :: E :: F :: R) w) : SW w0 (D :: A :: B :: E :: F :: R) w :=
  ((h.pick (i := 3) rfl)).sub (.cons_cons _ (.cons_cons _ (.cons_cons _ (.cons _ (List.Sublist.refl _)))))
set_option maxRecDepth 40000 in
set_option maxHeartbeats 8000000 in
theorem mAdd {w0 w : World} {b rb mb : Nat} {N : Int} {v1 v2 : Value} {S : Nat → Prop} {st : MS} {R : List Asn} {j : Nat} {e : En} (h : SW w0 (mL b rb mb N v1 v2 S st R) w) (hst : st.Ok N j) (hj : j ≤ 101) (hN : 1 ≤ N) (ha : AddM st N e) :
    Calls Tryz.prog 112 #[.pointer (some ⟨mb, 0, none⟩), enV e] w (MdP w0 b rb mb N (addM st e) R) := by
  obtain ⟨i0, hi, hz0, hz1, hz2⟩ := info_parts infoIten
  have H := Lib.hid h
  have hn : st.all.length ≤ 101 := Nat.le_trans hst.n hj
  have HOK := Lib.hid (addM_ok hst hj ha)
  have HB := Lib.hid hst.rows
  have HRX := Lib.hid (hst.rix hN (atM st e))
  have hlo := endL_nn st.all e.slot
  have hhi : endL st.all e.slot ≤ 7878 := HOK.out.2.2.2.2.2.2.2
  have HAM : Hid (addM st e = if dupM st e = true then st else ⟨addX st.X (atM st e), st.all ++ [atM st e], st.nx⟩) := Lib.hid rfl
  have HDV : Hid ((dupM st e = true → addE st.X (atM st e) = 6) ∧ (dupM st e = false → addE st.X (atM st e) = 0)) := Lib.hid ⟨HOK.out.1, HOK.out.2.1⟩
  have HLO : Hid (Low (atM st e).key ∧ En64 (atM st e)) := Lib.hid ⟨HOK.out.2.2.2.1, HOK.out.2.2.2.2.1⟩
  obtain ⟨am, ham⟩ : ∃ am, am = addM st e := ⟨_, rfl⟩
  obtain ⟨dv, hdv⟩ : ∃ dv, dv = dupM st e := ⟨_, rfl⟩
  obtain ⟨f, hf⟩ : ∃ f, f = atM st e := ⟨_, rfl⟩
  rw [← ham] at HAM ⊢
  rw [← hdv] at HAM HDV
  rw [← hf] at HAM HDV HLO HRX
  have HF : Hid (f = ⟨e.seq, e.key, e.del, e.slot, endL st.all e.slot, e.size⟩) := Lib.hid hf
  clear h hst ha HOK ham hdv hf
  obtain ⟨e0, e1, e2, e3, e4, e5⟩ := e
  obtain ⟨X, all, nx⟩ := st
  simp only [enV] at *
  go_enter Tryz.func112, Tryz.ntmps112
  go_upto_region 1 with fail
  obtain ⟨b3, hb3⟩ : ∃ q, q = w.heap.size := ⟨_, rfl⟩
  obtain ⟨w1, hw1⟩ : ∃ y, y = w.alloc (boxF ⟨e0, e1, e2, e3, e4, e5⟩) := ⟨_, rfl⟩
  have H1 : Hid (SW w0 (blkA b3 (boxF ⟨e0, e1, e2, e3, e4, e5⟩) :: mL b rb mb N v1 v2 S ⟨X, all, nx⟩ R) w1) := Lib.hid (by rw [hw1, hb3]; exact H.out.alloc _)
  simp only [boxF] at hw1
  rw [← hb3, ← hw1]
  clear hw1 hb3 H
  have d3 := (cellsOf (show w1.heap[b3]? = _ from H1.out.get (i := 0) rfl)).1
  have l3 := blkLt (show w1.heap[b3]? = _ from H1.out.get (i := 0) rfl)
  simp only [boxF] at d3
  have d33 : w1.cell? ⟨b3, 3, none⟩ = some (.int .i64 e3) := d3 3
  clear d3
  go_wp2_with fail
  refine (mEnd (H1.out.get (i := 4) rfl) (H1.out.get (i := 5) rfl) (show all.length ≤ 200 by omega) HB.out e3).mono ?_
  rintro r w2 ⟨rfl, hg⟩
  have H2 := Lib.hid (H1.out.gr hg)
  clear hg d33 l3 H1
  obtain ⟨_, f3⟩ := cellsOf (show w2.heap[b3]? = _ from H2.out.get (i := 0) rfl)
  have l3 := blkLt (show w2.heap[b3]? = _ from H2.out.get (i := 0) rfl)
  go_upto_region 2 with fail
  obtain ⟨w3, hw3⟩ : ∃ y, y = w2.setCell ⟨b3, 4, none⟩ (.int .i64 (endL all e3)) := ⟨_, rfl⟩
  have H3 : Hid (SW w0 (blkA b3 (boxF f) :: mL b rb mb N v1 v2 S ⟨X, all, nx⟩ R) w3) := Lib.hid (by
    rw [hw3, HF.out]
    exact H2.out.at (i := 0) rfl ((Mdh.refl (fun k => k = b3) w2).setCell (p := ⟨b3, 4, none⟩) rfl _) (fun k hk => .inl hk) (B := blkA b3 (boxF ⟨e0, e1, e2, e3, endL all e3, e5⟩)) (blkSet (j := 4) (H2.out.get (i := 0) rfl)) (fun k hk => .inl hk))
  rw [← hw3]
  clear hw3 l3 f3 H2 HF
  have H3p : Hid (SW w0 (rIx rb N v1 all (blkA b3 (boxF f) :: ixA b X S :: blkA mb (mdO b rb v2 nx) :: rowA 56 6 v2 all.length (rowE all) :: R)) w3) := Lib.hid ((H3.out.pick (i := 3) rfl).pick (i := 3) rfl)
  have d3 := (cellsOf (show w3.heap[b3]? = _ from H3.out.get (i := 0) rfl)).1
  (try simp only [boxF] at d3)
  have dm := (cellsOf (show w3.heap[mb]? = _ from H3.out.get (i := 4) rfl)).1
  have dm1 := (dm 1).trans (show _ = some (Value.pointer (some ⟨rb, 0, none⟩)) from rfl)
  have lrb := blkLt (show w3.heap[rb]? = _ from H3.out.get (i := 2) rfl)
  have hN1 : ¬ mb = rb := fun h => (H3.out.get_ne (i := 4) (j := 2) rfl rfl (by decide)) mb rfl h
  have hN2 : ¬ b3 = rb := fun h => (H3.out.get_ne (i := 0) (j := 2) rfl rfl (by decide)) b3 rfl h
  clear dm
  have HRA : Hid (Calls Tryz.prog 45 #[.pointer (some ⟨rb, 0, none⟩), enV f] w3.drew (RAddP w0 w3.drew rb N all (blkA b3 (boxF f) :: ixA b X S :: blkA mb (mdO b rb v2 nx) :: rowA 56 6 v2 all.length (rowE all) :: R) f)) := Lib.hid (rAdd f (H3p.out.gr (Gr.refl w3).drew) hN HB.out HLO.out.2.2.2 (by omega))
  have HRL : Hid (rAddL N all f = if rAddC N all f = 0 then all ++ [f] else all) := Lib.hid rfl
  obtain ⟨f0, f1, f2, f3, f4, f5⟩ := f
  simp only [enV] at HRA
  (try simp only at d3)
  clear H3 H3p
  refine wp_region_flo (fun k => k = rb) [] [] (by kernel_rfl) (by kernel_rfl) (fun k hk => by subst hk; exact lrb) ?_
  refine flo_seg 5 rfl ?_
  simp only [List.take_succ_cons, List.take_zero, List.drop_succ_cons, List.drop_zero]
  repeat (go_big_quiet_step (fail))
  refine wpQuiet_nil ?_
  refine flo_eff rfl rfl rfl rfl (fun K hK => ?_)
  go_wp2_with ((go_at_call 45; refine Calls.mono HRA.out ?_; rintro e' w4 ⟨rfl, hm, v1', hs⟩; have H4 := Lib.hid hs; have HM4 := Lib.hid hm; clear hs hm))
  refine ⟨by exact HM4.out.mono (fun k hk => .inl hk), ?_⟩
  refine flo_seg 1 rfl ?_
  simp only [List.take_succ_cons, List.take_zero, List.drop_succ_cons, List.drop_zero]
  repeat (go_big_quiet_step (fail))
  refine wpQuiet_nil ?_
  refine flo_nil ?_
  clear d3 dm1 hN1 hN2 lrb HRA HM4
  have HAD : ∀ {w' : World} {S' : Nat → Prop}, IXR w' b X S' → Calls Tryz.prog 44 #[.pointer (some ⟨b, 0, none⟩), enV ⟨f0, f1, f2, f3, f4, f5⟩] w' fun e' w'' => e' = .returned (.int .i64 (addE X ⟨f0, f1, f2, f3, f4, f5⟩)) ∧ IXPost b (addX X ⟨f0, f1, f2, f3, f4, f5⟩) S' w' w'' := fun h => Add_any h _ HLO.out.1 HLO.out.2
  cases dv with
  | true =>
    have hc6 := HDV.out.1 rfl
    have hc6' := HRX.out.trans hc6
    have HL6 : Hid (rAddL N all ⟨f0, f1, f2, f3, f4, f5⟩ = all) := Lib.hid (by rw [HRL.out, hc6', if_neg (by decide)])
    have HX6 : Hid (addX X ⟨f0, f1, f2, f3, f4, f5⟩ = X) := Lib.hid (addX_no (by rw [hc6]; decide))
    have HA6 : Hid (am = ⟨X, all, nx⟩) := Lib.hid (by rw [HAM.out, if_pos rfl])
    rw [HL6.out] at H4
    have HIX : IXR w4 b X S := H4.out.get (i := 3) rfl
    have HA := Lib.hid (HAD (HIX.gr (Gr.refl w4).drew))
    rw [hc6] at HA
    simp only [enV] at HA
    rw [hc6']
    have d3 := (cellsOf (show w4.heap[b3]? = _ from H4.out.get (i := 2) rfl)).1
    (try simp only [boxF] at d3)
    have dm0 := ((cellsOf (show w4.heap[mb]? = _ from H4.out.get (i := 4) rfl)).1 0).trans (show _ = some (Value.pointer (some ⟨b, 0, none⟩)) from rfl)
    have hN1 : ¬ S mb := fun h => (H4.out.get_ne (i := 3) (j := 4) rfl rfl (by decide)) mb h rfl
    have hN2 : ¬ S b3 := fun h => (H4.out.get_ne (i := 3) (j := 2) rfl rfl (by decide)) b3 h rfl
    have HSL := Lib.hid (fun k (hk : S k) => HIX.lt k hk)
    clear HIX hc6 hc6' HAD
    go_wp2_with fail
    refine wp_region_flo (S) [] [] (by kernel_rfl) (by kernel_rfl) (HSL.out) ?_
    refine flo_seg 5 rfl ?_
    simp only [List.take_succ_cons, List.take_zero, List.drop_succ_cons, List.drop_zero]
    repeat (go_big_quiet_step (fail))
    refine wpQuiet_nil ?_
    refine flo_eff rfl rfl rfl rfl (fun K hK => ?_)
    go_wp2_with ((go_at_call 44; refine Calls.mono HA.out ?_; rintro e' w8 ⟨rfl, S8, hI8, hm8, hn8⟩; rw [HX6.out] at hI8; have HI8 := Lib.hid hI8; have HM8 := Lib.hid hm8; have HN8 := Lib.hid hn8; clear hI8 hm8 hn8))
    refine ⟨by exact HM8.out.mono (fun k hk => .inl hk), ?_⟩
    refine flo_seg 2 rfl ?_
    simp only [List.take_succ_cons, List.take_zero, List.drop_succ_cons, List.drop_zero]
    repeat (go_big_quiet_step (fail))
    refine wpQuiet_nil ?_
    refine flo_nil ?_
    have H8 := (H4.out.gr (Gr.refl w4).drew).at (i := 3) rfl HM8.out (fun k hk => .inl hk) (B := ixA b X S8) HI8.out HN8.out
    have HE : Hid (SW w0 (mL b rb mb N v1' v2 S8 ⟨X, all, nx⟩ R) w8) := Lib.hid ((h8p H8))
    go_wp2_with fail
    go_ret
    exact ⟨rfl, v1', v2, S8, by rw [HA6.out]; exact HE.out⟩
  | false =>
    have hc0 := HDV.out.2 rfl
    have hc0' := HRX.out.trans hc0
    have HL6 : Hid (rAddL N all ⟨f0, f1, f2, f3, f4, f5⟩ = all ++ [⟨f0, f1, f2, f3, f4, f5⟩]) := Lib.hid (by rw [HRL.out, hc0', if_pos rfl])
    have HA6 : Hid (am = ⟨addX X ⟨f0, f1, f2, f3, f4, f5⟩, all ++ [⟨f0, f1, f2, f3, f4, f5⟩], nx⟩) := Lib.hid (by rw [HAM.out, if_neg (by decide)])
    rw [HL6.out] at H4
    rw [hc0'] 
    have HC0 := Lib.hid hc0
    have HAD2 := Lib.hid (fun (w' : World) (S' : Nat → Prop) (h : IXR w' b X S') => HAD h)
    have HO : Hid (Own w4 56 6 v2 all.length (rowE all)) := Lib.hid (show Own w4 56 6 v2 all.length (rowE all) from H4.out.get (i := 5) rfl)
    obtain ⟨a2, c2, rfl, hc2, hm2, _⟩ := ownE_at HO.out
    unfold maxLen at hm2
    have d3 := (cellsOf (show w4.heap[b3]? = _ from H4.out.get (i := 2) rfl)).1
    (try simp only [boxF] at d3)
    have dm2 := ((cellsOf (show w4.heap[mb]? = _ from H4.out.get (i := 4) rfl)).1 2).trans (show _ = some (Value.slice a2 all.length c2) from rfl)
    have hN1 : ¬ (Value.slice a2 all.length c2).ownBlock = some mb := fun h => (H4.out.get_ne (i := 5) (j := 4) rfl rfl (by decide)) mb h rfl
    have hN2 : ¬ (Value.slice a2 all.length c2).ownBlock = some b3 := fun h => (H4.out.get_ne (i := 5) (j := 2) rfl rfl (by decide)) b3 h rfl
    clear hc0 hc0' HAD
    go_wp2_with fail
    have HG := Gr.refl w4.drew
    refine wp_region_flt 8 (fun q => (Value.slice a2 all.length c2).ownBlock = some q) [] [] (by kernel_rfl) (by kernel_rfl) (by decide) (by kernel_rfl) (fun q hq => HO.out.lt hq) ?_
    simp only [List.take_succ_cons, List.take_zero, List.drop_succ_cons, List.drop_zero]
    refine flo_seg 6 rfl ?_
    simp only [List.take_succ_cons, List.take_zero, List.drop_succ_cons, List.drop_zero]
    repeat (go_big_quiet_step (fail))
    refine wpQuiet_nil ?_
    refine flo_eff rfl rfl rfl rfl (fun K hK => ?_)
    go_wp2
    refine ⟨by (first | (refine Gr.mdh ?_ _; (repeat (first | (with_reducible exact Gr.refl _) | assumption | (with_reducible apply Gr.from_drew) | (with_reducible apply Gr.alloc) | (with_reducible apply Gr.drew) | (with_reducible refine Gr.trans ?_ (by assumption)) | (with_reducible refine Gr.setCell ?_ (by omega) _))); done) | (repeat (first | (with_reducible exact Mdh.refl _ _) | (with_reducible refine Mdh.setCell ?_ (by simp) _) | (with_reducible refine Mdh.setNew ?_ (by simp) _) | (with_reducible apply Mdh.alloc) | (with_reducible apply Mdh.from_drew) | (with_reducible apply Mdh.drew) | (with_reducible refine Mdh.gr ?_ (by assumption))))), ?_⟩
    refine flo_eff rfl rfl rfl rfl (fun K hK => ?_)
    refine wp_appv _ (.tmp 28) (.tmp 30) 37 rfl 56 i0 _ 6 56 Tryz.underlying37 hi hz0 hz1 hz2 rfl (by decide) (Value.slice a2 all.length c2) all.length (rowE all) rfl (HO.out.gr (by (repeat (first | (with_reducible exact Gr.refl _) | assumption | (with_reducible apply Gr.from_drew) | (with_reducible apply Gr.alloc) | (with_reducible apply Gr.drew) | (with_reducible refine Gr.trans ?_ (by assumption)) | (with_reducible refine Gr.setCell ?_ (by omega) _))))) (some ⟨w4.heap.size, 0, none⟩) 1 1 (enC ⟨f0, f1, f2, f3, f4, f5⟩) rfl ((show SrcAt (w4.alloc (.cells #[.int .i64 f0, .string f1, .bool f2, .int .i64 f3, .int .i64 f4, .int .i64 f5] 56)) 6 (some ⟨w4.heap.size, 0, none⟩) 1 (enC ⟨f0, f1, f2, f3, f4, f5⟩) from src_newK w4 (enC ⟨f0, f1, f2, f3, f4, f5⟩) _ 6 rfl (enC_one ⟨f0, f1, f2, f3, f4, f5⟩)).gr (by (repeat (first | (with_reducible exact Gr.refl _) | assumption | (with_reducible apply Gr.from_drew) | (with_reducible apply Gr.alloc) | (with_reducible apply Gr.drew) | (with_reducible refine Gr.trans ?_ (by assumption)) | (with_reducible refine Gr.setCell ?_ (by omega) _))))) (by simp only [maxLen]; omega) (by omega) (fun v3 xa hk3 => ?_); obtain ⟨a3, c3, rfl⟩ := hk3.val; refine hK _ _ ⟨hk3.mdh (fun q hq => .inl hq), ?_⟩; simp only [Act.put, List.setIfInBounds_toArray, List.set_cons_succ, List.set_cons_zero]
    refine flo_nil ?_
    have H5 : Hid (SW w0 (rIx rb N v1' (all ++ [⟨f0, f1, f2, f3, f4, f5⟩]) (blkA b3 (boxF ⟨f0, f1, f2, f3, f4, f5⟩) :: ixA b X S :: blkA mb (mdO b rb (.slice a2 all.length c2) nx) :: rowA 56 6 (.slice a3 (all.length + 1) c3) (all ++ [(⟨f0, f1, f2, f3, f4, f5⟩ : En)]).length (rowE (all ++ [(⟨f0, f1, f2, f3, f4, f5⟩ : En)])) :: R)) xa) := Lib.hid ((H4.out.gr (((Gr.refl w4).alloc _).drew)).at (i := 5) rfl (hk3.mdh (fun g h => h)) (fun k hk => .inl hk) (B := rowA 56 6 (.slice a3 (all.length + 1) c3) (all ++ [(⟨f0, f1, f2, f3, f4, f5⟩ : En)]).length (rowE (all ++ [(⟨f0, f1, f2, f3, f4, f5⟩ : En)]))) (by
      show Own _ _ _ _ _ _
      rw [rowE_snoc, List.length_append]
      exact hk3.1) (fun k hq => hk3.2.1 k hq))
    have hbm : xa.heap[mb]? = some (mdO b rb (.slice a2 all.length c2) nx) := H5.out.get (i := 4) rfl
    have H6 : Hid (SW w0 (rIx rb N v1' (all ++ [⟨f0, f1, f2, f3, f4, f5⟩]) (blkA b3 (boxF ⟨f0, f1, f2, f3, f4, f5⟩) :: ixA b X S :: blkA mb (mdO b rb (.slice a3 (all.length + 1) c3) nx) :: rowA 56 6 (.slice a3 (all.length + 1) c3) (all ++ [(⟨f0, f1, f2, f3, f4, f5⟩ : En)]).length (rowE (all ++ [(⟨f0, f1, f2, f3, f4, f5⟩ : En)])) :: R)) (xa.setCell ⟨mb, 2, none⟩ (.slice a3 (all.length + 1) c3))) := Lib.hid (H5.out.at (i := 4) rfl ((Mdh.refl (fun k => k = mb) xa).setCell (p := ⟨mb, 2, none⟩) rfl _) (fun k hk => .inl hk) (B := blkA mb (mdO b rb (.slice a3 (all.length + 1) c3) nx)) (blkSet (j := 2) hbm) (fun k hk => .inl hk))
    obtain ⟨_, fm⟩ := cellsOf hbm
    have lm := blkLt hbm
    obtain ⟨w6, hw6⟩ : ∃ y, y = xa.setCell ⟨mb, 2, none⟩ (.slice a3 (all.length + 1) c3) := ⟨_, rfl⟩
    rw [← hw6] at H6
    clear hbm hk3 HG d3 dm2 hN1 hN2 hc2 hm2
    go_upto_region 5 with fail
    rw [← hw6]
    clear hw6 fm lm H5 H4 HO
    have HIX : IXR w6 b X S := H6.out.get (i := 3) rfl
    have HA := Lib.hid (HAD2.out _ _ (HIX.gr (Gr.refl w6).drew))
    rw [HC0.out] at HA
    simp only [enV] at HA
    have d3 := (cellsOf (show w6.heap[b3]? = _ from H6.out.get (i := 2) rfl)).1
    (try simp only [boxF] at d3)
    have dm0 := ((cellsOf (show w6.heap[mb]? = _ from H6.out.get (i := 4) rfl)).1 0).trans (show _ = some (Value.pointer (some ⟨b, 0, none⟩)) from rfl)
    have hN1 : ¬ S mb := fun h => (H6.out.get_ne (i := 3) (j := 4) rfl rfl (by decide)) mb h rfl
    have hN2 : ¬ S b3 := fun h => (H6.out.get_ne (i := 3) (j := 2) rfl rfl (by decide)) b3 h rfl
    have HSL := Lib.hid (fun k (hk : S k) => HIX.lt k hk)
    clear HIX
    refine wp_region_flo (S) [] [] (by kernel_rfl) (by kernel_rfl) (HSL.out) ?_
    refine flo_seg 5 rfl ?_
    simp only [List.take_succ_cons, List.take_zero, List.drop_succ_cons, List.drop_zero]
    repeat (go_big_quiet_step (fail))
    refine wpQuiet_nil ?_
    refine flo_eff rfl rfl rfl rfl (fun K hK => ?_)
    go_wp2_with ((go_at_call 44; refine Calls.mono HA.out ?_; rintro e' w8 ⟨rfl, S8, hI8, hm8, hn8⟩; have HI8 := Lib.hid hI8; have HM8 := Lib.hid hm8; have HN8 := Lib.hid hn8; clear hI8 hm8 hn8))
    refine ⟨by exact HM8.out.mono (fun k hk => .inl hk), ?_⟩
    refine flo_seg 2 rfl ?_
    simp only [List.take_succ_cons, List.take_zero, List.drop_succ_cons, List.drop_zero]
    repeat (go_big_quiet_step (fail))
    refine wpQuiet_nil ?_
    refine flo_nil ?_
    have H8 := (H6.out.gr (Gr.refl w6).drew).at (i := 3) rfl HM8.out (fun k hk => .inl hk) (B := ixA b (addX X ⟨f0, f1, f2, f3, f4, f5⟩) S8) HI8.out HN8.out
    have HE : Hid (SW w0 (mL b rb mb N v1' (.slice a3 (all.length + 1) c3) S8 ⟨addX X ⟨f0, f1, f2, f3, f4, f5⟩, all ++ [⟨f0, f1, f2, f3, f4, f5⟩], nx⟩ R) w8) := Lib.hid (h8p H8)
    go_wp2_with fail
    go_ret
    exact ⟨rfl, v1', .slice a3 (all.length + 1) c3, S8, by rw [HA6.out]; exact HE.out⟩
end Go.Proofs.YtmdfickejpeofaaGreat

/- drumlinlaw22's Made: Names, Begin. -/
set_option linter.unusedVariables false
set_option linter.unusedSimpArgs false
namespace Go.Proofs.YtmdfickejpeofaaGreat
open Go.RowKit Go.Shelf
attribute [local go_sem] OvM cell_ovm obj_ovm
attribute [local go_sem] Oper.semAt_some

abbrev nmO : Obj := .cells #[.string ⟨#[97]⟩, .string ⟨#[98]⟩, .string ⟨#[97, 98]⟩, .string ⟨#[107, 49]⟩, .string ⟨#[120, 46, 121]⟩, .string ⟨#[122, 122]⟩] 9
theorem nm_get (n : Int) (κ : Nat) (h : n % 6 = (κ : Int)) (hk : κ < 6) : (#[.string ⟨#[97]⟩, .string ⟨#[98]⟩, .string ⟨#[97, 98]⟩, .string ⟨#[107, 49]⟩, .string ⟨#[120, 46, 121]⟩, .string ⟨#[122, 122]⟩] : Array Value)[κ]? = some (.string (tnKey n)) := by
  unfold tnKey
  rw [h]
  have h' : κ = 0 ∨ κ = 1 ∨ κ = 2 ∨ κ = 3 ∨ κ = 4 ∨ κ = 5 := by omega
  rcases h' with rfl | rfl | rfl | rfl | rfl | rfl <;> rfl
set_option maxRecDepth 40000 in
theorem Names_any (w : World) : Calls Tryz.prog 19 #[] w fun e w' => e = .returned (.slice (some ⟨w.heap.size, 0, none⟩) 6 6) ∧ w' = w.alloc nmO := by
  go_enter Tryz.func19, Tryz.ntmps19
  go_wp2
  go_ret
  exact ⟨rfl, rfl⟩
def BegP (w0 : World) (n : Nat) (R : List Asn) (r : Ending) (w' : World) : Prop := ∃ b rb mb v1 v2 S, r = .returned (.tuple #[.pointer (some ⟨mb, 0, none⟩), .bool true]) ∧ SW w0 (mL b rb mb n v1 v2 S (foldM n []) R) w'
set_option maxRecDepth 40000 in
set_option maxHeartbeats 4000000 in
theorem Begin_any {w0 w : World} {R : List Asn} (h : SW w0 R w) (n : Nat) (h1 : 1 ≤ n) (h2 : n ≤ 32) : Calls Tryz.prog 7 #[.int .i64 n] w (BegP w0 n R) := by
  have H := Lib.hid h
  clear h
  go_enter Tryz.func7, Tryz.ntmps7
  go_wp2_with fail
  refine (New_any n w h1 h2).mono ?_
  rintro e w1 ⟨b, S, rfl, i1, i2, i3⟩
  have H1 : Hid (SW w0 (ixA b (ixNew n) S :: R) w1) := Lib.hid (H.out.ixnew i1 i2 i3)
  clear i1 i2 i3
  go_wp2_with fail
  refine (rNew n h1 h2 w1).mono ?_
  rintro e w2 ⟨rfl, rfl⟩
  obtain ⟨rb, hrb⟩ : ∃ q, q = w1.heap.size := ⟨_, rfl⟩
  obtain ⟨w2, hw2⟩ : ∃ y, y = w1.alloc (rmO n (.slice none 0 0)) := ⟨_, rfl⟩
  have H2 : Hid (SW w0 (blkA rb (rmO n (.slice none 0 0)) :: ixA b (ixNew n) S :: R) w2) := Lib.hid (by rw [hrb, hw2]; exact H1.out.alloc _)
  rw [← hrb, ← hw2]
  clear hrb hw2 H1
  go_wp2
  have H3 := H2.out.alloc (mdO b rb (.slice none 0 0) 1)
  have n1 : Own (w2.alloc (mdO b rb (.slice none 0 0) 1)) 56 6 (.slice none 0 0) 0 [] := nilRow _ _ _
  have H4 := (H3.new (Gr.refl _) (A := rowA 56 6 (.slice none 0 0) 0 []) n1 (fun k hk => by cases hk)).new (Gr.refl _) (A := rowA 56 6 (.slice none 0 0) 0 []) n1 (fun k hk => by cases hk)
  go_ret2
  refine ⟨b, rb, w2.heap.size, .slice none 0 0, .slice none 0 0, S, rfl, ?_⟩
  exact (((H4.pick (i := 2) rfl).pick (i := 2) rfl).pick (i := 3) rfl).pick (i := 4) rfl
end Go.Proofs.YtmdfickejpeofaaGreat
