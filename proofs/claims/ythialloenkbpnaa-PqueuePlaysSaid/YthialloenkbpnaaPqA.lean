/- The plain law of a binary heap with places. No program in sight. -/
import Derived.Test.YthialloenkbpnaaRows
set_option linter.unusedVariables false
set_option linter.unusedSimpArgs false
namespace Go.Proofs.Ythialloenkbpnaa

def upd {β : Type} (f : Nat → β) (i : Nat) (x : β) : Nat → β := fun j => if j = i then x else f j
theorem upd_same {β : Type} (f : Nat → β) (i : Nat) (x : β) : upd f i x i = x := if_pos rfl
theorem upd_ne {β : Type} (f : Nat → β) (i : Nat) (x : β) {j : Nat} (h : j ≠ i) : upd f i x j = f j := if_neg h

/-- The parent of a place. -/
def par (j : Nat) : Nat := (j - 1) / 2

section
variable {α : Type}
/-- Two places exchanged. -/
def swpH (h : Nat → Nat × α) (i k : Nat) : Nat → Nat × α := upd (upd h i (h k)) k (h i)
def swpP (h : Nat → Nat × α) (pl : Nat → Nat) (i k : Nat) : Nat → Nat := upd (upd pl (h k).1 (i + 1)) (h i).1 (k + 1)
theorem swpH_at (h : Nat → Nat × α) (i k j : Nat) : swpH h i k j = if j = k then h i else if j = i then h k else h j := rfl

/-- Entries and places fit. -/
structure PI (n len : Nat) (h : Nat → Nat × α) (pl : Nat → Nat) : Prop where
  most : n ≤ 1024
  inr : ∀ j, j < len → (h j).1 < n
  fwd : ∀ j, j < len → pl (h j).1 = j + 1
  bwd : ∀ i, i < 1024 → pl i ≠ 0 → pl i ≤ len ∧ (h (pl i - 1)).1 = i

/-- What is told of an id. -/
def Mo (h : Nat → Nat × α) (pl : Nat → Nat) (i : Nat) : Option α := if pl i = 0 then none else some (h (pl i - 1)).2

theorem PI.inj {n len : Nat} {h : Nat → Nat × α} {pl : Nat → Nat} (P : PI n len h pl) {i j : Nat} (hi : i < len) (hj : j < len) (e : (h i).1 = (h j).1) : i = j := by
  have a := P.fwd i hi
  have b := P.fwd j hj
  rw [e] at a
  omega

theorem PI.swp {n len : Nat} {h : Nat → Nat × α} {pl : Nat → Nat} (P : PI n len h pl) {i k : Nat} (hi : i < len) (hk : k < len) : PI n len (swpH h i k) (swpP h pl i k) := by
  refine ⟨P.most, fun j hj => ?_, fun j hj => ?_, fun m hm hp => ?_⟩
  · rw [swpH_at]
    split
    · exact P.inr _ hi
    · split
      · exact P.inr _ hk
      · exact P.inr _ hj
  · rw [swpH_at]
    unfold swpP upd
    by_cases h1 : j = k
    · simp [h1]
    · by_cases h2 : j = i
      · subst h2
        have : (h k).1 ≠ (h j).1 := fun e => h1 (P.inj hj hk e.symm)
        simp [h1, this]
      · have e1 : (h j).1 ≠ (h i).1 := fun e => h2 (P.inj hj hi e)
        have e2 : (h j).1 ≠ (h k).1 := fun e => h1 (P.inj hj hk e)
        simp [h1, h2, e1, e2, P.fwd j hj]
  · unfold swpP upd at hp ⊢
    by_cases h1 : m = (h i).1
    · simp only [h1, if_true]
      exact ⟨by omega, by rw [swpH_at]; simp⟩
    · by_cases h2 : m = (h k).1
      · have h1' : (h k).1 ≠ (h i).1 := fun e => h1 (h2.trans e)
        simp only [h2, h1', if_false, if_true]
        refine ⟨by omega, ?_⟩
        rw [swpH_at]
        by_cases h3 : i = k
        · subst h3; exact absurd h2 h1
        · have : i + 1 - 1 = i := by omega
          rw [this, if_neg h3, if_pos rfl]
      · simp only [h1, h2, if_false] at hp ⊢
        obtain ⟨b1, b2⟩ := P.bwd m hm hp
        refine ⟨b1, ?_⟩
        rw [swpH_at]
        have n1 : pl m - 1 ≠ k := fun e => by rw [e] at b2; exact h2 b2.symm
        have n2 : pl m - 1 ≠ i := fun e => by rw [e] at b2; exact h1 b2.symm
        rw [if_neg n1, if_neg n2]; exact b2

theorem PI.mo_swp {n len : Nat} {h : Nat → Nat × α} {pl : Nat → Nat} (P : PI n len h pl) {i k : Nat} (hi : i < len) (hk : k < len) (m : Nat) (hm : m < 1024) : Mo (swpH h i k) (swpP h pl i k) m = Mo h pl m := by
  unfold Mo swpP upd
  by_cases h1 : m = (h i).1
  · have := P.fwd i hi
    rw [← h1] at this
    simp [h1.symm, this, swpH_at]
  · by_cases h2 : m = (h k).1
    · have := P.fwd k hk
      rw [← h2] at this
      have h3 : i ≠ k := fun e => by subst e; exact h1 h2
      rw [if_neg h1, if_pos h2, this]
      simp [swpH_at, h3]
    · simp only [h1, h2, if_false]
      by_cases hp : pl m = 0
      · simp [hp]
      · obtain ⟨b1, b2⟩ := P.bwd m hm hp
        have n1 : pl m - 1 ≠ k := fun e => by rw [e] at b2; exact h2 b2.symm
        have n2 : pl m - 1 ≠ i := fun e => by rw [e] at b2; exact h1 b2.symm
        simp [hp, swpH_at, n1, n2]

/-- An order of entries. -/
structure Ordr (lt : Nat × α → Nat × α → Prop) : Prop where
  asym : ∀ {a b}, lt a b → ¬ lt b a
  le : ∀ {a b c}, ¬ lt b a → ¬ lt c b → ¬ lt c a
  tri : ∀ {a b}, ¬ lt a b → ¬ lt b a → a = b

variable {lt : Nat × α → Nat × α → Prop}
def HeapOK (lt : Nat × α → Nat × α → Prop) (len : Nat) (h : Nat → Nat × α) : Prop := ∀ j, 0 < j → j < len → ¬ lt (h j) (h (par j))
/-- All is in order but what touches place i. -/
structure Up (lt : Nat × α → Nat × α → Prop) (len : Nat) (h : Nat → Nat × α) (i : Nat) : Prop where
  ok : ∀ j, 0 < j → j < len → j ≠ i → par j ≠ i → ¬ lt (h j) (h (par j))
  gr : ∀ j, 0 < j → j < len → par j = i → 0 < i → ¬ lt (h j) (h (par i))
/-- All is in order but the children of place i. -/
structure Dn (lt : Nat × α → Nat × α → Prop) (len : Nat) (h : Nat → Nat × α) (i : Nat) : Prop where
  ok : ∀ j, 0 < j → j < len → par j ≠ i → ¬ lt (h j) (h (par j))
  gr : ∀ j, 0 < j → j < len → par j = i → 0 < i → ¬ lt (h j) (h (par i))

theorem par_lt {j : Nat} (h : 0 < j) : par j < j := by unfold par; omega

theorem Up.step (O : Ordr lt) {len : Nat} {h : Nat → Nat × α} {i : Nat} (U : Up lt len h i) (h0 : 0 < i) (hi : i < len) (hl : lt (h i) (h (par i))) : Up lt len (swpH h i (par i)) (par i) := by
  have hp := par_lt h0
  refine ⟨fun j j0 jl n1 n2 => ?_, fun j j0 jl e p0 => ?_⟩
  · -- an edge that does not touch the parent
    have hpj := par_lt j0
    have nj : j ≠ i := fun e => n2 (by rw [e])
    simp only [swpH_at, n1, nj, n2, if_false]
    by_cases hc : par j = i
    · rw [if_pos hc]
      exact U.gr j j0 jl hc h0
    · rw [if_neg hc]
      exact U.ok j j0 jl nj hc
  · -- the children of the parent against its own parent
    have hpp := par_lt p0
    have e1 : par (par i) ≠ par i := by omega
    have e2 : par (par i) ≠ i := by omega
    have base : ¬ lt (h (par i)) (h (par (par i))) := U.ok (par i) p0 (by omega) (by omega) (by omega)
    have nj : j ≠ par i := fun ej => by rw [ej] at e; exact e1 e
    simp only [swpH_at, nj, e1, e2, if_false]
    by_cases hji : j = i
    · rw [if_pos hji]; exact base
    · rw [if_neg hji]
      have hj := U.ok j j0 jl hji (by omega)
      rw [e] at hj
      exact O.le base hj

theorem Up.done {len : Nat} {h : Nat → Nat × α} {i : Nat} (U : Up lt len h i) (hd : i = 0 ∨ ¬ lt (h i) (h (par i))) : Dn lt len h i := by
  refine ⟨fun j j0 jl n => ?_, U.gr⟩
  by_cases hji : j = i
  · subst hji
    rcases hd with rfl | hd
    · omega
    · exact hd
  · exact U.ok j j0 jl hji n

theorem Dn.step (O : Ordr lt) {len : Nat} {h : Nat → Nat × α} {i l : Nat} (D : Dn lt len h i) (hl : l < len) (hpl : par l = i) (l0 : 0 < l) (hlt : lt (h l) (h i))
    (hmin : ∀ k, 0 < k → k < len → par k = i → ¬ lt (h k) (h l)) : Dn lt len (swpH h i l) l := by
  have hil : i < l := by have := par_lt l0; omega
  have hle : ¬ lt (h i) (h l) := O.asym hlt
  refine ⟨fun j j0 jl n => ?_, fun j j0 jl e _ => ?_⟩
  · by_cases hjl : j = l
    · subst hjl
      have : par j ≠ j := by omega
      simp only [swpH_at, if_true, hpl, Nat.ne_of_lt hil, if_false]
      exact hle
    · by_cases hji : j = i
      · subst hji
        -- the place itself against its parent
        have hp := par_lt j0
        have n1 : par j ≠ j := by omega
        have n2 : par j ≠ l := n
        simp only [swpH_at, hjl, if_false, if_true, n1, n2]
        exact D.gr l l0 hl hpl j0
      · simp only [swpH_at, hjl, hji, if_false, n]
        by_cases hpi : par j = i
        · rw [if_pos hpi]
          exact hmin j j0 jl hpi
        · rw [if_neg hpi]
          exact D.ok j j0 jl hpi
  · have hj := par_lt j0
    have n1 : j ≠ l := by omega
    have n2 : j ≠ i := by omega
    simp only [swpH_at, n1, n2, if_false, hpl, Nat.ne_of_lt hil, if_true]
    have h1 := D.ok j j0 jl (by omega)
    rw [e] at h1
    exact h1

theorem Dn.done {len : Nat} {h : Nat → Nat × α} {i : Nat} (D : Dn lt len h i) (hd : ∀ k, 0 < k → k < len → par k = i → ¬ lt (h k) (h i)) : HeapOK lt len h := by
  intro j j0 jl
  by_cases e : par j = i
  · rw [e]; exact hd j j0 jl e
  · exact D.ok j j0 jl e

theorem HeapOK.root (O : Ordr lt) {len : Nat} {h : Nat → Nat × α} (K : HeapOK lt len h) : ∀ j, j < len → ¬ lt (h j) (h 0) := by
  intro j
  induction j using Nat.strongRecOn with
  | ind j ih =>
    intro hj
    by_cases h0 : j = 0
    · subst h0
      intro hl
      exact O.asym hl hl
    · have hp := par_lt (Nat.pos_of_ne_zero h0)
      exact O.le (ih _ hp (by omega)) (K j (Nat.pos_of_ne_zero h0) hj)

/-- The children of a place. -/
theorem par_child {k i : Nat} (h0 : 0 < k) (h : par k = i) : k = 2 * i + 1 ∨ k = 2 * i + 2 := by unfold par at h; omega
theorem par_left (i : Nat) : par (2 * i + 1) = i := by unfold par; omega
theorem par_right (i : Nat) : par (2 * i + 2) = i := by unfold par; omega

/-- Anything may stand in place i. -/
theorem HeapOK.up (O : Ordr lt) {len : Nat} {h h' : Nat → Nat × α} (K : HeapOK lt len h) {i : Nat} (e : ∀ j, j < len → j ≠ i → h' j = h j) (hi : i < len) : Up lt len h' i := by
  refine ⟨fun j j0 jl n1 n2 => ?_, fun j j0 jl e1 i0 => ?_⟩
  · have := par_lt j0
    rw [e j jl n1, e (par j) (by omega) n2]
    exact K j j0 jl
  · have h1 := par_lt j0
    have h2 := par_lt i0
    rw [e j jl (by omega), e (par i) (by omega) (by omega)]
    have k1 := K j j0 jl
    rw [e1] at k1
    exact O.le (K i i0 hi) k1
/-- The last one may be left off. -/
theorem HeapOK.less {len len' : Nat} {h : Nat → Nat × α} (K : HeapOK lt len h) (hl : len' ≤ len) : HeapOK lt len' h := fun j j0 jl => K j j0 (by omega)
theorem HeapOK.congr {len : Nat} {h h' : Nat → Nat × α} (K : HeapOK lt len h) (e : ∀ j, j < len → h' j = h j) : HeapOK lt len h' := fun j j0 jl => by
  have := par_lt j0
  rw [e j jl, e (par j) (by omega)]
  exact K j j0 jl

/-- No more than n different numbers below n. -/
theorem pigeon : ∀ (n len : Nat) (f : Nat → Nat), (∀ j, j < len → f j < n) → (∀ i j, i < len → j < len → f i = f j → i = j) → len ≤ n
  | 0, len, f, h, _ => by
    rcases Nat.eq_zero_or_pos len with h0 | h0
    · omega
    · have := h 0 h0; omega
  | n + 1, 0, _, _, _ => by omega
  | n + 1, m + 1, f, h, hi => by
    by_cases hx : ∃ j, j < m + 1 ∧ f j = n
    · obtain ⟨j0, hj0, e0⟩ := hx
      have ih := pigeon n m (fun j => if j = j0 then f m else f j) (fun j hj => ?_) (fun a b ha hb e => ?_)
      · omega
      · split
        · rename_i ej
          subst ej
          have h1 := h m (by omega)
          have : f m ≠ n := fun e => by have := hi m j (by omega) hj0 (e.trans e0.symm); omega
          omega
        · rename_i ej
          have h1 := h j (by omega)
          have : f j ≠ n := fun e => ej (hi j j0 (by omega) hj0 (e.trans e0.symm))
          omega
      · split at e <;> split at e
        · omega
        · rename_i e1 e2
          have := hi m b (by omega) (by omega) e
          omega
        · rename_i e1 e2
          have := hi a m (by omega) (by omega) e
          omega
        · exact hi a b (by omega) (by omega) e
    · have ih := pigeon n (m + 1) f (fun j hj => by
        have := h j hj
        have : f j ≠ n := fun e => hx ⟨j, hj, e⟩
        omega) hi
      omega
theorem PI.few {n len : Nat} {h : Nat → Nat × α} {pl : Nat → Nat} (P : PI n len h pl) : len ≤ n := pigeon n len (fun j => (h j).1) P.inr fun i j hi hj e => P.inj hi hj e

/-- One more entry. -/
theorem PI.push {n len : Nat} {h : Nat → Nat × α} {pl : Nat → Nat} (P : PI n len h pl) {id : Nat} (hid : id < n) (h0 : pl id = 0) (p : α) : PI n (len + 1) (upd h len (id, p)) (upd pl id (len + 1)) := by
  have ne : ∀ j, j < len → (h j).1 ≠ id := fun j hj e => by have := P.fwd j hj; rw [e] at this; omega
  refine ⟨P.most, fun j hj => ?_, fun j hj => ?_, fun m hm hp => ?_⟩
  · by_cases e : j = len
    · subst e; rw [upd_same]; exact hid
    · rw [upd_ne _ _ _ e]; exact P.inr j (by omega)
  · by_cases e : j = len
    · subst e; rw [upd_same, upd_same]
    · rw [upd_ne _ _ _ e, upd_ne _ _ _ (ne j (by omega))]; exact P.fwd j (by omega)
  · by_cases e : m = id
    · subst e
      rw [upd_same]
      exact ⟨Nat.le_refl _, by rw [show len + 1 - 1 = len by omega, upd_same]⟩
    · rw [upd_ne _ _ _ e] at hp ⊢
      obtain ⟨b1, b2⟩ := P.bwd m hm hp
      exact ⟨by omega, by rw [upd_ne _ _ _ (by omega)]; exact b2⟩
theorem PI.mo_push {n len : Nat} {h : Nat → Nat × α} {pl : Nat → Nat} (P : PI n len h pl) {id : Nat} (p : α) (m : Nat) (hm : m < 1024) : Mo (upd h len (id, p)) (upd pl id (len + 1)) m = if m = id then some p else Mo h pl m := by
  unfold Mo
  by_cases e : m = id
  · subst e
    simp [upd_same]
  · rw [upd_ne _ _ _ e, if_neg e]
    by_cases hp : pl m = 0
    · simp [hp]
    · obtain ⟨b1, _⟩ := P.bwd m hm hp
      rw [if_neg hp, if_neg hp, upd_ne _ _ _ (by omega)]
/-- Another priority. -/
theorem PI.chg {n len : Nat} {h : Nat → Nat × α} {pl : Nat → Nat} (P : PI n len h pl) {i : Nat} (p : α) : PI n len (upd h i ((h i).1, p)) pl := by
  have e : ∀ j, (upd h i ((h i).1, p) j).1 = (h j).1 := fun j => by
    by_cases e : j = i
    · subst e; rw [upd_same]
    · rw [upd_ne _ _ _ e]
  exact ⟨P.most, fun j hj => by rw [e]; exact P.inr j hj, fun j hj => by rw [e]; exact P.fwd j hj, fun m hm hp => by rw [e]; exact P.bwd m hm hp⟩
theorem PI.mo_chg {n len : Nat} {h : Nat → Nat × α} {pl : Nat → Nat} (P : PI n len h pl) {id : Nat} (hid : id < 1024) (h0 : pl id ≠ 0) (p : α) (m : Nat) (hm : m < 1024) : Mo (upd h (pl id - 1) ((h (pl id - 1)).1, p)) pl m = if m = id then some p else Mo h pl m := by
  unfold Mo
  by_cases e : m = id
  · subst e
    simp [upd_same, h0]
  · rw [if_neg e]
    by_cases hp : pl m = 0
    · simp [hp]
    · obtain ⟨b1, b2⟩ := P.bwd m hm hp
      obtain ⟨c1, c2⟩ := P.bwd id hid h0
      have : pl m - 1 ≠ pl id - 1 := fun e' => by rw [e'] at b2; exact e (b2.symm.trans c2)
      rw [if_neg hp, if_neg hp, upd_ne _ _ _ this]
/-- The last entry taken off. -/
theorem PI.cut {n len : Nat} {h : Nat → Nat × α} {pl : Nat → Nat} (P : PI n (len + 1) h pl) : PI n len h (upd pl (h len).1 0) := by
  refine ⟨P.most, fun j hj => P.inr j (by omega), fun j hj => ?_, fun m hm hp => ?_⟩
  · have : (h j).1 ≠ (h len).1 := fun e => by have := P.inj (by omega) (by omega) e; omega
    rw [upd_ne _ _ _ this]; exact P.fwd j (by omega)
  · by_cases e : m = (h len).1
    · subst e; rw [upd_same] at hp; exact absurd rfl hp
    · rw [upd_ne _ _ _ e] at hp ⊢
      obtain ⟨b1, b2⟩ := P.bwd m hm hp
      refine ⟨?_, b2⟩
      have : pl m ≠ len + 1 := fun e' => by rw [e', show len + 1 - 1 = len by omega] at b2; exact e b2.symm
      omega
theorem PI.mo_cut {n len : Nat} {h : Nat → Nat × α} {pl : Nat → Nat} (_P : PI n (len + 1) h pl) (m : Nat) : Mo h (upd pl (h len).1 0) m = if m = (h len).1 then none else Mo h pl m := by
  unfold Mo
  by_cases e : m = (h len).1
  · simp [e, upd_same]
  · rw [upd_ne _ _ _ e, if_neg e]
/-- Only the entries that there are count. -/
theorem PI.congr {n len : Nat} {h h' : Nat → Nat × α} {pl : Nat → Nat} (P : PI n len h pl) (e : ∀ j, j < len → h' j = h j) : PI n len h' pl := by
  refine ⟨P.most, fun j hj => by rw [e j hj]; exact P.inr j hj, fun j hj => by rw [e j hj]; exact P.fwd j hj, fun m hm hp => ?_⟩
  obtain ⟨b1, b2⟩ := P.bwd m hm hp
  exact ⟨b1, by rw [e _ (by omega)]; exact b2⟩
theorem PI.empty (n : Nat) (hn : n ≤ 1024) (h : Nat → Nat × α) : PI n 0 h (fun _ => 0) := ⟨hn, fun j hj => by omega, fun j hj => by omega, fun i _ hp => absurd rfl hp⟩
theorem HeapOK.empty (h : Nat → Nat × α) : HeapOK lt 0 h := fun j _ hj => by omega
end
end Go.Proofs.Ythialloenkbpnaa
