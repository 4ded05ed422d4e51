/- The plain law of score.Best: counting slots, and the best of a list. No program in sight. -/
import Derived.Test.YtgpecjnnepocmaaScA
namespace Go.Proofs.Ytgpecjnnepocmaa

abbrev Sd := Int × Int × Int

/-- How many of a list have a slot. -/
def cntL (l : List Sd) (j : Int) : Int := ((l.filter fun x => x.1 == j).length : Nat)

theorem cntL_snoc (l : List Sd) (x : Sd) (j : Int) : cntL (l ++ [x]) j = cntL l j + if x.1 = j then 1 else 0 := by
  unfold cntL
  rw [List.filter_append]
  by_cases h : x.1 = j <;> simp [h]

theorem cntL_bd (l : List Sd) (j : Int) : 0 ≤ cntL l j ∧ cntL l j ≤ l.length := by
  unfold cntL
  exact ⟨by omega, by have := List.length_filter_le (fun x : Sd => x.1 == j) l; omega⟩

/-- Has one of the first k come twice by then? -/
def twB (l : List Sd) : Nat → Bool
  | 0 => false
  | k + 1 => twB l k || decide (1 < cntL (l.take (k + 1)) (l[k]?.getD (0, 0, 0)).1)

theorem take_snoc' (l : List Sd) (k : Nat) (h : k < l.length) : l.take (k + 1) = l.take k ++ [l[k]?.getD (0, 0, 0)] := by
  rw [List.take_succ_eq_append_getElem h, List.getElem?_eq_getElem h]; rfl

theorem cntL_pos (l : List Sd) (j : Int) : 0 < cntL l j ↔ ∃ x ∈ l, x.1 = j := by
  unfold cntL
  constructor
  · intro h
    have : 0 < (l.filter fun x => x.1 == j).length := by omega
    obtain ⟨x, hx⟩ := List.exists_mem_of_length_pos this
    obtain ⟨h1, h2⟩ := List.mem_filter.1 hx
    exact ⟨x, h1, by simpa using h2⟩
  · rintro ⟨x, hx, rfl⟩
    have := List.length_pos_of_mem (List.mem_filter.2 ⟨hx, by simp⟩ : x ∈ l.filter fun y => y.1 == x.1)
    omega

/-- As the reference says it. -/
def dupP (l : List Sd) : Prop := ∃ i k, k < i ∧ i < l.length ∧ (l[i]?.getD (0, 0, 0)).1 = (l[k]?.getD (0, 0, 0)).1

theorem twB_iff (l : List Sd) : ∀ n, n ≤ l.length → (twB l n = true ↔ ∃ i k, k < i ∧ i < n ∧ (l[i]?.getD (0, 0, 0)).1 = (l[k]?.getD (0, 0, 0)).1)
  | 0, _ => by simp [twB]
  | n + 1, h => by
    have ih := twB_iff l n (by omega)
    have e : (1 < cntL (l.take (n + 1)) (l[n]?.getD (0, 0, 0)).1) ↔ ∃ k, k < n ∧ (l[n]?.getD (0, 0, 0)).1 = (l[k]?.getD (0, 0, 0)).1 := by
      rw [take_snoc' l n (by omega), cntL_snoc, if_pos rfl]
      have : (1 < cntL (l.take n) (l[n]?.getD (0, 0, 0)).1 + 1) ↔ 0 < cntL (l.take n) (l[n]?.getD (0, 0, 0)).1 := by omega
      rw [this, cntL_pos]
      constructor
      · rintro ⟨x, hx, he⟩
        obtain ⟨k, hk, rfl⟩ := List.mem_take_iff_getElem.1 hx
        exact ⟨k, by omega, by rw [List.getElem?_eq_getElem (show k < l.length by omega)]; exact he.symm⟩
      · rintro ⟨k, hk, he⟩
        refine ⟨l[k], List.mem_take_iff_getElem.2 ⟨k, by omega, rfl⟩, ?_⟩
        rw [List.getElem?_eq_getElem (show k < l.length by omega)] at he
        exact he.symm
    simp only [twB, Bool.or_eq_true, decide_eq_true_eq, ih, e]
    constructor
    · rintro (⟨i, k, h1, h2, h3⟩ | ⟨k, h1, h2⟩)
      · exact ⟨i, k, h1, by omega, h3⟩
      · exact ⟨n, k, h1, by omega, h2⟩
    · rintro ⟨i, k, h1, h2, h3⟩
      by_cases hin : i = n
      · subst hin; exact .inr ⟨k, h1, h3⟩
      · exact .inl ⟨i, k, h1, by omega, h3⟩

/-- The best so far, by a comparison. -/
def bestK (f : Sd → Sd → Int) (l : List Sd) : Nat → Sd
  | 0 => l[0]?.getD (0, 0, 0)
  | k + 1 => if f (l[k + 1]?.getD (0, 0, 0)) (bestK f l k) < 0 then l[k + 1]?.getD (0, 0, 0) else bestK f l k
end Go.Proofs.Ytgpecjnnepocmaa
