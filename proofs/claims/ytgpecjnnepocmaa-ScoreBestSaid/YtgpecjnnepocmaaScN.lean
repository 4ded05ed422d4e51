/- Sides made of numbers are valid; the policies order them totally. Mostly plain. -/
import Derived.Test.YtgpecjnnepocmaaScM
namespace Go.Proofs.Ytgpecjnnepocmaa
open Go.RowKit

theorem madeK_get (l : List Nm) (room : Int) : ∀ n i, i < n → (madeK l room n)[i]? = some (mkS room i (l[i]?.getD (0, 0)))
  | 0, i, h => by omega
  | n + 1, i, h => by
    rw [madeK]
    by_cases hin : i < n
    · rw [List.getElem?_append_left (by rw [madeK_length]; exact hin)]
      exact madeK_get l room n i hin
    · obtain rfl : i = n := by omega
      rw [List.getElem?_append_right (by rw [madeK_length]; omega), madeK_length]
      simp

theorem rowS_get (l : List Sd) : ∀ i, i < l.length → (rowS l)[i * 3]? = some (.int .i64 (l[i]?.getD (0, 0, 0)).1) ∧ (rowS l)[i * 3 + 1]? = some (.int .i64 (l[i]?.getD (0, 0, 0)).2.1) ∧ (rowS l)[i * 3 + 2]? = some (.int .i64 (l[i]?.getD (0, 0, 0)).2.2) := by
  induction l with
  | nil => intro i h; simp at h
  | cons x l ih =>
    intro i h
    have e : rowS (x :: l) = cellsS x ++ rowS l := rfl
    rw [e]
    cases i with
    | zero => simp [cellsS]
    | succ i =>
      have := ih i (by simpa using h)
      have e1 : (i + 1) * 3 = i * 3 + 3 := by omega
      rw [e1, List.getElem?_append_right (by simp [cellsS]), List.getElem?_append_right (by simp [cellsS]), List.getElem?_append_right (by simp [cellsS])]
      simpa [cellsS, show i * 3 + 3 + 1 - 3 = i * 3 + 1 by omega, show i * 3 + 3 + 2 - 3 = i * 3 + 2 by omega] using this

/-- A row of sides that is not empty. -/
theorem sides_of_row {w : World} {base n : Nat} {v : Value} {t : TypeId} {l : List Sd} (h : w.ownsRow base t 3 v n (rowS l)) (_hl : l.length = n) (hn : 0 < n) :
    ∃ g cap, v = .slice (some ⟨g, 0, none⟩) n cap ∧ n ≤ cap ∧ cap ≤ maxLen ∧ g < w.heap.size ∧ base ≤ g ∧ SidesAt w g 0 l := by
  rcases h.2 with ⟨_, h0⟩ | ⟨g, cap, cur, rfl, hb, hg, h1, h2, h3, h4⟩
  · omega
  · refine ⟨g, cap, rfl, h1, h2, (Array.getElem?_eq_some_iff.1 hg).1, hb, fun i hi => ?_⟩
    have hc := h.cells (g := g) rfl
    obtain ⟨r1, r2, r3⟩ := rowS_get l i hi
    have hadd : ∀ j, (⟨g, 0, none⟩ : Addr).add j = ⟨g, j, none⟩ := fun j => by unfold Addr.add; split <;> simp_all
    rw [Nat.zero_add]
    exact ⟨by rw [← hadd]; exact hc _ _ r1, by rw [← hadd]; exact hc _ _ r2, by rw [← hadd]; exact hc _ _ r3⟩

theorem mkS_chk (room : Int) (i : Nat) (x : Nm) (h1 : 1 ≤ room) (h2 : room ≤ 8192) (hi : i < 32) (_hx : 0 ≤ x.1) (_hx2 : 0 ≤ x.2) : chkB (mkS room i x).1 (mkS room i x).2.1 (mkS room i x).2.2 room = true := by
  have q1 : 0 ≤ x.1 % (room + 1) := Int.emod_nonneg _ (by omega)
  have q2 : x.1 % (room + 1) < room + 1 := Int.emod_lt_of_pos _ (by omega)
  have q3 : 0 ≤ x.2 % 1099511627777 := Int.emod_nonneg _ (by omega)
  have q4 : x.2 % 1099511627777 < 1099511627777 := Int.emod_lt_of_pos _ (by omega)
  show chkB (i : Int) (x.1 % (room + 1)) (x.2 % 1099511627777) room = true
  simp only [chkB, inB, Bool.and_eq_true, decide_eq_true_eq]
  exact ⟨⟨⟨⟨h1, h2⟩, ⟨by omega, by omega⟩⟩, ⟨q1, by omega⟩⟩, ⟨q3, by omega⟩⟩

/-! ### Both policies are one shape -/
def lexZ (q p s s' : Int) : Int := if q < p then -1 else if p < q then 1 else cmpZ s s'
theorem lexZ_neg (q p s s' : Int) : lexZ q p s s' = -1 ↔ (q < p ∨ q = p ∧ s < s') := by
  unfold lexZ cmpZ
  (repeat' split) <;> constructor <;> intro h <;> omega
theorem lexZ_pos (q p s s' : Int) : lexZ q p s s' = 1 ↔ (p < q ∨ q = p ∧ s' < s) := by
  unfold lexZ cmpZ
  (repeat' split) <;> constructor <;> intro h <;> omega
theorem lexZ_zero (q p s s' : Int) : lexZ q p s s' = 0 ↔ (q = p ∧ s = s') := by
  unfold lexZ cmpZ
  (repeat' split) <;> constructor <;> intro h <;> omega

theorem lexZ_cases (q p s s' : Int) (h : s ≠ s') : (lexZ q p s s' = -1 ∧ (q < p ∨ q = p ∧ s < s')) ∨ (lexZ q p s s' = 1 ∧ (p < q ∨ q = p ∧ s' < s)) := by
  unfold lexZ cmpZ
  (repeat' split) <;> omega

theorem greedy_lex (s k s' k' : Int) : greedy s k s' k' = lexZ k k' s s' := by
  simp only [greedy, orL, lexZ, cmpZ]
  (repeat' split) <;> omega
theorem pol1_lex (s k a s' k' a' room : Int) : polC 1 s k a s' k' a' room = lexZ k k' s s' := by
  simp only [polC, if_true, greedy_lex]
theorem pol2_lex (s k a s' k' a' room : Int) (c1 : chkB s k a room = true) (c2 : chkB s' k' a' room = true) : polC 2 s k a s' k' a' room = lexZ (benP k' a' k room) (benP k a k' room) s s' := by
  simp [polC, benefit, c1, c2, benZ, lexZ]

theorem cross (p1 p2 p3 q1 q2 q3 : Int) (h1 : 0 < q1) (h2 : 0 < q2) (h3 : 0 < q3) (ha : p2 * q1 ≤ p1 * q2) (hb : p3 * q2 ≤ p2 * q3) : p3 * q1 ≤ p1 * q3 ∧ ((p2 * q1 < p1 * q2 ∨ p3 * q2 < p2 * q3) → p3 * q1 < p1 * q3) := by
  have e1 : p3 * q1 * q2 = p3 * q2 * q1 := by rw [Int.mul_right_comm]
  have e2 : p2 * q3 * q1 = p2 * q1 * q3 := by rw [Int.mul_right_comm]
  have e3 : p1 * q2 * q3 = p1 * q3 * q2 := by rw [Int.mul_right_comm]
  have i1 : p3 * q2 * q1 ≤ p2 * q3 * q1 := Int.mul_le_mul_of_nonneg_right hb (by omega)
  have i2 : p2 * q1 * q3 ≤ p1 * q2 * q3 := Int.mul_le_mul_of_nonneg_right ha (by omega)
  constructor
  · exact Int.le_of_mul_le_mul_right (a := q2) (by omega) h2
  · rintro (h | h)
    · have := Int.mul_lt_mul_of_pos_right h h3
      exact Int.lt_of_mul_lt_mul_right (a := q2) (by omega) (by omega)
    · have := Int.mul_lt_mul_of_pos_right h h1
      exact Int.lt_of_mul_lt_mul_right (a := q2) (by omega) (by omega)

/-- What is true of three sides with different slots. -/
theorem total3 (policy room : Int) (hp : policy = 1 ∨ policy = 2) (s1 k1 a1 s2 k2 a2 s3 k3 a3 : Int) (c1 : chkB s1 k1 a1 room = true) (c2 : chkB s2 k2 a2 room = true) (c3 : chkB s3 k3 a3 room = true) (h12 : s1 ≠ s2) (h23 : s2 ≠ s3) (h13 : s1 ≠ s3) :
    (polC policy s1 k1 a1 s2 k2 a2 room = 1 ∨ polC policy s1 k1 a1 s2 k2 a2 room = -1) ∧ (polC policy s2 k2 a2 s3 k3 a3 room = 1 ∨ polC policy s2 k2 a2 s3 k3 a3 room = -1) ∧ (polC policy s1 k1 a1 s3 k3 a3 room = 1 ∨ polC policy s1 k1 a1 s3 k3 a3 room = -1) ∧
    polC policy s2 k2 a2 s1 k1 a1 room = - polC policy s1 k1 a1 s2 k2 a2 room ∧
    (polC policy s1 k1 a1 s2 k2 a2 room = polC policy s2 k2 a2 s3 k3 a3 room → polC policy s1 k1 a1 s3 k3 a3 room = polC policy s1 k1 a1 s2 k2 a2 room) := by
  rcases hp with rfl | rfl
  · simp only [pol1_lex]
    rcases lexZ_cases k1 k2 s1 s2 h12 with ⟨e1, f1⟩ | ⟨e1, f1⟩ <;> rcases lexZ_cases k2 k3 s2 s3 h23 with ⟨e2, f2⟩ | ⟨e2, f2⟩ <;> rcases lexZ_cases k1 k3 s1 s3 h13 with ⟨e3, f3⟩ | ⟨e3, f3⟩ <;> rcases lexZ_cases k2 k1 s2 s1 h12.symm with ⟨e4, f4⟩ | ⟨e4, f4⟩ <;> refine ⟨by omega, by omega, by omega, by omega, fun h => by omega⟩
  · simp only [pol2_lex _ _ _ _ _ _ _ c1 c2, pol2_lex _ _ _ _ _ _ _ c2 c3, pol2_lex _ _ _ _ _ _ _ c1 c3, pol2_lex _ _ _ _ _ _ _ c2 c1]
    obtain ⟨r1, r2, _, _, x1, x2, _, _⟩ := chk_bd c1
    obtain ⟨_, _, _, _, y1, y2, _, _⟩ := chk_bd c2
    obtain ⟨_, _, _, _, z1, z2, _, _⟩ := chk_bd c3
    have t1 := cross ((room - k1) * a1) ((room - k2) * a2) ((room - k3) * a3) (room + k1) (room + k2) (room + k3) (by omega) (by omega) (by omega)
    have t2 := cross ((room - k3) * a3) ((room - k2) * a2) ((room - k1) * a1) (room + k3) (room + k2) (room + k1) (by omega) (by omega) (by omega)
    simp only [← benP.eq_1] at t1 t2
    revert t1 t2
    generalize benP k1 a1 k2 room = p12
    generalize benP k2 a2 k1 room = p21
    generalize benP k2 a2 k3 room = p23
    generalize benP k3 a3 k2 room = p32
    generalize benP k1 a1 k3 room = p13
    generalize benP k3 a3 k1 room = p31
    intro t1 t2
    rcases lexZ_cases p21 p12 s1 s2 h12 with ⟨e1, f1⟩ | ⟨e1, f1⟩ <;> rcases lexZ_cases p32 p23 s2 s3 h23 with ⟨e2, f2⟩ | ⟨e2, f2⟩ <;> rcases lexZ_cases p31 p13 s1 s3 h13 with ⟨e3, f3⟩ | ⟨e3, f3⟩ <;> rcases lexZ_cases p12 p21 s2 s1 h12.symm with ⟨e4, f4⟩ | ⟨e4, f4⟩ <;> refine ⟨by omega, by omega, by omega, by omega, fun h => by omega⟩
end Go.Proofs.Ytgpecjnnepocmaa
