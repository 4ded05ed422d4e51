/- The plain law: comparing products of 128 bits in two ways. No program in sight. -/
import Derived.Test.YtgpecjnnepocmaaScA
namespace Go.Proofs.Ytgpecjnnepocmaa

def benP (k a k' room : Int) : Int := (room - k) * a * (room + k')

def benZ (s k a s' k' a' room : Int) : Int :=
  if benP k' a' k room < benP k a k' room then -1 else if benP k a k' room < benP k' a' k room then 1 else cmpZ s s'

theorem benP_bd {k a k' room : Int} (h1 : 1 ≤ room) (h2 : room ≤ 8192) (h3 : 0 ≤ k) (h4 : k ≤ room) (h5 : 0 ≤ a) (h6 : a ≤ 1099511627776) (h7 : 0 ≤ k') (h8 : k' ≤ room) :
    0 ≤ (room - k) * a ∧ (room - k) * a ≤ 9007199254740992 ∧ 0 ≤ benP k a k' room ∧ benP k a k' room ≤ 147573952589676412928 := by
  have a1 : (room - k) * a ≤ 8192 * 1099511627776 := Int.mul_le_mul (by omega) h6 h5 (by omega)
  have a0 : 0 ≤ (room - k) * a := Int.mul_nonneg (by omega) h5
  have b1 : (room - k) * a * (room + k') ≤ 9007199254740992 * 16384 := Int.mul_le_mul (by omega) (by omega) (by omega) (by omega)
  have b0 : 0 ≤ (room - k) * a * (room + k') := Int.mul_nonneg a0 (by omega)
  unfold benP
  omega

theorem or_words (p q : Int) (_hp : 0 ≤ p) (_hq : 0 ≤ q) (c : Int) :
    orL [cmpZ (q / 18446744073709551616) (p / 18446744073709551616), cmpZ (q % 18446744073709551616) (p % 18446744073709551616), c] = if q < p then -1 else if p < q then 1 else c := by
  have hc : orL [c] = c := by
    unfold orL orL
    split
    · rfl
    · omega
  show (if cmpZ (q / 18446744073709551616) (p / 18446744073709551616) ≠ 0 then _ else if cmpZ (q % 18446744073709551616) (p % 18446744073709551616) ≠ 0 then _ else orL [c]) = _
  rw [hc]
  unfold cmpZ
  (repeat' split) <;> omega

theorem parts (x m : Int) : x * m = 1073741824 * (x / 1073741824 * m + x % 1073741824 * m / 1073741824) + x % 1073741824 * m % 1073741824 := by
  have h1 : x = 1073741824 * (x / 1073741824) + x % 1073741824 := by omega
  have h2 : x * m = 1073741824 * (x / 1073741824 * m) + x % 1073741824 * m := by
    conv => lhs; rw [h1]
    rw [Int.add_mul, Int.mul_assoc]
  rw [h2]
  generalize x % 1073741824 * m = u
  generalize x / 1073741824 * m = v
  omega

theorem lex_eq (p q a b c d : Int) (h1 : p = 1073741824 * a + b) (h2 : q = 1073741824 * c + d) (hb : 0 ≤ b) (hb' : b < 1073741824) (hd : 0 ≤ d) (hd' : d < 1073741824) :
    (decide (c < a) || (decide (a = c) && decide (d < b))) = decide (q < p) := by
  rw [Bool.eq_iff_iff]
  simp only [Bool.or_eq_true, Bool.and_eq_true, decide_eq_true_eq]
  omega

/-- The remainders and quotients by 2^30 of the reference say the same as the products. -/
theorem higher_eq (x m y n : Int) :
    (decide (y / 1073741824 * n + y % 1073741824 * n / 1073741824 < x / 1073741824 * m + x % 1073741824 * m / 1073741824) ||
      (decide (x / 1073741824 * m + x % 1073741824 * m / 1073741824 = y / 1073741824 * n + y % 1073741824 * n / 1073741824) && decide (y % 1073741824 * n % 1073741824 < x % 1073741824 * m % 1073741824))) = decide (y * n < x * m) :=
  lex_eq _ _ _ _ _ _ (parts x m) (parts y n) (by omega) (by omega) (by omega) (by omega)
end Go.Proofs.Ytgpecjnnepocmaa
