/- Three numbers of floating point, by their ranks. -/
import Derived.Test.YthialloenkbpnaaPqK
namespace Go.Proofs.Ythialloenkbpnaa
open Go.RowKit
/-- -0.5, 0.25, 0.5. -/
def flB (x : Fin 3) : Nat := if x = 0 then 13826050856027422720 else if x = 1 then 4598175219545276416 else 4602678819172646912
def cmpF (x y : Fin 3) : Int := cmpZ x.val y.val
theorem ordF : ∀ (x y : Fin 3), FloatKind.f64.format.order (flB x) (flB y) = some (compare x.val y.val)
  | 0, 0 => by kernel_rfl
  | 0, 1 => by kernel_rfl
  | 0, 2 => by kernel_rfl
  | 1, 0 => by kernel_rfl
  | 1, 1 => by kernel_rfl
  | 1, 2 => by kernel_rfl
  | 2, 0 => by kernel_rfl
  | 2, 1 => by kernel_rfl
  | 2, 2 => by kernel_rfl
theorem isNaN_float64 (x : Fin 3) (w : World) : Calls Try.prog 108 #[.float .f64 (flB x)] w fun e w' => e = .returned (.bool false) ∧ w = w' := by
  have k1 := ordF x x
  rw [Nat.compare_eq_eq.2 rfl] at k1
  go_enter Try.func108, Try.ntmps108
  go_wp2
  go_ret
  exact ⟨rfl, rfl⟩
theorem Compare_float64 (x y : Fin 3) (w : World) : Calls Try.prog 103 #[.float .f64 (flB x), .float .f64 (flB y)] w fun e w' => e = .returned (.int .i64 (cmpF x y)) ∧ w = w' := by
  have k1 := ordF x y
  go_enter Try.func103, Try.ntmps103
  rcases Nat.lt_trichotomy x.val y.val with h | h | h
  · rw [Nat.compare_eq_lt.2 h] at k1
    go_wp2_with (go_at_call 108; refine (isNaN_float64 _ _).mono ?_; rintro e w' ⟨rfl, rfl⟩)
    all_goals
      go_ret
      refine ⟨ret_int ?_, rfl⟩
      unfold cmpF cmpZ
      simp_all <;> omega
  · rw [Nat.compare_eq_eq.2 h] at k1
    go_wp2_with (go_at_call 108; refine (isNaN_float64 _ _).mono ?_; rintro e w' ⟨rfl, rfl⟩)
    all_goals
      go_ret
      refine ⟨ret_int ?_, rfl⟩
      unfold cmpF cmpZ
      simp_all <;> omega
  · rw [Nat.compare_eq_gt.2 h] at k1
    go_wp2_with (go_at_call 108; refine (isNaN_float64 _ _).mono ?_; rintro e w' ⟨rfl, rfl⟩)
    all_goals
      go_ret
      refine ⟨ret_int ?_, rfl⟩
      unfold cmpF cmpZ
      simp_all <;> omega
/-- A store of a number of floating point. -/
theorem run_store_float (P : Program) (w : World) (a : Addr) (m : Mode) (k : FloatKind) (n : Nat) : (store a (.float k n) m).run P w = stored P w a (.float k n) m := run_store P w a _ m rfl
theorem cmpF_neg (x y : Fin 3) : cmpF x y < 0 ↔ x.val < y.val := by
  unfold cmpF
  rw [cmpZ_neg]
  omega
theorem cmpF_zero (x y : Fin 3) : cmpF x y = 0 ↔ x.val = y.val := by
  unfold cmpF
  rw [cmpZ_zero]
  omega
end Go.Proofs.Ythialloenkbpnaa
