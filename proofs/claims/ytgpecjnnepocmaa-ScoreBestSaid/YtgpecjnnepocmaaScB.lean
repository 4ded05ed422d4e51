/- Contracts of score.Check, Greedy, Benefit, and of their references. -/
import Derived.Test.YtgpecjnnepocmaaScA
import Derived.Test.YtgpecjnnepocmaaFlow
import Derived.Lib.Mul64
import Derived.Laws.Bits64b
import Derived.BigQuiet
namespace Go.Proofs.Ytgpecjnnepocmaa
open Go.RowKit
attribute [local go_sem] Ovs cell_ov obj_ov shape_ov

def chkB (s k a room : Int) : Bool := inB room 1 8192 && inB s 0 31 && inB k 0 room && inB a 0 1099511627776
def errOf (b : Bool) : Int := if b then 0 else 2

set_option maxHeartbeats 400000 in
theorem Check_any (s k a room : Int) (w : World) :
    Calls Try.prog 11 #[.agg #[.int .i64 s, .int .i64 k, .int .i64 a], .int .i64 room] w fun e w' => e = .returned (.int .i64 (errOf (chkB s k a room))) ∧ Gr w w' := by
  go_enter Try.func11, Try.ntmps11
  go_wp2_with (first | (go_at_call 28; refine (in_int _ _ _ _).mono ?_; rintro e w' ⟨rfl, rfl⟩) | (go_at_call 29; refine (in_i64 _ _ _ _).mono ?_; rintro e w' ⟨rfl, rfl⟩))
  all_goals
    go_ret
    exact ⟨ret_int (by simp_all [chkB, errOf]), by (repeat (first | (with_reducible exact Gr.refl _) | assumption | (with_reducible apply Gr.from_drew) | (with_reducible apply Gr.alloc) | (with_reducible apply Gr.drew) | (with_reducible refine Gr.trans ?_ (by assumption)) | (with_reducible refine Gr.setCell ?_ (by omega) _)))⟩

set_option maxHeartbeats 400000 in
theorem refCheck_any (s k a room : Int) (w : World) :
    Calls Try.prog 12 #[.agg #[.int .i64 s, .int .i64 k, .int .i64 a], .int .i64 room] w fun e w' => e = .returned (.int .i64 (errOf (chkB s k a room))) ∧ Gr w w' := by
  go_enter Try.func12, Try.ntmps12
  go_wp2
  all_goals
    go_ret
    exact ⟨ret_int (by simp only [chkB, inB, errOf]; (repeat' split) <;> simp_all <;> omega), by (repeat (first | (with_reducible exact Gr.refl _) | assumption | (with_reducible apply Gr.from_drew) | (with_reducible apply Gr.alloc) | (with_reducible apply Gr.drew) | (with_reducible refine Gr.trans ?_ (by assumption)) | (with_reducible refine Gr.setCell ?_ (by omega) _)))⟩

def greedy (s k s' k' : Int) : Int := orL [cmpZ k k', cmpZ s s']

set_option maxHeartbeats 400000 in
theorem Greedy_any (s k a s' k' a' : Int) (w : World) :
    Calls Try.prog 13 #[.agg #[.int .i64 s, .int .i64 k, .int .i64 a], .agg #[.int .i64 s', .int .i64 k', .int .i64 a']] w fun e w' => e = .returned (.int .i64 (greedy s k s' k')) ∧ Gr w w' := by
  go_enter Try.func13, Try.ntmps13
  go_wp2
  refine wp_region_flow (by kernel_rfl) (by kernel_rfl) ?_
  refine flow_seg 4 rfl ?_
  simp only [List.take_succ_cons, List.take_zero, List.drop_succ_cons, List.drop_zero]
  repeat (go_big_quiet_step (fail))
  refine wpQuiet_nil ?_
  refine flow_eff rfl rfl (fun K hK => ?_)
  go_wp2_with ((go_at_call 31; refine (Compare_int _ _ _).mono ?_; rintro e w' ⟨rfl, rfl⟩))
  refine ⟨Gr.ovs (by (repeat (first | (with_reducible exact Gr.refl _) | assumption | (with_reducible apply Gr.from_drew) | (with_reducible apply Gr.alloc) | (with_reducible apply Gr.drew) | (with_reducible refine Gr.trans ?_ (by assumption)) | (with_reducible refine Gr.setCell ?_ (by omega) _)))), ?_⟩
  refine flow_seg 4 rfl ?_
  simp only [List.take_succ_cons, List.take_zero, List.drop_succ_cons, List.drop_zero]
  repeat (go_big_quiet_step (fail))
  refine wpQuiet_nil ?_
  refine flow_eff rfl rfl (fun K hK => ?_)
  go_wp2_with ((go_at_call 31; refine (Compare_int _ _ _).mono ?_; rintro e w' ⟨rfl, rfl⟩))
  refine ⟨Gr.ovs (by (repeat (first | (with_reducible exact Gr.refl _) | assumption | (with_reducible apply Gr.from_drew) | (with_reducible apply Gr.alloc) | (with_reducible apply Gr.drew) | (with_reducible refine Gr.trans ?_ (by assumption)) | (with_reducible refine Gr.setCell ?_ (by omega) _)))), ?_⟩
  refine flow_eff rfl rfl (fun K hK => ?_)
  go_wp2
  refine ⟨Gr.ovs (by (repeat (first | (with_reducible exact Gr.refl _) | assumption | (with_reducible apply Gr.from_drew) | (with_reducible apply Gr.alloc) | (with_reducible apply Gr.drew) | (with_reducible refine Gr.trans ?_ (by assumption)) | (with_reducible refine Gr.setCell ?_ (by omega) _)))), ?_⟩
  refine flow_eff rfl rfl (fun K hK => ?_)
  go_wp2_with ((go_at_call 30; refine (Or_two _ (cmpZ k k') (cmpZ s s') _ (by simp [go_sem]) (by simp [go_sem])).mono ?_; rintro e w' ⟨rfl, rfl⟩))
  refine ⟨Gr.ovs (by (repeat (first | (with_reducible exact Gr.refl _) | assumption | (with_reducible apply Gr.from_drew) | (with_reducible apply Gr.alloc) | (with_reducible apply Gr.drew) | (with_reducible refine Gr.trans ?_ (by assumption)) | (with_reducible refine Gr.setCell ?_ (by omega) _)))), ?_⟩
  refine flow_seg 1 rfl ?_
  simp only [List.take_succ_cons, List.take_zero, List.drop_succ_cons, List.drop_zero]
  repeat (go_big_quiet_step (fail))
  refine wpQuiet_nil ?_
  refine flow_nil ?_
  go_wp2
  go_ret
  exact ⟨rfl, by (repeat (first | (with_reducible exact Gr.refl _) | assumption | (with_reducible apply Gr.from_drew) | (with_reducible apply Gr.alloc) | (with_reducible apply Gr.drew) | (with_reducible refine Gr.trans ?_ (by assumption)) | (with_reducible refine Gr.setCell ?_ (by omega) _)))⟩

theorem slots_any (s k a s' k' a' : Int) (w : World) :
    Calls Try.prog 32 #[.agg #[.int .i64 s, .int .i64 k, .int .i64 a], .agg #[.int .i64 s', .int .i64 k', .int .i64 a']] w fun e w' => e = .returned (.int .i64 (cmpZ s s')) ∧ Gr w w' := by
  go_enter Try.func32, Try.ntmps32
  go_wp2
  all_goals
    go_ret
    exact ⟨ret_int (by unfold cmpZ; (repeat' split) <;> omega), by (repeat (first | (with_reducible exact Gr.refl _) | assumption | (with_reducible apply Gr.from_drew) | (with_reducible apply Gr.alloc) | (with_reducible apply Gr.drew) | (with_reducible refine Gr.trans ?_ (by assumption)) | (with_reducible refine Gr.setCell ?_ (by omega) _)))⟩

theorem refGreedy_any (s k a s' k' a' : Int) (w : World) :
    Calls Try.prog 14 #[.agg #[.int .i64 s, .int .i64 k, .int .i64 a], .agg #[.int .i64 s', .int .i64 k', .int .i64 a']] w fun e w' => e = .returned (.int .i64 (greedy s k s' k')) ∧ Gr w w' := by
  go_enter Try.func14, Try.ntmps14
  go_wp2_with (go_at_call 32; refine (slots_any _ _ _ _ _ _ _).mono ?_; rintro e w1 ⟨rfl, hg⟩)
  all_goals
    go_ret
    exact ⟨ret_int (by unfold greedy orL orL orL cmpZ; (repeat' split) <;> omega), by (repeat (first | (with_reducible exact Gr.refl _) | assumption | (with_reducible apply Gr.from_drew) | (with_reducible apply Gr.alloc) | (with_reducible apply Gr.drew) | (with_reducible refine Gr.trans ?_ (by assumption)) | (with_reducible refine Gr.setCell ?_ (by omega) _)))⟩

theorem divN (a : Nat) : (a : Int) / 4294967296 = ((a / 4294967296 : Nat) : Int) := by omega
theorem mulN (a b : Nat) : (a : Int) * (b : Int) = ((a * b : Nat) : Int) := (Int.natCast_mul a b).symm
theorem addN (a b : Nat) : (a : Int) + (b : Int) = ((a + b : Nat) : Int) := (Int.natCast_add a b).symm
theorem maskN (a : Nat) (ha : a < 18446744073709551616) : bits .and .u64 (a : Int) 4294967295 = ((a % 4294967296 : Nat) : Int) := by
  have h := bits_and_u64_nat a 4294967295 ha (by omega)
  have e : a &&& 4294967295 = a % 4294967296 := Nat.and_two_pow_sub_one_eq_mod a 32
  rw [e] at h
  exact h
theorem wrapN (a : Nat) (ha : a < 18446744073709551616) : IntKind.u64.wrap (a : Int) = (a : Int) := by rw [IntKind.wrap_u64]; omega
theorem wrapM (a : Nat) : IntKind.u64.wrap (a : Int) = ((a % 18446744073709551616 : Nat) : Int) := by rw [IntKind.wrap_u64]; omega

set_option maxHeartbeats 1000000 in
theorem Mul64_any (x y : Nat) (hx : x < 18446744073709551616) (hy : y < 18446744073709551616) (w : World) :
    Calls Try.prog 37 #[.int .u64 x, .int .u64 y] w fun e w' => e = .returned (.tuple #[.int .u64 ((x * y / 18446744073709551616 : Nat) : Int), .int .u64 ((x * y % 18446744073709551616 : Nat) : Int)]) ∧ w = w' := by
  obtain ⟨bd, bt, bw, hhi⟩ := Lib.mul64_hi x y hx hy
  have ba := Lib.half_mul_le (a := x / 4294967296) (b := y / 4294967296) (by omega) (by omega)
  have bb := Lib.half_mul_le (a := x / 4294967296) (b := y % 4294967296) (by omega) (by omega)
  have bc := Lib.half_mul_le (a := x % 4294967296) (b := y / 4294967296) (by omega) (by omega)
  have ba' : x / 4294967296 * (y / 4294967296) < 18446744073709551616 := by omega
  have bb' : x / 4294967296 * (y % 4294967296) < 18446744073709551616 := by omega
  have bc' : x % 4294967296 * (y / 4294967296) < 18446744073709551616 := by omega
  have bh1 : x / 4294967296 * (y / 4294967296) + (x / 4294967296 * (y % 4294967296) + x % 4294967296 * (y % 4294967296) / 4294967296) / 4294967296 < 18446744073709551616 := by omega
  have bh : x / 4294967296 * (y / 4294967296) + (x / 4294967296 * (y % 4294967296) + x % 4294967296 * (y % 4294967296) / 4294967296) / 4294967296 + ((x / 4294967296 * (y % 4294967296) + x % 4294967296 * (y % 4294967296) / 4294967296) % 4294967296 + x % 4294967296 * (y / 4294967296)) / 4294967296 < 18446744073709551616 := by omega
  go_enter Try.func37, Try.ntmps37
  go_wp2
  simp only [maskN x hx, maskN y hy, divN, mulN, addN, wrapN _ bd, wrapN _ bb', wrapN _ bt, maskN _ bt, wrapN _ bc', wrapN _ bw, wrapN _ ba', wrapN _ bh1, wrapN _ bh, wrapM (x * y)]
  rw [hhi]
  go_ret2
  exact ⟨rfl, rfl⟩

theorem Mul64_int (x y : Int) (hx : 0 ≤ x) (hx' : x < 18446744073709551616) (hy : 0 ≤ y) (hy' : y < 18446744073709551616) (w : World) :
    Calls Try.prog 37 #[.int .u64 x, .int .u64 y] w fun e w' => e = .returned (.tuple #[.int .u64 (x * y / 18446744073709551616), .int .u64 (x * y % 18446744073709551616)]) ∧ w = w' := by
  obtain ⟨X, rfl⟩ := Int.eq_ofNat_of_zero_le hx
  obtain ⟨Y, rfl⟩ := Int.eq_ofNat_of_zero_le hy
  refine (Mul64_any X Y (by omega) (by omega) w).mono ?_
  rintro e w' ⟨rfl, rfl⟩
  refine ⟨?_, rfl⟩
  have e : (X : Int) * Y = ((X * Y : Nat) : Int) := mulN X Y
  rw [e]
  have e1 : ((X * Y / 18446744073709551616 : Nat) : Int) = ((X * Y : Nat) : Int) / 18446744073709551616 := by omega
  have e2 : ((X * Y % 18446744073709551616 : Nat) : Int) = ((X * Y : Nat) : Int) % 18446744073709551616 := by omega
  rw [e1, e2]
end Go.Proofs.Ytgpecjnnepocmaa
