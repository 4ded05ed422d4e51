/- Contracts of the smallest functions under score: comparisons, cmp.Or. -/
import Derived.Test.YtemjnppplmankaaGreatRows
import Derived.Test.YtemjnppplmankaaGreatBd6
import Derived.WalkKit
import Derived.WalkSpells
import Derived.WalkLawsBesides
import Derived.Lib.Hide
import Derived.Test.YtemjnppplmankaaGreatBd1
import Derived.Lib.Mul64
import Derived.Laws.Bits64b
import Derived.BigQuiet
set_option linter.unusedVariables false
set_option linter.unusedSimpArgs false
namespace Go.Proofs.YtemjnppplmankaaGreat
open Go.RowKit

theorem isNaN_u64 (x : Int) (w : World) :
    Calls Tryz.prog 147 #[.int .u64 x] w fun e w' => e = .returned (.bool false) ∧ w = w' := by
  go_enter Tryz.func147, Tryz.ntmps147
  go_wp2
  go_ret
  exact ⟨rfl, rfl⟩

def inB (x a b : Int) : Bool := decide (a ≤ x) && decide (x ≤ b)

theorem in_int (x a b : Int) (w : World) :
    Calls Tryz.prog 53 #[.int .i64 x, .int .i64 a, .int .i64 b] w fun e w' => e = .returned (.bool (inB x a b)) ∧ w = w' := by
  go_enter Tryz.func53, Tryz.ntmps53
  go_wp2
  all_goals
    go_ret
    exact ⟨ret_bool (by simp [inB]; try omega), rfl⟩

theorem in_i64 (x a b : Int) (w : World) :
    Calls Tryz.prog 82 #[.int .i64 x, .int .i64 a, .int .i64 b] w fun e w' => e = .returned (.bool (inB x a b)) ∧ w = w' := by
  go_enter Tryz.func82, Tryz.ntmps82
  go_wp2
  all_goals
    go_ret
    exact ⟨ret_bool (by simp [inB]; try omega), rfl⟩

theorem Compare_u64 (x y : Int) (w : World) :
    Calls Tryz.prog 123 #[.int .u64 x, .int .u64 y] w fun e w' => e = .returned (.int .i64 (cmpZ x y)) ∧ w = w' := by
  go_enter Tryz.func123, Tryz.ntmps123
  go_wp2_with (go_at_call 147; refine (isNaN_u64 _ _).mono ?_; rintro e w' ⟨rfl, rfl⟩)
  all_goals
    go_ret
    exact ⟨ret_int (by unfold cmpZ; (repeat' split) <;> omega), rfl⟩

theorem Or_three (b : Nat) (x y z : Int) (w : World) (h0 : w.cell? ⟨b, 0, none⟩ = some (.int .i64 x)) (h1 : w.cell? ⟨b, 1, none⟩ = some (.int .i64 y)) (h2 : w.cell? ⟨b, 2, none⟩ = some (.int .i64 z)) :
    Calls Tryz.prog 109 #[.slice (some ⟨b, 0, none⟩) 3 3] w fun e w' => e = .returned (.int .i64 (orL [x, y, z])) ∧ w = w' := by
  refine Or_int b 0 3 3 [x, y, z] w rfl (by decide) fun i hi => ?_
  match i, hi with
  | 0, _ => simpa using h0
  | 1, _ => simpa using h1
  | 2, _ => simpa using h2
end Go.Proofs.YtemjnppplmankaaGreat

/- Contracts of score.Check, Greedy, Benefit, and of their references. -/
set_option linter.unusedVariables false
set_option linter.unusedSimpArgs false
namespace Go.Proofs.YtemjnppplmankaaGreat
open Go.RowKit
attribute [local go_sem] Ovs cell_ov obj_ov shape_ov

def chkB (s k a room : Int) : Bool := inB room 1 8192 && inB s 0 31 && inB k 0 room && inB a 0 1099511627776
def errOf (b : Bool) : Int := if b then 0 else 2

set_option maxRecDepth 40000 in
set_option maxHeartbeats 400000 in
theorem Check_any (s k a room : Int) (w : World) :
    Calls Tryz.prog 46 #[.agg #[.int .i64 s, .int .i64 k, .int .i64 a], .int .i64 room] w fun e w' => e = .returned (.int .i64 (errOf (chkB s k a room))) ∧ Gr w w' := by
  go_enter Tryz.func46, Tryz.ntmps46
  go_wp2_with (first | (go_at_call 53; refine (in_int _ _ _ _).mono ?_; rintro e w' ⟨rfl, rfl⟩) | (go_at_call 82; refine (in_i64 _ _ _ _).mono ?_; rintro e w' ⟨rfl, rfl⟩))
  all_goals
    go_ret
    exact ⟨ret_int (by simp_all [chkB, errOf]), by (repeat (first | (with_reducible exact Gr.refl _) | assumption | (with_reducible apply Gr.from_drew) | (with_reducible apply Gr.alloc) | (with_reducible apply Gr.drew) | (with_reducible refine Gr.trans ?_ (by assumption)) | (with_reducible refine Gr.setCell ?_ (by omega) _)))⟩

set_option maxRecDepth 40000 in
set_option maxHeartbeats 400000 in
theorem refCheck_any (s k a room : Int) (w : World) :
    Calls Tryz.prog 27 #[.agg #[.int .i64 s, .int .i64 k, .int .i64 a], .int .i64 room] w fun e w' => e = .returned (.int .i64 (errOf (chkB s k a room))) ∧ Gr w w' := by
  go_enter Tryz.func27, Tryz.ntmps27
  go_wp2
  all_goals
    go_ret
    exact ⟨ret_int (by simp only [chkB, inB, errOf]; (repeat' split) <;> simp_all <;> omega), by (repeat (first | (with_reducible exact Gr.refl _) | assumption | (with_reducible apply Gr.from_drew) | (with_reducible apply Gr.alloc) | (with_reducible apply Gr.drew) | (with_reducible refine Gr.trans ?_ (by assumption)) | (with_reducible refine Gr.setCell ?_ (by omega) _)))⟩

def greedy (s k s' k' : Int) : Int := orL [cmpZ k k', cmpZ s s']

set_option maxRecDepth 40000 in
set_option maxHeartbeats 400000 in
theorem Greedy_any (s k a s' k' a' : Int) (w : World) :
    Calls Tryz.prog 87 #[.agg #[.int .i64 s, .int .i64 k, .int .i64 a], .agg #[.int .i64 s', .int .i64 k', .int .i64 a']] w fun e w' => e = .returned (.int .i64 (greedy s k s' k')) ∧ Gr w w' := by
  go_enter Tryz.func87, Tryz.ntmps87
  go_wp2
  refine wp_region_flow (by kernel_rfl) (by kernel_rfl) ?_
  refine flow_seg 4 rfl ?_
  simp only [List.take_succ_cons, List.take_zero, List.drop_succ_cons, List.drop_zero]
  repeat (go_big_quiet_step (fail))
  refine wpQuiet_nil ?_
  refine flow_eff rfl rfl (fun K hK => ?_)
  go_wp2_with ((go_at_call 65; refine (Compare_int _ _ _).mono ?_; rintro e w' ⟨rfl, rfl⟩))
  refine ⟨Gr.ovs (by (repeat (first | (with_reducible exact Gr.refl _) | assumption | (with_reducible apply Gr.from_drew) | (with_reducible apply Gr.alloc) | (with_reducible apply Gr.drew) | (with_reducible refine Gr.trans ?_ (by assumption)) | (with_reducible refine Gr.setCell ?_ (by omega) _)))), ?_⟩
  refine flow_seg 4 rfl ?_
  simp only [List.take_succ_cons, List.take_zero, List.drop_succ_cons, List.drop_zero]
  repeat (go_big_quiet_step (fail))
  refine wpQuiet_nil ?_
  refine flow_eff rfl rfl (fun K hK => ?_)
  go_wp2_with ((go_at_call 65; refine (Compare_int _ _ _).mono ?_; rintro e w' ⟨rfl, rfl⟩))
  refine ⟨Gr.ovs (by (repeat (first | (with_reducible exact Gr.refl _) | assumption | (with_reducible apply Gr.from_drew) | (with_reducible apply Gr.alloc) | (with_reducible apply Gr.drew) | (with_reducible refine Gr.trans ?_ (by assumption)) | (with_reducible refine Gr.setCell ?_ (by omega) _)))), ?_⟩
  refine flow_eff rfl rfl (fun K hK => ?_)
  go_wp2
  refine ⟨Gr.ovs (by (repeat (first | (with_reducible exact Gr.refl _) | assumption | (with_reducible apply Gr.from_drew) | (with_reducible apply Gr.alloc) | (with_reducible apply Gr.drew) | (with_reducible refine Gr.trans ?_ (by assumption)) | (with_reducible refine Gr.setCell ?_ (by omega) _)))), ?_⟩
  refine flow_eff rfl rfl (fun K hK => ?_)
  go_wp2_with ((go_at_call 109; refine (Or_two _ (cmpZ k k') (cmpZ s s') _ (by simp [go_sem]) (by simp [go_sem])).mono ?_; rintro e w' ⟨rfl, rfl⟩))
  refine ⟨Gr.ovs (by (repeat (first | (with_reducible exact Gr.refl _) | assumption | (with_reducible apply Gr.from_drew) | (with_reducible apply Gr.alloc) | (with_reducible apply Gr.drew) | (with_reducible refine Gr.trans ?_ (by assumption)) | (with_reducible refine Gr.setCell ?_ (by omega) _)))), ?_⟩
  refine flow_seg 1 rfl ?_
  simp only [List.take_succ_cons, List.take_zero, List.drop_succ_cons, List.drop_zero]
  repeat (go_big_quiet_step (fail))
  refine wpQuiet_nil ?_
  refine flow_nil ?_
  go_wp2
  go_ret
  exact ⟨rfl, by (repeat (first | (with_reducible exact Gr.refl _) | assumption | (with_reducible apply Gr.from_drew) | (with_reducible apply Gr.alloc) | (with_reducible apply Gr.drew) | (with_reducible refine Gr.trans ?_ (by assumption)) | (with_reducible refine Gr.setCell ?_ (by omega) _)))⟩

theorem slots_any (s k a s' k' a' : Int) (w : World) :
    Calls Tryz.prog 100 #[.agg #[.int .i64 s, .int .i64 k, .int .i64 a], .agg #[.int .i64 s', .int .i64 k', .int .i64 a']] w fun e w' => e = .returned (.int .i64 (cmpZ s s')) ∧ Gr w w' := by
  go_enter Tryz.func100, Tryz.ntmps100
  go_wp2
  all_goals
    go_ret
    exact ⟨ret_int (by unfold cmpZ; (repeat' split) <;> omega), by (repeat (first | (with_reducible exact Gr.refl _) | assumption | (with_reducible apply Gr.from_drew) | (with_reducible apply Gr.alloc) | (with_reducible apply Gr.drew) | (with_reducible refine Gr.trans ?_ (by assumption)) | (with_reducible refine Gr.setCell ?_ (by omega) _)))⟩

theorem refGreedy_any (s k a s' k' a' : Int) (w : World) :
    Calls Tryz.prog 57 #[.agg #[.int .i64 s, .int .i64 k, .int .i64 a], .agg #[.int .i64 s', .int .i64 k', .int .i64 a']] w fun e w' => e = .returned (.int .i64 (greedy s k s' k')) ∧ Gr w w' := by
  go_enter Tryz.func57, Tryz.ntmps57
  go_wp2_with (go_at_call 100; refine (slots_any _ _ _ _ _ _ _).mono ?_; rintro e w1 ⟨rfl, hg⟩)
  all_goals
    go_ret
    exact ⟨ret_int (by unfold greedy orL orL orL cmpZ; (repeat' split) <;> omega), by (repeat (first | (with_reducible exact Gr.refl _) | assumption | (with_reducible apply Gr.from_drew) | (with_reducible apply Gr.alloc) | (with_reducible apply Gr.drew) | (with_reducible refine Gr.trans ?_ (by assumption)) | (with_reducible refine Gr.setCell ?_ (by omega) _)))⟩

theorem divN (a : Nat) : (a : Int) / 4294967296 = ((a / 4294967296 : Nat) : Int) := by omega
theorem mulN (a b : Nat) : (a : Int) * (b : Int) = ((a * b : Nat) : Int) := (Int.natCast_mul a b).symm
theorem addN (a b : Nat) : (a : Int) + (b : Int) = ((a + b : Nat) : Int) := (Int.natCast_add a b).symm
theorem maskN (a : Nat) (ha : a < 18446744073709551616) : bits .and .u64 (a : Int) 4294967295 = ((a % 4294967296 : Nat) : Int) := by
  have h := bits_and_u64_nat a 4294967295 ha (by omega)
  have e : a &&& 4294967295 = a % 4294967296 := Nat.and_two_pow_sub_one_eq_mod a 32
  rw [e] at h
  exact h
theorem wrapN (a : Nat) (ha : a < 18446744073709551616) : IntKind.u64.wrap (a : Int) = (a : Int) := by rw [IntKind.wrap_u64]; omega
theorem wrapM (a : Nat) : IntKind.u64.wrap (a : Int) = ((a % 18446744073709551616 : Nat) : Int) := by rw [IntKind.wrap_u64]; omega

set_option maxRecDepth 40000 in
set_option maxHeartbeats 1000000 in
theorem Mul64_any (x y : Nat) (hx : x < 18446744073709551616) (hy : y < 18446744073709551616) (w : World) :
    Calls Tryz.prog 146 #[.int .u64 x, .int .u64 y] w fun e w' => e = .returned (.tuple #[.int .u64 ((x * y / 18446744073709551616 : Nat) : Int), .int .u64 ((x * y % 18446744073709551616 : Nat) : Int)]) ∧ w = w' := by
  obtain ⟨bd, bt, bw, hhi⟩ := Lib.mul64_hi x y hx hy
  have ba := Lib.half_mul_le (a := x / 4294967296) (b := y / 4294967296) (by omega) (by omega)
  have bb := Lib.half_mul_le (a := x / 4294967296) (b := y % 4294967296) (by omega) (by omega)
  have bc := Lib.half_mul_le (a := x % 4294967296) (b := y / 4294967296) (by omega) (by omega)
  have ba' : x / 4294967296 * (y / 4294967296) < 18446744073709551616 := by omega
  have bb' : x / 4294967296 * (y % 4294967296) < 18446744073709551616 := by omega
  have bc' : x % 4294967296 * (y / 4294967296) < 18446744073709551616 := by omega
  have bh1 : x / 4294967296 * (y / 4294967296) + (x / 4294967296 * (y % 4294967296) + x % 4294967296 * (y % 4294967296) / 4294967296) / 4294967296 < 18446744073709551616 := by omega
  have bh : x / 4294967296 * (y / 4294967296) + (x / 4294967296 * (y % 4294967296) + x % 4294967296 * (y % 4294967296) / 4294967296) / 4294967296 + ((x / 4294967296 * (y % 4294967296) + x % 4294967296 * (y % 4294967296) / 4294967296) % 4294967296 + x % 4294967296 * (y / 4294967296)) / 4294967296 < 18446744073709551616 := by omega
  go_enter Tryz.func146, Tryz.ntmps146
  go_wp2
  simp only [maskN x hx, maskN y hy, divN, mulN, addN, wrapN _ bd, wrapN _ bb', wrapN _ bt, maskN _ bt, wrapN _ bc', wrapN _ bw, wrapN _ ba', wrapN _ bh1, wrapN _ bh, wrapM (x * y)]
  rw [hhi]
  go_ret2
  exact ⟨rfl, rfl⟩

theorem Mul64_int (x y : Int) (hx : 0 ≤ x) (hx' : x < 18446744073709551616) (hy : 0 ≤ y) (hy' : y < 18446744073709551616) (w : World) :
    Calls Tryz.prog 146 #[.int .u64 x, .int .u64 y] w fun e w' => e = .returned (.tuple #[.int .u64 (x * y / 18446744073709551616), .int .u64 (x * y % 18446744073709551616)]) ∧ w = w' := by
  obtain ⟨X, rfl⟩ := Int.eq_ofNat_of_zero_le hx
  obtain ⟨Y, rfl⟩ := Int.eq_ofNat_of_zero_le hy
  refine (Mul64_any X Y (by omega) (by omega) w).mono ?_
  rintro e w' ⟨rfl, rfl⟩
  refine ⟨?_, rfl⟩
  have e : (X : Int) * Y = ((X * Y : Nat) : Int) := mulN X Y
  rw [e]
  have e1 : ((X * Y / 18446744073709551616 : Nat) : Int) = ((X * Y : Nat) : Int) / 18446744073709551616 := by omega
  have e2 : ((X * Y % 18446744073709551616 : Nat) : Int) = ((X * Y : Nat) : Int) % 18446744073709551616 := by omega
  rw [e1, e2]
end Go.Proofs.YtemjnppplmankaaGreat

/- The plain law: comparing products of 128 bits in two ways. No program in sight. -/
set_option linter.unusedVariables false
set_option linter.unusedSimpArgs false
namespace Go.Proofs.YtemjnppplmankaaGreat

def benP (k a k' room : Int) : Int := (room - k) * a * (room + k')

def benZ (s k a s' k' a' room : Int) : Int :=
  if benP k' a' k room < benP k a k' room then -1 else if benP k a k' room < benP k' a' k room then 1 else cmpZ s s'

theorem benP_bd {k a k' room : Int} (h1 : 1 ≤ room) (h2 : room ≤ 8192) (h3 : 0 ≤ k) (h4 : k ≤ room) (h5 : 0 ≤ a) (h6 : a ≤ 1099511627776) (h7 : 0 ≤ k') (h8 : k' ≤ room) :
    0 ≤ (room - k) * a ∧ (room - k) * a ≤ 9007199254740992 ∧ 0 ≤ benP k a k' room ∧ benP k a k' room ≤ 147573952589676412928 := by
  have a1 : (room - k) * a ≤ 8192 * 1099511627776 := Int.mul_le_mul (by omega) h6 h5 (by omega)
  have a0 : 0 ≤ (room - k) * a := Int.mul_nonneg (by omega) h5
  have b1 : (room - k) * a * (room + k') ≤ 9007199254740992 * 16384 := Int.mul_le_mul (by omega) (by omega) (by omega) (by omega)
  have b0 : 0 ≤ (room - k) * a * (room + k') := Int.mul_nonneg a0 (by omega)
  unfold benP
  omega

theorem or_words (p q : Int) (_hp : 0 ≤ p) (_hq : 0 ≤ q) (c : Int) :
    orL [cmpZ (q / 18446744073709551616) (p / 18446744073709551616), cmpZ (q % 18446744073709551616) (p % 18446744073709551616), c] = if q < p then -1 else if p < q then 1 else c := by
  have hc : orL [c] = c := by
    unfold orL orL
    split
    · rfl
    · omega
  show (if cmpZ (q / 18446744073709551616) (p / 18446744073709551616) ≠ 0 then _ else if cmpZ (q % 18446744073709551616) (p % 18446744073709551616) ≠ 0 then _ else orL [c]) = _
  rw [hc]
  unfold cmpZ
  (repeat' split) <;> omega

theorem parts (x m : Int) : x * m = 1073741824 * (x / 1073741824 * m + x % 1073741824 * m / 1073741824) + x % 1073741824 * m % 1073741824 := by
  have h1 : x = 1073741824 * (x / 1073741824) + x % 1073741824 := by omega
  have h2 : x * m = 1073741824 * (x / 1073741824 * m) + x % 1073741824 * m := by
    conv => lhs; rw [h1]
    rw [Int.add_mul, Int.mul_assoc]
  rw [h2]
  generalize x % 1073741824 * m = u
  generalize x / 1073741824 * m = v
  omega

theorem lex_eq (p q a b c d : Int) (h1 : p = 1073741824 * a + b) (h2 : q = 1073741824 * c + d) (hb : 0 ≤ b) (hb' : b < 1073741824) (hd : 0 ≤ d) (hd' : d < 1073741824) :
    (decide (c < a) || (decide (a = c) && decide (d < b))) = decide (q < p) := by
  rw [Bool.eq_iff_iff]
  simp only [Bool.or_eq_true, Bool.and_eq_true, decide_eq_true_eq]
  omega

/-- The remainders and quotients by 2^30 of the reference say the same as the products. -/
theorem higher_eq (x m y n : Int) :
    (decide (y / 1073741824 * n + y % 1073741824 * n / 1073741824 < x / 1073741824 * m + x % 1073741824 * m / 1073741824) ||
      (decide (x / 1073741824 * m + x % 1073741824 * m / 1073741824 = y / 1073741824 * n + y % 1073741824 * n / 1073741824) && decide (y % 1073741824 * n % 1073741824 < x % 1073741824 * m % 1073741824))) = decide (y * n < x * m) :=
  lex_eq _ _ _ _ _ _ (parts x m) (parts y n) (by omega) (by omega) (by omega) (by omega)
end Go.Proofs.YtemjnppplmankaaGreat

/- Contracts of score.product, Benefit, by, Compare, and of their references. -/
set_option linter.unusedVariables false
set_option linter.unusedSimpArgs false
namespace Go.Proofs.YtemjnppplmankaaGreat
open Go.RowKit
attribute [local go_sem] Ovs cell_ov obj_ov shape_ov

set_option maxRecDepth 40000 in
set_option maxHeartbeats 400000 in
theorem product_any (s k a s' k' a' room : Int) (h1 : 1 ≤ room) (h2 : room ≤ 8192) (h3 : 0 ≤ k) (h4 : k ≤ room) (h5 : 0 ≤ a) (h6 : a ≤ 1099511627776) (h7 : 0 ≤ k') (h8 : k' ≤ room) (w : World) :
    Calls Tryz.prog 122 #[.agg #[.int .i64 s, .int .i64 k, .int .i64 a], .agg #[.int .i64 s', .int .i64 k', .int .i64 a'], .int .i64 room] w fun e w' =>
      e = .returned (.tuple #[.int .u64 (benP k a k' room / 18446744073709551616), .int .u64 (benP k a k' room % 18446744073709551616)]) ∧ Gr w w' := by
  obtain ⟨b1, b2, b3, b4⟩ := benP_bd h1 h2 h3 h4 h5 h6 h7 h8
  have b5 : 0 ≤ room + k' := by omega
  go_enter Tryz.func122, Tryz.ntmps122
  go_wp2_with (go_at_call 146; refine (Mul64_int _ _ b1 (by omega) b5 (by omega) _).mono ?_; rintro e w' ⟨rfl, rfl⟩)
  go_ret2
  exact ⟨rfl, by (repeat (first | (with_reducible exact Gr.refl _) | assumption | (with_reducible apply Gr.from_drew) | (with_reducible apply Gr.alloc) | (with_reducible apply Gr.drew) | (with_reducible refine Gr.trans ?_ (by assumption)) | (with_reducible refine Gr.setCell ?_ (by omega) _)))⟩

def higherB (x m y n : Int) : Bool := decide (y * n < x * m)

set_option maxRecDepth 40000 in
set_option maxHeartbeats 400000 in
theorem higher_any (x m y n : Int) (hx : 0 ≤ x) (hx' : x ≤ 9007199254740992) (hy : 0 ≤ y) (hy' : y ≤ 9007199254740992) (hm : 0 ≤ m) (hm' : m ≤ 16384) (hn : 0 ≤ n) (hn' : n ≤ 16384) (w : World) :
    Calls Tryz.prog 101 #[.int .i64 x, .int .i64 m, .int .i64 y, .int .i64 n] w fun e w' => e = .returned (.bool (higherB x m y n)) ∧ Gr w w' := by
  have a1 : x / 1073741824 * m ≤ 8388608 * 16384 := Int.mul_le_mul (by omega) hm' hm (by omega)
  have a0 : 0 ≤ x / 1073741824 * m := Int.mul_nonneg (by omega) hm
  have b1 : x % 1073741824 * m ≤ 1073741824 * 16384 := Int.mul_le_mul (by omega) hm' hm (by omega)
  have b0 : 0 ≤ x % 1073741824 * m := Int.mul_nonneg (by omega) hm
  have c1 : y / 1073741824 * n ≤ 8388608 * 16384 := Int.mul_le_mul (by omega) hn' hn (by omega)
  have c0 : 0 ≤ y / 1073741824 * n := Int.mul_nonneg (by omega) hn
  have d1 : y % 1073741824 * n ≤ 1073741824 * 16384 := Int.mul_le_mul (by omega) hn' hn (by omega)
  have d0 : 0 ≤ y % 1073741824 * n := Int.mul_nonneg (by omega) hn
  have HH := Lib.hid (higher_eq x m y n)
  go_enter Tryz.func101, Tryz.ntmps101
  go_wp2
  refine wp_region_flow (by kernel_rfl) (by kernel_rfl) ?_
  refine flow_seg 12 rfl ?_
  simp only [List.take_succ_cons, List.take_zero, List.drop_succ_cons, List.drop_zero]
  repeat (go_big_quiet_step (fail))
  refine wpQuiet_nil ?_
  refine flow_nil ?_
  go_wp2
  refine wp_region_flow (by kernel_rfl) (by kernel_rfl) ?_
  refine flow_seg 12 rfl ?_
  simp only [List.take_succ_cons, List.take_zero, List.drop_succ_cons, List.drop_zero]
  repeat (go_big_quiet_step (fail))
  refine wpQuiet_nil ?_
  refine flow_nil ?_
  go_wp2
  refine wp_region_flow (by kernel_rfl) (by kernel_rfl) ?_
  refine flow_seg 10 rfl ?_
  simp only [List.take_succ_cons, List.take_zero, List.drop_succ_cons, List.drop_zero]
  repeat (go_big_quiet_step (fail))
  refine wpQuiet_nil ?_
  refine flow_nil ?_
  go_wp2
  refine wp_region_flow (by kernel_rfl) (by kernel_rfl) ?_
  refine flow_seg 10 rfl ?_
  simp only [List.take_succ_cons, List.take_zero, List.drop_succ_cons, List.drop_zero]
  repeat (go_big_quiet_step (fail))
  refine wpQuiet_nil ?_
  refine flow_nil ?_
  go_wp2
  all_goals
    go_ret
    refine ⟨ret_bool ?_, by (repeat (first | (with_reducible exact Gr.refl _) | assumption | (with_reducible apply Gr.from_drew) | (with_reducible apply Gr.alloc) | (with_reducible apply Gr.drew) | (with_reducible refine Gr.trans ?_ (by assumption)) | (with_reducible refine Gr.setCell ?_ (by omega) _)))⟩
    unfold higherB
    rw [← HH.out, Bool.eq_iff_iff]
    simp only [Bool.or_eq_true, Bool.and_eq_true, decide_eq_true_eq, true_iff]
    omega

def benefit (s k a s' k' a' room : Int) : Int := if chkB s k a room = true ∧ chkB s' k' a' room = true then benZ s k a s' k' a' room else 0

theorem chk_bd {s k a room : Int} (h : chkB s k a room = true) : 1 ≤ room ∧ room ≤ 8192 ∧ 0 ≤ s ∧ s ≤ 31 ∧ 0 ≤ k ∧ k ≤ room ∧ 0 ≤ a ∧ a ≤ 1099511627776 := by
  simp only [chkB, inB, Bool.and_eq_true, decide_eq_true_eq] at h
  omega

theorem errOf_true {b : Bool} (h : b = true) : errOf b = 0 := by rw [h]; rfl
theorem errOf_false {b : Bool} (h : b = false) : errOf b = 2 := by rw [h]; rfl

theorem errOf_ne {b : Bool} : (errOf b != 0) = !b := by cases b <;> rfl

set_option maxRecDepth 40000 in
set_option maxHeartbeats 1000000 in
theorem Benefit_any (s k a s' k' a' room : Int) (w : World) :
    Calls Tryz.prog 89 #[.agg #[.int .i64 s, .int .i64 k, .int .i64 a], .agg #[.int .i64 s', .int .i64 k', .int .i64 a'], .int .i64 room] w fun e w' =>
      e = .returned (.int .i64 (benefit s k a s' k' a' room)) ∧ Gr w w' := by
  have HG := Gr.refl ((w.alloc (.cells #[.int .i64 s, .int .i64 k, .int .i64 a] 44)).alloc (.cells #[.int .i64 s', .int .i64 k', .int .i64 a'] 44))
  by_cases hch : chkB s k a room = true ∧ chkB s' k' a' room = true
  · obtain ⟨p1, p2, p3, p4, p5, p6, p7, p8⟩ := chk_bd hch.1
    obtain ⟨_, _, q3, q4, q5, q6, q7, q8⟩ := chk_bd hch.2
    have h0 : benefit s k a s' k' a' room = benZ s k a s' k' a' room := by simp [benefit, hch]
    have H0 := Lib.hid h0
    have e1 := errOf_true hch.1
    have e2 := errOf_true hch.2
    have m1 := benP_bd p1 p2 p5 p6 p7 p8 q5 q6
    have m2 := benP_bd p1 p2 q5 q6 q7 q8 p5 p6
    have H1 := Lib.hid (or_words _ _ m1.2.2.1 m2.2.2.1 (cmpZ s s'))
    clear h0 m1 m2
    go_enter Tryz.func89, Tryz.ntmps89
    go_wp2_with (first
      | (go_at_call 46; refine (Check_any _ _ _ _ _).mono ?_; rintro e w1 ⟨rfl, hg⟩; replace HG := HG.trans hg; (try clear hc); have hc := HG.cell; (try simp only [World.size_alloc] at hc))
      | (go_at_call 122; refine (product_any _ _ _ _ _ _ _ p1 p2 (by omega) (by omega) (by omega) (by omega) (by omega) (by omega) _).mono ?_; rintro e w1 ⟨rfl, hg⟩; replace HG := HG.trans hg; (try clear hc); have hc := HG.cell; (try simp only [World.size_alloc] at hc)))
    refine wp_region_flow (by kernel_rfl) (by kernel_rfl) ?_
    refine flow_seg 2 rfl ?_
    simp only [List.take_succ_cons, List.take_zero, List.drop_succ_cons, List.drop_zero]
    repeat (go_big_quiet_step (fail))
    refine wpQuiet_nil ?_
    refine flow_eff rfl rfl (fun K hK => ?_)
    go_wp2_with ((go_at_call 123; refine (Compare_u64 _ _ _).mono ?_; rintro e w1 ⟨rfl, rfl⟩))
    refine ⟨Gr.ovs (by (repeat (first | (with_reducible exact Gr.refl _) | assumption | (with_reducible apply Gr.from_drew) | (with_reducible apply Gr.alloc) | (with_reducible apply Gr.drew) | (with_reducible refine Gr.trans ?_ (by assumption)) | (with_reducible refine Gr.setCell ?_ (by omega) _)))), ?_⟩
    refine flow_seg 2 rfl ?_
    simp only [List.take_succ_cons, List.take_zero, List.drop_succ_cons, List.drop_zero]
    repeat (go_big_quiet_step (fail))
    refine wpQuiet_nil ?_
    refine flow_eff rfl rfl (fun K hK => ?_)
    go_wp2_with ((go_at_call 123; refine (Compare_u64 _ _ _).mono ?_; rintro e w1 ⟨rfl, rfl⟩))
    refine ⟨Gr.ovs (by (repeat (first | (with_reducible exact Gr.refl _) | assumption | (with_reducible apply Gr.from_drew) | (with_reducible apply Gr.alloc) | (with_reducible apply Gr.drew) | (with_reducible refine Gr.trans ?_ (by assumption)) | (with_reducible refine Gr.setCell ?_ (by omega) _)))), ?_⟩
    refine flow_seg 4 rfl ?_
    simp only [List.take_succ_cons, List.take_zero, List.drop_succ_cons, List.drop_zero]
    repeat (go_big_quiet_step (fail))
    refine wpQuiet_nil ?_
    refine flow_eff rfl rfl (fun K hK => ?_)
    go_wp2_with ((go_at_call 65; refine (Compare_int _ _ _).mono ?_; rintro e w1 ⟨rfl, rfl⟩))
    refine ⟨Gr.ovs (by (repeat (first | (with_reducible exact Gr.refl _) | assumption | (with_reducible apply Gr.from_drew) | (with_reducible apply Gr.alloc) | (with_reducible apply Gr.drew) | (with_reducible refine Gr.trans ?_ (by assumption)) | (with_reducible refine Gr.setCell ?_ (by omega) _)))), ?_⟩
    refine flow_eff rfl rfl (fun K hK => ?_)
    go_wp2
    refine ⟨Gr.ovs (by (repeat (first | (with_reducible exact Gr.refl _) | assumption | (with_reducible apply Gr.from_drew) | (with_reducible apply Gr.alloc) | (with_reducible apply Gr.drew) | (with_reducible refine Gr.trans ?_ (by assumption)) | (with_reducible refine Gr.setCell ?_ (by omega) _)))), ?_⟩
    refine flow_eff rfl rfl (fun K hK => ?_)
    go_wp2_with ((go_at_call 109; refine (Or_three _ _ _ _ _ (by simp [go_sem]; rfl) (by simp [go_sem]; rfl) (by simp [go_sem]; rfl)).mono ?_; rintro e w1 ⟨rfl, rfl⟩))
    refine ⟨Gr.ovs (by (repeat (first | (with_reducible exact Gr.refl _) | assumption | (with_reducible apply Gr.from_drew) | (with_reducible apply Gr.alloc) | (with_reducible apply Gr.drew) | (with_reducible refine Gr.trans ?_ (by assumption)) | (with_reducible refine Gr.setCell ?_ (by omega) _)))), ?_⟩
    refine flow_seg 1 rfl ?_
    simp only [List.take_succ_cons, List.take_zero, List.drop_succ_cons, List.drop_zero]
    repeat (go_big_quiet_step (fail))
    refine wpQuiet_nil ?_
    refine flow_nil ?_
    go_wp2
    go_ret
    exact ⟨by rw [H0.out]; exact ret_int H1.out, by (repeat (first | (with_reducible exact Gr.refl _) | assumption | (with_reducible apply Gr.from_drew) | (with_reducible apply Gr.alloc) | (with_reducible apply Gr.drew) | (with_reducible refine Gr.trans ?_ (by assumption)) | (with_reducible refine Gr.setCell ?_ (by omega) _)))⟩
  · have h0 : benefit s k a s' k' a' room = 0 := by simp only [benefit, if_neg hch]
    have H0 := Lib.hid h0
    have H1 := Lib.hid hch
    clear h0 hch
    go_enter Tryz.func89, Tryz.ntmps89
    go_wp2_with (first
      | (go_at_call 46; refine (Check_any _ _ _ _ _).mono ?_; rintro e w1 ⟨rfl, hg⟩; replace HG := HG.trans hg; (try clear hc); have hc := HG.cell; (try simp only [World.size_alloc] at hc))
      | fail)
    all_goals first
      | (go_ret; exact ⟨by rw [H0.out]; rfl, by (repeat (first | (with_reducible exact Gr.refl _) | assumption | (with_reducible apply Gr.from_drew) | (with_reducible apply Gr.alloc) | (with_reducible apply Gr.drew) | (with_reducible refine Gr.trans ?_ (by assumption)) | (with_reducible refine Gr.setCell ?_ (by omega) _)))⟩)
      | (exfalso; apply H1.out; simp_all [errOf]; done)

set_option maxRecDepth 40000 in
set_option maxHeartbeats 1000000 in
theorem refBenefit_any (s k a s' k' a' room : Int) (w : World) :
    Calls Tryz.prog 58 #[.agg #[.int .i64 s, .int .i64 k, .int .i64 a], .agg #[.int .i64 s', .int .i64 k', .int .i64 a'], .int .i64 room] w fun e w' =>
      e = .returned (.int .i64 (benefit s k a s' k' a' room)) ∧ Gr w w' := by
  have HG := Gr.refl ((w.alloc (.cells #[.int .i64 s, .int .i64 k, .int .i64 a] 45)).alloc (.cells #[.int .i64 s', .int .i64 k', .int .i64 a'] 45))
  by_cases hch : chkB s k a room = true ∧ chkB s' k' a' room = true
  · obtain ⟨p1, p2, p3, p4, p5, p6, p7, p8⟩ := chk_bd hch.1
    obtain ⟨_, _, q3, q4, q5, q6, q7, q8⟩ := chk_bd hch.2
    have h0 : benefit s k a s' k' a' room = benZ s k a s' k' a' room := by simp [benefit, hch]
    have H0 := Lib.hid h0
    have e1 := errOf_true hch.1
    have e2 := errOf_true hch.2
    obtain ⟨m1, m2, _, _⟩ := benP_bd p1 p2 p5 p6 p7 p8 q5 q6
    obtain ⟨m3, m4, _, _⟩ := benP_bd p1 p2 q5 q6 q7 q8 p5 p6
    clear h0
    go_enter Tryz.func58, Tryz.ntmps58
    go_wp2_with (first
      | (go_at_call 27; refine (refCheck_any _ _ _ _ _).mono ?_; rintro e w1 ⟨rfl, hg⟩; replace HG := HG.trans hg; (try clear hc); have hc := HG.cell; (try simp only [World.size_alloc] at hc))
      | (go_at_call 101; refine (higher_any _ _ _ _ (by omega) (by omega) (by omega) (by omega) (by omega) (by omega) (by omega) (by omega) _).mono ?_; rintro e w1 ⟨rfl, hg⟩; replace HG := HG.trans hg; (try clear hc); have hc := HG.cell; (try simp only [World.size_alloc] at hc))
      | (go_at_call 100; refine (slots_any _ _ _ _ _ _ _).mono ?_; rintro e w1 ⟨rfl, hg⟩; replace HG := HG.trans hg; (try clear hc); have hc := HG.cell; (try simp only [World.size_alloc] at hc)))
    all_goals
      go_ret
      refine ⟨?_, by (repeat (first | (with_reducible exact Gr.refl _) | assumption | (with_reducible apply Gr.from_drew) | (with_reducible apply Gr.alloc) | (with_reducible apply Gr.drew) | (with_reducible refine Gr.trans ?_ (by assumption)) | (with_reducible refine Gr.setCell ?_ (by omega) _)))⟩
      rw [H0.out]
      refine ret_int ?_
      simp only [higherB, decide_eq_true_eq, decide_eq_false_iff_not] at *
      unfold benZ benP
      first
        | (rw [if_pos (by assumption)]; done)
        | (rw [if_neg (by assumption), if_pos (by assumption)]; done)
        | (rw [if_neg (by assumption), if_neg (by assumption)]; done)
  · have h0 : benefit s k a s' k' a' room = 0 := by simp only [benefit, if_neg hch]
    have H0 := Lib.hid h0
    have H1 := Lib.hid hch
    clear h0 hch
    go_enter Tryz.func58, Tryz.ntmps58
    go_wp2_with (first
      | (go_at_call 27; refine (refCheck_any _ _ _ _ _).mono ?_; rintro e w1 ⟨rfl, hg⟩; replace HG := HG.trans hg; (try clear hc); have hc := HG.cell; (try simp only [World.size_alloc] at hc))
      | fail)
    all_goals first
      | (go_ret; exact ⟨by rw [H0.out]; rfl, by (repeat (first | (with_reducible exact Gr.refl _) | assumption | (with_reducible apply Gr.from_drew) | (with_reducible apply Gr.alloc) | (with_reducible apply Gr.drew) | (with_reducible refine Gr.trans ?_ (by assumption)) | (with_reducible refine Gr.setCell ?_ (by omega) _)))⟩)
      | (exfalso; apply H1.out; simp_all [errOf]; done)

theorem by1_any (s k a s' k' a' room : Int) (b : Nat) (w : World) (hb : w.cell? ⟨b, 0, none⟩ = some (.int .i64 room)) :
    Calls Tryz.prog 88 #[.agg #[.int .i64 s, .int .i64 k, .int .i64 a], .agg #[.int .i64 s', .int .i64 k', .int .i64 a'], .pointer (some ⟨b, 0, none⟩)] w fun e w' =>
      e = .returned (.int .i64 (benefit s k a s' k' a' room)) ∧ Gr w w' := by
  have HG := Gr.refl ((w.alloc (.cells #[.int .i64 s, .int .i64 k, .int .i64 a] 44)).alloc (.cells #[.int .i64 s', .int .i64 k', .int .i64 a'] 44))
  have hlt := World.block_lt_of_cell? w _ hb
  go_enter Tryz.func88, Tryz.ntmps88
  go_wp2_with (go_at_call 89; refine (Benefit_any _ _ _ _ _ _ _ _).mono ?_; rintro e w1 ⟨rfl, hg⟩; replace HG := HG.trans hg; (try clear hc); have hc := HG.cell; (try simp only [World.size_alloc] at hc))
  go_ret
  exact ⟨rfl, by (repeat (first | (with_reducible exact Gr.refl _) | assumption | (with_reducible apply Gr.from_drew) | (with_reducible apply Gr.alloc) | (with_reducible apply Gr.drew) | (with_reducible refine Gr.trans ?_ (by assumption)) | (with_reducible refine Gr.setCell ?_ (by omega) _)))⟩

def byF (policy : Int) (b : Nat) : Value := if policy = 1 then .func (.func 87) #[] #[] else if policy = 2 then .func (.func 88) #[] #[.pointer (some ⟨b, 0, none⟩)] else .nilFunc

theorem by_any (policy room : Int) (w : World) :
    Calls Tryz.prog 52 #[.int .i64 policy, .int .i64 room] w fun e w' =>
      e = .returned (byF policy w.heap.size) ∧ w' = w.alloc (.cells #[.int .i64 room] 3) := by
  go_enter Tryz.func52, Tryz.ntmps52
  go_wp2
  all_goals
    go_ret
    refine ⟨?_, rfl⟩
    simp_all [byF]

theorem policy_any (p : Int) (w : World) :
    Calls Tryz.prog 56 #[.int .i64 p] w fun e w' => e = .returned (.bool (p == 1 || p == 2)) ∧ w = w' := by
  go_enter Tryz.func56, Tryz.ntmps56
  go_wp2
  all_goals
    go_ret
    exact ⟨ret_bool (by simp_all), rfl⟩

def okC (policy s k a s' k' a' room : Int) : Bool := (policy == 1 || policy == 2) && (chkB s k a room && chkB s' k' a' room)
def polC (policy s k a s' k' a' room : Int) : Int := if policy = 1 then greedy s k s' k' else benefit s k a s' k' a' room
/-- What Compare returns. -/
def cmpC (policy s k a s' k' a' room : Int) : Int := if okC policy s k a s' k' a' room = true then polC policy s k a s' k' a' room else 0

theorem ret_two {k k' : IntKind} {a b c d : Int} (h : a = b) (h' : c = d) : Ending.returned (.tuple #[.int k a, .int k' c]) = .returned (.tuple #[.int k b, .int k' d]) := by rw [h, h']

set_option maxRecDepth 40000 in
set_option maxHeartbeats 1000000 in
theorem refCompare_any (policy s k a s' k' a' room : Int) (w : World) :
    Calls Tryz.prog 33 #[.int .i64 policy, .agg #[.int .i64 s, .int .i64 k, .int .i64 a], .agg #[.int .i64 s', .int .i64 k', .int .i64 a'], .int .i64 room] w fun e w' =>
      e = .returned (.tuple #[.int .i64 (cmpC policy s k a s' k' a' room), .int .i64 (errOf (okC policy s k a s' k' a' room))]) ∧ Gr w w' := by
  have HG := Gr.refl ((w.alloc (.cells #[.int .i64 s, .int .i64 k, .int .i64 a] 45)).alloc (.cells #[.int .i64 s', .int .i64 k', .int .i64 a'] 45))
  go_enter Tryz.func33, Tryz.ntmps33
  go_wp2_with (first
    | (go_at_call 56; refine (policy_any _ _).mono ?_; rintro e w1 ⟨rfl, rfl⟩)
    | (go_at_call 27; refine (refCheck_any _ _ _ _ _).mono ?_; rintro e w1 ⟨rfl, hg⟩; replace HG := HG.trans hg; (try clear hc); have hc := HG.cell; (try simp only [World.size_alloc] at hc))
    | (go_at_call 57; refine (refGreedy_any _ _ _ _ _ _ _).mono ?_; rintro e w1 ⟨rfl, hg⟩; replace HG := HG.trans hg; (try clear hc); have hc := HG.cell; (try simp only [World.size_alloc] at hc))
    | (go_at_call 58; refine (refBenefit_any _ _ _ _ _ _ _ _).mono ?_; rintro e w1 ⟨rfl, hg⟩; replace HG := HG.trans hg; (try clear hc); have hc := HG.cell; (try simp only [World.size_alloc] at hc)))
  all_goals
    go_ret2
    refine ⟨ret_two ?_ ?_, by (repeat (first | (with_reducible exact Gr.refl _) | assumption | (with_reducible apply Gr.from_drew) | (with_reducible apply Gr.alloc) | (with_reducible apply Gr.drew) | (with_reducible refine Gr.trans ?_ (by assumption)) | (with_reducible refine Gr.setCell ?_ (by omega) _)))⟩ <;> cases h1 : chkB s k a room <;> cases h2 : chkB s' k' a' room <;> simp_all [cmpC, okC, polC, errOf]

theorem eqF1 (w : World) : (binOp .eql 79 (.func (.func 87) #[] #[]) .nilFunc).run Tryz.prog w = .ok (.bool false) w := by kernel_rfl
theorem eqF2 (b : Nat) (w : World) : (binOp .eql 79 (.func (.func 88) #[] #[.pointer (some ⟨b, 0, none⟩)]) .nilFunc).run Tryz.prog w = .ok (.bool false) w := by kernel_rfl
theorem eqF3 (w : World) : (binOp .eql 79 .nilFunc .nilFunc).run Tryz.prog w = .ok (.bool true) w := by kernel_rfl

set_option maxRecDepth 40000 in
set_option maxHeartbeats 1000000 in
theorem Compare_any (policy s k a s' k' a' room : Int) (w : World) :
    Calls Tryz.prog 32 #[.int .i64 policy, .agg #[.int .i64 s, .int .i64 k, .int .i64 a], .agg #[.int .i64 s', .int .i64 k', .int .i64 a'], .int .i64 room] w fun e w' =>
      e = .returned (.tuple #[.int .i64 (cmpC policy s k a s' k' a' room), .int .i64 (errOf (okC policy s k a s' k' a' room))]) ∧ Gr w w' := by
  have HG := Gr.refl (((w.alloc (.cells #[.int .i64 s, .int .i64 k, .int .i64 a] 44)).alloc (.cells #[.int .i64 s', .int .i64 k', .int .i64 a'] 44)).alloc (.cells #[.int .i64 room] 3))
  have k1 := eqF1
  have k2 := eqF2
  have k3 := eqF3
  by_cases h1 : policy = 1
  · subst h1
    go_enter Tryz.func32, Tryz.ntmps32
    go_wp2_with (first
      | (go_at_call 52; refine (by_any _ _ _).mono ?_; rintro e w1 ⟨rfl, rfl⟩; simp only [byF, if_true])
      | (go_at_call 46; refine (Check_any _ _ _ _ _).mono ?_; rintro e w1 ⟨rfl, hg⟩; replace HG := HG.trans hg; (try clear hc); have hc := HG.cell; (try simp only [World.size_alloc] at hc))
      | (go_at_call 87; refine (Greedy_any _ _ _ _ _ _ _).mono ?_; rintro e w1 ⟨rfl, hg⟩; replace HG := HG.trans hg; (try clear hc); have hc := HG.cell; (try simp only [World.size_alloc] at hc)))
    all_goals
      go_ret2
      refine ⟨ret_two ?_ ?_, by (repeat (first | (with_reducible exact Gr.refl _) | assumption | (with_reducible apply Gr.from_drew) | (with_reducible apply Gr.alloc) | (with_reducible apply Gr.drew) | (with_reducible refine Gr.trans ?_ (by assumption)) | (with_reducible refine Gr.setCell ?_ (by omega) _)))⟩ <;> cases h1 : chkB s k a room <;> cases h2 : chkB s' k' a' room <;> simp_all [cmpC, okC, polC, errOf]
  · by_cases h2 : policy = 2
    · subst h2
      go_enter Tryz.func32, Tryz.ntmps32
      go_wp2_with (first
        | (go_at_call 52; refine (by_any _ _ _).mono ?_; rintro e w1 ⟨rfl, rfl⟩; simp only [byF, if_true, if_neg h1])
        | (go_at_call 46; refine (Check_any _ _ _ _ _).mono ?_; rintro e w1 ⟨rfl, hg⟩; replace HG := HG.trans hg; (try clear hc); have hc := HG.cell; (try simp only [World.size_alloc] at hc))
        | (go_at_call 88; refine (by1_any _ _ _ _ _ _ room _ _ (by simp [hc, go_sem])).mono ?_; rintro e w1 ⟨rfl, hg⟩; replace HG := HG.trans hg; (try clear hc); have hc := HG.cell; (try simp only [World.size_alloc] at hc)))
      all_goals
        go_ret2
        refine ⟨ret_two ?_ ?_, by (repeat (first | (with_reducible exact Gr.refl _) | assumption | (with_reducible apply Gr.from_drew) | (with_reducible apply Gr.alloc) | (with_reducible apply Gr.drew) | (with_reducible refine Gr.trans ?_ (by assumption)) | (with_reducible refine Gr.setCell ?_ (by omega) _)))⟩ <;> cases h1 : chkB s k a room <;> cases h2 : chkB s' k' a' room <;> simp_all [cmpC, okC, polC, errOf]
    · go_enter Tryz.func32, Tryz.ntmps32
      go_wp2_with (first
        | (go_at_call 52; refine (by_any _ _ _).mono ?_; rintro e w1 ⟨rfl, rfl⟩; simp only [byF, if_neg h1, if_neg h2])
        | fail)
      go_ret2
      exact ⟨ret_two (by simp [cmpC, okC, h1, h2]) (by simp [okC, errOf, h1, h2]), by (repeat (first | (with_reducible exact Gr.refl _) | assumption | (with_reducible apply Gr.from_drew) | (with_reducible apply Gr.alloc) | (with_reducible apply Gr.drew) | (with_reducible refine Gr.trans ?_ (by assumption)) | (with_reducible refine Gr.setCell ?_ (by omega) _)))⟩
end Go.Proofs.YtemjnppplmankaaGreat

/- The plain law of score.Best: counting slots, and the best of a list. No program in sight. -/
set_option linter.unusedVariables false
set_option linter.unusedSimpArgs false
namespace Go.Proofs.YtemjnppplmankaaGreat

abbrev Sd := Int × Int × Int

/-- How many of a list have a slot. -/
def cntL (l : List Sd) (j : Int) : Int := ((l.filter fun x => x.1 == j).length : Nat)

theorem cntL_snoc (l : List Sd) (x : Sd) (j : Int) : cntL (l ++ [x]) j = cntL l j + if x.1 = j then 1 else 0 := by
  unfold cntL
  rw [List.filter_append]
  by_cases h : x.1 = j <;> simp [h]

theorem cntL_bd (l : List Sd) (j : Int) : 0 ≤ cntL l j ∧ cntL l j ≤ l.length := by
  unfold cntL
  exact ⟨by omega, by have := List.length_filter_le (fun x : Sd => x.1 == j) l; omega⟩

/-- Has one of the first k come twice by then? -/
def twB (l : List Sd) : Nat → Bool
  | 0 => false
  | k + 1 => twB l k || decide (1 < cntL (l.take (k + 1)) (l[k]?.getD (0, 0, 0)).1)

theorem take_snoc' (l : List Sd) (k : Nat) (h : k < l.length) : l.take (k + 1) = l.take k ++ [l[k]?.getD (0, 0, 0)] := by
  rw [List.take_succ_eq_append_getElem h, List.getElem?_eq_getElem h]; rfl

theorem cntL_pos (l : List Sd) (j : Int) : 0 < cntL l j ↔ ∃ x ∈ l, x.1 = j := by
  unfold cntL
  constructor
  · intro h
    have : 0 < (l.filter fun x => x.1 == j).length := by omega
    obtain ⟨x, hx⟩ := List.exists_mem_of_length_pos this
    obtain ⟨h1, h2⟩ := List.mem_filter.1 hx
    exact ⟨x, h1, by simpa using h2⟩
  · rintro ⟨x, hx, rfl⟩
    have := List.length_pos_of_mem (List.mem_filter.2 ⟨hx, by simp⟩ : x ∈ l.filter fun y => y.1 == x.1)
    omega

/-- As the reference says it. -/
def dupP (l : List Sd) : Prop := ∃ i k, k < i ∧ i < l.length ∧ (l[i]?.getD (0, 0, 0)).1 = (l[k]?.getD (0, 0, 0)).1

theorem twB_iff (l : List Sd) : ∀ n, n ≤ l.length → (twB l n = true ↔ ∃ i k, k < i ∧ i < n ∧ (l[i]?.getD (0, 0, 0)).1 = (l[k]?.getD (0, 0, 0)).1)
  | 0, _ => by simp [twB]
  | n + 1, h => by
    have ih := twB_iff l n (by omega)
    have e : (1 < cntL (l.take (n + 1)) (l[n]?.getD (0, 0, 0)).1) ↔ ∃ k, k < n ∧ (l[n]?.getD (0, 0, 0)).1 = (l[k]?.getD (0, 0, 0)).1 := by
      rw [take_snoc' l n (by omega), cntL_snoc, if_pos rfl]
      have : (1 < cntL (l.take n) (l[n]?.getD (0, 0, 0)).1 + 1) ↔ 0 < cntL (l.take n) (l[n]?.getD (0, 0, 0)).1 := by omega
      rw [this, cntL_pos]
      constructor
      · rintro ⟨x, hx, he⟩
        obtain ⟨k, hk, rfl⟩ := List.mem_take_iff_getElem.1 hx
        exact ⟨k, by omega, by rw [List.getElem?_eq_getElem (show k < l.length by omega)]; exact he.symm⟩
      · rintro ⟨k, hk, he⟩
        refine ⟨l[k], List.mem_take_iff_getElem.2 ⟨k, by omega, rfl⟩, ?_⟩
        rw [List.getElem?_eq_getElem (show k < l.length by omega)] at he
        exact he.symm
    simp only [twB, Bool.or_eq_true, decide_eq_true_eq, ih, e]
    constructor
    · rintro (⟨i, k, h1, h2, h3⟩ | ⟨k, h1, h2⟩)
      · exact ⟨i, k, h1, by omega, h3⟩
      · exact ⟨n, k, h1, by omega, h2⟩
    · rintro ⟨i, k, h1, h2, h3⟩
      by_cases hin : i = n
      · subst hin; exact .inr ⟨k, h1, h3⟩
      · exact .inl ⟨i, k, h1, by omega, h3⟩

/-- The best so far, by a comparison. -/
def bestK (f : Sd → Sd → Int) (l : List Sd) : Nat → Sd
  | 0 => l[0]?.getD (0, 0, 0)
  | k + 1 => if f (l[k + 1]?.getD (0, 0, 0)) (bestK f l k) < 0 then l[k + 1]?.getD (0, 0, 0) else bestK f l k
end Go.Proofs.YtemjnppplmankaaGreat
