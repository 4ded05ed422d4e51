/- Contracts of cmp at the kinds of priorities. -/
import Derived.Test.YthialloenkbpnaaPqB
import Derived.WalkKit
import Derived.WalkSpells
import Derived.WalkLawsBesides
import Derived.Lib.Hide
set_option linter.unusedVariables false
set_option linter.unusedSimpArgs false
namespace Go.Proofs.Ythialloenkbpnaa
open Go.RowKit

theorem ret_bool {a b : Bool} (h : a = b) : Ending.returned (.bool a) = .returned (.bool b) := by rw [h]
theorem ret_int {k : IntKind} {a b : Int} (h : a = b) : Ending.returned (.int k a) = .returned (.int k b) := by rw [h]
def cmpZ (x y : Int) : Int := if x < y then -1 else if y < x then 1 else 0

theorem isNaN_int (x : Int) (w : World) : Calls Try.prog 106 #[.int .i64 x] w fun e w' => e = .returned (.bool false) ∧ w = w' := by
  go_enter Try.func106, Try.ntmps106
  go_wp2
  go_ret
  exact ⟨rfl, rfl⟩
theorem Compare_int (x y : Int) (w : World) : Calls Try.prog 101 #[.int .i64 x, .int .i64 y] w fun e w' => e = .returned (.int .i64 (cmpZ x y)) ∧ w = w' := by
  go_enter Try.func101, Try.ntmps101
  go_wp2_with (go_at_call 106; refine (isNaN_int _ _).mono ?_; rintro e w' ⟨rfl, rfl⟩)
  all_goals
    go_ret
    exact ⟨ret_int (by unfold cmpZ; (repeat' split) <;> omega), rfl⟩
theorem isNaN_int64 (x : Int) (w : World) : Calls Try.prog 109 #[.int .i64 x] w fun e w' => e = .returned (.bool false) ∧ w = w' := by
  go_enter Try.func109, Try.ntmps109
  go_wp2
  go_ret
  exact ⟨rfl, rfl⟩
theorem Compare_int64 (x y : Int) (w : World) : Calls Try.prog 104 #[.int .i64 x, .int .i64 y] w fun e w' => e = .returned (.int .i64 (cmpZ x y)) ∧ w = w' := by
  go_enter Try.func104, Try.ntmps104
  go_wp2_with (go_at_call 109; refine (isNaN_int64 _ _).mono ?_; rintro e w' ⟨rfl, rfl⟩)
  all_goals
    go_ret
    exact ⟨ret_int (by unfold cmpZ; (repeat' split) <;> omega), rfl⟩
theorem isNaN_uint8 (x : Int) (w : World) : Calls Try.prog 107 #[.int .u8 x] w fun e w' => e = .returned (.bool false) ∧ w = w' := by
  go_enter Try.func107, Try.ntmps107
  go_wp2
  go_ret
  exact ⟨rfl, rfl⟩
theorem Compare_uint8 (x y : Int) (w : World) : Calls Try.prog 102 #[.int .u8 x, .int .u8 y] w fun e w' => e = .returned (.int .i64 (cmpZ x y)) ∧ w = w' := by
  go_enter Try.func102, Try.ntmps102
  go_wp2_with (go_at_call 107; refine (isNaN_uint8 _ _).mono ?_; rintro e w' ⟨rfl, rfl⟩)
  all_goals
    go_ret
    exact ⟨ret_int (by unfold cmpZ; (repeat' split) <;> omega), rfl⟩

/-! Strings of one byte -/
def oneS (c : UInt8) : ByteArray := ⟨#[c]⟩
def cmpB (x y : UInt8) : Int := cmpZ x.toNat y.toNat
theorem bytesLess1 (x y : UInt8) : Op.bytesLess [x] [y] = decide (x.toNat < y.toNat) := by
  simp [Op.bytesLess, UInt8.lt_iff_toNat_lt]
theorem isNaN_string (x : ByteArray) (w : World) : Calls Try.prog 105 #[.string x] w fun e w' => e = .returned (.bool false) ∧ w = w' := by
  go_enter Try.func105, Try.ntmps105
  go_wp2
  go_ret
  exact ⟨rfl, rfl⟩
theorem Compare_string (x y : UInt8) (w : World) : Calls Try.prog 100 #[.string ⟨#[x]⟩, .string ⟨#[y]⟩] w fun e w' => e = .returned (.int .i64 (cmpB x y)) ∧ w = w' := by
  go_enter Try.func100, Try.ntmps100
  go_wp2_with (go_at_call 105; refine (isNaN_string _ _).mono ?_; rintro e w' ⟨rfl, rfl⟩)
  all_goals
    go_ret
    refine ⟨ret_int ?_, rfl⟩
    simp only [bytesLess1, decide_eq_true_eq, decide_eq_false_iff_not, Bool.not_eq_true', Bool.not_eq_false', beq_eq_false_iff_ne, beq_iff_eq, ne_eq, ← UInt8.toNat_inj] at *
    unfold cmpB cmpZ
    (repeat' split) <;> omega

def orL : List Int → Int
  | [] => 0
  | x :: l => if x ≠ 0 then x else orL l
theorem orL2_neg (x y : Int) : orL [x, y] < 0 ↔ (x < 0 ∨ x = 0 ∧ y < 0) := by
  simp only [orL]
  by_cases hx : x = 0
  · subst hx
    by_cases hy : y = 0
    · subst hy; simp
    · simp [hy]
  · simp [hx]
theorem cmpZ_neg (x y : Int) : cmpZ x y < 0 ↔ x < y := by
  unfold cmpZ
  (repeat' split) <;> omega
theorem cmpZ_zero (x y : Int) : cmpZ x y = 0 ↔ x = y := by
  unfold cmpZ
  (repeat' split) <;> omega
theorem cmpB_neg (x y : UInt8) : cmpB x y < 0 ↔ x.toNat < y.toNat := by
  unfold cmpB
  rw [cmpZ_neg]
  omega
theorem cmpB_zero (x y : UInt8) : cmpB x y = 0 ↔ x.toNat = y.toNat := by
  unfold cmpB
  rw [cmpZ_zero]
  omega
theorem orL_stop (l : List Int) (k : Nat) (h : k < l.length) (h0 : l[k]?.getD 0 ≠ 0) : orL (l.drop k) = l[k]?.getD 0 := by
  rw [List.getElem?_eq_getElem h, Option.getD_some] at *
  rw [List.drop_eq_getElem_cons h]
  exact if_pos h0
theorem orL_next (l : List Int) (k : Nat) (h : k < l.length) (h0 : l[k]?.getD 0 = 0) : orL (l.drop k) = orL (l.drop (k + 1)) := by
  rw [List.getElem?_eq_getElem h, Option.getD_some] at h0
  rw [List.drop_eq_getElem_cons h]
  exact if_neg (by simpa using h0)
theorem Or_int (b off len cap : Nat) (l : List Int) (w : World) (hl : l.length = len) (hm : len ≤ 1000)
    (hc : ∀ i, i < len → w.cell? ⟨b, off + i, none⟩ = some (.int .i64 (l[i]?.getD 0))) :
    Calls Try.prog 99 #[.slice (some ⟨b, off, none⟩) len cap] w fun e w' => e = .returned (.int .i64 (orL l)) ∧ w = w' := by
  have HL := Lib.hid hl
  clear hl
  have HC := Lib.hid hc
  clear hc
  go_enter Try.func99, Try.ntmps99
  go_wp2
  go_loop [5, 8] (fun v i => ∃ k : Nat, k ≤ len ∧ i = .int .i64 k ∧ Hid (orL l = orL (l.drop k))) (fun _ i => len - (intOf i).toNat)
  case atStart => exact ⟨0, by omega, rfl, Lib.hid rfl⟩
  case round =>
    obtain ⟨k, hk, rfl, ho⟩ := hrel
    by_cases hlt : k < len
    · have hcell := HC.out k hlt
      by_cases h0 : l[k]?.getD 0 = 0
      · have hn := Lib.hid (orL_next l k (by rw [HL.out]; exact hlt) h0)
        go_wp2
        go_round
        case rel => exact ⟨k + 1, by omega, by go_num, ho.out.trans hn.out⟩
        case measure => simp [intOf]; omega
      · have hn := Lib.hid (orL_stop l k (by rw [HL.out]; exact hlt) h0)
        go_wp2
        go_ret
        exact ⟨ret_int (by rw [ho.out, hn.out]), rfl⟩
    · go_wp2
      go_ret
      exact ⟨ret_int (by rw [ho.out, List.drop_of_length_le (by rw [HL.out]; omega)]; rfl), rfl⟩
theorem Or_two (b : Nat) (x y : Int) (w : World) (h0 : w.cell? ⟨b, 0, none⟩ = some (.int .i64 x)) (h1 : w.cell? ⟨b, 1, none⟩ = some (.int .i64 y)) :
    Calls Try.prog 99 #[.slice (some ⟨b, 0, none⟩) 2 2] w fun e w' => e = .returned (.int .i64 (orL [x, y])) ∧ w = w' := by
  refine Or_int b 0 2 2 [x, y] w rfl (by decide) fun i hi => ?_
  match i, hi with
  | 0, _ => simpa using h0
  | 1, _ => simpa using h1
end Go.Proofs.Ythialloenkbpnaa
