/- Contracts of the smallest functions under score: comparisons, cmp.Or. -/
import Derived.Test.YtgpecjnnepocmaaRows
import Derived.WalkKit
import Derived.WalkSpells
import Derived.WalkLawsBesides
import Derived.Lib.Hide
namespace Go.Proofs.Ytgpecjnnepocmaa
open Go.RowKit

theorem isNaN_int (x : Int) (w : World) :
    Calls Try.prog 40 #[.int .i64 x] w fun e w' => e = .returned (.bool false) ∧ w = w' := by
  go_enter Try.func40, Try.ntmps40
  go_wp2
  go_ret
  exact ⟨rfl, rfl⟩

theorem isNaN_u64 (x : Int) (w : World) :
    Calls Try.prog 41 #[.int .u64 x] w fun e w' => e = .returned (.bool false) ∧ w = w' := by
  go_enter Try.func41, Try.ntmps41
  go_wp2
  go_ret
  exact ⟨rfl, rfl⟩

theorem ret_bool {a b : Bool} (h : a = b) : Ending.returned (.bool a) = .returned (.bool b) := by rw [h]
theorem ret_int {k : IntKind} {a b : Int} (h : a = b) : Ending.returned (.int k a) = .returned (.int k b) := by rw [h]

def inB (x a b : Int) : Bool := decide (a ≤ x) && decide (x ≤ b)

theorem in_int (x a b : Int) (w : World) :
    Calls Try.prog 28 #[.int .i64 x, .int .i64 a, .int .i64 b] w fun e w' => e = .returned (.bool (inB x a b)) ∧ w = w' := by
  go_enter Try.func28, Try.ntmps28
  go_wp2
  all_goals
    go_ret
    exact ⟨ret_bool (by simp [inB]; try omega), rfl⟩

theorem in_i64 (x a b : Int) (w : World) :
    Calls Try.prog 29 #[.int .i64 x, .int .i64 a, .int .i64 b] w fun e w' => e = .returned (.bool (inB x a b)) ∧ w = w' := by
  go_enter Try.func29, Try.ntmps29
  go_wp2
  all_goals
    go_ret
    exact ⟨ret_bool (by simp [inB]; try omega), rfl⟩

def cmpZ (x y : Int) : Int := if x < y then -1 else if y < x then 1 else 0

theorem Compare_int (x y : Int) (w : World) :
    Calls Try.prog 31 #[.int .i64 x, .int .i64 y] w fun e w' => e = .returned (.int .i64 (cmpZ x y)) ∧ w = w' := by
  go_enter Try.func31, Try.ntmps31
  go_wp2_with (go_at_call 40; refine (isNaN_int _ _).mono ?_; rintro e w' ⟨rfl, rfl⟩)
  all_goals
    go_ret
    exact ⟨ret_int (by unfold cmpZ; (repeat' split) <;> omega), rfl⟩

theorem Compare_u64 (x y : Int) (w : World) :
    Calls Try.prog 34 #[.int .u64 x, .int .u64 y] w fun e w' => e = .returned (.int .i64 (cmpZ x y)) ∧ w = w' := by
  go_enter Try.func34, Try.ntmps34
  go_wp2_with (go_at_call 41; refine (isNaN_u64 _ _).mono ?_; rintro e w' ⟨rfl, rfl⟩)
  all_goals
    go_ret
    exact ⟨ret_int (by unfold cmpZ; (repeat' split) <;> omega), rfl⟩

def orL : List Int → Int
  | [] => 0
  | x :: l => if x ≠ 0 then x else orL l

theorem orL_stop (l : List Int) (k : Nat) (h : k < l.length) (h0 : l[k]?.getD 0 ≠ 0) : orL (l.drop k) = l[k]?.getD 0 := by
  rw [List.getElem?_eq_getElem h, Option.getD_some] at *
  rw [List.drop_eq_getElem_cons h]
  exact if_pos h0
theorem orL_next (l : List Int) (k : Nat) (h : k < l.length) (h0 : l[k]?.getD 0 = 0) : orL (l.drop k) = orL (l.drop (k + 1)) := by
  rw [List.getElem?_eq_getElem h, Option.getD_some] at h0
  rw [List.drop_eq_getElem_cons h]
  exact if_neg (by simpa using h0)

theorem Or_int (b off len cap : Nat) (l : List Int) (w : World) (hl : l.length = len) (hm : len ≤ 1000)
    (hc : ∀ i, i < len → w.cell? ⟨b, off + i, none⟩ = some (.int .i64 (l[i]?.getD 0))) :
    Calls Try.prog 30 #[.slice (some ⟨b, off, none⟩) len cap] w fun e w' => e = .returned (.int .i64 (orL l)) ∧ w = w' := by
  have HL := Lib.hid hl
  clear hl
  have HC := Lib.hid hc
  clear hc
  go_enter Try.func30, Try.ntmps30
  go_wp2
  go_loop [5, 8] (fun v i => ∃ k : Nat, k ≤ len ∧ i = .int .i64 k ∧ Hid (orL l = orL (l.drop k))) (fun _ i => len - (intOf i).toNat)
  case atStart => exact ⟨0, by omega, rfl, Lib.hid rfl⟩
  case round =>
    obtain ⟨k, hk, rfl, ho⟩ := hrel
    by_cases hlt : k < len
    · have hcell := HC.out k hlt
      by_cases h0 : l[k]?.getD 0 = 0
      · have hn := Lib.hid (orL_next l k (by rw [HL.out]; exact hlt) h0)
        go_wp2
        go_round
        case rel => exact ⟨k + 1, by omega, by go_num, ho.out.trans hn.out⟩
        case measure => simp [intOf]; omega
      · have hn := Lib.hid (orL_stop l k (by rw [HL.out]; exact hlt) h0)
        go_wp2
        go_ret
        exact ⟨ret_int (by rw [ho.out, hn.out]), rfl⟩
    · go_wp2
      go_ret
      exact ⟨ret_int (by rw [ho.out, List.drop_of_length_le (by rw [HL.out]; omega)]; rfl), rfl⟩

theorem Or_two (b : Nat) (x y : Int) (w : World) (h0 : w.cell? ⟨b, 0, none⟩ = some (.int .i64 x)) (h1 : w.cell? ⟨b, 1, none⟩ = some (.int .i64 y)) :
    Calls Try.prog 30 #[.slice (some ⟨b, 0, none⟩) 2 2] w fun e w' => e = .returned (.int .i64 (orL [x, y])) ∧ w = w' := by
  refine Or_int b 0 2 2 [x, y] w rfl (by decide) fun i hi => ?_
  match i, hi with
  | 0, _ => simpa using h0
  | 1, _ => simpa using h1

theorem Or_three (b : Nat) (x y z : Int) (w : World) (h0 : w.cell? ⟨b, 0, none⟩ = some (.int .i64 x)) (h1 : w.cell? ⟨b, 1, none⟩ = some (.int .i64 y)) (h2 : w.cell? ⟨b, 2, none⟩ = some (.int .i64 z)) :
    Calls Try.prog 30 #[.slice (some ⟨b, 0, none⟩) 3 3] w fun e w' => e = .returned (.int .i64 (orL [x, y, z])) ∧ w = w' := by
  refine Or_int b 0 3 3 [x, y, z] w rfl (by decide) fun i hi => ?_
  match i, hi with
  | 0, _ => simpa using h0
  | 1, _ => simpa using h1
  | 2, _ => simpa using h2
end Go.Proofs.Ytgpecjnnepocmaa
