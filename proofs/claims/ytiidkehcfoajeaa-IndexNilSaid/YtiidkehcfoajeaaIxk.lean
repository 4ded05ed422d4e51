/- Contracts of cmp.Compare, cmp.Or, and of how two entries of a key compare. -/
import Derived.Test.YtiidkehcfoajeaaIxp
import Derived.Test.YtiidkehcfoajeaaFlo
import Derived.WalkKit
import Derived.WalkSpells
import Derived.WalkLawsBesides
import Derived.Lib.Hide
import Derived.BigQuiet
import Derived.Deep.QuietTactic
import Derived.Deep.DeepMust
set_option linter.unusedVariables false
set_option linter.unusedSimpArgs false
namespace Go.Proofs.Ytiidkehcfoajeaa
open Go.RowKit
def cmpZ (x y : Int) : Int := if x < y then -1 else if y < x then 1 else 0
theorem isNaN_int (x : Int) (w : World) : Calls Try.prog 134 #[.int .i64 x] w fun e w' => e = .returned (.bool false) ∧ w = w' := by
  go_enter Try.func134, Try.ntmps134
  go_wp2
  go_ret
  exact ⟨rfl, rfl⟩
theorem Compare_int (x y : Int) (w : World) : Calls Try.prog 107 #[.int .i64 x, .int .i64 y] w fun e w' => e = .returned (.int .i64 (cmpZ x y)) ∧ w = w' := by
  go_enter Try.func107, Try.ntmps107
  go_wp2_with (go_at_call 134; refine (isNaN_int _ _).mono ?_; rintro e w' ⟨rfl, rfl⟩)
  all_goals
    go_ret
    exact ⟨ret_int (by unfold cmpZ; (repeat' split) <;> omega), rfl⟩
theorem isNaN_int64 (x : Int) (w : World) : Calls Try.prog 149 #[.int .i64 x] w fun e w' => e = .returned (.bool false) ∧ w = w' := by
  go_enter Try.func149, Try.ntmps149
  go_wp2
  go_ret
  exact ⟨rfl, rfl⟩
theorem Compare_int64 (x y : Int) (w : World) : Calls Try.prog 138 #[.int .i64 x, .int .i64 y] w fun e w' => e = .returned (.int .i64 (cmpZ x y)) ∧ w = w' := by
  go_enter Try.func138, Try.ntmps138
  go_wp2_with (go_at_call 149; refine (isNaN_int64 _ _).mono ?_; rintro e w' ⟨rfl, rfl⟩)
  all_goals
    go_ret
    exact ⟨ret_int (by unfold cmpZ; (repeat' split) <;> omega), rfl⟩

def orL : List Int → Int
  | [] => 0
  | x :: l => if x ≠ 0 then x else orL l
theorem orL2_neg (x y : Int) : orL [x, y] < 0 ↔ (x < 0 ∨ x = 0 ∧ y < 0) := by
  simp only [orL]
  by_cases hx : x = 0
  · subst hx
    by_cases hy : y = 0
    · subst hy; simp
    · simp [hy]
  · simp [hx]
theorem cmpZ_neg (x y : Int) : cmpZ x y < 0 ↔ x < y := by
  unfold cmpZ
  (repeat' split) <;> omega
theorem cmpZ_zero (x y : Int) : cmpZ x y = 0 ↔ x = y := by
  unfold cmpZ
  (repeat' split) <;> omega
theorem orL_stop (l : List Int) (k : Nat) (h : k < l.length) (h0 : l[k]?.getD 0 ≠ 0) : orL (l.drop k) = l[k]?.getD 0 := by
  rw [List.getElem?_eq_getElem h, Option.getD_some] at *
  rw [List.drop_eq_getElem_cons h]
  exact if_pos h0
theorem orL_next (l : List Int) (k : Nat) (h : k < l.length) (h0 : l[k]?.getD 0 = 0) : orL (l.drop k) = orL (l.drop (k + 1)) := by
  rw [List.getElem?_eq_getElem h, Option.getD_some] at h0
  rw [List.drop_eq_getElem_cons h]
  exact if_neg (by simpa using h0)
theorem Or_int (b off len cap : Nat) (l : List Int) (w : World) (hl : l.length = len) (hm : len ≤ 1000)
    (hc : ∀ i, i < len → w.cell? ⟨b, off + i, none⟩ = some (.int .i64 (l[i]?.getD 0))) :
    Calls Try.prog 137 #[.slice (some ⟨b, off, none⟩) len cap] w fun e w' => e = .returned (.int .i64 (orL l)) ∧ w = w' := by
  have HL := Lib.hid hl
  clear hl
  have HC := Lib.hid hc
  clear hc
  go_enter Try.func137, Try.ntmps137
  go_wp2
  go_loop [5, 8] (fun v i => ∃ k : Nat, k ≤ len ∧ i = .int .i64 k ∧ Hid (orL l = orL (l.drop k))) (fun _ i => len - (intOf i).toNat)
  case atStart => exact ⟨0, by omega, rfl, Lib.hid rfl⟩
  case round =>
    obtain ⟨k, hk, rfl, ho⟩ := hrel
    by_cases hlt : k < len
    · have hcell := HC.out k hlt
      by_cases h0 : l[k]?.getD 0 = 0
      · have hn := Lib.hid (orL_next l k (by rw [HL.out]; exact hlt) h0)
        go_wp2
        go_round
        case rel => exact ⟨k + 1, by omega, by go_num, ho.out.trans hn.out⟩
        case measure => simp [intOf]; omega
      · have hn := Lib.hid (orL_stop l k (by rw [HL.out]; exact hlt) h0)
        go_wp2
        go_ret
        exact ⟨ret_int (by rw [ho.out, hn.out]), rfl⟩
    · go_wp2
      go_ret
      exact ⟨ret_int (by rw [ho.out, List.drop_of_length_le (by rw [HL.out]; omega)]; rfl), rfl⟩
theorem Or_two (b : Nat) (x y : Int) (w : World) (h0 : w.cell? ⟨b, 0, none⟩ = some (.int .i64 x)) (h1 : w.cell? ⟨b, 1, none⟩ = some (.int .i64 y)) :
    Calls Try.prog 137 #[.slice (some ⟨b, 0, none⟩) 2 2] w fun e w' => e = .returned (.int .i64 (orL [x, y])) ∧ w = w' := by
  refine Or_int b 0 2 2 [x, y] w rfl (by decide) fun i hi => ?_
  match i, hi with
  | 0, _ => simpa using h0
  | 1, _ => simpa using h1
end Go.Proofs.Ytiidkehcfoajeaa
