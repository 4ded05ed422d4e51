/- The examples of chapter 4. -/
import Derived.Test.YthialloenkbpnaaPqVI
set_option linter.unusedVariables false
set_option linter.unusedSimpArgs false
namespace Go.Proofs.Ythialloenkbpnaa
open Go.RowKit

def wM1 : Nat → Option Int := upd (upd (upd (fun _ => none) 3 (some 10)) 1 (some 10)) 5 (some 4)
def wM2 : Nat → Option Int := upd (upd wM1 3 (some 2)) 5 none
theorem wmin1 : IsMinI wM1 5 4 := by
  refine ⟨rfl, fun j q hj => ?_⟩
  simp only [wM1, upd] at hj
  (repeat' split at hj) <;> (first | (cases hj; done) | (injection hj with hj; subst hj; subst_vars; simp only [ltI]; decide))
theorem wmin2 : IsMinI wM2 3 2 := by
  refine ⟨rfl, fun j q hj => ?_⟩
  simp only [wM2, wM1, upd] at hj
  (repeat' split at hj) <;> (first | (cases hj; done) | (injection hj with hj; subst hj; subst_vars; simp only [ltI]; decide))
theorem wmin3 : IsMinI (upd wM2 3 none) 1 10 := by
  refine ⟨rfl, fun j q hj => ?_⟩
  simp only [wM2, wM1, upd] at hj
  (repeat' split at hj) <;> (first | (cases hj; done) | (injection hj with hj; subst hj; subst_vars; simp only [ltI]; decide))

set_option maxRecDepth 40000 in
set_option maxHeartbeats 2000000 in
theorem works_any (w : World) : Calls Try.prog 11 #[] w fun e w' => e = .returned (.bool true) ∧ Gr w w' := by
  go_enter Try.func11, Try.ntmps11
  go_wp2_with fail
  refine (New_WI 8 w w (Gr.refl w) (by omega) (by omega)).mono ?_
  rintro e w1 ⟨b, rfl, q1⟩
  go_wp2_with fail
  refine (Push_WI 3 10 q1 (by decide) rfl).mono ?_
  rintro e w2 ⟨rfl, q2⟩
  clear q1
  go_wp2_with fail
  refine (Push_WI 1 10 q2 (by decide) rfl).mono ?_
  rintro e w3 ⟨rfl, q3⟩
  clear q2
  go_wp2_with fail
  refine (Push_WI 5 4 q3 (by decide) rfl).mono ?_
  rintro e w4 ⟨rfl, q4⟩
  clear q3
  go_wp2_with fail
  refine (PushHave_WI 5 _ q4 (by decide) (by simp [upd])).mono ?_
  rintro e w5 ⟨rfl, rfl⟩
  go_wp2_with fail
  refine (PushBad_WI 8 _ q4 (by right; decide)).mono ?_
  rintro e w5 ⟨rfl, rfl⟩
  go_wp2_with fail
  refine (Peek_WI q4 (by decide)).mono ?_
  rintro e w5 ⟨i, p, rfl, _, hm, q5⟩
  obtain ⟨rfl, rfl⟩ := hm.uniq wmin1
  clear q4 hm
  go_wp2_with fail
  refine (Change_WI 3 2 q5 (by decide) (by simp [upd])).mono ?_
  rintro e w6 ⟨rfl, q6⟩
  clear q5
  go_wp2_with fail
  refine (ChangeNone_WI 0 _ q6 (by decide) rfl).mono ?_
  rintro e w7 ⟨rfl, rfl⟩
  go_wp2_with fail
  refine (Remove_WI 5 4 q6 (by decide) rfl).mono ?_
  rintro e w7 ⟨rfl, q7⟩
  clear q6
  go_wp2_with fail
  refine (Pop_WI q7 (by decide)).mono ?_
  rintro e w8 ⟨i, p, rfl, _, hm, q8⟩
  obtain ⟨rfl, rfl⟩ := hm.uniq wmin2
  clear q7 hm
  go_wp2_with fail
  refine (Pop_WI q8 (by decide)).mono ?_
  rintro e w9 ⟨i, p, rfl, _, hm, q9⟩
  obtain ⟨rfl, rfl⟩ := hm.uniq wmin3
  clear q8 hm
  go_wp2_with fail
  refine (PopNone_WI q9).mono ?_
  rintro e w10 ⟨rfl, rfl⟩
  go_wp2_with fail
  refine (Len_WI q9).mono ?_
  rintro e w10 ⟨rfl, rfl⟩
  go_wp2
  go_ret
  exact ⟨rfl, q9.g⟩
end Go.Proofs.Ythialloenkbpnaa
