/- The row LivenessNil, by its contract. Written by row.py. -/
import Derived.Test.YtiidkehcfoajeaaBd15
import Derived.Test.YtiidkehcfoajeaaRows
import Derived.ProofKit
import Derived.OpenShut
import Derived.ShutString
import Derived.ChangeOld
import Derived.Below
import Derived.Lib.SmallJoins
namespace Go.Proofs.Ytiidkehcfoajeaa.LivenessNilRow
open Go.Proofs.Ytiidkehcfoajeaa Go.ChangeShapes Go.WideShapes Go.ChangeAt Go.RowKit Go.Joins
open Go.ChangeMaps (open_string shut_string)
set_option linter.unusedVariables false

theorem own : ownKnob Try.prog.godebug = none := by kernel_rfl
theorem laidOut : laidOutB Try.prog = true := by kernel_rfl

set_option maxRecDepth 100000 in
set_option maxHeartbeats 1000000 in
theorem lifted (os : Os) (started : os.Started) (H : Type) (enc : TypeId × Value → H) :
    ReturnsInHanded {} Try.checked os 12 .any (Rows.livenessNilSpec.pre6 enc Try.prog Try.f12 Rows.livenessNilRow.domain false) (Rows.livenessNilSpec.post enc Try.prog Try.f12 false true false false) := by
  refine returnsInHanded_of_change (C := Try.checked) own started (by kernel_rfl) Try.func12
    (ChangeSpec.witness6 (enc := enc) (C := Try.checked) false ⟨#[], #[.agg #[.int .i64 0, .string ⟨#[]⟩, .bool false, .int .i64 0, .int .i64 0, .int .i64 0], .int .i64 0], []⟩ 8 (by kernel_rfl) (by kernel_rfl) (by kernel_rfl) (by kernel_rfl)) ?_
  intro W base args ds gs before hval0 hW hcnd _
  have hval : ∀ (j : Nat) t v, Try.f12.params[j]? = some t → args[j]? = some v → Value.okWide Try.prog W .any base t v := hval0
  have hW' := hW
  obtain ⟨p, q, hA0, hV, rfl, hfz, hnd⟩ := hW
  have hA : DataW.TrodAll enc Try.prog W 0 (fun _ => true) true Try.f12.params.toList args.toList ds p := hA0
  rw [Try.params12] at hA hval
  obtain ⟨v0, vs0, d0, ds0, p0, q0, hargs, rfl, rfl, h0, r0⟩ := trodAll_cons hA
  obtain ⟨v1, vs1, d1, ds1, p1, q1, rfl, rfl, rfl, h1, r1⟩ := trodAll_cons r0
  obtain ⟨rfl, rfl, rfl⟩ := trodAll_nil r1
  obtain rfl : args = #[v0, v1] := by cases args; simp_all
  obtain ⟨rfl, rfl⟩ := trodVars_none hV
  have k0 := h0
  have lt0 : ∀ x ∈ p0, x.block < W.heap.size := by obtain ⟨m, hm⟩ := k0; exact DataW.trod_lt m _ _ _ hm
  have k1 := h1
  have lt1 : ∀ x ∈ p1, x.block < W.heap.size := by obtain ⟨m, hm⟩ := k1; exact DataW.trod_lt m _ _ _ hm
  obtain ⟨c00, c01, c02, c03, c04, c05, y00, y01, y02, y03, y04, y05, m0, rfl, rfl, rfl, hy00, hy01, hy02, hy03, hy04, hy05⟩ := open_agg6 Try.underlying23 (by kernel_rfl) (show Try.prog.cellsOf 23 = 6 by kernel_rfl) (hval 0 23 v0 rfl rfl) h0
  obtain ⟨a0x0, e00, rfl, w0x0⟩ := DataW.trod_int Try.underlying2 hy00
  simp at e00
  subst e00
  obtain ⟨a0x1, e01, rfl, w0x1⟩ := DataW.trod_string Try.underlying9 hy01
  simp at e01
  subst e01
  obtain ⟨a0x2, e02, rfl⟩ := DataW.trod_bool Try.underlying4 hy02
  simp at e02
  subst e02
  obtain ⟨a0x3, e03, rfl, w0x3⟩ := DataW.trod_int Try.underlying3 hy03
  simp at e03
  subst e03
  obtain ⟨a0x4, e04, rfl, w0x4⟩ := DataW.trod_int Try.underlying3 hy04
  simp at e04
  subst e04
  obtain ⟨a0x5, e05, rfl, w0x5⟩ := DataW.trod_int Try.underlying3 hy05
  simp at e05
  subst e05
  obtain ⟨a1, rfl, rfl, rfl, w1⟩ := open_int Try.underlying3 (hval 1 3 v1 rfl rfl) h1
  clear hA0 hval0
  refine (LivenessNil_any ⟨a0x0, a0x1, a0x2, a0x3, a0x4, a0x5⟩ a1 W).mono fun e W' ⟨he, bel0⟩ => ?_
  have bel : Below W.heap.size W W' := bel0
  subst he
  exact ⟨_, rfl, _, _, _, [], _, [], hW', trodAll_mk1 (shut_bool Try.underlying4 _), (trodAll_cons_mk (Below.trod laidOut (by kernel_rfl) (of_decide_eq_true (by kernel_rfl)) k0 bel lt0) (trodAll_cons_mk (Below.trod laidOut (by kernel_rfl) (of_decide_eq_true (by kernel_rfl)) k1 bel lt1) trodAll_mk0)), rfl, bel.frame _, fun h => by cases h⟩

theorem over : Rows.livenessNilRow.holds Try.pinned (OpenSpec.ofChange Rows.livenessNilSpec) :=
  OpenClaim.holds_of_wide 12 Try.f12 rfl rfl rfl rfl rfl rfl rfl ⟨rfl, rfl, rfl, rfl, rfl⟩ rfl rfl rfl rfl rfl (by kernel_rfl) Try.func12 (by kernel_rfl)
    (of_decide_eq_true (by kernel_rfl)) (by unfold Func.isWrapper; first | (rw [if_pos (by decide +kernel)]; kernel_rfl) | (rw [if_neg (by decide +kernel)]; exact ⟨rfl, rfl⟩))
    (fun os started H enc _ => lifted os started H enc)

theorem proved : Rows.LivenessNilSaid := over
end Go.Proofs.Ytiidkehcfoajeaa.LivenessNilRow
