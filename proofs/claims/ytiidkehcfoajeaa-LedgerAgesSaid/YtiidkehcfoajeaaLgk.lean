/- LedgerAges. -/
import Derived.Test.YtiidkehcfoajeaaLgi
set_option linter.unusedVariables false
set_option linter.unusedSimpArgs false
namespace Go.Proofs.Ytiidkehcfoajeaa
open Go.RowKit Go.Shelf
attribute [local go_sem] OvM cell_ovm obj_ovm
attribute [local go_sem] Oper.semAt_some

set_option maxRecDepth 40000 in
set_option maxHeartbeats 4000000 in
theorem LedgerAges_any (b : By) (n : Int) (w : World) : Calls Try.prog 4 #[byV b, .int .i64 n] w fun e w' => e = .returned (.bool true) ∧ Gr w w' := by
  obtain ⟨x, y, hxy⟩ : ∃ x y : Int, ageBy b n = .tuple #[.int .i64 x, .int .i64 y] := by
    unfold ageBy
    split
    · exact ⟨_, _, rfl⟩
    · exact ⟨_, _, rfl⟩
  obtain ⟨c, hc⟩ : ∃ c : Int, chkBy b = c := ⟨_, rfl⟩
  have HXY := Lib.hid hxy
  have HC := Lib.hid hc
  clear hxy hc
  obtain ⟨b0, b1, b2, b3, b4⟩ := b
  simp only [byV]
  go_enter Try.func4, Try.ntmps4
  go_wp2_with fail
  refine (Age_by ⟨b0, b1, b2, b3, b4⟩ n _).mono ?_
  rintro e w1 ⟨rfl, hg1⟩
  rw [HXY.out]
  obtain ⟨k, hk⟩ : ∃ q, q = w.heap.size := ⟨_, rfl⟩
  have H1 : Hid (w1.heap[k]? = some (.cells #[.int .i64 b0, .int .i64 b1, .int .i64 b2, .int .i64 b3, .int .i64 b4] 44) ∧ Gr w w1) := Lib.hid ⟨by rw [hk]; exact hg1.blk (blkNew w _), ((Gr.refl w).alloc _).trans hg1⟩
  obtain ⟨c1, _⟩ := cellsOf H1.out.1
  rw [← hk]
  clear hg1 hk
  go_wp2_with fail
  refine (AgeRef_by ⟨b0, b1, b2, b3, b4⟩ n _).mono ?_
  rintro e w2 ⟨rfl, hg2⟩
  rw [HXY.out]
  have H2 := Lib.hid (And.intro (hg2.blk H1.out.1) (H1.out.2.trans hg2))
  clear hg2 c1
  obtain ⟨c2, _⟩ := cellsOf H2.out.1
  go_wp2_with fail

  refine wp_region_flo (fun _ => False) [] [] (by kernel_rfl) (by kernel_rfl) (fun _ h => h.elim) ?_
  refine flo_seg 1 rfl ?_
  simp only [List.take_succ_cons, List.take_zero, List.drop_succ_cons, List.drop_zero]
  repeat (go_big_quiet_step (fail))
  refine wpQuiet_nil ?_
  refine flo_eff rfl rfl rfl rfl (fun K hK => ?_)
  go_wp2_with ((go_at_call 23; refine (Check_by ⟨b0, b1, b2, b3, b4⟩ _).mono ?_; rintro e w3 ⟨rfl, hg3⟩; rw [HC.out]; have HG3 := Lib.hid hg3; have H3 := Lib.hid (And.intro ((((Gr.refl w2).drew).trans hg3).blk H2.out.1) ((H2.out.2.drew).trans hg3)); have c3 := (cellsOf H3.out.1).1; clear hg3))
  refine ⟨by exact HG3.out.mdh _, ?_⟩
  refine flo_seg 1 rfl ?_
  simp only [List.take_succ_cons, List.take_zero, List.drop_succ_cons, List.drop_zero]
  repeat (go_big_quiet_step (fail))
  refine wpQuiet_nil ?_
  refine flo_eff rfl rfl rfl rfl (fun K hK => ?_)
  go_wp2_with ((go_at_call 24; refine (CheckRef_by ⟨b0, b1, b2, b3, b4⟩ _).mono ?_; rintro e w4 ⟨rfl, hg4⟩; rw [HC.out]; have HG4 := Lib.hid hg4; clear hg4))
  refine ⟨by exact HG4.out.mdh _, ?_⟩
  refine flo_seg 12 rfl ?_
  simp only [List.take_succ_cons, List.take_zero, List.drop_succ_cons, List.drop_zero]
  repeat (go_big_quiet_step (fail))
  refine wpQuiet_nil ?_
  refine flo_eff rfl rfl rfl rfl (fun K hK => ?_)
  go_wp2_with ((go_at_call 25; refine (lg_works _).mono ?_; rintro e w5 ⟨rfl, hg5⟩; have HG5 := Lib.hid hg5; clear hg5))
  refine ⟨by exact HG5.out.mdh _, ?_⟩
  refine flo_seg 2 rfl ?_
  simp only [List.take_succ_cons, List.take_zero, List.drop_succ_cons, List.drop_zero]
  repeat (go_big_quiet_step (fail))
  refine wpQuiet_nil ?_
  refine flo_nil ?_

  go_wp2_with fail
  go_ret
  exact ⟨rfl, (H3.out.2.trans HG4.out).trans HG5.out⟩
end Go.Proofs.Ytiidkehcfoajeaa
