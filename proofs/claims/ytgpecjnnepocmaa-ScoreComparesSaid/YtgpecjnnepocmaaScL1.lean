/- ScoreCompares, walked. -/
import Derived.Test.YtgpecjnnepocmaaScE
namespace Go.Proofs.Ytgpecjnnepocmaa
open Go.RowKit
attribute [local go_sem] Ovs cell_ov obj_ov shape_ov

/-- A side lies in a block of its own. -/
structure SdAt (w : World) (b : Nat) (s k a : Int) : Prop where
  lt : b < w.heap.size
  c0 : w.cell? ⟨b, 0, none⟩ = some (.int .i64 s)
  c1 : w.cell? ⟨b, 1, none⟩ = some (.int .i64 k)
  c2 : w.cell? ⟨b, 2, none⟩ = some (.int .i64 a)
theorem SdAt.grow {w w1 : World} {b : Nat} {s k a : Int} (h : SdAt w b s k a) (g : Gr w w1) : SdAt w1 b s k a :=
  ⟨Nat.lt_of_lt_of_le h.lt g.sz, (g.cell _ _ h.lt).trans h.c0, (g.cell _ _ h.lt).trans h.c1, (g.cell _ _ h.lt).trans h.c2⟩

set_option maxHeartbeats 2000000 in
theorem ScoreCompares_any (policy s k a s' k' a' room : Int) (w : World) :
    Calls Try.prog 3 #[.int .i64 policy, .agg #[.int .i64 s, .int .i64 k, .int .i64 a], .agg #[.int .i64 s', .int .i64 k', .int .i64 a'], .int .i64 room] w fun e w' =>
      e = .returned (.bool true) ∧ Gr w w' := by
  go_enter Try.func3, Try.ntmps3
  go_upto_region 1 with fail
  go_cut [5, 6, 9, 10] (fun t5 t6 t9 t10 wx => ∃ b5 b6 b9 b10, t5 = .pointer (some ⟨b5, 0, none⟩) ∧ t6 = .pointer (some ⟨b6, 0, none⟩) ∧ t9 = .pointer (some ⟨b9, 0, none⟩) ∧ t10 = .pointer (some ⟨b10, 0, none⟩) ∧
    SdAt wx b5 s k a ∧ SdAt wx b6 s' k' a' ∧ SdAt wx b9 s k a ∧ SdAt wx b10 s' k' a' ∧ Gr w wx)
  case first =>
    go_region
    all_goals
      go_wp2
      go_meet
      exact ⟨_, _, _, _, rfl, rfl, rfl, rfl, by constructor <;> simp [go_sem], by constructor <;> simp [go_sem], by constructor <;> simp [go_sem], by constructor <;> simp [go_sem], by (repeat (first | (with_reducible exact Gr.refl _) | assumption | (with_reducible apply Gr.from_drew) | (with_reducible apply Gr.alloc) | (with_reducible apply Gr.drew) | (with_reducible refine Gr.trans ?_ (by assumption))))⟩
  case rest =>
    obtain ⟨b5, b6, b9, b10, rfl, rfl, rfl, rfl, h5, h6, h9, h10, g⟩ := hcut
    obtain ⟨a1, a2, a3, a4⟩ := id h5
    obtain ⟨a5, a6, a7, a8⟩ := id h6
    obtain ⟨a9, a10, a11, a12⟩ := id h9
    obtain ⟨a13, a14, a15, a16⟩ := id h10
    have h5 := Lib.hid h5
    have h6 := Lib.hid h6
    have h9 := Lib.hid h9
    have h10 := Lib.hid h10
    have HG := Gr.refl wc
    go_wp2_with (first
      | (go_at_call 9; refine (Compare_any _ _ _ _ _ _ _ _ _).mono ?_; rintro e w1 ⟨rfl, hg⟩; replace HG := HG.trans hg; (try clear hc); have hc := HG.cell; (try simp only [World.size_alloc] at hc))
      | (go_at_call 10; refine (refCompare_any _ _ _ _ _ _ _ _ _).mono ?_; rintro e w1 ⟨rfl, hg⟩; replace HG := HG.trans hg; (try clear hc); have hc := HG.cell; (try simp only [World.size_alloc] at hc)))
    replace g := g.trans HG
    replace h5 := Lib.hid (h5.out.grow HG)
    replace h6 := Lib.hid (h6.out.grow HG)
    replace h9 := Lib.hid (h9.out.grow HG)
    replace h10 := Lib.hid (h10.out.grow HG)
    clear a1 a2 a3 a4 a5 a6 a7 a8 a9 a10 a11 a12 a13 a14 a15 a16 hc
    obtain ⟨a1, a2, a3, a4⟩ := h5.out
    obtain ⟨a5, a6, a7, a8⟩ := h6.out
    obtain ⟨a9, a10, a11, a12⟩ := h9.out
    obtain ⟨a13, a14, a15, a16⟩ := h10.out
    replace HG := Gr.refl w1.drew
    refine wp_region_flow (by kernel_rfl) (by kernel_rfl) ?_
    (try simp only [List.append_eq, List.cons_append, List.nil_append])
    refine flow_seg 2 rfl ?_
    simp only [List.take_succ_cons, List.take_zero, List.drop_succ_cons, List.drop_zero]
    repeat (go_big_quiet_step (fail))
    refine wpQuiet_nil ?_
    refine flow_eff rfl rfl (fun K hK => ?_)
    go_wp2_with ((go_at_call 11; refine (Check_any _ _ _ _ _).mono ?_; rintro e w1 ⟨rfl, hg⟩; replace HG := HG.trans hg; (try clear hc); have hc := HG.cell; (try simp only [World.size_alloc] at hc)))
    refine ⟨Gr.ovs (by (repeat (first | (with_reducible exact Gr.refl _) | assumption | (with_reducible apply Gr.from_drew) | (with_reducible apply Gr.alloc) | (with_reducible apply Gr.drew) | (with_reducible refine Gr.trans ?_ (by assumption))))), ?_⟩
    refine flow_seg 2 rfl ?_
    simp only [List.take_succ_cons, List.take_zero, List.drop_succ_cons, List.drop_zero]
    repeat (go_big_quiet_step (fail))
    refine wpQuiet_nil ?_
    refine flow_eff rfl rfl (fun K hK => ?_)
    go_wp2_with ((go_at_call 12; refine (refCheck_any _ _ _ _ _).mono ?_; rintro e w1 ⟨rfl, hg⟩; replace HG := HG.trans hg; (try clear hc); have hc := HG.cell; (try simp only [World.size_alloc] at hc)))
    refine ⟨Gr.ovs (by (repeat (first | (with_reducible exact Gr.refl _) | assumption | (with_reducible apply Gr.from_drew) | (with_reducible apply Gr.alloc) | (with_reducible apply Gr.drew) | (with_reducible refine Gr.trans ?_ (by assumption))))), ?_⟩
    refine flow_seg 4 rfl ?_
    simp only [List.take_succ_cons, List.take_zero, List.drop_succ_cons, List.drop_zero]
    repeat (go_big_quiet_step (fail))
    refine wpQuiet_nil ?_
    refine flow_eff rfl rfl (fun K hK => ?_)
    go_wp2_with ((go_at_call 13; refine (Greedy_any _ _ _ _ _ _ _).mono ?_; rintro e w1 ⟨rfl, hg⟩; replace HG := HG.trans hg; (try clear hc); have hc := HG.cell; (try simp only [World.size_alloc] at hc)))
    refine ⟨Gr.ovs (by (repeat (first | (with_reducible exact Gr.refl _) | assumption | (with_reducible apply Gr.from_drew) | (with_reducible apply Gr.alloc) | (with_reducible apply Gr.drew) | (with_reducible refine Gr.trans ?_ (by assumption))))), ?_⟩
    refine flow_seg 2 rfl ?_
    simp only [List.take_succ_cons, List.take_zero, List.drop_succ_cons, List.drop_zero]
    repeat (go_big_quiet_step (fail))
    refine wpQuiet_nil ?_
    refine flow_eff rfl rfl (fun K hK => ?_)
    go_wp2_with ((go_at_call 14; refine (refGreedy_any _ _ _ _ _ _ _).mono ?_; rintro e w1 ⟨rfl, hg⟩; replace HG := HG.trans hg; (try clear hc); have hc := HG.cell; (try simp only [World.size_alloc] at hc)))
    refine ⟨Gr.ovs (by (repeat (first | (with_reducible exact Gr.refl _) | assumption | (with_reducible apply Gr.from_drew) | (with_reducible apply Gr.alloc) | (with_reducible apply Gr.drew) | (with_reducible refine Gr.trans ?_ (by assumption))))), ?_⟩
    refine flow_seg 6 rfl ?_
    simp only [List.take_succ_cons, List.take_zero, List.drop_succ_cons, List.drop_zero]
    repeat (go_big_quiet_step (fail))
    refine wpQuiet_nil ?_
    refine flow_eff rfl rfl (fun K hK => ?_)
    go_wp2_with ((go_at_call 15; refine (Benefit_any _ _ _ _ _ _ _ _).mono ?_; rintro e w1 ⟨rfl, hg⟩; replace HG := HG.trans hg; (try clear hc); have hc := HG.cell; (try simp only [World.size_alloc] at hc)))
    refine ⟨Gr.ovs (by (repeat (first | (with_reducible exact Gr.refl _) | assumption | (with_reducible apply Gr.from_drew) | (with_reducible apply Gr.alloc) | (with_reducible apply Gr.drew) | (with_reducible refine Gr.trans ?_ (by assumption))))), ?_⟩
    refine flow_seg 3 rfl ?_
    simp only [List.take_succ_cons, List.take_zero, List.drop_succ_cons, List.drop_zero]
    repeat (go_big_quiet_step (fail))
    refine wpQuiet_nil ?_
    refine flow_eff rfl rfl (fun K hK => ?_)
    go_wp2_with ((go_at_call 16; refine (refBenefit_any _ _ _ _ _ _ _ _).mono ?_; rintro e w1 ⟨rfl, hg⟩; replace HG := HG.trans hg; (try clear hc); have hc := HG.cell; (try simp only [World.size_alloc] at hc)))
    refine ⟨Gr.ovs (by (repeat (first | (with_reducible exact Gr.refl _) | assumption | (with_reducible apply Gr.from_drew) | (with_reducible apply Gr.alloc) | (with_reducible apply Gr.drew) | (with_reducible refine Gr.trans ?_ (by assumption))))), ?_⟩
    refine flow_seg 13 rfl ?_
    simp only [List.take_succ_cons, List.take_zero, List.drop_succ_cons, List.drop_zero]
    repeat (go_big_quiet_step (fail))
    refine wpQuiet_nil ?_
    refine flow_eff rfl rfl (fun K hK => ?_)
    go_wp2_with ((go_at_call 17; refine (works_any _).mono ?_; rintro e w1 ⟨rfl, hg⟩; replace HG := HG.trans hg; (try clear hc); have hc := HG.cell; (try simp only [World.size_alloc] at hc)))
    refine ⟨Gr.ovs (by (repeat (first | (with_reducible exact Gr.refl _) | assumption | (with_reducible apply Gr.from_drew) | (with_reducible apply Gr.alloc) | (with_reducible apply Gr.drew) | (with_reducible refine Gr.trans ?_ (by assumption))))), ?_⟩
    refine flow_seg 2 rfl ?_
    simp only [List.take_succ_cons, List.take_zero, List.drop_succ_cons, List.drop_zero]
    repeat (go_big_quiet_step (fail))
    refine wpQuiet_nil ?_
    refine flow_nil ?_
    go_wp2
    go_ret
    exact ⟨rfl, g.trans (Gr.of_drew HG)⟩
end Go.Proofs.Ytgpecjnnepocmaa
