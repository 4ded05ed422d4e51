/- LedgerNil. -/
import Derived.Test.YtiidkehcfoajeaaLgi
set_option linter.unusedVariables false
set_option linter.unusedSimpArgs false
namespace Go.Proofs.Ytiidkehcfoajeaa
open Go.RowKit Go.Shelf
attribute [local go_sem] OvM cell_ovm obj_ovm
attribute [local go_sem] Oper.semAt_some

def ix0 : IX := ⟨[], []⟩
theorem ix0_of (s : Int) : ofL ix0 s = (zBy, 1) := rfl
theorem ix0_sum : sumBy ix0 = (zBy, 1) := rfl
set_option maxRecDepth 40000 in
set_option maxHeartbeats 4000000 in
theorem LedgerNil_any (s : Int) (w : World) : Calls Try.prog 5 #[.int .i64 s] w fun e w' => e = .returned (.bool true) ∧ Gr w w' := by
  go_enter Try.func5, Try.ntmps5
  go_wp2_with fail
  obtain ⟨b0, hb0⟩ : ∃ q, q = w.heap.size := ⟨_, rfl⟩
  obtain ⟨w0, hw0⟩ : ∃ y, y = (w.alloc (.cells #[.pointer none, .slice none 0 0] 29)).alloc (.cells #[.pointer none, .pointer (some ⟨w.heap.size, 0, none⟩)] 25) := ⟨_, rfl⟩
  have H0 : Hid (Gr w w0 ∧ w0.heap[b0]? = some (.cells #[.pointer none, .slice none 0 0] 29) ∧ w0.heap[b0 + 1]? = some (.cells #[.pointer none, .pointer (some ⟨b0, 0, none⟩)] 25)) := Lib.hid (by
    have h2 := blkNew (w.alloc (.cells #[.pointer none, .slice none 0 0] 29)) (.cells #[.pointer none, .pointer (some ⟨w.heap.size, 0, none⟩)] 25)
    rw [World.size_alloc] at h2
    rw [hw0, hb0]
    exact ⟨((Gr.refl w).alloc _).alloc _, ((Gr.refl _).alloc _).blk (blkNew w _), h2⟩)
  have HP : Hid (∀ j, j < 2 → ∃ (p : Option Addr) (S : Nat → Prop), ∀ wx, Gr w0 wx → wx.cell? ⟨b0 + 1, j, none⟩ = some (.pointer p) ∧ IXP wx p ix0 S) := Lib.hid (by
    intro j hj
    have hc := cellsOf H0.out.2.2
    rcases (show j = 0 ∨ j = 1 by omega) with rfl | rfl
    · exact ⟨none, fun _ => False, fun wx g => ⟨g.keep (hc.1 0), .inr ⟨.inl rfl, rfl, fun k => ⟨fun h => h.elim, fun ⟨_, h, _⟩ => by cases h⟩⟩⟩⟩
    · exact ⟨some ⟨b0, 0, none⟩, fun k => k = b0, fun wx g => ⟨g.keep (hc.1 1), .inr ⟨.inr ⟨b0, rfl, g.blk H0.out.2.1⟩, rfl, fun k => ⟨fun h => ⟨_, rfl, h⟩, fun ⟨a, h, hk⟩ => by cases h; exact hk⟩⟩⟩⟩)
  rw [← hw0, ← hb0]
  clear hw0 hb0
  go_loopw [17] (fun t17 wx => ∃ j : Nat, j ≤ 2 ∧ t17 = .int .i64 j ∧ Hid (Gr w0 wx)) (fun t17 _ => 2 - (intOf t17).toNat)
  case atStart => exact ⟨0, by omega, rfl, Lib.hid (Gr.refl _)⟩
  case round =>
    obtain ⟨j, hj, rfl, HR⟩ := hrel
    by_cases hlt : j < 2
    · have hlt' : (j : Int) < 2 := by omega
      obtain ⟨p, S, hp⟩ := HP.out j hlt
      have HQ := Lib.hid hp
      have d := (hp _ HR.out).1
      clear hp
      go_wp2_with fail
      refine (OfL_any (HQ.out _ HR.out).2 s).mono ?_
      rintro e w1 ⟨rfl, hg1⟩
      rw [ix0_of]
      simp only [byV, zBy]
      have H1 := Lib.hid (HR.out.trans hg1)
      clear hg1 d
      go_wp2_with fail
      refine (All_any (HQ.out _ (H1.out.alloc _)).2).mono ?_
      rintro e w2 ⟨v, rfl, hrow, hg2⟩
      obtain ⟨a, cap, rfl, _, hcap, _⟩ := ownBy_at (l := []) hrow.own
      rw [show (if ix0.slots.length = 0 then (1 : Int) else 0) = 1 from rfl]
      simp only [List.length_nil]
      have H2 := Lib.hid ((H1.out.alloc _).trans hg2)
      obtain ⟨b6, hb6⟩ : ∃ q, q = w1.heap.size := ⟨_, rfl⟩
      have HB2 : Hid (w2.heap[b6]? = some (.cells #[.int .i64 0, .int .i64 0, .int .i64 0, .int .i64 0, .int .i64 0] 44)) := Lib.hid (by rw [hb6]; exact hg2.blk (blkNew w1 _))
      rw [← hb6]
      clear hg2 hrow hb6
      go_wp2_with fail
      refine (Sum_any (HQ.out _ H2.out).2).mono ?_
      rintro e w3 ⟨rfl, hg3⟩
      rw [ix0_sum]
      simp only [byV, zBy]
      have H3 := Lib.hid (H2.out.trans hg3)
      have HB3 := Lib.hid (hg3.blk HB2.out)
      obtain ⟨c6, _⟩ := cellsOf HB3.out
      have l6 := blkLt HB3.out
      clear hg3
      go_wp2_with fail
      refine ⟨⟨j + 1, by omega, by go_num, Lib.hid (H3.out.alloc _)⟩, by simp [intOf]; omega⟩
    · have hlt' : ¬ (j : Int) < 2 := by omega
      go_wp2_with (go_at_call 25; refine (lg_works _).mono ?_; rintro e w1 ⟨rfl, hg⟩; have HG := Lib.hid hg; clear hg)
      go_ret
      exact ⟨rfl, (H0.out.1.trans HR.out).trans HG.out⟩
end Go.Proofs.Ytiidkehcfoajeaa
