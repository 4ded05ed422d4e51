/- IndexNil. -/
import Derived.Test.YtiidkehcfoajeaaIxW
set_option linter.unusedVariables false
set_option linter.unusedSimpArgs false
namespace Go.Proofs.Ytiidkehcfoajeaa
open Go.RowKit Go.Shelf
attribute [local go_sem] OvM cell_ovm obj_ovm
attribute [local go_sem] Oper.semAt_some

def ixO : IX := ⟨[], []⟩
theorem ixO_of (k : ByteArray) : ixO.of k = [] := rfl
theorem ixO_slot (s : Int) : ixO.slot s = [] := slot_none s
/-- No index, or one that was not made: the two pointers of a row. -/
structure NilP (w0 : World) (g : Nat) : Prop where
  at2 : ∀ j, j < 2 → ∃ (p : Option Addr) (S : Nat → Prop), ∀ wx, Gr w0 wx → wx.cell? ⟨g, j, none⟩ = some (.pointer p) ∧ IXP wx p ixO S
theorem nilP (w : World) (b : Nat) (hb : b = w.heap.size) : NilP ((w.alloc (.cells #[.pointer none, .slice none 0 0] 29)).alloc (.cells #[.pointer none, .pointer (some ⟨b, 0, none⟩)] 25)) (b + 1) := ⟨by
  intro j hj
  have h2 := blkNew (w.alloc (.cells #[.pointer none, .slice none 0 0] 29)) (.cells #[.pointer none, .pointer (some ⟨b, 0, none⟩)] 25)
  rw [World.size_alloc, ← hb] at h2
  have h1 : ((w.alloc (.cells #[.pointer none, .slice none 0 0] 29)).alloc (.cells #[.pointer none, .pointer (some ⟨b, 0, none⟩)] 25)).heap[b]? = some (.cells #[.pointer none, .slice none 0 0] 29) := by
    rw [hb]; exact ((Gr.refl _).alloc _).blk (blkNew w _)
  have hc := cellsOf h2
  rcases (show j = 0 ∨ j = 1 by omega) with rfl | rfl
  · exact ⟨none, fun _ => False, fun wx g => ⟨g.keep (hc.1 0), .inr ⟨.inl rfl, rfl, fun k => ⟨fun h => h.elim, (fun ⟨_, h, _⟩ => by cases h)⟩⟩⟩⟩
  · exact ⟨some ⟨b, 0, none⟩, fun k => k = b, fun wx g => ⟨g.keep (hc.1 1), .inr ⟨.inr ⟨b, rfl, g.blk h1⟩, rfl, fun k => ⟨fun h => ⟨_, rfl, h⟩, (fun ⟨a, h, hk⟩ => by cases h; exact hk)⟩⟩⟩⟩⟩
set_option maxRecDepth 40000 in
set_option maxHeartbeats 8000000 in
theorem IndexNil_any (e : En) (w : World) : Calls Try.prog 10 #[.agg #[.int .i64 e.seq, .string e.key, .bool e.del, .int .i64 e.slot, .int .i64 e.off, .int .i64 e.size]] w fun e w' => e = .returned (.bool true) ∧ Gr w w' := by
  obtain ⟨e1, e2, e3, e4, e5, e6⟩ := e
  simp only
  go_enter Try.func10, Try.ntmps10
  by_cases hk : 100 < e2.size
  · have hk' : (100 : Int) < e2.size := by omega
    go_wp2_with (go_at_call 39; refine (ix_works _).mono ?_; rintro e w1 ⟨rfl, hg⟩; have HG := Lib.hid hg; clear hg)
    go_ret
    exact ⟨rfl, ((Gr.refl w).alloc _).trans HG.out⟩
  · have hk' : ¬ (100 : Int) < e2.size := by omega
    go_wp2_with fail
    obtain ⟨b1, hb1⟩ : ∃ q, q = w.heap.size := ⟨_, rfl⟩
    obtain ⟨w0, hw0⟩ : ∃ y, y = ((w.alloc (.cells #[.int .i64 e1, .string e2, .bool e3, .int .i64 e4, .int .i64 e5, .int .i64 e6] 23)).alloc (.cells #[.pointer none, .slice none 0 0] 29)).alloc (.cells #[.pointer none, .pointer (some ⟨w.heap.size + 1, 0, none⟩)] 25) := ⟨_, rfl⟩
    have HP : Hid (NilP w0 (w.heap.size + 1 + 1)) := Lib.hid (by rw [hw0]; exact nilP _ _ (by rw [World.size_alloc]))
    have H0 : Hid (Gr w w0 ∧ w0.heap[b1]? = some (.cells #[.int .i64 e1, .string e2, .bool e3, .int .i64 e4, .int .i64 e5, .int .i64 e6] 23)) := Lib.hid (by
      rw [hw0, hb1]
      exact ⟨(((Gr.refl w).alloc _).alloc _).alloc _, (((Gr.refl _).alloc _).alloc _).blk (blkNew w _)⟩)
    rw [← hw0]
    rw [← hb1] at HP
    rw [← hb1]
    clear hw0 hb1
    have kn : ∀ w, (binOp .neq 23 (.agg #[.int .i64 0, .string ⟨#[]⟩, .bool false, .int .i64 0, .int .i64 0, .int .i64 0]) (.agg #[.int .i64 0, .string ⟨#[]⟩, .bool false, .int .i64 0, .int .i64 0, .int .i64 0])).run Try.prog w = .ok (.bool false) w := fun w => (neqE_run zE zE w).trans (by simp)
    go_loopw [20] (fun t20 wx => ∃ j : Nat, j ≤ 2 ∧ t20 = .int .i64 j ∧ Hid (Gr w0 wx)) (fun t20 _ => 2 - (intOf t20).toNat)
    case atStart => exact ⟨0, by omega, rfl, Lib.hid (Gr.refl _)⟩
    case round =>
      obtain ⟨j, hj, rfl, HR⟩ := hrel
      by_cases hlt : j < 2
      · have hlt' : (j : Int) < 2 := by omega
        obtain ⟨p, S, hp⟩ := HP.out.at2 j hlt
        have HQ := Lib.hid hp
        have d := (hp _ HR.out).1
        have db := (cellsOf (HR.out.blk H0.out.2)).1
        clear hp
        go_wp2_with fail
        refine (Newest_any (HQ.out _ HR.out).2 _).mono ?_
        rintro e w1 ⟨rfl, hg⟩
        rw [ixO_of]
        simp only [newV, enV, zE]
        have HG1 := Lib.hid (HR.out.trans hg)
        obtain ⟨b6, hb6⟩ : ∃ q, q = w1.heap.size := ⟨_, rfl⟩
        have HB6 : Hid ((w1.alloc (.cells #[.int .i64 0, .string ⟨#[]⟩, .bool false, .int .i64 0, .int .i64 0, .int .i64 0] 23)).heap[b6]? = some (.cells #[.int .i64 0, .string ⟨#[]⟩, .bool false, .int .i64 0, .int .i64 0, .int .i64 0] 23)) := Lib.hid (by rw [hb6]; exact blkNew w1 _)
        have db := (cellsOf (HG1.out.blk H0.out.2)).1
        have lb := blkLt (HG1.out.blk H0.out.2)
        clear hg d
        go_wp2_with fail
        rw [← hb6]
        clear hb6 db lb
        refine (DropN (ixp_none (HQ.out _ (HG1.out.alloc _)).2 rfl) _).mono ?_
        rintro e w2 ⟨rfl, hg⟩
        have HG2 := Lib.hid ((HG1.out.alloc _).trans hg)
        have HB2 := Lib.hid (hg.blk HB6.out)
        have db := (cellsOf (HG2.out.blk H0.out.2)).1
        clear hg
        go_wp2_with fail
        refine (AddN (ixp_none (HQ.out _ HG2.out).2 rfl) ⟨e1, e2, e3, e4, e5, e6⟩).mono ?_
        rintro e w3 ⟨rfl, hg⟩
        have HG3 := Lib.hid (HG2.out.trans hg)
        have d6 := (cellsOf (hg.blk HB2.out)).1
        clear hg db
        have db := (cellsOf (HG3.out.blk H0.out.2)).1
        go_wp2_with fail
        refine (Of_any _ _ _).mono ?_
        rintro e w4 ⟨bb, bk, rfl, k1, k2, l1, l2, hg⟩
        have HG4 := Lib.hid (HG3.out.trans hg)
        have HT := Lib.hid (take_of (HQ.out _ HG4.out).2 _ bb bk k1 k2)
        clear k1 k2 l1 l2 hg db d6
        go_wp2_with fail
        refine Calls.mono HT.out ?_
        rw [ixO_of]
        rintro e w5 ⟨v1, rfl, hr, hg⟩
        obtain ⟨a1, c1, rfl, _⟩ := ownE_at (l := []) hr.own
        have HG5 := Lib.hid (HG4.out.trans hg)
        have db := (cellsOf (HG5.out.blk H0.out.2)).1
        clear hr hg HT
        go_wp2_with fail
        refine (Slot_any _ _ _).mono ?_
        rintro e w6 ⟨bb2, bk2, rfl, k1, k2, l1, l2, hg⟩
        have HG6 := Lib.hid (HG5.out.trans hg)
        have HT := Lib.hid (take_slot (HQ.out _ HG6.out).2 _ bb2 bk2 k1 k2)
        clear k1 k2 l1 l2 hg db
        go_wp2_with fail
        refine Calls.mono HT.out ?_
        rw [ixO_slot]
        rintro e w7 ⟨v2, rfl, hr, hg⟩
        obtain ⟨a2, c2, rfl, _⟩ := ownE_at (l := []) hr.own
        have HG7 := Lib.hid (HG6.out.trans hg)
        clear hr hg HT
        go_wp2_with fail
        refine (Keys_any _ _).mono ?_
        rintro e w8 ⟨bb3, rfl, k1, l1, hg⟩
        have HG8 := Lib.hid (HG7.out.trans hg)
        have HT := Lib.hid (take_keys (HQ.out _ HG8.out).2 bb3 k1)
        clear k1 l1 hg
        go_wp2_with fail
        refine Calls.mono HT.out ?_
        rw [show ixO.ks = [] from rfl]
        rintro e w9 ⟨v3, rfl, hr, hg⟩
        obtain ⟨a3, c3, rfl, _⟩ := ownS_at (l := []) hr.own
        have HG9 := Lib.hid (HG8.out.trans hg)
        clear hr hg HT
        go_wp2_with fail
        refine (Len_any (HQ.out _ HG9.out).2).mono ?_
        rintro e w10 ⟨rfl, rfl⟩
        rw [show ((ixO.ents.length : Nat) : Int) = 0 from rfl]
        go_wp2_with fail
        refine (Last_any (HQ.out _ HG9.out).2).mono ?_
        rintro e w11 ⟨rfl, hg⟩
        rw [show ixO.last = 0 from rfl]
        have HG11 := Lib.hid (HG9.out.trans hg)
        clear hg
        go_wp2_with fail
        refine (Slots_any (HQ.out _ HG11.out).2).mono ?_
        rintro e w12 ⟨rfl, rfl⟩
        rw [show ((ixO.slots.length : Nat) : Int) = 0 from rfl]
        go_wp2_with fail
        refine (CopyN (ixp_none (HQ.out _ HG11.out).2 rfl)).mono ?_
        rintro e w13 ⟨rfl, hg⟩
        have HG13 := Lib.hid (HG11.out.trans hg)
        clear hg
        go_wp2
        go_roundw
        case rel => exact ⟨j + 1, by omega, by go_num, HG13⟩
        case measure => simp [intOf]; omega
      · have hlt' : ¬ (j : Int) < 2 := by omega
        go_wp2_with (go_at_call 39; refine (ix_works _).mono ?_; rintro e w1 ⟨rfl, hg⟩; have HG := Lib.hid hg; clear hg)
        go_ret
        exact ⟨rfl, (H0.out.1.trans HR.out).trans HG.out⟩
end Go.Proofs.Ytiidkehcfoajeaa
