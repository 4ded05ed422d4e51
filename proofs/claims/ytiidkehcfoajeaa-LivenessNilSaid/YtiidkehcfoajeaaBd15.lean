/- No index, or one that was not made: the two pointers of a row. -/
import Derived.Test.YtiidkehcfoajeaaBd11
import Derived.Test.YtiidkehcfoajeaaBd14
import Derived.Lib.SmallJoins
set_option linter.unusedVariables false
set_option linter.unusedSimpArgs false
namespace Go.Proofs.Ytiidkehcfoajeaa
open Go.RowKit
def ixO : IX := ⟨[], []⟩
theorem ixO_of (k : ByteArray) : ixO.of k = [] := rfl
theorem ixO_slot (s : Int) : ixO.slot s = [] := slot_none s
structure NilP (w0 : World) (g : Nat) : Prop where
  at2 : ∀ j, j < 2 → ∃ (p : Option Addr) (S : Nat → Prop), ∀ wx, Gr w0 wx → wx.cell? ⟨g, j, none⟩ = some (.pointer p) ∧ IXP wx p ixO S
theorem nilP (w : World) (b : Nat) (hb : b = w.heap.size) : NilP ((w.alloc (.cells #[.pointer none, .slice none 0 0] 29)).alloc (.cells #[.pointer none, .pointer (some ⟨b, 0, none⟩)] 25)) (b + 1) := ⟨by
  intro j hj
  have h2 := blkNew (w.alloc (.cells #[.pointer none, .slice none 0 0] 29)) (.cells #[.pointer none, .pointer (some ⟨b, 0, none⟩)] 25)
  rw [World.size_alloc, ← hb] at h2
  have h1 : ((w.alloc (.cells #[.pointer none, .slice none 0 0] 29)).alloc (.cells #[.pointer none, .pointer (some ⟨b, 0, none⟩)] 25)).heap[b]? = some (.cells #[.pointer none, .slice none 0 0] 29) := by
    rw [hb]; exact ((Gr.refl _).alloc _).blk (blkNew w _)
  have hc := cellsOf h2
  rcases (show j = 0 ∨ j = 1 by omega) with rfl | rfl
  · exact ⟨none, fun _ => False, fun wx g => ⟨g.keep (hc.1 0), .inr ⟨.inl rfl, rfl, fun k => ⟨fun h => h.elim, (fun ⟨_, h, _⟩ => by cases h)⟩⟩⟩⟩
  · exact ⟨some ⟨b, 0, none⟩, fun k => k = b, fun wx g => ⟨g.keep (hc.1 1), .inr ⟨.inr ⟨b, rfl, g.blk h1⟩, rfl, fun k => ⟨fun h => ⟨_, rfl, h⟩, (fun ⟨a, h, hk⟩ => by cases h; exact hk)⟩⟩⟩⟩⟩
end Go.Proofs.Ytiidkehcfoajeaa

/- LivenessNil. -/
set_option linter.unusedVariables false
set_option linter.unusedSimpArgs false
namespace Go.Proofs.Ytiidkehcfoajeaa
open Go.RowKit Go.Shelf
attribute [local go_sem] OvM cell_ovm obj_ovm
attribute [local go_sem] Oper.semAt_some

set_option maxRecDepth 40000 in
set_option maxHeartbeats 8000000 in
theorem LivenessNil_any (e : En) (s : Int) (w : World) : Calls Try.prog 12 #[.agg #[.int .i64 e.seq, .string e.key, .bool e.del, .int .i64 e.slot, .int .i64 e.off, .int .i64 e.size], .int .i64 s] w fun e w' => e = .returned (.bool true) ∧ Gr w w' := by
  obtain ⟨e1, e2, e3, e4, e5, e6⟩ := e
  simp only
  go_enter Try.func12, Try.ntmps12
  go_wp2_with fail
  obtain ⟨b1, hb1⟩ : ∃ q, q = w.heap.size := ⟨_, rfl⟩
  obtain ⟨w0, hw0⟩ : ∃ y, y = ((w.alloc (.cells #[.int .i64 e1, .string e2, .bool e3, .int .i64 e4, .int .i64 e5, .int .i64 e6] 23)).alloc (.cells #[.pointer none, .slice none 0 0] 29)).alloc (.cells #[.pointer none, .pointer (some ⟨w.heap.size + 1, 0, none⟩)] 25) := ⟨_, rfl⟩
  have HP : Hid (NilP w0 (w.heap.size + 1 + 1)) := Lib.hid (by rw [hw0]; exact nilP _ _ (by rw [World.size_alloc]))
  have H0 : Hid (Gr w w0 ∧ w0.heap[b1]? = some (.cells #[.int .i64 e1, .string e2, .bool e3, .int .i64 e4, .int .i64 e5, .int .i64 e6] 23)) := Lib.hid (by
    rw [hw0, hb1]
    exact ⟨(((Gr.refl w).alloc _).alloc _).alloc _, (((Gr.refl _).alloc _).alloc _).blk (blkNew w _)⟩)
  rw [← hw0]
  rw [← hb1] at HP
  rw [← hb1]
  clear hw0 hb1
  go_loopw [7] (fun t7 wx => ∃ j : Nat, j ≤ 2 ∧ t7 = .int .i64 j ∧ Hid (Gr w0 wx)) (fun t7 _ => 2 - (intOf t7).toNat)
  case atStart => exact ⟨0, by omega, rfl, Lib.hid (Gr.refl _)⟩
  case round =>
    obtain ⟨j, hj, rfl, HR⟩ := hrel
    by_cases hlt : j < 2
    · have hlt' : (j : Int) < 2 := by omega
      obtain ⟨p, S, hp⟩ := HP.out.at2 j hlt
      have HQ := Lib.hid hp
      have d := (hp _ HR.out).1
      have db := (cellsOf (HR.out.blk H0.out.2)).1
      have HND : Hid (Calls Try.prog 69 #[.pointer p, .agg #[.int .i64 e1, .string e2, .bool e3, .int .i64 e4, .int .i64 e5, .int .i64 e6]] wr.drew fun r w' => r = .returned (.tuple #[.bool false, .int .i64 1]) ∧ Gr wr.drew w') := Lib.hid ((Needed_any (hp wr.drew (HR.out.trans (Gr.refl _).drew)).2 ⟨e1, e2, e3, e4, e5, e6⟩).mono (fun r w' h => ⟨h.1.trans (by rfl), h.2⟩))
      clear hp
      go_wp2_with fail
      have HG := Gr.refl wr.drew
      refine wp_region_flo (fun _ => False) [] [] (by kernel_rfl) (by kernel_rfl) (fun _ h => h.elim) ?_
      refine flo_seg 5 rfl ?_
      simp only [List.take_succ_cons, List.take_zero, List.drop_succ_cons, List.drop_zero]
      repeat (go_big_quiet_step (fail))
      refine wpQuiet_nil ?_
      refine flo_eff rfl rfl rfl rfl (fun K hK => ?_)
      go_wp2_with ((go_at_call 69; refine Calls.mono HND.out ?_; rintro e w1 ⟨rfl, hg⟩; have HGD := Lib.hid hg; have HG1 := Lib.hid (HR.out.trans (((Gr.refl _).drew).trans hg)); clear hg))
      refine ⟨by exact HGD.out.mdh _, ?_⟩
      refine flo_seg 5 rfl ?_
      simp only [List.take_succ_cons, List.take_zero, List.drop_succ_cons, List.drop_zero]
      repeat (go_big_quiet_step (fail))
      refine wpQuiet_nil ?_
      refine flo_nil ?_
      clear d db
      have d := (HQ.out _ HG1.out).1
      go_wp2_with fail
      refine (Keep_any (HQ.out _ HG1.out).2 s).mono ?_
      rintro r w2 ⟨v, rfl, hr, hg⟩
      obtain ⟨a2, c2, rfl, _⟩ := ownE_at (l := keepL ixO s) hr.own
      rw [show keepC ixO s = 1 from rfl, show keepL ixO s = [] by unfold keepL; rw [ixO_slot]; rfl]
      simp only [List.length_nil]
      have HG2 := Lib.hid (HG1.out.trans hg)
      clear hr hg d
      have d := (HQ.out _ HG2.out).1
      go_wp2_with fail
      refine (Size_any (HQ.out _ HG2.out).2 s).mono ?_
      rintro r w3 ⟨rfl, hg⟩
      rw [show keepC ixO s = 1 from rfl, show keepL ixO s = [] by unfold keepL; rw [ixO_slot]; rfl, show sumZ [] = 0 from rfl]
      have HG3 := Lib.hid (HG2.out.trans hg)
      clear hg d
      have d := (HQ.out _ HG3.out).1
      go_wp2_with fail
      refine (Redundant_any (HQ.out _ HG3.out).2 s).mono ?_
      rintro r w4 ⟨rfl, hg⟩
      rw [show decide (keepC ixO s = 0 ∧ keepL ixO s = []) = false from decide_eq_false (fun h => by have h1 : (1 : Int) = 0 := h.1; omega), show keepC ixO s = 1 from rfl]
      have HG4 := Lib.hid (HG3.out.trans hg)
      clear hg d
      have d := (HQ.out _ HG4.out).1
      go_wp2_with fail
      refine (Retired_any (HQ.out _ HG4.out).2).mono ?_
      rintro r w5 ⟨v, rfl, hr, hg⟩
      obtain ⟨a5, c5, rfl, _⟩ := ownE_at (l := retL ixO ixO.slots.length) hr.own
      rw [show (if ixO.slots = [] then (1 : Int) else 0) = 1 from rfl, show retL ixO ixO.slots.length = [] from rfl]
      simp only [List.length_nil]
      have HG5 := Lib.hid (HG4.out.trans hg)
      clear hr hg d
      go_wp2
      go_roundw
      case rel => exact ⟨j + 1, by omega, by go_num, HG5⟩
      case measure => simp [intOf]; omega
    · have hlt' : ¬ (j : Int) < 2 := by omega
      go_wp2_with (go_at_call 74; refine (lv_works _).mono ?_; rintro e w1 ⟨rfl, hg⟩; have HG := Lib.hid hg; clear hg)
      go_ret
      exact ⟨rfl, (H0.out.1.trans HR.out).trans HG.out⟩
end Go.Proofs.Ytiidkehcfoajeaa

/- A struct of five one-cell fields by value: the howto's block (extra-structs, 2), copied as it directs. -/
set_option linter.unusedVariables false
set_option linter.unusedSimpArgs false
namespace Go.Proofs.Ytiidkehcfoajeaa
open Go.Joins Go.ChangeShapes Go.WideShapes Go.RowKit Go.Deep
section
variable {H : Type} {enc : TypeId × Value → H} {P : Program} {w : World} {base : Nat} {spare : Nat → Bool} {held : Bool}
theorem open_agg5 {r : Reach} {b0 : Nat} {t : TypeId} {f0 f1 f2 f3 f4 : Field} {v : Value} {d : DataW H} {p : List MemPlace} (hs : P.underlying t = some (.struct #[f0, f1, f2, f3, f4])) (hone : oneCellFields P #[f0, f1, f2, f3, f4] = true) (hC : P.cellsOf t = 5)
    (hv : Value.okWide P w r b0 t v) (h : DataW.Trod enc P w base spare held t v d p) :
    ∃ (v0 v1 v2 v3 v4 : Value) (y0 y1 y2 y3 y4 : DataW H × List MemPlace) (n : Nat), v = .agg #[v0, v1, v2, v3, v4] ∧ d = .agg [y0.1, y1.1, y2.1, y3.1, y4.1] ∧ p = y0.2 ++ (y1.2 ++ (y2.2 ++ (y3.2 ++ y4.2))) ∧
      DataW.trod enc P w base spare held n f0.type [v0] = some y0 ∧ DataW.trod enc P w base spare held n f1.type [v1] = some y1 ∧ DataW.trod enc P w base spare held n f2.type [v2] = some y2 ∧ DataW.trod enc P w base spare held n f3.type [v3] = some y3 ∧ DataW.trod enc P w base spare held n f4.type [v4] = some y4 := by
  obtain ⟨cs, rfl, hsz⟩ := okWide_struct hs hv
  obtain ⟨l⟩ := cs
  match l, hsz.trans hC with
  | [c0, c1, c2, c3, c4], _ =>
    obtain ⟨fuel, hf⟩ := h
    obtain ⟨xs, n, _, hx, _, hlen, hg⟩ := DataW.trod_struct hs hf
    obtain ⟨o0, k0⟩ := hone_of hone 0 f0 rfl
    obtain ⟨o1, k1⟩ := hone_of hone 1 f1 rfl
    obtain ⟨o2, k2⟩ := hone_of hone 2 f2 rfl
    obtain ⟨o3, k3⟩ := hone_of hone 3 f3 rfl
    obtain ⟨o4, k4⟩ := hone_of hone 4 f4 rfl
    match xs, hlen with
    | [y0, y1, y2, y3, y4], _ =>
      simp only [Prod.mk.injEq] at hx
      exact ⟨c0, c1, c2, c3, c4, y0, y1, y2, y3, y4, n, rfl, by simpa using hx.1, by simpa using hx.2, by simpa [Value.cells, o0, k0] using hg 0 f0 rfl, by simpa [Value.cells, o1, k1] using hg 1 f1 rfl, by simpa [Value.cells, o2, k2] using hg 2 f2 rfl, by simpa [Value.cells, o3, k3] using hg 3 f3 rfl, by simpa [Value.cells, o4, k4] using hg 4 f4 rfl⟩
theorem open_agg6 {r : Reach} {b0 : Nat} {t : TypeId} {f0 f1 f2 f3 f4 f5 : Field} {v : Value} {d : DataW H} {p : List MemPlace} (hs : P.underlying t = some (.struct #[f0, f1, f2, f3, f4, f5])) (hone : oneCellFields P #[f0, f1, f2, f3, f4, f5] = true) (hC : P.cellsOf t = 6)
    (hv : Value.okWide P w r b0 t v) (h : DataW.Trod enc P w base spare held t v d p) :
    ∃ (v0 v1 v2 v3 v4 v5 : Value) (y0 y1 y2 y3 y4 y5 : DataW H × List MemPlace) (n : Nat), v = .agg #[v0, v1, v2, v3, v4, v5] ∧ d = .agg [y0.1, y1.1, y2.1, y3.1, y4.1, y5.1] ∧ p = y0.2 ++ (y1.2 ++ (y2.2 ++ (y3.2 ++ (y4.2 ++ y5.2)))) ∧
      DataW.trod enc P w base spare held n f0.type [v0] = some y0 ∧ DataW.trod enc P w base spare held n f1.type [v1] = some y1 ∧ DataW.trod enc P w base spare held n f2.type [v2] = some y2 ∧ DataW.trod enc P w base spare held n f3.type [v3] = some y3 ∧ DataW.trod enc P w base spare held n f4.type [v4] = some y4 ∧ DataW.trod enc P w base spare held n f5.type [v5] = some y5 := by
  obtain ⟨cs, rfl, hsz⟩ := okWide_struct hs hv
  obtain ⟨l⟩ := cs
  match l, hsz.trans hC with
  | [c0, c1, c2, c3, c4, c5], _ =>
    obtain ⟨fuel, hf⟩ := h
    obtain ⟨xs, n, _, hx, _, hlen, hg⟩ := DataW.trod_struct hs hf
    obtain ⟨o0, k0⟩ := hone_of hone 0 f0 rfl
    obtain ⟨o1, k1⟩ := hone_of hone 1 f1 rfl
    obtain ⟨o2, k2⟩ := hone_of hone 2 f2 rfl
    obtain ⟨o3, k3⟩ := hone_of hone 3 f3 rfl
    obtain ⟨o4, k4⟩ := hone_of hone 4 f4 rfl
    obtain ⟨o5, k5⟩ := hone_of hone 5 f5 rfl
    match xs, hlen with
    | [y0, y1, y2, y3, y4, y5], _ =>
      simp only [Prod.mk.injEq] at hx
      exact ⟨c0, c1, c2, c3, c4, c5, y0, y1, y2, y3, y4, y5, n, rfl, by simpa using hx.1, by simpa using hx.2, by simpa [Value.cells, o0, k0] using hg 0 f0 rfl, by simpa [Value.cells, o1, k1] using hg 1 f1 rfl, by simpa [Value.cells, o2, k2] using hg 2 f2 rfl, by simpa [Value.cells, o3, k3] using hg 3 f3 rfl, by simpa [Value.cells, o4, k4] using hg 4 f4 rfl, by simpa [Value.cells, o5, k5] using hg 5 f5 rfl⟩
end
end Go.Proofs.Ytiidkehcfoajeaa
