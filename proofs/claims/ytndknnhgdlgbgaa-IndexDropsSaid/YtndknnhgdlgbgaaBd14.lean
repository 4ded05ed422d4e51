/- drumlinlaw21: the examples of the chapter. -/
import Derived.Test.YtndknnhgdlgbgaaBd12
set_option linter.unusedVariables false
set_option linter.unusedSimpArgs false
namespace Go.Proofs.Ytndknnhgdlgbgaa
open Go.RowKit Go.Shelf
attribute [local go_sem] OvM cell_ovm obj_ovm
attribute [local go_sem] Oper.semAt_some

theorem low_1 {k : ByteArray} {c : UInt8} (h : k = ⟨#[c]⟩) (hc : c.toNat < 128) : Low k := by
  subst h
  intro j hj
  have h1 : j < 1 := hj
  have h0 : j = 0 := by omega
  subst h0
  exact hc
def wkA : En := ⟨1, ⟨#[97]⟩, false, 0, 0, 20⟩
def wkB : En := ⟨2, ⟨#[98]⟩, false, 0, 20, 18⟩
def wkC : En := ⟨3, ⟨#[97]⟩, true, 1, 0, 17⟩
def wkD : En := ⟨1, ⟨#[97]⟩, false, 2, 0, 20⟩
def wkL : List (En × Int) := [(wkA, 0), (wkB, 0), (wkC, 0), (wkD, 0), (⟨1, ⟨#[97]⟩, false, 2, 50, 20⟩, 6), (⟨4, ⟨#[99]⟩, false, 0, 19, 17⟩, 6), (⟨1, ⟨#[97]⟩, false, 1, 40, 21⟩, 2), (⟨1, ⟨#[97]⟩, false, 3, 0, 20⟩, 3), (⟨1, ⟨#[66]⟩, false, 0, 0, 17⟩, 2), (⟨9, ⟨#[97]⟩, false, 0, 8176, 17⟩, 2)]
def wkSt (j : Nat) : IX := (wkL.take j).foldl (fun X x => addX X x.1) (ixNew 3)
def wkX : IX := wkSt 10
def wkZ : IX := dropX wkX 0
theorem wk_of : wkX.of ⟨#[97]⟩ = [wkC, wkA, wkD] := by kernel_rfl
theorem wk_slot : wkX.slot 0 = [wkA, wkB] := by kernel_rfl
theorem wk_ks : wkX.ks = [⟨#[97]⟩, ⟨#[98]⟩] := by kernel_rfl
theorem wk_dc : dropC wkX 0 = 0 := by kernel_rfl
theorem wk_ks2 : wkZ.ks = [⟨#[97]⟩] := by kernel_rfl
theorem wk_len2 : wkZ.ents.length = 2 := by kernel_rfl
theorem wk_last2 : wkZ.last = 3 := by kernel_rfl
theorem wk_step : ∀ j x, wkL[j]? = some x → addE (wkSt j) x.1 = x.2 ∧ Low x.1.key ∧ En64 x.1 := by
  intro j x h
  match j, h with
  | 0, h => cases h; exact ⟨by kernel_rfl, low_1 rfl (by decide), by unfold En64; decide⟩
  | 1, h => cases h; exact ⟨by kernel_rfl, low_1 rfl (by decide), by unfold En64; decide⟩
  | 2, h => cases h; exact ⟨by kernel_rfl, low_1 rfl (by decide), by unfold En64; decide⟩
  | 3, h => cases h; exact ⟨by kernel_rfl, low_1 rfl (by decide), by unfold En64; decide⟩
  | 4, h => cases h; exact ⟨by kernel_rfl, low_1 rfl (by decide), by unfold En64; decide⟩
  | 5, h => cases h; exact ⟨by kernel_rfl, low_1 rfl (by decide), by unfold En64; decide⟩
  | 6, h => cases h; exact ⟨by kernel_rfl, low_1 rfl (by decide), by unfold En64; decide⟩
  | 7, h => cases h; exact ⟨by kernel_rfl, low_1 rfl (by decide), by unfold En64; decide⟩
  | 8, h => cases h; exact ⟨by kernel_rfl, low_1 rfl (by decide), by unfold En64; decide⟩
  | 9, h => cases h; exact ⟨by kernel_rfl, low_1 rfl (by decide), by unfold En64; decide⟩
  | _ + 10, h => cases h
theorem wk_next (j : Nat) (x : En × Int) (h : wkL[j]? = some x) : wkSt (j + 1) = addX (wkSt j) x.1 := by
  unfold wkSt
  rw [List.take_add_one, h, List.foldl_append]
  rfl
def row7 (l : List (En × Int)) : List Value := l.flatMap fun x => enC x.1 ++ [.int .i64 x.2]
theorem row7_get (l : List (En × Int)) : ∀ i x, l[i]? = some x → ∀ j u, (enC x.1 ++ [.int .i64 x.2])[j]? = some u → (row7 l)[i * 7 + j]? = some u := by
  induction l with
  | nil => intro i x h; simp at h
  | cons y l ih =>
    intro i x h j u hu
    have hj : j < 7 := by have := (List.getElem?_eq_some_iff.1 hu).1; simpa [enC] using this
    show ((enC y.1 ++ [.int .i64 y.2]) ++ row7 l)[i * 7 + j]? = some u
    cases i with
    | zero => simp at h; subst h; rw [List.getElem?_append_left (by simp [enC]; omega)]; simpa using hu
    | succ i =>
      rw [List.getElem?_append_right (by simp [enC]; omega), show (i + 1) * 7 + j - (enC y.1 ++ [Value.int .i64 y.2]).length = i * 7 + j by simp [enC]; omega]
      exact ih i x (by simpa using h) j u hu
set_option maxRecDepth 40000 in
theorem at_any (k : ByteArray) (q s o z : Int) (d : Bool) (w : World) : Calls Try.prog 108 #[.string k, .int .i64 q, .int .i64 s, .int .i64 o, .int .i64 z, .bool d] w fun e w' => e = .returned (.agg #[.int .i64 q, .string k, .bool d, .int .i64 s, .int .i64 o, .int .i64 z]) ∧ Gr w w' := by
  go_enter Try.func108, Try.ntmps108
  go_wp2
  refine bodyPost_ret (v := .agg #[.int .i64 q, .string k, .bool d, .int .i64 s, .int .i64 o, .int .i64 z]) ?_ rfl ⟨rfl, by (repeat (first | (with_reducible exact Gr.refl _) | assumption | (with_reducible apply Gr.from_drew) | (with_reducible apply Gr.alloc) | (with_reducible apply Gr.drew) | (with_reducible refine Gr.trans ?_ (by assumption)) | (with_reducible refine Gr.setCell ?_ (by omega) _)))⟩
  simp [results, Try.results108, go_sem]
set_option maxRecDepth 40000 in
set_option maxHeartbeats 8000000 in
theorem ix_works (w : World) : Calls Try.prog 42 #[] w fun e w' => e = .returned (.bool true) ∧ Gr w w' := by
  have HST := Lib.hid (fun j x h => And.intro (wk_step j x h) (wk_next j x h))
  go_enter Try.func42, Try.ntmps42
  go_wp2_with fail
  refine (New_any 3 w (by decide) (by decide)).mono ?_
  rintro e w1 ⟨b, S, rfl, h1, h2, h3⟩
  have HS1 : Hid (SW w [ixA b (wkSt 0) S] w1) := Lib.hid ((SW.start w).ixnew h1 h2 h3)
  have HG := Gr.refl w1
  clear h1 h2 h3
  go_wp2_with (go_at_call 108; refine (at_any _ _ _ _ _ _ _).mono ?_; rintro e w2 ⟨rfl, hg⟩; replace HG := HG.trans hg; clear hg)
  obtain ⟨w5, hw5⟩ : ∃ y, y = (((w2.alloc (.cells (enC wkA).toArray 43)).alloc (.cells (enC wkB).toArray 43)).alloc (.cells (enC wkC).toArray 43)).alloc (.cells (enC wkD).toArray 43) := ⟨_, rfl⟩
  obtain ⟨b3, hb3⟩ : ∃ q, q = w2.heap.size := ⟨_, rfl⟩
  have HS5 : Hid (SW w [ixA b (wkSt 0) S, blkA (b3 + 1 + 1 + 1) (.cells (enC wkD).toArray 43), blkA (b3 + 1 + 1) (.cells (enC wkC).toArray 43), blkA (b3 + 1) (.cells (enC wkB).toArray 43), blkA b3 (.cells (enC wkA).toArray 43)] w5) := Lib.hid (by
    have := ((((HS1.out.gr HG).allocT (.cells (enC wkA).toArray 43)).allocT (.cells (enC wkB).toArray 43)).allocT (.cells (enC wkC).toArray 43)).allocT (.cells (enC wkD).toArray 43)
    simp only [World.size_alloc, ← hb3] at this
    rw [← hw5] at this
    exact this)
  simp only [enC, wkA, wkB, wkC, wkD] at hw5
  rw [← hw5, ← hb3]
  clear hw5 hb3 HG
  have d3 := (cellsOf (show w5.heap[b3]? = _ from HS5.out.get (i := 4) rfl)).1
  have d4 := (cellsOf (show w5.heap[b3 + 1]? = _ from HS5.out.get (i := 3) rfl)).1
  have d5 := (cellsOf (show w5.heap[b3 + 1 + 1]? = _ from HS5.out.get (i := 2) rfl)).1
  have d6 := (cellsOf (show w5.heap[b3 + 1 + 1 + 1]? = _ from HS5.out.get (i := 1) rfl)).1
  simp only [enC, wkA, wkB, wkC, wkD] at d3 d4 d5 d6
  have HG := Gr.refl w5.drew
  refine wp_region_flo (fun _ => False) [] [] (by kernel_rfl) (by kernel_rfl) (fun _ h => h.elim) ?_
  refine flo_seg 8 rfl ?_
  simp only [List.take_succ_cons, List.take_zero, List.drop_succ_cons, List.drop_zero]
  repeat (go_big_quiet_step (fail))
  refine wpQuiet_nil ?_
  refine flo_eff rfl rfl rfl rfl (fun K hK => ?_)
  go_wp2_with ((go_at_call 108; refine (at_any _ _ _ _ _ _ _).mono ?_; rintro e w1 ⟨rfl, hg⟩; replace HG := HG.trans hg; (try clear hc); have hc := HG.cell; (try simp only [World.size_alloc] at hc)))
  refine ⟨by (first | (refine Gr.mdh ?_ _; (repeat (first | (with_reducible exact Gr.refl _) | assumption | (with_reducible apply Gr.from_drew) | (with_reducible apply Gr.alloc) | (with_reducible apply Gr.drew) | (with_reducible refine Gr.trans ?_ (by assumption)) | (with_reducible refine Gr.setCell ?_ (by omega) _))); done) | (repeat (first | (with_reducible exact Mdh.refl _ _) | (with_reducible refine Mdh.setCell ?_ (by simp) _) | (with_reducible refine Mdh.setNew ?_ (by simp) _) | (with_reducible apply Mdh.alloc) | (with_reducible apply Mdh.from_drew) | (with_reducible apply Mdh.drew) | (with_reducible refine Mdh.gr ?_ (by assumption))))), ?_⟩
  refine flo_seg 1 rfl ?_
  simp only [List.take_succ_cons, List.take_zero, List.drop_succ_cons, List.drop_zero]
  repeat (go_big_quiet_step (fail))
  refine wpQuiet_nil ?_
  refine flo_eff rfl rfl rfl rfl (fun K hK => ?_)
  go_wp2_with ((go_at_call 108; refine (at_any _ _ _ _ _ _ _).mono ?_; rintro e w1 ⟨rfl, hg⟩; replace HG := HG.trans hg; (try clear hc); have hc := HG.cell; (try simp only [World.size_alloc] at hc)))
  refine ⟨by (first | (refine Gr.mdh ?_ _; (repeat (first | (with_reducible exact Gr.refl _) | assumption | (with_reducible apply Gr.from_drew) | (with_reducible apply Gr.alloc) | (with_reducible apply Gr.drew) | (with_reducible refine Gr.trans ?_ (by assumption)) | (with_reducible refine Gr.setCell ?_ (by omega) _))); done) | (repeat (first | (with_reducible exact Mdh.refl _ _) | (with_reducible refine Mdh.setCell ?_ (by simp) _) | (with_reducible refine Mdh.setNew ?_ (by simp) _) | (with_reducible apply Mdh.alloc) | (with_reducible apply Mdh.from_drew) | (with_reducible apply Mdh.drew) | (with_reducible refine Mdh.gr ?_ (by assumption))))), ?_⟩
  refine flo_seg 1 rfl ?_
  simp only [List.take_succ_cons, List.take_zero, List.drop_succ_cons, List.drop_zero]
  repeat (go_big_quiet_step (fail))
  refine wpQuiet_nil ?_
  refine flo_eff rfl rfl rfl rfl (fun K hK => ?_)
  go_wp2_with ((go_at_call 108; refine (at_any _ _ _ _ _ _ _).mono ?_; rintro e w1 ⟨rfl, hg⟩; replace HG := HG.trans hg; (try clear hc); have hc := HG.cell; (try simp only [World.size_alloc] at hc)))
  refine ⟨by (first | (refine Gr.mdh ?_ _; (repeat (first | (with_reducible exact Gr.refl _) | assumption | (with_reducible apply Gr.from_drew) | (with_reducible apply Gr.alloc) | (with_reducible apply Gr.drew) | (with_reducible refine Gr.trans ?_ (by assumption)) | (with_reducible refine Gr.setCell ?_ (by omega) _))); done) | (repeat (first | (with_reducible exact Mdh.refl _ _) | (with_reducible refine Mdh.setCell ?_ (by simp) _) | (with_reducible refine Mdh.setNew ?_ (by simp) _) | (with_reducible apply Mdh.alloc) | (with_reducible apply Mdh.from_drew) | (with_reducible apply Mdh.drew) | (with_reducible refine Mdh.gr ?_ (by assumption))))), ?_⟩
  refine flo_seg 1 rfl ?_
  simp only [List.take_succ_cons, List.take_zero, List.drop_succ_cons, List.drop_zero]
  repeat (go_big_quiet_step (fail))
  refine wpQuiet_nil ?_
  refine flo_eff rfl rfl rfl rfl (fun K hK => ?_)
  go_wp2_with ((go_at_call 108; refine (at_any _ _ _ _ _ _ _).mono ?_; rintro e w1 ⟨rfl, hg⟩; replace HG := HG.trans hg; (try clear hc); have hc := HG.cell; (try simp only [World.size_alloc] at hc)))
  refine ⟨by (first | (refine Gr.mdh ?_ _; (repeat (first | (with_reducible exact Gr.refl _) | assumption | (with_reducible apply Gr.from_drew) | (with_reducible apply Gr.alloc) | (with_reducible apply Gr.drew) | (with_reducible refine Gr.trans ?_ (by assumption)) | (with_reducible refine Gr.setCell ?_ (by omega) _))); done) | (repeat (first | (with_reducible exact Mdh.refl _ _) | (with_reducible refine Mdh.setCell ?_ (by simp) _) | (with_reducible refine Mdh.setNew ?_ (by simp) _) | (with_reducible apply Mdh.alloc) | (with_reducible apply Mdh.from_drew) | (with_reducible apply Mdh.drew) | (with_reducible refine Mdh.gr ?_ (by assumption))))), ?_⟩
  refine flo_seg 1 rfl ?_
  simp only [List.take_succ_cons, List.take_zero, List.drop_succ_cons, List.drop_zero]
  repeat (go_big_quiet_step (fail))
  refine wpQuiet_nil ?_
  refine flo_eff rfl rfl rfl rfl (fun K hK => ?_)
  go_wp2_with ((go_at_call 108; refine (at_any _ _ _ _ _ _ _).mono ?_; rintro e w1 ⟨rfl, hg⟩; replace HG := HG.trans hg; (try clear hc); have hc := HG.cell; (try simp only [World.size_alloc] at hc)))
  refine ⟨by (first | (refine Gr.mdh ?_ _; (repeat (first | (with_reducible exact Gr.refl _) | assumption | (with_reducible apply Gr.from_drew) | (with_reducible apply Gr.alloc) | (with_reducible apply Gr.drew) | (with_reducible refine Gr.trans ?_ (by assumption)) | (with_reducible refine Gr.setCell ?_ (by omega) _))); done) | (repeat (first | (with_reducible exact Mdh.refl _ _) | (with_reducible refine Mdh.setCell ?_ (by simp) _) | (with_reducible refine Mdh.setNew ?_ (by simp) _) | (with_reducible apply Mdh.alloc) | (with_reducible apply Mdh.from_drew) | (with_reducible apply Mdh.drew) | (with_reducible refine Mdh.gr ?_ (by assumption))))), ?_⟩
  refine flo_seg 1 rfl ?_
  simp only [List.take_succ_cons, List.take_zero, List.drop_succ_cons, List.drop_zero]
  repeat (go_big_quiet_step (fail))
  refine wpQuiet_nil ?_
  refine flo_eff rfl rfl rfl rfl (fun K hK => ?_)
  go_wp2_with ((go_at_call 108; refine (at_any _ _ _ _ _ _ _).mono ?_; rintro e w1 ⟨rfl, hg⟩; replace HG := HG.trans hg; (try clear hc); have hc := HG.cell; (try simp only [World.size_alloc] at hc)))
  refine ⟨by (first | (refine Gr.mdh ?_ _; (repeat (first | (with_reducible exact Gr.refl _) | assumption | (with_reducible apply Gr.from_drew) | (with_reducible apply Gr.alloc) | (with_reducible apply Gr.drew) | (with_reducible refine Gr.trans ?_ (by assumption)) | (with_reducible refine Gr.setCell ?_ (by omega) _))); done) | (repeat (first | (with_reducible exact Mdh.refl _ _) | (with_reducible refine Mdh.setCell ?_ (by simp) _) | (with_reducible refine Mdh.setNew ?_ (by simp) _) | (with_reducible apply Mdh.alloc) | (with_reducible apply Mdh.from_drew) | (with_reducible apply Mdh.drew) | (with_reducible refine Mdh.gr ?_ (by assumption))))), ?_⟩
  refine flo_seg 1 rfl ?_
  simp only [List.take_succ_cons, List.take_zero, List.drop_succ_cons, List.drop_zero]
  repeat (go_big_quiet_step (fail))
  refine wpQuiet_nil ?_
  refine flo_eff rfl rfl rfl rfl (fun K hK => ?_)
  go_wp2
  refine ⟨by (first | (refine Gr.mdh ?_ _; (repeat (first | (with_reducible exact Gr.refl _) | assumption | (with_reducible apply Gr.from_drew) | (with_reducible apply Gr.alloc) | (with_reducible apply Gr.drew) | (with_reducible refine Gr.trans ?_ (by assumption)) | (with_reducible refine Gr.setCell ?_ (by omega) _))); done) | (repeat (first | (with_reducible exact Mdh.refl _ _) | (with_reducible refine Mdh.setCell ?_ (by simp) _) | (with_reducible refine Mdh.setNew ?_ (by simp) _) | (with_reducible apply Mdh.alloc) | (with_reducible apply Mdh.from_drew) | (with_reducible apply Mdh.drew) | (with_reducible refine Mdh.gr ?_ (by assumption))))), ?_⟩
  refine flo_seg 2 rfl ?_
  simp only [List.take_succ_cons, List.take_zero, List.drop_succ_cons, List.drop_zero]
  repeat (go_big_quiet_step (fail))
  refine wpQuiet_nil ?_
  refine flo_nil ?_
  obtain ⟨g, hg⟩ : ∃ q, q = w1.heap.size := ⟨_, rfl⟩
  have HS6 : Hid (SW w [ixA b (wkSt 0) S, blkA g (.cells (row7 wkL).toArray 178), blkA (b3 + 1 + 1 + 1) (.cells (enC wkD).toArray 43), blkA (b3 + 1 + 1) (.cells (enC wkC).toArray 43), blkA (b3 + 1) (.cells (enC wkB).toArray 43), blkA b3 (.cells (enC wkA).toArray 43)] (w1.alloc (.cells (row7 wkL).toArray 178))) := Lib.hid (by rw [hg]; exact (HS5.out.gr (Gr.of_drew HG)).allocT _)
  obtain ⟨w6, hw6⟩ : ∃ y, y = w1.alloc (.cells (row7 wkL).toArray 178) := ⟨_, rfl⟩
  rw [← hw6] at HS6
  simp only [row7, wkL, wkA, wkB, wkC, wkD, enC, List.flatMap_cons, List.flatMap_nil, List.cons_append, List.nil_append, List.append_nil] at hw6
  rw [← hw6, ← hg]
  clear hw6 hg HG hc d3 d4 d5 d6
  go_wp2_with fail
  go_loopw [52] (fun t52 wx => ∃ (j : Nat) (S : Nat → Prop), j ≤ 10 ∧ t52 = .int .i64 j ∧ Hid (SW w [ixA b (wkSt j) S, blkA g (.cells (row7 wkL).toArray 178), blkA (b3 + 1 + 1 + 1) (.cells (enC wkD).toArray 43), blkA (b3 + 1 + 1) (.cells (enC wkC).toArray 43), blkA (b3 + 1) (.cells (enC wkB).toArray 43), blkA b3 (.cells (enC wkA).toArray 43)] wx)) (fun t52 _ => 10 - (intOf t52).toNat)
  case atStart => exact ⟨0, S, by omega, rfl, HS6⟩
  case round =>
    obtain ⟨j, S, hj, rfl, HR⟩ := hrel
    by_cases hlt : j < 10
    · have hlt' : (j : Int) < 10 := by omega
      obtain ⟨x, hx⟩ : ∃ x, wkL[j]? = some x := ⟨_, List.getElem?_eq_getElem (show j < 10 from hlt)⟩
      have HX := Lib.hid (HST.out j x hx)
      have cc := (cellsOf (show wr.heap[g]? = _ from HR.out.get (i := 1) rfl)).1
      have hr : ∀ c u, (enC x.1 ++ [.int .i64 x.2])[c]? = some u → wr.cell? ⟨g, j * 7 + c, none⟩ = some u := fun c u hu => (cc _).trans (by rw [List.getElem?_toArray]; exact row7_get wkL j x hx c u hu)
      have d0 := hr 0 _ rfl
      have d1 := hr 1 _ rfl
      have d2 := hr 2 _ rfl
      have d3 := hr 3 _ rfl
      have d4 := hr 4 _ rfl
      have d5 := hr 5 _ rfl
      have d6 := hr 6 _ rfl
      simp only [Nat.add_zero] at d0 d1 d2 d3 d4 d5 d6
      clear hr cc hx
      obtain ⟨x, y⟩ := x
      simp only at HX d0 d1 d2 d3 d4 d5 d6
      go_wp2_with fail
      obtain ⟨b8, hb8⟩ : ∃ q, q = wr.heap.size := ⟨_, rfl⟩
      obtain ⟨w7, hw7⟩ : ∃ y', y' = wr.alloc (.cells #[.int .i64 x.seq, .string x.key, .bool x.del, .int .i64 x.slot, .int .i64 x.off, .int .i64 x.size, .int .i64 y] 178) := ⟨_, rfl⟩
      have HR7 : Hid (SW w [ixA b (wkSt j) S, blkA g (.cells (row7 wkL).toArray 178), blkA (b3 + 1 + 1 + 1) (.cells (enC wkD).toArray 43), blkA (b3 + 1 + 1) (.cells (enC wkC).toArray 43), blkA (b3 + 1) (.cells (enC wkB).toArray 43), blkA b3 (.cells (enC wkA).toArray 43)] w7) := Lib.hid (by rw [hw7]; exact HR.out.gr ((Gr.refl _).alloc _))
      have HB8 : Hid (w7.heap[b8]? = some (.cells #[.int .i64 x.seq, .string x.key, .bool x.del, .int .i64 x.slot, .int .i64 x.off, .int .i64 x.size, .int .i64 y] 178)) := Lib.hid (by rw [hw7, hb8]; exact blkNew wr _)
      have hS8 : ¬ S b8 := fun h => by have := HR.out.ix.lt _ h; omega
      have HSL : Hid (∀ k, S k → k < w7.heap.size) := Lib.hid HR7.out.ix.lt
      rw [← hw7, ← hb8]
      clear hw7 hb8 d0 d1 d2 d3 d4 d5 d6
      have d8 := (cellsOf HB8.out).1
      have HAD : Hid (Calls Try.prog 25 #[.pointer (some ⟨b, 0, none⟩), .agg #[.int .i64 x.seq, .string x.key, .bool x.del, .int .i64 x.slot, .int .i64 x.off, .int .i64 x.size]] w7.drew fun e w' => e = .returned (.int .i64 y) ∧ ∃ S', SW w [ixA b (wkSt (j + 1)) S', blkA g (.cells (row7 wkL).toArray 178), blkA (b3 + 1 + 1 + 1) (.cells (enC wkD).toArray 43), blkA (b3 + 1 + 1) (.cells (enC wkC).toArray 43), blkA (b3 + 1) (.cells (enC wkB).toArray 43), blkA b3 (.cells (enC wkA).toArray 43)] w' ∧ Mdh S w7.drew w') := Lib.hid (by
        refine (Add_any (HR7.out.ix.gr (Gr.refl _).drew) x HX.out.1.2.1 HX.out.1.2.2).mono ?_
        rintro e w' ⟨rfl, hp⟩
        rw [← HX.out.2] at hp
        obtain ⟨S', hS'⟩ := (HR7.out.gr (Gr.refl _).drew).post hp
        obtain ⟨_, _, hm, _⟩ := hp
        exact ⟨by rw [HX.out.1.1], S', hS', hm⟩)
      refine wp_region_flo (S) [] [] (by kernel_rfl) (by kernel_rfl) (HSL.out) ?_
      refine flo_seg 3 rfl ?_
      simp only [List.take_succ_cons, List.take_zero, List.drop_succ_cons, List.drop_zero]
      repeat (go_big_quiet_step (fail))
      refine wpQuiet_nil ?_
      refine flo_eff rfl rfl rfl rfl (fun K hK => ?_)
      go_wp2_with ((go_at_call 25; refine Calls.mono HAD.out ?_; rintro e w8 ⟨rfl, S', hs', hm⟩; have HS' := Lib.hid hs'; have HM := Lib.hid hm; clear hs' hm))
      refine ⟨by exact HM.out.mono (fun k hk => .inl hk), ?_⟩
      refine flo_seg 3 rfl ?_
      simp only [List.take_succ_cons, List.take_zero, List.drop_succ_cons, List.drop_zero]
      repeat (go_big_quiet_step (fail))
      refine wpQuiet_nil ?_
      refine flo_nil ?_
      go_wp2_with fail
      go_roundw
      case rel => exact ⟨j + 1, S', by omega, by go_num, HS'⟩
      case measure => simp [intOf]; omega
    · have hlt' : ¬ (j : Int) < 10 := by omega
      obtain rfl : j = 10 := by omega
      have HR0 : Hid (SW w [ixA b wkX S, blkA (b3 + 1 + 1 + 1) (.cells (enC wkD).toArray 43), blkA (b3 + 1 + 1) (.cells (enC wkC).toArray 43), blkA (b3 + 1) (.cells (enC wkB).toArray 43), blkA b3 (.cells (enC wkA).toArray 43)] wr) := Lib.hid (HR.out.sub (.cons_cons _ (.cons _ (List.Sublist.refl _))))
      clear HST HR HS6 HS5
      go_wp2_with fail
      refine (Newest_any HR0.out.ixp _).mono ?_
      rintro e w1 ⟨rfl, hg⟩
      rw [wk_of]
      obtain ⟨b9, hb9⟩ : ∃ q, q = w1.heap.size := ⟨_, rfl⟩
      have HR1 : Hid (SW w [ixA b wkX S, blkA b9 (.cells (enC wkC).toArray 43), blkA (b3 + 1 + 1 + 1) (.cells (enC wkD).toArray 43), blkA (b3 + 1 + 1) (.cells (enC wkC).toArray 43), blkA (b3 + 1) (.cells (enC wkB).toArray 43), blkA b3 (.cells (enC wkA).toArray 43)] (w1.alloc (.cells (enC wkC).toArray 43))) := Lib.hid (by rw [hb9]; exact (HR0.out.gr hg).allocT _)
      obtain ⟨w2, hw2⟩ : ∃ y, y = w1.alloc (.cells (enC wkC).toArray 43) := ⟨_, rfl⟩
      rw [← hw2] at HR1
      simp only [enC, wkC] at hw2
      simp only [newV, enV, wkC]
      clear hg
      go_wp2_with fail
      rw [← hw2, ← hb9]
      clear hw2 hb9
      refine (Of_any _ _ _).mono ?_
      rintro e w3 ⟨bb, bk, rfl, k1, k2, l1, l2, hg⟩
      have HR2 := Lib.hid (HR1.out.gr hg)
      have HT := Lib.hid (take_of HR2.out.ixp _ bb bk k1 k2)
      clear k1 k2 l1 l2 hg
      go_wp2_with fail
      refine Calls.mono HT.out ?_
      rw [wk_of]
      rintro e w4 ⟨v1, rfl, hr, hg⟩
      have HR3 := Lib.hid (HR2.out.row hr hg)
      clear hr hg
      go_wp2_with fail
      refine (Slot_any _ _ _).mono ?_
      rintro e w5 ⟨bb', bk', rfl, k1, k2, l1, l2, hg⟩
      have HR4 := Lib.hid (HR3.out.gr hg)
      have HT2 := Lib.hid (take_slot HR4.out.ixp _ bb' bk' k1 k2)
      clear k1 k2 l1 l2 hg
      go_wp2_with fail
      refine Calls.mono HT2.out ?_
      rw [wk_slot]
      rintro e w6 ⟨v2, rfl, hr, hg⟩
      have HR5 := Lib.hid (HR4.out.row hr hg)
      clear hr hg
      go_wp2_with fail
      refine (Keys_any _ _).mono ?_
      rintro e w7 ⟨bk2, rfl, k1, l1, hg⟩
      have HR6 := Lib.hid (HR5.out.gr hg)
      have HT3 := Lib.hid (take_keys HR6.out.ixp bk2 k1)
      clear k1 l1 hg
      go_wp2_with fail
      refine Calls.mono HT3.out ?_
      rw [wk_ks]
      rintro e w8 ⟨v3, rfl, hr, hg⟩
      have HR7 := Lib.hid (HR6.out.row hr hg)
      clear hr hg
      go_wp2_with fail
      refine (Drop_any HR7.out.ix 0).mono ?_
      rintro e w9 ⟨rfl, hp⟩
      rw [wk_slot, wk_dc]
      obtain ⟨S9, hS9⟩ := HR7.out.post hp
      have HR8 : Hid (SW w (ixA b wkZ S9 :: _) w9) := Lib.hid hS9
      clear hS9 hp HT HT2 HT3 HR7 HR6 HR5 HR4 HR3 HR2 HR1 HR0
      have d9 := (cellsOf (show w9.heap[b9]? = _ from HR8.out.get (i := 4) rfl)).1
      have d6 := (cellsOf (show w9.heap[b3 + 1 + 1 + 1]? = _ from HR8.out.get (i := 5) rfl)).1
      have d5 := (cellsOf (show w9.heap[b3 + 1 + 1]? = _ from HR8.out.get (i := 6) rfl)).1
      have d4 := (cellsOf (show w9.heap[b3 + 1]? = _ from HR8.out.get (i := 7) rfl)).1
      have d3 := (cellsOf (show w9.heap[b3]? = _ from HR8.out.get (i := 8) rfl)).1
      simp only [enC, wkA, wkB, wkC, wkD] at d3 d4 d5 d6 d9
      have ke : ∀ w, (binOp .eql 43 (.agg #[.int .i64 3, .string ⟨#[97]⟩, .bool true, .int .i64 1, .int .i64 0, .int .i64 17]) (.agg #[.int .i64 3, .string ⟨#[97]⟩, .bool true, .int .i64 1, .int .i64 0, .int .i64 17])).run Try.prog w = .ok (.bool true) w := fun w => (eqlE_run wkC wkC w).trans (by simp)
      have o1 : Hid (Own w9 43 6 v1 3 (rowE [wkC, wkA, wkD])) := Lib.hid (HR8.out.get (i := 3) rfl)
      have o2 : Hid (Own w9 43 6 v2 2 (rowE [wkA, wkB])) := Lib.hid (HR8.out.get (i := 2) rfl)
      have o3 : Hid (Own w9 9 1 v3 2 (kS [⟨#[97]⟩, ⟨#[98]⟩])) := Lib.hid (HR8.out.get (i := 1) rfl)
      have HB : Hid (w9.heap[b3]? = some (.cells (enC wkA).toArray 43) ∧ w9.heap[b3 + 1]? = some (.cells (enC wkB).toArray 43)) := Lib.hid ⟨HR8.out.get (i := 8) rfl, HR8.out.get (i := 7) rfl⟩
      have HZ : Hid (SW w [ixA b wkZ S9] w9) := Lib.hid (HR8.out.sub (.cons_cons _ (List.nil_sublist _)))
      clear HR8
      go_wp2_with fail
      refine (EqualE [wkC, wkA, wkD] [wkC, wkA, wkD] v1 _ _ (o1.out.gr ((Gr.refl _).alloc _)) (own_lit w9 _ 6 3 (rowE [wkC, wkA, wkD]) rfl (by decide)) (by decide)).mono ?_
      rintro e w10 ⟨rfl, hg⟩
      rw [decide_eq_true (rfl : [wkC, wkA, wkD] = [wkC, wkA, wkD])]
      have HG1 := Lib.hid (((Gr.refl w9).alloc _).trans hg)
      clear hg d9 d6 d5 d4 d3
      have d3 := (cellsOf (HG1.out.blk HB.out.1)).1
      have d4 := (cellsOf (HG1.out.blk HB.out.2)).1
      simp only [enC, wkA, wkB] at d3 d4
      go_wp2_with fail
      refine (EqualE [wkA, wkB] [wkA, wkB] v2 _ _ (o2.out.gr (HG1.out.alloc _)) (own_lit w10 _ 6 2 (rowE [wkA, wkB]) rfl (by decide)) (by decide)).mono ?_
      rintro e w11 ⟨rfl, hg⟩
      rw [decide_eq_true (rfl : [wkA, wkB] = [wkA, wkB])]
      have HG2 := Lib.hid ((HG1.out.alloc _).trans hg)
      clear hg d3 d4
      go_wp2_with fail
      refine (EqualS [⟨#[97]⟩, ⟨#[98]⟩] [⟨#[97]⟩, ⟨#[98]⟩] v3 _ _ (o3.out.gr (HG2.out.alloc _)) (own_lit w11 _ 1 2 (kS [⟨#[97]⟩, ⟨#[98]⟩]) rfl (by decide)) (by decide)).mono ?_
      rintro e w12 ⟨rfl, hg⟩
      rw [decide_eq_true (rfl : ([⟨#[97]⟩, ⟨#[98]⟩] : List ByteArray) = [⟨#[97]⟩, ⟨#[98]⟩])]
      have HG3 := Lib.hid ((HG2.out.alloc _).trans hg)
      clear hg
      go_wp2_with fail
      refine (Keys_any _ _).mono ?_
      rintro e w13 ⟨bk3, rfl, k1, l1, hg⟩
      have HZ2 := Lib.hid (HZ.out.gr (HG3.out.trans hg))
      have HT := Lib.hid (take_keys HZ2.out.ixp bk3 k1)
      clear k1 l1 hg
      go_wp2_with fail
      refine Calls.mono HT.out ?_
      rw [wk_ks2]
      rintro e w14 ⟨v4, rfl, hr, hg⟩
      have HZ3 := Lib.hid (HZ2.out.gr hg)
      have o4 : Hid (Own w14 9 1 v4 1 (kS [⟨#[97]⟩])) := Lib.hid hr.own
      clear hr hg
      go_wp2_with fail
      refine (EqualS [⟨#[97]⟩] [⟨#[97]⟩] v4 _ _ (o4.out.gr ((Gr.refl _).alloc _)) (own_lit w14 _ 1 1 (kS [⟨#[97]⟩]) rfl (by decide)) (by decide)).mono ?_
      rintro e w15 ⟨rfl, hg⟩
      rw [decide_eq_true (rfl : ([⟨#[97]⟩] : List ByteArray) = [⟨#[97]⟩])]
      have HZ4 := Lib.hid ((HZ3.out.gr ((Gr.refl _).alloc _)).gr hg)
      clear hg
      go_wp2_with fail
      refine (Len_any HZ4.out.ixp).mono ?_
      rintro e w16 ⟨rfl, rfl⟩
      rw [wk_len2]
      go_wp2_with fail
      refine (Last_any HZ4.out.ixp).mono ?_
      rintro e w17 ⟨rfl, hg⟩
      rw [wk_last2]
      have HZ5 := Lib.hid (HZ4.out.gr hg)
      clear hg
      go_wp2
      go_ret
      exact ⟨rfl, HZ5.out.g⟩
end Go.Proofs.Ytndknnhgdlgbgaa
