/- drumlinlaw21: the examples of the chapter. -/
import Derived.Test.YtiidkehcfoajeaaBd12
import Derived.Test.YtiidkehcfoajeaaBd14
set_option linter.unusedVariables false
set_option linter.unusedSimpArgs false
namespace Go.Proofs.Ytiidkehcfoajeaa
open Go.RowKit Go.Shelf
attribute [local go_sem] OvM cell_ovm obj_ovm
attribute [local go_sem] Oper.semAt_some

theorem low_1 {k : ByteArray} {c : UInt8} (h : k = ⟨#[c]⟩) (hc : c.toNat < 128) : Low k := by
  subst h
  intro j hj
  have h1 : j < 1 := hj
  have h0 : j = 0 := by omega
  subst h0
  exact hc
def wkA : En := ⟨1, ⟨#[97]⟩, false, 0, 0, 20⟩
def wkB : En := ⟨2, ⟨#[98]⟩, false, 0, 20, 18⟩
def wkC : En := ⟨3, ⟨#[97]⟩, true, 1, 0, 17⟩
def wkD : En := ⟨1, ⟨#[97]⟩, false, 2, 0, 20⟩
def wkL : List (En × Int) := [(wkA, 0), (wkB, 0), (wkC, 0), (wkD, 0), (⟨1, ⟨#[97]⟩, false, 2, 50, 20⟩, 6), (⟨4, ⟨#[99]⟩, false, 0, 19, 17⟩, 6), (⟨1, ⟨#[97]⟩, false, 1, 40, 21⟩, 2), (⟨1, ⟨#[97]⟩, false, 3, 0, 20⟩, 3), (⟨1, ⟨#[66]⟩, false, 0, 0, 17⟩, 2), (⟨9, ⟨#[97]⟩, false, 0, 8176, 17⟩, 2)]
def wkSt (j : Nat) : IX := (wkL.take j).foldl (fun X x => addX X x.1) (ixNew 3)
def wkX : IX := wkSt 10
def wkZ : IX := dropX wkX 0
theorem wk_of : wkX.of ⟨#[97]⟩ = [wkC, wkA, wkD] := by kernel_rfl
theorem wk_slot : wkX.slot 0 = [wkA, wkB] := by kernel_rfl
theorem wk_ks : wkX.ks = [⟨#[97]⟩, ⟨#[98]⟩] := by kernel_rfl
theorem wk_dc : dropC wkX 0 = 0 := by kernel_rfl
theorem wk_ks2 : wkZ.ks = [⟨#[97]⟩] := by kernel_rfl
theorem wk_len2 : wkZ.ents.length = 2 := by kernel_rfl
theorem wk_last2 : wkZ.last = 3 := by kernel_rfl
theorem wk_step : ∀ j x, wkL[j]? = some x → addE (wkSt j) x.1 = x.2 ∧ Low x.1.key ∧ En64 x.1 := by
  intro j x h
  match j, h with
  | 0, h => cases h; exact ⟨by kernel_rfl, low_1 rfl (by decide), by unfold En64; decide⟩
  | 1, h => cases h; exact ⟨by kernel_rfl, low_1 rfl (by decide), by unfold En64; decide⟩
  | 2, h => cases h; exact ⟨by kernel_rfl, low_1 rfl (by decide), by unfold En64; decide⟩
  | 3, h => cases h; exact ⟨by kernel_rfl, low_1 rfl (by decide), by unfold En64; decide⟩
  | 4, h => cases h; exact ⟨by kernel_rfl, low_1 rfl (by decide), by unfold En64; decide⟩
  | 5, h => cases h; exact ⟨by kernel_rfl, low_1 rfl (by decide), by unfold En64; decide⟩
  | 6, h => cases h; exact ⟨by kernel_rfl, low_1 rfl (by decide), by unfold En64; decide⟩
  | 7, h => cases h; exact ⟨by kernel_rfl, low_1 rfl (by decide), by unfold En64; decide⟩
  | 8, h => cases h; exact ⟨by kernel_rfl, low_1 rfl (by decide), by unfold En64; decide⟩
  | 9, h => cases h; exact ⟨by kernel_rfl, low_1 rfl (by decide), by unfold En64; decide⟩
  | _ + 10, h => cases h
theorem wk_next (j : Nat) (x : En × Int) (h : wkL[j]? = some x) : wkSt (j + 1) = addX (wkSt j) x.1 := by
  unfold wkSt
  rw [List.take_add_one, h, List.foldl_append]
  rfl
def row7 (l : List (En × Int)) : List Value := l.flatMap fun x => enC x.1 ++ [.int .i64 x.2]
theorem row7_get (l : List (En × Int)) : ∀ i x, l[i]? = some x → ∀ j u, (enC x.1 ++ [.int .i64 x.2])[j]? = some u → (row7 l)[i * 7 + j]? = some u := by
  induction l with
  | nil => intro i x h; simp at h
  | cons y l ih =>
    intro i x h j u hu
    have hj : j < 7 := by have := (List.getElem?_eq_some_iff.1 hu).1; simpa [enC] using this
    show ((enC y.1 ++ [.int .i64 y.2]) ++ row7 l)[i * 7 + j]? = some u
    cases i with
    | zero => simp at h; subst h; rw [List.getElem?_append_left (by simp [enC]; omega)]; simpa using hu
    | succ i =>
      rw [List.getElem?_append_right (by simp [enC]; omega), show (i + 1) * 7 + j - (enC y.1 ++ [Value.int .i64 y.2]).length = i * 7 + j by simp [enC]; omega]
      exact ih i x (by simpa using h) j u hu
set_option maxRecDepth 40000 in
theorem at_any (k : ByteArray) (q s o z : Int) (d : Bool) (w : World) : Calls Try.prog 102 #[.string k, .int .i64 q, .int .i64 s, .int .i64 o, .int .i64 z, .bool d] w fun e w' => e = .returned (.agg #[.int .i64 q, .string k, .bool d, .int .i64 s, .int .i64 o, .int .i64 z]) ∧ Gr w w' := by
  go_enter Try.func102, Try.ntmps102
  go_wp2
  refine bodyPost_ret (v := .agg #[.int .i64 q, .string k, .bool d, .int .i64 s, .int .i64 o, .int .i64 z]) ?_ rfl ⟨rfl, by (repeat (first | (with_reducible exact Gr.refl _) | assumption | (with_reducible apply Gr.from_drew) | (with_reducible apply Gr.alloc) | (with_reducible apply Gr.drew) | (with_reducible refine Gr.trans ?_ (by assumption)) | (with_reducible refine Gr.setCell ?_ (by omega) _)))⟩
  simp [results, Try.results102, go_sem]
set_option maxRecDepth 40000 in
set_option maxHeartbeats 8000000 in
theorem ix_works (w : World) : Calls Try.prog 39 #[] w fun e w' => e = .returned (.bool true) ∧ Gr w w' := by
  have HST := Lib.hid (fun j x h => And.intro (wk_step j x h) (wk_next j x h))
  go_enter Try.func39, Try.ntmps39
  go_wp2_with fail
  refine (New_any 3 w (by decide) (by decide)).mono ?_
  rintro e w1 ⟨b, S, rfl, h1, h2, h3⟩
  have HS1 : Hid (SW w [ixA b (wkSt 0) S] w1) := Lib.hid ((SW.start w).ixnew h1 h2 h3)
  have HG := Gr.refl w1
  clear h1 h2 h3
  go_wp2_with (go_at_call 102; refine (at_any _ _ _ _ _ _ _).mono ?_; rintro e w2 ⟨rfl, hg⟩; replace HG := HG.trans hg; clear hg)
  obtain ⟨w5, hw5⟩ : ∃ y, y = (((w2.alloc (.cells (enC wkA).toArray 23)).alloc (.cells (enC wkB).toArray 23)).alloc (.cells (enC wkC).toArray 23)).alloc (.cells (enC wkD).toArray 23) := ⟨_, rfl⟩
  obtain ⟨b3, hb3⟩ : ∃ q, q = w2.heap.size := ⟨_, rfl⟩
  have HS5 : Hid (SW w [ixA b (wkSt 0) S, blkA (b3 + 1 + 1 + 1) (.cells (enC wkD).toArray 23), blkA (b3 + 1 + 1) (.cells (enC wkC).toArray 23), blkA (b3 + 1) (.cells (enC wkB).toArray 23), blkA b3 (.cells (enC wkA).toArray 23)] w5) := Lib.hid (by
    have := ((((HS1.out.gr HG).allocT (.cells (enC wkA).toArray 23)).allocT (.cells (enC wkB).toArray 23)).allocT (.cells (enC wkC).toArray 23)).allocT (.cells (enC wkD).toArray 23)
    simp only [World.size_alloc, ← hb3] at this
    rw [← hw5] at this
    exact this)
  simp only [enC, wkA, wkB, wkC, wkD] at hw5
  rw [← hw5, ← hb3]
  clear hw5 hb3 HG
  have d3 := (cellsOf (show w5.heap[b3]? = _ from HS5.out.get (i := 4) rfl)).1
  have d4 := (cellsOf (show w5.heap[b3 + 1]? = _ from HS5.out.get (i := 3) rfl)).1
  have d5 := (cellsOf (show w5.heap[b3 + 1 + 1]? = _ from HS5.out.get (i := 2) rfl)).1
  have d6 := (cellsOf (show w5.heap[b3 + 1 + 1 + 1]? = _ from HS5.out.get (i := 1) rfl)).1
  simp only [enC, wkA, wkB, wkC, wkD] at d3 d4 d5 d6
  have HG := Gr.refl w5.drew
  refine wp_region_flo (fun _ => False) [] [] (by kernel_rfl) (by kernel_rfl) (fun _ h => h.elim) ?_
  refine flo_seg 8 rfl ?_
  simp only [List.take_succ_cons, List.take_zero, List.drop_succ_cons, List.drop_zero]
  repeat (go_big_quiet_step (fail))
  refine wpQuiet_nil ?_
  refine flo_eff rfl rfl rfl rfl (fun K hK => ?_)
  go_wp2_with ((go_at_call 102; refine (at_any _ _ _ _ _ _ _).mono ?_; rintro e w1 ⟨rfl, hg⟩; replace HG := HG.trans hg; (try clear hc); have hc := HG.cell; (try simp only [World.size_alloc] at hc)))
  refine ⟨by (first | (refine Gr.mdh ?_ _; (repeat (first | (with_reducible exact Gr.refl _) | assumption | (with_reducible apply Gr.from_drew) | (with_reducible apply Gr.alloc) | (with_reducible apply Gr.drew) | (with_reducible refine Gr.trans ?_ (by assumption)) | (with_reducible refine Gr.setCell ?_ (by omega) _))); done) | (repeat (first | (with_reducible exact Mdh.refl _ _) | (with_reducible refine Mdh.setCell ?_ (by simp) _) | (with_reducible refine Mdh.setNew ?_ (by simp) _) | (with_reducible apply Mdh.alloc) | (with_reducible apply Mdh.from_drew) | (with_reducible apply Mdh.drew) | (with_reducible refine Mdh.gr ?_ (by assumption))))), ?_⟩
  refine flo_seg 1 rfl ?_
  simp only [List.take_succ_cons, List.take_zero, List.drop_succ_cons, List.drop_zero]
  repeat (go_big_quiet_step (fail))
  refine wpQuiet_nil ?_
  refine flo_eff rfl rfl rfl rfl (fun K hK => ?_)
  go_wp2_with ((go_at_call 102; refine (at_any _ _ _ _ _ _ _).mono ?_; rintro e w1 ⟨rfl, hg⟩; replace HG := HG.trans hg; (try clear hc); have hc := HG.cell; (try simp only [World.size_alloc] at hc)))
  refine ⟨by (first | (refine Gr.mdh ?_ _; (repeat (first | (with_reducible exact Gr.refl _) | assumption | (with_reducible apply Gr.from_drew) | (with_reducible apply Gr.alloc) | (with_reducible apply Gr.drew) | (with_reducible refine Gr.trans ?_ (by assumption)) | (with_reducible refine Gr.setCell ?_ (by omega) _))); done) | (repeat (first | (with_reducible exact Mdh.refl _ _) | (with_reducible refine Mdh.setCell ?_ (by simp) _) | (with_reducible refine Mdh.setNew ?_ (by simp) _) | (with_reducible apply Mdh.alloc) | (with_reducible apply Mdh.from_drew) | (with_reducible apply Mdh.drew) | (with_reducible refine Mdh.gr ?_ (by assumption))))), ?_⟩
  refine flo_seg 1 rfl ?_
  simp only [List.take_succ_cons, List.take_zero, List.drop_succ_cons, List.drop_zero]
  repeat (go_big_quiet_step (fail))
  refine wpQuiet_nil ?_
  refine flo_eff rfl rfl rfl rfl (fun K hK => ?_)
  go_wp2_with ((go_at_call 102; refine (at_any _ _ _ _ _ _ _).mono ?_; rintro e w1 ⟨rfl, hg⟩; replace HG := HG.trans hg; (try clear hc); have hc := HG.cell; (try simp only [World.size_alloc] at hc)))
  refine ⟨by (first | (refine Gr.mdh ?_ _; (repeat (first | (with_reducible exact Gr.refl _) | assumption | (with_reducible apply Gr.from_drew) | (with_reducible apply Gr.alloc) | (with_reducible apply Gr.drew) | (with_reducible refine Gr.trans ?_ (by assumption)) | (with_reducible refine Gr.setCell ?_ (by omega) _))); done) | (repeat (first | (with_reducible exact Mdh.refl _ _) | (with_reducible refine Mdh.setCell ?_ (by simp) _) | (with_reducible refine Mdh.setNew ?_ (by simp) _) | (with_reducible apply Mdh.alloc) | (with_reducible apply Mdh.from_drew) | (with_reducible apply Mdh.drew) | (with_reducible refine Mdh.gr ?_ (by assumption))))), ?_⟩
  refine flo_seg 1 rfl ?_
  simp only [List.take_succ_cons, List.take_zero, List.drop_succ_cons, List.drop_zero]
  repeat (go_big_quiet_step (fail))
  refine wpQuiet_nil ?_
  refine flo_eff rfl rfl rfl rfl (fun K hK => ?_)
  go_wp2_with ((go_at_call 102; refine (at_any _ _ _ _ _ _ _).mono ?_; rintro e w1 ⟨rfl, hg⟩; replace HG := HG.trans hg; (try clear hc); have hc := HG.cell; (try simp only [World.size_alloc] at hc)))
  refine ⟨by (first | (refine Gr.mdh ?_ _; (repeat (first | (with_reducible exact Gr.refl _) | assumption | (with_reducible apply Gr.from_drew) | (with_reducible apply Gr.alloc) | (with_reducible apply Gr.drew) | (with_reducible refine Gr.trans ?_ (by assumption)) | (with_reducible refine Gr.setCell ?_ (by omega) _))); done) | (repeat (first | (with_reducible exact Mdh.refl _ _) | (with_reducible refine Mdh.setCell ?_ (by simp) _) | (with_reducible refine Mdh.setNew ?_ (by simp) _) | (with_reducible apply Mdh.alloc) | (with_reducible apply Mdh.from_drew) | (with_reducible apply Mdh.drew) | (with_reducible refine Mdh.gr ?_ (by assumption))))), ?_⟩
  refine flo_seg 1 rfl ?_
  simp only [List.take_succ_cons, List.take_zero, List.drop_succ_cons, List.drop_zero]
  repeat (go_big_quiet_step (fail))
  refine wpQuiet_nil ?_
  refine flo_eff rfl rfl rfl rfl (fun K hK => ?_)
  go_wp2_with ((go_at_call 102; refine (at_any _ _ _ _ _ _ _).mono ?_; rintro e w1 ⟨rfl, hg⟩; replace HG := HG.trans hg; (try clear hc); have hc := HG.cell; (try simp only [World.size_alloc] at hc)))
  refine ⟨by (first | (refine Gr.mdh ?_ _; (repeat (first | (with_reducible exact Gr.refl _) | assumption | (with_reducible apply Gr.from_drew) | (with_reducible apply Gr.alloc) | (with_reducible apply Gr.drew) | (with_reducible refine Gr.trans ?_ (by assumption)) | (with_reducible refine Gr.setCell ?_ (by omega) _))); done) | (repeat (first | (with_reducible exact Mdh.refl _ _) | (with_reducible refine Mdh.setCell ?_ (by simp) _) | (with_reducible refine Mdh.setNew ?_ (by simp) _) | (with_reducible apply Mdh.alloc) | (with_reducible apply Mdh.from_drew) | (with_reducible apply Mdh.drew) | (with_reducible refine Mdh.gr ?_ (by assumption))))), ?_⟩
  refine flo_seg 1 rfl ?_
  simp only [List.take_succ_cons, List.take_zero, List.drop_succ_cons, List.drop_zero]
  repeat (go_big_quiet_step (fail))
  refine wpQuiet_nil ?_
  refine flo_eff rfl rfl rfl rfl (fun K hK => ?_)
  go_wp2_with ((go_at_call 102; refine (at_any _ _ _ _ _ _ _).mono ?_; rintro e w1 ⟨rfl, hg⟩; replace HG := HG.trans hg; (try clear hc); have hc := HG.cell; (try simp only [World.size_alloc] at hc)))
  refine ⟨by (first | (refine Gr.mdh ?_ _; (repeat (first | (with_reducible exact Gr.refl _) | assumption | (with_reducible apply Gr.from_drew) | (with_reducible apply Gr.alloc) | (with_reducible apply Gr.drew) | (with_reducible refine Gr.trans ?_ (by assumption)) | (with_reducible refine Gr.setCell ?_ (by omega) _))); done) | (repeat (first | (with_reducible exact Mdh.refl _ _) | (with_reducible refine Mdh.setCell ?_ (by simp) _) | (with_reducible refine Mdh.setNew ?_ (by simp) _) | (with_reducible apply Mdh.alloc) | (with_reducible apply Mdh.from_drew) | (with_reducible apply Mdh.drew) | (with_reducible refine Mdh.gr ?_ (by assumption))))), ?_⟩
  refine flo_seg 1 rfl ?_
  simp only [List.take_succ_cons, List.take_zero, List.drop_succ_cons, List.drop_zero]
  repeat (go_big_quiet_step (fail))
  refine wpQuiet_nil ?_
  refine flo_eff rfl rfl rfl rfl (fun K hK => ?_)
  go_wp2
  refine ⟨by (first | (refine Gr.mdh ?_ _; (repeat (first | (with_reducible exact Gr.refl _) | assumption | (with_reducible apply Gr.from_drew) | (with_reducible apply Gr.alloc) | (with_reducible apply Gr.drew) | (with_reducible refine Gr.trans ?_ (by assumption)) | (with_reducible refine Gr.setCell ?_ (by omega) _))); done) | (repeat (first | (with_reducible exact Mdh.refl _ _) | (with_reducible refine Mdh.setCell ?_ (by simp) _) | (with_reducible refine Mdh.setNew ?_ (by simp) _) | (with_reducible apply Mdh.alloc) | (with_reducible apply Mdh.from_drew) | (with_reducible apply Mdh.drew) | (with_reducible refine Mdh.gr ?_ (by assumption))))), ?_⟩
  refine flo_seg 2 rfl ?_
  simp only [List.take_succ_cons, List.take_zero, List.drop_succ_cons, List.drop_zero]
  repeat (go_big_quiet_step (fail))
  refine wpQuiet_nil ?_
  refine flo_nil ?_
  obtain ⟨g, hg⟩ : ∃ q, q = w1.heap.size := ⟨_, rfl⟩
  have HS6 : Hid (SW w [ixA b (wkSt 0) S, blkA g (.cells (row7 wkL).toArray 136), blkA (b3 + 1 + 1 + 1) (.cells (enC wkD).toArray 23), blkA (b3 + 1 + 1) (.cells (enC wkC).toArray 23), blkA (b3 + 1) (.cells (enC wkB).toArray 23), blkA b3 (.cells (enC wkA).toArray 23)] (w1.alloc (.cells (row7 wkL).toArray 136))) := Lib.hid (by rw [hg]; exact (HS5.out.gr (Gr.of_drew HG)).allocT _)
  obtain ⟨w6, hw6⟩ : ∃ y, y = w1.alloc (.cells (row7 wkL).toArray 136) := ⟨_, rfl⟩
  rw [← hw6] at HS6
  simp only [row7, wkL, wkA, wkB, wkC, wkD, enC, List.flatMap_cons, List.flatMap_nil, List.cons_append, List.nil_append, List.append_nil] at hw6
  rw [← hw6, ← hg]
  clear hw6 hg HG hc d3 d4 d5 d6
  go_wp2_with fail
  go_loopw [52] (fun t52 wx => ∃ (j : Nat) (S : Nat → Prop), j ≤ 10 ∧ t52 = .int .i64 j ∧ Hid (SW w [ixA b (wkSt j) S, blkA g (.cells (row7 wkL).toArray 136), blkA (b3 + 1 + 1 + 1) (.cells (enC wkD).toArray 23), blkA (b3 + 1 + 1) (.cells (enC wkC).toArray 23), blkA (b3 + 1) (.cells (enC wkB).toArray 23), blkA b3 (.cells (enC wkA).toArray 23)] wx)) (fun t52 _ => 10 - (intOf t52).toNat)
  case atStart => exact ⟨0, S, by omega, rfl, HS6⟩
  case round =>
    obtain ⟨j, S, hj, rfl, HR⟩ := hrel
    by_cases hlt : j < 10
    · have hlt' : (j : Int) < 10 := by omega
      obtain ⟨x, hx⟩ : ∃ x, wkL[j]? = some x := ⟨_, List.getElem?_eq_getElem (show j < 10 from hlt)⟩
      have HX := Lib.hid (HST.out j x hx)
      have cc := (cellsOf (show wr.heap[g]? = _ from HR.out.get (i := 1) rfl)).1
      have hr : ∀ c u, (enC x.1 ++ [.int .i64 x.2])[c]? = some u → wr.cell? ⟨g, j * 7 + c, none⟩ = some u := fun c u hu => (cc _).trans (by rw [List.getElem?_toArray]; exact row7_get wkL j x hx c u hu)
      have d0 := hr 0 _ rfl
      have d1 := hr 1 _ rfl
      have d2 := hr 2 _ rfl
      have d3 := hr 3 _ rfl
      have d4 := hr 4 _ rfl
      have d5 := hr 5 _ rfl
      have d6 := hr 6 _ rfl
      simp only [Nat.add_zero] at d0 d1 d2 d3 d4 d5 d6
      clear hr cc hx
      obtain ⟨x, y⟩ := x
      simp only at HX d0 d1 d2 d3 d4 d5 d6
      go_wp2_with fail
      obtain ⟨b8, hb8⟩ : ∃ q, q = wr.heap.size := ⟨_, rfl⟩
      obtain ⟨w7, hw7⟩ : ∃ y', y' = wr.alloc (.cells #[.int .i64 x.seq, .string x.key, .bool x.del, .int .i64 x.slot, .int .i64 x.off, .int .i64 x.size, .int .i64 y] 136) := ⟨_, rfl⟩
      have HR7 : Hid (SW w [ixA b (wkSt j) S, blkA g (.cells (row7 wkL).toArray 136), blkA (b3 + 1 + 1 + 1) (.cells (enC wkD).toArray 23), blkA (b3 + 1 + 1) (.cells (enC wkC).toArray 23), blkA (b3 + 1) (.cells (enC wkB).toArray 23), blkA b3 (.cells (enC wkA).toArray 23)] w7) := Lib.hid (by rw [hw7]; exact HR.out.gr ((Gr.refl _).alloc _))
      have HB8 : Hid (w7.heap[b8]? = some (.cells #[.int .i64 x.seq, .string x.key, .bool x.del, .int .i64 x.slot, .int .i64 x.off, .int .i64 x.size, .int .i64 y] 136)) := Lib.hid (by rw [hw7, hb8]; exact blkNew wr _)
      have hS8 : ¬ S b8 := fun h => by have := HR.out.ix.lt _ h; omega
      have HSL : Hid (∀ k, S k → k < w7.heap.size) := Lib.hid HR7.out.ix.lt
      rw [← hw7, ← hb8]
      clear hw7 hb8 d0 d1 d2 d3 d4 d5 d6
      have d8 := (cellsOf HB8.out).1
      have HAD : Hid (Calls Try.prog 40 #[.pointer (some ⟨b, 0, none⟩), .agg #[.int .i64 x.seq, .string x.key, .bool x.del, .int .i64 x.slot, .int .i64 x.off, .int .i64 x.size]] w7.drew fun e w' => e = .returned (.int .i64 y) ∧ ∃ S', SW w [ixA b (wkSt (j + 1)) S', blkA g (.cells (row7 wkL).toArray 136), blkA (b3 + 1 + 1 + 1) (.cells (enC wkD).toArray 23), blkA (b3 + 1 + 1) (.cells (enC wkC).toArray 23), blkA (b3 + 1) (.cells (enC wkB).toArray 23), blkA b3 (.cells (enC wkA).toArray 23)] w' ∧ Mdh S w7.drew w') := Lib.hid (by
        refine (Add_any (HR7.out.ix.gr (Gr.refl _).drew) x HX.out.1.2.1 HX.out.1.2.2).mono ?_
        rintro e w' ⟨rfl, hp⟩
        rw [← HX.out.2] at hp
        obtain ⟨S', hS'⟩ := (HR7.out.gr (Gr.refl _).drew).post hp
        obtain ⟨_, _, hm, _⟩ := hp
        exact ⟨by rw [HX.out.1.1], S', hS', hm⟩)
      refine wp_region_flo (S) [] [] (by kernel_rfl) (by kernel_rfl) (HSL.out) ?_
      refine flo_seg 3 rfl ?_
      simp only [List.take_succ_cons, List.take_zero, List.drop_succ_cons, List.drop_zero]
      repeat (go_big_quiet_step (fail))
      refine wpQuiet_nil ?_
      refine flo_eff rfl rfl rfl rfl (fun K hK => ?_)
      go_wp2_with ((go_at_call 40; refine Calls.mono HAD.out ?_; rintro e w8 ⟨rfl, S', hs', hm⟩; have HS' := Lib.hid hs'; have HM := Lib.hid hm; clear hs' hm))
      refine ⟨by exact HM.out.mono (fun k hk => .inl hk), ?_⟩
      refine flo_seg 3 rfl ?_
      simp only [List.take_succ_cons, List.take_zero, List.drop_succ_cons, List.drop_zero]
      repeat (go_big_quiet_step (fail))
      refine wpQuiet_nil ?_
      refine flo_nil ?_
      go_wp2_with fail
      go_roundw
      case rel => exact ⟨j + 1, S', by omega, by go_num, HS'⟩
      case measure => simp [intOf]; omega
    · have hlt' : ¬ (j : Int) < 10 := by omega
      obtain rfl : j = 10 := by omega
      have HR0 : Hid (SW w [ixA b wkX S, blkA (b3 + 1 + 1 + 1) (.cells (enC wkD).toArray 23), blkA (b3 + 1 + 1) (.cells (enC wkC).toArray 23), blkA (b3 + 1) (.cells (enC wkB).toArray 23), blkA b3 (.cells (enC wkA).toArray 23)] wr) := Lib.hid (HR.out.sub (.cons_cons _ (.cons _ (List.Sublist.refl _))))
      clear HST HR HS6 HS5
      go_wp2_with fail
      refine (Newest_any HR0.out.ixp _).mono ?_
      rintro e w1 ⟨rfl, hg⟩
      rw [wk_of]
      obtain ⟨b9, hb9⟩ : ∃ q, q = w1.heap.size := ⟨_, rfl⟩
      have HR1 : Hid (SW w [ixA b wkX S, blkA b9 (.cells (enC wkC).toArray 23), blkA (b3 + 1 + 1 + 1) (.cells (enC wkD).toArray 23), blkA (b3 + 1 + 1) (.cells (enC wkC).toArray 23), blkA (b3 + 1) (.cells (enC wkB).toArray 23), blkA b3 (.cells (enC wkA).toArray 23)] (w1.alloc (.cells (enC wkC).toArray 23))) := Lib.hid (by rw [hb9]; exact (HR0.out.gr hg).allocT _)
      obtain ⟨w2, hw2⟩ : ∃ y, y = w1.alloc (.cells (enC wkC).toArray 23) := ⟨_, rfl⟩
      rw [← hw2] at HR1
      simp only [enC, wkC] at hw2
      simp only [newV, enV, wkC]
      clear hg
      go_wp2_with fail
      rw [← hw2, ← hb9]
      clear hw2 hb9
      refine (Of_any _ _ _).mono ?_
      rintro e w3 ⟨bb, bk, rfl, k1, k2, l1, l2, hg⟩
      have HR2 := Lib.hid (HR1.out.gr hg)
      have HT := Lib.hid (take_of HR2.out.ixp _ bb bk k1 k2)
      clear k1 k2 l1 l2 hg
      go_wp2_with fail
      refine Calls.mono HT.out ?_
      rw [wk_of]
      rintro e w4 ⟨v1, rfl, hr, hg⟩
      have HR3 := Lib.hid (HR2.out.row hr hg)
      clear hr hg
      go_wp2_with fail
      refine (Slot_any _ _ _).mono ?_
      rintro e w5 ⟨bb', bk', rfl, k1, k2, l1, l2, hg⟩
      have HR4 := Lib.hid (HR3.out.gr hg)
      have HT2 := Lib.hid (take_slot HR4.out.ixp _ bb' bk' k1 k2)
      clear k1 k2 l1 l2 hg
      go_wp2_with fail
      refine Calls.mono HT2.out ?_
      rw [wk_slot]
      rintro e w6 ⟨v2, rfl, hr, hg⟩
      have HR5 := Lib.hid (HR4.out.row hr hg)
      clear hr hg
      go_wp2_with fail
      refine (Keys_any _ _).mono ?_
      rintro e w7 ⟨bk2, rfl, k1, l1, hg⟩
      have HR6 := Lib.hid (HR5.out.gr hg)
      have HT3 := Lib.hid (take_keys HR6.out.ixp bk2 k1)
      clear k1 l1 hg
      go_wp2_with fail
      refine Calls.mono HT3.out ?_
      rw [wk_ks]
      rintro e w8 ⟨v3, rfl, hr, hg⟩
      have HR7 := Lib.hid (HR6.out.row hr hg)
      clear hr hg
      go_wp2_with fail
      refine (Drop_any HR7.out.ix 0).mono ?_
      rintro e w9 ⟨rfl, hp⟩
      rw [wk_slot, wk_dc]
      obtain ⟨S9, hS9⟩ := HR7.out.post hp
      have HR8 : Hid (SW w (ixA b wkZ S9 :: _) w9) := Lib.hid hS9
      clear hS9 hp HT HT2 HT3 HR7 HR6 HR5 HR4 HR3 HR2 HR1 HR0
      have d9 := (cellsOf (show w9.heap[b9]? = _ from HR8.out.get (i := 4) rfl)).1
      have d6 := (cellsOf (show w9.heap[b3 + 1 + 1 + 1]? = _ from HR8.out.get (i := 5) rfl)).1
      have d5 := (cellsOf (show w9.heap[b3 + 1 + 1]? = _ from HR8.out.get (i := 6) rfl)).1
      have d4 := (cellsOf (show w9.heap[b3 + 1]? = _ from HR8.out.get (i := 7) rfl)).1
      have d3 := (cellsOf (show w9.heap[b3]? = _ from HR8.out.get (i := 8) rfl)).1
      simp only [enC, wkA, wkB, wkC, wkD] at d3 d4 d5 d6 d9
      have ke : ∀ w, (binOp .eql 23 (.agg #[.int .i64 3, .string ⟨#[97]⟩, .bool true, .int .i64 1, .int .i64 0, .int .i64 17]) (.agg #[.int .i64 3, .string ⟨#[97]⟩, .bool true, .int .i64 1, .int .i64 0, .int .i64 17])).run Try.prog w = .ok (.bool true) w := fun w => (eqlE_run wkC wkC w).trans (by simp)
      have o1 : Hid (Own w9 23 6 v1 3 (rowE [wkC, wkA, wkD])) := Lib.hid (HR8.out.get (i := 3) rfl)
      have o2 : Hid (Own w9 23 6 v2 2 (rowE [wkA, wkB])) := Lib.hid (HR8.out.get (i := 2) rfl)
      have o3 : Hid (Own w9 9 1 v3 2 (kS [⟨#[97]⟩, ⟨#[98]⟩])) := Lib.hid (HR8.out.get (i := 1) rfl)
      have HB : Hid (w9.heap[b3]? = some (.cells (enC wkA).toArray 23) ∧ w9.heap[b3 + 1]? = some (.cells (enC wkB).toArray 23)) := Lib.hid ⟨HR8.out.get (i := 8) rfl, HR8.out.get (i := 7) rfl⟩
      have HZ : Hid (SW w [ixA b wkZ S9] w9) := Lib.hid (HR8.out.sub (.cons_cons _ (List.nil_sublist _)))
      clear HR8
      go_wp2_with fail
      refine (EqualE [wkC, wkA, wkD] [wkC, wkA, wkD] v1 _ _ (o1.out.gr ((Gr.refl _).alloc _)) (own_lit w9 _ 6 3 (rowE [wkC, wkA, wkD]) rfl (by decide)) (by decide)).mono ?_
      rintro e w10 ⟨rfl, hg⟩
      rw [decide_eq_true (rfl : [wkC, wkA, wkD] = [wkC, wkA, wkD])]
      have HG1 := Lib.hid (((Gr.refl w9).alloc _).trans hg)
      clear hg d9 d6 d5 d4 d3
      have d3 := (cellsOf (HG1.out.blk HB.out.1)).1
      have d4 := (cellsOf (HG1.out.blk HB.out.2)).1
      simp only [enC, wkA, wkB] at d3 d4
      go_wp2_with fail
      refine (EqualE [wkA, wkB] [wkA, wkB] v2 _ _ (o2.out.gr (HG1.out.alloc _)) (own_lit w10 _ 6 2 (rowE [wkA, wkB]) rfl (by decide)) (by decide)).mono ?_
      rintro e w11 ⟨rfl, hg⟩
      rw [decide_eq_true (rfl : [wkA, wkB] = [wkA, wkB])]
      have HG2 := Lib.hid ((HG1.out.alloc _).trans hg)
      clear hg d3 d4
      go_wp2_with fail
      refine (EqualS [⟨#[97]⟩, ⟨#[98]⟩] [⟨#[97]⟩, ⟨#[98]⟩] v3 _ _ (o3.out.gr (HG2.out.alloc _)) (own_lit w11 _ 1 2 (kS [⟨#[97]⟩, ⟨#[98]⟩]) rfl (by decide)) (by decide)).mono ?_
      rintro e w12 ⟨rfl, hg⟩
      rw [decide_eq_true (rfl : ([⟨#[97]⟩, ⟨#[98]⟩] : List ByteArray) = [⟨#[97]⟩, ⟨#[98]⟩])]
      have HG3 := Lib.hid ((HG2.out.alloc _).trans hg)
      clear hg
      go_wp2_with fail
      refine (Keys_any _ _).mono ?_
      rintro e w13 ⟨bk3, rfl, k1, l1, hg⟩
      have HZ2 := Lib.hid (HZ.out.gr (HG3.out.trans hg))
      have HT := Lib.hid (take_keys HZ2.out.ixp bk3 k1)
      clear k1 l1 hg
      go_wp2_with fail
      refine Calls.mono HT.out ?_
      rw [wk_ks2]
      rintro e w14 ⟨v4, rfl, hr, hg⟩
      have HZ3 := Lib.hid (HZ2.out.gr hg)
      have o4 : Hid (Own w14 9 1 v4 1 (kS [⟨#[97]⟩])) := Lib.hid hr.own
      clear hr hg
      go_wp2_with fail
      refine (EqualS [⟨#[97]⟩] [⟨#[97]⟩] v4 _ _ (o4.out.gr ((Gr.refl _).alloc _)) (own_lit w14 _ 1 1 (kS [⟨#[97]⟩]) rfl (by decide)) (by decide)).mono ?_
      rintro e w15 ⟨rfl, hg⟩
      rw [decide_eq_true (rfl : ([⟨#[97]⟩] : List ByteArray) = [⟨#[97]⟩])]
      have HZ4 := Lib.hid ((HZ3.out.gr ((Gr.refl _).alloc _)).gr hg)
      clear hg
      go_wp2_with fail
      refine (Len_any HZ4.out.ixp).mono ?_
      rintro e w16 ⟨rfl, rfl⟩
      rw [wk_len2]
      go_wp2_with fail
      refine (Last_any HZ4.out.ixp).mono ?_
      rintro e w17 ⟨rfl, hg⟩
      rw [wk_last2]
      have HZ5 := Lib.hid (HZ4.out.gr hg)
      clear hg
      go_wp2
      go_ret
      exact ⟨rfl, HZ5.out.g⟩
end Go.Proofs.Ytiidkehcfoajeaa

/- IndexBreaks: a loop that ends early, then the whole iterator. -/
set_option linter.unusedVariables false
set_option linter.unusedSimpArgs false
namespace Go.Proofs.Ytiidkehcfoajeaa
open Go.RowKit Go.Shelf
attribute [local go_sem] OvM cell_ovm obj_ovm
attribute [local go_sem] Oper.semAt_some

def BrkPost (L : List En) (n : Nat) (w : World) (e : Ending) (w' : World) : Prop := ∃ v1 v2, e = .returned (.tuple #[v1, v2]) ∧ Own w' 23 6 v1 (L.take n).length (rowE (L.take n)) ∧ Own w' 23 6 v2 (L.take 5000).length (rowE (L.take 5000)) ∧ Gr w w'
theorem dropLast_pre {pre L : List En} {n : Nat} (h : pre <+: L) (hn : pre.length = n + 1) : pre.dropLast = L.take n := by
  rw [List.dropLast_eq_take, hn, Nat.add_sub_cancel, take_pre h hn, List.take_take, show min n (n + 1) = n by omega]
set_option maxRecDepth 40000 in
set_option maxHeartbeats 4000000 in
theorem brk1 {w : World} {p : Option Addr} {X : IX} {S : Nat → Prop} (h : IXP w p X S) (bx bn n : Nat) (hn : n ≤ 7) (hbx : w.heap[bx]? = some (.cells #[.pointer p] 25)) (hbn : w.heap[bn]? = some (.cells #[.int .i64 n] 3)) :
    Calls Try.prog 30 #[.pointer (some ⟨bx, 0, none⟩), .pointer (some ⟨bn, 0, none⟩)] w (BrkPost (X.of ⟨#[97]⟩) n w) := by
  obtain ⟨i0, hi, hz0, hz1, hz2⟩ := info_parts infoIten
  have HI := Lib.hid h
  have HBN := Lib.hid hbn
  have dx := (cellsOf hbx).1
  have lx := blkLt hbx
  have eg : ∀ args w, (callFunc 94 args).run Try.prog w = .ok (.enter 94 args) w := enters_of Try.func94 (by kernel_rfl) rfl
  have HEG := Lib.hid eg
  clear h hbx hbn eg
  refine calls_of_wp_marks Try.func30 rfl ?_
  simp only [Try.ntmps30, List.size_toArray, List.length_cons, List.length_nil, Nat.reduceAdd, Nat.reduceSub, Array.replicate_succ, Array.replicate_zero, List.push_toArray, List.append_toArray, List.nil_append, List.cons_append]
  go_wp2_with fail
  refine (Of_any p (⟨#[97]⟩) _).mono ?_
  rintro e w0 ⟨bb, bk, rfl, k1, k2, l1, l2, hg⟩
  have HI0 := Lib.hid (HI.out.gr hg)
  have HBN0 := Lib.hid (hg.blk HBN.out)
  obtain ⟨A, HSEQ, HA⟩ : ∃ A : Nat → Prop, Hid (SeqZ Fence.wide 2 Try.prog 94 #[.pointer (some ⟨bb, 0, none⟩), .pointer (some ⟨bk, 0, none⟩)] encE A (fun xs => xs = X.of ⟨#[97]⟩) (fun pre => pre <+: X.of ⟨#[97]⟩) w0) ∧ Hid (∀ k, A k → k < w0.heap.size) := ⟨_, Lib.hid (SeqOfP HI0.out (⟨#[97]⟩) bb bk k1 k2), Lib.hid (fun q hq => by
    rcases hq with rfl | rfl | hq
    · exact World.block_lt_of_cell? w0 _ k1
    · exact World.block_lt_of_cell? w0 _ k2
    · exact HI0.out.lt q hq)⟩
  have HK := Lib.hid (And.intro k1 k2)
  have HG0 := Lib.hid hg
  clear k1 k2 l1 l2 hg dx lx
  go_wp2_with fail
  obtain ⟨b, hb⟩ : ∃ q, q = w0.heap.size := ⟨_, rfl⟩
  obtain ⟨w1, hw1⟩ : ∃ y, y = w0.alloc (.cells #[.slice none 0 0] 39) := ⟨_, rfl⟩
  have HG1 : Hid (Gr w0 w1) := Lib.hid (by rw [hw1]; exact (Gr.refl w0).alloc _)
  have HAL : Hid (∀ k, A k → k < w1.heap.size) := Lib.hid (fun k hk => by have := HA.out k hk; have := HG1.out.sz; omega)
  have HZ : Hid (SWz w0 w1 A [blkA b (.cells #[.slice none 0 0] 39), rowA 23 6 (.slice none 0 0) 0 []] (fun _ => False) w1) := Lib.hid (by
    have h1 : SW w0 [rowA 23 6 (.slice none 0 0) 0 []] w0 := (SW.start w0).new (Gr.refl _) (nilRow _ _ _) (fun k hk => by cases hk)
    have h2 := h1.alloc (.cells #[.slice none 0 0] 39)
    rw [← hw1, ← hb] at h2
    refine SWz.start h2 (fun B hB k hk ha => ?_)
    have := h2.n B hB k hk
    have := HA.out k ha
    omega)
  rw [← hw1, ← hb]
  clear hw1 hb
  apply wp_rangeFunc_zx (gf := 94) (lb := #[.pointer (some ⟨bb, 0, none⟩), .pointer (some ⟨bk, 0, none⟩)]) rfl HEG.out HSEQ.out (HG1.out.mdh _) HAL.out (fun _ => rfl)
    (fun Z pre X' => ∃ v, pre.length ≤ n ∧ SWz w0 w1 A [blkA b (.cells #[v] 39), rowA 23 6 v pre.length (rowE pre)] Z X')
    (fun Z pre X' => ∃ v, pre.length = n + 1 ∧ SWz w0 w1 A [blkA b (.cells #[v] 39), rowA 23 6 v pre.dropLast.length (rowE pre.dropLast)] Z X') (fun _ _ _ => False)
    (Apart.ex fun v => (Apart.pure (fun pre : List En => pre.length ≤ n)).and (SWz.apart HG1.out.sz (fun pre : List En => [blkA b (.cells #[v] 39), rowA 23 6 v pre.length (rowE pre)])))
    (Apart.ex fun v => (Apart.pure (fun pre : List En => pre.length = n + 1)).and (SWz.apart HG1.out.sz (fun pre : List En => [blkA b (.cells #[v] 39), rowA 23 6 v pre.dropLast.length (rowE pre.dropLast)]))) apart_no
    ⟨_, by simp, HZ.out⟩ (fun Z pre X' ⟨v, _, h⟩ => h.frm HG1.out) (fun x => .cells #[.int .i64 x.seq, .string x.key, .bool x.del, .int .i64 x.slot, .int .i64 x.off, .int .i64 x.size] 23)
    _ ?assign ?body ?hend ?hret
  case hret => intro _ _ _ _ _ _ _ h; exact h.elim
  case assign =>
    intro l x bx X' K hbx hK
    dsimp only [encE, enV]
    gi_wp2
    rw [← hbx]
    exact hK
  case body =>
    intro l Z pre x bx' X' hI hbx hx hzx hzl hlr hsp
    obtain ⟨v, hlt, hI⟩ := hI
    obtain ⟨av, cv, rfl, _, _, _⟩ := ownE_at (show Own X' 23 6 v pre.length (rowE pre) from hI.s.get (i := 1) rfl)
    have HIZ := Lib.hid hI
    have HX := Lib.hid hx
    have HO := Lib.hid (show Own X' 23 6 (.slice av pre.length cv) pre.length (rowE pre) from hI.s.get (i := 1) rfl)
    have HB := Lib.hid (show X'.heap[b]? = _ from hI.s.get (i := 0) rfl)
    have dx := (cellsOf HX.out).1
    have lx := blkLt HX.out
    obtain ⟨db, fb⟩ := cellsOf HB.out
    have lbb := blkLt HB.out
    have dn := (cellsOf (hI.s.g.blk HBN0.out)).1
    have nb : ¬ (Value.slice av pre.length cv).ownBlock = some b := own_ne HO.out HB.out (by decide)
    have HNB := Lib.hid nb
    clear hI hbx hx hzx hzl hlr hsp nb
    by_cases h5 : pre.length = n
    · have h5' : ((pre.length : Int) == (n : Int)) = true := beq_iff_eq.2 (by omega)
      gi_wp2_with fail
      exact ⟨Mdh.refl _ _, rfl, _, by simp; omega, by rw [List.dropLast_concat]; exact HIZ.out⟩
    · have h5' : ((pre.length : Int) == (n : Int)) = false := beq_false_of_ne (by omega)
      gi_wp2_with (first
        | (gi_at_builtin; go_must (refine wpListIn_appv _ rfl (.tmp 15) (.tmp 17) 39 rfl 23 i0 _ 6 56 Try.underlying39 hi hz0 hz1 hz2 rfl (by decide) (.slice av pre.length cv) pre.length (rowE pre) rfl (HO.out.gr (by (repeat (first | (with_reducible exact Gr.refl _) | assumption | (with_reducible apply Gr.from_drew) | (with_reducible apply Gr.alloc) | (with_reducible apply Gr.drew) | (with_reducible refine Gr.trans ?_ (by assumption)) | (with_reducible refine Gr.setCell ?_ (by omega) _))))) (some ⟨X'.heap.size, 0, none⟩) 1 1 (enC x) rfl ((src_newK X' (enC x) _ 6 rfl (enC_one x))) (by simp only [maxLen]; omega) (by omega) ?_); intro v2 w2 hA; obtain ⟨a2, c2, rfl⟩ := hA.val; have HAV := Lib.hid hA; have HB2 := Lib.hid ((hA.mdh (fun g h => h)).blk (((Gr.refl X').alloc _).blk HB.out) HNB.out); clear hA; obtain ⟨db2, fb2⟩ := cellsOf HB2.out)
        | fail)
      have z2 := HIZ.out.gr ((Gr.refl X').alloc (.cells (enC x).toArray 23))
      have z3 := z2.1.step (i := 1) (B' := rowA 23 6 (.slice a2 (pre.length + 1) c2) (pre.length + 1) (rowE pre ++ enC x)) rfl HAL.out (HAV.out.mdh (fun g h => h)) (fun k hk => .inl hk) HAV.out.1 (fun k hq => HAV.out.2.1 k hq)
      have z4 := z3.1.step (i := 0) (B' := blkA b (.cells #[.slice a2 (pre.length + 1) c2] 39)) rfl HAL.out ((Mdh.refl (fun k => k = b) w2).setCell (p := ⟨b, 0, none⟩) rfl (.slice a2 (pre.length + 1) c2)) (fun k hk => .inl hk) (blkSet (j := 0) (u := .slice a2 (pre.length + 1) c2) HB2.out) (fun k hk => .inl hk)
      have zM := (z2.2.trans z3.2).trans z4.2
      have zR : SWz w0 w1 A [blkA b (.cells #[.slice a2 (pre.length + 1) c2] 39), rowA 23 6 (.slice a2 (pre.length + 1) c2) (pre ++ [x]).length (rowE (pre ++ [x]))] Z (w2.setCell ⟨b, 0, none⟩ (.slice a2 (pre.length + 1) c2)) := by
        rw [rowE_snoc, List.length_append]
        exact z4.1
      exact ⟨zM, _, by simp; omega, zR⟩
  case hend =>
    intro Z D xs W hD hZD hcase hdef
    have hx : ∃ v, SWz w0 w1 A [blkA b (.cells #[v] 39), rowA 23 6 v ((X.of ⟨#[97]⟩).take n).length (rowE ((X.of ⟨#[97]⟩).take n))] Z W := by
      rcases hcase with ⟨h1, v, h2, h3⟩ | ⟨h1, v, h2, h3⟩
      · exact ⟨v, by rw [show xs = X.of ⟨#[97]⟩ from h1] at h2 h3; rw [List.take_of_length_le h2]; exact h3⟩
      · exact ⟨v, by rw [dropLast_pre h1 h2] at h3; exact h3⟩
    obtain ⟨v, hZ⟩ := hx
    have db := (cellsOf (show W.heap[b]? = _ from hZ.s.get (i := 0) rfl)).1
    have lb := blkLt (show W.heap[b]? = _ from hZ.s.get (i := 0) rfl)
    have HZW := Lib.hid hZ
    have HD := Lib.hid (And.intro hD (And.intro hZD hdef))
    clear hcase hZ hD hZD hdef
    dsimp only
    go_wp2_with fail
    have HT := Lib.hid (fun (W' : World) (g : Gr W W') => take_of (HI0.out.gr (HZW.out.s.g.trans g)) (⟨#[97]⟩) bb bk ((HZW.out.s.g.trans g).keep HK.out.1) ((HZW.out.s.g.trans g).keep HK.out.2))
    have HG := Gr.refl W.drew
    refine wp_region_flo (fun _ => False) [] [] (by kernel_rfl) (by kernel_rfl) (fun _ h => h.elim) ?_
    refine flo_seg 2 rfl ?_
    simp only [List.take_succ_cons, List.take_zero, List.drop_succ_cons, List.drop_zero]
    repeat (go_big_quiet_step (fail))
    refine wpQuiet_nil ?_
    refine flo_eff rfl rfl rfl rfl (fun K hK => ?_)
    go_wp2_with ((go_at_call 32; refine Calls.mono (HT.out _ (Gr.refl _).drew) ?_; rintro e w5 ⟨v2, rfl, hr, hg⟩; have HR := Lib.hid hr; have HG5 := Lib.hid hg; clear hr hg))
    refine ⟨by exact HG5.out.mdh _, ?_⟩
    refine flo_seg 2 rfl ?_
    simp only [List.take_succ_cons, List.take_zero, List.drop_succ_cons, List.drop_zero]
    repeat (go_big_quiet_step (fail))
    refine wpQuiet_nil ?_
    refine flo_nil ?_
    obtain ⟨hD, hZD, hdef⟩ := HD.out
    have hdef5 := ((Gr.refl W).drew.trans HG5.out).blk hdef
    have HDF := Lib.hid hdef5
    clear hdef hdef5
    go_wp2
    have hm : Mdh (fun k => k = D) w5 (w5.putObj D (.deferred none)) := (Mdh.refl (fun k => k = D) w5).putObj rfl _
    refine retM1 (D := D) rfl HDF.out (by simp [results, Try.results30, go_sem]) ⟨v, v2, rfl, ?_, ?_, ?_⟩
    · exact ((show Own W _ _ _ _ _ from HZW.out.s.get (i := 1) rfl).gr ((Gr.refl W).drew.trans HG5.out)).mdh hm (fun k hk e => HZW.out.z _ (List.mem_cons_of_mem _ (List.mem_cons_self ..)) k hk (e ▸ hZD))
    · exact HR.out.own.mdh hm (fun k hk e => by have h1 := HR.out.new k hk; have h2 := blkLt HDF.out; have h3 := HZW.out.zl D hZD; subst e; exact absurd h1 (by simpa using h3))
    · exact HG0.out.trans ((HZW.out.s.g.trans ((Gr.refl W).drew.trans HG5.out)).putObj (Nat.le_trans HG1.out.sz hD) _)
set_option maxRecDepth 40000 in
set_option maxHeartbeats 4000000 in
theorem brk2 {w : World} {p : Option Addr} {X : IX} {S : Nat → Prop} (h : IXP w p X S) (bx bn n : Nat) (hn : n ≤ 7) (hbx : w.heap[bx]? = some (.cells #[.pointer p] 25)) (hbn : w.heap[bn]? = some (.cells #[.int .i64 n] 3)) :
    Calls Try.prog 33 #[.pointer (some ⟨bx, 0, none⟩), .pointer (some ⟨bn, 0, none⟩)] w (BrkPost (X.slot 0) n w) := by
  obtain ⟨i0, hi, hz0, hz1, hz2⟩ := info_parts infoIten
  have HI := Lib.hid h
  have HBN := Lib.hid hbn
  have dx := (cellsOf hbx).1
  have lx := blkLt hbx
  have eg : ∀ args w, (callFunc 98 args).run Try.prog w = .ok (.enter 98 args) w := enters_of Try.func98 (by kernel_rfl) rfl
  have HEG := Lib.hid eg
  clear h hbx hbn eg
  refine calls_of_wp_marks Try.func33 rfl ?_
  simp only [Try.ntmps33, List.size_toArray, List.length_cons, List.length_nil, Nat.reduceAdd, Nat.reduceSub, Array.replicate_succ, Array.replicate_zero, List.push_toArray, List.append_toArray, List.nil_append, List.cons_append]
  go_wp2_with fail
  refine (Slot_any p (0) _).mono ?_
  rintro e w0 ⟨bb, bk, rfl, k1, k2, l1, l2, hg⟩
  have HI0 := Lib.hid (HI.out.gr hg)
  have HBN0 := Lib.hid (hg.blk HBN.out)
  obtain ⟨A, HSEQ, HA⟩ : ∃ A : Nat → Prop, Hid (SeqZ Fence.wide 2 Try.prog 98 #[.pointer (some ⟨bb, 0, none⟩), .pointer (some ⟨bk, 0, none⟩)] encE A (fun xs => xs = X.slot 0) (fun pre => pre <+: X.slot 0) w0) ∧ Hid (∀ k, A k → k < w0.heap.size) := ⟨_, Lib.hid (SeqSlotP HI0.out (0) bb bk k1 k2), Lib.hid (fun q hq => by
    rcases hq with rfl | rfl | hq
    · exact World.block_lt_of_cell? w0 _ k1
    · exact World.block_lt_of_cell? w0 _ k2
    · exact HI0.out.lt q hq)⟩
  have HK := Lib.hid (And.intro k1 k2)
  have HG0 := Lib.hid hg
  clear k1 k2 l1 l2 hg dx lx
  go_wp2_with fail
  obtain ⟨b, hb⟩ : ∃ q, q = w0.heap.size := ⟨_, rfl⟩
  obtain ⟨w1, hw1⟩ : ∃ y, y = w0.alloc (.cells #[.slice none 0 0] 39) := ⟨_, rfl⟩
  have HG1 : Hid (Gr w0 w1) := Lib.hid (by rw [hw1]; exact (Gr.refl w0).alloc _)
  have HAL : Hid (∀ k, A k → k < w1.heap.size) := Lib.hid (fun k hk => by have := HA.out k hk; have := HG1.out.sz; omega)
  have HZ : Hid (SWz w0 w1 A [blkA b (.cells #[.slice none 0 0] 39), rowA 23 6 (.slice none 0 0) 0 []] (fun _ => False) w1) := Lib.hid (by
    have h1 : SW w0 [rowA 23 6 (.slice none 0 0) 0 []] w0 := (SW.start w0).new (Gr.refl _) (nilRow _ _ _) (fun k hk => by cases hk)
    have h2 := h1.alloc (.cells #[.slice none 0 0] 39)
    rw [← hw1, ← hb] at h2
    refine SWz.start h2 (fun B hB k hk ha => ?_)
    have := h2.n B hB k hk
    have := HA.out k ha
    omega)
  rw [← hw1, ← hb]
  clear hw1 hb
  apply wp_rangeFunc_zx (gf := 98) (lb := #[.pointer (some ⟨bb, 0, none⟩), .pointer (some ⟨bk, 0, none⟩)]) rfl HEG.out HSEQ.out (HG1.out.mdh _) HAL.out (fun _ => rfl)
    (fun Z pre X' => ∃ v, pre.length ≤ n ∧ SWz w0 w1 A [blkA b (.cells #[v] 39), rowA 23 6 v pre.length (rowE pre)] Z X')
    (fun Z pre X' => ∃ v, pre.length = n + 1 ∧ SWz w0 w1 A [blkA b (.cells #[v] 39), rowA 23 6 v pre.dropLast.length (rowE pre.dropLast)] Z X') (fun _ _ _ => False)
    (Apart.ex fun v => (Apart.pure (fun pre : List En => pre.length ≤ n)).and (SWz.apart HG1.out.sz (fun pre : List En => [blkA b (.cells #[v] 39), rowA 23 6 v pre.length (rowE pre)])))
    (Apart.ex fun v => (Apart.pure (fun pre : List En => pre.length = n + 1)).and (SWz.apart HG1.out.sz (fun pre : List En => [blkA b (.cells #[v] 39), rowA 23 6 v pre.dropLast.length (rowE pre.dropLast)]))) apart_no
    ⟨_, by simp, HZ.out⟩ (fun Z pre X' ⟨v, _, h⟩ => h.frm HG1.out) (fun x => .cells #[.int .i64 x.seq, .string x.key, .bool x.del, .int .i64 x.slot, .int .i64 x.off, .int .i64 x.size] 23)
    _ ?assign ?body ?hend ?hret
  case hret => intro _ _ _ _ _ _ _ h; exact h.elim
  case assign =>
    intro l x bx X' K hbx hK
    dsimp only [encE, enV]
    gi_wp2
    rw [← hbx]
    exact hK
  case body =>
    intro l Z pre x bx' X' hI hbx hx hzx hzl hlr hsp
    obtain ⟨v, hlt, hI⟩ := hI
    obtain ⟨av, cv, rfl, _, _, _⟩ := ownE_at (show Own X' 23 6 v pre.length (rowE pre) from hI.s.get (i := 1) rfl)
    have HIZ := Lib.hid hI
    have HX := Lib.hid hx
    have HO := Lib.hid (show Own X' 23 6 (.slice av pre.length cv) pre.length (rowE pre) from hI.s.get (i := 1) rfl)
    have HB := Lib.hid (show X'.heap[b]? = _ from hI.s.get (i := 0) rfl)
    have dx := (cellsOf HX.out).1
    have lx := blkLt HX.out
    obtain ⟨db, fb⟩ := cellsOf HB.out
    have lbb := blkLt HB.out
    have dn := (cellsOf (hI.s.g.blk HBN0.out)).1
    have nb : ¬ (Value.slice av pre.length cv).ownBlock = some b := own_ne HO.out HB.out (by decide)
    have HNB := Lib.hid nb
    clear hI hbx hx hzx hzl hlr hsp nb
    by_cases h5 : pre.length = n
    · have h5' : ((pre.length : Int) == (n : Int)) = true := beq_iff_eq.2 (by omega)
      gi_wp2_with fail
      exact ⟨Mdh.refl _ _, rfl, _, by simp; omega, by rw [List.dropLast_concat]; exact HIZ.out⟩
    · have h5' : ((pre.length : Int) == (n : Int)) = false := beq_false_of_ne (by omega)
      gi_wp2_with (first
        | (gi_at_builtin; go_must (refine wpListIn_appv _ rfl (.tmp 15) (.tmp 17) 39 rfl 23 i0 _ 6 56 Try.underlying39 hi hz0 hz1 hz2 rfl (by decide) (.slice av pre.length cv) pre.length (rowE pre) rfl (HO.out.gr (by (repeat (first | (with_reducible exact Gr.refl _) | assumption | (with_reducible apply Gr.from_drew) | (with_reducible apply Gr.alloc) | (with_reducible apply Gr.drew) | (with_reducible refine Gr.trans ?_ (by assumption)) | (with_reducible refine Gr.setCell ?_ (by omega) _))))) (some ⟨X'.heap.size, 0, none⟩) 1 1 (enC x) rfl ((src_newK X' (enC x) _ 6 rfl (enC_one x))) (by simp only [maxLen]; omega) (by omega) ?_); intro v2 w2 hA; obtain ⟨a2, c2, rfl⟩ := hA.val; have HAV := Lib.hid hA; have HB2 := Lib.hid ((hA.mdh (fun g h => h)).blk (((Gr.refl X').alloc _).blk HB.out) HNB.out); clear hA; obtain ⟨db2, fb2⟩ := cellsOf HB2.out)
        | fail)
      have z2 := HIZ.out.gr ((Gr.refl X').alloc (.cells (enC x).toArray 23))
      have z3 := z2.1.step (i := 1) (B' := rowA 23 6 (.slice a2 (pre.length + 1) c2) (pre.length + 1) (rowE pre ++ enC x)) rfl HAL.out (HAV.out.mdh (fun g h => h)) (fun k hk => .inl hk) HAV.out.1 (fun k hq => HAV.out.2.1 k hq)
      have z4 := z3.1.step (i := 0) (B' := blkA b (.cells #[.slice a2 (pre.length + 1) c2] 39)) rfl HAL.out ((Mdh.refl (fun k => k = b) w2).setCell (p := ⟨b, 0, none⟩) rfl (.slice a2 (pre.length + 1) c2)) (fun k hk => .inl hk) (blkSet (j := 0) (u := .slice a2 (pre.length + 1) c2) HB2.out) (fun k hk => .inl hk)
      have zM := (z2.2.trans z3.2).trans z4.2
      have zR : SWz w0 w1 A [blkA b (.cells #[.slice a2 (pre.length + 1) c2] 39), rowA 23 6 (.slice a2 (pre.length + 1) c2) (pre ++ [x]).length (rowE (pre ++ [x]))] Z (w2.setCell ⟨b, 0, none⟩ (.slice a2 (pre.length + 1) c2)) := by
        rw [rowE_snoc, List.length_append]
        exact z4.1
      exact ⟨zM, _, by simp; omega, zR⟩
  case hend =>
    intro Z D xs W hD hZD hcase hdef
    have hx : ∃ v, SWz w0 w1 A [blkA b (.cells #[v] 39), rowA 23 6 v ((X.slot 0).take n).length (rowE ((X.slot 0).take n))] Z W := by
      rcases hcase with ⟨h1, v, h2, h3⟩ | ⟨h1, v, h2, h3⟩
      · exact ⟨v, by rw [show xs = X.slot 0 from h1] at h2 h3; rw [List.take_of_length_le h2]; exact h3⟩
      · exact ⟨v, by rw [dropLast_pre h1 h2] at h3; exact h3⟩
    obtain ⟨v, hZ⟩ := hx
    have db := (cellsOf (show W.heap[b]? = _ from hZ.s.get (i := 0) rfl)).1
    have lb := blkLt (show W.heap[b]? = _ from hZ.s.get (i := 0) rfl)
    have HZW := Lib.hid hZ
    have HD := Lib.hid (And.intro hD (And.intro hZD hdef))
    clear hcase hZ hD hZD hdef
    dsimp only
    go_wp2_with fail
    have HT := Lib.hid (fun (W' : World) (g : Gr W W') => take_slot (HI0.out.gr (HZW.out.s.g.trans g)) (0) bb bk ((HZW.out.s.g.trans g).keep HK.out.1) ((HZW.out.s.g.trans g).keep HK.out.2))
    have HG := Gr.refl W.drew
    refine wp_region_flo (fun _ => False) [] [] (by kernel_rfl) (by kernel_rfl) (fun _ h => h.elim) ?_
    refine flo_seg 2 rfl ?_
    simp only [List.take_succ_cons, List.take_zero, List.drop_succ_cons, List.drop_zero]
    repeat (go_big_quiet_step (fail))
    refine wpQuiet_nil ?_
    refine flo_eff rfl rfl rfl rfl (fun K hK => ?_)
    go_wp2_with ((go_at_call 32; refine Calls.mono (HT.out _ (Gr.refl _).drew) ?_; rintro e w5 ⟨v2, rfl, hr, hg⟩; have HR := Lib.hid hr; have HG5 := Lib.hid hg; clear hr hg))
    refine ⟨by exact HG5.out.mdh _, ?_⟩
    refine flo_seg 2 rfl ?_
    simp only [List.take_succ_cons, List.take_zero, List.drop_succ_cons, List.drop_zero]
    repeat (go_big_quiet_step (fail))
    refine wpQuiet_nil ?_
    refine flo_nil ?_
    obtain ⟨hD, hZD, hdef⟩ := HD.out
    have hdef5 := ((Gr.refl W).drew.trans HG5.out).blk hdef
    have HDF := Lib.hid hdef5
    clear hdef hdef5
    go_wp2
    have hm : Mdh (fun k => k = D) w5 (w5.putObj D (.deferred none)) := (Mdh.refl (fun k => k = D) w5).putObj rfl _
    refine retM1 (D := D) rfl HDF.out (by simp [results, Try.results33, go_sem]) ⟨v, v2, rfl, ?_, ?_, ?_⟩
    · exact ((show Own W _ _ _ _ _ from HZW.out.s.get (i := 1) rfl).gr ((Gr.refl W).drew.trans HG5.out)).mdh hm (fun k hk e => HZW.out.z _ (List.mem_cons_of_mem _ (List.mem_cons_self ..)) k hk (e ▸ hZD))
    · exact HR.out.own.mdh hm (fun k hk e => by have h1 := HR.out.new k hk; have h2 := blkLt HDF.out; have h3 := HZW.out.zl D hZD; subst e; exact absurd h1 (by simpa using h3))
    · exact HG0.out.trans ((HZW.out.s.g.trans ((Gr.refl W).drew.trans HG5.out)).putObj (Nat.le_trans HG1.out.sz hD) _)
end Go.Proofs.Ytiidkehcfoajeaa

/- How many an index can have of a key, in a slot, and keys. No walk. -/
set_option linter.unusedVariables false
set_option linter.unusedSimpArgs false
namespace Go.Proofs.Ytiidkehcfoajeaa

theorem of_len {X : IX} (h : X.Wf) (k : ByteArray) : (X.of k).length ≤ X.ents.length := by
  rw [show X.ents.length = (X.keys.flatMap Prod.snd).length from h.v.length_eq.symm]
  unfold IX.of
  cases hl : look ltS X.keys k with
  | none => simp
  | some l =>
    have hx := look_some hl
    have h1 : l ∈ X.keys.map Prod.snd := List.mem_map.2 ⟨_, List.mem_of_getElem? hx, rfl⟩
    exact (List.sublist_flatten_of_mem h1).length_le
theorem slot_len_le (X : IX) (s : Int) : (X.slot s).length ≤ X.ents.length := by
  unfold IX.slot
  split
  · rw [List.getD_eq_getElem?_getD]
    cases hl : X.slots[s.toNat]? with
    | none => simp
    | some l => exact (List.sublist_flatten_of_mem (List.mem_of_getElem? hl)).length_le
  · simp
theorem pairs_len : ∀ (L : List (ByteArray × List En)), (∀ x ∈ L, x.2 ≠ []) → L.length ≤ (L.flatMap Prod.snd).length
  | [], _ => by simp
  | x :: L, h => by
    have h1 := pairs_len L (fun y hy => h y (List.mem_cons_of_mem _ hy))
    have h2 := List.length_pos_iff.2 (h x (by simp))
    simp only [List.flatMap_cons, List.length_append, List.length_cons]
    omega
theorem ks_len {X : IX} (h : X.Wf) : X.ks.length ≤ X.ents.length := by
  rw [show X.ents.length = (X.keys.flatMap Prod.snd).length from h.v.length_eq.symm]
  unfold IX.ks
  rw [List.length_map]
  exact pairs_len _ (fun x hx => (h.k x hx).ne)
theorem stepF_len (st : FS) (m : Mv) : (stepF st m).all.length ≤ st.all.length + 1 := by
  unfold stepF
  split
  · have := List.length_filter_le (fun o => !inSl (m.slot % 5) o) st.all
    show (st.all.filter _).length ≤ _
    omega
  · split
    · split
      · omega
      · show (st.all ++ [_]).length ≤ _
        simp
    · show (st.all ++ [_]).length ≤ _
      simp
theorem filS_len : ∀ (L : List Mv), (filS L).all.length ≤ L.length := fun L => by
  have h : ∀ (L : List Mv) (st : FS), (L.foldl stepF st).all.length ≤ st.all.length + L.length := by
    intro L
    induction L with
    | nil => intro st; simp
    | cons m L ih =>
      intro st
      have h1 := ih (stepF st m)
      have h2 := stepF_len st m
      simp only [List.foldl_cons, List.length_cons]
      omega
  have := h L ⟨ixNew 5, [], fun _ => 0, 1⟩
  simpa [filS] using this
theorem filS_ents {w : World} {a : Option Addr} {L : List Mv} (h : MovesAt w a L) {n : Nat} (hn : n ≤ 80) : (filS (L.take n)).X.ents.length ≤ 80 := by
  have h1 := filS_len (L.take n)
  have h2 := (filS_fi h hn).pm.length_eq
  rw [List.length_take] at h1
  omega
end Go.Proofs.Ytiidkehcfoajeaa

/- IndexBreaks. -/
set_option linter.unusedVariables false
set_option linter.unusedSimpArgs false
namespace Go.Proofs.Ytiidkehcfoajeaa
open Go.RowKit Go.Shelf
attribute [local go_sem] OvM cell_ovm obj_ovm
attribute [local go_sem] Oper.semAt_some

theorem Own.takeA {w : World} {e : TypeId} {K n cap m : Nat} {a : Option Addr} {xs : List Value} (h : Own w e K (.slice a n cap) n xs) (hm : m ≤ n) : Own w e K (.slice a m cap) m (xs.take (m * K)) := by
  have h' := h
  rcases h'.2 with ⟨h2, h0⟩ | ⟨g, cap', cur, hv, _⟩
  · obtain rfl : m = 0 := by omega
    simp only [Value.slice.injEq] at h2
    obtain ⟨rfl, _, rfl⟩ := h2
    exact ⟨by simp, .inl ⟨rfl, rfl⟩⟩
  · simp only [Value.slice.injEq] at hv
    obtain ⟨rfl, _, _⟩ := hv
    exact h.take hm
theorem rowE_take' (l : List En) (m : Nat) : (rowE l).take (m * 6) = rowE (l.take m) := by
  induction l generalizing m with
  | nil => simp [rowE]
  | cons x l ih =>
    cases m with
    | zero => simp [rowE]
    | succ m =>
      have h1 : rowE (x :: l) = enC x ++ rowE l := rfl
      have h2 : rowE ((x :: l).take (m + 1)) = enC x ++ rowE (l.take m) := rfl
      rw [h1, h2, ← ih m, show (m + 1) * 6 = (enC x).length + m * 6 by simp [enC]; omega, List.take_length_add_append]
/-- A function value that breaks off, then takes the whole. -/
def BrkC (v : Value) (X : IX) (L : List En) (p : Option Addr) (b5 b8 n : Nat) : Prop := ∃ g lb, v = .func (.func g) #[] lb ∧ (∀ args w, (callFunc g args).run Try.prog w = .ok (.enter g args) w) ∧
  ∀ (w : World) (S : Nat → Prop), IXP w p X S → w.heap[b5]? = some (.cells #[.pointer p] 25) → w.heap[b8]? = some (.cells #[.int .i64 n] 3) → Calls Try.prog g lb w (BrkPost L n w)
def brV (b5 b8 : Nat) : List Value := [.func (.func 30) #[] #[.pointer (some ⟨b5, 0, none⟩), .pointer (some ⟨b8, 0, none⟩)], .func (.func 33) #[] #[.pointer (some ⟨b5, 0, none⟩), .pointer (some ⟨b8, 0, none⟩)]]
theorem brAll (X : IX) (p : Option Addr) (b5 b8 n : Nat) (hn : n ≤ 7) (hX : X.Wf) (hL : X.ents.length ≤ 80) : ∀ (j : Nat) v, (brV b5 b8)[j]? = some v → ∃ L, L.length ≤ 80 ∧ BrkC v X L p b5 b8 n := by
  intro j v hv
  match j, hv with
  | 0, hv => cases hv; exact ⟨X.of ⟨#[97]⟩, Nat.le_trans (of_len hX _) hL, _, _, rfl, enters_of Try.func30 (by kernel_rfl) rfl, fun w S h1 h2 h3 => brk1 h1 b5 b8 n hn h2 h3⟩
  | 1, hv => cases hv; exact ⟨X.slot 0, Nat.le_trans (slot_len_le _ _) hL, _, _, rfl, enters_of Try.func33 (by kernel_rfl) rfl, fun w S h1 h2 h3 => brk2 h1 b5 b8 n hn h2 h3⟩
  | _ + 2, hv => cases hv
set_option maxRecDepth 40000 in
set_option maxHeartbeats 8000000 in
theorem IndexBreaks_any (a : Option Addr) (len cap : Nat) (L : List Mv) (u : Int) (w : World) (hl : L.length = len) (hle : len ≤ cap) (hcap : cap ≤ maxLen) (hs : MovesAt w a L) (hu0 : 0 ≤ u) (hu1 : u ≤ 255) :
    Calls Try.prog 7 #[.slice a len cap, .int .u8 u] w fun e w' => e = .returned (.bool true) ∧ Gr w w' := by
  have HC := Lib.hid (filled_any a len cap L w hl hle hcap hs)
  have HF := Lib.hid (filS_fi hs (Nat.le_refl 80))
  have HE := Lib.hid (filS_ents hs (Nat.le_refl 80))
  obtain ⟨n, hn⟩ : ∃ n : Nat, (n : Int) = u % 8 := ⟨(u % 8).toNat, by omega⟩
  have hn7 : n ≤ 7 := by omega
  have hn' : u % 8 = (n : Int) := hn.symm
  clear hl hs hn
  refine calls_of_wp_marks Try.func7 rfl ?_
  simp only [Try.ntmps7, List.size_toArray, List.length_cons, List.length_nil, Nat.reduceAdd, Nat.reduceSub, Array.replicate_succ, Array.replicate_zero, List.push_toArray, List.append_toArray, List.nil_append, List.cons_append]
  go_wp2_with fail
  refine Calls.mono HC.out ?_
  intro e w1 hp
  obtain ⟨b, S, av, cv, rfl, hs⟩ := hp.r
  have HS1 := Lib.hid hs
  generalize filS (L.take 80) = st at *
  obtain ⟨X, all, en, nx⟩ := st
  simp only at HF HS1 HE
  simp only
  have HLN := Lib.hid HF.out.len
  have halen : all.length ≤ 80 := by have := HF.out.pm.length_eq; have := HE.out; omega
  clear hp hs HC
  go_wp2_with fail
  obtain ⟨b5, hb5⟩ : ∃ q, q = w1.heap.size := ⟨_, rfl⟩
  obtain ⟨w2, hw2⟩ : ∃ y, y = ((w1.alloc (.cells #[.pointer (some ⟨b, 0, none⟩)] 25)).alloc (.cells #[.int .i64 n] 3)).alloc (.cells (brV b5 (b5 + 1)).toArray 69) := ⟨_, rfl⟩
  have HS2 : Hid (SW w [ixA b X S, blkA (b5 + 1 + 1) (.cells (brV b5 (b5 + 1)).toArray 69), blkA (b5 + 1) (.cells #[.int .i64 n] 3), blkA b5 (.cells #[.pointer (some ⟨b, 0, none⟩)] 25)] w2) := Lib.hid (by
    have h := ((HS1.out.allocT (.cells #[.pointer (some ⟨b, 0, none⟩)] 25)).allocT (.cells #[.int .i64 n] 3)).allocT (.cells (brV b5 (b5 + 1)).toArray 69)
    simp only [World.size_alloc, ← hb5] at h
    rw [hw2]
    exact h.sub (.cons_cons _ (.cons_cons _ (.cons_cons _ (.cons_cons _ (.cons _ (List.Sublist.refl _)))))))
  simp only [brV] at hw2
  rw [← hb5, ← hw2]
  clear hw2 hb5 HS1
  (try rw [hn'])
  clear hn'
  have HB := Lib.hid (brAll X (some ⟨b, 0, none⟩) b5 (b5 + 1) n hn7 HF.out.wf HE.out)
  go_loopw [29] (fun t29 wx => ∃ j : Nat, j ≤ 2 ∧ t29 = .int .i64 j ∧ Hid (SW w [ixA b X S, blkA (b5 + 1 + 1) (.cells (brV b5 (b5 + 1)).toArray 69), blkA (b5 + 1) (.cells #[.int .i64 n] 3), blkA b5 (.cells #[.pointer (some ⟨b, 0, none⟩)] 25)] wx)) (fun t29 _ => 2 - (intOf t29).toNat)
  case atStart => exact ⟨0, by omega, rfl, HS2⟩
  case round =>
    obtain ⟨j, hj, rfl, HR⟩ := hrel
    clear HS2
    by_cases hlt : j < 2
    · have hlt' : (j : Int) < 2 := by omega
      obtain ⟨v, hv⟩ : ∃ v, (brV b5 (b5 + 1))[j]? = some v := ⟨_, List.getElem?_eq_getElem (show j < 2 from hlt)⟩
      obtain ⟨M, hM, gg, lb, rfl, heg, hrun⟩ := HB.out j v hv
      have HRUN := Lib.hid hrun
      have d0 : wr.cell? ⟨b5 + 1 + 1, j, none⟩ = some (.func (.func gg) #[] lb) := ((cellsOf (show wr.heap[b5 + 1 + 1]? = _ from HR.out.get (i := 1) rfl)).1 j).trans (by rw [List.getElem?_toArray]; exact hv)
      clear hrun hv
      go_wp2_with fail
      refine (HRUN.out wr S (.inl ⟨b, rfl, HR.out.ix⟩) (HR.out.get (i := 3) rfl) (HR.out.get (i := 2) rfl)).mono ?_
      rintro e w5 ⟨v1, v2, rfl, ho1, ho2, hg⟩
      obtain ⟨a1, c1, rfl, hc1, _, _⟩ := ownE_at ho1
      obtain ⟨a2, c2, rfl, hc2, hc22, _⟩ := ownE_at ho2
      rw [List.take_of_length_le (show M.length ≤ 5000 by omega)] at ho2 hc2
      rw [List.take_of_length_le (show M.length ≤ 5000 by omega)]
      have HR5 := Lib.hid (HR.out.gr hg)
      have d8 := (cellsOf (show w5.heap[b5 + 1]? = _ from HR5.out.get (i := 2) rfl)).1
      have HO2 := Lib.hid ho2
      unfold maxLen at hc22
      clear hg d0 HR HRUN heg ho2
      by_cases hnk : n ≤ M.length
      · have hnk' : (n : Int) ≤ M.length := by omega
        have e3 : (M.take n).length = n := by rw [List.length_take]; omega
        have HO1 : Hid (Own w5 23 6 (.slice a1 n c1) (M.take n).length (rowE (M.take n))) := Lib.hid (by rw [e3] at ho1 ⊢; exact ho1)
        have HO3 : Hid (Own w5 23 6 (.slice a2 n c2) (M.take n).length (rowE (M.take n))) := Lib.hid (by rw [e3, ← rowE_take']; exact Own.takeA HO2.out hnk)
        rw [e3]
        clear ho1 e3 hc1
        generalize M.length = k at *
        go_wp2_with fail
        refine (EqualE (M.take n) (M.take n) _ _ _ HO1.out HO3.out (by rw [List.length_take]; omega)).mono ?_
        rintro e w6 ⟨rfl, hg⟩
        rw [decide_eq_true rfl]
        have HR6 := Lib.hid (HR5.out.gr hg)
        clear hg
        go_wp2
        go_roundw
        case rel => exact ⟨j + 1, by omega, by go_num, HR6⟩
        case measure => simp [intOf]; omega
      · have hnk' : ¬ (n : Int) ≤ M.length := by omega
        have e3 : M.take n = M := List.take_of_length_le (by omega)
        rw [e3] at ho1 hc1
        have HO1 := Lib.hid ho1
        rw [e3]
        have HO3 : Hid (Own w5 23 6 (.slice a2 M.length c2) M.length (rowE M)) := HO2
        clear ho1 e3 hc1
        go_wp2_with fail
        refine (EqualE M M _ _ _ HO1.out HO3.out (by omega)).mono ?_
        rintro e w6 ⟨rfl, hg⟩
        rw [decide_eq_true rfl]
        have HR6 := Lib.hid (HR5.out.gr hg)
        clear hg
        go_wp2
        go_roundw
        case rel => exact ⟨j + 1, by omega, by go_num, HR6⟩
        case measure => simp [intOf]; omega
    · have hlt' : ¬ (j : Int) < 2 := by omega
      have d5 := (cellsOf (show wr.heap[b5]? = _ from HR.out.get (i := 3) rfl)).1
      have l5 := blkLt (show wr.heap[b5]? = _ from HR.out.get (i := 3) rfl)
      go_wp2_with fail
      obtain ⟨b13, hb13⟩ : ∃ q, q = wr.heap.size := ⟨_, rfl⟩
      obtain ⟨w5, hw5⟩ : ∃ y, y = wr.alloc (.cells #[.int .i64 0] 3) := ⟨_, rfl⟩
      have HS5 : Hid (SW wr [blkA b13 (.cells #[.int .i64 0] 3)] w5) := Lib.hid (by rw [hw5, hb13]; exact (SW.start wr).alloc _)
      rw [← hw5, ← hb13]
      clear hw5
      refine (Keys_any _ _).mono ?_
      rintro e w6 ⟨bb, rfl, k1, l1, hg⟩
      have HS6 := Lib.hid (HS5.out.gr hg)
      have HRW := Lib.hid (HR.out.gr HS6.out.g)
      have hA13 : ¬ (fun q => q = bb ∨ S q) b13 := by
        have := HS5.out.s.lt (A := blkA b13 (.cells #[.int .i64 0] 3)) (by simp) b13 rfl
        rintro (h | h)
        · omega
        · have := HR.out.ix.lt b13 h; omega
      have hAL : ∀ k, (fun q => q = bb ∨ S q) k → k < w6.heap.size := by
        rintro k (rfl | h)
        · exact World.block_lt_of_cell? w6 _ k1
        · exact HRW.out.ix.lt k h
      obtain ⟨A, HSEQ, HA, HA13⟩ : ∃ A : Nat → Prop, Hid (SeqZ Fence.wide 2 Try.prog 100 #[.pointer (some ⟨bb, 0, none⟩)] encK A (fun xs => xs = X.ks) (fun pre => pre <+: X.ks) w6) ∧ Hid (∀ k, A k → k < w6.heap.size) ∧ Hid (¬ A b13) :=
        ⟨_, Lib.hid (SeqKeysP (HRW.out.ixp) bb k1), Lib.hid hAL, Lib.hid hA13⟩
      have HB13S := Lib.hid hb13
      clear hAL hA13 k1 l1 hg d5 l5 HS5 hb13
      have HZ : Hid (SWz wr w6 A [blkA b13 (.cells #[.int .i64 ([] : List ByteArray).length] 3)] (fun _ => False) w6) := Lib.hid (SWz.start HS6.out (fun B hB k hk ha => by
        obtain rfl := List.mem_singleton.1 hB
        exact HA13.out ((show k = b13 from hk) ▸ ha)))
      go_wp2_with fail
      apply wp_rangeFunc_zb (gf := 100) (lb := #[.pointer (some ⟨bb, 0, none⟩)]) rfl (enters_of Try.func100 (by kernel_rfl) rfl) HSEQ.out ((Gr.refl _).mdh _) HA.out (fun _ => rfl)
        (fun Z pre X' => pre.length ≤ n ∧ SWz wr w6 A [blkA b13 (.cells #[.int .i64 pre.length] 3)] Z X')
        (fun Z pre X' => pre.length = n + 1 ∧ SWz wr w6 A [blkA b13 (.cells #[.int .i64 pre.length] 3)] Z X') (fun _ _ _ => False)
        ((Apart.pure (fun pre : List ByteArray => pre.length ≤ n)).and (SWz.apart HS6.out.g.sz (fun pre : List ByteArray => [blkA b13 (.cells #[.int .i64 pre.length] 3)])))
        ((Apart.pure (fun pre : List ByteArray => pre.length = n + 1)).and (SWz.apart HS6.out.g.sz (fun pre : List ByteArray => [blkA b13 (.cells #[.int .i64 pre.length] 3)]))) apart_no
        ⟨Nat.zero_le _, HZ.out⟩ _ ?assign ?body ?hend ?hret
      case hret => intro _ _ _ _ _ _ _ h; exact h.elim
      case assign => intro l x W K hK; dsimp only [encK]; gi_wp2; exact hK
      case body =>
        intro l Z pre x X' hI hsp
        obtain ⟨hlt5, hI⟩ := hI
        have HIZ := Lib.hid hI
        have HB13 := Lib.hid (show X'.heap[b13]? = _ from hI.s.get (i := 0) rfl)
        have d13 := (cellsOf HB13.out).1
        have f13 := (cellsOf HB13.out).2
        have l13 := blkLt HB13.out
        have hb8 := hI.s.g.blk (HR.out.get (i := 2) rfl)
        have d8 := (cellsOf (show X'.heap[b5 + 1]? = _ from hb8)).1
        have hne : ¬ b5 + 1 = b13 := by
          have := blkLt (show wr.heap[b5 + 1]? = _ from HR.out.get (i := 2) rfl)
          have := HB13S.out
          omega
        clear hI hsp hb8
        by_cases h5 : pre.length = n
        · have h5' : ((pre.length : Int) + 1 == (n : Int) + 1) = true := beq_iff_eq.2 (by omega)
          gi_wp2_with fail
          have e1 : (((pre ++ [x]).length : Nat) : Int) = (n : Int) + 1 := by rw [List.length_append, h5]; simp
          have z4 := HIZ.out.step (i := 0) (B' := blkA b13 (.cells #[.int .i64 ((n : Int) + 1)] 3)) rfl HA.out ((Mdh.refl (fun k => k = b13) X').setCell (p := ⟨b13, 0, none⟩) rfl (.int .i64 ((n : Int) + 1))) (fun k hk => .inl hk) (blkSet (j := 0) (u := .int .i64 ((n : Int) + 1)) HB13.out) (fun k hk => .inl hk)
          refine ⟨z4.2.mono (fun k h => h.2), rfl, by rw [List.length_append, h5]; rfl, ?_⟩
          rw [e1]
          exact z4.1
        · have h5' : ((pre.length : Int) + 1 == (n : Int) + 1) = false := beq_false_of_ne (by omega)
          gi_wp2_with fail
          have e1 : (((pre ++ [x]).length : Nat) : Int) = (pre.length : Int) + 1 := by rw [List.length_append]; simp
          have z4 := HIZ.out.step (i := 0) (B' := blkA b13 (.cells #[.int .i64 ((pre.length : Int) + 1)] 3)) rfl HA.out ((Mdh.refl (fun k => k = b13) X').setCell (p := ⟨b13, 0, none⟩) rfl (.int .i64 ((pre.length : Int) + 1))) (fun k hk => .inl hk) (blkSet (j := 0) (u := .int .i64 ((pre.length : Int) + 1)) HB13.out) (fun k hk => .inl hk)
          refine ⟨z4.2, by rw [List.length_append, List.length_singleton]; omega, ?_⟩
          rw [e1]
          exact z4.1
      case hend =>
        intro Z D xs W hD hZD hcase hdef
        obtain ⟨c, hc, hZ⟩ : ∃ c : Nat, (c = n + 1 ∧ n + 1 ≤ X.ks.length ∨ c = X.ks.length ∧ X.ks.length ≤ n) ∧ SWz wr w6 A [blkA b13 (.cells #[.int .i64 c] 3)] Z W := by
          rcases hcase with ⟨h1, h2, h3⟩ | ⟨h1, h2, h3⟩
          · exact ⟨xs.length, .inr ⟨by rw [show xs = X.ks from h1], by rw [show xs = X.ks from h1] at h2; exact h2⟩, h3⟩
          · exact ⟨xs.length, .inl ⟨h2, by have := List.IsPrefix.length_le h1; omega⟩, h3⟩
        have hW := hZ.s.g
        have HRW2 := Lib.hid (HR.out.gr hW)
        have d13 := (cellsOf (show W.heap[b13]? = _ from hZ.s.get (i := 0) rfl)).1
        have l13 := blkLt (show W.heap[b13]? = _ from hZ.s.get (i := 0) rfl)
        have d8 := (cellsOf (show W.heap[b5 + 1]? = _ from HRW2.out.get (i := 2) rfl)).1
        have l8 := blkLt (show W.heap[b5 + 1]? = _ from HRW2.out.get (i := 2) rfl)
        have d5 := (cellsOf (show W.heap[b5]? = _ from HRW2.out.get (i := 3) rfl)).1
        have l5 := blkLt (show W.heap[b5]? = _ from HRW2.out.get (i := 3) rfl)
        have HD := Lib.hid (And.intro hD (And.intro hZD hdef))
        have HTK : Hid ((X.ks.take 5000).length = X.ks.length) := Lib.hid (by rw [List.take_of_length_le (by have := ks_len HF.out.wf; have := HE.out; omega)])
        clear hcase hZ hD hZD hdef hW
        generalize X.ks.length = k at *
        have HCC := Lib.hid hc
        clear hc
        by_cases hk : n + 1 ≤ k
        · have hcv : (c : Int) = (n : Int) + 1 := by have := HCC.out; omega
          rw [hcv] at d13
          have hk' : (n : Int) + 1 ≤ (k : Int) := by omega
          clear hcv
          have HG := Gr.refl W.drew
          dsimp only
          go_wp2_with fail
          refine wp_region_flo (fun _ => False) [] [] (by kernel_rfl) (by kernel_rfl) (fun _ h => h.elim) ?_
          refine flo_seg 4 rfl ?_
          simp only [List.take_succ_cons, List.take_zero, List.drop_succ_cons, List.drop_zero]
          repeat (go_big_quiet_step (fail))
          refine wpQuiet_nil ?_
          refine flo_eff rfl rfl rfl rfl (fun K hK => ?_)
          go_wp2_with ((go_at_call 36; refine (Keys_any _ _).mono ?_; rintro e w7 ⟨bb2, rfl, k2, l2, hg⟩; have H7 := Lib.hid ((HRW2.out.gr (Gr.refl _).drew).gr hg); have HT := Lib.hid (take_keys H7.out.ixp bb2 k2); have HG7 := Lib.hid hg; clear hg k2 l2))
          refine ⟨by exact HG7.out.mdh _, ?_⟩
          refine flo_eff rfl rfl rfl rfl (fun K hK => ?_)
          go_wp2_with ((go_at_call 37; refine Calls.mono HT.out ?_; rintro e w8 ⟨v3, rfl, hr, hg⟩; obtain ⟨a3, c3, rfl, _⟩ := ownS_at hr.own; rw [HTK.out]; have HG8 := Lib.hid hg; clear hr hg))
          refine ⟨by exact HG8.out.mdh _, ?_⟩
          refine flo_seg 5 rfl ?_
          simp only [List.take_succ_cons, List.take_zero, List.drop_succ_cons, List.drop_zero]
          repeat (go_big_quiet_step (fail))
          refine wpQuiet_nil ?_
          refine flo_eff rfl rfl rfl rfl (fun K hK => ?_)
          go_wp2_with ((go_at_call 38; refine (Len_any (H7.out.gr HG8.out).ixp).mono ?_; rintro e w9 ⟨rfl, rfl⟩; rw [HLN.out]))
          refine ⟨by exact Mdh.refl _ _, ?_⟩
          refine flo_seg 5 rfl ?_
          simp only [List.take_succ_cons, List.take_zero, List.drop_succ_cons, List.drop_zero]
          repeat (go_big_quiet_step (fail))
          refine wpQuiet_nil ?_
          refine flo_eff rfl rfl rfl rfl (fun K hK => ?_)
          go_wp2_with ((go_at_call 39; refine (ix_works _).mono ?_; rintro e w10 ⟨rfl, hg⟩; have HG10 := Lib.hid hg; clear hg))
          refine ⟨by exact HG10.out.mdh _, ?_⟩
          refine flo_seg 2 rfl ?_
          simp only [List.take_succ_cons, List.take_zero, List.drop_succ_cons, List.drop_zero]
          repeat (go_big_quiet_step (fail))
          refine wpQuiet_nil ?_
          refine flo_nil ?_
          obtain ⟨hD, hZD, hdef⟩ := HD.out
          have HDF := Lib.hid (((Gr.refl W).drew.trans (HG7.out.trans (HG8.out.trans HG10.out))).blk hdef)
          have HGF := Lib.hid ((H7.out.g.trans (HG8.out.trans HG10.out)).putObj (D := D) (Nat.le_trans HRW.out.g.sz hD) (.deferred none))
          clear hdef hD hZD d13 l13 d8 l8 d5 l5 HT
          go_wp2
          exact retM1 (D := D) rfl HDF.out (by simp [results, Try.results7, go_sem]) ⟨rfl, HGF.out⟩
        · have hcv : (c : Int) = (k : Int) := by have := HCC.out; omega
          rw [hcv] at d13
          have hk' : ¬ (n : Int) + 1 ≤ (k : Int) := by omega
          have hk2 : (k : Int) ≤ (n : Int) + 1 := by omega
          have hk3 : (k : Int) < (n : Int) + 1 := by omega
          clear hcv
          have HG := Gr.refl W.drew
          dsimp only
          go_wp2_with fail
          refine wp_region_flo (fun _ => False) [] [] (by kernel_rfl) (by kernel_rfl) (fun _ h => h.elim) ?_
          refine flo_seg 4 rfl ?_
          simp only [List.take_succ_cons, List.take_zero, List.drop_succ_cons, List.drop_zero]
          repeat (go_big_quiet_step (fail))
          refine wpQuiet_nil ?_
          refine flo_eff rfl rfl rfl rfl (fun K hK => ?_)
          go_wp2_with ((go_at_call 36; refine (Keys_any _ _).mono ?_; rintro e w7 ⟨bb2, rfl, k2, l2, hg⟩; have H7 := Lib.hid ((HRW2.out.gr (Gr.refl _).drew).gr hg); have HT := Lib.hid (take_keys H7.out.ixp bb2 k2); have HG7 := Lib.hid hg; clear hg k2 l2))
          refine ⟨by exact HG7.out.mdh _, ?_⟩
          refine flo_eff rfl rfl rfl rfl (fun K hK => ?_)
          go_wp2_with ((go_at_call 37; refine Calls.mono HT.out ?_; rintro e w8 ⟨v3, rfl, hr, hg⟩; obtain ⟨a3, c3, rfl, _⟩ := ownS_at hr.own; rw [HTK.out]; have HG8 := Lib.hid hg; clear hr hg))
          refine ⟨by exact HG8.out.mdh _, ?_⟩
          refine flo_seg 5 rfl ?_
          simp only [List.take_succ_cons, List.take_zero, List.drop_succ_cons, List.drop_zero]
          repeat (go_big_quiet_step (fail))
          refine wpQuiet_nil ?_
          refine flo_eff rfl rfl rfl rfl (fun K hK => ?_)
          go_wp2_with ((go_at_call 38; refine (Len_any (H7.out.gr HG8.out).ixp).mono ?_; rintro e w9 ⟨rfl, rfl⟩; rw [HLN.out]))
          refine ⟨by exact Mdh.refl _ _, ?_⟩
          refine flo_seg 5 rfl ?_
          simp only [List.take_succ_cons, List.take_zero, List.drop_succ_cons, List.drop_zero]
          repeat (go_big_quiet_step (fail))
          refine wpQuiet_nil ?_
          refine flo_eff rfl rfl rfl rfl (fun K hK => ?_)
          go_wp2_with ((go_at_call 39; refine (ix_works _).mono ?_; rintro e w10 ⟨rfl, hg⟩; have HG10 := Lib.hid hg; clear hg))
          refine ⟨by exact HG10.out.mdh _, ?_⟩
          refine flo_seg 2 rfl ?_
          simp only [List.take_succ_cons, List.take_zero, List.drop_succ_cons, List.drop_zero]
          repeat (go_big_quiet_step (fail))
          refine wpQuiet_nil ?_
          refine flo_nil ?_
          obtain ⟨hD, hZD, hdef⟩ := HD.out
          have HDF := Lib.hid (((Gr.refl W).drew.trans (HG7.out.trans (HG8.out.trans HG10.out))).blk hdef)
          have HGF := Lib.hid ((H7.out.g.trans (HG8.out.trans HG10.out)).putObj (D := D) (Nat.le_trans HRW.out.g.sz hD) (.deferred none))
          clear hdef hD hZD d13 l13 d8 l8 d5 l5 HT
          go_wp2
          exact retM1 (D := D) rfl HDF.out (by simp [results, Try.results7, go_sem]) ⟨rfl, HGF.out⟩
end Go.Proofs.Ytiidkehcfoajeaa
