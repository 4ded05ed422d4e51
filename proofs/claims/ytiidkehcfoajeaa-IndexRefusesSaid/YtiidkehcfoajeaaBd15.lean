/- drumlinlaw21: the examples of the chapter. -/
import Derived.Test.YtiidkehcfoajeaaBd12
import Derived.Test.YtiidkehcfoajeaaBd14
set_option linter.unusedVariables false
set_option linter.unusedSimpArgs false
namespace Go.Proofs.Ytiidkehcfoajeaa
open Go.RowKit Go.Shelf
attribute [local go_sem] OvM cell_ovm obj_ovm
attribute [local go_sem] Oper.semAt_some

theorem low_1 {k : ByteArray} {c : UInt8} (h : k = ⟨#[c]⟩) (hc : c.toNat < 128) : Low k := by
  subst h
  intro j hj
  have h1 : j < 1 := hj
  have h0 : j = 0 := by omega
  subst h0
  exact hc
def wkA : En := ⟨1, ⟨#[97]⟩, false, 0, 0, 20⟩
def wkB : En := ⟨2, ⟨#[98]⟩, false, 0, 20, 18⟩
def wkC : En := ⟨3, ⟨#[97]⟩, true, 1, 0, 17⟩
def wkD : En := ⟨1, ⟨#[97]⟩, false, 2, 0, 20⟩
def wkL : List (En × Int) := [(wkA, 0), (wkB, 0), (wkC, 0), (wkD, 0), (⟨1, ⟨#[97]⟩, false, 2, 50, 20⟩, 6), (⟨4, ⟨#[99]⟩, false, 0, 19, 17⟩, 6), (⟨1, ⟨#[97]⟩, false, 1, 40, 21⟩, 2), (⟨1, ⟨#[97]⟩, false, 3, 0, 20⟩, 3), (⟨1, ⟨#[66]⟩, false, 0, 0, 17⟩, 2), (⟨9, ⟨#[97]⟩, false, 0, 8176, 17⟩, 2)]
def wkSt (j : Nat) : IX := (wkL.take j).foldl (fun X x => addX X x.1) (ixNew 3)
def wkX : IX := wkSt 10
def wkZ : IX := dropX wkX 0
theorem wk_of : wkX.of ⟨#[97]⟩ = [wkC, wkA, wkD] := by kernel_rfl
theorem wk_slot : wkX.slot 0 = [wkA, wkB] := by kernel_rfl
theorem wk_ks : wkX.ks = [⟨#[97]⟩, ⟨#[98]⟩] := by kernel_rfl
theorem wk_dc : dropC wkX 0 = 0 := by kernel_rfl
theorem wk_ks2 : wkZ.ks = [⟨#[97]⟩] := by kernel_rfl
theorem wk_len2 : wkZ.ents.length = 2 := by kernel_rfl
theorem wk_last2 : wkZ.last = 3 := by kernel_rfl
theorem wk_step : ∀ j x, wkL[j]? = some x → addE (wkSt j) x.1 = x.2 ∧ Low x.1.key ∧ En64 x.1 := by
  intro j x h
  match j, h with
  | 0, h => cases h; exact ⟨by kernel_rfl, low_1 rfl (by decide), by unfold En64; decide⟩
  | 1, h => cases h; exact ⟨by kernel_rfl, low_1 rfl (by decide), by unfold En64; decide⟩
  | 2, h => cases h; exact ⟨by kernel_rfl, low_1 rfl (by decide), by unfold En64; decide⟩
  | 3, h => cases h; exact ⟨by kernel_rfl, low_1 rfl (by decide), by unfold En64; decide⟩
  | 4, h => cases h; exact ⟨by kernel_rfl, low_1 rfl (by decide), by unfold En64; decide⟩
  | 5, h => cases h; exact ⟨by kernel_rfl, low_1 rfl (by decide), by unfold En64; decide⟩
  | 6, h => cases h; exact ⟨by kernel_rfl, low_1 rfl (by decide), by unfold En64; decide⟩
  | 7, h => cases h; exact ⟨by kernel_rfl, low_1 rfl (by decide), by unfold En64; decide⟩
  | 8, h => cases h; exact ⟨by kernel_rfl, low_1 rfl (by decide), by unfold En64; decide⟩
  | 9, h => cases h; exact ⟨by kernel_rfl, low_1 rfl (by decide), by unfold En64; decide⟩
  | _ + 10, h => cases h
theorem wk_next (j : Nat) (x : En × Int) (h : wkL[j]? = some x) : wkSt (j + 1) = addX (wkSt j) x.1 := by
  unfold wkSt
  rw [List.take_add_one, h, List.foldl_append]
  rfl
def row7 (l : List (En × Int)) : List Value := l.flatMap fun x => enC x.1 ++ [.int .i64 x.2]
theorem row7_get (l : List (En × Int)) : ∀ i x, l[i]? = some x → ∀ j u, (enC x.1 ++ [.int .i64 x.2])[j]? = some u → (row7 l)[i * 7 + j]? = some u := by
  induction l with
  | nil => intro i x h; simp at h
  | cons y l ih =>
    intro i x h j u hu
    have hj : j < 7 := by have := (List.getElem?_eq_some_iff.1 hu).1; simpa [enC] using this
    show ((enC y.1 ++ [.int .i64 y.2]) ++ row7 l)[i * 7 + j]? = some u
    cases i with
    | zero => simp at h; subst h; rw [List.getElem?_append_left (by simp [enC]; omega)]; simpa using hu
    | succ i =>
      rw [List.getElem?_append_right (by simp [enC]; omega), show (i + 1) * 7 + j - (enC y.1 ++ [Value.int .i64 y.2]).length = i * 7 + j by simp [enC]; omega]
      exact ih i x (by simpa using h) j u hu
set_option maxRecDepth 40000 in
theorem at_any (k : ByteArray) (q s o z : Int) (d : Bool) (w : World) : Calls Try.prog 102 #[.string k, .int .i64 q, .int .i64 s, .int .i64 o, .int .i64 z, .bool d] w fun e w' => e = .returned (.agg #[.int .i64 q, .string k, .bool d, .int .i64 s, .int .i64 o, .int .i64 z]) ∧ Gr w w' := by
  go_enter Try.func102, Try.ntmps102
  go_wp2
  refine bodyPost_ret (v := .agg #[.int .i64 q, .string k, .bool d, .int .i64 s, .int .i64 o, .int .i64 z]) ?_ rfl ⟨rfl, by (repeat (first | (with_reducible exact Gr.refl _) | assumption | (with_reducible apply Gr.from_drew) | (with_reducible apply Gr.alloc) | (with_reducible apply Gr.drew) | (with_reducible refine Gr.trans ?_ (by assumption)) | (with_reducible refine Gr.setCell ?_ (by omega) _)))⟩
  simp [results, Try.results102, go_sem]
set_option maxRecDepth 40000 in
set_option maxHeartbeats 8000000 in
theorem ix_works (w : World) : Calls Try.prog 39 #[] w fun e w' => e = .returned (.bool true) ∧ Gr w w' := by
  have HST := Lib.hid (fun j x h => And.intro (wk_step j x h) (wk_next j x h))
  go_enter Try.func39, Try.ntmps39
  go_wp2_with fail
  refine (New_any 3 w (by decide) (by decide)).mono ?_
  rintro e w1 ⟨b, S, rfl, h1, h2, h3⟩
  have HS1 : Hid (SW w [ixA b (wkSt 0) S] w1) := Lib.hid ((SW.start w).ixnew h1 h2 h3)
  have HG := Gr.refl w1
  clear h1 h2 h3
  go_wp2_with (go_at_call 102; refine (at_any _ _ _ _ _ _ _).mono ?_; rintro e w2 ⟨rfl, hg⟩; replace HG := HG.trans hg; clear hg)
  obtain ⟨w5, hw5⟩ : ∃ y, y = (((w2.alloc (.cells (enC wkA).toArray 23)).alloc (.cells (enC wkB).toArray 23)).alloc (.cells (enC wkC).toArray 23)).alloc (.cells (enC wkD).toArray 23) := ⟨_, rfl⟩
  obtain ⟨b3, hb3⟩ : ∃ q, q = w2.heap.size := ⟨_, rfl⟩
  have HS5 : Hid (SW w [ixA b (wkSt 0) S, blkA (b3 + 1 + 1 + 1) (.cells (enC wkD).toArray 23), blkA (b3 + 1 + 1) (.cells (enC wkC).toArray 23), blkA (b3 + 1) (.cells (enC wkB).toArray 23), blkA b3 (.cells (enC wkA).toArray 23)] w5) := Lib.hid (by
    have := ((((HS1.out.gr HG).allocT (.cells (enC wkA).toArray 23)).allocT (.cells (enC wkB).toArray 23)).allocT (.cells (enC wkC).toArray 23)).allocT (.cells (enC wkD).toArray 23)
    simp only [World.size_alloc, ← hb3] at this
    rw [← hw5] at this
    exact this)
  simp only [enC, wkA, wkB, wkC, wkD] at hw5
  rw [← hw5, ← hb3]
  clear hw5 hb3 HG
  have d3 := (cellsOf (show w5.heap[b3]? = _ from HS5.out.get (i := 4) rfl)).1
  have d4 := (cellsOf (show w5.heap[b3 + 1]? = _ from HS5.out.get (i := 3) rfl)).1
  have d5 := (cellsOf (show w5.heap[b3 + 1 + 1]? = _ from HS5.out.get (i := 2) rfl)).1
  have d6 := (cellsOf (show w5.heap[b3 + 1 + 1 + 1]? = _ from HS5.out.get (i := 1) rfl)).1
  simp only [enC, wkA, wkB, wkC, wkD] at d3 d4 d5 d6
  have HG := Gr.refl w5.drew
  refine wp_region_flo (fun _ => False) [] [] (by kernel_rfl) (by kernel_rfl) (fun _ h => h.elim) ?_
  refine flo_seg 8 rfl ?_
  simp only [List.take_succ_cons, List.take_zero, List.drop_succ_cons, List.drop_zero]
  repeat (go_big_quiet_step (fail))
  refine wpQuiet_nil ?_
  refine flo_eff rfl rfl rfl rfl (fun K hK => ?_)
  go_wp2_with ((go_at_call 102; refine (at_any _ _ _ _ _ _ _).mono ?_; rintro e w1 ⟨rfl, hg⟩; replace HG := HG.trans hg; (try clear hc); have hc := HG.cell; (try simp only [World.size_alloc] at hc)))
  refine ⟨by (first | (refine Gr.mdh ?_ _; (repeat (first | (with_reducible exact Gr.refl _) | assumption | (with_reducible apply Gr.from_drew) | (with_reducible apply Gr.alloc) | (with_reducible apply Gr.drew) | (with_reducible refine Gr.trans ?_ (by assumption)) | (with_reducible refine Gr.setCell ?_ (by omega) _))); done) | (repeat (first | (with_reducible exact Mdh.refl _ _) | (with_reducible refine Mdh.setCell ?_ (by simp) _) | (with_reducible refine Mdh.setNew ?_ (by simp) _) | (with_reducible apply Mdh.alloc) | (with_reducible apply Mdh.from_drew) | (with_reducible apply Mdh.drew) | (with_reducible refine Mdh.gr ?_ (by assumption))))), ?_⟩
  refine flo_seg 1 rfl ?_
  simp only [List.take_succ_cons, List.take_zero, List.drop_succ_cons, List.drop_zero]
  repeat (go_big_quiet_step (fail))
  refine wpQuiet_nil ?_
  refine flo_eff rfl rfl rfl rfl (fun K hK => ?_)
  go_wp2_with ((go_at_call 102; refine (at_any _ _ _ _ _ _ _).mono ?_; rintro e w1 ⟨rfl, hg⟩; replace HG := HG.trans hg; (try clear hc); have hc := HG.cell; (try simp only [World.size_alloc] at hc)))
  refine ⟨by (first | (refine Gr.mdh ?_ _; (repeat (first | (with_reducible exact Gr.refl _) | assumption | (with_reducible apply Gr.from_drew) | (with_reducible apply Gr.alloc) | (with_reducible apply Gr.drew) | (with_reducible refine Gr.trans ?_ (by assumption)) | (with_reducible refine Gr.setCell ?_ (by omega) _))); done) | (repeat (first | (with_reducible exact Mdh.refl _ _) | (with_reducible refine Mdh.setCell ?_ (by simp) _) | (with_reducible refine Mdh.setNew ?_ (by simp) _) | (with_reducible apply Mdh.alloc) | (with_reducible apply Mdh.from_drew) | (with_reducible apply Mdh.drew) | (with_reducible refine Mdh.gr ?_ (by assumption))))), ?_⟩
  refine flo_seg 1 rfl ?_
  simp only [List.take_succ_cons, List.take_zero, List.drop_succ_cons, List.drop_zero]
  repeat (go_big_quiet_step (fail))
  refine wpQuiet_nil ?_
  refine flo_eff rfl rfl rfl rfl (fun K hK => ?_)
  go_wp2_with ((go_at_call 102; refine (at_any _ _ _ _ _ _ _).mono ?_; rintro e w1 ⟨rfl, hg⟩; replace HG := HG.trans hg; (try clear hc); have hc := HG.cell; (try simp only [World.size_alloc] at hc)))
  refine ⟨by (first | (refine Gr.mdh ?_ _; (repeat (first | (with_reducible exact Gr.refl _) | assumption | (with_reducible apply Gr.from_drew) | (with_reducible apply Gr.alloc) | (with_reducible apply Gr.drew) | (with_reducible refine Gr.trans ?_ (by assumption)) | (with_reducible refine Gr.setCell ?_ (by omega) _))); done) | (repeat (first | (with_reducible exact Mdh.refl _ _) | (with_reducible refine Mdh.setCell ?_ (by simp) _) | (with_reducible refine Mdh.setNew ?_ (by simp) _) | (with_reducible apply Mdh.alloc) | (with_reducible apply Mdh.from_drew) | (with_reducible apply Mdh.drew) | (with_reducible refine Mdh.gr ?_ (by assumption))))), ?_⟩
  refine flo_seg 1 rfl ?_
  simp only [List.take_succ_cons, List.take_zero, List.drop_succ_cons, List.drop_zero]
  repeat (go_big_quiet_step (fail))
  refine wpQuiet_nil ?_
  refine flo_eff rfl rfl rfl rfl (fun K hK => ?_)
  go_wp2_with ((go_at_call 102; refine (at_any _ _ _ _ _ _ _).mono ?_; rintro e w1 ⟨rfl, hg⟩; replace HG := HG.trans hg; (try clear hc); have hc := HG.cell; (try simp only [World.size_alloc] at hc)))
  refine ⟨by (first | (refine Gr.mdh ?_ _; (repeat (first | (with_reducible exact Gr.refl _) | assumption | (with_reducible apply Gr.from_drew) | (with_reducible apply Gr.alloc) | (with_reducible apply Gr.drew) | (with_reducible refine Gr.trans ?_ (by assumption)) | (with_reducible refine Gr.setCell ?_ (by omega) _))); done) | (repeat (first | (with_reducible exact Mdh.refl _ _) | (with_reducible refine Mdh.setCell ?_ (by simp) _) | (with_reducible refine Mdh.setNew ?_ (by simp) _) | (with_reducible apply Mdh.alloc) | (with_reducible apply Mdh.from_drew) | (with_reducible apply Mdh.drew) | (with_reducible refine Mdh.gr ?_ (by assumption))))), ?_⟩
  refine flo_seg 1 rfl ?_
  simp only [List.take_succ_cons, List.take_zero, List.drop_succ_cons, List.drop_zero]
  repeat (go_big_quiet_step (fail))
  refine wpQuiet_nil ?_
  refine flo_eff rfl rfl rfl rfl (fun K hK => ?_)
  go_wp2_with ((go_at_call 102; refine (at_any _ _ _ _ _ _ _).mono ?_; rintro e w1 ⟨rfl, hg⟩; replace HG := HG.trans hg; (try clear hc); have hc := HG.cell; (try simp only [World.size_alloc] at hc)))
  refine ⟨by (first | (refine Gr.mdh ?_ _; (repeat (first | (with_reducible exact Gr.refl _) | assumption | (with_reducible apply Gr.from_drew) | (with_reducible apply Gr.alloc) | (with_reducible apply Gr.drew) | (with_reducible refine Gr.trans ?_ (by assumption)) | (with_reducible refine Gr.setCell ?_ (by omega) _))); done) | (repeat (first | (with_reducible exact Mdh.refl _ _) | (with_reducible refine Mdh.setCell ?_ (by simp) _) | (with_reducible refine Mdh.setNew ?_ (by simp) _) | (with_reducible apply Mdh.alloc) | (with_reducible apply Mdh.from_drew) | (with_reducible apply Mdh.drew) | (with_reducible refine Mdh.gr ?_ (by assumption))))), ?_⟩
  refine flo_seg 1 rfl ?_
  simp only [List.take_succ_cons, List.take_zero, List.drop_succ_cons, List.drop_zero]
  repeat (go_big_quiet_step (fail))
  refine wpQuiet_nil ?_
  refine flo_eff rfl rfl rfl rfl (fun K hK => ?_)
  go_wp2_with ((go_at_call 102; refine (at_any _ _ _ _ _ _ _).mono ?_; rintro e w1 ⟨rfl, hg⟩; replace HG := HG.trans hg; (try clear hc); have hc := HG.cell; (try simp only [World.size_alloc] at hc)))
  refine ⟨by (first | (refine Gr.mdh ?_ _; (repeat (first | (with_reducible exact Gr.refl _) | assumption | (with_reducible apply Gr.from_drew) | (with_reducible apply Gr.alloc) | (with_reducible apply Gr.drew) | (with_reducible refine Gr.trans ?_ (by assumption)) | (with_reducible refine Gr.setCell ?_ (by omega) _))); done) | (repeat (first | (with_reducible exact Mdh.refl _ _) | (with_reducible refine Mdh.setCell ?_ (by simp) _) | (with_reducible refine Mdh.setNew ?_ (by simp) _) | (with_reducible apply Mdh.alloc) | (with_reducible apply Mdh.from_drew) | (with_reducible apply Mdh.drew) | (with_reducible refine Mdh.gr ?_ (by assumption))))), ?_⟩
  refine flo_seg 1 rfl ?_
  simp only [List.take_succ_cons, List.take_zero, List.drop_succ_cons, List.drop_zero]
  repeat (go_big_quiet_step (fail))
  refine wpQuiet_nil ?_
  refine flo_eff rfl rfl rfl rfl (fun K hK => ?_)
  go_wp2
  refine ⟨by (first | (refine Gr.mdh ?_ _; (repeat (first | (with_reducible exact Gr.refl _) | assumption | (with_reducible apply Gr.from_drew) | (with_reducible apply Gr.alloc) | (with_reducible apply Gr.drew) | (with_reducible refine Gr.trans ?_ (by assumption)) | (with_reducible refine Gr.setCell ?_ (by omega) _))); done) | (repeat (first | (with_reducible exact Mdh.refl _ _) | (with_reducible refine Mdh.setCell ?_ (by simp) _) | (with_reducible refine Mdh.setNew ?_ (by simp) _) | (with_reducible apply Mdh.alloc) | (with_reducible apply Mdh.from_drew) | (with_reducible apply Mdh.drew) | (with_reducible refine Mdh.gr ?_ (by assumption))))), ?_⟩
  refine flo_seg 2 rfl ?_
  simp only [List.take_succ_cons, List.take_zero, List.drop_succ_cons, List.drop_zero]
  repeat (go_big_quiet_step (fail))
  refine wpQuiet_nil ?_
  refine flo_nil ?_
  obtain ⟨g, hg⟩ : ∃ q, q = w1.heap.size := ⟨_, rfl⟩
  have HS6 : Hid (SW w [ixA b (wkSt 0) S, blkA g (.cells (row7 wkL).toArray 136), blkA (b3 + 1 + 1 + 1) (.cells (enC wkD).toArray 23), blkA (b3 + 1 + 1) (.cells (enC wkC).toArray 23), blkA (b3 + 1) (.cells (enC wkB).toArray 23), blkA b3 (.cells (enC wkA).toArray 23)] (w1.alloc (.cells (row7 wkL).toArray 136))) := Lib.hid (by rw [hg]; exact (HS5.out.gr (Gr.of_drew HG)).allocT _)
  obtain ⟨w6, hw6⟩ : ∃ y, y = w1.alloc (.cells (row7 wkL).toArray 136) := ⟨_, rfl⟩
  rw [← hw6] at HS6
  simp only [row7, wkL, wkA, wkB, wkC, wkD, enC, List.flatMap_cons, List.flatMap_nil, List.cons_append, List.nil_append, List.append_nil] at hw6
  rw [← hw6, ← hg]
  clear hw6 hg HG hc d3 d4 d5 d6
  go_wp2_with fail
  go_loopw [52] (fun t52 wx => ∃ (j : Nat) (S : Nat → Prop), j ≤ 10 ∧ t52 = .int .i64 j ∧ Hid (SW w [ixA b (wkSt j) S, blkA g (.cells (row7 wkL).toArray 136), blkA (b3 + 1 + 1 + 1) (.cells (enC wkD).toArray 23), blkA (b3 + 1 + 1) (.cells (enC wkC).toArray 23), blkA (b3 + 1) (.cells (enC wkB).toArray 23), blkA b3 (.cells (enC wkA).toArray 23)] wx)) (fun t52 _ => 10 - (intOf t52).toNat)
  case atStart => exact ⟨0, S, by omega, rfl, HS6⟩
  case round =>
    obtain ⟨j, S, hj, rfl, HR⟩ := hrel
    by_cases hlt : j < 10
    · have hlt' : (j : Int) < 10 := by omega
      obtain ⟨x, hx⟩ : ∃ x, wkL[j]? = some x := ⟨_, List.getElem?_eq_getElem (show j < 10 from hlt)⟩
      have HX := Lib.hid (HST.out j x hx)
      have cc := (cellsOf (show wr.heap[g]? = _ from HR.out.get (i := 1) rfl)).1
      have hr : ∀ c u, (enC x.1 ++ [.int .i64 x.2])[c]? = some u → wr.cell? ⟨g, j * 7 + c, none⟩ = some u := fun c u hu => (cc _).trans (by rw [List.getElem?_toArray]; exact row7_get wkL j x hx c u hu)
      have d0 := hr 0 _ rfl
      have d1 := hr 1 _ rfl
      have d2 := hr 2 _ rfl
      have d3 := hr 3 _ rfl
      have d4 := hr 4 _ rfl
      have d5 := hr 5 _ rfl
      have d6 := hr 6 _ rfl
      simp only [Nat.add_zero] at d0 d1 d2 d3 d4 d5 d6
      clear hr cc hx
      obtain ⟨x, y⟩ := x
      simp only at HX d0 d1 d2 d3 d4 d5 d6
      go_wp2_with fail
      obtain ⟨b8, hb8⟩ : ∃ q, q = wr.heap.size := ⟨_, rfl⟩
      obtain ⟨w7, hw7⟩ : ∃ y', y' = wr.alloc (.cells #[.int .i64 x.seq, .string x.key, .bool x.del, .int .i64 x.slot, .int .i64 x.off, .int .i64 x.size, .int .i64 y] 136) := ⟨_, rfl⟩
      have HR7 : Hid (SW w [ixA b (wkSt j) S, blkA g (.cells (row7 wkL).toArray 136), blkA (b3 + 1 + 1 + 1) (.cells (enC wkD).toArray 23), blkA (b3 + 1 + 1) (.cells (enC wkC).toArray 23), blkA (b3 + 1) (.cells (enC wkB).toArray 23), blkA b3 (.cells (enC wkA).toArray 23)] w7) := Lib.hid (by rw [hw7]; exact HR.out.gr ((Gr.refl _).alloc _))
      have HB8 : Hid (w7.heap[b8]? = some (.cells #[.int .i64 x.seq, .string x.key, .bool x.del, .int .i64 x.slot, .int .i64 x.off, .int .i64 x.size, .int .i64 y] 136)) := Lib.hid (by rw [hw7, hb8]; exact blkNew wr _)
      have hS8 : ¬ S b8 := fun h => by have := HR.out.ix.lt _ h; omega
      have HSL : Hid (∀ k, S k → k < w7.heap.size) := Lib.hid HR7.out.ix.lt
      rw [← hw7, ← hb8]
      clear hw7 hb8 d0 d1 d2 d3 d4 d5 d6
      have d8 := (cellsOf HB8.out).1
      have HAD : Hid (Calls Try.prog 40 #[.pointer (some ⟨b, 0, none⟩), .agg #[.int .i64 x.seq, .string x.key, .bool x.del, .int .i64 x.slot, .int .i64 x.off, .int .i64 x.size]] w7.drew fun e w' => e = .returned (.int .i64 y) ∧ ∃ S', SW w [ixA b (wkSt (j + 1)) S', blkA g (.cells (row7 wkL).toArray 136), blkA (b3 + 1 + 1 + 1) (.cells (enC wkD).toArray 23), blkA (b3 + 1 + 1) (.cells (enC wkC).toArray 23), blkA (b3 + 1) (.cells (enC wkB).toArray 23), blkA b3 (.cells (enC wkA).toArray 23)] w' ∧ Mdh S w7.drew w') := Lib.hid (by
        refine (Add_any (HR7.out.ix.gr (Gr.refl _).drew) x HX.out.1.2.1 HX.out.1.2.2).mono ?_
        rintro e w' ⟨rfl, hp⟩
        rw [← HX.out.2] at hp
        obtain ⟨S', hS'⟩ := (HR7.out.gr (Gr.refl _).drew).post hp
        obtain ⟨_, _, hm, _⟩ := hp
        exact ⟨by rw [HX.out.1.1], S', hS', hm⟩)
      refine wp_region_flo (S) [] [] (by kernel_rfl) (by kernel_rfl) (HSL.out) ?_
      refine flo_seg 3 rfl ?_
      simp only [List.take_succ_cons, List.take_zero, List.drop_succ_cons, List.drop_zero]
      repeat (go_big_quiet_step (fail))
      refine wpQuiet_nil ?_
      refine flo_eff rfl rfl rfl rfl (fun K hK => ?_)
      go_wp2_with ((go_at_call 40; refine Calls.mono HAD.out ?_; rintro e w8 ⟨rfl, S', hs', hm⟩; have HS' := Lib.hid hs'; have HM := Lib.hid hm; clear hs' hm))
      refine ⟨by exact HM.out.mono (fun k hk => .inl hk), ?_⟩
      refine flo_seg 3 rfl ?_
      simp only [List.take_succ_cons, List.take_zero, List.drop_succ_cons, List.drop_zero]
      repeat (go_big_quiet_step (fail))
      refine wpQuiet_nil ?_
      refine flo_nil ?_
      go_wp2_with fail
      go_roundw
      case rel => exact ⟨j + 1, S', by omega, by go_num, HS'⟩
      case measure => simp [intOf]; omega
    · have hlt' : ¬ (j : Int) < 10 := by omega
      obtain rfl : j = 10 := by omega
      have HR0 : Hid (SW w [ixA b wkX S, blkA (b3 + 1 + 1 + 1) (.cells (enC wkD).toArray 23), blkA (b3 + 1 + 1) (.cells (enC wkC).toArray 23), blkA (b3 + 1) (.cells (enC wkB).toArray 23), blkA b3 (.cells (enC wkA).toArray 23)] wr) := Lib.hid (HR.out.sub (.cons_cons _ (.cons _ (List.Sublist.refl _))))
      clear HST HR HS6 HS5
      go_wp2_with fail
      refine (Newest_any HR0.out.ixp _).mono ?_
      rintro e w1 ⟨rfl, hg⟩
      rw [wk_of]
      obtain ⟨b9, hb9⟩ : ∃ q, q = w1.heap.size := ⟨_, rfl⟩
      have HR1 : Hid (SW w [ixA b wkX S, blkA b9 (.cells (enC wkC).toArray 23), blkA (b3 + 1 + 1 + 1) (.cells (enC wkD).toArray 23), blkA (b3 + 1 + 1) (.cells (enC wkC).toArray 23), blkA (b3 + 1) (.cells (enC wkB).toArray 23), blkA b3 (.cells (enC wkA).toArray 23)] (w1.alloc (.cells (enC wkC).toArray 23))) := Lib.hid (by rw [hb9]; exact (HR0.out.gr hg).allocT _)
      obtain ⟨w2, hw2⟩ : ∃ y, y = w1.alloc (.cells (enC wkC).toArray 23) := ⟨_, rfl⟩
      rw [← hw2] at HR1
      simp only [enC, wkC] at hw2
      simp only [newV, enV, wkC]
      clear hg
      go_wp2_with fail
      rw [← hw2, ← hb9]
      clear hw2 hb9
      refine (Of_any _ _ _).mono ?_
      rintro e w3 ⟨bb, bk, rfl, k1, k2, l1, l2, hg⟩
      have HR2 := Lib.hid (HR1.out.gr hg)
      have HT := Lib.hid (take_of HR2.out.ixp _ bb bk k1 k2)
      clear k1 k2 l1 l2 hg
      go_wp2_with fail
      refine Calls.mono HT.out ?_
      rw [wk_of]
      rintro e w4 ⟨v1, rfl, hr, hg⟩
      have HR3 := Lib.hid (HR2.out.row hr hg)
      clear hr hg
      go_wp2_with fail
      refine (Slot_any _ _ _).mono ?_
      rintro e w5 ⟨bb', bk', rfl, k1, k2, l1, l2, hg⟩
      have HR4 := Lib.hid (HR3.out.gr hg)
      have HT2 := Lib.hid (take_slot HR4.out.ixp _ bb' bk' k1 k2)
      clear k1 k2 l1 l2 hg
      go_wp2_with fail
      refine Calls.mono HT2.out ?_
      rw [wk_slot]
      rintro e w6 ⟨v2, rfl, hr, hg⟩
      have HR5 := Lib.hid (HR4.out.row hr hg)
      clear hr hg
      go_wp2_with fail
      refine (Keys_any _ _).mono ?_
      rintro e w7 ⟨bk2, rfl, k1, l1, hg⟩
      have HR6 := Lib.hid (HR5.out.gr hg)
      have HT3 := Lib.hid (take_keys HR6.out.ixp bk2 k1)
      clear k1 l1 hg
      go_wp2_with fail
      refine Calls.mono HT3.out ?_
      rw [wk_ks]
      rintro e w8 ⟨v3, rfl, hr, hg⟩
      have HR7 := Lib.hid (HR6.out.row hr hg)
      clear hr hg
      go_wp2_with fail
      refine (Drop_any HR7.out.ix 0).mono ?_
      rintro e w9 ⟨rfl, hp⟩
      rw [wk_slot, wk_dc]
      obtain ⟨S9, hS9⟩ := HR7.out.post hp
      have HR8 : Hid (SW w (ixA b wkZ S9 :: _) w9) := Lib.hid hS9
      clear hS9 hp HT HT2 HT3 HR7 HR6 HR5 HR4 HR3 HR2 HR1 HR0
      have d9 := (cellsOf (show w9.heap[b9]? = _ from HR8.out.get (i := 4) rfl)).1
      have d6 := (cellsOf (show w9.heap[b3 + 1 + 1 + 1]? = _ from HR8.out.get (i := 5) rfl)).1
      have d5 := (cellsOf (show w9.heap[b3 + 1 + 1]? = _ from HR8.out.get (i := 6) rfl)).1
      have d4 := (cellsOf (show w9.heap[b3 + 1]? = _ from HR8.out.get (i := 7) rfl)).1
      have d3 := (cellsOf (show w9.heap[b3]? = _ from HR8.out.get (i := 8) rfl)).1
      simp only [enC, wkA, wkB, wkC, wkD] at d3 d4 d5 d6 d9
      have ke : ∀ w, (binOp .eql 23 (.agg #[.int .i64 3, .string ⟨#[97]⟩, .bool true, .int .i64 1, .int .i64 0, .int .i64 17]) (.agg #[.int .i64 3, .string ⟨#[97]⟩, .bool true, .int .i64 1, .int .i64 0, .int .i64 17])).run Try.prog w = .ok (.bool true) w := fun w => (eqlE_run wkC wkC w).trans (by simp)
      have o1 : Hid (Own w9 23 6 v1 3 (rowE [wkC, wkA, wkD])) := Lib.hid (HR8.out.get (i := 3) rfl)
      have o2 : Hid (Own w9 23 6 v2 2 (rowE [wkA, wkB])) := Lib.hid (HR8.out.get (i := 2) rfl)
      have o3 : Hid (Own w9 9 1 v3 2 (kS [⟨#[97]⟩, ⟨#[98]⟩])) := Lib.hid (HR8.out.get (i := 1) rfl)
      have HB : Hid (w9.heap[b3]? = some (.cells (enC wkA).toArray 23) ∧ w9.heap[b3 + 1]? = some (.cells (enC wkB).toArray 23)) := Lib.hid ⟨HR8.out.get (i := 8) rfl, HR8.out.get (i := 7) rfl⟩
      have HZ : Hid (SW w [ixA b wkZ S9] w9) := Lib.hid (HR8.out.sub (.cons_cons _ (List.nil_sublist _)))
      clear HR8
      go_wp2_with fail
      refine (EqualE [wkC, wkA, wkD] [wkC, wkA, wkD] v1 _ _ (o1.out.gr ((Gr.refl _).alloc _)) (own_lit w9 _ 6 3 (rowE [wkC, wkA, wkD]) rfl (by decide)) (by decide)).mono ?_
      rintro e w10 ⟨rfl, hg⟩
      rw [decide_eq_true (rfl : [wkC, wkA, wkD] = [wkC, wkA, wkD])]
      have HG1 := Lib.hid (((Gr.refl w9).alloc _).trans hg)
      clear hg d9 d6 d5 d4 d3
      have d3 := (cellsOf (HG1.out.blk HB.out.1)).1
      have d4 := (cellsOf (HG1.out.blk HB.out.2)).1
      simp only [enC, wkA, wkB] at d3 d4
      go_wp2_with fail
      refine (EqualE [wkA, wkB] [wkA, wkB] v2 _ _ (o2.out.gr (HG1.out.alloc _)) (own_lit w10 _ 6 2 (rowE [wkA, wkB]) rfl (by decide)) (by decide)).mono ?_
      rintro e w11 ⟨rfl, hg⟩
      rw [decide_eq_true (rfl : [wkA, wkB] = [wkA, wkB])]
      have HG2 := Lib.hid ((HG1.out.alloc _).trans hg)
      clear hg d3 d4
      go_wp2_with fail
      refine (EqualS [⟨#[97]⟩, ⟨#[98]⟩] [⟨#[97]⟩, ⟨#[98]⟩] v3 _ _ (o3.out.gr (HG2.out.alloc _)) (own_lit w11 _ 1 2 (kS [⟨#[97]⟩, ⟨#[98]⟩]) rfl (by decide)) (by decide)).mono ?_
      rintro e w12 ⟨rfl, hg⟩
      rw [decide_eq_true (rfl : ([⟨#[97]⟩, ⟨#[98]⟩] : List ByteArray) = [⟨#[97]⟩, ⟨#[98]⟩])]
      have HG3 := Lib.hid ((HG2.out.alloc _).trans hg)
      clear hg
      go_wp2_with fail
      refine (Keys_any _ _).mono ?_
      rintro e w13 ⟨bk3, rfl, k1, l1, hg⟩
      have HZ2 := Lib.hid (HZ.out.gr (HG3.out.trans hg))
      have HT := Lib.hid (take_keys HZ2.out.ixp bk3 k1)
      clear k1 l1 hg
      go_wp2_with fail
      refine Calls.mono HT.out ?_
      rw [wk_ks2]
      rintro e w14 ⟨v4, rfl, hr, hg⟩
      have HZ3 := Lib.hid (HZ2.out.gr hg)
      have o4 : Hid (Own w14 9 1 v4 1 (kS [⟨#[97]⟩])) := Lib.hid hr.own
      clear hr hg
      go_wp2_with fail
      refine (EqualS [⟨#[97]⟩] [⟨#[97]⟩] v4 _ _ (o4.out.gr ((Gr.refl _).alloc _)) (own_lit w14 _ 1 1 (kS [⟨#[97]⟩]) rfl (by decide)) (by decide)).mono ?_
      rintro e w15 ⟨rfl, hg⟩
      rw [decide_eq_true (rfl : ([⟨#[97]⟩] : List ByteArray) = [⟨#[97]⟩])]
      have HZ4 := Lib.hid ((HZ3.out.gr ((Gr.refl _).alloc _)).gr hg)
      clear hg
      go_wp2_with fail
      refine (Len_any HZ4.out.ixp).mono ?_
      rintro e w16 ⟨rfl, rfl⟩
      rw [wk_len2]
      go_wp2_with fail
      refine (Last_any HZ4.out.ixp).mono ?_
      rintro e w17 ⟨rfl, hg⟩
      rw [wk_last2]
      have HZ5 := Lib.hid (HZ4.out.gr hg)
      clear hg
      go_wp2
      go_ret
      exact ⟨rfl, HZ5.out.g⟩
end Go.Proofs.Ytiidkehcfoajeaa

/- IndexRefuses: the functions that turn an entry; what Add answers in plain Lean. -/
set_option linter.unusedVariables false
set_option linter.unusedSimpArgs false
namespace Go.Proofs.Ytiidkehcfoajeaa
open Go.RowKit Go.Shelf
attribute [local go_sem] OvM cell_ovm obj_ovm
attribute [local go_sem] Oper.semAt_some

def chB : En := ⟨501, ⟨#[110, 101, 119]⟩, false, 3, 8100, 30⟩
/-- A function value that turns an entry in a box, where m lies in the box b8. -/
def ChgC (v : Value) (f : En → En) (b8 : Nat) (m : Int) : Prop := ∃ g lb, v = .func (.func g) #[] lb ∧ (∀ args w, (callFunc g args).run Try.prog w = .ok (.enter g args) w) ∧
  ∀ (w : World) (bx : Nat), ¬ b8 = bx → w.heap[b8]? = some (.cells #[.int .i64 m] 3) → w.heap[bx]? = some (boxF chB) →
    Calls Try.prog g (#[.pointer (some ⟨bx, 0, none⟩)] ++ lb) w fun r w' => r = .returned (.tuple #[]) ∧ w'.heap[bx]? = some (boxF (f chB)) ∧ Mdh (fun k => k = bx) w w'
theorem set1 {w w0 : World} {bx j : Nat} {u : Value} (m : Mdh (fun k => k = bx) w w0) : Mdh (fun k => k = bx) w (w0.setCell ⟨bx, j, none⟩ u) := m.setCell (p := ⟨bx, j, none⟩) rfl u
def chL (m : Int) : List (En → En) := [fun e => { e with slot := 5 + m }, fun e => { e with slot := -1 - m }, fun e => { e with seq := -m }, fun e => { e with seq := 1099511627777 + m }, fun e => { e with key := ⟨#[]⟩ }, fun e => { e with key := ⟨#[65]⟩ },
  fun e => { e with off := -1 - m }, fun e => { e with size := 18 - m }, fun e => { e with off := 8192 - e.size + 1 + m }, fun e => { e with size := 9223372036854775807 }, fun e => { e with off := 9223372036854775807 }, fun e => { e with seq := 500, size := 31 }, fun e => { e with seq := 500, del := true, size := 19 }]
def chV (b8 : Nat) : List Value := [.func (.func 41) #[] #[.pointer (some ⟨b8, 0, none⟩)], .func (.func 42) #[] #[.pointer (some ⟨b8, 0, none⟩)], .func (.func 43) #[] #[.pointer (some ⟨b8, 0, none⟩)], .func (.func 44) #[] #[.pointer (some ⟨b8, 0, none⟩)], .func (.func 45) #[] #[], .func (.func 46) #[] #[],
  .func (.func 47) #[] #[.pointer (some ⟨b8, 0, none⟩)], .func (.func 48) #[] #[.pointer (some ⟨b8, 0, none⟩)], .func (.func 49) #[] #[.pointer (some ⟨b8, 0, none⟩)], .func (.func 50) #[] #[], .func (.func 51) #[] #[], .func (.func 52) #[] #[], .func (.func 53) #[] #[]]
set_option maxRecDepth 40000 in
theorem chg1 (m : Int) (h0 : 0 ≤ m) (h1 : m ≤ 65535) (b8 : Nat) : ChgC (.func (.func 41) #[] #[.pointer (some ⟨b8, 0, none⟩)]) (fun e => { e with slot := 5 + m }) b8 m :=
  ⟨_, _, rfl, enters_of Try.func41 (by kernel_rfl) rfl, fun w bx hne h8 h3 => by
    obtain ⟨c8, f8⟩ := cellsOf h8
    obtain ⟨c3, f3⟩ := cellsOf h3
    have l8 := blkLt h8
    have l3 := blkLt h3
    have H3 := Lib.hid h3
    clear h8 h3
    show Calls _ _ #[_, _] _ _
    go_enter Try.func41, Try.ntmps41
    go_wp2
    go_end0
    exact ⟨rfl, blkSet (j := 3) H3.out, set1 (Mdh.refl _ _)⟩⟩
set_option maxRecDepth 40000 in
theorem chg2 (m : Int) (h0 : 0 ≤ m) (h1 : m ≤ 65535) (b8 : Nat) : ChgC (.func (.func 42) #[] #[.pointer (some ⟨b8, 0, none⟩)]) (fun e => { e with slot := -1 - m }) b8 m :=
  ⟨_, _, rfl, enters_of Try.func42 (by kernel_rfl) rfl, fun w bx hne h8 h3 => by
    obtain ⟨c8, f8⟩ := cellsOf h8
    obtain ⟨c3, f3⟩ := cellsOf h3
    have l8 := blkLt h8
    have l3 := blkLt h3
    have H3 := Lib.hid h3
    clear h8 h3
    show Calls _ _ #[_, _] _ _
    go_enter Try.func42, Try.ntmps42
    go_wp2
    go_end0
    exact ⟨rfl, blkSet (j := 3) H3.out, set1 (Mdh.refl _ _)⟩⟩
set_option maxRecDepth 40000 in
theorem chg3 (m : Int) (h0 : 0 ≤ m) (h1 : m ≤ 65535) (b8 : Nat) : ChgC (.func (.func 43) #[] #[.pointer (some ⟨b8, 0, none⟩)]) (fun e => { e with seq := -m }) b8 m :=
  ⟨_, _, rfl, enters_of Try.func43 (by kernel_rfl) rfl, fun w bx hne h8 h3 => by
    obtain ⟨c8, f8⟩ := cellsOf h8
    obtain ⟨c3, f3⟩ := cellsOf h3
    have l8 := blkLt h8
    have l3 := blkLt h3
    have H3 := Lib.hid h3
    clear h8 h3
    show Calls _ _ #[_, _] _ _
    go_enter Try.func43, Try.ntmps43
    go_wp2
    go_end0
    exact ⟨rfl, blkSet (j := 0) H3.out, set1 (Mdh.refl _ _)⟩⟩
set_option maxRecDepth 40000 in
theorem chg4 (m : Int) (h0 : 0 ≤ m) (h1 : m ≤ 65535) (b8 : Nat) : ChgC (.func (.func 44) #[] #[.pointer (some ⟨b8, 0, none⟩)]) (fun e => { e with seq := 1099511627777 + m }) b8 m :=
  ⟨_, _, rfl, enters_of Try.func44 (by kernel_rfl) rfl, fun w bx hne h8 h3 => by
    obtain ⟨c8, f8⟩ := cellsOf h8
    obtain ⟨c3, f3⟩ := cellsOf h3
    have l8 := blkLt h8
    have l3 := blkLt h3
    have H3 := Lib.hid h3
    clear h8 h3
    show Calls _ _ #[_, _] _ _
    go_enter Try.func44, Try.ntmps44
    go_wp2
    go_end0
    exact ⟨rfl, blkSet (j := 0) H3.out, set1 (Mdh.refl _ _)⟩⟩
set_option maxRecDepth 40000 in
theorem chg7 (m : Int) (h0 : 0 ≤ m) (h1 : m ≤ 65535) (b8 : Nat) : ChgC (.func (.func 47) #[] #[.pointer (some ⟨b8, 0, none⟩)]) (fun e => { e with off := -1 - m }) b8 m :=
  ⟨_, _, rfl, enters_of Try.func47 (by kernel_rfl) rfl, fun w bx hne h8 h3 => by
    obtain ⟨c8, f8⟩ := cellsOf h8
    obtain ⟨c3, f3⟩ := cellsOf h3
    have l8 := blkLt h8
    have l3 := blkLt h3
    have H3 := Lib.hid h3
    clear h8 h3
    show Calls _ _ #[_, _] _ _
    go_enter Try.func47, Try.ntmps47
    go_wp2
    go_end0
    exact ⟨rfl, blkSet (j := 4) H3.out, set1 (Mdh.refl _ _)⟩⟩
set_option maxRecDepth 40000 in
theorem chg8 (m : Int) (h0 : 0 ≤ m) (h1 : m ≤ 65535) (b8 : Nat) : ChgC (.func (.func 48) #[] #[.pointer (some ⟨b8, 0, none⟩)]) (fun e => { e with size := 18 - m }) b8 m :=
  ⟨_, _, rfl, enters_of Try.func48 (by kernel_rfl) rfl, fun w bx hne h8 h3 => by
    obtain ⟨c8, f8⟩ := cellsOf h8
    obtain ⟨c3, f3⟩ := cellsOf h3
    have l8 := blkLt h8
    have l3 := blkLt h3
    have H3 := Lib.hid h3
    clear h8 h3
    show Calls _ _ #[_, _] _ _
    go_enter Try.func48, Try.ntmps48
    go_wp2
    go_end0
    exact ⟨rfl, blkSet (j := 5) H3.out, set1 (Mdh.refl _ _)⟩⟩
set_option maxRecDepth 40000 in
theorem chg5 (m : Int) (b8 : Nat) : ChgC (.func (.func 45) #[] #[]) (fun e => { e with key := ⟨#[]⟩ }) b8 m :=
  ⟨_, _, rfl, enters_of Try.func45 (by kernel_rfl) rfl, fun w bx hne h8 h3 => by
    obtain ⟨c3, f3⟩ := cellsOf h3
    have l3 := blkLt h3
    have H3 := Lib.hid h3
    clear h8 h3
    show Calls _ _ #[_] _ _
    go_enter Try.func45, Try.ntmps45
    go_wp2
    go_end0
    exact ⟨rfl, blkSet (j := 1) H3.out, set1 (Mdh.refl _ _)⟩⟩
set_option maxRecDepth 40000 in
theorem chg6 (m : Int) (b8 : Nat) : ChgC (.func (.func 46) #[] #[]) (fun e => { e with key := ⟨#[65]⟩ }) b8 m :=
  ⟨_, _, rfl, enters_of Try.func46 (by kernel_rfl) rfl, fun w bx hne h8 h3 => by
    obtain ⟨c3, f3⟩ := cellsOf h3
    have l3 := blkLt h3
    have H3 := Lib.hid h3
    clear h8 h3
    show Calls _ _ #[_] _ _
    go_enter Try.func46, Try.ntmps46
    go_wp2
    go_end0
    exact ⟨rfl, blkSet (j := 1) H3.out, set1 (Mdh.refl _ _)⟩⟩
set_option maxRecDepth 40000 in
theorem chg10 (m : Int) (b8 : Nat) : ChgC (.func (.func 50) #[] #[]) (fun e => { e with size := 9223372036854775807 }) b8 m :=
  ⟨_, _, rfl, enters_of Try.func50 (by kernel_rfl) rfl, fun w bx hne h8 h3 => by
    obtain ⟨c3, f3⟩ := cellsOf h3
    have l3 := blkLt h3
    have H3 := Lib.hid h3
    clear h8 h3
    show Calls _ _ #[_] _ _
    go_enter Try.func50, Try.ntmps50
    go_wp2
    go_end0
    exact ⟨rfl, blkSet (j := 5) H3.out, set1 (Mdh.refl _ _)⟩⟩
set_option maxRecDepth 40000 in
theorem chg11 (m : Int) (b8 : Nat) : ChgC (.func (.func 51) #[] #[]) (fun e => { e with off := 9223372036854775807 }) b8 m :=
  ⟨_, _, rfl, enters_of Try.func51 (by kernel_rfl) rfl, fun w bx hne h8 h3 => by
    obtain ⟨c3, f3⟩ := cellsOf h3
    have l3 := blkLt h3
    have H3 := Lib.hid h3
    clear h8 h3
    show Calls _ _ #[_] _ _
    go_enter Try.func51, Try.ntmps51
    go_wp2
    go_end0
    exact ⟨rfl, blkSet (j := 4) H3.out, set1 (Mdh.refl _ _)⟩⟩
set_option maxRecDepth 40000 in
theorem chg12 (m : Int) (b8 : Nat) : ChgC (.func (.func 52) #[] #[]) (fun e => { e with seq := 500, size := 31 }) b8 m :=
  ⟨_, _, rfl, enters_of Try.func52 (by kernel_rfl) rfl, fun w bx hne h8 h3 => by
    obtain ⟨c3, f3⟩ := cellsOf h3
    have l3 := blkLt h3
    have H3 := Lib.hid h3
    clear h8 h3
    show Calls _ _ #[_] _ _
    go_enter Try.func52, Try.ntmps52
    go_wp2
    go_end0
    exact ⟨rfl, blkSet (j := 5) (blkSet (j := 0) H3.out), set1 (set1 (Mdh.refl _ _))⟩⟩
set_option maxRecDepth 40000 in
theorem chg13 (m : Int) (b8 : Nat) : ChgC (.func (.func 53) #[] #[]) (fun e => { e with seq := 500, del := true, size := 19 }) b8 m :=
  ⟨_, _, rfl, enters_of Try.func53 (by kernel_rfl) rfl, fun w bx hne h8 h3 => by
    obtain ⟨c3, f3⟩ := cellsOf h3
    have l3 := blkLt h3
    have H3 := Lib.hid h3
    clear h8 h3
    show Calls _ _ #[_] _ _
    go_enter Try.func53, Try.ntmps53
    go_wp2
    go_end0
    exact ⟨rfl, blkSet (j := 5) (blkSet (j := 2) (blkSet (j := 0) H3.out)), set1 (set1 (set1 (Mdh.refl _ _)))⟩⟩
set_option maxRecDepth 40000 in
theorem chg9 (m : Int) (h0 : 0 ≤ m) (h1 : m ≤ 65535) (b8 : Nat) : ChgC (.func (.func 49) #[] #[.pointer (some ⟨b8, 0, none⟩)]) (fun e => { e with off := 8192 - e.size + 1 + m }) b8 m :=
  ⟨_, _, rfl, enters_of Try.func49 (by kernel_rfl) rfl, fun w bx hne h8 h3 => by
    obtain ⟨c8, f8⟩ := cellsOf h8
    obtain ⟨c3, f3⟩ := cellsOf h3
    have l8 := blkLt h8
    have l3 := blkLt h3
    have H3 := Lib.hid h3
    clear h8 h3
    simp only [chB] at c3
    show Calls _ _ #[_, _] _ _
    go_enter Try.func49, Try.ntmps49
    refine wp_region_flo (fun k => k = bx) [] [7] (by kernel_rfl) (by kernel_rfl) (fun k hk => by subst hk; exact l3) ?_
    refine flo_seg 4 rfl ?_
    simp only [List.take_succ_cons, List.take_zero, List.drop_succ_cons, List.drop_zero]
    repeat (go_big_quiet_step (fail))
    refine wpQuiet_nil ?_
    refine flo_eff rfl rfl rfl rfl (fun K hK => ?_)
    go_wp2
    refine ⟨by (first | (refine Gr.mdh ?_ _; (repeat (first | (with_reducible exact Gr.refl _) | assumption | (with_reducible apply Gr.from_drew) | (with_reducible apply Gr.alloc) | (with_reducible apply Gr.drew) | (with_reducible refine Gr.trans ?_ (by assumption)) | (with_reducible refine Gr.setCell ?_ (by omega) _))); done) | (repeat (first | (with_reducible exact Mdh.refl _ _) | (with_reducible refine Mdh.setCell ?_ (by simp) _) | (with_reducible refine Mdh.setNew ?_ (by simp) _) | (with_reducible apply Mdh.alloc) | (with_reducible apply Mdh.from_drew) | (with_reducible apply Mdh.drew) | (with_reducible refine Mdh.gr ?_ (by assumption))))), ?_⟩
    refine flo_seg 6 rfl ?_
    simp only [List.take_succ_cons, List.take_zero, List.drop_succ_cons, List.drop_zero]
    repeat (go_big_quiet_step (fail))
    refine wpQuiet_nil ?_
    refine flo_eff rfl rfl rfl rfl (fun K hK => ?_)
    go_wp2
    refine ⟨by (first | (refine Gr.mdh ?_ _; (repeat (first | (with_reducible exact Gr.refl _) | assumption | (with_reducible apply Gr.from_drew) | (with_reducible apply Gr.alloc) | (with_reducible apply Gr.drew) | (with_reducible refine Gr.trans ?_ (by assumption)) | (with_reducible refine Gr.setCell ?_ (by omega) _))); done) | (repeat (first | (with_reducible exact Mdh.refl _ _) | (with_reducible refine Mdh.setCell ?_ (by simp) _) | (with_reducible refine Mdh.setNew ?_ (by simp) _) | (with_reducible apply Mdh.alloc) | (with_reducible apply Mdh.from_drew) | (with_reducible apply Mdh.drew) | (with_reducible refine Mdh.gr ?_ (by assumption))))), ?_⟩
    refine flo_nil ?_
    go_end0
    have e1 : 8192 - chB.size + 1 + m = 8163 + m := by simp only [chB]; omega
    rw [e1]
    exact ⟨rfl, (Gr.refl _).drew.blk (blkSet (j := 4) H3.out), (set1 (Mdh.refl _ _)).drew⟩⟩
end Go.Proofs.Ytiidkehcfoajeaa

/- IndexRefuses: what Add answers, in plain Lean. -/
set_option linter.unusedVariables false
set_option linter.unusedSimpArgs false
namespace Go.Proofs.Ytiidkehcfoajeaa
open Go.RowKit Go.Shelf

theorem u16b {a : Int} (h : (Lit.int .u16 a).wf = true) : 0 ≤ a ∧ a ≤ 65535 := by
  simp only [Lit.wf, Bool.and_eq_true, decide_eq_true_eq] at h
  exact h
def kNew : ByteArray := ⟨#[110, 101, 119]⟩
def rfG : En := ⟨500, ⟨#[110, 101, 119]⟩, false, 4, 8000, 30⟩
theorem low_new : Low ⟨#[110, 101, 119]⟩ := by unfold Low; decide
theorem low_nil : Low ⟨#[]⟩ := by unfold Low; decide
theorem low_A : Low ⟨#[65]⟩ := by unfold Low; decide
theorem chk_new : keyChk ⟨#[110, 101, 119]⟩ = 0 := by kernel_rfl
theorem chk_nil : keyChk ⟨#[]⟩ = 2 := by kernel_rfl
theorem chk_A : keyChk ⟨#[65]⟩ = 2 := by kernel_rfl
structure RfX (X1 : IX) : Prop where
  wf : X1.Wf
  ln : (X1.slots.length : Int) = 5
  mem : rfG ∈ X1.ents
  sq : ∀ o ∈ X1.ents, o.seq < 62 ∨ o = rfG
theorem RfX.ne {X1 : IX} (h : RfX X1) : X1.slots ≠ [] := fun h0 => by have := h.ln; rw [h0] at this; simp at this
theorem RfX.yes {X1 : IX} (h : RfX X1) {s : Int} (h0 : 0 ≤ s) (h1 : s < 5) : X1.has s = true := by
  unfold IX.has
  exact decide_eq_true ⟨h0, by have := h.ln; omega⟩
theorem RfX.no {X1 : IX} (h : RfX X1) {s : Int} (h0 : s < 0 ∨ 5 ≤ s) : X1.has s = false := by
  unfold IX.has
  exact decide_eq_false (by have := h.ln; omega)
theorem rf_X {X : IX} {all : List En} {en : Int → Int} {nx : Int} (h : FI X all en nx 60 5) : addE X rfG = 0 ∧ RfX (addX X rfG) ∧ ((addX X rfG).ents.length : Int) = all.length + 1 := by
  have e1 := h.nx1
  have e2 := h.en0 4
  have a : AddOk X rfG := h.freshOk (show nx ≤ 500 by omega) (by decide) (by decide) (by decide) (show en 4 ≤ 8000 by omega) chk_new (by decide) (.inr rfl) (by decide) (by decide)
  have p := add_ents h.wf a
  refine ⟨ok_add a, ⟨add_wf h.wf a, by rw [addX_eq a]; simp only [List.length_set]; exact h.ln, p.mem_iff.2 (by simp), fun o ho => ?_⟩, ?_⟩
  · rcases List.mem_cons.1 (p.mem_iff.1 ho) with h1 | h1
    · exact .inr h1
    · have := h.sq o ((h.mem o).2 h1)
      exact .inl (by omega)
  · have h1 := p.length_eq
    have h2 := h.len
    rw [List.length_cons] at h1
    omega
theorem not_valid {e : En} (h : ¬ (keyChk e.key = 0 ∧ 1 ≤ e.seq ∧ e.seq ≤ 1099511627776 ∧ 0 ≤ e.off ∧ 16 + (e.key.size : Int) ≤ e.size ∧ (e.size = 16 + (e.key.size : Int) ∨ e.del = false) ∧ e.size ≤ 8192 ∧ e.off ≤ 8192 - e.size)) : validE e = false := by
  rw [Bool.eq_false_iff]
  exact fun hv => h ((valid_iff e).1 hv)
theorem rf_ch {X1 : IX} (h : RfX X1) (m : Int) (h0 : 0 ≤ m) (h1 : m ≤ 65535) : ∀ (j : Nat) (f : En → En), (chL m)[j]? = some f → addE X1 (f chB) = (if (j : Int) < 2 then 3 else 2) ∧ Low (f chB).key ∧ En64 (f chB) := by
  have kz : ((⟨#[110, 101, 119]⟩ : ByteArray).size : Int) = 3 := rfl
  have kb : (⟨#[110, 101, 119]⟩ : ByteArray).size ≤ 140737488351232 := by decide
  have vN : ∀ (q s o z : Int) (d : Bool), 0 ≤ s → s < 5 → ¬ (1 ≤ q ∧ q ≤ 1099511627776 ∧ 0 ≤ o ∧ 19 ≤ z ∧ z ≤ 8192 ∧ o ≤ 8192 - z) → addE X1 ⟨q, ⟨#[110, 101, 119]⟩, d, s, o, z⟩ = 2 := fun q s o z d hs0 hs1 hh => add_2 h.ne (h.yes hs0 hs1) (not_valid (fun hv => hh (by simp only [kz] at hv; exact ⟨hv.2.1, hv.2.2.1, hv.2.2.2.1, hv.2.2.2.2.1, hv.2.2.2.2.2.2.1, hv.2.2.2.2.2.2.2⟩)))
  have e64 : ∀ (q s o z : Int) (d : Bool), z ≤ 9223372036854775807 → -9223372036854775808 ≤ z → En64 ⟨q, ⟨#[110, 101, 119]⟩, d, s, o, z⟩ := fun q s o z d a b => ⟨a, b, kb⟩
  have vB : ∀ (z : Int) (d : Bool), validE ⟨500, ⟨#[110, 101, 119]⟩, d, 3, 8100, z⟩ = true → (z ≠ 30 ∨ d = true) → addE X1 ⟨500, ⟨#[110, 101, 119]⟩, d, 3, 8100, z⟩ = 2 := fun z d hv hh => by
    refine add_bad (o := rfG) h.ne (h.yes (show (0 : Int) ≤ 3 by decide) (show (3 : Int) < 5 by decide)) hv ((h.wf.of_mem _ _).2 ⟨h.mem, rfl⟩) ?_
    refine badE_yes rfl (fun he => ?_)
    have h1 := congrArg En.size he
    have h2 := congrArg En.del he
    simp only [copyE, rfG] at h1 h2
    rcases hh with hh | hh
    · exact hh h1.symm
    · rw [hh] at h2; cases h2
  intro j f hf
  match j, hf with
  | 0, hf => cases hf; exact ⟨add_3 h.ne (h.no (.inr (show (5 : Int) ≤ 5 + m by omega))), low_new, e64 _ _ _ _ _ (by decide) (by decide)⟩
  | 1, hf => cases hf; exact ⟨add_3 h.ne (h.no (.inl (show -1 - m < (0 : Int) by omega))), low_new, e64 _ _ _ _ _ (by decide) (by decide)⟩
  | 2, hf => cases hf; exact ⟨vN _ _ _ _ _ (by decide) (by decide) (by omega), low_new, e64 _ _ _ _ _ (by decide) (by decide)⟩
  | 3, hf => cases hf; exact ⟨vN _ _ _ _ _ (by decide) (by decide) (by omega), low_new, e64 _ _ _ _ _ (by decide) (by decide)⟩
  | 4, hf => cases hf; exact ⟨add_2 h.ne (h.yes (by decide) (by decide)) (not_valid (fun hv => absurd (chk_nil.symm.trans hv.1) (by decide))), low_nil, by unfold En64; decide⟩
  | 5, hf => cases hf; exact ⟨add_2 h.ne (h.yes (by decide) (by decide)) (not_valid (fun hv => absurd (chk_A.symm.trans hv.1) (by decide))), low_A, by unfold En64; decide⟩
  | 6, hf => cases hf; exact ⟨vN _ _ _ _ _ (by decide) (by decide) (by omega), low_new, e64 _ _ _ _ _ (by decide) (by decide)⟩
  | 7, hf => cases hf; exact ⟨vN _ _ _ _ _ (by decide) (by decide) (by omega), low_new, e64 _ _ _ _ _ (by omega) (by omega)⟩
  | 8, hf => cases hf; exact ⟨vN _ _ _ _ _ (by decide) (by decide) (by simp only [chB]; omega), low_new, e64 _ _ _ _ _ (by decide) (by decide)⟩
  | 9, hf => cases hf; exact ⟨vN _ _ _ _ _ (by decide) (by decide) (by omega), low_new, e64 _ _ _ _ _ (by decide) (by decide)⟩
  | 10, hf => cases hf; exact ⟨vN _ _ _ _ _ (by decide) (by decide) (by omega), low_new, e64 _ _ _ _ _ (by decide) (by decide)⟩
  | 11, hf => cases hf; exact ⟨vB 31 false (by kernel_rfl) (.inl (by decide)), low_new, e64 _ _ _ _ _ (by decide) (by decide)⟩
  | 12, hf => cases hf; exact ⟨vB 19 true (by kernel_rfl) (.inr rfl), low_new, e64 _ _ _ _ _ (by decide) (by decide)⟩
  | _ + 13, hf => cases hf
def rfT : En := ⟨501, ⟨#[110, 101, 119]⟩, true, 4, 8000, 20⟩
def rfO (m : Int) : En := ⟨502, ⟨#[110, 101, 119]⟩, false, 4, 8000 + m % 30, 30⟩
def rfA : En := ⟨500, ⟨#[110, 101, 119]⟩, false, 4, 8100, 30⟩
theorem rf_T {X1 : IX} (h : RfX X1) : addE X1 rfT = 2 := add_2 h.ne (h.yes (by decide) (by decide)) (not_valid (fun hv => by
  have h1 := hv.2.2.2.2.2.1
  have kz : ((⟨#[110, 101, 119]⟩ : ByteArray).size : Int) = 3 := rfl
  simp only [rfT, kz] at h1
  rcases h1 with h1 | h1
  · omega
  · cases h1))
theorem rf_O {X1 : IX} (h : RfX X1) (m : Int) (h0 : 0 ≤ m) : addE X1 (rfO m) = 6 := by
  have kz : ((⟨#[110, 101, 119]⟩ : ByteArray).size : Int) = 3 := rfl
  refine add_6 h.ne (h.yes (show (0 : Int) ≤ 4 by decide) (show (4 : Int) < 5 by decide)) ((valid_iff _).2 ⟨chk_new, show (1 : Int) ≤ 502 by decide, show (502 : Int) ≤ 1099511627776 by decide, show (0 : Int) ≤ 8000 + m % 30 by omega, show 16 + ((3 : Nat) : Int) ≤ 30 by decide, .inr rfl, show (30 : Int) ≤ 8192 by decide, show 8000 + m % 30 ≤ 8192 - 30 by omega⟩) (fun o ho => ?_) ?_
  · have h1 := h.sq o ((h.wf.of_mem _ _).1 ho).1
    refine badE_no (fun hh => ?_)
    simp only [rfO] at hh
    rcases h1 with h1 | h1
    · omega
    · rw [h1] at hh; simp [rfG] at hh
  · rw [Bool.or_eq_true]
    right
    cases hc : clash (X1.slot (rfO m).slot) (rfO m) with
    | true => rfl
    | false =>
      have hm : rfG ∈ X1.slot 4 := (h.wf.slot_mem 4 rfG).2 ⟨h.mem, rfl⟩
      have hs : SlotOk 4 (X1.slot 4) := h.wf.slotOk 4
      by_cases hz : (8000 : Int) < 8000 + m % 30
      · have l1 : (8000 : Int) + 30 ≤ 8000 + m % 30 := clash_lo (e := rfO m) hs hc rfG hm (decide_eq_true hz)
        omega
      · have l2 : (8000 : Int) + m % 30 + 30 ≤ 8000 := clash_hi (e := rfO m) hs hc rfG hm (decide_eq_false hz)
        omega
theorem rf_A {X1 : IX} (h : RfX X1) : addE X1 rfA = 6 := by
  refine add_6 h.ne (h.yes (by decide) (by decide)) (by kernel_rfl) (fun o ho => ?_) ?_
  · have h1 := h.sq o ((h.wf.of_mem _ _).1 ho).1
    refine badE_no (fun hh => ?_)
    simp only [rfA] at hh
    rcases h1 with h1 | h1
    · omega
    · rw [h1]; rfl
  · rw [Bool.or_eq_true]
    exact .inl (List.any_eq_true.2 ⟨rfG, (h.wf.of_mem _ _).2 ⟨h.mem, rfl⟩, rfl⟩)
end Go.Proofs.Ytiidkehcfoajeaa

/- IndexRefuses. -/
set_option linter.unusedVariables false
set_option linter.unusedSimpArgs false
namespace Go.Proofs.Ytiidkehcfoajeaa
open Go.RowKit Go.Shelf
attribute [local go_sem] OvM cell_ovm obj_ovm
attribute [local go_sem] Oper.semAt_some

theorem chAll (m : Int) (h0 : 0 ≤ m) (h1 : m ≤ 65535) (b8 : Nat) : ∀ (j : Nat) v, (chV b8)[j]? = some v → ∃ f, (chL m)[j]? = some f ∧ ChgC v f b8 m := by
  intro j v hv
  match j, hv with
  | 0, hv => cases hv; exact ⟨_, rfl, chg1 m h0 h1 b8⟩
  | 1, hv => cases hv; exact ⟨_, rfl, chg2 m h0 h1 b8⟩
  | 2, hv => cases hv; exact ⟨_, rfl, chg3 m h0 h1 b8⟩
  | 3, hv => cases hv; exact ⟨_, rfl, chg4 m h0 h1 b8⟩
  | 4, hv => cases hv; exact ⟨_, rfl, chg5 m b8⟩
  | 5, hv => cases hv; exact ⟨_, rfl, chg6 m b8⟩
  | 6, hv => cases hv; exact ⟨_, rfl, chg7 m h0 h1 b8⟩
  | 7, hv => cases hv; exact ⟨_, rfl, chg8 m h0 h1 b8⟩
  | 8, hv => cases hv; exact ⟨_, rfl, chg9 m h0 h1 b8⟩
  | 9, hv => cases hv; exact ⟨_, rfl, chg10 m b8⟩
  | 10, hv => cases hv; exact ⟨_, rfl, chg11 m b8⟩
  | 11, hv => cases hv; exact ⟨_, rfl, chg12 m b8⟩
  | 12, hv => cases hv; exact ⟨_, rfl, chg13 m b8⟩
  | _ + 13, hv => cases hv
set_option maxRecDepth 40000 in
set_option maxHeartbeats 8000000 in
theorem IndexRefuses_any (a : Option Addr) (len cap : Nat) (L : List Mv) (m : Int) (w : World) (hl : L.length = len) (hle : len ≤ cap) (hcap : cap ≤ maxLen) (hs : MovesAt w a L) (hm0 : 0 ≤ m) (hm1 : m ≤ 65535) :
    Calls Try.prog 8 #[.slice a len cap, .int .u16 m] w fun e w' => e = .returned (.bool true) ∧ Gr w w' := by
  obtain ⟨n, hn⟩ : ∃ n : Nat, n = min len 60 := ⟨_, rfl⟩
  have hn1 : n ≤ len := by omega
  have hn2 : n ≤ 60 := by omega
  have hs' : MovesAt w a (L.take n) := fun i x hx => hs i x (by rw [List.getElem?_take] at hx; split at hx <;> simp_all)
  have HC : Hid (∀ k, k = n → Calls Try.prog 29 #[.slice a k cap] w (FilPost w (L.take n))) := Lib.hid (fun k hk => by rw [hk]; exact filled_any a n cap (L.take n) w (by rw [List.length_take]; omega) (by omega) hcap hs')
  have HF : Hid (FI (filS ((L.take n).take 80)).X (filS ((L.take n).take 80)).all (filS ((L.take n).take 80)).en (filS ((L.take n).take 80)).nx 60 5) := Lib.hid (by
    rw [List.take_take, show min 80 n = n by omega]
    have h1 := filS_ok (L.take n) (by rw [List.length_take]; omega) (movesOk hs n)
    exact FI.later h1 (by rw [List.length_take]; omega))
  have HCH := Lib.hid (chAll m hm0 hm1)
  have HN : Hid (n = min len 60) := Lib.hid hn
  unfold maxLen at hcap
  clear hl hs hs' hn
  go_enter Try.func8, Try.ntmps8
  go_upto_region 1 with fail
  go_cut [5, 6, 7] (fun t5 t6 t7 wx => ∃ b S av cv, t5 = .pointer (some ⟨b, 0, none⟩) ∧ t6 = .slice av (filS ((L.take n).take 80)).all.length cv ∧ t7 = .bool true ∧ Hid (SW w [ixA b (filS ((L.take n).take 80)).X S, rowA 23 6 (.slice av (filS ((L.take n).take 80)).all.length cv) (filS ((L.take n).take 80)).all.length (rowE (filS ((L.take n).take 80)).all)] wx))
  case first =>
    go_wp2_with fail
    all_goals
      first
        | (have e1 : len < 60 := by omega
           refine Calls.mono (HC.out len (by have := HN.out; omega)) ?_)
        | (have e1 : 60 ≤ len := by omega
           refine Calls.mono (HC.out 60 (by have := HN.out; omega)) ?_)
        | (have e1 : len ≤ 60 := by omega
           refine Calls.mono (HC.out len (by have := HN.out; omega)) ?_)
      intro e w1 hp
      obtain ⟨b, S, av, cv, rfl, hs⟩ := hp.r
      have HS1 := Lib.hid hs
      clear hp hs
      go_wp2_with fail
      go_meet
      exact ⟨b, S, av, cv, rfl, rfl, rfl, HS1⟩
  case rest =>
    obtain ⟨b, S, av, cv, rfl, rfl, rfl, H1⟩ := hcut
    generalize filS ((L.take n).take 80) = st at *
    obtain ⟨X, all, en, nx⟩ := st
    simp only at HF H1
    simp only
    obtain ⟨p1, p2, p3⟩ := rf_X HF.out
    have HX := Lib.hid (And.intro p1 (And.intro p2 p3))
    clear p1 p2 p3
    go_wp2_with fail
    obtain ⟨b8, hb8⟩ : ∃ q, q = wc.heap.size := ⟨_, rfl⟩
    obtain ⟨w2, hw2⟩ : ∃ y, y = ((wc.alloc (.cells #[.int .i64 m] 3)).alloc (boxF rfG)).alloc (boxF ⟨500, ⟨#[110, 101, 119]⟩, true, 4, 8000, 19⟩) := ⟨_, rfl⟩
    have HS2 : Hid (SW w [ixA b X S, blkA (b8 + 1 + 1) (boxF ⟨500, ⟨#[110, 101, 119]⟩, true, 4, 8000, 19⟩), blkA (b8 + 1) (boxF rfG), blkA b8 (.cells #[.int .i64 m] 3)] w2) := Lib.hid (by
      have h := ((H1.out.allocT (.cells #[.int .i64 m] 3)).allocT (boxF rfG)).allocT (boxF ⟨500, ⟨#[110, 101, 119]⟩, true, 4, 8000, 19⟩)
      simp only [World.size_alloc, ← hb8] at h
      rw [hw2]
      exact h.sub (.cons_cons _ (.cons_cons _ (.cons_cons _ (.cons_cons _ (.cons _ (List.Sublist.refl _)))))))
    simp only [rfG] at hw2
    rw [← hw2, ← hb8]
    clear hw2 hb8 H1
    refine (Add_any HS2.out.ix rfG low_new (by unfold En64; decide)).mono ?_
    rintro e w3 ⟨rfl, hp⟩
    obtain ⟨S3, hs⟩ := HS2.out.post hp
    have HS3 := Lib.hid hs
    rw [HX.out.1]
    clear hs hp HS2
    generalize addX X rfG = X1 at *
    go_wp2_with fail
    obtain ⟨g, hg⟩ : ∃ q, q = w3.heap.size := ⟨_, rfl⟩
    obtain ⟨w4, hw4⟩ : ∃ y, y = w3.alloc (.cells (chV b8).toArray 82) := ⟨_, rfl⟩
    have HS4 : Hid (SW w [ixA b X1 S3, blkA g (.cells (chV b8).toArray 82), blkA (b8 + 1 + 1) (boxF ⟨500, ⟨#[110, 101, 119]⟩, true, 4, 8000, 19⟩), blkA (b8 + 1) (boxF rfG), blkA b8 (.cells #[.int .i64 m] 3)] w4) := Lib.hid (by rw [hw4, hg]; exact HS3.out.allocT _)
    simp only [chV] at hw4
    rw [← hw4, ← hg]
    clear hw4 hg HS3
    go_loopw [56] (fun t56 wx => ∃ (j : Nat) (S : Nat → Prop), j ≤ 13 ∧ t56 = .int .i64 j ∧ Hid (SW w [ixA b X1 S, blkA g (.cells (chV b8).toArray 82), blkA (b8 + 1 + 1) (boxF ⟨500, ⟨#[110, 101, 119]⟩, true, 4, 8000, 19⟩), blkA (b8 + 1) (boxF rfG), blkA b8 (.cells #[.int .i64 m] 3)] wx)) (fun t56 _ => 13 - (intOf t56).toNat)
    case atStart => exact ⟨0, S3, by omega, rfl, HS4⟩
    case round =>
      obtain ⟨j, S5, hj, rfl, HR⟩ := hrel
      clear HS4
      by_cases hlt : j < 13
      · have hlt' : (j : Int) < 13 := by omega
        obtain ⟨v, hv⟩ : ∃ v, (chV b8)[j]? = some v := ⟨_, List.getElem?_eq_getElem (show j < 13 from hlt)⟩
        obtain ⟨f, hf, gg, lb, rfl, heg, hrun⟩ := HCH.out b8 j v hv
        have hE := rf_ch HX.out.2.1 m hm0 hm1 j f hf
        have HE := Lib.hid hE
        have HRUN := Lib.hid hrun
        have d0 : wr.cell? ⟨g, j, none⟩ = some (.func (.func gg) #[] lb) := ((cellsOf (show wr.heap[g]? = _ from HR.out.get (i := 1) rfl)).1 j).trans (by rw [List.getElem?_toArray]; exact hv)
        have d9 := (cellsOf (show wr.heap[b8 + 1]? = _ from HR.out.get (i := 3) rfl)).1
        simp only [rfG] at d9
        clear hE hrun hf hv
        go_wp2_with fail
        obtain ⟨b13, hb13⟩ : ∃ q, q = wr.heap.size := ⟨_, rfl⟩
        obtain ⟨w5, hw5⟩ : ∃ y, y = wr.alloc (boxF chB) := ⟨_, rfl⟩
        have HS5 : Hid (SW w [ixA b X1 S5, blkA b13 (boxF chB), blkA g (.cells (chV b8).toArray 82), blkA (b8 + 1 + 1) (boxF ⟨500, ⟨#[110, 101, 119]⟩, true, 4, 8000, 19⟩), blkA (b8 + 1) (boxF rfG), blkA b8 (.cells #[.int .i64 m] 3)] w5) := Lib.hid (by rw [hw5, hb13]; exact HR.out.allocT _)
        simp only [chB] at hw5
        rw [← hw5, ← hb13]
        clear hw5 hb13 d0 d9
        refine (HRUN.out w5 b13 (fun h => (HS5.out.get_ne (i := 5) (j := 1) rfl rfl (by decide)) b8 rfl h) (HS5.out.get (i := 5) rfl) (HS5.out.get (i := 1) rfl)).mono ?_
        rintro e w6 ⟨rfl, hbx, hm⟩
        have HS6 : Hid (SW w [ixA b X1 S5, blkA b13 (boxF (f chB)), blkA g (.cells (chV b8).toArray 82), blkA (b8 + 1 + 1) (boxF ⟨500, ⟨#[110, 101, 119]⟩, true, 4, 8000, 19⟩), blkA (b8 + 1) (boxF rfG), blkA b8 (.cells #[.int .i64 m] 3)] w6) := Lib.hid (HS5.out.at (i := 1) rfl hm (fun k hk => .inl hk) hbx (fun k hk => .inl hk))
        have d13 := (cellsOf (show w6.heap[b13]? = _ from HS6.out.get (i := 1) rfl)).1
        clear hbx hm HS5
        have HNO : Hid (addX X1 (f chB) = X1) := Lib.hid (addX_no (by rw [HE.out.1]; split <;> decide))
        generalize f chB = o at *
        by_cases hj2 : j < 2
        all_goals
          first
            | have hj2' : (j : Int) < 2 := by omega
            | have hj2' : ¬ (j : Int) < 2 := by omega
          have HE2 := HE.out.1
          first
            | rw [if_pos hj2'] at HE2
            | rw [if_neg hj2'] at HE2
          replace HE2 := Lib.hid HE2
          go_wp2_with fail
          refine (Add_any HS6.out.ix o HE.out.2.1 HE.out.2.2).mono ?_
          rintro e w7 ⟨rfl, hp⟩
          rw [HNO.out] at hp
          obtain ⟨S7, hs⟩ := HS6.out.post hp
          have HS7 := Lib.hid hs
          rw [HE2.out]
          clear hs hp HS6 d13
          go_wp2
          go_roundw
          case rel => exact ⟨j + 1, S7, by omega, by go_num, Lib.hid (HS7.out.sub (.cons_cons _ (.cons _ (List.Sublist.refl _))))⟩
          case measure => simp [intOf]; omega
      · have hlt' : ¬ (j : Int) < 13 := by omega
        obtain rfl : j = 13 := by omega
        have d8 := (cellsOf (show wr.heap[b8]? = _ from HR.out.get (i := 4) rfl)).1
        have d9 := (cellsOf (show wr.heap[b8 + 1]? = _ from HR.out.get (i := 3) rfl)).1
        simp only [rfG] at d9
        obtain ⟨_, f10⟩ := (cellsOf (show wr.heap[b8 + 1 + 1]? = _ from HR.out.get (i := 2) rfl))
        go_wp2_with fail
        obtain ⟨b15, hb15⟩ : ∃ q, q = wr.heap.size := ⟨_, rfl⟩
        obtain ⟨w5, hw5⟩ : ∃ y, y = ((wr.setCell ⟨b8 + 1 + 1, 0, none⟩ (.int .i64 501)).setCell ⟨b8 + 1 + 1, 5, none⟩ (.int .i64 20)).alloc (boxF rfG) := ⟨_, rfl⟩
        have HS5 : Hid (SW w [ixA b X1 S5, blkA b15 (boxF rfG), blkA g (.cells (chV b8).toArray 82), blkA (b8 + 1 + 1) (boxF rfT), blkA (b8 + 1) (boxF rfG), blkA b8 (.cells #[.int .i64 m] 3)] w5) := Lib.hid (by
          have h1 := HR.out.at (i := 2) rfl (((Mdh.refl (fun k => k = b8 + 1 + 1) wr).setCell (p := ⟨b8 + 1 + 1, 0, none⟩) rfl (.int .i64 501)).setCell (p := ⟨b8 + 1 + 1, 5, none⟩) rfl (.int .i64 20)) (fun k hk => .inl hk) (B := blkA (b8 + 1 + 1) (boxF rfT)) (blkSet (j := 5) (blkSet (j := 0) (HR.out.get (i := 2) rfl))) (fun k hk => .inl hk)
          have h2 := h1.allocT (boxF rfG)
          rw [hw5, hb15]
          simpa using h2)
        simp only [rfG] at hw5
        rw [show wr.heap.size = b15 from hb15.symm]
        rw [← hw5]
        clear hw5 hb15 HR d8 d9 f10
        have d8 := (cellsOf (show w5.heap[b8]? = _ from HS5.out.get (i := 5) rfl)).1
        have l8 := blkLt (show w5.heap[b8]? = _ from HS5.out.get (i := 5) rfl)
        have K15 := Lib.hid (show w5.heap[b15]? = _ from HS5.out.get (i := 1) rfl)
        obtain ⟨_, f15⟩ := cellsOf K15.out
        have l15 := blkLt K15.out
        have hne : ¬ b8 = b15 := fun h => (HS5.out.get_ne (i := 5) (j := 1) rfl rfl (by decide)) b8 rfl h
        have HG := Gr.refl w5.drew
        refine wp_region_flo (fun k => k = b15) [] [] (by kernel_rfl) (by kernel_rfl) (fun k hk => by subst hk; exact l15) ?_
        refine flo_seg 4 rfl ?_
        simp only [List.take_succ_cons, List.take_zero, List.drop_succ_cons, List.drop_zero]
        repeat (go_big_quiet_step (fail))
        refine wpQuiet_nil ?_
        refine flo_eff rfl rfl rfl rfl (fun K hK => ?_)
        go_wp2
        refine ⟨by (first | (refine Gr.mdh ?_ _; (repeat (first | (with_reducible exact Gr.refl _) | assumption | (with_reducible apply Gr.from_drew) | (with_reducible apply Gr.alloc) | (with_reducible apply Gr.drew) | (with_reducible refine Gr.trans ?_ (by assumption)) | (with_reducible refine Gr.setCell ?_ (by omega) _))); done) | (repeat (first | (with_reducible exact Mdh.refl _ _) | (with_reducible refine Mdh.setCell ?_ (by simp) _) | (with_reducible refine Mdh.setNew ?_ (by simp) _) | (with_reducible apply Mdh.alloc) | (with_reducible apply Mdh.from_drew) | (with_reducible apply Mdh.drew) | (with_reducible refine Mdh.gr ?_ (by assumption))))), ?_⟩
        refine flo_seg 1 rfl ?_
        simp only [List.take_succ_cons, List.take_zero, List.drop_succ_cons, List.drop_zero]
        repeat (go_big_quiet_step (fail))
        refine wpQuiet_nil ?_
        refine flo_eff rfl rfl rfl rfl (fun K hK => ?_)
        go_wp2
        refine ⟨by (first | (refine Gr.mdh ?_ _; (repeat (first | (with_reducible exact Gr.refl _) | assumption | (with_reducible apply Gr.from_drew) | (with_reducible apply Gr.alloc) | (with_reducible apply Gr.drew) | (with_reducible refine Gr.trans ?_ (by assumption)) | (with_reducible refine Gr.setCell ?_ (by omega) _))); done) | (repeat (first | (with_reducible exact Mdh.refl _ _) | (with_reducible refine Mdh.setCell ?_ (by simp) _) | (with_reducible refine Mdh.setNew ?_ (by simp) _) | (with_reducible apply Mdh.alloc) | (with_reducible apply Mdh.from_drew) | (with_reducible apply Mdh.drew) | (with_reducible refine Mdh.gr ?_ (by assumption))))), ?_⟩
        refine flo_nil ?_
        obtain ⟨w6, hw6⟩ : ∃ y, y = ((w5.setCell ⟨b15, 0, none⟩ (.int .i64 502)).setCell ⟨b15, 4, none⟩ (.int .i64 (8000 + m % 30))).drew := ⟨_, rfl⟩
        have HS6 : Hid (SW w [ixA b X1 S5, blkA b15 (boxF (rfO m)), blkA g (.cells (chV b8).toArray 82), blkA (b8 + 1 + 1) (boxF rfT), blkA (b8 + 1) (boxF rfG), blkA b8 (.cells #[.int .i64 m] 3)] w6) := Lib.hid (by
          rw [hw6]
          exact (HS5.out.at (i := 1) rfl (((Mdh.refl (fun k => k = b15) w5).setCell (p := ⟨b15, 0, none⟩) rfl (.int .i64 502)).setCell (p := ⟨b15, 4, none⟩) rfl (.int .i64 (8000 + m % 30))) (fun k hk => .inl hk) (B := blkA b15 (boxF (rfO m))) (blkSet (j := 4) (blkSet (j := 0) K15.out)) (fun k hk => .inl hk)).gr (Gr.refl _).drew)
        rw [← hw6]
        clear hw6 d8 l8 K15 f15 l15 hne HG HS5
        have d8 := (cellsOf (show w6.heap[b8]? = _ from HS6.out.get (i := 5) rfl)).1
        have l8 := blkLt (show w6.heap[b8]? = _ from HS6.out.get (i := 5) rfl)
        have d9 := (cellsOf (show w6.heap[b8 + 1]? = _ from HS6.out.get (i := 4) rfl)).1
        simp only [rfG] at d9
        go_wp2_with fail
        obtain ⟨b16, hb16⟩ : ∃ q, q = w6.heap.size := ⟨_, rfl⟩
        obtain ⟨w7, hw7⟩ : ∃ y, y = w6.alloc (boxF rfA) := ⟨_, rfl⟩
        have HS7 : Hid (SW w [ixA b X1 S5, blkA b16 (boxF rfA), blkA b15 (boxF (rfO m)), blkA g (.cells (chV b8).toArray 82), blkA (b8 + 1 + 1) (boxF rfT), blkA (b8 + 1) (boxF rfG), blkA b8 (.cells #[.int .i64 m] 3)] w7) := Lib.hid (by rw [hw7, hb16]; exact HS6.out.allocT _)
        simp only [rfA] at hw7
        rw [← hw7, ← hb16]
        clear hw7 hb16 d8 l8 d9 HS6
        refine (Drop_any HS7.out.ix (5 + m)).mono ?_
        rintro e w8 ⟨rfl, hp⟩
        have HD1 : Hid (dropC X1 (5 + m) = 3 ∧ dropX X1 (5 + m) = X1) := Lib.hid ⟨if_neg (by rw [HX.out.2.1.no (.inr (by omega))]; decide), drop_no (HX.out.2.1.no (.inr (by omega)))⟩
        rw [HD1.out.2] at hp
        obtain ⟨S8, hs⟩ := HS7.out.post hp
        have HS8 := Lib.hid hs
        rw [HD1.out.1]
        have d8 := (cellsOf (show w8.heap[b8]? = _ from HS8.out.get (i := 6) rfl)).1
        clear hs hp HS7
        go_wp2_with fail
        refine (Drop_any HS8.out.ix (-1 - m)).mono ?_
        rintro e w9 ⟨rfl, hp⟩
        have HD2 : Hid (dropC X1 (-1 - m) = 3 ∧ dropX X1 (-1 - m) = X1) := Lib.hid ⟨if_neg (by rw [HX.out.2.1.no (.inl (by omega))]; decide), drop_no (HX.out.2.1.no (.inl (by omega)))⟩
        rw [HD2.out.2] at hp
        obtain ⟨S9, hs⟩ := HS8.out.post hp
        have HS9 := Lib.hid hs
        rw [HD2.out.1]
        clear hs hp HS8 d8
        have d8 := (cellsOf (show w9.heap[b8]? = _ from HS9.out.get (i := 6) rfl)).1
        go_wp2_with fail
        refine (new_bad (33 + m) (.inr (by omega)) _).mono ?_
        rintro e w10 ⟨rfl, rfl⟩
        go_wp2_with fail
        refine (new_bad (-m) (.inl (by omega)) _).mono ?_
        rintro e w10 ⟨rfl, rfl⟩
        have d10 := (cellsOf (show w9.heap[b8 + 1 + 1]? = _ from HS9.out.get (i := 4) rfl)).1
        simp only [rfT] at d10
        go_wp2_with fail
        refine (Add_any HS9.out.ix rfT low_new (by unfold En64; decide)).mono ?_
        rintro e w10 ⟨rfl, hp⟩
        rw [addX_no (by rw [rf_T HX.out.2.1]; decide)] at hp
        obtain ⟨S10, hs⟩ := HS9.out.post hp
        have HS10 := Lib.hid hs
        rw [rf_T HX.out.2.1]
        clear hs hp HS9 d8 d10
        have d15 := (cellsOf (show w10.heap[b15]? = _ from HS10.out.get (i := 2) rfl)).1
        simp only [rfO] at d15
        go_wp2_with fail
        refine (Add_any HS10.out.ix (rfO m) low_new (by show (30 : Int) ≤ 9223372036854775807 ∧ -9223372036854775808 ≤ (30 : Int) ∧ (3 : Nat) ≤ 140737488351232; decide)).mono ?_
        rintro e w11 ⟨rfl, hp⟩
        rw [addX_no (by rw [rf_O HX.out.2.1 m hm0]; decide)] at hp
        obtain ⟨S11, hs⟩ := HS10.out.post hp
        have HS11 := Lib.hid hs
        rw [rf_O HX.out.2.1 m hm0]
        clear hs hp HS10 d15
        have d16 := (cellsOf (show w11.heap[b16]? = _ from HS11.out.get (i := 1) rfl)).1
        simp only [rfA] at d16
        go_wp2_with fail
        refine (Add_any HS11.out.ix rfA low_new (by unfold En64; decide)).mono ?_
        rintro e w12 ⟨rfl, hp⟩
        rw [addX_no (by rw [rf_A HX.out.2.1]; decide)] at hp
        obtain ⟨S12, hs⟩ := HS11.out.post hp
        have HS12 := Lib.hid hs
        rw [rf_A HX.out.2.1]
        clear hs hp HS11 d16
        go_wp2_with fail
        refine (Len_any HS12.out.ixp).mono ?_
        rintro e w13 ⟨rfl, rfl⟩
        rw [HX.out.2.2]
        have halen : all.length ≤ 16384 := by rw [HF.out.pm.length_eq]; exact HF.out.wf.ents_le
        clear hlt hlt' hj
        obtain ⟨n7, hn7⟩ : ∃ n7 : Nat, n7 = all.length := ⟨_, rfl⟩
        rw [← hn7]
        have hn8 : n7 ≤ 16384 := by omega
        clear hn7 halen
        have HEQ : ((n7 : Int) + 1 == (n7 : Int) + 1) = true := beq_self_eq_true _
        go_wp2_with fail
        refine (ix_works _).mono ?_
        rintro e w13 ⟨rfl, hg⟩
        have HG := Lib.hid (HS12.out.g.trans hg)
        clear hg
        go_wp2
        go_ret
        exact ⟨rfl, HG.out⟩
end Go.Proofs.Ytiidkehcfoajeaa
