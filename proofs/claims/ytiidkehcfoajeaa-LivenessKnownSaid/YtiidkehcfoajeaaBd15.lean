/- LivenessKnown. -/
import Derived.Test.YtiidkehcfoajeaaBd14
set_option linter.unusedVariables false
set_option linter.unusedSimpArgs false
namespace Go.Proofs.Ytiidkehcfoajeaa
open Go.RowKit Go.Shelf
attribute [local go_sem] OvM cell_ovm obj_ovm
attribute [local go_sem] Oper.semAt_some

def lk1 : En := ⟨2, ⟨#[97]⟩, true, 0, 20, 17⟩
def lk3 : En := ⟨4, ⟨#[99]⟩, true, 0, 60, 17⟩
def lk4 : En := ⟨5, ⟨#[98]⟩, true, 1, 0, 17⟩
def lk5 : En := ⟨6, ⟨#[99]⟩, true, 1, 20, 17⟩
def lkL : List En := [⟨1, ⟨#[97]⟩, false, 0, 0, 19⟩, lk1, ⟨3, ⟨#[98]⟩, false, 0, 40, 19⟩, lk3, lk4, lk5]
theorem lk_add : AllAdd lkL (ixNew 2) (stAdd lkL (ixNew 2)) := ⟨rfl, by
  intro j x h
  refine (fun (a : addE (stAdd lkL (ixNew 2) j) x = 0 ∧ Low x.key ∧ En64 x) => ⟨a.1, stAdd_next _ _ j x h, a.2⟩) ?_
  match j, h with
  | 0, h => cases h; exact ⟨by kernel_rfl, low_b rfl (by decide), by unfold En64; decide⟩
  | 1, h => cases h; exact ⟨by kernel_rfl, low_b rfl (by decide), by unfold En64; decide⟩
  | 2, h => cases h; exact ⟨by kernel_rfl, low_b rfl (by decide), by unfold En64; decide⟩
  | 3, h => cases h; exact ⟨by kernel_rfl, low_b rfl (by decide), by unfold En64; decide⟩
  | 4, h => cases h; exact ⟨by kernel_rfl, low_b rfl (by decide), by unfold En64; decide⟩
  | 5, h => cases h; exact ⟨by kernel_rfl, low_b rfl (by decide), by unfold En64; decide⟩
  | _ + 6, h => cases h⟩
def lkX : IX := stAdd lkL (ixNew 2) 6
def lkX1 : IX := dropX lkX 0
theorem lk_r : retL lkX lkX.slots.length = [lk1, lk3] := by kernel_rfl
theorem lk_s : (if lkX.slots = [] then (1 : Int) else 0) = 0 := by kernel_rfl
theorem lk_k0 : keptB lkX 0 [] = true := by kernel_rfl
theorem lk_k1 : keptB lkX 1 [lk4, lk5] = true := by kernel_rfl
theorem lk_r1 : retL lkX1 lkX1.slots.length = [lk4, lk5] := by kernel_rfl
theorem lk_s1 : (if lkX1.slots = [] then (1 : Int) else 0) = 0 := by kernel_rfl
theorem lk_k2 : keptB lkX1 1 [] = true := by kernel_rfl
set_option maxRecDepth 40000 in
set_option maxHeartbeats 8000000 in
theorem LivenessKnown_any (w : World) : Calls Try.prog 13 #[] w fun e w' => e = .returned (.bool true) ∧ Gr w w' := by
  have HST := Lib.hid lk_add.s
  go_enter Try.func13, Try.ntmps13
  go_wp2_with fail
  refine (New_any 2 w (by decide) (by decide)).mono ?_
  rintro e w1 ⟨b, S, rfl, h1, h2, h3⟩
  have HS1 : Hid (SW w [ixA b (stAdd lkL (ixNew 2) 0) S] w1) := Lib.hid ((SW.start w).ixnew h1 h2 h3)
  have HG := Gr.refl w1
  clear h1 h2 h3
  go_wp2_with (first
    | (go_at_call 75; refine (put_any _ _ _ _ 19 (by decide) (by decide) _).mono ?_; rintro e w2 ⟨rfl, hg⟩; replace HG := HG.trans hg; clear hg)
    | (go_at_call 76; refine (del_any _ _ _ _ 17 (by decide) (by decide) _).mono ?_; rintro e w2 ⟨rfl, hg⟩; replace HG := HG.trans hg; clear hg)
    | fail)
  obtain ⟨g, hg⟩ : ∃ q, q = w2.heap.size := ⟨_, rfl⟩
  obtain ⟨w3, hw3⟩ : ∃ y, y = w2.alloc (.cells (rowE lkL).toArray 23) := ⟨_, rfl⟩
  have HS3 : Hid (SW w [ixA b (stAdd lkL (ixNew 2) 0) S, blkA g (.cells (rowE lkL).toArray 23)] w3) := Lib.hid (by rw [hw3, hg]; exact (HS1.out.gr HG).allocT _)
  simp only [rowE, lkL, lk1, lk3, lk4, lk5, enC, List.flatMap_cons, List.flatMap_nil, List.cons_append, List.nil_append, List.append_nil] at hw3
  rw [← hw3, ← hg]
  clear hw3 hg HG
  go_loopw [4] (fun t4 wx => ∃ (j : Nat) (S : Nat → Prop), j ≤ 6 ∧ t4 = .int .i64 j ∧ Hid (SW w [ixA b (stAdd lkL (ixNew 2) j) S, blkA g (.cells (rowE lkL).toArray 23)] wx)) (fun t4 _ => 6 - (intOf t4).toNat)
  case atStart => exact ⟨0, S, by omega, rfl, HS3⟩
  case round =>
    obtain ⟨j, S, hj, rfl, HR⟩ := hrel
    by_cases hlt : j < 6
    · have hlt' : (j : Int) < 6 := by omega
      obtain ⟨x, hx⟩ : ∃ x, lkL[j]? = some x := ⟨_, List.getElem?_eq_getElem (show j < 6 from hlt)⟩
      have HX := Lib.hid (HST.out j x hx)
      have cc := (cellsOf (show wr.heap[g]? = _ from HR.out.get (i := 1) rfl)).1
      have hr : ∀ c u, (enC x)[c]? = some u → wr.cell? ⟨g, j * 6 + c, none⟩ = some u := fun c u hu => (cc _).trans (by rw [List.getElem?_toArray]; exact rowE_get lkL j x hx c u hu)
      have d0 := hr 0 _ rfl
      have d1 := hr 1 _ rfl
      have d2 := hr 2 _ rfl
      have d3 := hr 3 _ rfl
      have d4 := hr 4 _ rfl
      have d5 := hr 5 _ rfl
      simp only [Nat.add_zero] at d0 d1 d2 d3 d4 d5
      clear hr cc hx
      generalize hst : stAdd lkL (ixNew 2) (j + 1) = Y1 at HX
      have HY := Lib.hid hst
      clear hst
      go_wp2_with (go_at_call 40; refine (Add_any HR.out.ix x HX.out.2.2.1 HX.out.2.2.2).mono ?_; rintro e w4 ⟨rfl, hp⟩; rw [HX.out.1]; have HP := Lib.hid hp; clear hp)
      obtain ⟨S', hI⟩ := HR.out.post HP.out
      go_roundw
      case rel => exact ⟨j + 1, S', by omega, by go_num, Lib.hid (by rw [HY.out, HX.out.2.1]; exact hI)⟩
      case measure => simp [intOf]; omega
    · have hlt' : ¬ (j : Int) < 6 := by omega
      obtain rfl : j = 6 := by omega
      have HR0 : Hid (SW w [ixA b lkX S, blkA g (.cells (rowE lkL).toArray 23)] wr) := Lib.hid HR.out
      clear HR HST HS3
      go_wp2_with fail
      refine (Retired_any HR0.out.ixp).mono ?_
      rintro e w4 ⟨v, rfl, hr, hg⟩
      rw [lk_s]
      rw [lk_r] at hr
      obtain ⟨a, cap, rfl, _, _, hat⟩ := ownE_at hr.own
      have HR4 := Lib.hid (HR0.out.gr hg)
      obtain ⟨g2, rfl, z1, z2, hc0⟩ := hat 0 lk1 rfl
      obtain ⟨g2', hge, z3, z4, hc1⟩ := hat 1 lk3 rfl
      obtain rfl : g2 = g2' := by simpa using hge
      have e0 := hc0 0 _ rfl
      have e1 := hc0 1 _ rfl
      have e2 := hc0 2 _ rfl
      have e3 := hc0 3 _ rfl
      have e4 := hc0 4 _ rfl
      have e5 := hc0 5 _ rfl
      have f0 := hc1 0 _ rfl
      have f1 := hc1 1 _ rfl
      have f2 := hc1 2 _ rfl
      have f3 := hc1 3 _ rfl
      have f4 := hc1 4 _ rfl
      have f5 := hc1 5 _ rfl
      simp only [lk1, lk3, Nat.zero_mul, Nat.one_mul, Nat.zero_add, Nat.add_zero, Nat.reduceAdd, Nat.reduceMul] at e0 e1 e2 e3 e4 e5 f0 f1 f2 f3 f4 f5
      have dg := (cellsOf (show w4.heap[g]? = _ from HR4.out.get (i := 1) rfl)).1
      simp only [rowE, lkL, lk1, lk3, lk4, lk5, enC, List.flatMap_cons, List.flatMap_nil, List.cons_append, List.nil_append, List.append_nil] at dg
      have k1 := neqE_run lk1 lk1
      have k3 := neqE_run lk3 lk3
      simp only [lk1, lk3, decide_true, Bool.not_true] at k1 k3
      simp only [List.length_cons, List.length_nil, Nat.reduceAdd]
      clear hr hg hat z1 z2 z3 z4 hc0 hc1 hge
      go_wp2_with fail
      have HG := Gr.refl w4.drew
      refine wp_region_flo (fun _ => False) [] [] (by kernel_rfl) (by kernel_rfl) (fun _ h => h.elim) ?_
      (try simp only [List.append_eq, List.cons_append, List.nil_append])
      refine flo_seg 27 rfl ?_
      simp only [List.take_succ_cons, List.take_zero, List.drop_succ_cons, List.drop_zero]
      repeat (go_big_quiet_step (fail))
      refine wpQuiet_nil ?_
      refine flo_eff rfl rfl rfl rfl (fun K hK => ?_)
      go_wp2_with ((go_at_call 77; refine (kept_any (HR4.out.gr (Gr.refl _).drew).ixp 0 [] _ (own_nilE _) (by decide) (fun e he ↦ by cases he)).mono ?_; rintro e w5 ⟨rfl, hg⟩; rw [lk_k0]; have HG5 := Lib.hid hg; clear hg))
      refine ⟨by exact HG5.out.mdh _, ?_⟩
      refine flo_seg 10 rfl ?_
      simp only [List.take_succ_cons, List.take_zero, List.drop_succ_cons, List.drop_zero]
      repeat (go_big_quiet_step (fail))
      refine wpQuiet_nil ?_
      refine flo_eff rfl rfl rfl rfl (fun K hK => ?_)
      go_wp2
      refine ⟨by (first | (refine Gr.mdh ?_ _; (repeat (first | (with_reducible exact Gr.refl _) | assumption | (with_reducible apply Gr.from_drew) | (with_reducible apply Gr.alloc) | (with_reducible apply Gr.drew) | (with_reducible refine Gr.trans ?_ (by assumption)) | (with_reducible refine Gr.setCell ?_ (by omega) _))); done) | (repeat (first | (with_reducible exact Mdh.refl _ _) | (with_reducible refine Mdh.setCell ?_ (by simp) _) | (with_reducible refine Mdh.setNew ?_ (by simp) _) | (with_reducible apply Mdh.alloc) | (with_reducible apply Mdh.from_drew) | (with_reducible apply Mdh.drew) | (with_reducible refine Mdh.gr ?_ (by assumption))))), ?_⟩
      refine flo_eff rfl rfl rfl rfl (fun K hK => ?_)
      go_wp2_with ((go_at_call 77; refine (kept_any (((HR4.out.gr (Gr.refl _).drew).gr HG5.out).gr ((Gr.refl _).alloc _)).ixp 1 [lk4, lk5] _ (own_lit w5 _ 6 2 (rowE [lk4, lk5]) rfl (by decide)) (by decide) (fun e he ↦ by simp at he; rcases he with rfl | rfl <;> decide)).mono ?_; rintro e w6 ⟨rfl, hg⟩; rw [lk_k1]; have HG6 := Lib.hid hg; clear hg))
      refine ⟨by exact HG6.out.mdh _, ?_⟩
      refine flo_seg 2 rfl ?_
      simp only [List.take_succ_cons, List.take_zero, List.drop_succ_cons, List.drop_zero]
      repeat (go_big_quiet_step (fail))
      refine wpQuiet_nil ?_
      refine flo_nil ?_
      have H6 := Lib.hid (((HR4.out.gr (Gr.refl _).drew).gr HG5.out).gr (((Gr.refl _).alloc _).trans HG6.out))
      clear dg e0 e1 e2 e3 e4 e5 f0 f1 f2 f3 f4 f5 k1 k3
      go_wp2_with fail
      refine (Drop_any H6.out.ix 0).mono ?_
      rintro e w7 ⟨rfl, hp⟩
      obtain ⟨S7, hs⟩ := H6.out.post hp
      have H7 : Hid (SW w (ixA b lkX1 S7 :: _) w7) := Lib.hid hs
      clear hs hp
      go_wp2_with fail
      refine (Retired_any H7.out.ixp).mono ?_
      rintro e w8 ⟨v, rfl, hr, hg⟩
      rw [lk_s1]
      rw [lk_r1] at hr
      obtain ⟨a, cap, rfl, _⟩ := ownE_at hr.own
      simp only [List.length_cons, List.length_nil, Nat.reduceAdd]
      have H8 := Lib.hid (H7.out.gr hg)
      clear hr hg
      go_wp2_with fail
      refine (kept_any H8.out.ixp 1 [] _ (own_nilE _) (by decide) (fun e he => by cases he)).mono ?_
      rintro e w9 ⟨rfl, hg⟩
      rw [lk_k2]
      have H9 := Lib.hid (H8.out.gr hg)
      clear hg
      go_wp2_with fail
      refine (lv_works _).mono ?_
      rintro e w10 ⟨rfl, hg⟩
      have H10 := Lib.hid (H9.out.g.trans hg)
      clear hg
      go_wp2
      go_ret
      exact ⟨rfl, H10.out⟩
end Go.Proofs.Ytiidkehcfoajeaa
