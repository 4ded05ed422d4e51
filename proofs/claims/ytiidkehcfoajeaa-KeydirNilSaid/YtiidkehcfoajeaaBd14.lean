/- drumlinlaw24: the examples of the chapter. -/
import Derived.Test.YtiidkehcfoajeaaBd13
set_option linter.unusedVariables false
set_option linter.unusedSimpArgs false
namespace Go.Proofs.Ytiidkehcfoajeaa
open Go.RowKit Go.Shelf
attribute [local go_sem] OvM cell_ovm obj_ovm
attribute [local go_sem] Oper.semAt_some

theorem low_b {k : ByteArray} {c : UInt8} (h : k = ⟨#[c]⟩) (hc : c.toNat < 128) : Low k := by
  subst h
  intro j hj
  have h1 : j < 1 := hj
  have h0 : j = 0 := by omega
  subst h0
  exact hc
/-- Adding entries, all of which are taken. -/
structure AllAdd (l : List En) (X0 : IX) (St : Nat → IX) : Prop where
  z : St 0 = X0
  s : ∀ j x, l[j]? = some x → addE (St j) x = 0 ∧ St (j + 1) = addX (St j) x ∧ Low x.key ∧ En64 x
def stAdd (l : List En) (X0 : IX) (j : Nat) : IX := (l.take j).foldl addX X0
theorem stAdd_next (l : List En) (X0 : IX) (j : Nat) (x : En) (h : l[j]? = some x) : stAdd l X0 (j + 1) = addX (stAdd l X0 j) x := by
  unfold stAdd
  rw [List.take_add_one, h, List.foldl_append]
  rfl
def lvD : En := ⟨3, ⟨#[107]⟩, true, 1, 0, 17⟩
def lvM : En := ⟨4, ⟨#[109]⟩, false, 1, 20, 19⟩
def lvL : List En := [⟨1, ⟨#[107]⟩, false, 0, 0, 19⟩, ⟨2, ⟨#[109]⟩, false, 0, 20, 19⟩, lvD, lvM, ⟨4, ⟨#[109]⟩, false, 2, 0, 19⟩]
theorem lv_add : AllAdd lvL (ixNew 3) (stAdd lvL (ixNew 3)) := ⟨rfl, by
  intro j x h
  refine (fun (a : addE (stAdd lvL (ixNew 3) j) x = 0 ∧ Low x.key ∧ En64 x) => ⟨a.1, stAdd_next _ _ j x h, a.2⟩) ?_
  match j, h with
  | 0, h => cases h; exact ⟨by kernel_rfl, low_b rfl (by decide), by unfold En64; decide⟩
  | 1, h => cases h; exact ⟨by kernel_rfl, low_b rfl (by decide), by unfold En64; decide⟩
  | 2, h => cases h; exact ⟨by kernel_rfl, low_b rfl (by decide), by unfold En64; decide⟩
  | 3, h => cases h; exact ⟨by kernel_rfl, low_b rfl (by decide), by unfold En64; decide⟩
  | 4, h => cases h; exact ⟨by kernel_rfl, low_b rfl (by decide), by unfold En64; decide⟩
  | _ + 5, h => cases h⟩
def lvX : IX := stAdd lvL (ixNew 3) 5
def lvX1 : IX := dropX lvX 0
def lvX2 : IX := dropX lvX1 2
theorem lv_k0 : keptB lvX 0 [] = true := by kernel_rfl
theorem lv_k1 : keptB lvX 1 [lvD] = true := by kernel_rfl
theorem lv_k2 : keptB lvX 2 [] = true := by kernel_rfl
theorem lv_n1 : neededV lvX ⟨3, ⟨#[107]⟩, true, 1, 1, 17⟩ = .tuple #[.bool false, .int .i64 5] := by kernel_rfl
theorem lv_n2 : neededV lvX lvD = .tuple #[.bool true, .int .i64 0] := by kernel_rfl
theorem lv_d1 : (lvX.slot 0).length = 2 ∧ dropC lvX 0 = 0 := ⟨by kernel_rfl, by kernel_rfl⟩
theorem lv_k3 : keptB lvX1 1 [] = true := by kernel_rfl
theorem lv_r : retL lvX1 lvX1.slots.length = [lvD] := by kernel_rfl
theorem lv_s : (if lvX1.slots = [] then (1 : Int) else 0) = 0 := by kernel_rfl
theorem lv_d2 : (lvX1.slot 2).length = 1 ∧ dropC lvX1 2 = 0 := ⟨by kernel_rfl, by kernel_rfl⟩
theorem lv_k4 : keptB lvX2 1 [lvM] = true := by kernel_rfl
set_option maxRecDepth 40000 in
set_option maxHeartbeats 4000000 in
theorem lv_example (w : World) : Calls Try.prog 123 #[] w fun e w' => ∃ b S, e = .returned (.pointer (some ⟨b, 0, none⟩)) ∧ SW w [ixA b lvX S] w' := by
  have HST := Lib.hid lv_add.s
  go_enter Try.func123, Try.ntmps123
  go_wp2_with fail
  refine (New_any 3 w (by decide) (by decide)).mono ?_
  rintro e w1 ⟨b, S, rfl, h1, h2, h3⟩
  have HS1 : Hid (SW w [ixA b (stAdd lvL (ixNew 3) 0) S] w1) := Lib.hid ((SW.start w).ixnew h1 h2 h3)
  have HG := Gr.refl w1
  clear h1 h2 h3
  go_wp2_with (first
    | (go_at_call 75; refine (put_any _ _ _ _ 19 (by decide) (by decide) _).mono ?_; rintro e w2 ⟨rfl, hg⟩; replace HG := HG.trans hg; clear hg)
    | (go_at_call 76; refine (del_any _ _ _ _ 17 (by decide) (by decide) _).mono ?_; rintro e w2 ⟨rfl, hg⟩; replace HG := HG.trans hg; clear hg)
    | fail)
  obtain ⟨g, hg⟩ : ∃ q, q = w2.heap.size := ⟨_, rfl⟩
  obtain ⟨w3, hw3⟩ : ∃ y, y = w2.alloc (.cells (rowE lvL).toArray 23) := ⟨_, rfl⟩
  have HS3 : Hid (SW w [ixA b (stAdd lvL (ixNew 3) 0) S, blkA g (.cells (rowE lvL).toArray 23)] w3) := Lib.hid (by rw [hw3, hg]; exact (HS1.out.gr HG).allocT _)
  simp only [rowE, lvL, lvD, lvM, enC, List.flatMap_cons, List.flatMap_nil, List.cons_append, List.nil_append, List.append_nil] at hw3
  rw [← hw3, ← hg]
  clear hw3 hg HG
  go_loopw [4] (fun t4 wx => ∃ (j : Nat) (S : Nat → Prop), j ≤ 5 ∧ t4 = .int .i64 j ∧ Hid (SW w [ixA b (stAdd lvL (ixNew 3) j) S, blkA g (.cells (rowE lvL).toArray 23)] wx)) (fun t4 _ => 5 - (intOf t4).toNat)
  case atStart => exact ⟨0, S, by omega, rfl, HS3⟩
  case round =>
    obtain ⟨j, S, hj, rfl, HR⟩ := hrel
    by_cases hlt : j < 5
    · have hlt' : (j : Int) < 5 := by omega
      obtain ⟨x, hx⟩ : ∃ x, lvL[j]? = some x := ⟨_, List.getElem?_eq_getElem (show j < 5 from hlt)⟩
      have HX := Lib.hid (HST.out j x hx)
      have cc := (cellsOf (show wr.heap[g]? = _ from HR.out.get (i := 1) rfl)).1
      have hr : ∀ c u, (enC x)[c]? = some u → wr.cell? ⟨g, j * 6 + c, none⟩ = some u := fun c u hu => (cc _).trans (by rw [List.getElem?_toArray]; exact rowE_get lvL j x hx c u hu)
      have d0 := hr 0 _ rfl
      have d1 := hr 1 _ rfl
      have d2 := hr 2 _ rfl
      have d3 := hr 3 _ rfl
      have d4 := hr 4 _ rfl
      have d5 := hr 5 _ rfl
      simp only [Nat.add_zero] at d0 d1 d2 d3 d4 d5
      clear hr cc hx
      generalize hst : stAdd lvL (ixNew 3) (j + 1) = Y1 at HX
      have HY := Lib.hid hst
      clear hst
      go_wp2_with (go_at_call 40; refine (Add_any HR.out.ix x HX.out.2.2.1 HX.out.2.2.2).mono ?_; rintro e w4 ⟨rfl, hp⟩; rw [HX.out.1]; have HP := Lib.hid hp; clear hp)
      obtain ⟨S', hI⟩ := HR.out.post HP.out
      go_roundw
      case rel => exact ⟨j + 1, S', by omega, by go_num, Lib.hid (by rw [HY.out, HX.out.2.1]; exact hI)⟩
      case measure => simp [intOf]; omega
    · have hlt' : ¬ (j : Int) < 5 := by omega
      obtain rfl : j = 5 := by omega
      go_wp2
      go_ret
      exact ⟨b, rfl, S, HR.out.sub (.cons_cons _ (List.nil_sublist _))⟩
theorem own_nilE (w : World) : Own w 23 6 (.slice none 0 0) ([] : List En).length (rowE []) := nilRow w _ _
set_option maxRecDepth 40000 in
set_option maxHeartbeats 8000000 in
theorem lv_works (w : World) : Calls Try.prog 74 #[] w fun e w' => e = .returned (.bool true) ∧ Gr w w' := by
  go_enter Try.func74, Try.ntmps74
  go_wp2_with fail
  refine (lv_example w).mono ?_
  rintro e w1 ⟨b, S, rfl, hs⟩
  have H1 := Lib.hid hs
  clear hs
  go_wp2_with fail
  refine (kept_any H1.out.ixp 0 [] _ (own_nilE _) (by decide) (fun e he => by cases he)).mono ?_
  rintro e w2 ⟨rfl, hg⟩
  rw [lv_k0]
  have H2 := Lib.hid (H1.out.gr hg)
  clear hg
  go_wp2_with (go_at_call 76; refine (del_any _ _ _ _ 17 (by decide) (by decide) _).mono ?_; rintro e w3 ⟨rfl, hg⟩; have H3 := Lib.hid (H2.out.gr hg); clear hg)
  refine (kept_any (H3.out.gr ((Gr.refl _).alloc _)).ixp 1 [lvD] _ (own_lit w3 _ 6 1 (rowE [lvD]) rfl (by decide)) (by decide) (fun e he => by rw [List.mem_singleton.1 he]; decide)).mono ?_
  rintro e w4 ⟨rfl, hg⟩
  rw [lv_k1]
  have H4 := Lib.hid ((H3.out.gr ((Gr.refl _).alloc _)).gr hg)
  clear hg
  go_wp2_with fail
  refine (kept_any H4.out.ixp 2 [] _ (own_nilE _) (by decide) (fun e he => by cases he)).mono ?_
  rintro e w5 ⟨rfl, hg⟩
  rw [lv_k2]
  have H5 := Lib.hid (H4.out.gr hg)
  clear hg
  go_wp2_with (go_at_call 76; refine (del_any _ _ _ _ 17 (by decide) (by decide) _).mono ?_; rintro e w6 ⟨rfl, hg⟩; have H6 := Lib.hid (H5.out.gr hg); clear hg)
  refine (Needed_any H6.out.ixp ⟨3, ⟨#[107]⟩, true, 1, 1, 17⟩).mono ?_
  rintro e w7 ⟨rfl, hg⟩
  rw [lv_n1]
  have H7 := Lib.hid (H6.out.gr hg)
  clear hg
  go_wp2_with (go_at_call 76; refine (del_any _ _ _ _ 17 (by decide) (by decide) _).mono ?_; rintro e w8 ⟨rfl, hg⟩; have H8 := Lib.hid (H7.out.gr hg); clear hg)
  refine (Needed_any H8.out.ixp lvD).mono ?_
  rintro e w9 ⟨rfl, hg⟩
  rw [lv_n2]
  have H9 := Lib.hid (H8.out.gr hg)
  clear hg
  go_wp2_with fail
  refine (Drop_any H9.out.ix 0).mono ?_
  rintro e w10 ⟨rfl, hp⟩
  rw [lv_d1.1, lv_d1.2]
  obtain ⟨S10, hs⟩ := H9.out.post hp
  have H10 : Hid (SW w [ixA b lvX1 S10] w10) := Lib.hid hs
  clear hs hp
  go_wp2_with fail
  refine (Retired_any H10.out.ixp).mono ?_
  rintro e w11 ⟨v, rfl, hr, hg⟩
  rw [lv_s]
  rw [lv_r] at hr
  have HO := Lib.hid hr.own
  obtain ⟨a, cap, rfl, _⟩ := ownE_at hr.own
  have H11 := Lib.hid (H10.out.gr hg)
  clear hr hg
  go_wp2_with fail
  refine (kept_any H11.out.ixp 1 [] _ (own_nilE _) (by decide) (fun e he => by cases he)).mono ?_
  rintro e w12 ⟨rfl, hg⟩
  rw [lv_k3]
  have H12 := Lib.hid (H11.out.gr hg)
  have HO12 := Lib.hid (HO.out.gr hg)
  clear hg
  go_wp2_with (go_at_call 76; refine (del_any _ _ _ _ 17 (by decide) (by decide) _).mono ?_; rintro e w13 ⟨rfl, hg⟩; have H13 := Lib.hid (H12.out.gr hg); have HO13 := Lib.hid (HO12.out.gr hg); clear hg)
  refine (SameE [lvD] [lvD] _ _ _ (HO13.out.gr ((Gr.refl _).alloc _)) (own_lit w13 _ 6 1 (rowE [lvD]) rfl (by decide)) (by decide)).mono ?_
  rintro e w14 ⟨rfl, hg⟩
  rw [decide_eq_true (rfl : [lvD] = [lvD])]
  have H14 := Lib.hid ((H13.out.gr ((Gr.refl _).alloc _)).gr hg)
  clear hg
  go_wp2_with fail
  refine (Drop_any H14.out.ix 2).mono ?_
  rintro e w15 ⟨rfl, hp⟩
  rw [lv_d2.1, lv_d2.2]
  obtain ⟨S15, hs⟩ := H14.out.post hp
  have H15 : Hid (SW w [ixA b lvX2 S15] w15) := Lib.hid hs
  clear hs hp
  go_wp2_with (go_at_call 75; refine (put_any _ _ _ _ 19 (by decide) (by decide) _).mono ?_; rintro e w16 ⟨rfl, hg⟩; have H16 := Lib.hid (H15.out.gr hg); clear hg)
  refine (kept_any (H16.out.gr ((Gr.refl _).alloc _)).ixp 1 [lvM] _ (own_lit w16 _ 6 1 (rowE [lvM]) rfl (by decide)) (by decide) (fun e he => by rw [List.mem_singleton.1 he]; decide)).mono ?_
  rintro e w17 ⟨rfl, hg⟩
  rw [lv_k4]
  have H17 := Lib.hid ((H16.out.gr ((Gr.refl _).alloc _)).gr hg)
  clear hg
  go_wp2
  go_ret
  exact ⟨rfl, H17.out.g⟩
end Go.Proofs.Ytiidkehcfoajeaa
