/- OrdmapCopies, walked. -/
import Derived.Test.YtbhkigjmjmfbgaaOcs
set_option linter.unusedVariables false
set_option linter.unusedSimpArgs false
namespace Go.Proofs.Ytbhkigjmjmfbgaa
open Go.RowKit Go.Shelf Go.Maps
attribute [local go_sem] OvM cell_ovm obj_ovm
attribute [local go_sem] Oper.semAt_some
set_option maxRecDepth 100000 in
set_option maxHeartbeats 16000000 in
theorem Copies_long (a : Option Addr) (len cap : Nat) (l : List Cl) (a2 : Option Addr) (len2 cap2 : Nat) (l2 : List Cl) (w : World) (hl : l.length = len) (hle : len ≤ cap) (hcap : cap ≤ maxLen) (hs : CallsAt w a l)
    (hl2 : l2.length = len2) (hle2 : len2 ≤ cap2) (hcap2 : cap2 ≤ maxLen) (hs2 : CallsAt w a2 l2) (h50 : (50 : Int) < len2) :
    Calls Try.prog 7 #[.slice a len cap, .slice a2 len2 cap2] w fun e w' => e = .returned (.bool true) ∧ Gr w w' := by
  have hmm := @run_makeMap Try.prog
  refine calls_of_wp_marks Try.func7 rfl ?_
  simp only [Try.ntmps7, List.size_toArray, List.length_cons, List.length_nil, Nat.reduceAdd, Nat.reduceSub, Array.replicate_succ, Array.replicate_zero, List.push_toArray, List.append_toArray, List.nil_append, List.cons_append]
  obtain ⟨wa, hwa⟩ : ∃ wa, wa = w.alloc (.cells #[.bool false] 4) := ⟨_, rfl⟩
  obtain ⟨br, hbr⟩ : ∃ b, b = w.heap.size := ⟨_, rfl⟩
  have HWA : Hid (Gr w wa ∧ wa.heap[br]? = some (.cells #[.bool false] 4) ∧ br < wa.heap.size ∧ w.heap.size ≤ br ∧ wa = w.alloc (.cells #[.bool false] 4) ∧ br = w.heap.size) := Lib.hid ⟨by rw [hwa]; exact (Gr.refl w).alloc _, by rw [hwa, hbr]; exact blkNew _ _, by rw [hwa, hbr]; simp, by omega, hwa, hbr⟩
  clear hwa hbr
  have HS := Lib.hid hs
  have HL := Lib.hid hl
  have HS2 := Lib.hid hs2
  have HL2 := Lib.hid hl2
  have HCAP := Lib.hid (And.intro hle hcap)
  unfold maxLen at hcap2
  clear hs hl hs2 hl2 hle hcap
  go_wp2_with fail
  rw [← HWA.out.2.2.2.2.1, ← HWA.out.2.2.2.2.2]
  refine (filled_any a len cap l wa HL.out HCAP.out.1 HCAP.out.2 (HS.out.grc HWA.out.1)).mono ?_
  rintro e w1 ⟨b, v, bw, n, L, rfl, hF, hn⟩
  have hLn := hF.gm.len_le
  obtain ⟨w2, hw2⟩ : ∃ y, y = w1.alloc (.cells #[.map (some bw)] 24) := ⟨_, rfl⟩
  obtain ⟨b6, hb6⟩ : ∃ k, k = w1.heap.size := ⟨_, rfl⟩
  have H2 : Hid (FS wa w2 b v bw n L ∧ w2.heap[b6]? = some (.cells #[.map (some bw)] 24) ∧ w2 = w1.alloc (.cells #[.map (some bw)] 24) ∧ b6 = w1.heap.size) := Lib.hid ⟨by rw [hw2]; exact hF.gr ((Gr.refl _).alloc _), by rw [hw2, hb6]; exact blkNew _ _, hw2, hb6⟩
  clear hw2 hb6 hF
  go_wp2_with fail
  rw [← H2.out.2.2.1, ← H2.out.2.2.2]
  refine (CopyOii b v L w2 H2.out.1.om (by omega)).mono ?_
  rintro e w3 ⟨bc, vc0, rfl, hc, l1, l2', g3⟩
  have H3 := Lib.hid (And.intro hc (And.intro l1 (And.intro l2' g3)))
  clear hc l1 l2' g3
  go_wp2_with fail
  refine (CopyOii b v L w3 (H2.out.1.om.gr H3.out.2.2.2) (by omega)).mono ?_
  rintro e w4 ⟨bd, vd, rfl, hd, l3, l4, g4⟩
  have H4 : Hid (CS wa w4 b bw n v L bd vd bc vc0 L b6) := Lib.hid (CS.init H2.out.1 H2.out.2.1 H3.out.1 H3.out.2.1 H3.out.2.2.1 H3.out.2.2.2 hd l3 l4 g4)
  clear hd l3 l4 g4 H2 H3
  go_wp2_with fail
  try rw [show (max (50 : Int) 0) = 50 from rfl]
  go_loopw [52] (fun t52 wx => ∃ (j : Nat) (vc : Value) (C : List Itii), j ≤ 50 ∧ t52 = .int .i64 j ∧ C.length ≤ 100 + j ∧ Hid (CS wa wx b bw n v L bd vd bc vc C b6)) (fun t52 _ => 50 - (intOf t52).toNat)
  case atStart => exact ⟨0, _, L, by omega, rfl, by omega, H4⟩
  case round =>
    obtain ⟨j, vc, C, hj, rfl, hCl, H⟩ := hrel
    clear H4
    by_cases hlt : j < 50
    · have hlt' : (j : Int) < 50 := by omega
      obtain ⟨gs, off, rfl, hgs, c0, c1, c2, hk, hv⟩ := HS2.out j (by rw [HL2.out]; omega)
      have e0 := (HWA.out.1.trans H.out.f.g).keep c0
      have e1 := (HWA.out.1.trans H.out.f.g).keep c1
      have e2 := (HWA.out.1.trans H.out.f.g).keep c2
      generalize l2[j]?.getD (false, 0, 0) = x at *
      obtain ⟨dd, KK, VV⟩ := x
      simp only at e0 e1 e2 hk hv
      have HKV := Lib.hid (And.intro hk hv)
      obtain ⟨k1, k2⟩ := hk
      obtain ⟨v1, v2⟩ := hv
      clear c0 c1 c2 hgs
      cases dd
      all_goals
        go_wp2_with fail
      · -- Set
        refine (Setii bc vc C KK VV _ (H.out.c.gr ((Gr.refl wr).alloc _)) (by omega)).mono ?_
        rintro e w8 ⟨rfl, hp⟩
        obtain ⟨vc', h'⟩ := (H.out.gr ((Gr.refl wr).alloc _)).call hp (put_all (p := fun x => InB x.1) H.out.c.srt H.out.cb KK VV HKV.out.1)
        have HN := Lib.hid h'
        have hln : (putL ltZ C KK VV).length ≤ 100 + (j + 1) := by rw [put_length]; split <;> omega
        clear hp h'
        go_wp2_with fail
        go_roundw
        case rel => exact ⟨j + 1, vc', putL ltZ C KK VV, by omega, by go_num, hln, HN⟩
        case measure => simp [intOf]; omega
      · -- Delete
        refine (DeleteOii bc vc C KK _ (H.out.c.gr ((Gr.refl wr).alloc _)) (by omega)).mono ?_
        rintro e w8 ⟨rfl, hp⟩
        obtain ⟨vc', h'⟩ := (H.out.gr ((Gr.refl wr).alloc _)).call hp (del_all (p := fun x => InB x.1) H.out.c.srt H.out.cb KK)
        have HN := Lib.hid h'
        have hln : (delL ltZ C KK).length ≤ 100 + (j + 1) := by have := del_length (L := C) (lt := ltZ) KK; split at this <;> omega
        clear hp h'
        go_wp2_with fail
        go_roundw
        case rel => exact ⟨j + 1, vc', delL ltZ C KK, by omega, by go_num, hln, HN⟩
        case measure => simp [intOf]; omega
    · have hlt' : ¬ (j : Int) < 50 := by omega
      have hjK : j = 50 := by omega
      have hCl2 : C.length ≤ 100000 := by omega
      clear hlt hj hjK
      go_wp2_with fail
      obtain ⟨U0, hU⟩ : ∃ u, u = wr.alloc (.cells #[.pointer (some ⟨b, 0, none⟩), .pointer (some ⟨bd, 0, none⟩)] 23) := ⟨_, rfl⟩
      have xe : U0.heap[wr.heap.size]? = some (.cells #[.pointer (some ⟨b, 0, none⟩), .pointer (some ⟨bd, 0, none⟩)] 23) := by rw [hU]; exact blkNew _ _
      rw [← hU]
      have HC0 : Hid (CS wa U0 b bw n v L bd vd bc vc C b6) := Lib.hid (by rw [hU]; exact H.out.gr ((Gr.refl _).alloc _))
      have p0 := ((cellsOf xe).1 0).trans (show _ = some (Value.pointer (some ⟨b, 0, none⟩)) from rfl)
      have p1 := ((cellsOf xe).1 1).trans (show _ = some (Value.pointer (some ⟨bd, 0, none⟩)) from rfl)
      clear hU xe H
      generalize wr.heap.size = be at *
      refine wp_loop_rounds 3 ?_
      rw [rounds_succ]
      go_wp2_with fail
      refine (AllOii _ _).mono ?_
      rintro e y0 ⟨bb0, rfl, hbb, hlb, hg6⟩
      obtain ⟨bg0, hbg⟩ : ∃ k, k = U0.heap.size := ⟨_, rfl⟩
      obtain ⟨bh0, hbh⟩ : ∃ k, k = bg0 + 1 := ⟨_, rfl⟩
      obtain ⟨bi0, hbi⟩ : ∃ k, k = bh0 + 1 := ⟨_, rfl⟩
      have hgm : GM y0 bg0 0 [] := by rw [hbg]; exact (GM.made U0).gr ((((Gr.refl _).alloc _).alloc _).trans hg6)
      have xh : y0.heap[bh0]? = some (.cells #[.map (some bg0)] 24) := by
        rw [hbh, hbg]
        have := hg6.blk (blkOld (o' := .cells #[.int .i64 0] 3) (blkNew (U0.alloc (.map #[] 0)) (.cells #[.map (some U0.heap.size)] 24)))
        rwa [World.size_alloc] at this
      have xi : y0.heap[bi0]? = some (.cells #[.int .i64 0] 3) := by
        rw [hbi, hbh, hbg]
        have := hg6.blk (blkNew ((U0.alloc (.map #[] 0)).alloc (.cells #[.map (some U0.heap.size)] 24)) (.cells #[.int .i64 0] 3))
        rwa [World.size_alloc, World.size_alloc] at this
      have gU : Gr U0 y0 := ((((Gr.refl U0).alloc _).alloc _).alloc _).trans hg6
      simp only [World.size_alloc] at hlb
      rw [← hbg, ← hbh, ← hbi]
      have HL0 : Hid (U0.heap.size ≤ bg0 ∧ bg0 < bh0 ∧ bh0 < bi0 ∧ bi0 < bb0) := Lib.hid (by omega)
      have HY0 : Hid (CS wa y0 b bw n v L bd vd bc vc C b6) := Lib.hid (HC0.out.gr gU)
      have HGU0 := Lib.hid gU
      have XH0 := Lib.hid xh
      have XI0 := Lib.hid xi
      have HGM0 := Lib.hid hgm
      have HBB0 := Lib.hid hbb
      clear hbg hbh hbi hgm xh xi gU hlb hbb hg6
      have HLT0 := Lib.hid HC0.out.lt
      have HA0 : Hid (∀ k, (k = bb0 ∨ OMB (some ⟨b, 0, none⟩) v k) → k < y0.heap.size ∧ k ≠ bg0 ∧ k ≠ bh0 ∧ k ≠ bi0) := Lib.hid (by
        obtain ⟨m1, m2, m3, m4⟩ := HL0.out
        obtain ⟨l1, l2, l3, l4, l5, l6, l7⟩ := HLT0.out
        have l8 := HGU0.out.sz
        have l9 := World.block_lt_of_cell? y0 ⟨bb0, 0, none⟩ HBB0.out
        simp only at l9
        rintro k (rfl | ⟨ax, ha, hk⟩ | hk)
        · exact ⟨l9, by omega, by omega, by omega⟩
        · obtain rfl := Option.some.inj ha
          replace hk : k = b := hk
          exact ⟨by omega, by omega, by omega, by omega⟩
        · have := l2 k hk
          exact ⟨by omega, by omega, by omega, by omega⟩)
      go_wp2_with fail
      apply wp_rangeFunc_zb (gf := 55) (lb := #[.pointer (some ⟨bb0, 0, none⟩)]) rfl (enters_of Try.func55 (by kernel_rfl) rfl) (SeqAii (some ⟨b, 0, none⟩) v L (by omega) bb0 y0 (.inl ⟨b, rfl, HY0.out.f.om⟩) HBB0.out) (Mdh.refl _ y0) (fun k hk => (HA0.out k hk).1) (fun _ => rfl)
        (fun Z pre X => ((GM X bg0 pre.length pre ∧ ¬ Z bg0) ∧ (X.heap[bi0]? = some (.cells #[.int .i64 pre.length] 3) ∧ ¬ Z bi0)) ∧ Frm y0 (fun k => k = bi0 ∨ k = bg0) Z X)
        (fun _ _ _ => False) (fun _ _ _ => False)
        (((GM.apart _ _ _).and (Apart.block _ _)).and (Frm.apart _ _)) apart_no apart_no ⟨⟨⟨HGM0.out, fun h => h⟩, ⟨XI0.out, fun h => h⟩⟩, Frm.refl _ _⟩
        _ ?assign0 ?body0 ?hend0 ?hret0
      case assign0 =>
        intro l x X K hK
        dsimp only [encOii]
        gi_wp2
        exact hK
      case hret0 => intro _ _ _ _ _ _ _ h; exact h.elim
      case body0 =>
        intro l Z pre x X hI hsp
        obtain ⟨⟨⟨hgm, hzg⟩, ⟨hb, hz⟩⟩, hF⟩ := hI
        obtain ⟨m1, m2, m3, m4⟩ := HL0.out
        obtain ⟨l1, l2, l3, l4, l5, l6, l7⟩ := HLT0.out
        obtain ⟨ci, fi⟩ := box1 hb
        obtain ⟨c6, _⟩ := box1 (hF.m.blk HY0.out.x6 (by omega))
        obtain ⟨ch, _⟩ := box1 (hF.m.blk XH0.out (by omega))
        obtain ⟨x1, x2⟩ := x
        have hpl : pre.length < L.length := by have := hsp.length_le; simp at this; omega
        have hpl2 : ¬ (L.length : Int) < (pre.length : Int) + 1 := by omega
        have hmem : (x1, x2) ∈ L := hsp.subset (by simp)
        obtain ⟨⟨i1, i2⟩, ⟨i3, i4⟩⟩ := HY0.out.f.bnd _ hmem
        have HSR : Hid (Srt ltZ (pre ++ [(x1, x2)])) := Lib.hid (List.Pairwise.sublist hsp.sublist HY0.out.f.om.srt)
        have hm1 : Mdh (fun k => k = bi0) X (X.setCell ⟨bi0, 0, none⟩ (.int .i64 ((pre.length : Int) + 1))) := (Mdh.refl (fun k => k = bi0) X).setCell (p := ⟨bi0, 0, none⟩) rfl _
        have hml : ∀ ty, (Builtin.len_ #[24] ty #[.map (some bw)]).run Try.prog (X.setCell ⟨bi0, 0, none⟩ (.int .i64 ((pre.length : Int) + 1))) = .ok (.int .i64 L.length) (X.setCell ⟨bi0, 0, none⟩ (.int .i64 ((pre.length : Int) + 1))) := fun ty => gm_len_run ((HY0.out.f.gm.mdh hF.m (by omega)).mdh hm1 (by omega)) ty
        have HF := Lib.hid hF
        have HZ := Lib.hid (And.intro hzg hz)
        have HB := Lib.hid hb
        have HM1 := Lib.hid hm1
        have HGX := Lib.hid hgm
        have hpn : pre.length ≤ 1000000 := by omega
        clear hF hzg hz hb hsp hmem hm1 hgm
        gi_wp2_with (first
          | (gi_at_mapUpdate; refine wpListIn_gm_set _ rfl (.tmp 97) (.tmp 98) (.tmp 99) rfl bg0 pre.length pre rfl (HGX.out.mdh HM1.out (by omega)) (by omega) x1 x2 rfl rfl (WalkArith.wf_i64 (by omega)) (WalkArith.wf_i64 (by omega)) ?_; intro w5 hgm5 hmd5; have H5 := Lib.hid (And.intro hgm5 hmd5); clear hgm5 hmd5)
          | fail)
        have hm : Mdh (fun k => k = bi0 ∨ k = bg0) X w5 := (HM1.out.mono (fun k h => .inl h)).trans (H5.out.2.mono (fun k h => .inr h))
        refine ⟨hm.mono (fun k hk => ⟨fun h => by have := HA0.out k h; omega, hk.elim (fun e => e ▸ HZ.out.2) (fun e => e ▸ HZ.out.1)⟩), ⟨⟨?_, HZ.out.1⟩, ⟨?_, HZ.out.2⟩⟩, HF.out.step hm (fun k hk => .inl hk)⟩
        · have := H5.out.1
          rw [put_end HSR.out] at this
          rw [List.length_append]
          exact this
        · have := H5.out.2.blk (blkSet (j := 0) (u := .int .i64 ((pre.length : Int) + 1)) HB.out) (by omega)
          simpa using this
      case hend0 =>
        intro Z D0 L0 X0 hD hZD hcase hdef
        obtain ⟨hxs, ⟨⟨hgm, _⟩, _⟩, hF⟩ := hcase.elim (fun h => h) (fun h => h.2.elim)
        have hxs' : L0 = L := hxs
        subst hxs'
        have hGX : Gr U0 X0 := HGU0.out.md hF.m (fun k hk => by have := HL0.out; omega)
        have HX0 := Lib.hid hGX
        have HCX0 := Lib.hid (HC0.out.gr hGX)
        have HGX0 := Lib.hid hgm
        have XX0 := Lib.hid (hF.m.blk XH0.out (by have := HL0.out; omega))
        have HD0 : Hid (y0.heap.size ≤ D0 ∧ X0.heap[D0]? = some (.deferred (some []))) := Lib.hid ⟨hD, hdef⟩
        clear hF hcase hdef hD hZD hxs hGX hgm
        dsimp only
        have c6 := (box1 HCX0.out.x6).1
        have ch := (box1 XX0.out).1
        have hml : ∀ g ty, (Builtin.len_ #[24] ty #[.map (some bw)]).run Try.prog (ovm (fun _ => False) X0 g) = .ok (.int .i64 L0.length) (ovm (fun _ => False) X0 g) := fun g ty => gm_len_run (HCX0.out.f.gm.mdh (ovm_md _ X0 g) (fun h => h)) ty
        go_wp2_with fail
        have HG := Gr.refl X0.drew
        refine wp_region_flo (fun _ => False) [] [] (by kernel_rfl) (by kernel_rfl) (fun _ h => h.elim) ?_
        refine flo_seg 2 rfl ?_
        simp only [List.take_succ_cons, List.take_zero, List.drop_succ_cons, List.drop_zero]
        repeat (go_big_quiet_step (fail))
        refine wpQuiet_nil ?_
        refine flo_eff rfl rfl rfl rfl (fun K hK => ?_)
        go_wp2_with ((go_at_call 42; refine (EqualM bg0 bw L0.length n L0 _ (HGX0.out.gr (by (repeat (first | (with_reducible exact Gr.refl _) | assumption | (with_reducible apply Gr.from_drew) | (with_reducible apply Gr.alloc) | (with_reducible apply Gr.drew) | (with_reducible refine Gr.trans ?_ (by assumption)) | (with_reducible refine Gr.setCell ?_ (by omega) _))))) (HCX0.out.f.gm.gr (by (repeat (first | (with_reducible exact Gr.refl _) | assumption | (with_reducible apply Gr.from_drew) | (with_reducible apply Gr.alloc) | (with_reducible apply Gr.drew) | (with_reducible refine Gr.trans ?_ (by assumption)) | (with_reducible refine Gr.setCell ?_ (by omega) _)))))).mono ?_; rintro e w1 ⟨rfl, hg⟩; replace HG := HG.trans hg; (try clear hc); have hc := HG.cell; (try simp only [World.size_alloc] at hc)))
        refine ⟨by (first | (refine Gr.mdh ?_ _; (repeat (first | (with_reducible exact Gr.refl _) | assumption | (with_reducible apply Gr.from_drew) | (with_reducible apply Gr.alloc) | (with_reducible apply Gr.drew) | (with_reducible refine Gr.trans ?_ (by assumption)) | (with_reducible refine Gr.setCell ?_ (by omega) _))); done) | (repeat (first | (with_reducible exact Mdh.refl _ _) | (with_reducible refine Mdh.setCell ?_ (by simp) _) | (with_reducible refine Mdh.setNew ?_ (by simp) _) | (with_reducible apply Mdh.alloc) | (with_reducible apply Mdh.drew) | (with_reducible refine Mdh.gr ?_ (by assumption))))), ?_⟩
        refine flo_seg 3 rfl ?_
        simp only [List.take_succ_cons, List.take_zero, List.drop_succ_cons, List.drop_zero]
        repeat (go_big_quiet_step (fail))
        refine wpQuiet_nil ?_
        refine flo_eff rfl rfl rfl rfl (fun K hK => ?_)
        go_wp2_with ((go_at_call 16; refine (Lenii _ v L0 _ (.inl ⟨b, rfl, HCX0.out.f.om.gr (by (repeat (first | (with_reducible exact Gr.refl _) | assumption | (with_reducible apply Gr.from_drew) | (with_reducible apply Gr.alloc) | (with_reducible apply Gr.drew) | (with_reducible refine Gr.trans ?_ (by assumption)) | (with_reducible refine Gr.setCell ?_ (by omega) _))))⟩)).mono ?_; rintro e wz ⟨rfl, rfl⟩))
        refine ⟨by (first | (refine Gr.mdh ?_ _; (repeat (first | (with_reducible exact Gr.refl _) | assumption | (with_reducible apply Gr.from_drew) | (with_reducible apply Gr.alloc) | (with_reducible apply Gr.drew) | (with_reducible refine Gr.trans ?_ (by assumption)) | (with_reducible refine Gr.setCell ?_ (by omega) _))); done) | (repeat (first | (with_reducible exact Mdh.refl _ _) | (with_reducible refine Mdh.setCell ?_ (by simp) _) | (with_reducible refine Mdh.setNew ?_ (by simp) _) | (with_reducible apply Mdh.alloc) | (with_reducible apply Mdh.drew) | (with_reducible refine Mdh.gr ?_ (by assumption))))), ?_⟩
        refine flo_seg 4 rfl ?_
        simp only [List.take_succ_cons, List.take_zero, List.drop_succ_cons, List.drop_zero]
        repeat (go_big_quiet_step (fail))
        refine wpQuiet_nil ?_
        refine flo_nil ?_
        have HR0 : Hid (Gr X0 w1) := Lib.hid (Gr.of_drew HG)
        clear hc hg HG hml c6 ch
        obtain ⟨U1, hU⟩ : ∃ y, y = w1 := ⟨_, rfl⟩
        rw [← hU]
        subst hU
        have HC1 := Lib.hid (HCX0.out.gr HR0.out)
        replace p1 := (HX0.out.trans HR0.out).keep p1
        go_wp2_with fail
        rw [rounds_succ]
        go_wp2_with fail
        refine (AllOii _ _).mono ?_
        rintro e y1 ⟨bb1, rfl, hbb, hlb, hg6⟩
        obtain ⟨bg1, hbg⟩ : ∃ k, k = U1.heap.size := ⟨_, rfl⟩
        obtain ⟨bh1, hbh⟩ : ∃ k, k = bg1 + 1 := ⟨_, rfl⟩
        obtain ⟨bi1, hbi⟩ : ∃ k, k = bh1 + 1 := ⟨_, rfl⟩
        have hgm : GM y1 bg1 0 [] := by rw [hbg]; exact (GM.made U1).gr ((((Gr.refl _).alloc _).alloc _).trans hg6)
        have xh : y1.heap[bh1]? = some (.cells #[.map (some bg1)] 24) := by
          rw [hbh, hbg]
          have := hg6.blk (blkOld (o' := .cells #[.int .i64 0] 3) (blkNew (U1.alloc (.map #[] 0)) (.cells #[.map (some U1.heap.size)] 24)))
          rwa [World.size_alloc] at this
        have xi : y1.heap[bi1]? = some (.cells #[.int .i64 0] 3) := by
          rw [hbi, hbh, hbg]
          have := hg6.blk (blkNew ((U1.alloc (.map #[] 0)).alloc (.cells #[.map (some U1.heap.size)] 24)) (.cells #[.int .i64 0] 3))
          rwa [World.size_alloc, World.size_alloc] at this
        have gU : Gr U1 y1 := ((((Gr.refl U1).alloc _).alloc _).alloc _).trans hg6
        simp only [World.size_alloc] at hlb
        rw [← hbg, ← hbh, ← hbi]
        have HL1 : Hid (U1.heap.size ≤ bg1 ∧ bg1 < bh1 ∧ bh1 < bi1 ∧ bi1 < bb1) := Lib.hid (by omega)
        have HY1 : Hid (CS wa y1 b bw n v L0 bd vd bc vc C b6) := Lib.hid (HC1.out.gr gU)
        have HGU1 := Lib.hid gU
        have XH1 := Lib.hid xh
        have XI1 := Lib.hid xi
        have HGM1 := Lib.hid hgm
        have HBB1 := Lib.hid hbb
        clear hbg hbh hbi hgm xh xi gU hlb hbb hg6
        have HLT1 := Lib.hid HC1.out.lt
        have HA1 : Hid (∀ k, (k = bb1 ∨ OMB (some ⟨bd, 0, none⟩) vd k) → k < y1.heap.size ∧ k ≠ bg1 ∧ k ≠ bh1 ∧ k ≠ bi1) := Lib.hid (by
          obtain ⟨m1, m2, m3, m4⟩ := HL1.out
          obtain ⟨l1, l2, l3, l4, l5, l6, l7⟩ := HLT1.out
          have l8 := HGU1.out.sz
          have l9 := World.block_lt_of_cell? y1 ⟨bb1, 0, none⟩ HBB1.out
          simp only at l9
          rintro k (rfl | ⟨ax, ha, hk⟩ | hk)
          · exact ⟨l9, by omega, by omega, by omega⟩
          · obtain rfl := Option.some.inj ha
            replace hk : k = bd := hk
            exact ⟨by omega, by omega, by omega, by omega⟩
          · have := l5 k hk
            exact ⟨by omega, by omega, by omega, by omega⟩)
        go_wp2_with fail
        apply wp_rangeFunc_zb (gf := 55) (lb := #[.pointer (some ⟨bb1, 0, none⟩)]) rfl (enters_of Try.func55 (by kernel_rfl) rfl) (SeqAii (some ⟨bd, 0, none⟩) vd L0 (by omega) bb1 y1 (.inl ⟨bd, rfl, HY1.out.d⟩) HBB1.out) (Mdh.refl _ y1) (fun k hk => (HA1.out k hk).1) (fun _ => rfl)
          (fun Z pre X => ((GM X bg1 pre.length pre ∧ ¬ Z bg1) ∧ (X.heap[bi1]? = some (.cells #[.int .i64 pre.length] 3) ∧ ¬ Z bi1)) ∧ Frm y1 (fun k => k = bi1 ∨ k = bg1) Z X)
          (fun _ _ _ => False) (fun _ _ _ => False)
          (((GM.apart _ _ _).and (Apart.block _ _)).and (Frm.apart _ _)) apart_no apart_no ⟨⟨⟨HGM1.out, fun h => h⟩, ⟨XI1.out, fun h => h⟩⟩, Frm.refl _ _⟩
          _ ?assign1 ?body1 ?hend1 ?hret1
        case assign1 =>
          intro l x X K hK
          dsimp only [encOii]
          gi_wp2
          exact hK
        case hret1 => intro _ _ _ _ _ _ _ h; exact h.elim
        case body1 =>
          intro l Z pre x X hI hsp
          obtain ⟨⟨⟨hgm, hzg⟩, ⟨hb, hz⟩⟩, hF⟩ := hI
          obtain ⟨m1, m2, m3, m4⟩ := HL1.out
          obtain ⟨l1, l2, l3, l4, l5, l6, l7⟩ := HLT1.out
          obtain ⟨ci, fi⟩ := box1 hb
          obtain ⟨c6, _⟩ := box1 (hF.m.blk HY1.out.x6 (by omega))
          obtain ⟨ch, _⟩ := box1 (hF.m.blk XH1.out (by omega))
          obtain ⟨x1, x2⟩ := x
          have hpl : pre.length < L0.length := by have := hsp.length_le; simp at this; omega
          have hpl2 : ¬ (L0.length : Int) < (pre.length : Int) + 1 := by omega
          have hmem : (x1, x2) ∈ L0 := hsp.subset (by simp)
          obtain ⟨⟨i1, i2⟩, ⟨i3, i4⟩⟩ := HY1.out.f.bnd _ hmem
          have HSR : Hid (Srt ltZ (pre ++ [(x1, x2)])) := Lib.hid (List.Pairwise.sublist hsp.sublist HY1.out.f.om.srt)
          have hm1 : Mdh (fun k => k = bi1) X (X.setCell ⟨bi1, 0, none⟩ (.int .i64 ((pre.length : Int) + 1))) := (Mdh.refl (fun k => k = bi1) X).setCell (p := ⟨bi1, 0, none⟩) rfl _
          have hml : ∀ ty, (Builtin.len_ #[24] ty #[.map (some bw)]).run Try.prog (X.setCell ⟨bi1, 0, none⟩ (.int .i64 ((pre.length : Int) + 1))) = .ok (.int .i64 L0.length) (X.setCell ⟨bi1, 0, none⟩ (.int .i64 ((pre.length : Int) + 1))) := fun ty => gm_len_run ((HY1.out.f.gm.mdh hF.m (by omega)).mdh hm1 (by omega)) ty
          have HF := Lib.hid hF
          have HZ := Lib.hid (And.intro hzg hz)
          have HB := Lib.hid hb
          have HM1 := Lib.hid hm1
          have HGX := Lib.hid hgm
          have hpn : pre.length ≤ 1000000 := by omega
          clear hF hzg hz hb hsp hmem hm1 hgm
          gi_wp2_with (first
            | (gi_at_mapUpdate; refine wpListIn_gm_set _ rfl (.tmp 97) (.tmp 98) (.tmp 99) rfl bg1 pre.length pre rfl (HGX.out.mdh HM1.out (by omega)) (by omega) x1 x2 rfl rfl (WalkArith.wf_i64 (by omega)) (WalkArith.wf_i64 (by omega)) ?_; intro w5 hgm5 hmd5; have H5 := Lib.hid (And.intro hgm5 hmd5); clear hgm5 hmd5)
            | fail)
          have hm : Mdh (fun k => k = bi1 ∨ k = bg1) X w5 := (HM1.out.mono (fun k h => .inl h)).trans (H5.out.2.mono (fun k h => .inr h))
          refine ⟨hm.mono (fun k hk => ⟨fun h => by have := HA1.out k h; omega, hk.elim (fun e => e ▸ HZ.out.2) (fun e => e ▸ HZ.out.1)⟩), ⟨⟨?_, HZ.out.1⟩, ⟨?_, HZ.out.2⟩⟩, HF.out.step hm (fun k hk => .inl hk)⟩
          · have := H5.out.1
            rw [put_end HSR.out] at this
            rw [List.length_append]
            exact this
          · have := H5.out.2.blk (blkSet (j := 0) (u := .int .i64 ((pre.length : Int) + 1)) HB.out) (by omega)
            simpa using this
        case hend1 =>
          intro Z D1 L1 X1 hD hZD hcase hdef
          obtain ⟨hxs, ⟨⟨hgm, _⟩, _⟩, hF⟩ := hcase.elim (fun h => h) (fun h => h.2.elim)
          have hxs' : L1 = L0 := hxs
          subst hxs'
          have hGX : Gr U1 X1 := HGU1.out.md hF.m (fun k hk => by have := HL1.out; omega)
          have HX1 := Lib.hid hGX
          have HCX1 := Lib.hid (HC1.out.gr hGX)
          have HGX1 := Lib.hid hgm
          have XX1 := Lib.hid (hF.m.blk XH1.out (by have := HL1.out; omega))
          have HD1 : Hid (y1.heap.size ≤ D1 ∧ X1.heap[D1]? = some (.deferred (some []))) := Lib.hid ⟨hD, hdef⟩
          clear hF hcase hdef hD hZD hxs hGX hgm
          dsimp only
          have c6 := (box1 HCX1.out.x6).1
          have ch := (box1 XX1.out).1
          have hml : ∀ g ty, (Builtin.len_ #[24] ty #[.map (some bw)]).run Try.prog (ovm (fun _ => False) X1 g) = .ok (.int .i64 L1.length) (ovm (fun _ => False) X1 g) := fun g ty => gm_len_run (HCX1.out.f.gm.mdh (ovm_md _ X1 g) (fun h => h)) ty
          go_wp2_with fail
          have HG := Gr.refl X1.drew
          refine wp_region_flo (fun _ => False) [] [] (by kernel_rfl) (by kernel_rfl) (fun _ h => h.elim) ?_
          refine flo_seg 2 rfl ?_
          simp only [List.take_succ_cons, List.take_zero, List.drop_succ_cons, List.drop_zero]
          repeat (go_big_quiet_step (fail))
          refine wpQuiet_nil ?_
          refine flo_eff rfl rfl rfl rfl (fun K hK => ?_)
          go_wp2_with ((go_at_call 42; refine (EqualM bg1 bw L1.length n L1 _ (HGX1.out.gr (by (repeat (first | (with_reducible exact Gr.refl _) | assumption | (with_reducible apply Gr.from_drew) | (with_reducible apply Gr.alloc) | (with_reducible apply Gr.drew) | (with_reducible refine Gr.trans ?_ (by assumption)) | (with_reducible refine Gr.setCell ?_ (by omega) _))))) (HCX1.out.f.gm.gr (by (repeat (first | (with_reducible exact Gr.refl _) | assumption | (with_reducible apply Gr.from_drew) | (with_reducible apply Gr.alloc) | (with_reducible apply Gr.drew) | (with_reducible refine Gr.trans ?_ (by assumption)) | (with_reducible refine Gr.setCell ?_ (by omega) _)))))).mono ?_; rintro e w1 ⟨rfl, hg⟩; replace HG := HG.trans hg; (try clear hc); have hc := HG.cell; (try simp only [World.size_alloc] at hc)))
          refine ⟨by (first | (refine Gr.mdh ?_ _; (repeat (first | (with_reducible exact Gr.refl _) | assumption | (with_reducible apply Gr.from_drew) | (with_reducible apply Gr.alloc) | (with_reducible apply Gr.drew) | (with_reducible refine Gr.trans ?_ (by assumption)) | (with_reducible refine Gr.setCell ?_ (by omega) _))); done) | (repeat (first | (with_reducible exact Mdh.refl _ _) | (with_reducible refine Mdh.setCell ?_ (by simp) _) | (with_reducible refine Mdh.setNew ?_ (by simp) _) | (with_reducible apply Mdh.alloc) | (with_reducible apply Mdh.drew) | (with_reducible refine Mdh.gr ?_ (by assumption))))), ?_⟩
          refine flo_seg 3 rfl ?_
          simp only [List.take_succ_cons, List.take_zero, List.drop_succ_cons, List.drop_zero]
          repeat (go_big_quiet_step (fail))
          refine wpQuiet_nil ?_
          refine flo_eff rfl rfl rfl rfl (fun K hK => ?_)
          go_wp2_with ((go_at_call 16; refine (Lenii _ vd L1 _ (.inl ⟨bd, rfl, HCX1.out.d.gr (by (repeat (first | (with_reducible exact Gr.refl _) | assumption | (with_reducible apply Gr.from_drew) | (with_reducible apply Gr.alloc) | (with_reducible apply Gr.drew) | (with_reducible refine Gr.trans ?_ (by assumption)) | (with_reducible refine Gr.setCell ?_ (by omega) _))))⟩)).mono ?_; rintro e wz ⟨rfl, rfl⟩))
          refine ⟨by (first | (refine Gr.mdh ?_ _; (repeat (first | (with_reducible exact Gr.refl _) | assumption | (with_reducible apply Gr.from_drew) | (with_reducible apply Gr.alloc) | (with_reducible apply Gr.drew) | (with_reducible refine Gr.trans ?_ (by assumption)) | (with_reducible refine Gr.setCell ?_ (by omega) _))); done) | (repeat (first | (with_reducible exact Mdh.refl _ _) | (with_reducible refine Mdh.setCell ?_ (by simp) _) | (with_reducible refine Mdh.setNew ?_ (by simp) _) | (with_reducible apply Mdh.alloc) | (with_reducible apply Mdh.drew) | (with_reducible refine Mdh.gr ?_ (by assumption))))), ?_⟩
          refine flo_seg 4 rfl ?_
          simp only [List.take_succ_cons, List.take_zero, List.drop_succ_cons, List.drop_zero]
          repeat (go_big_quiet_step (fail))
          refine wpQuiet_nil ?_
          refine flo_nil ?_
          have HR1 : Hid (Gr X1 w1) := Lib.hid (Gr.of_drew HG)
          clear hc hg HG hml c6 ch
          obtain ⟨U2, hU⟩ : ∃ y, y = w1 := ⟨_, rfl⟩
          rw [← hU]
          subst hU
          have HC2 := Lib.hid (HCX1.out.gr HR1.out)
          skip
          go_wp2_with fail
          rw [rounds_succ]
          go_wp2_with fail
          refine (Setii b v L1 70000 1 _ HC2.out.f.om (by omega)).mono ?_
          rintro e w5 ⟨rfl, hp⟩
          have H5 := Lib.hid (HC2.out.last hp)
          have F1 : Hid (hasBii C 70000 = false) := Lib.hid (has_out HC2.out.c.srt HC2.out.cb)
          have F2 : Hid (hasBii L1 70000 = false) := Lib.hid (has_out HC2.out.d.srt (fun x hx => (HC2.out.f.bnd x hx).1))
          have HDD : Hid (w5.heap[D0]? = some (.deferred (some [])) ∧ w5.heap[D1]? = some (.deferred (some [])) ∧ D0 ≠ D1 ∧ wa.heap.size ≤ D0 ∧ wa.heap.size ≤ D1) := Lib.hid (by
            obtain ⟨v', _, _, h3⟩ := hp
            obtain ⟨l1, l2, l3, l4, l5, l6, l7⟩ := HLT0.out
            have a0 := HD0.out.1
            have a1 := HD1.out.1
            have a2 := HGU0.out.sz
            have a3 := (Array.getElem?_eq_some_iff.1 HD0.out.2).1
            have a4 := HR0.out.sz
            have a5 := HGU1.out.sz
            refine ⟨h3.blk (((HR0.out.trans HX1.out).trans HR1.out).blk HD0.out.2) (fun h => h.elim (fun e => by omega) (fun e => by have := l2 _ e; omega)), h3.blk (HR1.out.blk HD1.out.2) (fun h => h.elim (fun e => by omega) (fun e => by have := l2 _ e; omega)), by omega, by omega, by omega⟩)
          clear hp
          go_wp2_with fail
          refine (Getii _ vc C 70000 _ (.inl ⟨bc, rfl, H5.out.1⟩) (by omega)).mono ?_
          rintro e w6 ⟨rfl, hg6⟩
          rw [F1.out]
          have HG6 := Lib.hid hg6
          clear hg6
          go_wp2_with fail
          refine (Getii _ vd L1 70000 _ (.inl ⟨bd, rfl, H5.out.2.1.gr HG6.out⟩) (by omega)).mono ?_
          rintro e w7 ⟨rfl, hg7⟩
          rw [F2.out]
          have HG7 := Lib.hid (HG6.out.trans hg7)
          clear hg7
          go_wp2_with fail
          refine (works_any _).mono ?_
          rintro e w8 ⟨rfl, hg8⟩
          have HG8 := Lib.hid (HG7.out.trans hg8)
          have b9 := (H5.out.2.2.trans HG8.out).blk HWA.out.2.1
          obtain ⟨c9, f9⟩ := box1 b9
          have HB9 := Lib.hid b9
          clear b9 hg8
          go_wp2_with fail
          obtain ⟨d1, d2, d3, d4, d5⟩ := HDD.out
          have e3 := HWA.out.2.2.1
          have e4 := HWA.out.2.2.2.1
          have n0 : D0 ≠ br := by omega
          have n1 : D1 ≠ br := by omega
          refine retM2 (D := D0) (E := D1) (v := .bool true) rfl d3 (blkSetO (HG8.out.blk d2) (by simp; omega)) (blkSetO (HG8.out.blk d1) (by simp; omega)) ?_ ⟨rfl, ?_⟩
          · have h6 := blkSet (j := 0) (u := .bool true) HB9.out
            have h6' : (((w8.setCell ⟨br, 0, none⟩ (.bool true)).putObj D1 (.deferred none)).putObj D0 (.deferred none)).heap[br]? = some (.cells #[.bool true] 4) :=
              (World.putObj_heap_other n0.symm).trans ((World.putObj_heap_other n1.symm).trans (by simpa using h6))
            have := (box1 h6').1
            simp [results, Try.results7, go_sem, this]
          · exact ((((HWA.out.1.trans H5.out.2.2).trans HG8.out).setCell (by simp; omega) _).putObj (by omega) _).putObj (by omega) _
end Go.Proofs.Ytbhkigjmjmfbgaa
