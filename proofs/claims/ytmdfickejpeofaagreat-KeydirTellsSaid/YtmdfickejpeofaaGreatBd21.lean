/- KeydirTells: what is told of an index is as the document says. -/
import Derived.Test.YtmdfickejpeofaaGreatBd17
import Derived.Test.YtmdfickejpeofaaGreatBd14
import Derived.Test.YtmdfickejpeofaaGreatBd20
import Derived.Lib.SmallJoins
set_option linter.unusedVariables false
set_option linter.unusedSimpArgs false
namespace Go.Proofs.YtmdfickejpeofaaGreat
open Go.RowKit Go.Shelf
attribute [local go_sem] OvM cell_ovm obj_ovm
attribute [local go_sem] Oper.semAt_some

theorem sumR_at (X : IX) (f : En → Int) : ∃ (n c : Int), sumR X f = .tuple #[.int .i64 n, .int .i64 c] := by
  unfold sumR
  split
  · exact ⟨_, _, rfl⟩
  · exact ⟨_, _, rfl⟩
theorem shadV_at (X : IX) (e : En) : ∃ (b : Bool) (c : Int), shadV X e = .tuple #[.bool b, .int .i64 c] := by
  unfold shadV
  split
  · exact ⟨_, _, rfl⟩
  · split
    · exact ⟨_, _, rfl⟩
    · exact ⟨_, _, rfl⟩
theorem live_keyed {X : IX} (h : X.Wf) : ∀ x ∈ liveL X, x.2.key = x.1 := by
  intro x hx
  unfold liveL lvF at hx
  obtain ⟨k, _, hk2⟩ := List.mem_filterMap.1 hx
  obtain ⟨e, he, rfl⟩ := Option.map_eq_some_iff.1 hk2
  exact ((h.of_mem k e).1 (findE_mem he)).2
theorem findV_at (X : IX) (k : ByteArray) : ∃ (x : En) (is : Bool) (c : Int), findV X k = .tuple #[.agg #[.int .i64 x.seq, .string x.key, .bool x.del, .int .i64 x.slot, .int .i64 x.off, .int .i64 x.size], .bool is, .int .i64 c] := by
  cases h : findE X k with
  | none => exact ⟨⟨0, ⟨#[]⟩, false, 0, 0, 0⟩, false, _, findV_no h⟩
  | some x => exact ⟨x, true, _, findV_is h⟩
set_option maxRecDepth 40000 in
set_option maxHeartbeats 16000000 in
theorem KeydirTells_any (u : Int) (a : Option Addr) (len cap : Nat) (L : List Tn) (key : ByteArray) (e : En) (w : World) (hu0 : 0 ≤ u) (hu1 : u ≤ 255) (hl : L.length = len) (hle : len ≤ cap) (hcap : cap ≤ maxLen) (hs : TurnAt w a L) :
    Calls Tryz.prog 4 #[.int .u8 u, .slice a len cap, .string key, enV e] w fun r w' => r = .returned (.bool true) ∧ Gr w w' := by
  have hks7 : (nmL ++ [key]).length = 7 := rfl
  obtain ⟨e0, e1, e2, e3, e4, e5⟩ := e
  simp only [enV]
  obtain ⟨b7, hb7⟩ : ∃ q, q = w.heap.size := ⟨_, rfl⟩
  obtain ⟨w0, hw0⟩ : ∃ y, y = w.alloc (.cells #[.int .i64 e0, .string e1, .bool e2, .int .i64 e3, .int .i64 e4, .int .i64 e5] 56) := ⟨_, rfl⟩
  have HG0 : Hid (Gr w w0) := Lib.hid (by rw [hw0]; exact (Gr.refl w).alloc _)
  have HB7 : Hid (w0.heap[b7]? = some (.cells #[.int .i64 e0, .string e1, .bool e2, .int .i64 e3, .int .i64 e4, .int .i64 e5] 56)) := Lib.hid (by rw [hb7, hw0]; exact blkNew _ _)
  have HS0 : Hid (TurnAt w0 a L) := Lib.hid (fun i x hx => by
    obtain ⟨b, off, q1, q2, c0, c1, c2, c3, q3⟩ := hs i x hx
    have := HG0.out.sz
    exact ⟨b, off, q1, by omega, HG0.out.keep c0, HG0.out.keep c1, HG0.out.keep c2, HG0.out.keep c3, q3⟩)
  have HTO := Lib.hid (turnOk hs)
  have HL := Lib.hid hl
  clear hs hl
  go_enter Tryz.func4, Tryz.ntmps4
  go_upto_region 1 with fail
  rw [← hw0, ← hb7]
  clear hw0 hb7
  have d7 := (cellsOf HB7.out).1
  have z1 : w0.cell? ⟨b7, 1, none⟩ = some (.string e1) := d7 1
  clear d7
  by_cases h80 : 80 < len
  · have h80' : (80 : Int) < len := by omega
    go_wp2_with (go_at_call 18; refine (kd_works _).mono ?_; rintro e w1 ⟨rfl, hg⟩; have HG := Lib.hid hg; clear hg)
    go_ret
    exact ⟨rfl, HG0.out.trans HG.out⟩
  have h80' : ¬ (80 : Int) < len := by omega
  by_cases hk1 : 100 < key.size
  · have hk1' : (100 : Int) < key.size := by omega
    go_wp2_with (go_at_call 18; refine (kd_works _).mono ?_; rintro e w1 ⟨rfl, hg⟩; have HG := Lib.hid hg; clear hg)
    go_ret
    exact ⟨rfl, HG0.out.trans HG.out⟩
  have hk1' : ¬ (100 : Int) < key.size := by omega
  by_cases hk2 : 100 < e1.size
  · have hk2' : (100 : Int) < e1.size := by omega
    go_wp2_with (go_at_call 18; refine (kd_works _).mono ?_; rintro e w1 ⟨rfl, hg⟩; have HG := Lib.hid hg; clear hg)
    go_ret
    exact ⟨rfl, HG0.out.trans HG.out⟩
  have hk2' : ¬ (100 : Int) < e1.size := by omega
  obtain ⟨n, hn⟩ : ∃ n : Nat, 1 + u % 8 = (n : Int) := ⟨(1 + u % 8).toNat, by omega⟩
  have hn1 : 1 ≤ n := by omega
  have hn2 : n ≤ 32 := by omega
  have HST := Lib.hid (foldM_ok n hn1 hn2 len L HL.out (by omega) HTO.out)
  go_upto_region 3 with fail
  clear z1
  go_wp2_with fail
  (try rw [hn])
  refine (Begin_any (SW.start w0) n hn1 hn2).mono ?_
  rintro r w1 ⟨b, rb, mb, v1, v2, S, rfl, hs⟩
  have H1 := Lib.hid hs
  clear hs
  go_wp2_with fail
  refine (Play_any H1.out hn1 hn2 HL.out (by omega) hle hcap HS0.out).mono ?_
  rintro r w2 ⟨rfl, v1', v2', S', hs⟩
  have H2 := Lib.hid hs
  clear hs H1 HS0 HL HTO
  generalize foldM n L = st at *
  obtain ⟨X, all, nx⟩ := st
  have HFG := Lib.hid HST.out.g
  have hal : all.length ≤ 100 := by have := HST.out.n; simp only at this; omega
  simp only at HFG
  clear HST hn
  obtain ⟨av, cv, rfl, hcv, hmv, _⟩ := ownE_at (show Own w2 56 6 v2' all.length (rowE all) from H2.out.get (i := 4) rfl)
  unfold maxLen at hmv
  have HM : Hid (w2.heap[mb]? = some (mdO b rb (.slice av all.length cv) nx)) := Lib.hid (H2.out.get (i := 3) rfl)
  have HOA : Hid (Own w2 56 6 (.slice av all.length cv) all.length (rowE all)) := Lib.hid (H2.out.get (i := 4) rfl)
  have HIX : Hid (∀ W, Gr w2 W → IXP W (some ⟨b, 0, none⟩) X S') := Lib.hid (fun W g => .inl ⟨b, rfl, (show IXR w2 b X S' from H2.out.get (i := 0) rfl).gr g⟩)
  have HXL := Lib.hid HFG.out.ln
  have HRP : Hid (∀ W, Gr w2 W → RP W (some ⟨rb, 0, none⟩) X) := Lib.hid (fun W g => RP.gr (.inr ⟨rb, rfl, v1', all, (H2.out.get (i := 1) rfl).trans (by rw [HXL.out]), HFG.out.ne, H2.out.get (i := 2) rfl, HFG.out.wf, HFG.out.pm, by omega⟩) g)
  have HG2 : Hid (Gr w w2) := Lib.hid (HG0.out.trans H2.out.g)
  have HB2 : Hid (w2.heap[b7]? = some (.cells #[.int .i64 e0, .string e1, .bool e2, .int .i64 e3, .int .i64 e4, .int .i64 e5] 56)) := Lib.hid (H2.out.g.blk HB7.out)
  have hkl := ks_16 HFG.out.wf
  have HFI := Lib.hid (fun k W (g : Gr w2 W) => Find_any (HIX.out W g) k)
  have HFR := Lib.hid (fun k W (g : Gr w2 W) => rpFind (HRP.out W g) k)
  have HLI := Lib.hid (fun W (g : Gr w2 W) => live22_any (HIX.out W g))
  have HLR : Hid (∀ W, Gr w2 W → Calls Tryz.prog 23 #[.pointer (some ⟨rb, 0, none⟩)] W (fun e w' => ∃ v, e = .returned v ∧ Nw W w' 56 6 v (lvE X X.ks).length (rowE (lvE X X.ks)) ∧ Gr W w')) := Lib.hid (fun W g => rpLive (HRP.out W g))
  have HCI := Lib.hid (fun W (g : Gr w2 W) => Count_any (HIX.out W g))
  have HCR := Lib.hid (fun W (g : Gr w2 W) => rpCount (HRP.out W g))
  have HTI := Lib.hid (fun W (g : Gr w2 W) => Cost_any (HIX.out W g))
  have HTR := Lib.hid (fun W (g : Gr w2 W) => rpCost (HRP.out W g))
  have HSI := Lib.hid (fun e W (g : Gr w2 W) => Shadowed_any (HIX.out W g) e)
  have HSR := Lib.hid (fun e W (g : Gr w2 W) => rpShadowed (HRP.out W g) e)
  have HNI := Lib.hid (fun W (g : Gr w2 W) => Len_any (HIX.out W g))
  have HNR := Lib.hid (fun W (g : Gr w2 W) => rpLen (HRP.out W g))
  have HLE := Lib.hid (live_len HFG.out.wf)
  have HMWF := Lib.hid HFG.out.wf
  clear H2 HG0 HB7 HFG HXL
  obtain ⟨i0, hi, hz0, hz1, hz2⟩ := info_parts info_str
  go_upto_region 6 with fail
  go_upto_region 7 with (first
    | (go_at_call 19; (obtain ⟨be, hbe⟩ : ∃ q, q = w2.heap.size := ⟨_, rfl⟩); (obtain ⟨wE, hwE⟩ : ∃ y, y = w2.alloc (.cells #[] 9) := ⟨_, rfl⟩); rw [← hwE, ← hbe]; (have NE0 : Nw w2 wE 9 1 (.slice (some ⟨be, 0, none⟩) 0 0) 0 [] := by rw [hwE, hbe]; exact Nw.made (w0 := w2) (w := w2) (Nat.le_refl _)); (have GE0 : Gr w2 wE := by rw [hwE]; exact (Gr.refl w2).alloc _); refine (Names_any wE).mono ?_; rintro r wN ⟨rfl, hwN⟩; (obtain ⟨bn, hbn⟩ : ∃ q, q = wE.heap.size := ⟨_, rfl⟩); rw [← hbn]; (have NE : Hid (Nw w2 wN 9 1 (.slice (some ⟨be, 0, none⟩) 0 0) 0 []) := Lib.hid (by rw [hwN]; exact NE0.gr ((Gr.refl wE).alloc _))); (have HGN : Hid (Gr w2 wN) := Lib.hid (by rw [hwN]; exact GE0.alloc _)); (have HSRC : Hid (SrcAt wN 1 (some ⟨bn, 0, none⟩) 6 (kS nmL)) := Lib.hid (by rw [hwN, hbn]; exact src_all (own_lit wE 9 1 6 (kS nmL) rfl (by decide)) (fun u hu => by obtain ⟨y, _, rfl⟩ := List.mem_map.1 hu; rfl))); clear hbe hwE hwN hbn NE0 GE0)
    | (at_builtin; (refine wpList_appv _ rfl (.tmp 68) (.tmp 69) 57 rfl 9 i0 _ 1 16 Tryz.underlying57 hi hz0 hz1 hz2 rfl (by decide) (.slice (some ⟨be, 0, none⟩) 0 0) 0 [] rfl NE.out.own (some ⟨bn, 0, none⟩) 6 6 (kS nmL) rfl HSRC.out (by simp only [maxLen]; omega) (by omega) ?_); intro v3 w4 hA; rw [Nat.zero_add, List.nil_append] at hA; have N4 := Lib.hid (hA.nw NE.out HGN.out.sz); have HG4 := Lib.hid (hA.gw NE.out HGN.out); obtain ⟨a70, c70, rfl⟩ := hA.val; clear hA)
    | (at_builtin; (refine wpList_appv _ rfl (.tmp 70) (.tmp 72) 57 rfl 9 i0 _ 1 16 Tryz.underlying57 hi hz0 hz1 hz2 rfl (by decide) (.slice a70 6 c70) 6 (kS nmL) rfl (N4.out.own.gr (by (repeat (first | (with_reducible exact Gr.refl _) | assumption | (with_reducible apply Gr.from_drew) | (with_reducible apply Gr.alloc) | (with_reducible apply Gr.drew) | (with_reducible refine Gr.trans ?_ (by assumption)) | (with_reducible refine Gr.setCell ?_ (by omega) _))))) (some ⟨w4.heap.size, 0, none⟩) 1 1 ([Value.string key]) rfl ((src_newK w4 ([Value.string key]) _ 1 rfl (by simp [Value.oneCell']))) (by simp only [maxLen]; omega) (by omega) ?_); intro v3 w5 hA; have N5 := Lib.hid (hA.nw (N4.out.gr ((Gr.refl w4).alloc _)) (by have := HG4.out.sz; simp; omega)); have HG5 := Lib.hid (hA.gw (N4.out.gr ((Gr.refl w4).alloc _)) (HG4.out.alloc _)); obtain ⟨a11, c11, rfl⟩ := hA.val; clear hA)
    | fail)
  rw [show kS nmL ++ [Value.string key] = kS (nmL ++ [key]) from (kS_snoc nmL key).symm] at N5
  obtain ⟨AS, hAS⟩ : ∃ AS, AS = nmL ++ [key] := ⟨_, rfl⟩
  rw [← hAS] at N5 hks7
  clear hAS NE HSRC N4 HG4 HGN
  go_wp2_with fail
  go_loopw [12] (fun t12 wx => ∃ i : Nat, i ≤ 7 ∧ t12 = .int .i64 i ∧ Hid (Gr w5 wx)) (fun t12 _ => 7 - (intOf t12).toNat)
  case atStart => exact ⟨0, by omega, by go_num, Lib.hid (Gr.refl _)⟩
  case round =>
    obtain ⟨i, hi7, rfl, HR⟩ := hrel
    have HGR := Lib.hid (HG5.out.trans HR.out)
    by_cases hlt : i < 7
    · have hlt' : (i : Int) < 7 := by omega
      obtain ⟨k, hk⟩ : ∃ k, AS[i]? = some k := ⟨_, List.getElem?_eq_getElem (by omega)⟩
      obtain ⟨g0, rfl, hg0, y0⟩ := str1 hks7 (N5.out.own.gr HR.out) hk
      have dm := (cellsOf (HGR.out.blk HM.out)).1
      have dm0 := (dm 0).trans (show _ = some (Value.pointer (some ⟨b, 0, none⟩)) from rfl)
      clear dm
      obtain ⟨⟨x0, x1, x2, x3, x4, x5⟩, is, c, hV⟩ := findV_at X k
      have hF1 := HFI.out k
      have hF2 := HFR.out k
      rw [hV] at hF1 hF2
      simp only at hF1 hF2
      have HF1 := Lib.hid hF1
      have HF2 := Lib.hid hF2
      have HY := Lib.hid (fun W (g : Gr wr W) => g.keep y0)
      clear hF1 hF2 hV hk
      have HG := Gr.refl wr.drew
      go_wp2_with fail
      refine wp_region_flo (fun _ => False) [13] [] (by kernel_rfl) (by kernel_rfl) (fun _ h => h.elim) ?_
      refine flo_seg 8 rfl ?_
      simp only [List.take_succ_cons, List.take_zero, List.drop_succ_cons, List.drop_zero]
      repeat (go_big_quiet_step (fail))
      refine wpQuiet_nil ?_
      refine flo_effg rfl rfl rfl (fun wg1 hgg1 K hK => ?_)
      (try replace HG := Gr.trans (Gr.trans HG (by (repeat (first | (with_reducible exact Gr.refl _) | assumption | (with_reducible apply Gr.from_drew) | (with_reducible apply Gr.alloc) | (with_reducible apply Gr.drew) | (with_reducible refine Gr.trans ?_ (by assumption)) | (with_reducible refine Gr.setCell ?_ (by omega) _))))) hgg1)
      go_wp2_with ((go_at_call 20; refine Calls.mono (HF1.out _ (HGR.out.trans (Gr.of_drew HG))) ?_; rintro r w6 ⟨rfl, hg⟩; have hg5 := hg; clear hg))
      refine ⟨by (first | (refine Gr.mdh ?_ _; (repeat (first | (with_reducible exact Gr.refl _) | assumption | (with_reducible apply Gr.from_drew) | (with_reducible apply Gr.alloc) | (with_reducible apply Gr.drew) | (with_reducible refine Gr.trans ?_ (by assumption)) | (with_reducible refine Gr.setCell ?_ (by omega) _))); done) | (repeat (first | (with_reducible exact Mdh.refl _ _) | (with_reducible refine Mdh.setCell ?_ (by simp) _) | (with_reducible refine Mdh.setNew ?_ (by simp) _) | (with_reducible apply Mdh.alloc) | (with_reducible apply Mdh.from_drew) | (with_reducible apply Mdh.drew) | (with_reducible refine Mdh.gr ?_ (by assumption))))), ?_⟩
      refine flo_seg 4 rfl ?_
      simp only [List.take_succ_cons, List.take_zero, List.drop_succ_cons, List.drop_zero]
      repeat (go_big_quiet_step (fail))
      refine wpQuiet_nil ?_
      refine flo_float (fun b => .pointer (some ⟨b, 0, none⟩)) (.cells #[.int .i64 0, .string ⟨#[]⟩, .bool false, .int .i64 0, .int .i64 0, .int .i64 0] 56) rfl rfl (fun w => by kernel_rfl) (fun wf1 fb1 hgf1 fl1 fh1 ft1 fo1 => ?_)
      (try replace HG := Gr.trans (Gr.trans HG (by (repeat (first | (with_reducible exact Gr.refl _) | assumption | (with_reducible apply Gr.from_drew) | (with_reducible apply Gr.alloc) | (with_reducible apply Gr.drew) | (with_reducible refine Gr.trans ?_ (by assumption)) | (with_reducible refine Gr.setCell ?_ (by omega) _))))) hgf1)
      (try have fc1 := (cellsOf fo1).1)
      (try have ff1 := (cellsOf fo1).2)
      refine flo_eff rfl rfl rfl rfl (fun K hK => ?_)
      go_wp2
      refine ⟨by (first | (refine Gr.mdh ?_ _; (repeat (first | (with_reducible exact Gr.refl _) | assumption | (with_reducible apply Gr.from_drew) | (with_reducible apply Gr.alloc) | (with_reducible apply Gr.drew) | (with_reducible refine Gr.trans ?_ (by assumption)) | (with_reducible refine Gr.setCell ?_ (by omega) _))); done) | (repeat (first | (with_reducible exact Mdh.refl _ _) | (with_reducible refine Mdh.setCell ?_ (by simp) _) | (with_reducible refine Mdh.setNew ?_ (by simp) _) | (with_reducible apply Mdh.alloc) | (with_reducible apply Mdh.from_drew) | (with_reducible apply Mdh.drew) | (with_reducible refine Mdh.gr ?_ (by assumption))))), ?_⟩
      refine flo_seg 2 rfl ?_
      simp only [List.take_succ_cons, List.take_zero, List.drop_succ_cons, List.drop_zero]
      repeat (go_big_quiet_step (fail))
      refine wpQuiet_nil ?_
      refine flo_nil ?_
      obtain ⟨W10, hW10⟩ : ∃ y, y = ((((((wf1.setCell ⟨fb1, 0, none⟩ (.int .i64 x0)).setCell ⟨fb1, 1, none⟩ (.string x1)).setCell ⟨fb1, 2, none⟩ (.bool x2)).setCell ⟨fb1, 3, none⟩ (.int .i64 x3)).setCell ⟨fb1, 4, none⟩ (.int .i64 x4)).setCell ⟨fb1, 5, none⟩ (.int .i64 x5)) := ⟨_, rfl⟩
      have HX13 : Hid (W10.heap[fb1]? = some (.cells #[.int .i64 x0, .string x1, .bool x2, .int .i64 x3, .int .i64 x4, .int .i64 x5] 56)) := Lib.hid (by rw [hW10]; exact blk6 fo1)
      have HG10 : Hid (Gr wr W10) := Lib.hid (by rw [hW10]; exact (Gr.of_drew HG).cell6 fl1 _ _ _ _ _ _)
      rw [← hW10]
      obtain ⟨b13, hb13⟩ : ∃ q, q = fb1 := ⟨_, rfl⟩
      rw [← hb13] at HX13 ⊢
      clear hW10 hb13 fl1 fh1 ft1 fo1 fc1 ff1 HG hgf1 hgg1 hg5 dm0 y0
      have y0 := HY.out _ HG10.out
      have dm1 := ((cellsOf ((HGR.out.trans HG10.out).blk HM.out)).1 1).trans (show _ = some (Value.pointer (some ⟨rb, 0, none⟩)) from rfl)
      have HG := Gr.refl W10.drew
      go_wp2_with fail
      refine wp_region_flo (fun _ => False) [16] [] (by kernel_rfl) (by kernel_rfl) (fun _ h => h.elim) ?_
      refine flo_seg 8 rfl ?_
      simp only [List.take_succ_cons, List.take_zero, List.drop_succ_cons, List.drop_zero]
      repeat (go_big_quiet_step (fail))
      refine wpQuiet_nil ?_
      refine flo_effg rfl rfl rfl (fun wg1 hgg1 K hK => ?_)
      (try replace HG := Gr.trans (Gr.trans HG (by (repeat (first | (with_reducible exact Gr.refl _) | assumption | (with_reducible apply Gr.from_drew) | (with_reducible apply Gr.alloc) | (with_reducible apply Gr.drew) | (with_reducible refine Gr.trans ?_ (by assumption)) | (with_reducible refine Gr.setCell ?_ (by omega) _))))) hgg1)
      go_wp2_with ((go_at_call 21; refine Calls.mono (HF2.out _ ((HGR.out.trans HG10.out).trans (Gr.of_drew HG))) ?_; rintro r w7 ⟨rfl, hg⟩; have hg5 := hg; clear hg))
      refine ⟨by (first | (refine Gr.mdh ?_ _; (repeat (first | (with_reducible exact Gr.refl _) | assumption | (with_reducible apply Gr.from_drew) | (with_reducible apply Gr.alloc) | (with_reducible apply Gr.drew) | (with_reducible refine Gr.trans ?_ (by assumption)) | (with_reducible refine Gr.setCell ?_ (by omega) _))); done) | (repeat (first | (with_reducible exact Mdh.refl _ _) | (with_reducible refine Mdh.setCell ?_ (by simp) _) | (with_reducible refine Mdh.setNew ?_ (by simp) _) | (with_reducible apply Mdh.alloc) | (with_reducible apply Mdh.from_drew) | (with_reducible apply Mdh.drew) | (with_reducible refine Mdh.gr ?_ (by assumption))))), ?_⟩
      refine flo_seg 4 rfl ?_
      simp only [List.take_succ_cons, List.take_zero, List.drop_succ_cons, List.drop_zero]
      repeat (go_big_quiet_step (fail))
      refine wpQuiet_nil ?_
      refine flo_float (fun b => .pointer (some ⟨b, 0, none⟩)) (.cells #[.int .i64 0, .string ⟨#[]⟩, .bool false, .int .i64 0, .int .i64 0, .int .i64 0] 56) rfl rfl (fun w => by kernel_rfl) (fun wf1 fb1 hgf1 fl1 fh1 ft1 fo1 => ?_)
      (try replace HG := Gr.trans (Gr.trans HG (by (repeat (first | (with_reducible exact Gr.refl _) | assumption | (with_reducible apply Gr.from_drew) | (with_reducible apply Gr.alloc) | (with_reducible apply Gr.drew) | (with_reducible refine Gr.trans ?_ (by assumption)) | (with_reducible refine Gr.setCell ?_ (by omega) _))))) hgf1)
      (try have fc1 := (cellsOf fo1).1)
      (try have ff1 := (cellsOf fo1).2)
      refine flo_eff rfl rfl rfl rfl (fun K hK => ?_)
      go_wp2
      refine ⟨by (first | (refine Gr.mdh ?_ _; (repeat (first | (with_reducible exact Gr.refl _) | assumption | (with_reducible apply Gr.from_drew) | (with_reducible apply Gr.alloc) | (with_reducible apply Gr.drew) | (with_reducible refine Gr.trans ?_ (by assumption)) | (with_reducible refine Gr.setCell ?_ (by omega) _))); done) | (repeat (first | (with_reducible exact Mdh.refl _ _) | (with_reducible refine Mdh.setCell ?_ (by simp) _) | (with_reducible refine Mdh.setNew ?_ (by simp) _) | (with_reducible apply Mdh.alloc) | (with_reducible apply Mdh.from_drew) | (with_reducible apply Mdh.drew) | (with_reducible refine Mdh.gr ?_ (by assumption))))), ?_⟩
      refine flo_seg 2 rfl ?_
      simp only [List.take_succ_cons, List.take_zero, List.drop_succ_cons, List.drop_zero]
      repeat (go_big_quiet_step (fail))
      refine wpQuiet_nil ?_
      refine flo_nil ?_
      obtain ⟨W11, hW11⟩ : ∃ y, y = ((((((wf1.setCell ⟨fb1, 0, none⟩ (.int .i64 x0)).setCell ⟨fb1, 1, none⟩ (.string x1)).setCell ⟨fb1, 2, none⟩ (.bool x2)).setCell ⟨fb1, 3, none⟩ (.int .i64 x3)).setCell ⟨fb1, 4, none⟩ (.int .i64 x4)).setCell ⟨fb1, 5, none⟩ (.int .i64 x5)) := ⟨_, rfl⟩
      have HX16 : Hid (W11.heap[fb1]? = some (.cells #[.int .i64 x0, .string x1, .bool x2, .int .i64 x3, .int .i64 x4, .int .i64 x5] 56)) := Lib.hid (by rw [hW11]; exact blk6 fo1)
      have HG11 : Hid (Gr W10 W11) := Lib.hid (by rw [hW11]; exact (Gr.of_drew HG).cell6 fl1 _ _ _ _ _ _)
      rw [← hW11]
      clear hW11 fl1 fh1 ft1 fo1 fc1 ff1 HG hgf1 hgg1 hg5 dm1 y0
      have d13 := (cellsOf (HG11.out.blk HX13.out)).1
      have d16 := (cellsOf HX16.out).1
      have k1 := fun w => neqE_run ⟨x0, x1, x2, x3, x4, x5⟩ (⟨x0, x1, x2, x3, x4, x5⟩ : En) w
      have hd : decide ((⟨x0, x1, x2, x3, x4, x5⟩ : En) = ⟨x0, x1, x2, x3, x4, x5⟩) = true := decide_eq_true rfl
      rw [hd] at k1
      simp only at k1
      go_wp2_with fail
      go_roundw
      case rel => exact ⟨i + 1, by omega, by go_num, Lib.hid ((HR.out.trans HG10.out).trans HG11.out)⟩
      case measure => simp [intOf]; omega
    · have hlt' : ¬ (i : Int) < 7 := by omega
      obtain ⟨WA, hWA⟩ : ∃ WA, WA = wr := ⟨_, rfl⟩
      rw [← hWA] at HGR ⊢
      have HMA : Hid (∀ W, Gr WA W → W.cell? ⟨mb, 0, none⟩ = some (.pointer (some ⟨b, 0, none⟩)) ∧ W.cell? ⟨mb, 1, none⟩ = some (.pointer (some ⟨rb, 0, none⟩)) ∧ W.cell? ⟨mb, 2, none⟩ = some (.slice av all.length cv)) := Lib.hid (fun W g => by
        have dm := (cellsOf ((HGR.out.trans g).blk HM.out)).1
        exact ⟨(dm 0).trans rfl, (dm 1).trans rfl, (dm 2).trans rfl⟩)
      have HWA := Lib.hid (HG2.out.trans HGR.out)
      clear hWA HR hlt hi7 N5 hks7
      obtain ⟨dm0, dm1, dm2⟩ := HMA.out WA (Gr.refl _)
      go_wp2_with fail
      refine Calls.mono (HLI.out _ HGR.out) ?_
      rintro r wB ⟨v19, v20, rfl, ho19, ho20, hg⟩
      have HGB := Lib.hid hg
      have HO19 := Lib.hid ho19
      have HO20 := Lib.hid ho20
      clear ho19 ho20 hg dm0 dm1 dm2
      obtain ⟨dm0, dm1, dm2⟩ := HMA.out _ HGB.out
      go_wp2_with fail
      refine Calls.mono (HLR.out _ (HGR.out.trans HGB.out)) ?_
      rintro r wC ⟨v21, rfl, hn, hg⟩
      have HGC := Lib.hid (HGB.out.trans hg)
      have HO21 := Lib.hid (hn.own)
      have HO19C := Lib.hid (HO19.out.gr hg)
      have HO20C := Lib.hid (HO20.out.gr hg)
      clear hn hg dm0 dm1 dm2 HO19 HO20
      have hLV : lvE X X.ks = (liveL X).map (fun x => x.2) := rfl
      have hlv2 : (lvE X X.ks).length = (liveL X).length := live_lv X
      have HLK := Lib.hid (live_keyed HMWF.out)
      rw [hlv2, hLV] at HO21
      obtain ⟨a21, c21, rfl, hc21, hm21, _⟩ := ownE_at (show Own wC 56 6 v21 ((liveL X).map (fun x => x.2)).length (rowE ((liveL X).map (fun x => x.2))) by rw [List.length_map]; exact HO21.out)
      obtain ⟨a20, c20, rfl, hc20, hm20, _⟩ := ownE_at (show Own wC 56 6 v20 ((liveL X).map (fun x => x.2)).length (rowE ((liveL X).map (fun x => x.2))) by rw [List.length_map]; exact HO20C.out)
      obtain ⟨a19, c19, rfl, hc19, hm19, _⟩ := ownS_at (show Own wC 9 1 v19 ((liveL X).map (fun x => x.1)).length (kS ((liveL X).map (fun x => x.1))) by rw [List.length_map]; exact HO19C.out)
      simp only [List.length_map] at hc21 hc20 hc19 HO21 HO20C HO19C ⊢
      unfold maxLen at hm21 hm20 hm19
      have hle := HLE.out
      have HSAME := Lib.hid (SameE ((liveL X).map (fun x => x.2)) ((liveL X).map (fun x => x.2)) (.slice a20 (liveL X).length c20) (.slice a21 (liveL X).length c21) wC (by rw [List.length_map]; exact HO20C.out) (by rw [List.length_map]; exact HO21.out) (by rw [List.length_map]; omega))
      rw [decide_eq_true rfl] at HSAME
      have HMK : Hid (∀ (j : Nat) k, ((liveL X).map (fun x => x.1))[j]? = some k → ∃ x, ((liveL X).map (fun x => x.2))[j]? = some x ∧ x.key = k) := Lib.hid (fun j k h => by
        rw [List.getElem?_map] at h
        obtain ⟨y, hy, rfl⟩ := Option.map_eq_some_iff.1 h
        exact ⟨y.2, by rw [List.getElem?_map, hy]; rfl, HLK.out y (List.mem_of_getElem? hy)⟩)
      have hl1 : ((liveL X).map (fun x => x.1)).length = (liveL X).length := List.length_map _
      have hl2 : ((liveL X).map (fun x => x.2)).length = (liveL X).length := List.length_map _
      obtain ⟨N, hN⟩ : ∃ N, N = (liveL X).length := ⟨_, rfl⟩
      rw [← hN] at HO19C HO21 HSAME hl1 hl2 hle hc19 hc21 ⊢
      generalize (liveL X).map (fun x => x.1) = KL at *
      generalize (liveL X).map (fun x => x.2) = EL at *
      clear hN hLV hlv2 HO20C HLK hc20 hm20
      go_wp2_with fail
      refine Calls.mono HSAME.out ?_
      rintro r wD ⟨rfl, hg⟩
      have HGD := Lib.hid (HGC.out.trans hg)
      have HO19D := Lib.hid (HO19C.out.gr hg)
      have HO21D := Lib.hid (HO21.out.gr hg)
      clear hg HO19C HO21 HSAME HGC HGB
      go_wp2_with fail
      go_loopw [22] (fun t22 wx => ∃ i : Nat, i ≤ N ∧ t22 = .int .i64 i ∧ Hid (Gr wD wx)) (fun t22 _ => N - (intOf t22).toNat)
      case atStart => exact ⟨0, by omega, by go_num, Lib.hid (Gr.refl _)⟩
      case round =>
        obtain ⟨i, hiN, rfl, HR⟩ := hrel
        by_cases hlt : i < N
        · have hlt' : (i : Int) < N := by omega
          obtain ⟨k, hk⟩ : ∃ k, KL[i]? = some k := ⟨_, List.getElem?_eq_getElem (by omega)⟩
          obtain ⟨x, hx, hxk⟩ := HMK.out i k hk
          obtain ⟨g0, rfl, hg0, y0⟩ := str1 hl1 (HO19D.out.gr HR.out) hk
          obtain ⟨g1, rfl, hg1, _, z1, _, _, _, _⟩ := ent6 (show Own wr 56 6 (.slice a21 EL.length c21) EL.length (rowE EL) by rw [hl2]; exact HO21D.out.gr HR.out) hx
          rw [hxk] at z1
          have hkb : (k.toList == k.toList) = true := (str_beq k k).trans (decide_eq_true rfl)
          have hkb2 : (k.toList != k.toList) = false := by rw [bne, hkb]; rfl
          clear hk hx hxk
          go_wp2_with fail
          refine wp_region_flo (fun _ => False) [] [] (by kernel_rfl) (by kernel_rfl) (fun _ h => h.elim) ?_
          refine flo_seg 10 rfl ?_
          simp only [List.take_succ_cons, List.take_zero, List.drop_succ_cons, List.drop_zero]
          repeat (go_big_quiet_step (fail))
          refine wpQuiet_nil ?_
          refine flo_nil ?_
          go_wp2_with fail
          go_roundw
          case rel => exact ⟨i + 1, by omega, by go_num, Lib.hid (HR.out.trans (Gr.refl _).drew)⟩
          case measure => simp [intOf]; omega
        · have hlt' : ¬ (i : Int) < N := by omega
          have HGE := Lib.hid (HGD.out.trans HR.out)
          clear HR hlt hiN HO19D HO21D HGD HMK
          obtain ⟨WB, hWB⟩ : ∃ WB, WB = wr := ⟨_, rfl⟩
          rw [← hWB] at HGE ⊢
          clear hWB
          obtain ⟨n1, q1, hs1⟩ := sumR_at X (fun _ => 1)
          obtain ⟨n2, q2, hs2⟩ := sumR_at X (fun e => e.size)
          have hC1 := HCI.out
          have hC2 := HCR.out
          have hC3 := HTI.out
          have hC4 := HTR.out
          rw [hs1] at hC1 hC2
          rw [hs2] at hC3 hC4
          have HC1 := Lib.hid hC1
          have HC2 := Lib.hid hC2
          have HC3 := Lib.hid hC3
          have HC4 := Lib.hid hC4
          clear hC1 hC2 hC3 hC4 hs1 hs2 HCI HCR HTI HTR
          obtain ⟨dm0, dm1, dm2⟩ := HMA.out _ HGE.out
          go_wp2_with fail
          refine Calls.mono (HC1.out _ (HGR.out.trans HGE.out)) ?_
          rintro r wF ⟨rfl, hg⟩
          have HGF := Lib.hid (HGE.out.trans hg)
          clear hg dm0 dm1 dm2
          obtain ⟨dm0, dm1, dm2⟩ := HMA.out _ HGF.out
          go_wp2_with fail
          refine Calls.mono (HC2.out _ (HGR.out.trans HGF.out)) ?_
          rintro r wG ⟨rfl, hg⟩
          have HGG := Lib.hid (HGF.out.trans hg)
          clear hg dm0 dm1 dm2
          obtain ⟨dm0, dm1, dm2⟩ := HMA.out _ HGG.out
          go_wp2_with fail
          refine Calls.mono (HC3.out _ (HGR.out.trans HGG.out)) ?_
          rintro r wH ⟨rfl, hg⟩
          have HGH := Lib.hid (HGG.out.trans hg)
          clear hg dm0 dm1 dm2
          obtain ⟨dm0, dm1, dm2⟩ := HMA.out _ HGH.out
          go_wp2_with fail
          refine Calls.mono (HC4.out _ (HGR.out.trans HGH.out)) ?_
          rintro r wI ⟨rfl, hg⟩
          have HGI := Lib.hid (HGH.out.trans hg)
          clear hg dm0 dm1 dm2
          obtain ⟨dm0, dm1, dm2⟩ := HMA.out _ HGI.out
          go_upto_region 29 with fail
          obtain ⟨j0, hj, hy0, hy1, hy2⟩ := info_parts infoIten
          have d7 := (cellsOf ((HGR.out.trans HGI.out).blk HB2.out)).1
          have SRC : Hid (SrcAt wI.drew 6 av all.length (rowE all)) := Lib.hid (src_all (HOA.out.gr ((HGR.out.trans HGI.out).trans (Gr.refl wI).drew)) (rowE_one all))
          have HG := Gr.refl wI.drew
          refine wp_region_flo (fun _ => False) [209] [] (by kernel_rfl) (by kernel_rfl) (fun _ h => h.elim) ?_
          refine flo_effg rfl rfl rfl (fun wg1 hgg1 K hK => ?_)
          (try replace HG := Gr.trans (Gr.trans HG (by (repeat (first | (with_reducible exact Gr.refl _) | assumption | (with_reducible apply Gr.from_drew) | (with_reducible apply Gr.alloc) | (with_reducible apply Gr.drew) | (with_reducible refine Gr.trans ?_ (by assumption)) | (with_reducible refine Gr.setCell ?_ (by omega) _))))) hgg1)
          go_wp2
          refine ⟨by (first | (refine Gr.mdh ?_ _; (repeat (first | (with_reducible exact Gr.refl _) | assumption | (with_reducible apply Gr.from_drew) | (with_reducible apply Gr.alloc) | (with_reducible apply Gr.drew) | (with_reducible refine Gr.trans ?_ (by assumption)) | (with_reducible refine Gr.setCell ?_ (by omega) _))); done) | (repeat (first | (with_reducible exact Mdh.refl _ _) | (with_reducible refine Mdh.setCell ?_ (by simp) _) | (with_reducible refine Mdh.setNew ?_ (by simp) _) | (with_reducible apply Mdh.alloc) | (with_reducible apply Mdh.from_drew) | (with_reducible apply Mdh.drew) | (with_reducible refine Mdh.gr ?_ (by assumption))))), ?_⟩
          refine flo_seg 4 rfl ?_
          simp only [List.take_succ_cons, List.take_zero, List.drop_succ_cons, List.drop_zero]
          repeat (go_big_quiet_step (fail))
          refine wpQuiet_nil ?_
          refine flo_effg rfl rfl rfl (fun wg2 hgg2 K hK => ?_)
          (try replace HG := Gr.trans (Gr.trans HG (by (repeat (first | (with_reducible exact Gr.refl _) | assumption | (with_reducible apply Gr.from_drew) | (with_reducible apply Gr.alloc) | (with_reducible apply Gr.drew) | (with_reducible refine Gr.trans ?_ (by assumption)) | (with_reducible refine Gr.setCell ?_ (by omega) _))))) hgg2)
          refine wp_appv _ (.tmp 202) (.tmp 206) 37 rfl 56 j0 _ 6 56 Tryz.underlying37 hj hy0 hy1 hy2 rfl (by decide) (.slice (some ⟨wg1.heap.size, 0, none⟩) 0 0) 0 [] rfl ((Nw.made (w0 := wI.drew) (w := wg1) hgg1.sz).own.gr hgg2) av all.length cv (rowE all) rfl (SRC.out.gr HG) (by simp only [maxLen]; omega) (by omega) (fun k1 x1 hk1 => ?_); rw [Nat.zero_add, List.nil_append] at hk1; (have n1 := hk1.nw ((Nw.made (w0 := wI.drew) (w := wg1) hgg1.sz).gr hgg2) HG.sz); (replace HG := hk1.gw ((Nw.made (w0 := wI.drew) (w := wg1) hgg1.sz).gr hgg2) HG); obtain ⟨a1, c1, rfl⟩ := hk1.val; refine hK _ _ ⟨hk1.mdh (fun q hq => by rw [ownB hq]; simp), ?_⟩; simp only [Act.put, List.setIfInBounds_toArray, List.set_cons_succ, List.set_cons_zero]
          refine flo_seg 1 rfl ?_
          simp only [List.take_succ_cons, List.take_zero, List.drop_succ_cons, List.drop_zero]
          repeat (go_big_quiet_step (fail))
          refine wpQuiet_nil ?_
          refine flo_float (fun b => .slice (some ⟨b, 0, none⟩) 1 1) (_) rfl rfl (fun w => by simp [go_sem]; rfl) (fun wf1 fb1 hgf1 fl1 fh1 ft1 fo1 => ?_)
          (try replace HG := Gr.trans (Gr.trans HG (by (repeat (first | (with_reducible exact Gr.refl _) | assumption | (with_reducible apply Gr.from_drew) | (with_reducible apply Gr.alloc) | (with_reducible apply Gr.drew) | (with_reducible refine Gr.trans ?_ (by assumption)) | (with_reducible refine Gr.setCell ?_ (by omega) _))))) hgf1)
          (try have fc1 := (cellsOf fo1).1)
          (try have ff1 := (cellsOf fo1).2)
          refine flo_eff rfl rfl rfl rfl (fun K hK => ?_)
          refine wp_appv _ (.tmp 207) (.tmp 209) 37 rfl 56 j0 _ 6 56 Tryz.underlying37 hj hy0 hy1 hy2 rfl (by decide) (.slice a1 all.length c1) all.length (rowE all) rfl (n1.own.gr hgf1) (some ⟨fb1, 0, none⟩) 1 1 (enC ⟨e0, e1, e2, e3, e4, e5⟩) rfl (src_blk (e := ⟨e0, e1, e2, e3, e4, e5⟩) fo1) (by simp only [maxLen]; omega) (by omega) (fun k2 x2 hk2 => ?_); (have n2 := hk2.nw (n1.gr hgf1) HG.sz); (have m2 := hk2.gw (n1.gr hgf1) HG); obtain ⟨a2, c2, rfl⟩ := hk2.val; refine hK _ _ ⟨hk2.mdh (fun q hq => (hk1.2.1 q hq).elim (fun h => by rw [ownB h]; exact .inr (.inl (.inl (.inr ⟨Nat.le_refl _, by simp⟩)))) (fun h => .inr (.inl (.inr ⟨h, hk1.1.lt hq⟩)))), ?_⟩; simp only [Act.put, List.setIfInBounds_toArray, List.set_cons_succ, List.set_cons_zero]
          refine flo_seg 1 rfl ?_
          simp only [List.take_succ_cons, List.take_zero, List.drop_succ_cons, List.drop_zero]
          repeat (go_big_quiet_step (fail))
          refine wpQuiet_nil ?_
          refine flo_nil ?_
          have HN31 : Hid (Own x2 56 6 (.slice a2 (all.length + 1) c2) (all ++ [(⟨e0, e1, e2, e3, e4, e5⟩ : En)]).length (rowE (all ++ [(⟨e0, e1, e2, e3, e4, e5⟩ : En)]))) := Lib.hid (by rw [rowE_snoc, List.length_append]; exact n2.own)
          have HGJ : Hid (Gr WA x2) := Lib.hid (HGI.out.trans ((Gr.refl wI).drew.trans m2))
          have hAL : (all ++ [(⟨e0, e1, e2, e3, e4, e5⟩ : En)]).length = all.length + 1 := by rw [List.length_append]; rfl
          rw [hAL] at HN31
          generalize all ++ [(⟨e0, e1, e2, e3, e4, e5⟩ : En)] = AL at *
          clear n1 n2 m2 hk1 hk2 HG SRC d7 dm0 dm1 dm2
          obtain ⟨M, hM⟩ : ∃ M, M = all.length + 1 := ⟨_, rfl⟩
          have hM2 : (all.length : Int) + 1 = M := by omega
          rw [← hM] at HN31 hAL ⊢
          clear hM
          go_wp2_with fail
          go_loopw [32] (fun t32 wx => ∃ i : Nat, i ≤ M ∧ t32 = .int .i64 i ∧ Hid (Gr x2 wx)) (fun t32 _ => M - (intOf t32).toNat)
          case atStart => exact ⟨0, by omega, by go_num, Lib.hid (Gr.refl _)⟩
          case round =>
            obtain ⟨i, hiM, rfl, HR⟩ := hrel
            obtain ⟨dm0, dm1, dm2⟩ := HMA.out _ (HGJ.out.trans HR.out)
            by_cases hlt : i < M
            · have hlt' : (i : Int) < M := by omega
              obtain ⟨x, hx⟩ : ∃ x, AL[i]? = some x := ⟨_, List.getElem?_eq_getElem (by omega)⟩
              have HOX : Hid (∀ W, Gr wr W → Own W 56 6 (.slice a2 AL.length c2) AL.length (rowE AL)) := Lib.hid (fun W g => by have := (HN31.out.gr HR.out).gr g; rw [hAL]; exact this)
              obtain ⟨g0, hg0e, hg0, y0, y1, y2, y3, y4, y5⟩ := ent6 (HOX.out _ (Gr.refl _)) hx
              subst hg0e
              have HEY := Lib.hid (fun W (g : Gr wr W) => ent6g (HOX.out W g) hx)
              obtain ⟨sb, sc, hsv⟩ := shadV_at X x
              have hS1 := HSI.out x
              have hS2 := HSR.out x
              rw [hsv] at hS1 hS2
              have HGK := Lib.hid ((HGR.out.trans HGJ.out).trans HR.out)
              clear hx hsv
              obtain ⟨x0, x1, x2', x3, x4, x5⟩ := x
              simp only [enV] at hS1 hS2
              simp only at y0 y1 y2 y3 y4 y5 HEY
              have HS1 := Lib.hid hS1
              have HS2 := Lib.hid hS2
              clear hS1 hS2
              go_wp2_with fail
              refine wp_region_flo (fun _ => False) [] [] (by kernel_rfl) (by kernel_rfl) (fun _ h => h.elim) ?_
              refine flo_seg 8 rfl ?_
              simp only [List.take_succ_cons, List.take_zero, List.drop_succ_cons, List.drop_zero]
              repeat (go_big_quiet_step (fail))
              refine wpQuiet_nil ?_
              refine flo_eff rfl rfl rfl rfl (fun K hK => ?_)
              go_wp2_with ((go_at_call 29; refine Calls.mono (HS1.out _ (HGK.out.trans (Gr.refl wr).drew)) ?_; rintro r wK ⟨rfl, hg⟩; have HGW := Lib.hid ((Gr.refl wr).drew.trans hg); have HGM := Lib.hid hg; clear hg))
              refine ⟨by exact HGM.out.mdh _, ?_⟩
              refine flo_seg 5 rfl ?_
              simp only [List.take_succ_cons, List.take_zero, List.drop_succ_cons, List.drop_zero]
              repeat (go_big_quiet_step (fail))
              refine wpQuiet_nil ?_
              refine flo_nil ?_
              clear y0 y1 y2 y3 y4 y5 dm0 dm1 dm2
              obtain ⟨dm0, dm1, dm2⟩ := HMA.out _ ((HGJ.out.trans HR.out).trans HGW.out)
              obtain ⟨_, y0, y1, y2, y3, y4, y5⟩ := HEY.out _ HGW.out
              go_wp2_with fail
              refine wp_region_flo (fun _ => False) [] [] (by kernel_rfl) (by kernel_rfl) (fun _ h => h.elim) ?_
              refine flo_seg 8 rfl ?_
              simp only [List.take_succ_cons, List.take_zero, List.drop_succ_cons, List.drop_zero]
              repeat (go_big_quiet_step (fail))
              refine wpQuiet_nil ?_
              refine flo_eff rfl rfl rfl rfl (fun K hK => ?_)
              go_wp2_with ((go_at_call 30; refine Calls.mono (HS2.out _ ((HGK.out.trans HGW.out).trans (Gr.refl wK).drew)) ?_; rintro r wL ⟨rfl, hg⟩; have HGV := Lib.hid ((HGW.out.trans (Gr.refl wK).drew).trans hg); have HGN := Lib.hid hg; clear hg))
              refine ⟨by exact HGN.out.mdh _, ?_⟩
              refine flo_seg 5 rfl ?_
              simp only [List.take_succ_cons, List.take_zero, List.drop_succ_cons, List.drop_zero]
              repeat (go_big_quiet_step (fail))
              refine wpQuiet_nil ?_
              refine flo_nil ?_
              clear y0 y1 y2 y3 y4 y5 dm0 dm1 dm2
              go_wp2_with fail
              go_roundw
              case rel => exact ⟨i + 1, by omega, by go_num, Lib.hid (HR.out.trans HGV.out)⟩
              case measure => simp [intOf]; omega
            · have hlt' : ¬ (i : Int) < M := by omega
              have HGK := Lib.hid (HGJ.out.trans HR.out)
              go_wp2_with fail
              refine wp_region_flo (fun _ => False) [] [] (by kernel_rfl) (by kernel_rfl) (fun _ h => h.elim) ?_
              refine flo_seg 4 rfl ?_
              simp only [List.take_succ_cons, List.take_zero, List.drop_succ_cons, List.drop_zero]
              repeat (go_big_quiet_step (fail))
              refine wpQuiet_nil ?_
              refine flo_eff rfl rfl rfl rfl (fun K hK => ?_)
              go_wp2_with ((go_at_call 16; refine Calls.mono (HNI.out _ ((HGR.out.trans HGK.out).trans (Gr.refl wr).drew)) ?_; rintro r wK ⟨rfl, rfl⟩))
              refine ⟨by exact Mdh.refl _ _, ?_⟩
              refine flo_seg 4 rfl ?_
              simp only [List.take_succ_cons, List.take_zero, List.drop_succ_cons, List.drop_zero]
              repeat (go_big_quiet_step (fail))
              refine wpQuiet_nil ?_
              refine flo_eff rfl rfl rfl rfl (fun K hK => ?_)
              go_wp2_with ((go_at_call 17; refine Calls.mono (HNR.out _ ((HGR.out.trans HGK.out).trans (Gr.refl wr).drew)) ?_; rintro r wL ⟨rfl, rfl⟩))
              refine ⟨by exact Mdh.refl _ _, ?_⟩
              refine flo_seg 2 rfl ?_
              simp only [List.take_succ_cons, List.take_zero, List.drop_succ_cons, List.drop_zero]
              repeat (go_big_quiet_step (fail))
              refine wpQuiet_nil ?_
              refine flo_eff rfl rfl rfl rfl (fun K hK => ?_)
              go_wp2_with ((go_at_call 18; refine (kd_works _).mono ?_; rintro r wL ⟨rfl, hg⟩; have HGV := Lib.hid hg; clear hg))
              refine ⟨by exact HGV.out.mdh _, ?_⟩
              refine flo_seg 2 rfl ?_
              simp only [List.take_succ_cons, List.take_zero, List.drop_succ_cons, List.drop_zero]
              repeat (go_big_quiet_step (fail))
              refine wpQuiet_nil ?_
              refine flo_nil ?_
              go_wp2_with fail
              go_ret
              exact ⟨rfl, ((HWA.out.trans HGK.out).trans (Gr.refl wr).drew).trans HGV.out⟩
end Go.Proofs.YtmdfickejpeofaaGreat

/- A struct of five one-cell fields by value: the howto's block (extra-structs, 2), copied as it directs. -/
set_option linter.unusedVariables false
set_option linter.unusedSimpArgs false
namespace Go.Proofs.YtmdfickejpeofaaGreat
open Go.Joins Go.ChangeShapes Go.WideShapes Go.RowKit Go.Deep
section
variable {H : Type} {enc : TypeId × Value → H} {P : Program} {w : World} {base : Nat} {spare : Nat → Bool} {held : Bool}
theorem open_agg5 {r : Reach} {b0 : Nat} {t : TypeId} {f0 f1 f2 f3 f4 : Field} {v : Value} {d : DataW H} {p : List MemPlace} (hs : P.underlying t = some (.struct #[f0, f1, f2, f3, f4])) (hone : oneCellFields P #[f0, f1, f2, f3, f4] = true) (hC : P.cellsOf t = 5)
    (hv : Value.okWide P w r b0 t v) (h : DataW.Trod enc P w base spare held t v d p) :
    ∃ (v0 v1 v2 v3 v4 : Value) (y0 y1 y2 y3 y4 : DataW H × List MemPlace) (n : Nat), v = .agg #[v0, v1, v2, v3, v4] ∧ d = .agg [y0.1, y1.1, y2.1, y3.1, y4.1] ∧ p = y0.2 ++ (y1.2 ++ (y2.2 ++ (y3.2 ++ y4.2))) ∧
      DataW.trod enc P w base spare held n f0.type [v0] = some y0 ∧ DataW.trod enc P w base spare held n f1.type [v1] = some y1 ∧ DataW.trod enc P w base spare held n f2.type [v2] = some y2 ∧ DataW.trod enc P w base spare held n f3.type [v3] = some y3 ∧ DataW.trod enc P w base spare held n f4.type [v4] = some y4 := by
  obtain ⟨cs, rfl, hsz⟩ := okWide_struct hs hv
  obtain ⟨l⟩ := cs
  match l, hsz.trans hC with
  | [c0, c1, c2, c3, c4], _ =>
    obtain ⟨fuel, hf⟩ := h
    obtain ⟨xs, n, _, hx, _, hlen, hg⟩ := DataW.trod_struct hs hf
    obtain ⟨o0, k0⟩ := hone_of hone 0 f0 rfl
    obtain ⟨o1, k1⟩ := hone_of hone 1 f1 rfl
    obtain ⟨o2, k2⟩ := hone_of hone 2 f2 rfl
    obtain ⟨o3, k3⟩ := hone_of hone 3 f3 rfl
    obtain ⟨o4, k4⟩ := hone_of hone 4 f4 rfl
    match xs, hlen with
    | [y0, y1, y2, y3, y4], _ =>
      simp only [Prod.mk.injEq] at hx
      exact ⟨c0, c1, c2, c3, c4, y0, y1, y2, y3, y4, n, rfl, by simpa using hx.1, by simpa using hx.2, by simpa [Value.cells, o0, k0] using hg 0 f0 rfl, by simpa [Value.cells, o1, k1] using hg 1 f1 rfl, by simpa [Value.cells, o2, k2] using hg 2 f2 rfl, by simpa [Value.cells, o3, k3] using hg 3 f3 rfl, by simpa [Value.cells, o4, k4] using hg 4 f4 rfl⟩
theorem open_agg6 {r : Reach} {b0 : Nat} {t : TypeId} {f0 f1 f2 f3 f4 f5 : Field} {v : Value} {d : DataW H} {p : List MemPlace} (hs : P.underlying t = some (.struct #[f0, f1, f2, f3, f4, f5])) (hone : oneCellFields P #[f0, f1, f2, f3, f4, f5] = true) (hC : P.cellsOf t = 6)
    (hv : Value.okWide P w r b0 t v) (h : DataW.Trod enc P w base spare held t v d p) :
    ∃ (v0 v1 v2 v3 v4 v5 : Value) (y0 y1 y2 y3 y4 y5 : DataW H × List MemPlace) (n : Nat), v = .agg #[v0, v1, v2, v3, v4, v5] ∧ d = .agg [y0.1, y1.1, y2.1, y3.1, y4.1, y5.1] ∧ p = y0.2 ++ (y1.2 ++ (y2.2 ++ (y3.2 ++ (y4.2 ++ y5.2)))) ∧
      DataW.trod enc P w base spare held n f0.type [v0] = some y0 ∧ DataW.trod enc P w base spare held n f1.type [v1] = some y1 ∧ DataW.trod enc P w base spare held n f2.type [v2] = some y2 ∧ DataW.trod enc P w base spare held n f3.type [v3] = some y3 ∧ DataW.trod enc P w base spare held n f4.type [v4] = some y4 ∧ DataW.trod enc P w base spare held n f5.type [v5] = some y5 := by
  obtain ⟨cs, rfl, hsz⟩ := okWide_struct hs hv
  obtain ⟨l⟩ := cs
  match l, hsz.trans hC with
  | [c0, c1, c2, c3, c4, c5], _ =>
    obtain ⟨fuel, hf⟩ := h
    obtain ⟨xs, n, _, hx, _, hlen, hg⟩ := DataW.trod_struct hs hf
    obtain ⟨o0, k0⟩ := hone_of hone 0 f0 rfl
    obtain ⟨o1, k1⟩ := hone_of hone 1 f1 rfl
    obtain ⟨o2, k2⟩ := hone_of hone 2 f2 rfl
    obtain ⟨o3, k3⟩ := hone_of hone 3 f3 rfl
    obtain ⟨o4, k4⟩ := hone_of hone 4 f4 rfl
    obtain ⟨o5, k5⟩ := hone_of hone 5 f5 rfl
    match xs, hlen with
    | [y0, y1, y2, y3, y4, y5], _ =>
      simp only [Prod.mk.injEq] at hx
      exact ⟨c0, c1, c2, c3, c4, c5, y0, y1, y2, y3, y4, y5, n, rfl, by simpa using hx.1, by simpa using hx.2, by simpa [Value.cells, o0, k0] using hg 0 f0 rfl, by simpa [Value.cells, o1, k1] using hg 1 f1 rfl, by simpa [Value.cells, o2, k2] using hg 2 f2 rfl, by simpa [Value.cells, o3, k3] using hg 3 f3 rfl, by simpa [Value.cells, o4, k4] using hg 4 f4 rfl, by simpa [Value.cells, o5, k5] using hg 5 f5 rfl⟩
end
end Go.Proofs.YtmdfickejpeofaaGreat
