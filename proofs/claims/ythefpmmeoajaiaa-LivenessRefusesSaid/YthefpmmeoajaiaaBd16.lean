/- LivenessRefuses: the walk. -/
import Derived.Test.YthefpmmeoajaiaaBd15
import Derived.Test.YthefpmmeoajaiaaBd13
import Derived.Test.YthefpmmeoajaiaaBd10
set_option linter.unusedVariables false
set_option linter.unusedSimpArgs false
namespace Go.Proofs.Ythefpmmeoajaiaa
open Go.RowKit Go.Shelf
attribute [local go_sem] OvM cell_ovm obj_ovm
attribute [local go_sem] Oper.semAt_some

theorem u16a {a : Int} (h : (Lit.int .u16 a).wf = true) : 0 ≤ a ∧ a ≤ 65535 := by
  simp only [Lit.wf, Bool.and_eq_true, decide_eq_true_eq] at h
  exact h
def qE : En := ⟨1, ⟨#[113]⟩, false, 0, 0, 19⟩
set_option maxRecDepth 40000 in
set_option maxHeartbeats 16000000 in
theorem LivenessRefuses_any (a : Option Addr) (len cap : Nat) (L : List Ac) (fr q : Int) (w : World) (hl : L.length = len) (hle : len ≤ cap) (hcap : cap ≤ maxLen) (hs : ActAt w a L) (hf0 : 0 ≤ fr) (hf1 : fr ≤ 65535) (hq0 : 0 ≤ q) (hq1 : q ≤ 255) :
    Calls Try.prog 9 #[.slice a len cap, .int .u16 fr, .int .u8 q] w fun e w' => e = .returned (.bool true) ∧ Gr w w' := by
  by_cases h80 : 80 < len
  · have h80' : (80 : Int) < len := by omega
    clear hs hl
    go_enter Try.func9, Try.ntmps9
    go_wp2_with (go_at_call 36; refine (lv_works _).mono ?_; rintro e w1 ⟨rfl, hg⟩; have HG := Lib.hid hg; clear hg)
    go_ret
    exact ⟨rfl, HG.out⟩
  have h80' : ¬ (80 : Int) < len := by omega
  have hfo := foldA_ok len L hl (by omega) (actOk hs)
  have HST := Lib.hid hfo.1
  have H5S := Lib.hid hfo.2
  have HKS := Lib.hid (foldA_keys len L hl (actOk hs))
  have HC := Lib.hid (build24_any a len cap L w hl (by omega) hle hcap hs)
  clear hs hl hfo
  go_enter Try.func9, Try.ntmps9
  go_wp2_with fail
  refine Calls.mono HC.out ?_
  rintro e w1 ⟨b, mb, v, S, rfl, hs⟩
  have H1 := Lib.hid hs
  clear hs HC
  generalize foldA L = st at *
  have hal : st.all.length ≤ 160 := by have := HST.out.n; omega
  have HG0 := Lib.hid HST.out.g
  have HQN : Hid (neededV st.X qE = .tuple #[.bool false, .int .i64 5]) := Lib.hid ((HG0.out.needV qE).2 (q_no HST.out qE rfl HKS.out))
  have HNO : Hid (∀ y ∈ st.all, neededV st.X (chE (q % 6) y) = .tuple #[.bool false, .int .i64 5]) := Lib.hid (fun y hy => (HG0.out.needV _).2 (chE_no HST.out (by omega) H5S.out hy (q % 6)))
  have HYS : Hid (∀ y ∈ st.all, neededV st.X y = .tuple #[.bool (st.X.needs y), .int .i64 0]) := Lib.hid (fun y hy => (HG0.out.needV y).1 hy)
  have HKC : Hid (∀ s : Int, s < 0 ∨ 6 ≤ s → keepC st.X s = 3) := Lib.hid (fun s hs => by
    unfold keepC
    rw [if_neg HG0.out.ne, if_pos (HG0.out.no hs)])
  have HBY : Hid (∀ y ∈ st.all, 1 ≤ y.seq ∧ y.seq ≤ 1000 ∧ y.key.size = 1 ∧ 0 ≤ y.off ∧ y.off ≤ 8192 ∧ 0 ≤ y.size ∧ y.size ≤ 8192) := Lib.hid (fun y hy => by
    have h1 := HG0.out.val hy
    have h2 := HST.out.e y hy
    have h3 := HST.out.q1
    refine ⟨h1.2.1, by omega, h2.2.2.2.1, ?_, ?_, ?_, ?_⟩ <;> omega)
  have HLE : Hid ((st.X.ents.length : Int) = st.all.length) := Lib.hid HG0.out.len
  clear HST H5S HKS
  obtain ⟨X, all, us, sq⟩ := st
  simp only at HQN HNO HYS HKC HBY HLE hal HG0
  have hN6 : ∀ s : Int, s < 0 ∨ 6 ≤ s → keepC X s = 3 := HKC.out
  have k1 := Lib.hid (HKC.out (-1 - fr) (by omega))
  have k2 := Lib.hid (HKC.out (6 + fr) (by omega))
  have dm0 := ((cellsOf (show w1.heap[mb]? = _ from H1.out.get (i := 1) rfl)).1 0).trans (show _ = some (Value.pointer (some ⟨b, 0, none⟩)) from rfl)
  clear hN6 HKC
  go_wp2_with fail
  refine (Keep_any (.inl ⟨b, rfl, (show IXR w1 b X S from H1.out.get (i := 0) rfl)⟩) (-1 - fr)).mono ?_
  rintro e w2 ⟨v10, rfl, _, hg⟩
  rw [k1.out]
  have H2 := Lib.hid (H1.out.gr hg)
  clear hg dm0 H1 k1
  have dm0 := ((cellsOf (show w2.heap[mb]? = _ from H2.out.get (i := 1) rfl)).1 0).trans (show _ = some (Value.pointer (some ⟨b, 0, none⟩)) from rfl)
  go_wp2_with fail
  refine (Size_any (.inl ⟨b, rfl, (show IXR w2 b X S from H2.out.get (i := 0) rfl)⟩) (6 + fr)).mono ?_
  rintro e w3 ⟨rfl, hg⟩
  rw [k2.out]
  have H3 := Lib.hid (H2.out.gr hg)
  clear hg dm0 H2
  have dm0 := ((cellsOf (show w3.heap[mb]? = _ from H3.out.get (i := 1) rfl)).1 0).trans (show _ = some (Value.pointer (some ⟨b, 0, none⟩)) from rfl)
  go_wp2_with fail
  refine (Redundant_any (.inl ⟨b, rfl, (show IXR w3 b X S from H3.out.get (i := 0) rfl)⟩) (6 + fr)).mono ?_
  rintro e w4 ⟨rfl, hg⟩
  rw [k2.out]
  have H4 := Lib.hid (H3.out.gr hg)
  clear hg dm0 H3 k2
  have dm0 := ((cellsOf (show w4.heap[mb]? = _ from H4.out.get (i := 1) rfl)).1 0).trans (show _ = some (Value.pointer (some ⟨b, 0, none⟩)) from rfl)
  go_wp2_with fail
  refine wp_region_flo (fun _ => False) [] [] (by kernel_rfl) (by kernel_rfl) (fun _ h => h.elim) ?_
  refine flo_seg 4 rfl ?_
  simp only [List.take_succ_cons, List.take_zero, List.drop_succ_cons, List.drop_zero]
  repeat (go_big_quiet_step (fail))
  refine wpQuiet_nil ?_
  refine flo_eff rfl rfl rfl rfl (fun K hK => ?_)
  go_wp2_with ((go_at_call 45; refine (put_any ⟨#[113]⟩ 1 0 0 19 (by decide) (by decide) _).mono ?_; rintro e' w5 ⟨rfl, hg⟩; have hg5 := hg; clear hg))
  refine ⟨by (first | (refine Gr.mdh ?_ _; (repeat (first | (with_reducible exact Gr.refl _) | assumption | (with_reducible apply Gr.from_drew) | (with_reducible apply Gr.alloc) | (with_reducible apply Gr.drew) | (with_reducible refine Gr.trans ?_ (by assumption)) | (with_reducible refine Gr.setCell ?_ (by omega) _))); done) | (repeat (first | (with_reducible exact Mdh.refl _ _) | (with_reducible refine Mdh.setCell ?_ (by simp) _) | (with_reducible refine Mdh.setNew ?_ (by simp) _) | (with_reducible apply Mdh.alloc) | (with_reducible apply Mdh.from_drew) | (with_reducible apply Mdh.drew) | (with_reducible refine Mdh.gr ?_ (by assumption))))), ?_⟩
  refine flo_eff rfl rfl rfl rfl (fun K hK => ?_)
  go_wp2_with ((go_at_call 41; refine (Needed_any (.inl ⟨b, rfl, (show IXR w5 b X S from (H4.out.gr ((Gr.refl w4).drew.trans hg5)).get (i := 0) rfl)⟩) qE).mono ?_; rintro e' w6 ⟨rfl, hg⟩; rw [HQN.out]; have hg6 := hg; clear hg))
  refine ⟨by (first | (refine Gr.mdh ?_ _; (repeat (first | (with_reducible exact Gr.refl _) | assumption | (with_reducible apply Gr.from_drew) | (with_reducible apply Gr.alloc) | (with_reducible apply Gr.drew) | (with_reducible refine Gr.trans ?_ (by assumption)) | (with_reducible refine Gr.setCell ?_ (by omega) _))); done) | (repeat (first | (with_reducible exact Mdh.refl _ _) | (with_reducible refine Mdh.setCell ?_ (by simp) _) | (with_reducible refine Mdh.setNew ?_ (by simp) _) | (with_reducible apply Mdh.alloc) | (with_reducible apply Mdh.from_drew) | (with_reducible apply Mdh.drew) | (with_reducible refine Mdh.gr ?_ (by assumption))))), ?_⟩
  refine flo_seg 5 rfl ?_
  simp only [List.take_succ_cons, List.take_zero, List.drop_succ_cons, List.drop_zero]
  repeat (go_big_quiet_step (fail))
  refine wpQuiet_nil ?_
  refine flo_nil ?_
  have H6 := Lib.hid (H4.out.gr (((Gr.refl w4).drew.trans hg5).trans hg6))
  clear hg5 hg6 dm0 H4 HQN
  obtain ⟨av, cv, rfl, hcv, hmv, _⟩ := ownE_at (show Own w6 43 6 v all.length (rowE all) from H6.out.get (i := 2) rfl)
  unfold maxLen at hmv
  have dm1 := ((cellsOf (show w6.heap[mb]? = _ from H6.out.get (i := 1) rfl)).1 1).trans (show _ = some (Value.slice av all.length cv) from rfl)
  go_upto_if 95 with fail
  go_cut [] (fun wx => Hid (SW w (lL b mb (.slice av all.length cv) S ⟨X, all, us, sq⟩ []) wx))
  case first =>
    by_cases hne : all = []
    · have hl0 : all.length = 0 := by rw [hne]; rfl
      clear hne
      go_wp2_with fail
      go_meet
      exact H6
    · have hl0 : 0 < all.length := List.length_pos_iff.2 hne
      have hl0' : (0 : Int) < all.length := by omega
      have g1 := Int.emod_lt_of_pos fr (show (0 : Int) < all.length by omega)
      have g2 := Int.emod_nonneg fr (show (all.length : Int) ≠ 0 by omega)
      obtain ⟨ι, hι⟩ : ∃ ι : Nat, fr % (all.length : Int) = (ι : Int) := ⟨(fr % (all.length : Int)).toNat, by omega⟩
      have hιn : ι < all.length := by omega
      obtain ⟨y, hy⟩ : ∃ y, all[ι]? = some y := ⟨_, List.getElem?_eq_getElem hιn⟩
      have HYN := Lib.hid (HYS.out y (List.mem_of_getElem? hy))
      have HCN := Lib.hid (HNO.out y (List.mem_of_getElem? hy))
      have hby := HBY.out y (List.mem_of_getElem? hy)
      obtain ⟨g0, rfl, hg0, y0, y1, y2, y3, y4, y5⟩ := ent6 (show Own w6 43 6 (.slice av all.length cv) all.length (rowE all) from H6.out.get (i := 2) rfl) hy
      have hιn' : (ι : Int) < all.length := by omega
      clear hne hy g1 g2 HYS HNO HBY
      obtain ⟨p0, p1, p2, p3, p4, p5⟩ := y
      simp only at y0 y1 y2 y3 y4 y5 HYN HCN hby
      obtain ⟨b1, b2, b3, b4, b5, b6, b7⟩ := hby
      generalize X.needs ⟨p0, p1, p2, p3, p4, p5⟩ = nd at *
      go_wp2_with fail
      have HG := Gr.refl w6.drew
      refine wp_region_flo (fun _ => False) [18] [] (by kernel_rfl) (by kernel_rfl) (fun _ h => h.elim) ?_
      refine flo_seg 13 rfl ?_
      simp only [List.take_succ_cons, List.take_zero, List.drop_succ_cons, List.drop_zero]
      repeat (go_big_quiet_step (fail))
      refine wpQuiet_nil ?_
      refine flo_float (fun b => .pointer (some ⟨b, 0, none⟩)) (.cells #[.int .i64 0, .string ⟨#[]⟩, .bool false, .int .i64 0, .int .i64 0, .int .i64 0] 43) rfl rfl (fun w => by kernel_rfl) (fun wf1 fb1 hgf1 fl1 fh1 ft1 fo1 => ?_)
      (try replace HG := Gr.trans (Gr.trans HG (by (repeat (first | (with_reducible exact Gr.refl _) | assumption | (with_reducible apply Gr.from_drew) | (with_reducible apply Gr.alloc) | (with_reducible apply Gr.drew) | (with_reducible refine Gr.trans ?_ (by assumption)) | (with_reducible refine Gr.setCell ?_ (by omega) _))))) hgf1)
      (try have fc1 := (cellsOf fo1).1)
      (try have ff1 := (cellsOf fo1).2)
      refine flo_eff rfl rfl rfl rfl (fun K hK => ?_)
      go_wp2
      refine ⟨by (first | (refine Gr.mdh ?_ _; (repeat (first | (with_reducible exact Gr.refl _) | assumption | (with_reducible apply Gr.from_drew) | (with_reducible apply Gr.alloc) | (with_reducible apply Gr.drew) | (with_reducible refine Gr.trans ?_ (by assumption)) | (with_reducible refine Gr.setCell ?_ (by omega) _))); done) | (repeat (first | (with_reducible exact Mdh.refl _ _) | (with_reducible refine Mdh.setCell ?_ (by simp) _) | (with_reducible refine Mdh.setNew ?_ (by simp) _) | (with_reducible apply Mdh.alloc) | (with_reducible apply Mdh.from_drew) | (with_reducible apply Mdh.drew) | (with_reducible refine Mdh.gr ?_ (by assumption))))), ?_⟩
      refine flo_nil ?_
      obtain ⟨W4, hW4⟩ : ∃ y, y = ((((((wf1.setCell ⟨fb1, 0, none⟩ (.int .i64 p0)).setCell ⟨fb1, 1, none⟩ (.string p1)).setCell ⟨fb1, 2, none⟩ (.bool p2)).setCell ⟨fb1, 3, none⟩ (.int .i64 p3)).setCell ⟨fb1, 4, none⟩ (.int .i64 p4)).setCell ⟨fb1, 5, none⟩ (.int .i64 p5)) := ⟨_, rfl⟩
      have H7 : Hid (SW w (blkA fb1 (boxF ⟨p0, p1, p2, p3, p4, p5⟩) :: lL b mb (.slice (some ⟨g0, 0, none⟩) all.length cv) S ⟨X, all, us, sq⟩ []) W4) := Lib.hid (by
        have h1 := H6.out.new (Gr.of_drew HG) (A := blkA fb1 (boxF ⟨0, ⟨#[]⟩, false, 0, 0, 0⟩)) fo1 (fun k hk => by rw [show k = fb1 from hk]; exact fl1)
        rw [hW4]
        exact h1.step (B := blkA fb1 (boxF ⟨p0, p1, p2, p3, p4, p5⟩)) (T := fun k => k = fb1) ((((((((Mdh.refl (fun k => k = fb1) wf1).setCell (p := ⟨fb1, 0, none⟩) rfl _).setCell (p := ⟨fb1, 1, none⟩) rfl _).setCell (p := ⟨fb1, 2, none⟩) rfl _).setCell (p := ⟨fb1, 3, none⟩) rfl _).setCell (p := ⟨fb1, 4, none⟩) rfl _).setCell (p := ⟨fb1, 5, none⟩) rfl _)) (fun k hk => .inl hk) (blk6 fo1) (fun k hk => .inl hk))
      rw [← hW4]
      clear hW4 fl1 fh1 ft1 fo1 fc1 ff1 HG hgf1 H6 y0 y1 y2 y3 y4 y5 hg0 hι dm1
      generalize fb1 = b18 at *
      have d18 := (cellsOf (show W4.heap[b18]? = _ from H7.out.get (i := 0) rfl)).1
      (try simp only [boxF] at d18)
      go_upto_region 16 with fail
      obtain ⟨b19, hb19⟩ : ∃ k, k = W4.heap.size := ⟨_, rfl⟩
      obtain ⟨w8, hw8⟩ : ∃ y, y = W4.alloc (boxF ⟨p0, p1, p2, p3, p4, p5⟩) := ⟨_, rfl⟩
      have H8 : Hid (SW w (blkA b18 (boxF ⟨p0, p1, p2, p3, p4, p5⟩) :: blkA b19 (boxF ⟨p0, p1, p2, p3, p4, p5⟩) :: lL b mb (.slice (some ⟨g0, 0, none⟩) all.length cv) S ⟨X, all, us, sq⟩ []) w8) := Lib.hid (by
        have h := H7.out.allocT (boxF ⟨p0, p1, p2, p3, p4, p5⟩)
        rw [← hb19, ← hw8] at h
        exact h)
      (try simp only [boxF] at hw8)
      rw [← hw8, ← hb19]
      clear hw8 hb19 H7 d18
      obtain ⟨μ, hμ⟩ : ∃ μ : Nat, q % 6 = (μ : Int) := ⟨(q % 6).toNat, by omega⟩
      have hμ6 : μ < 6 := by omega
      rw [hμ] at HCN
      have HSTO : Hid (∀ (j : Nat) (u : Value) (e : En), (#[.int .i64 p0, .string p1, .bool p2, .int .i64 p3, .int .i64 p4, .int .i64 p5] : Array Value).setIfInBounds j u = #[.int .i64 e.seq, .string e.key, .bool e.del, .int .i64 e.slot, .int .i64 e.off, .int .i64 e.size] → SW w (blkA b18 (boxF e) :: blkA b19 (boxF ⟨p0, p1, p2, p3, p4, p5⟩) :: lL b mb (.slice (some ⟨g0, 0, none⟩) all.length cv) S ⟨X, all, us, sq⟩ []) (w8.setCell ⟨b18, j, none⟩ u)) := Lib.hid (fun j u e he =>
        H8.out.at (i := 0) rfl ((Mdh.refl (fun k => k = b18) w8).setCell (p := ⟨b18, j, none⟩) rfl _) (fun k hk => .inl hk) (B := blkA b18 (boxF e)) (by
          have := blkSet (j := j) (u := u) (show w8.heap[b18]? = _ from H8.out.get (i := 0) rfl)
          rw [he] at this
          exact this) (fun k hk => .inl hk))
      obtain ⟨d18, f18⟩ := cellsOf (show w8.heap[b18]? = _ from H8.out.get (i := 0) rfl)
      (try simp only [boxF] at d18)
      have l18 := blkLt (show w8.heap[b18]? = _ from H8.out.get (i := 0) rfl)
      go_upto_block 0 with fail
      go_cut [] (fun wx => Hid (SW w (blkA b18 (boxF (chE μ ⟨p0, p1, p2, p3, p4, p5⟩)) :: blkA b19 (boxF ⟨p0, p1, p2, p3, p4, p5⟩) :: lL b mb (.slice (some ⟨g0, 0, none⟩) all.length cv) S ⟨X, all, us, sq⟩ []) wx))
      case first =>
        have h' : μ = 0 ∨ μ = 1 ∨ μ = 2 ∨ μ = 3 ∨ μ = 4 ∨ μ = 5 := by omega
        have HCHE : Hid (∀ c : Int, chE c ⟨p0, p1, p2, p3, p4, p5⟩ = if c = 0 then ⟨p0 + 1000, p1, p2, p3, p4, p5⟩ else if c = 1 then ⟨p0, p1 ++ ⟨#[120]⟩, p2, p3, p4, p5⟩ else if c = 2 then ⟨p0, p1, !p2, p3, p4, p5⟩ else if c = 3 then ⟨p0, p1, p2, 5, p4, p5⟩ else if c = 4 then ⟨p0, p1, p2, p3, p4 + 1, p5⟩ else ⟨p0, p1, p2, p3, p4, p5 + 1⟩) := Lib.hid (fun c => rfl)
        rcases h' with rfl | rfl | rfl | rfl | rfl | rfl
        all_goals
          go_wp2_with fail
          go_meet
          refine Lib.hid ?_
          rw [HCHE.out]
          first
          | exact HSTO.out 0 _ ⟨p0 + 1000, p1, p2, p3, p4, p5⟩ rfl
          | exact HSTO.out 1 _ ⟨p0, p1 ++ ⟨#[120]⟩, p2, p3, p4, p5⟩ rfl
          | exact HSTO.out 2 _ ⟨p0, p1, !p2, p3, p4, p5⟩ rfl
          | exact HSTO.out 3 _ ⟨p0, p1, p2, 5, p4, p5⟩ rfl
          | exact HSTO.out 4 _ ⟨p0, p1, p2, p3, p4 + 1, p5⟩ rfl
          | exact HSTO.out 5 _ ⟨p0, p1, p2, p3, p4, p5 + 1⟩ rfl
      case rest =>
        obtain ⟨f, hf⟩ : ∃ f, f = chE μ ⟨p0, p1, p2, p3, p4, p5⟩ := ⟨_, rfl⟩
        have H9 : Hid (SW w (blkA b18 (boxF f) :: blkA b19 (boxF ⟨p0, p1, p2, p3, p4, p5⟩) :: lL b mb (.slice (some ⟨g0, 0, none⟩) all.length cv) S ⟨X, all, us, sq⟩ []) wc) := Lib.hid (by rw [hf]; exact hcut.out)
        rw [← hf] at HCN
        clear hcut hf H8 HSTO d18 f18 l18
        have d18 := (cellsOf (show wc.heap[b18]? = _ from H9.out.get (i := 0) rfl)).1
        (try simp only [boxF] at d18)
        have dm0 := ((cellsOf (show wc.heap[mb]? = _ from H9.out.get (i := 3) rfl)).1 0).trans (show _ = some (Value.pointer (some ⟨b, 0, none⟩)) from rfl)
        have HN1 := Lib.hid (Needed_any (.inl ⟨b, rfl, (show IXR wc.drew b X S from (H9.out.gr (Gr.refl wc).drew).get (i := 2) rfl)⟩) f)
        rw [HCN.out] at HN1
        obtain ⟨f0, f1, f2, f3, f4, f5⟩ := f
        simp only [enV] at HN1
        (try simp only at d18)
        go_wp2_with fail
        refine wp_region_flo (fun _ => False) [] [] (by kernel_rfl) (by kernel_rfl) (fun _ h => h.elim) ?_
        refine flo_seg 5 rfl ?_
        simp only [List.take_succ_cons, List.take_zero, List.drop_succ_cons, List.drop_zero]
        repeat (go_big_quiet_step (fail))
        refine wpQuiet_nil ?_
        refine flo_eff rfl rfl rfl rfl (fun K hK => ?_)
        go_wp2_with ((go_at_call 41; refine Calls.mono HN1.out ?_; rintro e' w9 ⟨rfl, hg⟩; have hg9 := hg; clear hg))
        refine ⟨by (first | (refine Gr.mdh ?_ _; (repeat (first | (with_reducible exact Gr.refl _) | assumption | (with_reducible apply Gr.from_drew) | (with_reducible apply Gr.alloc) | (with_reducible apply Gr.drew) | (with_reducible refine Gr.trans ?_ (by assumption)) | (with_reducible refine Gr.setCell ?_ (by omega) _))); done) | (repeat (first | (with_reducible exact Mdh.refl _ _) | (with_reducible refine Mdh.setCell ?_ (by simp) _) | (with_reducible refine Mdh.setNew ?_ (by simp) _) | (with_reducible apply Mdh.alloc) | (with_reducible apply Mdh.from_drew) | (with_reducible apply Mdh.drew) | (with_reducible refine Mdh.gr ?_ (by assumption))))), ?_⟩
        refine flo_seg 5 rfl ?_
        simp only [List.take_succ_cons, List.take_zero, List.drop_succ_cons, List.drop_zero]
        repeat (go_big_quiet_step (fail))
        refine wpQuiet_nil ?_
        refine flo_nil ?_
        have H10 : Hid (SW w (blkA b19 (boxF ⟨p0, p1, p2, p3, p4, p5⟩) :: lL b mb (.slice (some ⟨g0, 0, none⟩) all.length cv) S ⟨X, all, us, sq⟩ []) w9) := Lib.hid ((H9.out.gr ((Gr.refl wc).drew.trans hg9)).sub (.cons _ (List.Sublist.refl _)))
        clear hg9 d18 dm0 H9 HN1
        have d19 := (cellsOf (show w9.heap[b19]? = _ from H10.out.get (i := 0) rfl)).1
        (try simp only [boxF] at d19)
        have dm0 := ((cellsOf (show w9.heap[mb]? = _ from H10.out.get (i := 2) rfl)).1 0).trans (show _ = some (Value.pointer (some ⟨b, 0, none⟩)) from rfl)
        have HN2 := Lib.hid (Needed_any (.inl ⟨b, rfl, (show IXR w9.drew b X S from (H10.out.gr (Gr.refl w9).drew).get (i := 1) rfl)⟩) ⟨p0, p1, p2, p3, p4, p5⟩)
        rw [HYN.out] at HN2
        simp only [enV] at HN2
        go_wp2_with fail
        refine wp_region_flo (fun _ => False) [] [] (by kernel_rfl) (by kernel_rfl) (fun _ h => h.elim) ?_
        refine flo_seg 5 rfl ?_
        simp only [List.take_succ_cons, List.take_zero, List.drop_succ_cons, List.drop_zero]
        repeat (go_big_quiet_step (fail))
        refine wpQuiet_nil ?_
        refine flo_eff rfl rfl rfl rfl (fun K hK => ?_)
        go_wp2_with ((go_at_call 41; refine Calls.mono HN2.out ?_; rintro e' w10 ⟨rfl, hg⟩; have hg10 := hg; clear hg))
        refine ⟨by (first | (refine Gr.mdh ?_ _; (repeat (first | (with_reducible exact Gr.refl _) | assumption | (with_reducible apply Gr.from_drew) | (with_reducible apply Gr.alloc) | (with_reducible apply Gr.drew) | (with_reducible refine Gr.trans ?_ (by assumption)) | (with_reducible refine Gr.setCell ?_ (by omega) _))); done) | (repeat (first | (with_reducible exact Mdh.refl _ _) | (with_reducible refine Mdh.setCell ?_ (by simp) _) | (with_reducible refine Mdh.setNew ?_ (by simp) _) | (with_reducible apply Mdh.alloc) | (with_reducible apply Mdh.from_drew) | (with_reducible apply Mdh.drew) | (with_reducible refine Mdh.gr ?_ (by assumption))))), ?_⟩
        refine flo_seg 5 rfl ?_
        simp only [List.take_succ_cons, List.take_zero, List.drop_succ_cons, List.drop_zero]
        repeat (go_big_quiet_step (fail))
        refine wpQuiet_nil ?_
        refine flo_nil ?_
        have H11 := Lib.hid ((H10.out.gr ((Gr.refl w9).drew.trans hg10)).sub (.cons _ (List.Sublist.refl _)))
        clear hg10 d19 dm0 H10 HN2
        go_wp2_with fail
        go_meet
        exact H11
  case rest =>
    clear H6 dm1
    have dm0 := ((cellsOf (show wc.heap[mb]? = _ from hcut.out.get (i := 1) rfl)).1 0).trans (show _ = some (Value.pointer (some ⟨b, 0, none⟩)) from rfl)
    go_wp2_with fail
    refine (Retired_any (.inl ⟨b, rfl, (show IXR wc b X S from hcut.out.get (i := 0) rfl)⟩)).mono ?_
    rintro e w12 ⟨v171, rfl, _, hg⟩
    rw [show (if X.slots = [] then (1 : Int) else 0) = 0 from if_neg HG0.out.ne]
    have H12 := Lib.hid (hcut.out.gr hg)
    clear hg dm0 hcut
    have dm := (cellsOf (show w12.heap[mb]? = _ from H12.out.get (i := 1) rfl)).1
    have dm0 := (dm 0).trans (show _ = some (Value.pointer (some ⟨b, 0, none⟩)) from rfl)
    have dm1 := (dm 1).trans (show _ = some (Value.slice av all.length cv) from rfl)
    have HLN := Lib.hid (Len_any (.inl ⟨b, rfl, (show IXR w12.drew b X S from (H12.out.gr (Gr.refl w12).drew).get (i := 0) rfl)⟩))
    rw [HLE.out] at HLN
    clear dm
    go_wp2_with fail
    refine wp_region_flo (fun _ => False) [] [] (by kernel_rfl) (by kernel_rfl) (fun _ h => h.elim) ?_
    refine flo_seg 4 rfl ?_
    simp only [List.take_succ_cons, List.take_zero, List.drop_succ_cons, List.drop_zero]
    repeat (go_big_quiet_step (fail))
    refine wpQuiet_nil ?_
    refine flo_eff rfl rfl rfl rfl (fun K hK => ?_)
    go_wp2_with ((go_at_call 46; refine Calls.mono HLN.out ?_; rintro e' w13 ⟨rfl, rfl⟩))
    refine ⟨by (first | (refine Gr.mdh ?_ _; (repeat (first | (with_reducible exact Gr.refl _) | assumption | (with_reducible apply Gr.from_drew) | (with_reducible apply Gr.alloc) | (with_reducible apply Gr.drew) | (with_reducible refine Gr.trans ?_ (by assumption)) | (with_reducible refine Gr.setCell ?_ (by omega) _))); done) | (repeat (first | (with_reducible exact Mdh.refl _ _) | (with_reducible refine Mdh.setCell ?_ (by simp) _) | (with_reducible refine Mdh.setNew ?_ (by simp) _) | (with_reducible apply Mdh.alloc) | (with_reducible apply Mdh.from_drew) | (with_reducible apply Mdh.drew) | (with_reducible refine Mdh.gr ?_ (by assumption))))), ?_⟩
    refine flo_seg 7 rfl ?_
    simp only [List.take_succ_cons, List.take_zero, List.drop_succ_cons, List.drop_zero]
    repeat (go_big_quiet_step (fail))
    refine wpQuiet_nil ?_
    refine flo_eff rfl rfl rfl rfl (fun K hK => ?_)
    go_wp2_with ((go_at_call 36; refine (lv_works _).mono ?_; rintro e' w14 ⟨rfl, hg⟩; have hg14 := hg; clear hg))
    refine ⟨by (first | (refine Gr.mdh ?_ _; (repeat (first | (with_reducible exact Gr.refl _) | assumption | (with_reducible apply Gr.from_drew) | (with_reducible apply Gr.alloc) | (with_reducible apply Gr.drew) | (with_reducible refine Gr.trans ?_ (by assumption)) | (with_reducible refine Gr.setCell ?_ (by omega) _))); done) | (repeat (first | (with_reducible exact Mdh.refl _ _) | (with_reducible refine Mdh.setCell ?_ (by simp) _) | (with_reducible refine Mdh.setNew ?_ (by simp) _) | (with_reducible apply Mdh.alloc) | (with_reducible apply Mdh.from_drew) | (with_reducible apply Mdh.drew) | (with_reducible refine Mdh.gr ?_ (by assumption))))), ?_⟩
    refine flo_seg 2 rfl ?_
    simp only [List.take_succ_cons, List.take_zero, List.drop_succ_cons, List.drop_zero]
    repeat (go_big_quiet_step (fail))
    refine wpQuiet_nil ?_
    refine flo_nil ?_
    have HGE := Lib.hid ((H12.out.g.trans (Gr.refl w12).drew).trans hg14)
    clear hg14 H12 HLN
    go_wp2_with fail
    go_ret
    exact ⟨rfl, HGE.out⟩
end Go.Proofs.Ythefpmmeoajaiaa
