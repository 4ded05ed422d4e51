/- ScoreRefuses, walked. -/
import Derived.Test.YtgpecjnnepocmaaScL3
import Derived.Test.YtgpecjnnepocmaaFlo
import Derived.Deep.CutBlock
import Derived.Deep.DeepCutAuto
namespace Go.Proofs.Ytgpecjnnepocmaa
open Go.RowKit
attribute [local go_sem] Ovs cell_ov obj_ov shape_ov OvM cell_ovm obj_ovm

theorem Best_refuse (p : Int) (hp : p = 1 ∨ p = 2) (wd : Int) (b : Nat) (x y : Sd) (hy : chkS wd y = false) (w : World) (hs : SidesAt w b 0 [x, y]) (hb : b < w.heap.size) :
    Calls Try.prog 21 #[.int .i64 p, .slice (some ⟨b, 0, none⟩) 2 2, .int .i64 wd] w fun e w' => e = .returned (bestV zSd false 2) ∧ Gr w w' := by
  by_cases hr : inB wd 1 8192 = true
  · have hbad : ¬ ∀ i, i < 2 → chkS wd ([x, y][i]?.getD (0, 0, 0)) = true := fun h => by
      have := h 1 (by decide)
      simp [hy] at this
    rcases hp with rfl | rfl
    · exact (Best_1 wd hr b 0 2 2 [x, y] rfl (by decide) (by decide) (by decide) w hs hb).mono fun e w' ⟨he, hg⟩ => ⟨by rw [he, best_bad hbad], hg⟩
    · exact (Best_2 wd hr b 0 2 2 [x, y] rfl (by decide) (by decide) (by decide) w hs hb).mono fun e w' ⟨he, hg⟩ => ⟨by rw [he, best_bad hbad], hg⟩
  · exact Best_bad p wd _ (fun _ => by simpa using hr) w

theorem Best_same (p : Int) (hp : p = 1 ∨ p = 2) (wd : Int) (b : Nat) (x : Sd) (hx : chkS wd x = true) (w : World) (hs : SidesAt w b 0 [x, x]) (hb : b < w.heap.size) :
    Calls Try.prog 21 #[.int .i64 p, .slice (some ⟨b, 0, none⟩) 2 2, .int .i64 wd] w fun e w' => e = .returned (bestV zSd false 6) ∧ Gr w w' := by
  obtain ⟨r1, r2, _⟩ := chk_bd hx
  have hr : inB wd 1 8192 = true := by simp [inB]; omega
  have hall : ∀ i, i < 2 → chkS wd ([x, x][i]?.getD (0, 0, 0)) = true := fun i hi => by
    match i, hi with
    | 0, _ => exact hx
    | 1, _ => exact hx
  have htw : twB [x, x] 2 = true := by
    rw [twB_iff _ _ (by simp)]
    exact ⟨1, 0, by decide, by decide, rfl⟩
  rcases hp with rfl | rfl
  · exact (Best_1 wd hr b 0 2 2 [x, x] rfl (by decide) (by decide) (by decide) w hs hb).mono fun e w' ⟨he, hg⟩ => ⟨by rw [he, best_twice hall htw], hg⟩
  · exact (Best_2 wd hr b 0 2 2 [x, x] rfl (by decide) (by decide) (by decide) w hs hb).mono fun e w' ⟨he, hg⟩ => ⟨by rw [he, best_twice hall htw], hg⟩

theorem sdF_new (w : World) (s k a : Int) (t : TypeId) : SdF (w.alloc (.cells #[.int .i64 s, .int .i64 k, .int .i64 a] t)) w.heap.size s k a := by
  constructor <;> simp [go_sem]
structure SdC (w : World) (b : Nat) (s k a : Int) : Prop where
  c0 : w.cell? ⟨b, 0, none⟩ = some (.int .i64 s)
  c1 : w.cell? ⟨b, 1, none⟩ = some (.int .i64 k)
  c2 : w.cell? ⟨b, 2, none⟩ = some (.int .i64 a)
theorem SdC.of {w w' : World} {b : Nat} {s k a : Int} (h : SdF w b s k a) (g : Gr w w') : SdC w' b s k a := ⟨g.keep h.c0, g.keep h.c1, g.keep h.c2⟩
theorem SdC.grow {w w' : World} {b : Nat} {s k a : Int} (h : SdC w b s k a) (g : Gr w w') : SdC w' b s k a := ⟨g.keep h.c0, g.keep h.c1, g.keep h.c2⟩
theorem sidesAt2 {w : World} {b : Nat} (x y : Sd) (h0 : w.cell? ⟨b, 0, none⟩ = some (.int .i64 x.1)) (h1 : w.cell? ⟨b, 1, none⟩ = some (.int .i64 x.2.1)) (h2 : w.cell? ⟨b, 2, none⟩ = some (.int .i64 x.2.2))
    (h3 : w.cell? ⟨b, 3, none⟩ = some (.int .i64 y.1)) (h4 : w.cell? ⟨b, 4, none⟩ = some (.int .i64 y.2.1)) (h5 : w.cell? ⟨b, 5, none⟩ = some (.int .i64 y.2.2)) : SidesAt w b 0 [x, y] := by
  intro i hi
  match i, hi with
  | 0, _ => simpa using ⟨h0, h1, h2⟩
  | 1, _ => simpa using ⟨h3, h4, h5⟩
theorem okC_false {policy s k a s' k' a' room : Int} (h : chkB s k a room = false ∨ chkB s' k' a' room = false ∨ ¬ (policy = 1 ∨ policy = 2)) : errOf (okC policy s k a s' k' a' room) = 2 ∧ cmpC policy s k a s' k' a' room = 0 := by
  have : okC policy s k a s' k' a' room = false := by
    rcases h with h | h | h
    · simp [okC, h]
    · simp [okC, h]
    · simp [okC]; omega
  exact ⟨errOf_false this, by simp [cmpC, this]⟩
theorem benefit_zero {s k a s' k' a' room : Int} (h : chkB s k a room = false ∨ chkB s' k' a' room = false) : benefit s k a s' k' a' room = 0 := by
  unfold benefit
  rw [if_neg]
  rintro ⟨h1, h2⟩
  rcases h with h | h <;> simp_all

set_option maxRecDepth 40000 in
set_option maxHeartbeats 4000000 in
theorem ScoreRefuses_any (n ka aa kb ab wh far : Int) (hn : (Lit.int .u16 n).wf = true) (h1 : NmOk ka aa) (h2 : NmOk kb ab) (hwh : (Lit.int .u8 wh).wf = true) (hfar : (Lit.int .u16 far).wf = true) (w : World) :
    Calls Try.prog 6 #[.int .u16 n, .agg #[.int .u16 ka, .int .u64 aa], .agg #[.int .u16 kb, .int .u64 ab], .int .u8 wh, .int .u16 far] w fun e w' =>
      e = .returned (.bool true) ∧ Gr w w' := by
  obtain ⟨hn0, hn1⟩ := u16_of hn
  obtain ⟨hf0, hf1⟩ := u16_of hfar
  have hwh' : 0 ≤ wh ∧ wh ≤ 255 := by simp only [Lit.wf, Bool.and_eq_true, decide_eq_true_eq] at hwh; exact hwh
  obtain ⟨hw0, hw1⟩ := hwh'
  obtain ⟨r, hr⟩ : ∃ r, r = 1 + n % 8192 := ⟨_, rfl⟩
  have r1 : 1 ≤ r := by omega
  have r2 : r ≤ 8192 := by omega
  have HR := Lib.hid hr
  have H3 := Lib.hid (nums2 ka aa kb ab h1 h2)
  have g1 := mkS_chk r 0 (ka, aa) r1 r2 (by omega) h1.1 h1.2.2.1
  have g2 := mkS_chk r 1 (kb, ab) r1 r2 (by omega) h2.1 h2.2.2.1
  simp only [mkS] at g1 g2
  clear hr h1 h2 hn hfar hwh
  go_enter Try.func6, Try.ntmps6
  go_wp2_with (first
    | (go_at_call 18; refine (room_r n r hn0 hn1 HR.out _).mono ?_; rintro e w1 ⟨rfl, rfl⟩)
    | fail)
  refine (made_any _ 0 2 2 [(ka, aa), (kb, ab)] r r1 r2 rfl (by omega) (by decide) _ ?hs H3.out ?hb).mono ?_
  case hs =>
    intro i hi
    match i, hi with
    | 0, _ => simp [go_sem]
    | 1, _ => simp [go_sem]
  case hb => simp
  rintro e w1 ⟨v, rfl, hown0, hg⟩
  have hown : w1.ownsRow _ 23 3 v 2 (rowS (madeK [(ka, aa), (kb, ab)] r 2)) := hown0
  obtain ⟨g, cap, rfl, hnc, hcm, hgl, hgb, hs⟩ := sides_of_row hown (madeK_length _ _ _) (by decide)
  obtain ⟨l0, l1, l2⟩ := side_at hs 0 (by decide)
  obtain ⟨m0, m1, m2⟩ := side_at hs 1 (by decide)
  have hG0 : Gr w w1 := by (repeat (first | (with_reducible exact Gr.refl _) | assumption | (with_reducible apply Gr.from_drew) | (with_reducible apply Gr.alloc) | (with_reducible apply Gr.drew) | (with_reducible refine Gr.trans ?_ (by assumption)) | (with_reducible refine Gr.setCell ?_ (by omega) _)))
  simp at l0 l1 l2 m0 m1 m2
  simp only [Int.cast_ofNat_Int] at g1 g2
  revert l1 l2 m1 m2 g1 g2
  generalize ka % (r + 1) = k1
  generalize aa % 1099511627777 = a1
  generalize kb % (r + 1) = k2
  generalize ab % 1099511627777 = a2
  intro g1 g2 l1 l2 m1 m2
  clear hs hown hown0 hg hgb HR H3 hn0 hn1
  have F := Lib.hid (S2.mk hgl l0 l1 l2 m0 m1 m2)
  have hw1' := hG0.sz
  have B1 := chk_bd g1
  go_upto_block 0 with fail
  go_cut [15] (fun t15 wx => ∃ s k a wd, t15 = .int .i64 wd ∧ SdF wx w1.heap.size s k a ∧ S2 wx g k1 a1 k2 a2 ∧ chkB s k a wd = false ∧ Gr w wx)
  case first =>
    clear l0 l1 l2 m0 m1 m2 hgl
    rcases (show wh % 8 = 0 ∨ wh % 8 = 1 ∨ wh % 8 = 2 ∨ wh % 8 = 3 ∨ wh % 8 = 4 ∨ wh % 8 = 5 ∨ wh % 8 = 6 ∨ wh % 8 = 7 by omega) with h8 | h8 | h8 | h8 | h8 | h8 | h8 | h8
    all_goals
      go_wp2
      go_meet
      refine ⟨_, _, _, _, rfl, sdF_new _ _ _ _ _, F.out.grow (by (repeat (first | (with_reducible exact Gr.refl _) | assumption | (with_reducible apply Gr.from_drew) | (with_reducible apply Gr.alloc) | (with_reducible apply Gr.drew) | (with_reducible refine Gr.trans ?_ (by assumption)) | (with_reducible refine Gr.setCell ?_ (by omega) _)))), ?_, by (repeat (first | (with_reducible exact Gr.refl _) | assumption | (with_reducible apply Gr.from_drew) | (with_reducible apply Gr.alloc) | (with_reducible apply Gr.drew) | (with_reducible refine Gr.trans ?_ (by assumption)) | (with_reducible refine Gr.setCell ?_ (by omega) _)))⟩
      simp [chkB, inB]; try omega
  case rest =>
    obtain ⟨s, k, a, wd, rfl, f14, f2, hck, G1⟩ := hcut
    clear l0 l1 l2 m0 m1 m2 hgl F hw1' hG0 B1
    have e1 : errOf (chkB s k a wd) = 2 := errOf_false hck
    have e2 : benefit s k a 1 k2 a2 wd = 0 := benefit_zero (.inl hck)
    have e3 : benefit 1 k2 a2 s k a wd = 0 := benefit_zero (.inr hck)
    have HCK := Lib.hid hck
    clear hck
    generalize w1.heap.size = b14 at *
    have H14 := Lib.hid f14
    have H2 := Lib.hid f2
    obtain ⟨lt14, u0, u1, u2, ufr⟩ := f14
    obtain ⟨hgl, l0, l1, l2, m0, m1, m2⟩ := f2
    go_upto_region 20 with fail
    go_cut [109] (fun t wx => t = .bool false ∧ SdF wx b14 s k a ∧ S2 wx g k1 a1 k2 a2 ∧ Gr w wx)
    case first =>
      have HG := Gr.refl wc.drew
      refine wp_region_flo (fun _ => False) [] [] (by kernel_rfl) (by kernel_rfl) (fun _ h => h.elim) ?_
      refine flo_seg 2 rfl ?_
      simp only [List.take_succ_cons, List.take_zero, List.drop_succ_cons, List.drop_zero]
      repeat (go_big_quiet_step (fail))
      refine wpQuiet_nil ?_
      refine flo_eff rfl rfl rfl rfl (fun K hK => ?_)
      go_wp2_with ((go_at_call 11; refine (Check_any _ _ _ _ _).mono ?_; rintro e w1 ⟨rfl, hg⟩; replace HG := HG.trans hg; (try clear hc); have hc := HG.cell; (try simp only [World.size_alloc] at hc)))
      refine ⟨by (first | (refine Gr.mdh ?_ _; (repeat (first | (with_reducible exact Gr.refl _) | assumption | (with_reducible apply Gr.from_drew) | (with_reducible apply Gr.alloc) | (with_reducible apply Gr.drew) | (with_reducible refine Gr.trans ?_ (by assumption)) | (with_reducible refine Gr.setCell ?_ (by omega) _))); done) | (repeat (first | (with_reducible exact Mdh.refl _ _) | (with_reducible refine Mdh.setCell ?_ (by simp) _) | (with_reducible refine Mdh.setNew ?_ (by simp) _) | (with_reducible apply Mdh.alloc) | (with_reducible apply Mdh.drew) | (with_reducible refine Mdh.gr ?_ (by assumption))))), ?_⟩
      refine flo_seg 7 rfl ?_
      simp only [List.take_succ_cons, List.take_zero, List.drop_succ_cons, List.drop_zero]
      repeat (go_big_quiet_step (fail))
      refine wpQuiet_nil ?_
      refine flo_eff rfl rfl rfl rfl (fun K hK => ?_)
      go_wp2_with ((go_at_call 15; refine (Benefit_any _ _ _ _ _ _ _ _).mono ?_; rintro e w1 ⟨rfl, hg⟩; replace HG := HG.trans hg; (try clear hc); have hc := HG.cell; (try simp only [World.size_alloc] at hc)))
      refine ⟨by (first | (refine Gr.mdh ?_ _; (repeat (first | (with_reducible exact Gr.refl _) | assumption | (with_reducible apply Gr.from_drew) | (with_reducible apply Gr.alloc) | (with_reducible apply Gr.drew) | (with_reducible refine Gr.trans ?_ (by assumption)) | (with_reducible refine Gr.setCell ?_ (by omega) _))); done) | (repeat (first | (with_reducible exact Mdh.refl _ _) | (with_reducible refine Mdh.setCell ?_ (by simp) _) | (with_reducible refine Mdh.setNew ?_ (by simp) _) | (with_reducible apply Mdh.alloc) | (with_reducible apply Mdh.drew) | (with_reducible refine Mdh.gr ?_ (by assumption))))), ?_⟩
      refine flo_seg 8 rfl ?_
      simp only [List.take_succ_cons, List.take_zero, List.drop_succ_cons, List.drop_zero]
      repeat (go_big_quiet_step (fail))
      refine wpQuiet_nil ?_
      refine flo_eff rfl rfl rfl rfl (fun K hK => ?_)
      go_wp2_with ((go_at_call 15; refine (Benefit_any _ _ _ _ _ _ _ _).mono ?_; rintro e w1 ⟨rfl, hg⟩; replace HG := HG.trans hg; (try clear hc); have hc := HG.cell; (try simp only [World.size_alloc] at hc)))
      refine ⟨by (first | (refine Gr.mdh ?_ _; (repeat (first | (with_reducible exact Gr.refl _) | assumption | (with_reducible apply Gr.from_drew) | (with_reducible apply Gr.alloc) | (with_reducible apply Gr.drew) | (with_reducible refine Gr.trans ?_ (by assumption)) | (with_reducible refine Gr.setCell ?_ (by omega) _))); done) | (repeat (first | (with_reducible exact Mdh.refl _ _) | (with_reducible refine Mdh.setCell ?_ (by simp) _) | (with_reducible refine Mdh.setNew ?_ (by simp) _) | (with_reducible apply Mdh.alloc) | (with_reducible apply Mdh.drew) | (with_reducible refine Mdh.gr ?_ (by assumption))))), ?_⟩
      refine flo_seg 2 rfl ?_
      simp only [List.take_succ_cons, List.take_zero, List.drop_succ_cons, List.drop_zero]
      repeat (go_big_quiet_step (fail))
      refine wpQuiet_nil ?_
      refine flo_nil ?_
      go_wp2
      go_meet
      exact ⟨rfl, H14.out.grow (Gr.of_drew HG), H2.out.grow (Gr.of_drew HG), G1.trans (Gr.of_drew HG)⟩
    case rest =>
      clear u0 u1 u2 ufr lt14 l0 l1 l2 m0 m1 m2 hgl H14 H2 G1 e1 e2 e3
      obtain ⟨rfl, f14, f2, G1⟩ := hcut
      have HF14 := Lib.hid f14
      have HF2 := Lib.hid f2
      clear f14 f2
      go_wp2
      go_loopw [112] (fun i wr => ∃ q : Nat, q ≤ 2 ∧ i = .int .i64 q ∧ SdC wr b14 s k a ∧ S2 wr g k1 a1 k2 a2 ∧ wr.cell? ⟨wc.heap.size, 0, none⟩ = some (.int .i64 1) ∧ wr.cell? ⟨wc.heap.size, 1, none⟩ = some (.int .i64 2) ∧ Gr w wr) (fun i _ => 2 - (intOf i).toNat)
      case atStart => exact ⟨0, by omega, rfl, SdC.of HF14.out (by (repeat (first | (with_reducible exact Gr.refl _) | assumption | (with_reducible apply Gr.from_drew) | (with_reducible apply Gr.alloc) | (with_reducible apply Gr.drew) | (with_reducible refine Gr.trans ?_ (by assumption)) | (with_reducible refine Gr.setCell ?_ (by omega) _)))), HF2.out.grow (by (repeat (first | (with_reducible exact Gr.refl _) | assumption | (with_reducible apply Gr.from_drew) | (with_reducible apply Gr.alloc) | (with_reducible apply Gr.drew) | (with_reducible refine Gr.trans ?_ (by assumption)) | (with_reducible refine Gr.setCell ?_ (by omega) _)))), by simp [go_sem], by simp [go_sem], by (repeat (first | (with_reducible exact Gr.refl _) | assumption | (with_reducible apply Gr.from_drew) | (with_reducible apply Gr.alloc) | (with_reducible apply Gr.drew) | (with_reducible refine Gr.trans ?_ (by assumption)) | (with_reducible refine Gr.setCell ?_ (by omega) _)))⟩
      case round =>
        obtain ⟨q, hq, rfl, f14, f2, c1, c2, G2⟩ := hrel
        clear G1 HF14 HF2
        obtain ⟨u0, u1, u2⟩ := f14
        obtain ⟨hgl, l0, l1, l2, m0, m1, m2⟩ := f2
        by_cases hlt : q < 2
        · obtain ⟨p, hp, hpc⟩ : ∃ p : Int, (p = 1 ∨ p = 2) ∧ wr.cell? ⟨wc.heap.size, q, none⟩ = some (.int .i64 p) := by
            rcases (show q = 0 ∨ q = 1 by omega) with rfl | rfl
            · exact ⟨1, .inl rfl, c1⟩
            · exact ⟨2, .inr rfl, c2⟩
          have HP := Lib.hid hp
          have eC := Lib.hid (okC_false (policy := p) (s := s) (k := k) (a := a) (s' := 1) (k' := k2) (a' := a2) (room := wd) (.inl HCK.out))
          have eD := Lib.hid (okC_false (policy := p) (s := 1) (k := k2) (a := a2) (s' := s) (k' := k) (a' := a) (room := wd) (.inr (.inl HCK.out)))
          clear hp
          go_upto_region 25 with fail
          have HG := Gr.refl wr.drew
          refine wp_region_flo (fun _ => False) [] [] (by kernel_rfl) (by kernel_rfl) (fun _ h => h.elim) ?_
          refine flo_seg 6 rfl ?_
          simp only [List.take_succ_cons, List.take_zero, List.drop_succ_cons, List.drop_zero]
          repeat (go_big_quiet_step (fail))
          refine wpQuiet_nil ?_
          refine flo_eff rfl rfl rfl rfl (fun K hK => ?_)
          go_wp2_with ((go_at_call 9; refine (Compare_any _ _ _ _ _ _ _ _ _).mono ?_; rintro e w1 ⟨rfl, hg⟩; replace HG := HG.trans hg; (try clear hc); have hc := HG.cell; (try simp only [World.size_alloc] at hc)))
          refine ⟨by (first | (refine Gr.mdh ?_ _; (repeat (first | (with_reducible exact Gr.refl _) | assumption | (with_reducible apply Gr.from_drew) | (with_reducible apply Gr.alloc) | (with_reducible apply Gr.drew) | (with_reducible refine Gr.trans ?_ (by assumption)) | (with_reducible refine Gr.setCell ?_ (by omega) _))); done) | (repeat (first | (with_reducible exact Mdh.refl _ _) | (with_reducible refine Mdh.setCell ?_ (by simp) _) | (with_reducible refine Mdh.setNew ?_ (by simp) _) | (with_reducible apply Mdh.alloc) | (with_reducible apply Mdh.drew) | (with_reducible refine Mdh.gr ?_ (by assumption))))), ?_⟩
          refine flo_seg 5 rfl ?_
          simp only [List.take_succ_cons, List.take_zero, List.drop_succ_cons, List.drop_zero]
          repeat (go_big_quiet_step (fail))
          refine wpQuiet_nil ?_
          refine flo_nil ?_
          rw [eC.out.1, eC.out.2]
          replace HG := Gr.of_drew HG
          (first | replace u0 := Gr.keep HG u0 | replace u0 := Gr.blk HG u0 | replace u0 := u0.gr HG); (first | replace u1 := Gr.keep HG u1 | replace u1 := Gr.blk HG u1 | replace u1 := u1.gr HG); (first | replace u2 := Gr.keep HG u2 | replace u2 := Gr.blk HG u2 | replace u2 := u2.gr HG); (first | replace l0 := Gr.keep HG l0 | replace l0 := Gr.blk HG l0 | replace l0 := l0.gr HG); (first | replace l1 := Gr.keep HG l1 | replace l1 := Gr.blk HG l1 | replace l1 := l1.gr HG); (first | replace l2 := Gr.keep HG l2 | replace l2 := Gr.blk HG l2 | replace l2 := l2.gr HG); (first | replace m0 := Gr.keep HG m0 | replace m0 := Gr.blk HG m0 | replace m0 := m0.gr HG); (first | replace m1 := Gr.keep HG m1 | replace m1 := Gr.blk HG m1 | replace m1 := m1.gr HG); (first | replace m2 := Gr.keep HG m2 | replace m2 := Gr.blk HG m2 | replace m2 := m2.gr HG); (first | replace c1 := Gr.keep HG c1 | replace c1 := Gr.blk HG c1 | replace c1 := c1.gr HG); (first | replace c2 := Gr.keep HG c2 | replace c2 := Gr.blk HG c2 | replace c2 := c2.gr HG)
          replace G2 := G2.trans HG
          clear hc HG hpc hgl
          go_upto_region 26 with fail
          have HG := Gr.refl w1.drew
          refine wp_region_flo (fun _ => False) [] [] (by kernel_rfl) (by kernel_rfl) (fun _ h => h.elim) ?_
          refine flo_seg 6 rfl ?_
          simp only [List.take_succ_cons, List.take_zero, List.drop_succ_cons, List.drop_zero]
          repeat (go_big_quiet_step (fail))
          refine wpQuiet_nil ?_
          refine flo_eff rfl rfl rfl rfl (fun K hK => ?_)
          go_wp2_with ((go_at_call 9; refine (Compare_any _ _ _ _ _ _ _ _ _).mono ?_; rintro e w1 ⟨rfl, hg⟩; replace HG := HG.trans hg; (try clear hc); have hc := HG.cell; (try simp only [World.size_alloc] at hc)))
          refine ⟨by (first | (refine Gr.mdh ?_ _; (repeat (first | (with_reducible exact Gr.refl _) | assumption | (with_reducible apply Gr.from_drew) | (with_reducible apply Gr.alloc) | (with_reducible apply Gr.drew) | (with_reducible refine Gr.trans ?_ (by assumption)) | (with_reducible refine Gr.setCell ?_ (by omega) _))); done) | (repeat (first | (with_reducible exact Mdh.refl _ _) | (with_reducible refine Mdh.setCell ?_ (by simp) _) | (with_reducible refine Mdh.setNew ?_ (by simp) _) | (with_reducible apply Mdh.alloc) | (with_reducible apply Mdh.drew) | (with_reducible refine Mdh.gr ?_ (by assumption))))), ?_⟩
          refine flo_seg 5 rfl ?_
          simp only [List.take_succ_cons, List.take_zero, List.drop_succ_cons, List.drop_zero]
          repeat (go_big_quiet_step (fail))
          refine wpQuiet_nil ?_
          refine flo_nil ?_
          rw [eD.out.1, eD.out.2]
          replace HG := Gr.of_drew HG
          (first | replace u0 := Gr.keep HG u0 | replace u0 := Gr.blk HG u0 | replace u0 := u0.gr HG); (first | replace u1 := Gr.keep HG u1 | replace u1 := Gr.blk HG u1 | replace u1 := u1.gr HG); (first | replace u2 := Gr.keep HG u2 | replace u2 := Gr.blk HG u2 | replace u2 := u2.gr HG); (first | replace l0 := Gr.keep HG l0 | replace l0 := Gr.blk HG l0 | replace l0 := l0.gr HG); (first | replace l1 := Gr.keep HG l1 | replace l1 := Gr.blk HG l1 | replace l1 := l1.gr HG); (first | replace l2 := Gr.keep HG l2 | replace l2 := Gr.blk HG l2 | replace l2 := l2.gr HG); (first | replace m0 := Gr.keep HG m0 | replace m0 := Gr.blk HG m0 | replace m0 := m0.gr HG); (first | replace m1 := Gr.keep HG m1 | replace m1 := Gr.blk HG m1 | replace m1 := m1.gr HG); (first | replace m2 := Gr.keep HG m2 | replace m2 := Gr.blk HG m2 | replace m2 := m2.gr HG); (first | replace c1 := Gr.keep HG c1 | replace c1 := Gr.blk HG c1 | replace c1 := c1.gr HG); (first | replace c2 := Gr.keep HG c2 | replace c2 := Gr.blk HG c2 | replace c2 := c2.gr HG)
          replace G2 := G2.trans HG
          clear hc HG
          go_upto_region 27 with fail
          go_cut [22, 23, 24] (fun t22 t23 t24 wx => ∃ b22, t22 = .pointer (some ⟨b22, 0, none⟩) ∧ t23 = .bool false ∧ t24 = .int .i64 2 ∧ wx.heap[b22]? = some (.cells #[.int .i64 0, .int .i64 0, .int .i64 0] 23) ∧ Gr w1 wx)
          case first =>
            have HG := Gr.refl w1.drew
            refine wp_region_flo (fun _ => False) [22] [] (by kernel_rfl) (by kernel_rfl) (fun _ h => h.elim) ?_
            refine flo_seg 5 rfl ?_
            simp only [List.take_succ_cons, List.take_zero, List.drop_succ_cons, List.drop_zero]
            repeat (go_big_quiet_step (fail))
            refine wpQuiet_nil ?_
            refine flo_effg rfl rfl rfl (fun wg1 hgg1 K hK => ?_)
            (try replace HG := Gr.trans (Gr.trans HG (by (repeat (first | (with_reducible exact Gr.refl _) | assumption | (with_reducible apply Gr.from_drew) | (with_reducible apply Gr.alloc) | (with_reducible apply Gr.drew) | (with_reducible refine Gr.trans ?_ (by assumption)) | (with_reducible refine Gr.setCell ?_ (by omega) _))))) hgg1)
            go_wp2
            refine ⟨by (first | (refine Gr.mdh ?_ _; (repeat (first | (with_reducible exact Gr.refl _) | assumption | (with_reducible apply Gr.from_drew) | (with_reducible apply Gr.alloc) | (with_reducible apply Gr.drew) | (with_reducible refine Gr.trans ?_ (by assumption)) | (with_reducible refine Gr.setCell ?_ (by omega) _))); done) | (repeat (first | (with_reducible exact Mdh.refl _ _) | (with_reducible refine Mdh.setCell ?_ (by simp) _) | (with_reducible refine Mdh.setNew ?_ (by simp) _) | (with_reducible apply Mdh.alloc) | (with_reducible apply Mdh.drew) | (with_reducible refine Mdh.gr ?_ (by assumption))))), ?_⟩
            refine flo_seg 1 rfl ?_
            simp only [List.take_succ_cons, List.take_zero, List.drop_succ_cons, List.drop_zero]
            repeat (go_big_quiet_step (fail))
            refine wpQuiet_nil ?_
            refine flo_effg rfl rfl rfl (fun wg2 hgg2 K hK => ?_)
            (try replace HG := Gr.trans (Gr.trans HG (by (repeat (first | (with_reducible exact Gr.refl _) | assumption | (with_reducible apply Gr.from_drew) | (with_reducible apply Gr.alloc) | (with_reducible apply Gr.drew) | (with_reducible refine Gr.trans ?_ (by assumption)) | (with_reducible refine Gr.setCell ?_ (by omega) _))))) hgg2)
            go_wp2_with fail; refine (Best_refuse p HP.out wd _ (1, k2, a2) (s, k, a) HCK.out _ (sidesAt2 _ _ (hgg2.keep (by simp [go_sem])) (hgg2.keep (by simp [go_sem])) (hgg2.keep (by simp [go_sem])) (hgg2.keep (by simp [go_sem])) (hgg2.keep (by simp [go_sem])) (hgg2.keep (by simp [go_sem]))) (by have := hgg2.sz; simp at this; omega)).mono ?_; rintro e w2 ⟨rfl, hg⟩; simp only [bestV, zSd]; replace HG := HG.trans hg; go_wp2; refine ⟨by (first | (refine Gr.mdh ?_ _; (repeat (first | (with_reducible exact Gr.refl _) | assumption | (with_reducible apply Gr.from_drew) | (with_reducible apply Gr.alloc) | (with_reducible apply Gr.drew) | (with_reducible refine Gr.trans ?_ (by assumption)) | (with_reducible refine Gr.setCell ?_ (by omega) _))); done) | (repeat (first | (with_reducible exact Mdh.refl _ _) | (with_reducible refine Mdh.setCell ?_ (by simp) _) | (with_reducible refine Mdh.setNew ?_ (by simp) _) | (with_reducible apply Mdh.alloc) | (with_reducible apply Mdh.drew) | (with_reducible refine Mdh.gr ?_ (by assumption))))), ?_⟩
            refine flo_seg 4 rfl ?_
            simp only [List.take_succ_cons, List.take_zero, List.drop_succ_cons, List.drop_zero]
            repeat (go_big_quiet_step (fail))
            refine wpQuiet_nil ?_
            refine flo_float (fun b => .pointer (some ⟨b, 0, none⟩)) (.cells #[.int .i64 0, .int .i64 0, .int .i64 0] 23) rfl rfl (fun w => by kernel_rfl) (fun wf1 fb1 hgf1 fl1 fh1 ft1 fo1 => ?_)
            (try replace HG := Gr.trans (Gr.trans HG (by (repeat (first | (with_reducible exact Gr.refl _) | assumption | (with_reducible apply Gr.from_drew) | (with_reducible apply Gr.alloc) | (with_reducible apply Gr.drew) | (with_reducible refine Gr.trans ?_ (by assumption)) | (with_reducible refine Gr.setCell ?_ (by omega) _))))) hgf1)
            have fc1 := (cellsOf fo1).1
            have ff1 := (cellsOf fo1).2
            refine flo_eff rfl rfl rfl rfl (fun K hK => ?_)
            go_wp2
            refine ⟨by (first | (refine Gr.mdh ?_ _; (repeat (first | (with_reducible exact Gr.refl _) | assumption | (with_reducible apply Gr.from_drew) | (with_reducible apply Gr.alloc) | (with_reducible apply Gr.drew) | (with_reducible refine Gr.trans ?_ (by assumption)) | (with_reducible refine Gr.setCell ?_ (by omega) _))); done) | (repeat (first | (with_reducible exact Mdh.refl _ _) | (with_reducible refine Mdh.setCell ?_ (by simp) _) | (with_reducible refine Mdh.setNew ?_ (by simp) _) | (with_reducible apply Mdh.alloc) | (with_reducible apply Mdh.drew) | (with_reducible refine Mdh.gr ?_ (by assumption))))), ?_⟩
            refine flo_seg 2 rfl ?_
            simp only [List.take_succ_cons, List.take_zero, List.drop_succ_cons, List.drop_zero]
            repeat (go_big_quiet_step (fail))
            refine wpQuiet_nil ?_
            refine flo_nil ?_
            go_wp2
            go_meet
            exact ⟨_, rfl, rfl, rfl, blk3 fo1, Gr.of_drew (by (repeat (first | (with_reducible exact Gr.refl _) | assumption | (with_reducible apply Gr.from_drew) | (with_reducible apply Gr.alloc) | (with_reducible apply Gr.drew) | (with_reducible refine Gr.trans ?_ (by assumption)) | (with_reducible refine Gr.setCell ?_ (by omega) _))))⟩
          case rest =>
            obtain ⟨b22, rfl, rfl, rfl, hb22, hg27⟩ := hcut
            (first | replace u0 := Gr.keep hg27 u0 | replace u0 := Gr.blk hg27 u0 | replace u0 := u0.gr hg27); (first | replace u1 := Gr.keep hg27 u1 | replace u1 := Gr.blk hg27 u1 | replace u1 := u1.gr hg27); (first | replace u2 := Gr.keep hg27 u2 | replace u2 := Gr.blk hg27 u2 | replace u2 := u2.gr hg27); (first | replace l0 := Gr.keep hg27 l0 | replace l0 := Gr.blk hg27 l0 | replace l0 := l0.gr hg27); (first | replace l1 := Gr.keep hg27 l1 | replace l1 := Gr.blk hg27 l1 | replace l1 := l1.gr hg27); (first | replace l2 := Gr.keep hg27 l2 | replace l2 := Gr.blk hg27 l2 | replace l2 := l2.gr hg27); (first | replace m0 := Gr.keep hg27 m0 | replace m0 := Gr.blk hg27 m0 | replace m0 := m0.gr hg27); (first | replace m1 := Gr.keep hg27 m1 | replace m1 := Gr.blk hg27 m1 | replace m1 := m1.gr hg27); (first | replace m2 := Gr.keep hg27 m2 | replace m2 := Gr.blk hg27 m2 | replace m2 := m2.gr hg27); (first | replace c1 := Gr.keep hg27 c1 | replace c1 := Gr.blk hg27 c1 | replace c1 := c1.gr hg27); (first | replace c2 := Gr.keep hg27 c2 | replace c2 := Gr.blk hg27 c2 | replace c2 := c2.gr hg27)
            replace G2 := G2.trans hg27
            clear hg27
            go_upto_region 28 with fail
            go_cut [25, 26, 27] (fun _t25 _t26 t27 wx => t27 = .int .i64 6 ∧ Gr wc wx)
            case first =>
              have HG := Gr.refl wc.drew
              refine wp_region_flo (fun _ => False) [25] [] (by kernel_rfl) (by kernel_rfl) (fun _ h => h.elim) ?_
              refine flo_seg 7 rfl ?_
              simp only [List.take_succ_cons, List.take_zero, List.drop_succ_cons, List.drop_zero]
              repeat (go_big_quiet_step (fail))
              refine wpQuiet_nil ?_
              refine flo_effg rfl rfl rfl (fun wg1 hgg1 K hK => ?_)
              (try replace HG := Gr.trans (Gr.trans HG (by (repeat (first | (with_reducible exact Gr.refl _) | assumption | (with_reducible apply Gr.from_drew) | (with_reducible apply Gr.alloc) | (with_reducible apply Gr.drew) | (with_reducible refine Gr.trans ?_ (by assumption)) | (with_reducible refine Gr.setCell ?_ (by omega) _))))) hgg1)
              go_wp2
              refine ⟨by (first | (refine Gr.mdh ?_ _; (repeat (first | (with_reducible exact Gr.refl _) | assumption | (with_reducible apply Gr.from_drew) | (with_reducible apply Gr.alloc) | (with_reducible apply Gr.drew) | (with_reducible refine Gr.trans ?_ (by assumption)) | (with_reducible refine Gr.setCell ?_ (by omega) _))); done) | (repeat (first | (with_reducible exact Mdh.refl _ _) | (with_reducible refine Mdh.setCell ?_ (by simp) _) | (with_reducible refine Mdh.setNew ?_ (by simp) _) | (with_reducible apply Mdh.alloc) | (with_reducible apply Mdh.drew) | (with_reducible refine Mdh.gr ?_ (by assumption))))), ?_⟩
              refine flo_seg 1 rfl ?_
              simp only [List.take_succ_cons, List.take_zero, List.drop_succ_cons, List.drop_zero]
              repeat (go_big_quiet_step (fail))
              refine wpQuiet_nil ?_
              refine flo_effg rfl rfl rfl (fun wg2 hgg2 K hK => ?_)
              (try replace HG := Gr.trans (Gr.trans HG (by (repeat (first | (with_reducible exact Gr.refl _) | assumption | (with_reducible apply Gr.from_drew) | (with_reducible apply Gr.alloc) | (with_reducible apply Gr.drew) | (with_reducible refine Gr.trans ?_ (by assumption)) | (with_reducible refine Gr.setCell ?_ (by omega) _))))) hgg2)
              go_wp2_with fail; refine (Best_same p HP.out r _ (1, k2, a2) g2 _ (sidesAt2 _ _ (hgg2.keep (by simp [go_sem])) (hgg2.keep (by simp [go_sem])) (hgg2.keep (by simp [go_sem])) (hgg2.keep (by simp [go_sem])) (hgg2.keep (by simp [go_sem])) (hgg2.keep (by simp [go_sem]))) (by have := hgg2.sz; simp at this; omega)).mono ?_; rintro e w2 ⟨rfl, hg⟩; simp only [bestV, zSd]; replace HG := HG.trans hg; go_wp2; refine ⟨by (first | (refine Gr.mdh ?_ _; (repeat (first | (with_reducible exact Gr.refl _) | assumption | (with_reducible apply Gr.from_drew) | (with_reducible apply Gr.alloc) | (with_reducible apply Gr.drew) | (with_reducible refine Gr.trans ?_ (by assumption)) | (with_reducible refine Gr.setCell ?_ (by omega) _))); done) | (repeat (first | (with_reducible exact Mdh.refl _ _) | (with_reducible refine Mdh.setCell ?_ (by simp) _) | (with_reducible refine Mdh.setNew ?_ (by simp) _) | (with_reducible apply Mdh.alloc) | (with_reducible apply Mdh.drew) | (with_reducible refine Mdh.gr ?_ (by assumption))))), ?_⟩
              refine flo_seg 4 rfl ?_
              simp only [List.take_succ_cons, List.take_zero, List.drop_succ_cons, List.drop_zero]
              repeat (go_big_quiet_step (fail))
              refine wpQuiet_nil ?_
              refine flo_float (fun b => .pointer (some ⟨b, 0, none⟩)) (.cells #[.int .i64 0, .int .i64 0, .int .i64 0] 23) rfl rfl (fun w => by kernel_rfl) (fun wf1 fb1 hgf1 fl1 fh1 ft1 fo1 => ?_)
              (try replace HG := Gr.trans (Gr.trans HG (by (repeat (first | (with_reducible exact Gr.refl _) | assumption | (with_reducible apply Gr.from_drew) | (with_reducible apply Gr.alloc) | (with_reducible apply Gr.drew) | (with_reducible refine Gr.trans ?_ (by assumption)) | (with_reducible refine Gr.setCell ?_ (by omega) _))))) hgf1)
              have fc1 := (cellsOf fo1).1
              have ff1 := (cellsOf fo1).2
              refine flo_eff rfl rfl rfl rfl (fun K hK => ?_)
              go_wp2
              refine ⟨by (first | (refine Gr.mdh ?_ _; (repeat (first | (with_reducible exact Gr.refl _) | assumption | (with_reducible apply Gr.from_drew) | (with_reducible apply Gr.alloc) | (with_reducible apply Gr.drew) | (with_reducible refine Gr.trans ?_ (by assumption)) | (with_reducible refine Gr.setCell ?_ (by omega) _))); done) | (repeat (first | (with_reducible exact Mdh.refl _ _) | (with_reducible refine Mdh.setCell ?_ (by simp) _) | (with_reducible refine Mdh.setNew ?_ (by simp) _) | (with_reducible apply Mdh.alloc) | (with_reducible apply Mdh.drew) | (with_reducible refine Mdh.gr ?_ (by assumption))))), ?_⟩
              refine flo_seg 2 rfl ?_
              simp only [List.take_succ_cons, List.take_zero, List.drop_succ_cons, List.drop_zero]
              repeat (go_big_quiet_step (fail))
              refine wpQuiet_nil ?_
              refine flo_nil ?_
              go_wp2
              go_meet
              exact ⟨rfl, Gr.of_drew (by (repeat (first | (with_reducible exact Gr.refl _) | assumption | (with_reducible apply Gr.from_drew) | (with_reducible apply Gr.alloc) | (with_reducible apply Gr.drew) | (with_reducible refine Gr.trans ?_ (by assumption)) | (with_reducible refine Gr.setCell ?_ (by omega) _))))⟩
            case rest =>
              obtain ⟨rfl, hg28⟩ := hcut
              (first | replace u0 := Gr.keep hg28 u0 | replace u0 := Gr.blk hg28 u0 | replace u0 := u0.gr hg28); (first | replace u1 := Gr.keep hg28 u1 | replace u1 := Gr.blk hg28 u1 | replace u1 := u1.gr hg28); (first | replace u2 := Gr.keep hg28 u2 | replace u2 := Gr.blk hg28 u2 | replace u2 := u2.gr hg28); (first | replace l0 := Gr.keep hg28 l0 | replace l0 := Gr.blk hg28 l0 | replace l0 := l0.gr hg28); (first | replace l1 := Gr.keep hg28 l1 | replace l1 := Gr.blk hg28 l1 | replace l1 := l1.gr hg28); (first | replace l2 := Gr.keep hg28 l2 | replace l2 := Gr.blk hg28 l2 | replace l2 := l2.gr hg28); (first | replace m0 := Gr.keep hg28 m0 | replace m0 := Gr.blk hg28 m0 | replace m0 := m0.gr hg28); (first | replace m1 := Gr.keep hg28 m1 | replace m1 := Gr.blk hg28 m1 | replace m1 := m1.gr hg28); (first | replace m2 := Gr.keep hg28 m2 | replace m2 := Gr.blk hg28 m2 | replace m2 := m2.gr hg28); (first | replace c1 := Gr.keep hg28 c1 | replace c1 := Gr.blk hg28 c1 | replace c1 := c1.gr hg28); (first | replace c2 := Gr.keep hg28 c2 | replace c2 := Gr.blk hg28 c2 | replace c2 := c2.gr hg28); (first | replace hb22 := Gr.keep hg28 hb22 | replace hb22 := Gr.blk hg28 hb22 | replace hb22 := hb22.gr hg28)
              replace G2 := G2.trans hg28
              clear hg28
              obtain ⟨d22, f22⟩ := cellsOf hb22
              go_wp2
              go_roundw
              case rel => exact ⟨q + 1, by omega, by go_num, ⟨u0, u1, u2⟩, ⟨World.block_lt_of_cell? _ _ l0, l0, l1, l2, m0, m1, m2⟩, c1, c2, G2⟩
              case measure => simp [intOf]; omega
        · clear c1 c2 u0 u1 u2
          obtain ⟨wo, rfl⟩ : ∃ wo : World, wo = wr := ⟨_, rfl⟩
          go_wp2
          go_loopw [199] (fun i wx => ∃ q : Nat, q ≤ 2 ∧ i = .int .i64 q ∧ S2 wx g k1 a1 k2 a2 ∧ wx.cell? ⟨wo.heap.size, 0, none⟩ = some (.int .i64 (-far)) ∧ wx.cell? ⟨wo.heap.size, 1, none⟩ = some (.int .i64 (3 + far)) ∧ Gr w wx) (fun i _ => 2 - (intOf i).toNat)
          case atStart => exact ⟨0, by omega, rfl, S2.grow ⟨hgl, l0, l1, l2, m0, m1, m2⟩ (by (repeat (first | (with_reducible exact Gr.refl _) | assumption | (with_reducible apply Gr.from_drew) | (with_reducible apply Gr.alloc) | (with_reducible apply Gr.drew) | (with_reducible refine Gr.trans ?_ (by assumption)) | (with_reducible refine Gr.setCell ?_ (by omega) _)))), by simp [go_sem], by simp [go_sem], by (repeat (first | (with_reducible exact Gr.refl _) | assumption | (with_reducible apply Gr.from_drew) | (with_reducible apply Gr.alloc) | (with_reducible apply Gr.drew) | (with_reducible refine Gr.trans ?_ (by assumption)) | (with_reducible refine Gr.setCell ?_ (by omega) _)))⟩
          case round =>
            obtain ⟨q', hq', rfl, f2, c1, c2, G3⟩ := hrel
            obtain ⟨hgl, l0, l1, l2, m0, m1, m2⟩ := f2
            clear G2
            by_cases hlt : q' < 2
            · obtain ⟨p, hp, hpc⟩ : ∃ p : Int, ¬ (p = 1 ∨ p = 2) ∧ wr.cell? ⟨wo.heap.size, q', none⟩ = some (.int .i64 p) := by
                rcases (show q' = 0 ∨ q' = 1 by omega) with rfl | rfl
                · exact ⟨-far, by omega, c1⟩
                · exact ⟨3 + far, by omega, c2⟩
              have eC := Lib.hid (okC_false (policy := p) (s := 0) (k := k1) (a := a1) (s' := 1) (k' := k2) (a' := a2) (room := r) (.inr (.inr hp)))
              have HP := Lib.hid hp
              clear hp
              go_upto_region 35 with fail
              have HG := Gr.refl wr.drew
              refine wp_region_flo (fun _ => False) [] [] (by kernel_rfl) (by kernel_rfl) (fun _ h => h.elim) ?_
              refine flo_seg 8 rfl ?_
              simp only [List.take_succ_cons, List.take_zero, List.drop_succ_cons, List.drop_zero]
              repeat (go_big_quiet_step (fail))
              refine wpQuiet_nil ?_
              refine flo_eff rfl rfl rfl rfl (fun K hK => ?_)
              go_wp2_with ((go_at_call 9; refine (Compare_any _ _ _ _ _ _ _ _ _).mono ?_; rintro e w1 ⟨rfl, hg⟩; replace HG := HG.trans hg; (try clear hc); have hc := HG.cell; (try simp only [World.size_alloc] at hc)))
              refine ⟨by (first | (refine Gr.mdh ?_ _; (repeat (first | (with_reducible exact Gr.refl _) | assumption | (with_reducible apply Gr.from_drew) | (with_reducible apply Gr.alloc) | (with_reducible apply Gr.drew) | (with_reducible refine Gr.trans ?_ (by assumption)) | (with_reducible refine Gr.setCell ?_ (by omega) _))); done) | (repeat (first | (with_reducible exact Mdh.refl _ _) | (with_reducible refine Mdh.setCell ?_ (by simp) _) | (with_reducible refine Mdh.setNew ?_ (by simp) _) | (with_reducible apply Mdh.alloc) | (with_reducible apply Mdh.drew) | (with_reducible refine Mdh.gr ?_ (by assumption))))), ?_⟩
              refine flo_seg 5 rfl ?_
              simp only [List.take_succ_cons, List.take_zero, List.drop_succ_cons, List.drop_zero]
              repeat (go_big_quiet_step (fail))
              refine wpQuiet_nil ?_
              refine flo_nil ?_
              rw [eC.out.1, eC.out.2]
              replace HG := Gr.of_drew HG
              (first | replace l0 := Gr.keep HG l0 | replace l0 := Gr.blk HG l0 | replace l0 := l0.gr HG); (first | replace l1 := Gr.keep HG l1 | replace l1 := Gr.blk HG l1 | replace l1 := l1.gr HG); (first | replace l2 := Gr.keep HG l2 | replace l2 := Gr.blk HG l2 | replace l2 := l2.gr HG); (first | replace m0 := Gr.keep HG m0 | replace m0 := Gr.blk HG m0 | replace m0 := m0.gr HG); (first | replace m1 := Gr.keep HG m1 | replace m1 := Gr.blk HG m1 | replace m1 := m1.gr HG); (first | replace m2 := Gr.keep HG m2 | replace m2 := Gr.blk HG m2 | replace m2 := m2.gr HG); (first | replace c1 := Gr.keep HG c1 | replace c1 := Gr.blk HG c1 | replace c1 := c1.gr HG); (first | replace c2 := Gr.keep HG c2 | replace c2 := Gr.blk HG c2 | replace c2 := c2.gr HG)
              replace G3 := G3.trans HG
              clear hc HG hpc hgl
              go_wp2_with fail
              refine (Best_bad p r _ (fun h => (HP.out h).elim) _).mono ?_
              rintro e w2 ⟨rfl, hg⟩
              simp only [bestV, zSd]
              (first | replace l0 := Gr.keep hg l0 | replace l0 := Gr.blk hg l0 | replace l0 := l0.gr hg); (first | replace l1 := Gr.keep hg l1 | replace l1 := Gr.blk hg l1 | replace l1 := l1.gr hg); (first | replace l2 := Gr.keep hg l2 | replace l2 := Gr.blk hg l2 | replace l2 := l2.gr hg); (first | replace m0 := Gr.keep hg m0 | replace m0 := Gr.blk hg m0 | replace m0 := m0.gr hg); (first | replace m1 := Gr.keep hg m1 | replace m1 := Gr.blk hg m1 | replace m1 := m1.gr hg); (first | replace m2 := Gr.keep hg m2 | replace m2 := Gr.blk hg m2 | replace m2 := m2.gr hg); (first | replace c1 := Gr.keep hg c1 | replace c1 := Gr.blk hg c1 | replace c1 := c1.gr hg); (first | replace c2 := Gr.keep hg c2 | replace c2 := Gr.blk hg c2 | replace c2 := c2.gr hg)
              replace G3 := G3.trans hg
              clear hg
              go_wp2
              go_roundw
              case rel => exact ⟨q' + 1, by omega, by go_num, S2.grow ⟨World.block_lt_of_cell? _ _ l0, l0, l1, l2, m0, m1, m2⟩ (by (repeat (first | (with_reducible exact Gr.refl _) | assumption | (with_reducible apply Gr.from_drew) | (with_reducible apply Gr.alloc) | (with_reducible apply Gr.drew) | (with_reducible refine Gr.trans ?_ (by assumption)) | (with_reducible refine Gr.setCell ?_ (by omega) _)))), (Gr.alloc (Gr.refl _) _).keep c1, (Gr.alloc (Gr.refl _) _).keep c2, by (repeat (first | (with_reducible exact Gr.refl _) | assumption | (with_reducible apply Gr.from_drew) | (with_reducible apply Gr.alloc) | (with_reducible apply Gr.drew) | (with_reducible refine Gr.trans ?_ (by assumption)) | (with_reducible refine Gr.setCell ?_ (by omega) _)))⟩
              case measure => simp [intOf]; omega
            · have HG := Gr.refl wr
              clear c1 c2 l0 l1 l2 m0 m1 m2
              go_wp2_with (go_at_call 17; refine (works_any _).mono ?_; rintro e w1 ⟨rfl, hg⟩; replace HG := HG.trans hg; (try clear hc); have hc := HG.cell; (try simp only [World.size_alloc] at hc))
              go_ret
              exact ⟨rfl, G3.trans HG⟩
end Go.Proofs.Ytgpecjnnepocmaa
