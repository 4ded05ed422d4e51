/- ScoreTotal, walked. -/
import Derived.Test.YtgpecjnnepocmaaScN
namespace Go.Proofs.Ytgpecjnnepocmaa
open Go.RowKit
attribute [local go_sem] Ovs cell_ov obj_ov shape_ov

theorem room_r (n r : Int) (h0 : 0 ≤ n) (h1 : n ≤ 65535) (hr : r = 1 + n % 8192) (w : World) : Calls Try.prog 18 #[.int .u16 n] w fun e w' => e = .returned (.int .i64 r) ∧ w = w' := by
  rw [hr]; exact room_any n h0 h1 w

theorem side_at {w : World} {g n : Nat} {l : List Nm} {room : Int} (hs : SidesAt w g 0 (madeK l room n)) (i : Nat) (hi : i < n) :
    w.cell? ⟨g, i * 3, none⟩ = some (.int .i64 i) ∧ w.cell? ⟨g, i * 3 + 1, none⟩ = some (.int .i64 ((l[i]?.getD (0, 0)).1 % (room + 1))) ∧ w.cell? ⟨g, i * 3 + 2, none⟩ = some (.int .i64 ((l[i]?.getD (0, 0)).2 % 1099511627777)) := by
  have h := hs i (by rw [madeK_length]; exact hi)
  rw [madeK_get l room n i hi, Nat.zero_add] at h
  exact h

/-- Three sides one behind the other. -/
structure S3 (w : World) (g : Nat) (k1 a1 k2 a2 k3 a3 : Int) : Prop where
  lt : g < w.heap.size
  l0 : w.cell? ⟨g, 0, none⟩ = some (.int .i64 0)
  l1 : w.cell? ⟨g, 1, none⟩ = some (.int .i64 k1)
  l2 : w.cell? ⟨g, 2, none⟩ = some (.int .i64 a1)
  m0 : w.cell? ⟨g, 3, none⟩ = some (.int .i64 1)
  m1 : w.cell? ⟨g, 4, none⟩ = some (.int .i64 k2)
  m2 : w.cell? ⟨g, 5, none⟩ = some (.int .i64 a2)
  n0 : w.cell? ⟨g, 6, none⟩ = some (.int .i64 2)
  n1 : w.cell? ⟨g, 7, none⟩ = some (.int .i64 k3)
  n2 : w.cell? ⟨g, 8, none⟩ = some (.int .i64 a3)
theorem S3.grow {w w1 : World} {g : Nat} {k1 a1 k2 a2 k3 a3 : Int} (h : S3 w g k1 a1 k2 a2 k3 a3) (gr : Gr w w1) : S3 w1 g k1 a1 k2 a2 k3 a3 := by
  obtain ⟨h0, l0, l1, l2, m0, m1, m2, n0, n1, n2⟩ := h
  exact ⟨Nat.lt_of_lt_of_le h0 gr.sz, (gr.cell _ _ h0).trans l0, (gr.cell _ _ h0).trans l1, (gr.cell _ _ h0).trans l2, (gr.cell _ _ h0).trans m0, (gr.cell _ _ h0).trans m1, (gr.cell _ _ h0).trans m2, (gr.cell _ _ h0).trans n0, (gr.cell _ _ h0).trans n1, (gr.cell _ _ h0).trans n2⟩

/-- A number pair as it comes in. -/
def NmOk (k a : Int) : Prop := 0 ≤ k ∧ k ≤ 65535 ∧ 0 ≤ a ∧ a ≤ 18446744073709551615
theorem nums3 (ka aa kb ab kc ac : Int) (h1 : NmOk ka aa) (h2 : NmOk kb ab) (h3 : NmOk kc ac) : NumsOk [(ka, aa), (kb, ab), (kc, ac)] := by
  intro i hi
  match i, hi with
  | 0, _ => exact h1
  | 1, _ => exact h2
  | 2, _ => exact h3
theorem okC_true {policy s k a s' k' a' room : Int} (hp : policy = 1 ∨ policy = 2) (c1 : chkB s k a room = true) (c2 : chkB s' k' a' room = true) : errOf (okC policy s k a s' k' a' room) = 0 ∧ cmpC policy s k a s' k' a' room = polC policy s k a s' k' a' room := by
  have : okC policy s k a s' k' a' room = true := by rcases hp with rfl | rfl <;> simp [okC, c1, c2]
  exact ⟨errOf_true this, by simp [cmpC, this]⟩

set_option maxHeartbeats 4000000 in
theorem ScoreTotal_false (n ka aa kb ab kc ac : Int) (hn0 : 0 ≤ n) (hn1 : n ≤ 65535) (h1 : NmOk ka aa) (h2 : NmOk kb ab) (h3 : NmOk kc ac) (w : World) :
    Calls Try.prog 4 #[.bool false, .int .u16 n, .agg #[.int .u16 ka, .int .u64 aa], .agg #[.int .u16 kb, .int .u64 ab], .agg #[.int .u16 kc, .int .u64 ac]] w fun e w' =>
      e = .returned (.bool true) ∧ Gr w w' := by
  obtain ⟨r, hr⟩ : ∃ r, r = 1 + n % 8192 := ⟨_, rfl⟩
  have r1 : 1 ≤ r := by omega
  have r2 : r ≤ 8192 := by omega
  have HR := Lib.hid hr
  have H3 := Lib.hid (nums3 ka aa kb ab kc ac h1 h2 h3)
  have g1 := mkS_chk r 0 (ka, aa) r1 r2 (by omega) h1.1 h1.2.2.1
  have g2 := mkS_chk r 1 (kb, ab) r1 r2 (by omega) h2.1 h2.2.2.1
  have g3 := mkS_chk r 2 (kc, ac) r1 r2 (by omega) h3.1 h3.2.2.1
  simp only [mkS] at g1 g2 g3
  clear hr h1 h2 h3
  go_enter Try.func4, Try.ntmps4
  go_wp2_with (first
    | (go_at_call 18; refine (room_r n r hn0 hn1 HR.out _).mono ?_; rintro e w1 ⟨rfl, rfl⟩)
    | fail)
  refine (made_any _ 0 3 3 [(ka, aa), (kb, ab), (kc, ac)] r r1 r2 rfl (by omega) (by decide) _ ?hs H3.out ?hb).mono ?_
  case hs =>
    intro i hi
    match i, hi with
    | 0, _ => simp [go_sem]
    | 1, _ => simp [go_sem]
    | 2, _ => simp [go_sem]
  case hb => simp
  rintro e w1 ⟨v, rfl, hown0, hg⟩
  have hown : w1.ownsRow _ 23 3 v 3 (rowS (madeK [(ka, aa), (kb, ab), (kc, ac)] r 3)) := hown0
  obtain ⟨g, cap, rfl, hnc, hcm, hgl, hgb, hs⟩ := sides_of_row hown (madeK_length _ _ _) (by decide)
  obtain ⟨l0, l1, l2⟩ := side_at hs 0 (by decide)
  obtain ⟨m0, m1, m2⟩ := side_at hs 1 (by decide)
  obtain ⟨n0, n1, n2⟩ := side_at hs 2 (by decide)
  have hG0 : Gr w w1 := by (repeat (first | (with_reducible exact Gr.refl _) | assumption | (with_reducible apply Gr.from_drew) | (with_reducible apply Gr.alloc) | (with_reducible apply Gr.drew) | (with_reducible refine Gr.trans ?_ (by assumption)) | (with_reducible refine Gr.setCell ?_ (by omega) _)))
  simp at l0 l1 l2 m0 m1 m2 n0 n1 n2
  simp only [Int.cast_ofNat_Int] at g1 g2 g3
  revert l1 l2 m1 m2 n1 n2 g1 g2 g3
  generalize ka % (r + 1) = k1
  generalize aa % 1099511627777 = a1
  generalize kb % (r + 1) = k2
  generalize ab % 1099511627777 = a2
  generalize kc % (r + 1) = k3
  generalize ac % 1099511627777 = a3
  intro g1 g2 g3 l1 l2 m1 m2 n1 n2
  clear hs hown hown0 hg hgb HR H3 hn0 hn1
  obtain ⟨e12, c12⟩ := okC_true (policy := 1) (.inl rfl) g1 g2
  obtain ⟨e23, c23⟩ := okC_true (policy := 1) (.inl rfl) g2 g3
  obtain ⟨e13, c13⟩ := okC_true (policy := 1) (.inl rfl) g1 g3
  obtain ⟨e21, c21⟩ := okC_true (policy := 1) (.inl rfl) g2 g1
  have HT := Lib.hid (total3 1 r (.inl rfl) 0 k1 a1 1 k2 a2 2 k3 a3 g1 g2 g3 (by decide) (by decide) (by decide))
  have F := Lib.hid (S3.mk hgl l0 l1 l2 m0 m1 m2 n0 n1 n2)
  have HG := Gr.refl w1.drew
  go_wp2
  refine wp_region_flow (by kernel_rfl) (by kernel_rfl) ?_
  refine flow_seg 8 rfl ?_
  simp only [List.take_succ_cons, List.take_zero, List.drop_succ_cons, List.drop_zero]
  repeat (go_big_quiet_step (fail))
  refine wpQuiet_nil ?_
  refine flow_eff rfl rfl (fun K hK => ?_)
  go_wp2_with ((go_at_call 9; refine (Compare_any _ _ _ _ _ _ _ _ _).mono ?_; rintro e w1 ⟨rfl, hg⟩; replace HG := HG.trans hg; (try clear hc); have hc := HG.cell; (try simp only [World.size_alloc] at hc)))
  refine ⟨Gr.ovs (by (repeat (first | (with_reducible exact Gr.refl _) | assumption | (with_reducible apply Gr.from_drew) | (with_reducible apply Gr.alloc) | (with_reducible apply Gr.drew) | (with_reducible refine Gr.trans ?_ (by assumption)) | (with_reducible refine Gr.setCell ?_ (by omega) _)))), ?_⟩
  refine flow_seg 5 rfl ?_
  simp only [List.take_succ_cons, List.take_zero, List.drop_succ_cons, List.drop_zero]
  repeat (go_big_quiet_step (fail))
  refine wpQuiet_nil ?_
  refine flow_nil ?_
  replace F := Lib.hid (F.out.grow (Gr.of_drew HG))
  replace hG0 := hG0.trans (Gr.of_drew HG)
  clear l0 l1 l2 m0 m1 m2 n0 n1 n2 hgl hc
  obtain ⟨hgl, l0, l1, l2, m0, m1, m2, n0, n1, n2⟩ := F.out
  replace HG := Gr.refl w1.drew
  go_wp2
  refine wp_region_flow (by kernel_rfl) (by kernel_rfl) ?_
  refine flow_seg 8 rfl ?_
  simp only [List.take_succ_cons, List.take_zero, List.drop_succ_cons, List.drop_zero]
  repeat (go_big_quiet_step (fail))
  refine wpQuiet_nil ?_
  refine flow_eff rfl rfl (fun K hK => ?_)
  go_wp2_with ((go_at_call 9; refine (Compare_any _ _ _ _ _ _ _ _ _).mono ?_; rintro e w1 ⟨rfl, hg⟩; replace HG := HG.trans hg; (try clear hc); have hc := HG.cell; (try simp only [World.size_alloc] at hc)))
  refine ⟨Gr.ovs (by (repeat (first | (with_reducible exact Gr.refl _) | assumption | (with_reducible apply Gr.from_drew) | (with_reducible apply Gr.alloc) | (with_reducible apply Gr.drew) | (with_reducible refine Gr.trans ?_ (by assumption)) | (with_reducible refine Gr.setCell ?_ (by omega) _)))), ?_⟩
  refine flow_seg 5 rfl ?_
  simp only [List.take_succ_cons, List.take_zero, List.drop_succ_cons, List.drop_zero]
  repeat (go_big_quiet_step (fail))
  refine wpQuiet_nil ?_
  refine flow_nil ?_
  replace F := Lib.hid (F.out.grow (Gr.of_drew HG))
  replace hG0 := hG0.trans (Gr.of_drew HG)
  clear l0 l1 l2 m0 m1 m2 n0 n1 n2 hgl hc
  obtain ⟨hgl, l0, l1, l2, m0, m1, m2, n0, n1, n2⟩ := F.out
  replace HG := Gr.refl w1.drew
  go_wp2
  refine wp_region_flow (by kernel_rfl) (by kernel_rfl) ?_
  refine flow_seg 8 rfl ?_
  simp only [List.take_succ_cons, List.take_zero, List.drop_succ_cons, List.drop_zero]
  repeat (go_big_quiet_step (fail))
  refine wpQuiet_nil ?_
  refine flow_eff rfl rfl (fun K hK => ?_)
  go_wp2_with ((go_at_call 9; refine (Compare_any _ _ _ _ _ _ _ _ _).mono ?_; rintro e w1 ⟨rfl, hg⟩; replace HG := HG.trans hg; (try clear hc); have hc := HG.cell; (try simp only [World.size_alloc] at hc)))
  refine ⟨Gr.ovs (by (repeat (first | (with_reducible exact Gr.refl _) | assumption | (with_reducible apply Gr.from_drew) | (with_reducible apply Gr.alloc) | (with_reducible apply Gr.drew) | (with_reducible refine Gr.trans ?_ (by assumption)) | (with_reducible refine Gr.setCell ?_ (by omega) _)))), ?_⟩
  refine flow_seg 5 rfl ?_
  simp only [List.take_succ_cons, List.take_zero, List.drop_succ_cons, List.drop_zero]
  repeat (go_big_quiet_step (fail))
  refine wpQuiet_nil ?_
  refine flow_nil ?_
  replace F := Lib.hid (F.out.grow (Gr.of_drew HG))
  replace hG0 := hG0.trans (Gr.of_drew HG)
  clear l0 l1 l2 m0 m1 m2 n0 n1 n2 hgl hc
  obtain ⟨hgl, l0, l1, l2, m0, m1, m2, n0, n1, n2⟩ := F.out
  replace HG := Gr.refl w1.drew
  go_wp2
  refine wp_region_flow (by kernel_rfl) (by kernel_rfl) ?_
  refine flow_seg 8 rfl ?_
  simp only [List.take_succ_cons, List.take_zero, List.drop_succ_cons, List.drop_zero]
  repeat (go_big_quiet_step (fail))
  refine wpQuiet_nil ?_
  refine flow_eff rfl rfl (fun K hK => ?_)
  go_wp2_with ((go_at_call 9; refine (Compare_any _ _ _ _ _ _ _ _ _).mono ?_; rintro e w1 ⟨rfl, hg⟩; replace HG := HG.trans hg; (try clear hc); have hc := HG.cell; (try simp only [World.size_alloc] at hc)))
  refine ⟨Gr.ovs (by (repeat (first | (with_reducible exact Gr.refl _) | assumption | (with_reducible apply Gr.from_drew) | (with_reducible apply Gr.alloc) | (with_reducible apply Gr.drew) | (with_reducible refine Gr.trans ?_ (by assumption)) | (with_reducible refine Gr.setCell ?_ (by omega) _)))), ?_⟩
  refine flow_seg 5 rfl ?_
  simp only [List.take_succ_cons, List.take_zero, List.drop_succ_cons, List.drop_zero]
  repeat (go_big_quiet_step (fail))
  refine wpQuiet_nil ?_
  refine flow_nil ?_
  replace F := Lib.hid (F.out.grow (Gr.of_drew HG))
  replace hG0 := hG0.trans (Gr.of_drew HG)
  clear l0 l1 l2 m0 m1 m2 n0 n1 n2 hgl hc
  obtain ⟨hgl, l0, l1, l2, m0, m1, m2, n0, n1, n2⟩ := F.out
  replace HG := Gr.refl w1.drew
  obtain ⟨hx, hy, hz, hb, ht⟩ := HT.out
  clear HT
  rcases hx with hx | hx <;> rcases hy with hy | hy <;> rcases hz with hz | hz
  all_goals
    rw [hx] at hb ht
    rw [hy, hz] at ht
    first
      | (exfalso; revert ht; decide)
      | skip
  all_goals
    clear ht
    go_wp2
    refine wp_region_flow (by kernel_rfl) (by kernel_rfl) ?_
    refine flow_seg 19 rfl ?_
    simp only [List.take_succ_cons, List.take_zero, List.drop_succ_cons, List.drop_zero]
    repeat (go_big_quiet_step (fail))
    refine wpQuiet_nil ?_
    refine flow_eff rfl rfl (fun K hK => ?_)
    go_wp2_with ((go_at_call 20; refine (less_any _ _ _ _ _ _ _ _ (.inl rfl) g1 g2 _).mono ?_; rintro e w1 ⟨rfl, hg⟩; replace HG := HG.trans hg; (try clear hc); have hc := HG.cell; (try simp only [World.size_alloc] at hc)))
    refine ⟨Gr.ovs (by (repeat (first | (with_reducible exact Gr.refl _) | assumption | (with_reducible apply Gr.from_drew) | (with_reducible apply Gr.alloc) | (with_reducible apply Gr.drew) | (with_reducible refine Gr.trans ?_ (by assumption)) | (with_reducible refine Gr.setCell ?_ (by omega) _)))), ?_⟩
    refine flow_seg 3 rfl ?_
    simp only [List.take_succ_cons, List.take_zero, List.drop_succ_cons, List.drop_zero]
    repeat (go_big_quiet_step (fail))
    refine wpQuiet_nil ?_
    refine flow_eff rfl rfl (fun K hK => ?_)
    go_wp2_with ((go_at_call 17; refine (works_any _).mono ?_; rintro e w1 ⟨rfl, hg⟩; replace HG := HG.trans hg; (try clear hc); have hc := HG.cell; (try simp only [World.size_alloc] at hc)))
    refine ⟨Gr.ovs (by (repeat (first | (with_reducible exact Gr.refl _) | assumption | (with_reducible apply Gr.from_drew) | (with_reducible apply Gr.alloc) | (with_reducible apply Gr.drew) | (with_reducible refine Gr.trans ?_ (by assumption)) | (with_reducible refine Gr.setCell ?_ (by omega) _)))), ?_⟩
    refine flow_seg 2 rfl ?_
    simp only [List.take_succ_cons, List.take_zero, List.drop_succ_cons, List.drop_zero]
    repeat (go_big_quiet_step (fail))
    refine wpQuiet_nil ?_
    refine flow_nil ?_
    go_wp2
    go_ret
    exact ⟨rfl, hG0.trans (Gr.of_drew HG)⟩
set_option maxHeartbeats 4000000 in
theorem ScoreTotal_true (n ka aa kb ab kc ac : Int) (hn0 : 0 ≤ n) (hn1 : n ≤ 65535) (h1 : NmOk ka aa) (h2 : NmOk kb ab) (h3 : NmOk kc ac) (w : World) :
    Calls Try.prog 4 #[.bool true, .int .u16 n, .agg #[.int .u16 ka, .int .u64 aa], .agg #[.int .u16 kb, .int .u64 ab], .agg #[.int .u16 kc, .int .u64 ac]] w fun e w' =>
      e = .returned (.bool true) ∧ Gr w w' := by
  obtain ⟨r, hr⟩ : ∃ r, r = 1 + n % 8192 := ⟨_, rfl⟩
  have r1 : 1 ≤ r := by omega
  have r2 : r ≤ 8192 := by omega
  have HR := Lib.hid hr
  have H3 := Lib.hid (nums3 ka aa kb ab kc ac h1 h2 h3)
  have g1 := mkS_chk r 0 (ka, aa) r1 r2 (by omega) h1.1 h1.2.2.1
  have g2 := mkS_chk r 1 (kb, ab) r1 r2 (by omega) h2.1 h2.2.2.1
  have g3 := mkS_chk r 2 (kc, ac) r1 r2 (by omega) h3.1 h3.2.2.1
  simp only [mkS] at g1 g2 g3
  clear hr h1 h2 h3
  go_enter Try.func4, Try.ntmps4
  go_wp2_with (first
    | (go_at_call 18; refine (room_r n r hn0 hn1 HR.out _).mono ?_; rintro e w1 ⟨rfl, rfl⟩)
    | fail)
  refine (made_any _ 0 3 3 [(ka, aa), (kb, ab), (kc, ac)] r r1 r2 rfl (by omega) (by decide) _ ?hs H3.out ?hb).mono ?_
  case hs =>
    intro i hi
    match i, hi with
    | 0, _ => simp [go_sem]
    | 1, _ => simp [go_sem]
    | 2, _ => simp [go_sem]
  case hb => simp
  rintro e w1 ⟨v, rfl, hown0, hg⟩
  have hown : w1.ownsRow _ 23 3 v 3 (rowS (madeK [(ka, aa), (kb, ab), (kc, ac)] r 3)) := hown0
  obtain ⟨g, cap, rfl, hnc, hcm, hgl, hgb, hs⟩ := sides_of_row hown (madeK_length _ _ _) (by decide)
  obtain ⟨l0, l1, l2⟩ := side_at hs 0 (by decide)
  obtain ⟨m0, m1, m2⟩ := side_at hs 1 (by decide)
  obtain ⟨n0, n1, n2⟩ := side_at hs 2 (by decide)
  have hG0 : Gr w w1 := by (repeat (first | (with_reducible exact Gr.refl _) | assumption | (with_reducible apply Gr.from_drew) | (with_reducible apply Gr.alloc) | (with_reducible apply Gr.drew) | (with_reducible refine Gr.trans ?_ (by assumption)) | (with_reducible refine Gr.setCell ?_ (by omega) _)))
  simp at l0 l1 l2 m0 m1 m2 n0 n1 n2
  simp only [Int.cast_ofNat_Int] at g1 g2 g3
  revert l1 l2 m1 m2 n1 n2 g1 g2 g3
  generalize ka % (r + 1) = k1
  generalize aa % 1099511627777 = a1
  generalize kb % (r + 1) = k2
  generalize ab % 1099511627777 = a2
  generalize kc % (r + 1) = k3
  generalize ac % 1099511627777 = a3
  intro g1 g2 g3 l1 l2 m1 m2 n1 n2
  clear hs hown hown0 hg hgb HR H3 hn0 hn1
  obtain ⟨e12, c12⟩ := okC_true (policy := 2) (.inr rfl) g1 g2
  obtain ⟨e23, c23⟩ := okC_true (policy := 2) (.inr rfl) g2 g3
  obtain ⟨e13, c13⟩ := okC_true (policy := 2) (.inr rfl) g1 g3
  obtain ⟨e21, c21⟩ := okC_true (policy := 2) (.inr rfl) g2 g1
  have HT := Lib.hid (total3 2 r (.inr rfl) 0 k1 a1 1 k2 a2 2 k3 a3 g1 g2 g3 (by decide) (by decide) (by decide))
  have F := Lib.hid (S3.mk hgl l0 l1 l2 m0 m1 m2 n0 n1 n2)
  have HG := Gr.refl w1.drew
  go_wp2
  refine wp_region_flow (by kernel_rfl) (by kernel_rfl) ?_
  refine flow_seg 8 rfl ?_
  simp only [List.take_succ_cons, List.take_zero, List.drop_succ_cons, List.drop_zero]
  repeat (go_big_quiet_step (fail))
  refine wpQuiet_nil ?_
  refine flow_eff rfl rfl (fun K hK => ?_)
  go_wp2_with ((go_at_call 9; refine (Compare_any _ _ _ _ _ _ _ _ _).mono ?_; rintro e w1 ⟨rfl, hg⟩; replace HG := HG.trans hg; (try clear hc); have hc := HG.cell; (try simp only [World.size_alloc] at hc)))
  refine ⟨Gr.ovs (by (repeat (first | (with_reducible exact Gr.refl _) | assumption | (with_reducible apply Gr.from_drew) | (with_reducible apply Gr.alloc) | (with_reducible apply Gr.drew) | (with_reducible refine Gr.trans ?_ (by assumption)) | (with_reducible refine Gr.setCell ?_ (by omega) _)))), ?_⟩
  refine flow_seg 5 rfl ?_
  simp only [List.take_succ_cons, List.take_zero, List.drop_succ_cons, List.drop_zero]
  repeat (go_big_quiet_step (fail))
  refine wpQuiet_nil ?_
  refine flow_nil ?_
  replace F := Lib.hid (F.out.grow (Gr.of_drew HG))
  replace hG0 := hG0.trans (Gr.of_drew HG)
  clear l0 l1 l2 m0 m1 m2 n0 n1 n2 hgl hc
  obtain ⟨hgl, l0, l1, l2, m0, m1, m2, n0, n1, n2⟩ := F.out
  replace HG := Gr.refl w1.drew
  go_wp2
  refine wp_region_flow (by kernel_rfl) (by kernel_rfl) ?_
  refine flow_seg 8 rfl ?_
  simp only [List.take_succ_cons, List.take_zero, List.drop_succ_cons, List.drop_zero]
  repeat (go_big_quiet_step (fail))
  refine wpQuiet_nil ?_
  refine flow_eff rfl rfl (fun K hK => ?_)
  go_wp2_with ((go_at_call 9; refine (Compare_any _ _ _ _ _ _ _ _ _).mono ?_; rintro e w1 ⟨rfl, hg⟩; replace HG := HG.trans hg; (try clear hc); have hc := HG.cell; (try simp only [World.size_alloc] at hc)))
  refine ⟨Gr.ovs (by (repeat (first | (with_reducible exact Gr.refl _) | assumption | (with_reducible apply Gr.from_drew) | (with_reducible apply Gr.alloc) | (with_reducible apply Gr.drew) | (with_reducible refine Gr.trans ?_ (by assumption)) | (with_reducible refine Gr.setCell ?_ (by omega) _)))), ?_⟩
  refine flow_seg 5 rfl ?_
  simp only [List.take_succ_cons, List.take_zero, List.drop_succ_cons, List.drop_zero]
  repeat (go_big_quiet_step (fail))
  refine wpQuiet_nil ?_
  refine flow_nil ?_
  replace F := Lib.hid (F.out.grow (Gr.of_drew HG))
  replace hG0 := hG0.trans (Gr.of_drew HG)
  clear l0 l1 l2 m0 m1 m2 n0 n1 n2 hgl hc
  obtain ⟨hgl, l0, l1, l2, m0, m1, m2, n0, n1, n2⟩ := F.out
  replace HG := Gr.refl w1.drew
  go_wp2
  refine wp_region_flow (by kernel_rfl) (by kernel_rfl) ?_
  refine flow_seg 8 rfl ?_
  simp only [List.take_succ_cons, List.take_zero, List.drop_succ_cons, List.drop_zero]
  repeat (go_big_quiet_step (fail))
  refine wpQuiet_nil ?_
  refine flow_eff rfl rfl (fun K hK => ?_)
  go_wp2_with ((go_at_call 9; refine (Compare_any _ _ _ _ _ _ _ _ _).mono ?_; rintro e w1 ⟨rfl, hg⟩; replace HG := HG.trans hg; (try clear hc); have hc := HG.cell; (try simp only [World.size_alloc] at hc)))
  refine ⟨Gr.ovs (by (repeat (first | (with_reducible exact Gr.refl _) | assumption | (with_reducible apply Gr.from_drew) | (with_reducible apply Gr.alloc) | (with_reducible apply Gr.drew) | (with_reducible refine Gr.trans ?_ (by assumption)) | (with_reducible refine Gr.setCell ?_ (by omega) _)))), ?_⟩
  refine flow_seg 5 rfl ?_
  simp only [List.take_succ_cons, List.take_zero, List.drop_succ_cons, List.drop_zero]
  repeat (go_big_quiet_step (fail))
  refine wpQuiet_nil ?_
  refine flow_nil ?_
  replace F := Lib.hid (F.out.grow (Gr.of_drew HG))
  replace hG0 := hG0.trans (Gr.of_drew HG)
  clear l0 l1 l2 m0 m1 m2 n0 n1 n2 hgl hc
  obtain ⟨hgl, l0, l1, l2, m0, m1, m2, n0, n1, n2⟩ := F.out
  replace HG := Gr.refl w1.drew
  go_wp2
  refine wp_region_flow (by kernel_rfl) (by kernel_rfl) ?_
  refine flow_seg 8 rfl ?_
  simp only [List.take_succ_cons, List.take_zero, List.drop_succ_cons, List.drop_zero]
  repeat (go_big_quiet_step (fail))
  refine wpQuiet_nil ?_
  refine flow_eff rfl rfl (fun K hK => ?_)
  go_wp2_with ((go_at_call 9; refine (Compare_any _ _ _ _ _ _ _ _ _).mono ?_; rintro e w1 ⟨rfl, hg⟩; replace HG := HG.trans hg; (try clear hc); have hc := HG.cell; (try simp only [World.size_alloc] at hc)))
  refine ⟨Gr.ovs (by (repeat (first | (with_reducible exact Gr.refl _) | assumption | (with_reducible apply Gr.from_drew) | (with_reducible apply Gr.alloc) | (with_reducible apply Gr.drew) | (with_reducible refine Gr.trans ?_ (by assumption)) | (with_reducible refine Gr.setCell ?_ (by omega) _)))), ?_⟩
  refine flow_seg 5 rfl ?_
  simp only [List.take_succ_cons, List.take_zero, List.drop_succ_cons, List.drop_zero]
  repeat (go_big_quiet_step (fail))
  refine wpQuiet_nil ?_
  refine flow_nil ?_
  replace F := Lib.hid (F.out.grow (Gr.of_drew HG))
  replace hG0 := hG0.trans (Gr.of_drew HG)
  clear l0 l1 l2 m0 m1 m2 n0 n1 n2 hgl hc
  obtain ⟨hgl, l0, l1, l2, m0, m1, m2, n0, n1, n2⟩ := F.out
  replace HG := Gr.refl w1.drew
  obtain ⟨hx, hy, hz, hb, ht⟩ := HT.out
  clear HT
  rcases hx with hx | hx <;> rcases hy with hy | hy <;> rcases hz with hz | hz
  all_goals
    rw [hx] at hb ht
    rw [hy, hz] at ht
    first
      | (exfalso; revert ht; decide)
      | skip
  all_goals
    clear ht
    go_wp2
    refine wp_region_flow (by kernel_rfl) (by kernel_rfl) ?_
    refine flow_seg 19 rfl ?_
    simp only [List.take_succ_cons, List.take_zero, List.drop_succ_cons, List.drop_zero]
    repeat (go_big_quiet_step (fail))
    refine wpQuiet_nil ?_
    refine flow_eff rfl rfl (fun K hK => ?_)
    go_wp2_with ((go_at_call 20; refine (less_any _ _ _ _ _ _ _ _ (.inr rfl) g1 g2 _).mono ?_; rintro e w1 ⟨rfl, hg⟩; replace HG := HG.trans hg; (try clear hc); have hc := HG.cell; (try simp only [World.size_alloc] at hc)))
    refine ⟨Gr.ovs (by (repeat (first | (with_reducible exact Gr.refl _) | assumption | (with_reducible apply Gr.from_drew) | (with_reducible apply Gr.alloc) | (with_reducible apply Gr.drew) | (with_reducible refine Gr.trans ?_ (by assumption)) | (with_reducible refine Gr.setCell ?_ (by omega) _)))), ?_⟩
    refine flow_seg 3 rfl ?_
    simp only [List.take_succ_cons, List.take_zero, List.drop_succ_cons, List.drop_zero]
    repeat (go_big_quiet_step (fail))
    refine wpQuiet_nil ?_
    refine flow_eff rfl rfl (fun K hK => ?_)
    go_wp2_with ((go_at_call 17; refine (works_any _).mono ?_; rintro e w1 ⟨rfl, hg⟩; replace HG := HG.trans hg; (try clear hc); have hc := HG.cell; (try simp only [World.size_alloc] at hc)))
    refine ⟨Gr.ovs (by (repeat (first | (with_reducible exact Gr.refl _) | assumption | (with_reducible apply Gr.from_drew) | (with_reducible apply Gr.alloc) | (with_reducible apply Gr.drew) | (with_reducible refine Gr.trans ?_ (by assumption)) | (with_reducible refine Gr.setCell ?_ (by omega) _)))), ?_⟩
    refine flow_seg 2 rfl ?_
    simp only [List.take_succ_cons, List.take_zero, List.drop_succ_cons, List.drop_zero]
    repeat (go_big_quiet_step (fail))
    refine wpQuiet_nil ?_
    refine flow_nil ?_
    go_wp2
    go_ret
    exact ⟨rfl, hG0.trans (Gr.of_drew HG)⟩

theorem u16_of {n : Int} (h : (Lit.int .u16 n).wf = true) : 0 ≤ n ∧ n ≤ 65535 := by
  simp only [Lit.wf, Bool.and_eq_true, decide_eq_true_eq] at h; exact h
theorem u64_of {n : Int} (h : (Lit.int .u64 n).wf = true) : 0 ≤ n ∧ n ≤ 18446744073709551615 := by
  simp only [Lit.wf, Bool.and_eq_true, decide_eq_true_eq] at h; exact h
theorem nm_of {k a : Int} (h : (Lit.int .u16 k).wf = true) (h' : (Lit.int .u64 a).wf = true) : NmOk k a := ⟨(u16_of h).1, (u16_of h).2, (u64_of h').1, (u64_of h').2⟩

theorem ScoreTotal_any (bf : Bool) (n ka aa kb ab kc ac : Int) (hn : (Lit.int .u16 n).wf = true) (h1 : NmOk ka aa) (h2 : NmOk kb ab) (h3 : NmOk kc ac) (w : World) :
    Calls Try.prog 4 #[.bool bf, .int .u16 n, .agg #[.int .u16 ka, .int .u64 aa], .agg #[.int .u16 kb, .int .u64 ab], .agg #[.int .u16 kc, .int .u64 ac]] w fun e w' =>
      e = .returned (.bool true) ∧ Gr w w' := by
  cases bf
  · exact ScoreTotal_false n ka aa kb ab kc ac (u16_of hn).1 (u16_of hn).2 h1 h2 h3 w
  · exact ScoreTotal_true n ka aa kb ab kc ac (u16_of hn).1 (u16_of hn).2 h1 h2 h3 w
end Go.Proofs.Ytgpecjnnepocmaa
