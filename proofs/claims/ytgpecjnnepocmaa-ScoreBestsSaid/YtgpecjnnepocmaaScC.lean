/- Contracts of score.product, Benefit, by, Compare, and of their references. -/
import Derived.Test.YtgpecjnnepocmaaScB
import Derived.Test.YtgpecjnnepocmaaScP
namespace Go.Proofs.Ytgpecjnnepocmaa
open Go.RowKit
attribute [local go_sem] Ovs cell_ov obj_ov shape_ov

set_option maxHeartbeats 400000 in
theorem product_any (s k a s' k' a' room : Int) (h1 : 1 ≤ room) (h2 : room ≤ 8192) (h3 : 0 ≤ k) (h4 : k ≤ room) (h5 : 0 ≤ a) (h6 : a ≤ 1099511627776) (h7 : 0 ≤ k') (h8 : k' ≤ room) (w : World) :
    Calls Try.prog 33 #[.agg #[.int .i64 s, .int .i64 k, .int .i64 a], .agg #[.int .i64 s', .int .i64 k', .int .i64 a'], .int .i64 room] w fun e w' =>
      e = .returned (.tuple #[.int .u64 (benP k a k' room / 18446744073709551616), .int .u64 (benP k a k' room % 18446744073709551616)]) ∧ Gr w w' := by
  obtain ⟨b1, b2, b3, b4⟩ := benP_bd h1 h2 h3 h4 h5 h6 h7 h8
  have b5 : 0 ≤ room + k' := by omega
  go_enter Try.func33, Try.ntmps33
  go_wp2_with (go_at_call 37; refine (Mul64_int _ _ b1 (by omega) b5 (by omega) _).mono ?_; rintro e w' ⟨rfl, rfl⟩)
  go_ret2
  exact ⟨rfl, by (repeat (first | (with_reducible exact Gr.refl _) | assumption | (with_reducible apply Gr.from_drew) | (with_reducible apply Gr.alloc) | (with_reducible apply Gr.drew) | (with_reducible refine Gr.trans ?_ (by assumption)) | (with_reducible refine Gr.setCell ?_ (by omega) _)))⟩

def higherB (x m y n : Int) : Bool := decide (y * n < x * m)

set_option maxHeartbeats 400000 in
theorem higher_any (x m y n : Int) (hx : 0 ≤ x) (hx' : x ≤ 9007199254740992) (hy : 0 ≤ y) (hy' : y ≤ 9007199254740992) (hm : 0 ≤ m) (hm' : m ≤ 16384) (hn : 0 ≤ n) (hn' : n ≤ 16384) (w : World) :
    Calls Try.prog 35 #[.int .i64 x, .int .i64 m, .int .i64 y, .int .i64 n] w fun e w' => e = .returned (.bool (higherB x m y n)) ∧ Gr w w' := by
  have a1 : x / 1073741824 * m ≤ 8388608 * 16384 := Int.mul_le_mul (by omega) hm' hm (by omega)
  have a0 : 0 ≤ x / 1073741824 * m := Int.mul_nonneg (by omega) hm
  have b1 : x % 1073741824 * m ≤ 1073741824 * 16384 := Int.mul_le_mul (by omega) hm' hm (by omega)
  have b0 : 0 ≤ x % 1073741824 * m := Int.mul_nonneg (by omega) hm
  have c1 : y / 1073741824 * n ≤ 8388608 * 16384 := Int.mul_le_mul (by omega) hn' hn (by omega)
  have c0 : 0 ≤ y / 1073741824 * n := Int.mul_nonneg (by omega) hn
  have d1 : y % 1073741824 * n ≤ 1073741824 * 16384 := Int.mul_le_mul (by omega) hn' hn (by omega)
  have d0 : 0 ≤ y % 1073741824 * n := Int.mul_nonneg (by omega) hn
  have HH := Lib.hid (higher_eq x m y n)
  go_enter Try.func35, Try.ntmps35
  go_wp2
  refine wp_region_flow (by kernel_rfl) (by kernel_rfl) ?_
  refine flow_seg 12 rfl ?_
  simp only [List.take_succ_cons, List.take_zero, List.drop_succ_cons, List.drop_zero]
  repeat (go_big_quiet_step (fail))
  refine wpQuiet_nil ?_
  refine flow_nil ?_
  go_wp2
  refine wp_region_flow (by kernel_rfl) (by kernel_rfl) ?_
  refine flow_seg 12 rfl ?_
  simp only [List.take_succ_cons, List.take_zero, List.drop_succ_cons, List.drop_zero]
  repeat (go_big_quiet_step (fail))
  refine wpQuiet_nil ?_
  refine flow_nil ?_
  go_wp2
  refine wp_region_flow (by kernel_rfl) (by kernel_rfl) ?_
  refine flow_seg 10 rfl ?_
  simp only [List.take_succ_cons, List.take_zero, List.drop_succ_cons, List.drop_zero]
  repeat (go_big_quiet_step (fail))
  refine wpQuiet_nil ?_
  refine flow_nil ?_
  go_wp2
  refine wp_region_flow (by kernel_rfl) (by kernel_rfl) ?_
  refine flow_seg 10 rfl ?_
  simp only [List.take_succ_cons, List.take_zero, List.drop_succ_cons, List.drop_zero]
  repeat (go_big_quiet_step (fail))
  refine wpQuiet_nil ?_
  refine flow_nil ?_
  go_wp2
  all_goals
    go_ret
    refine ⟨ret_bool ?_, by (repeat (first | (with_reducible exact Gr.refl _) | assumption | (with_reducible apply Gr.from_drew) | (with_reducible apply Gr.alloc) | (with_reducible apply Gr.drew) | (with_reducible refine Gr.trans ?_ (by assumption)) | (with_reducible refine Gr.setCell ?_ (by omega) _)))⟩
    unfold higherB
    rw [← HH.out, Bool.eq_iff_iff]
    simp only [Bool.or_eq_true, Bool.and_eq_true, decide_eq_true_eq, true_iff]
    omega

def benefit (s k a s' k' a' room : Int) : Int := if chkB s k a room = true ∧ chkB s' k' a' room = true then benZ s k a s' k' a' room else 0

theorem chk_bd {s k a room : Int} (h : chkB s k a room = true) : 1 ≤ room ∧ room ≤ 8192 ∧ 0 ≤ s ∧ s ≤ 31 ∧ 0 ≤ k ∧ k ≤ room ∧ 0 ≤ a ∧ a ≤ 1099511627776 := by
  simp only [chkB, inB, Bool.and_eq_true, decide_eq_true_eq] at h
  omega

theorem errOf_true {b : Bool} (h : b = true) : errOf b = 0 := by rw [h]; rfl
theorem errOf_false {b : Bool} (h : b = false) : errOf b = 2 := by rw [h]; rfl

theorem errOf_ne {b : Bool} : (errOf b != 0) = !b := by cases b <;> rfl

set_option maxHeartbeats 1000000 in
theorem Benefit_any (s k a s' k' a' room : Int) (w : World) :
    Calls Try.prog 15 #[.agg #[.int .i64 s, .int .i64 k, .int .i64 a], .agg #[.int .i64 s', .int .i64 k', .int .i64 a'], .int .i64 room] w fun e w' =>
      e = .returned (.int .i64 (benefit s k a s' k' a' room)) ∧ Gr w w' := by
  have HG := Gr.refl ((w.alloc (.cells #[.int .i64 s, .int .i64 k, .int .i64 a] 23)).alloc (.cells #[.int .i64 s', .int .i64 k', .int .i64 a'] 23))
  by_cases hch : chkB s k a room = true ∧ chkB s' k' a' room = true
  · obtain ⟨p1, p2, p3, p4, p5, p6, p7, p8⟩ := chk_bd hch.1
    obtain ⟨_, _, q3, q4, q5, q6, q7, q8⟩ := chk_bd hch.2
    have h0 : benefit s k a s' k' a' room = benZ s k a s' k' a' room := by simp [benefit, hch]
    have H0 := Lib.hid h0
    have e1 := errOf_true hch.1
    have e2 := errOf_true hch.2
    have m1 := benP_bd p1 p2 p5 p6 p7 p8 q5 q6
    have m2 := benP_bd p1 p2 q5 q6 q7 q8 p5 p6
    have H1 := Lib.hid (or_words _ _ m1.2.2.1 m2.2.2.1 (cmpZ s s'))
    clear h0 m1 m2
    go_enter Try.func15, Try.ntmps15
    go_wp2_with (first
      | (go_at_call 11; refine (Check_any _ _ _ _ _).mono ?_; rintro e w1 ⟨rfl, hg⟩; replace HG := HG.trans hg; (try clear hc); have hc := HG.cell; (try simp only [World.size_alloc] at hc))
      | (go_at_call 33; refine (product_any _ _ _ _ _ _ _ p1 p2 (by omega) (by omega) (by omega) (by omega) (by omega) (by omega) _).mono ?_; rintro e w1 ⟨rfl, hg⟩; replace HG := HG.trans hg; (try clear hc); have hc := HG.cell; (try simp only [World.size_alloc] at hc)))
    refine wp_region_flow (by kernel_rfl) (by kernel_rfl) ?_
    refine flow_seg 2 rfl ?_
    simp only [List.take_succ_cons, List.take_zero, List.drop_succ_cons, List.drop_zero]
    repeat (go_big_quiet_step (fail))
    refine wpQuiet_nil ?_
    refine flow_eff rfl rfl (fun K hK => ?_)
    go_wp2_with ((go_at_call 34; refine (Compare_u64 _ _ _).mono ?_; rintro e w1 ⟨rfl, rfl⟩))
    refine ⟨Gr.ovs (by (repeat (first | (with_reducible exact Gr.refl _) | assumption | (with_reducible apply Gr.from_drew) | (with_reducible apply Gr.alloc) | (with_reducible apply Gr.drew) | (with_reducible refine Gr.trans ?_ (by assumption)) | (with_reducible refine Gr.setCell ?_ (by omega) _)))), ?_⟩
    refine flow_seg 2 rfl ?_
    simp only [List.take_succ_cons, List.take_zero, List.drop_succ_cons, List.drop_zero]
    repeat (go_big_quiet_step (fail))
    refine wpQuiet_nil ?_
    refine flow_eff rfl rfl (fun K hK => ?_)
    go_wp2_with ((go_at_call 34; refine (Compare_u64 _ _ _).mono ?_; rintro e w1 ⟨rfl, rfl⟩))
    refine ⟨Gr.ovs (by (repeat (first | (with_reducible exact Gr.refl _) | assumption | (with_reducible apply Gr.from_drew) | (with_reducible apply Gr.alloc) | (with_reducible apply Gr.drew) | (with_reducible refine Gr.trans ?_ (by assumption)) | (with_reducible refine Gr.setCell ?_ (by omega) _)))), ?_⟩
    refine flow_seg 4 rfl ?_
    simp only [List.take_succ_cons, List.take_zero, List.drop_succ_cons, List.drop_zero]
    repeat (go_big_quiet_step (fail))
    refine wpQuiet_nil ?_
    refine flow_eff rfl rfl (fun K hK => ?_)
    go_wp2_with ((go_at_call 31; refine (Compare_int _ _ _).mono ?_; rintro e w1 ⟨rfl, rfl⟩))
    refine ⟨Gr.ovs (by (repeat (first | (with_reducible exact Gr.refl _) | assumption | (with_reducible apply Gr.from_drew) | (with_reducible apply Gr.alloc) | (with_reducible apply Gr.drew) | (with_reducible refine Gr.trans ?_ (by assumption)) | (with_reducible refine Gr.setCell ?_ (by omega) _)))), ?_⟩
    refine flow_eff rfl rfl (fun K hK => ?_)
    go_wp2
    refine ⟨Gr.ovs (by (repeat (first | (with_reducible exact Gr.refl _) | assumption | (with_reducible apply Gr.from_drew) | (with_reducible apply Gr.alloc) | (with_reducible apply Gr.drew) | (with_reducible refine Gr.trans ?_ (by assumption)) | (with_reducible refine Gr.setCell ?_ (by omega) _)))), ?_⟩
    refine flow_eff rfl rfl (fun K hK => ?_)
    go_wp2_with ((go_at_call 30; refine (Or_three _ _ _ _ _ (by simp [go_sem]; rfl) (by simp [go_sem]; rfl) (by simp [go_sem]; rfl)).mono ?_; rintro e w1 ⟨rfl, rfl⟩))
    refine ⟨Gr.ovs (by (repeat (first | (with_reducible exact Gr.refl _) | assumption | (with_reducible apply Gr.from_drew) | (with_reducible apply Gr.alloc) | (with_reducible apply Gr.drew) | (with_reducible refine Gr.trans ?_ (by assumption)) | (with_reducible refine Gr.setCell ?_ (by omega) _)))), ?_⟩
    refine flow_seg 1 rfl ?_
    simp only [List.take_succ_cons, List.take_zero, List.drop_succ_cons, List.drop_zero]
    repeat (go_big_quiet_step (fail))
    refine wpQuiet_nil ?_
    refine flow_nil ?_
    go_wp2
    go_ret
    exact ⟨by rw [H0.out]; exact ret_int H1.out, by (repeat (first | (with_reducible exact Gr.refl _) | assumption | (with_reducible apply Gr.from_drew) | (with_reducible apply Gr.alloc) | (with_reducible apply Gr.drew) | (with_reducible refine Gr.trans ?_ (by assumption)) | (with_reducible refine Gr.setCell ?_ (by omega) _)))⟩
  · have h0 : benefit s k a s' k' a' room = 0 := by simp only [benefit, if_neg hch]
    have H0 := Lib.hid h0
    have H1 := Lib.hid hch
    clear h0 hch
    go_enter Try.func15, Try.ntmps15
    go_wp2_with (first
      | (go_at_call 11; refine (Check_any _ _ _ _ _).mono ?_; rintro e w1 ⟨rfl, hg⟩; replace HG := HG.trans hg; (try clear hc); have hc := HG.cell; (try simp only [World.size_alloc] at hc))
      | fail)
    all_goals first
      | (go_ret; exact ⟨by rw [H0.out]; rfl, by (repeat (first | (with_reducible exact Gr.refl _) | assumption | (with_reducible apply Gr.from_drew) | (with_reducible apply Gr.alloc) | (with_reducible apply Gr.drew) | (with_reducible refine Gr.trans ?_ (by assumption)) | (with_reducible refine Gr.setCell ?_ (by omega) _)))⟩)
      | (exfalso; apply H1.out; simp_all [errOf]; done)

set_option maxHeartbeats 1000000 in
theorem refBenefit_any (s k a s' k' a' room : Int) (w : World) :
    Calls Try.prog 16 #[.agg #[.int .i64 s, .int .i64 k, .int .i64 a], .agg #[.int .i64 s', .int .i64 k', .int .i64 a'], .int .i64 room] w fun e w' =>
      e = .returned (.int .i64 (benefit s k a s' k' a' room)) ∧ Gr w w' := by
  have HG := Gr.refl ((w.alloc (.cells #[.int .i64 s, .int .i64 k, .int .i64 a] 24)).alloc (.cells #[.int .i64 s', .int .i64 k', .int .i64 a'] 24))
  by_cases hch : chkB s k a room = true ∧ chkB s' k' a' room = true
  · obtain ⟨p1, p2, p3, p4, p5, p6, p7, p8⟩ := chk_bd hch.1
    obtain ⟨_, _, q3, q4, q5, q6, q7, q8⟩ := chk_bd hch.2
    have h0 : benefit s k a s' k' a' room = benZ s k a s' k' a' room := by simp [benefit, hch]
    have H0 := Lib.hid h0
    have e1 := errOf_true hch.1
    have e2 := errOf_true hch.2
    obtain ⟨m1, m2, _, _⟩ := benP_bd p1 p2 p5 p6 p7 p8 q5 q6
    obtain ⟨m3, m4, _, _⟩ := benP_bd p1 p2 q5 q6 q7 q8 p5 p6
    clear h0
    go_enter Try.func16, Try.ntmps16
    go_wp2_with (first
      | (go_at_call 12; refine (refCheck_any _ _ _ _ _).mono ?_; rintro e w1 ⟨rfl, hg⟩; replace HG := HG.trans hg; (try clear hc); have hc := HG.cell; (try simp only [World.size_alloc] at hc))
      | (go_at_call 35; refine (higher_any _ _ _ _ (by omega) (by omega) (by omega) (by omega) (by omega) (by omega) (by omega) (by omega) _).mono ?_; rintro e w1 ⟨rfl, hg⟩; replace HG := HG.trans hg; (try clear hc); have hc := HG.cell; (try simp only [World.size_alloc] at hc))
      | (go_at_call 32; refine (slots_any _ _ _ _ _ _ _).mono ?_; rintro e w1 ⟨rfl, hg⟩; replace HG := HG.trans hg; (try clear hc); have hc := HG.cell; (try simp only [World.size_alloc] at hc)))
    all_goals
      go_ret
      refine ⟨?_, by (repeat (first | (with_reducible exact Gr.refl _) | assumption | (with_reducible apply Gr.from_drew) | (with_reducible apply Gr.alloc) | (with_reducible apply Gr.drew) | (with_reducible refine Gr.trans ?_ (by assumption)) | (with_reducible refine Gr.setCell ?_ (by omega) _)))⟩
      rw [H0.out]
      refine ret_int ?_
      simp only [higherB, decide_eq_true_eq, decide_eq_false_iff_not] at *
      unfold benZ benP
      first
        | (rw [if_pos (by assumption)]; done)
        | (rw [if_neg (by assumption), if_pos (by assumption)]; done)
        | (rw [if_neg (by assumption), if_neg (by assumption)]; done)
  · have h0 : benefit s k a s' k' a' room = 0 := by simp only [benefit, if_neg hch]
    have H0 := Lib.hid h0
    have H1 := Lib.hid hch
    clear h0 hch
    go_enter Try.func16, Try.ntmps16
    go_wp2_with (first
      | (go_at_call 12; refine (refCheck_any _ _ _ _ _).mono ?_; rintro e w1 ⟨rfl, hg⟩; replace HG := HG.trans hg; (try clear hc); have hc := HG.cell; (try simp only [World.size_alloc] at hc))
      | fail)
    all_goals first
      | (go_ret; exact ⟨by rw [H0.out]; rfl, by (repeat (first | (with_reducible exact Gr.refl _) | assumption | (with_reducible apply Gr.from_drew) | (with_reducible apply Gr.alloc) | (with_reducible apply Gr.drew) | (with_reducible refine Gr.trans ?_ (by assumption)) | (with_reducible refine Gr.setCell ?_ (by omega) _)))⟩)
      | (exfalso; apply H1.out; simp_all [errOf]; done)

theorem by1_any (s k a s' k' a' room : Int) (b : Nat) (w : World) (hb : w.cell? ⟨b, 0, none⟩ = some (.int .i64 room)) :
    Calls Try.prog 39 #[.agg #[.int .i64 s, .int .i64 k, .int .i64 a], .agg #[.int .i64 s', .int .i64 k', .int .i64 a'], .pointer (some ⟨b, 0, none⟩)] w fun e w' =>
      e = .returned (.int .i64 (benefit s k a s' k' a' room)) ∧ Gr w w' := by
  have HG := Gr.refl ((w.alloc (.cells #[.int .i64 s, .int .i64 k, .int .i64 a] 23)).alloc (.cells #[.int .i64 s', .int .i64 k', .int .i64 a'] 23))
  have hlt := World.block_lt_of_cell? w _ hb
  go_enter Try.func39, Try.ntmps39
  go_wp2_with (go_at_call 15; refine (Benefit_any _ _ _ _ _ _ _ _).mono ?_; rintro e w1 ⟨rfl, hg⟩; replace HG := HG.trans hg; (try clear hc); have hc := HG.cell; (try simp only [World.size_alloc] at hc))
  go_ret
  exact ⟨rfl, by (repeat (first | (with_reducible exact Gr.refl _) | assumption | (with_reducible apply Gr.from_drew) | (with_reducible apply Gr.alloc) | (with_reducible apply Gr.drew) | (with_reducible refine Gr.trans ?_ (by assumption)) | (with_reducible refine Gr.setCell ?_ (by omega) _)))⟩

def byV (policy : Int) (b : Nat) : Value := if policy = 1 then .func (.func 13) #[] #[] else if policy = 2 then .func (.func 39) #[] #[.pointer (some ⟨b, 0, none⟩)] else .nilFunc

theorem by_any (policy room : Int) (w : World) :
    Calls Try.prog 26 #[.int .i64 policy, .int .i64 room] w fun e w' =>
      e = .returned (byV policy w.heap.size) ∧ w' = w.alloc (.cells #[.int .i64 room] 3) := by
  go_enter Try.func26, Try.ntmps26
  go_wp2
  all_goals
    go_ret
    refine ⟨?_, rfl⟩
    simp_all [byV]

theorem policy_any (p : Int) (w : World) :
    Calls Try.prog 27 #[.int .i64 p] w fun e w' => e = .returned (.bool (p == 1 || p == 2)) ∧ w = w' := by
  go_enter Try.func27, Try.ntmps27
  go_wp2
  all_goals
    go_ret
    exact ⟨ret_bool (by simp_all), rfl⟩

def okC (policy s k a s' k' a' room : Int) : Bool := (policy == 1 || policy == 2) && (chkB s k a room && chkB s' k' a' room)
def polC (policy s k a s' k' a' room : Int) : Int := if policy = 1 then greedy s k s' k' else benefit s k a s' k' a' room
/-- What Compare returns. -/
def cmpC (policy s k a s' k' a' room : Int) : Int := if okC policy s k a s' k' a' room = true then polC policy s k a s' k' a' room else 0

theorem ret_two {k k' : IntKind} {a b c d : Int} (h : a = b) (h' : c = d) : Ending.returned (.tuple #[.int k a, .int k' c]) = .returned (.tuple #[.int k b, .int k' d]) := by rw [h, h']

set_option maxHeartbeats 1000000 in
theorem refCompare_any (policy s k a s' k' a' room : Int) (w : World) :
    Calls Try.prog 10 #[.int .i64 policy, .agg #[.int .i64 s, .int .i64 k, .int .i64 a], .agg #[.int .i64 s', .int .i64 k', .int .i64 a'], .int .i64 room] w fun e w' =>
      e = .returned (.tuple #[.int .i64 (cmpC policy s k a s' k' a' room), .int .i64 (errOf (okC policy s k a s' k' a' room))]) ∧ Gr w w' := by
  have HG := Gr.refl ((w.alloc (.cells #[.int .i64 s, .int .i64 k, .int .i64 a] 24)).alloc (.cells #[.int .i64 s', .int .i64 k', .int .i64 a'] 24))
  go_enter Try.func10, Try.ntmps10
  go_wp2_with (first
    | (go_at_call 27; refine (policy_any _ _).mono ?_; rintro e w1 ⟨rfl, rfl⟩)
    | (go_at_call 12; refine (refCheck_any _ _ _ _ _).mono ?_; rintro e w1 ⟨rfl, hg⟩; replace HG := HG.trans hg; (try clear hc); have hc := HG.cell; (try simp only [World.size_alloc] at hc))
    | (go_at_call 14; refine (refGreedy_any _ _ _ _ _ _ _).mono ?_; rintro e w1 ⟨rfl, hg⟩; replace HG := HG.trans hg; (try clear hc); have hc := HG.cell; (try simp only [World.size_alloc] at hc))
    | (go_at_call 16; refine (refBenefit_any _ _ _ _ _ _ _ _).mono ?_; rintro e w1 ⟨rfl, hg⟩; replace HG := HG.trans hg; (try clear hc); have hc := HG.cell; (try simp only [World.size_alloc] at hc)))
  all_goals
    go_ret2
    refine ⟨ret_two ?_ ?_, by (repeat (first | (with_reducible exact Gr.refl _) | assumption | (with_reducible apply Gr.from_drew) | (with_reducible apply Gr.alloc) | (with_reducible apply Gr.drew) | (with_reducible refine Gr.trans ?_ (by assumption)) | (with_reducible refine Gr.setCell ?_ (by omega) _)))⟩ <;> cases h1 : chkB s k a room <;> cases h2 : chkB s' k' a' room <;> simp_all [cmpC, okC, polC, errOf]

theorem eqF1 (w : World) : (binOp .eql 31 (.func (.func 13) #[] #[]) .nilFunc).run Try.prog w = .ok (.bool false) w := by kernel_rfl
theorem eqF2 (b : Nat) (w : World) : (binOp .eql 31 (.func (.func 39) #[] #[.pointer (some ⟨b, 0, none⟩)]) .nilFunc).run Try.prog w = .ok (.bool false) w := by kernel_rfl
theorem eqF3 (w : World) : (binOp .eql 31 .nilFunc .nilFunc).run Try.prog w = .ok (.bool true) w := by kernel_rfl

set_option maxHeartbeats 1000000 in
theorem Compare_any (policy s k a s' k' a' room : Int) (w : World) :
    Calls Try.prog 9 #[.int .i64 policy, .agg #[.int .i64 s, .int .i64 k, .int .i64 a], .agg #[.int .i64 s', .int .i64 k', .int .i64 a'], .int .i64 room] w fun e w' =>
      e = .returned (.tuple #[.int .i64 (cmpC policy s k a s' k' a' room), .int .i64 (errOf (okC policy s k a s' k' a' room))]) ∧ Gr w w' := by
  have HG := Gr.refl (((w.alloc (.cells #[.int .i64 s, .int .i64 k, .int .i64 a] 23)).alloc (.cells #[.int .i64 s', .int .i64 k', .int .i64 a'] 23)).alloc (.cells #[.int .i64 room] 3))
  have k1 := eqF1
  have k2 := eqF2
  have k3 := eqF3
  by_cases h1 : policy = 1
  · subst h1
    go_enter Try.func9, Try.ntmps9
    go_wp2_with (first
      | (go_at_call 26; refine (by_any _ _ _).mono ?_; rintro e w1 ⟨rfl, rfl⟩; simp only [byV, if_true])
      | (go_at_call 11; refine (Check_any _ _ _ _ _).mono ?_; rintro e w1 ⟨rfl, hg⟩; replace HG := HG.trans hg; (try clear hc); have hc := HG.cell; (try simp only [World.size_alloc] at hc))
      | (go_at_call 13; refine (Greedy_any _ _ _ _ _ _ _).mono ?_; rintro e w1 ⟨rfl, hg⟩; replace HG := HG.trans hg; (try clear hc); have hc := HG.cell; (try simp only [World.size_alloc] at hc)))
    all_goals
      go_ret2
      refine ⟨ret_two ?_ ?_, by (repeat (first | (with_reducible exact Gr.refl _) | assumption | (with_reducible apply Gr.from_drew) | (with_reducible apply Gr.alloc) | (with_reducible apply Gr.drew) | (with_reducible refine Gr.trans ?_ (by assumption)) | (with_reducible refine Gr.setCell ?_ (by omega) _)))⟩ <;> cases h1 : chkB s k a room <;> cases h2 : chkB s' k' a' room <;> simp_all [cmpC, okC, polC, errOf]
  · by_cases h2 : policy = 2
    · subst h2
      go_enter Try.func9, Try.ntmps9
      go_wp2_with (first
        | (go_at_call 26; refine (by_any _ _ _).mono ?_; rintro e w1 ⟨rfl, rfl⟩; simp only [byV, if_true, if_neg h1])
        | (go_at_call 11; refine (Check_any _ _ _ _ _).mono ?_; rintro e w1 ⟨rfl, hg⟩; replace HG := HG.trans hg; (try clear hc); have hc := HG.cell; (try simp only [World.size_alloc] at hc))
        | (go_at_call 39; refine (by1_any _ _ _ _ _ _ room _ _ (by simp [hc, go_sem])).mono ?_; rintro e w1 ⟨rfl, hg⟩; replace HG := HG.trans hg; (try clear hc); have hc := HG.cell; (try simp only [World.size_alloc] at hc)))
      all_goals
        go_ret2
        refine ⟨ret_two ?_ ?_, by (repeat (first | (with_reducible exact Gr.refl _) | assumption | (with_reducible apply Gr.from_drew) | (with_reducible apply Gr.alloc) | (with_reducible apply Gr.drew) | (with_reducible refine Gr.trans ?_ (by assumption)) | (with_reducible refine Gr.setCell ?_ (by omega) _)))⟩ <;> cases h1 : chkB s k a room <;> cases h2 : chkB s' k' a' room <;> simp_all [cmpC, okC, polC, errOf]
    · go_enter Try.func9, Try.ntmps9
      go_wp2_with (first
        | (go_at_call 26; refine (by_any _ _ _).mono ?_; rintro e w1 ⟨rfl, rfl⟩; simp only [byV, if_neg h1, if_neg h2])
        | fail)
      go_ret2
      exact ⟨ret_two (by simp [cmpC, okC, h1, h2]) (by simp [okC, errOf, h1, h2]), by (repeat (first | (with_reducible exact Gr.refl _) | assumption | (with_reducible apply Gr.from_drew) | (with_reducible apply Gr.alloc) | (with_reducible apply Gr.drew) | (with_reducible refine Gr.trans ?_ (by assumption)) | (with_reducible refine Gr.setCell ?_ (by omega) _)))⟩
end Go.Proofs.Ytgpecjnnepocmaa
