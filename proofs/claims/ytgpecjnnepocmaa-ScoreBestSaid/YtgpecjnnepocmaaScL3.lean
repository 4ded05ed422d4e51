/- ScoreAges, walked. -/
import Derived.Test.YtgpecjnnepocmaaScL2
namespace Go.Proofs.Ytgpecjnnepocmaa
open Go.RowKit
attribute [local go_sem] Ovs cell_ov obj_ov shape_ov

theorem ages_lt (r k A k' : Int) (hr : 1 ≤ r) (hA : 1 ≤ A) (h : k < k') : benP k' A k r < benP k A k' r := by
  have e : (r - k) * A * (r + k') - (r - k') * A * (r + k) = A * (2 * r * (k' - k)) := by grind
  have h1 : 0 < A * (2 * r * (k' - k)) := Int.mul_pos (by omega) (Int.mul_pos (by omega) (by omega))
  unfold benP
  omega
theorem keep_lt (r k a a' : Int) (hk : 0 ≤ k) (hr : k < r) (h : a < a') : benP k a k r < benP k a' k r :=
  Int.mul_lt_mul_of_pos_right (Int.mul_lt_mul_of_pos_left h (by omega)) (by omega)
theorem benefit_lex {s k a s' k' a' room : Int} (c1 : chkB s k a room = true) (c2 : chkB s' k' a' room = true) : benefit s k a s' k' a' room = lexZ (benP k' a' k room) (benP k a k' room) s s' := by
  simp [benefit, c1, c2, benZ, lexZ]

/-- With equal ages above 0 and different bytes to keep both policies prefer the same. -/
theorem ages_same (s k s' k' A room : Int) (h1 : 1 ≤ room) (hA : 1 ≤ A) (hk : k ≠ k') (c1 : chkB s k A room = true) (c2 : chkB s' k' A room = true) : benefit s k A s' k' A room = greedy s k s' k' := by
  rw [greedy_lex, benefit_lex c1 c2]
  rcases Int.lt_or_gt_of_ne hk with h | h
  · have := ages_lt room k A k' h1 hA h
    rw [(lexZ_neg _ _ _ _).2 (.inl this), (lexZ_neg _ _ _ _).2 (.inl h)]
  · have := ages_lt room k' A k h1 hA h
    rw [(lexZ_pos _ _ _ _).2 (.inl this), (lexZ_pos _ _ _ _).2 (.inl h)]
/-- With equal bytes to keep, less than the room, the older one; with equal ages the first slot. -/
theorem ages_keep (k a a' room : Int) (hk : 0 ≤ k) (hr : k < room) (c1 : chkB 0 k a room = true) (c2 : chkB 1 k a' room = true) :
    (a' < a → benefit 0 k a 1 k a' room = -1) ∧ (a < a' → benefit 0 k a 1 k a' room = 1) ∧ (a = a' → benefit 0 k a 1 k a' room = -1) := by
  rw [benefit_lex c1 c2]
  refine ⟨fun h => (lexZ_neg _ _ _ _).2 (.inl (keep_lt _ _ _ _ hk hr h)), fun h => (lexZ_pos _ _ _ _).2 (.inl (keep_lt _ _ _ _ hk hr h)), fun h => ?_⟩
  subst h
  exact (lexZ_neg _ _ _ _).2 (.inr ⟨rfl, by decide⟩)

/-- A side in a block of its own, which may be written. -/
structure SdF (w : World) (b : Nat) (s k a : Int) : Prop where
  lt : b < w.heap.size
  c0 : w.cell? ⟨b, 0, none⟩ = some (.int .i64 s)
  c1 : w.cell? ⟨b, 1, none⟩ = some (.int .i64 k)
  c2 : w.cell? ⟨b, 2, none⟩ = some (.int .i64 a)
  fr : ∀ j, w.frozen? ⟨b, j, none⟩ = false
theorem SdF.grow {w w1 : World} {b : Nat} {s k a : Int} (h : SdF w b s k a) (g : Gr w w1) : SdF w1 b s k a :=
  ⟨Nat.lt_of_lt_of_le h.lt g.sz, (g.cell _ _ h.lt).trans h.c0, (g.cell _ _ h.lt).trans h.c1, (g.cell _ _ h.lt).trans h.c2, fun j => (g.frozen _ _ h.lt).trans (h.fr j)⟩
theorem SdF.other {w : World} {b : Nat} {s k a : Int} (h : SdF w b s k a) {p : Addr} (hp : b ≠ p.block) (v : Value) : SdF (w.setCell p v) b s k a := by
  have ne : ∀ j, p ≠ (⟨b, j, none⟩ : Addr) := fun j e => hp (congrArg Addr.block e).symm
  exact ⟨by simpa using h.lt, by rw [World.cell?_setCell_other _ _ _ _ (ne 0)]; exact h.c0, by rw [World.cell?_setCell_other _ _ _ _ (ne 1)]; exact h.c1, by rw [World.cell?_setCell_other _ _ _ _ (ne 2)]; exact h.c2, fun j => by rw [World.frozen?_setCell]; exact h.fr j⟩
theorem SdF.set0 {w : World} {b : Nat} {s k a : Int} (h : SdF w b s k a) (x : Int) : SdF (w.setCell ⟨b, 0, none⟩ (.int .i64 x)) b x k a := by
  exact ⟨by simpa using h.lt, World.cell?_setCell_same' _ _ _ (by rw [h.c0]; rfl), by rw [World.cell?_setCell_other _ _ _ _ (by simp)]; exact h.c1, by rw [World.cell?_setCell_other _ _ _ _ (by simp)]; exact h.c2, fun j => by rw [World.frozen?_setCell]; exact h.fr j⟩
theorem SdF.set1 {w : World} {b : Nat} {s k a : Int} (h : SdF w b s k a) (x : Int) : SdF (w.setCell ⟨b, 1, none⟩ (.int .i64 x)) b s x a := by
  exact ⟨by simpa using h.lt, by rw [World.cell?_setCell_other _ _ _ _ (by simp)]; exact h.c0, World.cell?_setCell_same' _ _ _ (by rw [h.c1]; rfl), by rw [World.cell?_setCell_other _ _ _ _ (by simp)]; exact h.c2, fun j => by rw [World.frozen?_setCell]; exact h.fr j⟩
theorem SdF.set2 {w : World} {b : Nat} {s k a : Int} (h : SdF w b s k a) (x : Int) : SdF (w.setCell ⟨b, 2, none⟩ (.int .i64 x)) b s k x := by
  exact ⟨by simpa using h.lt, by rw [World.cell?_setCell_other _ _ _ _ (by simp)]; exact h.c0, by rw [World.cell?_setCell_other _ _ _ _ (by simp)]; exact h.c1, World.cell?_setCell_same' _ _ _ (by rw [h.c2]; rfl), fun j => by rw [World.frozen?_setCell]; exact h.fr j⟩

/-- Two sides one behind the other. -/
structure S2 (w : World) (g : Nat) (k1 a1 k2 a2 : Int) : Prop where
  lt : g < w.heap.size
  l0 : w.cell? ⟨g, 0, none⟩ = some (.int .i64 0)
  l1 : w.cell? ⟨g, 1, none⟩ = some (.int .i64 k1)
  l2 : w.cell? ⟨g, 2, none⟩ = some (.int .i64 a1)
  m0 : w.cell? ⟨g, 3, none⟩ = some (.int .i64 1)
  m1 : w.cell? ⟨g, 4, none⟩ = some (.int .i64 k2)
  m2 : w.cell? ⟨g, 5, none⟩ = some (.int .i64 a2)
theorem S2.grow {w w1 : World} {g : Nat} {k1 a1 k2 a2 : Int} (h : S2 w g k1 a1 k2 a2) (gr : Gr w w1) : S2 w1 g k1 a1 k2 a2 := by
  obtain ⟨h0, l0, l1, l2, m0, m1, m2⟩ := h
  exact ⟨Nat.lt_of_lt_of_le h0 gr.sz, (gr.cell _ _ h0).trans l0, (gr.cell _ _ h0).trans l1, (gr.cell _ _ h0).trans l2, (gr.cell _ _ h0).trans m0, (gr.cell _ _ h0).trans m1, (gr.cell _ _ h0).trans m2⟩
theorem S2.other {w : World} {g : Nat} {k1 a1 k2 a2 : Int} (h : S2 w g k1 a1 k2 a2) {p : Addr} (hp : g ≠ p.block) (v : Value) : S2 (w.setCell p v) g k1 a1 k2 a2 := by
  have ne : ∀ j, p ≠ (⟨g, j, none⟩ : Addr) := fun j e => hp (congrArg Addr.block e).symm
  obtain ⟨h0, l0, l1, l2, m0, m1, m2⟩ := h
  exact ⟨by simpa using h0, by rw [World.cell?_setCell_other _ _ _ _ (ne 0)]; exact l0, by rw [World.cell?_setCell_other _ _ _ _ (ne 1)]; exact l1, by rw [World.cell?_setCell_other _ _ _ _ (ne 2)]; exact l2,
    by rw [World.cell?_setCell_other _ _ _ _ (ne 3)]; exact m0, by rw [World.cell?_setCell_other _ _ _ _ (ne 4)]; exact m1, by rw [World.cell?_setCell_other _ _ _ _ (ne 5)]; exact m2⟩

theorem nums2 (ka aa kb ab : Int) (h1 : NmOk ka aa) (h2 : NmOk kb ab) : NumsOk [(ka, aa), (kb, ab)] := by
  intro i hi
  match i, hi with
  | 0, _ => exact h1
  | 1, _ => exact h2

theorem chk_age {s k a A r : Int} (h : chkB s k a r = true) (h1 : 0 ≤ A) (h2 : A ≤ 1099511627776) : chkB s k A r = true := by
  simp only [chkB, inB, Bool.and_eq_true, decide_eq_true_eq] at *
  exact ⟨h.1, h1, h2⟩
theorem chk_keep {s k a k' r : Int} (h : chkB s k a r = true) (h1 : 0 ≤ k') (h2 : k' ≤ r) : chkB s k' a r = true := by
  simp only [chkB, inB, Bool.and_eq_true, decide_eq_true_eq] at *
  exact ⟨⟨h.1.1, h1, h2⟩, h.2⟩

set_option maxRecDepth 40000 in
set_option maxHeartbeats 4000000 in
theorem ScoreAges_any (n ka aa kb ab : Int) (hn : (Lit.int .u16 n).wf = true) (h1 : NmOk ka aa) (h2 : NmOk kb ab) (w : World) :
    Calls Try.prog 5 #[.int .u16 n, .agg #[.int .u16 ka, .int .u64 aa], .agg #[.int .u16 kb, .int .u64 ab]] w fun e w' =>
      e = .returned (.bool true) ∧ Gr w w' := by
  obtain ⟨hn0, hn1⟩ := u16_of hn
  obtain ⟨r, hr⟩ : ∃ r, r = 1 + n % 8192 := ⟨_, rfl⟩
  have r1 : 1 ≤ r := by omega
  have r2 : r ≤ 8192 := by omega
  have HR := Lib.hid hr
  have H3 := Lib.hid (nums2 ka aa kb ab h1 h2)
  have g1 := mkS_chk r 0 (ka, aa) r1 r2 (by omega) h1.1 h1.2.2.1
  have g2 := mkS_chk r 1 (kb, ab) r1 r2 (by omega) h2.1 h2.2.2.1
  simp only [mkS] at g1 g2
  clear hr h1 h2 hn
  go_enter Try.func5, Try.ntmps5
  go_wp2_with (first
    | (go_at_call 18; refine (room_r n r hn0 hn1 HR.out _).mono ?_; rintro e w1 ⟨rfl, rfl⟩)
    | fail)
  refine (made_any _ 0 2 2 [(ka, aa), (kb, ab)] r r1 r2 rfl (by omega) (by decide) _ ?hs H3.out ?hb).mono ?_
  case hs =>
    intro i hi
    match i, hi with
    | 0, _ => simp [go_sem]
    | 1, _ => simp [go_sem]
  case hb => simp
  rintro e w1 ⟨v, rfl, hown0, hg⟩
  have hown : w1.ownsRow _ 23 3 v 2 (rowS (madeK [(ka, aa), (kb, ab)] r 2)) := hown0
  obtain ⟨g, cap, rfl, hnc, hcm, hgl, hgb, hs⟩ := sides_of_row hown (madeK_length _ _ _) (by decide)
  obtain ⟨l0, l1, l2⟩ := side_at hs 0 (by decide)
  obtain ⟨m0, m1, m2⟩ := side_at hs 1 (by decide)
  have hG0 : Gr w w1 := by (repeat (first | (with_reducible exact Gr.refl _) | assumption | (with_reducible apply Gr.from_drew) | (with_reducible apply Gr.alloc) | (with_reducible apply Gr.drew) | (with_reducible refine Gr.trans ?_ (by assumption)) | (with_reducible refine Gr.setCell ?_ (by omega) _)))
  simp at l0 l1 l2 m0 m1 m2
  simp only [Int.cast_ofNat_Int] at g1 g2
  revert l1 l2 m1 m2 g1 g2
  generalize ka % (r + 1) = k1
  generalize aa % 1099511627777 = a1
  generalize kb % (r + 1) = k2
  generalize ab % 1099511627777 = a2
  intro g1 g2 l1 l2 m1 m2
  clear hs hown hown0 hg hgb HR H3 hn0 hn1
  have F := Lib.hid (S2.mk hgl l0 l1 l2 m0 m1 m2)
  have hw1 := hG0.sz
  go_wp2
  go_cut [9, 10] (fun t9 t10 wx => ∃ b9 b10, t9 = .pointer (some ⟨b9, 0, none⟩) ∧ t10 = .pointer (some ⟨b10, 0, none⟩) ∧ SdF wx b9 0 k1 a1 ∧ SdF wx b10 1 k2 a2 ∧ S2 wx g k1 a1 k2 a2 ∧ b9 ≠ b10 ∧ g ≠ b9 ∧ g ≠ b10 ∧ w.heap.size ≤ b9 ∧ w.heap.size ≤ b10 ∧ Gr w wx)
  case first =>
    go_region
    all_goals
      go_wp2
      go_meet
      exact ⟨_, _, rfl, rfl, by constructor <;> simp [go_sem], by constructor <;> simp [go_sem], F.out.grow (by (repeat (first | (with_reducible exact Gr.refl _) | assumption | (with_reducible apply Gr.from_drew) | (with_reducible apply Gr.alloc) | (with_reducible apply Gr.drew) | (with_reducible refine Gr.trans ?_ (by assumption)) | (with_reducible refine Gr.setCell ?_ (by omega) _)))), by omega, by omega, by omega, by omega, by omega, by (repeat (first | (with_reducible exact Gr.refl _) | assumption | (with_reducible apply Gr.from_drew) | (with_reducible apply Gr.alloc) | (with_reducible apply Gr.drew) | (with_reducible refine Gr.trans ?_ (by assumption)) | (with_reducible refine Gr.setCell ?_ (by omega) _)))⟩
  case rest =>
    obtain ⟨b9, b10, rfl, rfl, f9, f10, f2, n1, n2, n3, z9, z10, G1⟩ := hcut
    clear l0 l1 l2 m0 m1 m2 hgl F hw1 hG0
    have B1 := chk_bd g1
    obtain ⟨A, hA, hA', hAm⟩ : ∃ A, 1 ≤ A ∧ A ≤ 1099511627776 ∧ ((A = a1 ∧ 1 ≤ a1) ∨ (A = 1 ∧ a1 < 1)) := by
      rcases Int.lt_or_le a1 1 with h | h
      · exact ⟨1, by omega, by omega, .inr ⟨rfl, h⟩⟩
      · exact ⟨a1, h, by omega, .inl ⟨rfl, h⟩⟩
    have HS9 := Lib.hid f9
    have HS10 := Lib.hid f10
    have HS2 := Lib.hid f2
    obtain ⟨lt9, u0, u1, u2, ufr⟩ := f9
    obtain ⟨lt10, v0, v1, v2, vfr⟩ := f10
    clear f2
    have n1' := Ne.symm n1
    go_upto_region 4 with fail
    go_cut [] (fun wx => SdF wx b9 0 k1 A ∧ SdF wx b10 1 k2 A ∧ S2 wx g k1 a1 k2 a2 ∧ Gr w wx)
    case first =>
      rcases hAm with ⟨hA1, hA2⟩ | ⟨hA1, hA2⟩
      all_goals
        subst hA1
        go_wp2
        go_meet
        exact ⟨(HS9.out.set2 _).other n1 _, (HS10.out.other n1' _).set2 _, (HS2.out.other n2 _).other n3 _, (G1.setCell z9 _).setCell z10 _⟩
    case rest =>
      clear u0 u1 u2 ufr v0 v1 v2 vfr lt9 lt10 HS9 HS10 HS2 G1
      obtain ⟨f9, f10, f2, G1⟩ := hcut
      have HS9 := Lib.hid f9
      have HS10 := Lib.hid f10
      have HS2 := Lib.hid f2
      obtain ⟨lt9, u0, u1, u2, ufr⟩ := f9
      obtain ⟨lt10, v0, v1, v2, vfr⟩ := f10
      clear f2
      have C1 := chk_age g1 (by omega) hA'
      have C2 := chk_age g2 (by omega) hA'
      go_upto_region 5 with fail
      go_cut [47] (fun t wx => t = .bool false ∧ SdF wx b9 0 k1 A ∧ SdF wx b10 1 k2 A ∧ S2 wx g k1 a1 k2 a2 ∧ Gr w wx)
      case first =>
        have HG := Gr.refl wc.drew
        by_cases hkk : k1 = k2
        · subst hkk
          refine wp_region_flow (by kernel_rfl) (by kernel_rfl) ?_
          refine flow_seg 9 rfl ?_
          simp only [List.take_succ_cons, List.take_zero, List.drop_succ_cons, List.drop_zero]
          repeat (go_big_quiet_step (fail))
          refine wpQuiet_nil ?_
          refine flow_pass rfl rfl ?_
          (try go_simp)
          refine flow_seg 2 rfl ?_
          simp only [List.take_succ_cons, List.take_zero, List.drop_succ_cons, List.drop_zero]
          repeat (go_big_quiet_step (fail))
          refine wpQuiet_nil ?_
          refine flow_pass rfl rfl ?_
          (try go_simp)
          refine flow_seg 2 rfl ?_
          simp only [List.take_succ_cons, List.take_zero, List.drop_succ_cons, List.drop_zero]
          repeat (go_big_quiet_step (fail))
          refine wpQuiet_nil ?_
          refine flow_nil ?_
          go_wp2
          go_meet
          exact ⟨rfl, HS9.out.grow (by (repeat (first | (with_reducible exact Gr.refl _) | assumption | (with_reducible apply Gr.from_drew) | (with_reducible apply Gr.alloc) | (with_reducible apply Gr.drew) | (with_reducible refine Gr.trans ?_ (by assumption)) | (with_reducible refine Gr.setCell ?_ (by omega) _)))), HS10.out.grow (by (repeat (first | (with_reducible exact Gr.refl _) | assumption | (with_reducible apply Gr.from_drew) | (with_reducible apply Gr.alloc) | (with_reducible apply Gr.drew) | (with_reducible refine Gr.trans ?_ (by assumption)) | (with_reducible refine Gr.setCell ?_ (by omega) _)))), HS2.out.grow (by (repeat (first | (with_reducible exact Gr.refl _) | assumption | (with_reducible apply Gr.from_drew) | (with_reducible apply Gr.alloc) | (with_reducible apply Gr.drew) | (with_reducible refine Gr.trans ?_ (by assumption)) | (with_reducible refine Gr.setCell ?_ (by omega) _)))), G1.trans (by (repeat (first | (with_reducible exact Gr.refl _) | assumption | (with_reducible apply Gr.from_drew) | (with_reducible apply Gr.alloc) | (with_reducible apply Gr.drew) | (with_reducible refine Gr.trans ?_ (by assumption)) | (with_reducible refine Gr.setCell ?_ (by omega) _))))⟩
        · have hb : (k1 != k2) = true := by simpa using hkk
          have e := ages_same 0 k1 1 k2 A r r1 hA hkk C1 C2
          refine wp_region_flow (by kernel_rfl) (by kernel_rfl) ?_
          refine flow_seg 9 rfl ?_
          simp only [List.take_succ_cons, List.take_zero, List.drop_succ_cons, List.drop_zero]
          repeat (go_big_quiet_step (fail))
          refine wpQuiet_nil ?_
          refine flow_eff rfl rfl (fun K hK => ?_)
          go_wp2_with ((go_at_call 15; refine (Benefit_any _ _ _ _ _ _ _ _).mono ?_; rintro e w1 ⟨rfl, hg⟩; replace HG := HG.trans hg; (try clear hc); have hc := HG.cell; (try simp only [World.size_alloc] at hc)))
          refine ⟨Gr.ovs (by (repeat (first | (with_reducible exact Gr.refl _) | assumption | (with_reducible apply Gr.from_drew) | (with_reducible apply Gr.alloc) | (with_reducible apply Gr.drew) | (with_reducible refine Gr.trans ?_ (by assumption)) | (with_reducible refine Gr.setCell ?_ (by omega) _)))), ?_⟩
          refine flow_seg 2 rfl ?_
          simp only [List.take_succ_cons, List.take_zero, List.drop_succ_cons, List.drop_zero]
          repeat (go_big_quiet_step (fail))
          refine wpQuiet_nil ?_
          refine flow_eff rfl rfl (fun K hK => ?_)
          go_wp2_with ((go_at_call 13; refine (Greedy_any _ _ _ _ _ _ _).mono ?_; rintro e w1 ⟨rfl, hg⟩; replace HG := HG.trans hg; (try clear hc); have hc := HG.cell; (try simp only [World.size_alloc] at hc)))
          refine ⟨Gr.ovs (by (repeat (first | (with_reducible exact Gr.refl _) | assumption | (with_reducible apply Gr.from_drew) | (with_reducible apply Gr.alloc) | (with_reducible apply Gr.drew) | (with_reducible refine Gr.trans ?_ (by assumption)) | (with_reducible refine Gr.setCell ?_ (by omega) _)))), ?_⟩
          refine flow_seg 2 rfl ?_
          simp only [List.take_succ_cons, List.take_zero, List.drop_succ_cons, List.drop_zero]
          repeat (go_big_quiet_step (fail))
          refine wpQuiet_nil ?_
          refine flow_nil ?_
          go_wp2
          go_meet
          exact ⟨rfl, HS9.out.grow (Gr.of_drew HG), HS10.out.grow (Gr.of_drew HG), HS2.out.grow (Gr.of_drew HG), G1.trans (Gr.of_drew HG)⟩
      case rest =>
        clear u0 u1 u2 ufr v0 v1 v2 vfr lt9 lt10 HS9 HS10 HS2 G1
        obtain ⟨rfl, f9, f10, f2, G1⟩ := hcut
        have HS9 := Lib.hid f9
        have HS10 := Lib.hid f10
        have HS2 := Lib.hid f2
        obtain ⟨lt9, u0, u1, u2, ufr⟩ := f9
        obtain ⟨lt10, v0, v1, v2, vfr⟩ := f10
        obtain ⟨hgl, l0, l1, l2, m0, m1, m2⟩ := f2
        go_upto_region 7 with fail
        go_cut [] (fun wx => SdF wx b9 0 k1 a1 ∧ SdF wx b10 1 k2 a2 ∧ Gr w wx)
        case first =>
          go_region
          all_goals
            go_wp2
            go_meet
            exact ⟨((((((HS9.out.set0 _).set1 _).set2 _).other n1 _).other n1 _).other n1 _).grow (Gr.drew (Gr.refl _)), ((((((HS10.out.other n1' _).other n1' _).other n1' _).set0 _).set1 _).set2 _).grow (Gr.drew (Gr.refl _)),
              ((((((G1.setCell z9 _).setCell z9 _).setCell z9 _).setCell z10 _).setCell z10 _).setCell z10 _).drew⟩
        case rest =>
          clear u0 u1 u2 ufr v0 v1 v2 vfr lt9 lt10 HS9 HS10 HS2 G1 l0 l1 l2 m0 m1 m2 hgl
          obtain ⟨f9, f10, G1⟩ := hcut
          have HS9 := Lib.hid f9
          have HS10 := Lib.hid f10
          obtain ⟨lt9, u0, u1, u2, ufr⟩ := f9
          obtain ⟨lt10, v0, v1, v2, vfr⟩ := f10
          obtain ⟨K, hK0, hKr, hKm⟩ : ∃ K, 0 ≤ K ∧ K < r ∧ ((K = k1 ∧ k1 ≤ r - 1) ∨ (K = r - 1 ∧ r - 1 < k1)) := by
            rcases Int.lt_or_le (r - 1) k1 with h | h
            · exact ⟨r - 1, by omega, by omega, .inr ⟨rfl, h⟩⟩
            · exact ⟨k1, by omega, by omega, .inl ⟨rfl, h⟩⟩
          go_upto_region 8 with fail
          go_cut [] (fun wx => SdF wx b9 0 k1 a1 ∧ SdF wx b10 1 K a2 ∧ Gr w wx)
          case first =>
            rcases hKm with ⟨hK1, hK2⟩ | ⟨hK1, hK2⟩
            all_goals
              subst hK1
              go_wp2
              go_meet
              exact ⟨HS9.out.other n1 _, HS10.out.set1 _, G1.setCell z10 _⟩
          case rest =>
            clear u0 u1 u2 ufr v0 v1 v2 vfr lt9 lt10 HS9 HS10 G1
            obtain ⟨f9, f10, G1⟩ := hcut
            have HS9 := Lib.hid f9
            have HS10 := Lib.hid f10
            obtain ⟨lt9, u0, u1, u2, ufr⟩ := f9
            obtain ⟨lt10, v0, v1, v2, vfr⟩ := f10
            go_wp2_with fail
            refine (Benefit_any _ _ _ _ _ _ _ _).mono ?_
            rintro e w2 ⟨rfl, hgB⟩
            have Q9 := (HS9.out.set1 K).grow hgB
            have Q10 := (HS10.out.other n1' _).grow hgB
            have G2 := (G1.setCell z9 _).trans hgB
            clear u0 u1 u2 ufr v0 v1 v2 vfr lt9 lt10 HS9 HS10 G1 hgB
            obtain ⟨lt9, u0, u1, u2, ufr⟩ := Q9
            obtain ⟨lt10, v0, v1, v2, vfr⟩ := Q10
            obtain ⟨t1, t2, t3⟩ := ages_keep K a1 a2 r hK0 hKr (chk_keep g1 hK0 (by omega)) (chk_keep g2 hK0 (by omega))
            have T1 := Lib.hid t1
            have T2 := Lib.hid t2
            have T3 := Lib.hid t3
            clear t1 t2 t3 hKm hAm
            have HG := Gr.refl w2
            rcases Int.lt_trichotomy a2 a1 with h | h | h
            · have e := T1.out h
              have hb : (a1 != a2) = true := by simp; omega
              go_wp2_with (go_at_call 17; refine (works_any _).mono ?_; rintro e w1 ⟨rfl, hg⟩; replace HG := HG.trans hg; (try clear hc); have hc := HG.cell; (try simp only [World.size_alloc] at hc))
              go_ret
              exact ⟨rfl, G2.trans HG⟩
            · have e := T3.out h.symm
              subst h
              go_wp2_with (go_at_call 17; refine (works_any _).mono ?_; rintro e w1 ⟨rfl, hg⟩; replace HG := HG.trans hg; (try clear hc); have hc := HG.cell; (try simp only [World.size_alloc] at hc))
              go_ret
              exact ⟨rfl, G2.trans HG⟩
            · have e := T2.out h
              have hng : ¬ a2 < a1 := by omega
              have hb : (a1 != a2) = true := by simp; omega
              go_wp2_with (go_at_call 17; refine (works_any _).mono ?_; rintro e w1 ⟨rfl, hg⟩; replace HG := HG.trans hg; (try clear hc); have hc := HG.cell; (try simp only [World.size_alloc] at hc))
              go_ret
              exact ⟨ret_bool (a := !decide (a2 < a1)) (by simp [hng]), G2.trans HG⟩
end Go.Proofs.Ytgpecjnnepocmaa
