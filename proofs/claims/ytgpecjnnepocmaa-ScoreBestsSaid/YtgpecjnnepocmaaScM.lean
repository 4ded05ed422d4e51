/- Contracts of the law's helpers: room, made, less. -/
import Derived.Test.YtgpecjnnepocmaaScE
namespace Go.Proofs.Ytgpecjnnepocmaa
open Go.RowKit
attribute [local go_sem] Ovs cell_ov obj_ov shape_ov OvX cell_ovx obj_ovx

theorem room_any (n : Int) (h0 : 0 ≤ n) (h1 : n ≤ 65535) (w : World) : Calls Try.prog 18 #[.int .u16 n] w fun e w' => e = .returned (.int .i64 (1 + n % 8192)) ∧ w = w' := by
  go_enter Try.func18, Try.ntmps18
  go_wp2
  go_ret
  refine ⟨ret_int ?_, rfl⟩
  first | rfl | omega | (rw [Int.tmod_eq_emod_of_nonneg h0])

theorem benZ_neg (s k a s' k' a' room : Int) : benZ s k a s' k' a' room < 0 ↔ (benP k' a' k room < benP k a k' room ∨ benP k a k' room = benP k' a' k room ∧ s < s') := by
  unfold benZ
  generalize benP k' a' k room = q
  generalize benP k a k' room = p
  unfold cmpZ
  (repeat' split) <;> constructor <;> intro h <;> omega

/-- A policy prefers a side: for valid sides. -/
theorem less_any (policy s k a s' k' a' room : Int) (hp : policy = 1 ∨ policy = 2) (c1 : chkB s k a room = true) (c2 : chkB s' k' a' room = true) (w : World) :
    Calls Try.prog 20 #[.int .i64 policy, .agg #[.int .i64 s, .int .i64 k, .int .i64 a], .agg #[.int .i64 s', .int .i64 k', .int .i64 a'], .int .i64 room] w fun e w' =>
      e = .returned (.bool (decide (polC policy s k a s' k' a' room < 0))) ∧ Gr w w' := by
  rcases hp with rfl | rfl
  · have H := Lib.hid (show decide (polC 1 s k a s' k' a' room < 0) = (decide (k < k') || (decide (k = k') && decide (s < s'))) by
      rw [Bool.eq_iff_iff]
      simp only [polC, greedy, orL, cmpZ, if_true, Bool.or_eq_true, Bool.and_eq_true, decide_eq_true_eq]
      (repeat' split) <;> omega)
    go_enter Try.func20, Try.ntmps20
    go_wp2
    all_goals
      go_ret
      refine ⟨?_, by (repeat (first | (with_reducible exact Gr.refl _) | assumption | (with_reducible apply Gr.from_drew) | (with_reducible apply Gr.alloc) | (with_reducible apply Gr.drew) | (with_reducible refine Gr.trans ?_ (by assumption)) | (with_reducible refine Gr.setCell ?_ (by omega) _)))⟩
      rw [H.out]
      refine ret_bool ?_
      simp_all
      try omega
  · obtain ⟨p1, p2, p3, p4, p5, p6, p7, p8⟩ := chk_bd c1
    obtain ⟨_, _, q3, q4, q5, q6, q7, q8⟩ := chk_bd c2
    obtain ⟨b1, b2, b3, b4⟩ := benP_bd p1 p2 p5 p6 p7 p8 q5 q6
    obtain ⟨d1, d2, d3, d4⟩ := benP_bd p1 p2 q5 q6 q7 q8 p5 p6
    have b5 : 0 ≤ room + k' := by omega
    have d5 : 0 ≤ room + k := by omega
    have e1 := Lib.hid (show (room - k) * a * (room + k') = benP k a k' room from rfl)
    have e2 := Lib.hid (show (room - k') * a' * (room + k) = benP k' a' k room from rfl)
    have HP := Lib.hid (show polC 2 s k a s' k' a' room < 0 ↔ ((room - k') * a' * (room + k) < (room - k) * a * (room + k') ∨ (room - k) * a * (room + k') = (room - k') * a' * (room + k) ∧ s < s') by
      have hb : polC 2 s k a s' k' a' room = benZ s k a s' k' a' room := by simp [polC, benefit, c1, c2]
      rw [hb]
      exact benZ_neg s k a s' k' a' room)
    go_enter Try.func20, Try.ntmps20
    go_wp2_with (go_at_call 37; refine (Mul64_int _ _ (by omega) (by omega) (by omega) (by omega) _).mono ?_; rintro e w' ⟨rfl, rfl⟩)
    all_goals
      go_ret
      refine ⟨?_, by (repeat (first | (with_reducible exact Gr.refl _) | assumption | (with_reducible apply Gr.from_drew) | (with_reducible apply Gr.alloc) | (with_reducible apply Gr.drew) | (with_reducible refine Gr.trans ?_ (by assumption)) | (with_reducible refine Gr.setCell ?_ (by omega) _)))⟩
      refine ret_bool ?_
      rw [Bool.eq_iff_iff]
      simp only [decide_eq_true_eq, HP.out]
      clear HP e1 e2
      simp only [benP, bne_iff_ne, ne_eq, bne_eq_false_iff_eq, true_iff] at *
      generalize (room - k) * a * (room + k') = p at *
      generalize (room - k') * a' * (room + k) = q at *
      omega

/-! ### made -/
abbrev Nm := Int × Int
def NumsAt (w : World) (b off : Nat) (l : List Nm) : Prop :=
  ∀ i, i < l.length → w.cell? ⟨b, off + i * 2, none⟩ = some (.int .u16 (l[i]?.getD (0, 0)).1) ∧ w.cell? ⟨b, off + i * 2 + 1, none⟩ = some (.int .u64 (l[i]?.getD (0, 0)).2)
def NumsOk (l : List Nm) : Prop := ∀ i, i < l.length → 0 ≤ (l[i]?.getD (0, 0)).1 ∧ (l[i]?.getD (0, 0)).1 ≤ 65535 ∧ 0 ≤ (l[i]?.getD (0, 0)).2 ∧ (l[i]?.getD (0, 0)).2 ≤ 18446744073709551615
def mkS (room : Int) (i : Nat) (x : Nm) : Sd := (i, x.1 % (room + 1), x.2 % 1099511627777)
/-- The first k sides. -/
def madeK (l : List Nm) (room : Int) : Nat → List Sd
  | 0 => []
  | k + 1 => madeK l room k ++ [mkS room k (l[k]?.getD (0, 0))]
theorem madeK_length (l : List Nm) (room : Int) : ∀ k, (madeK l room k).length = k
  | 0 => rfl
  | k + 1 => by simp [madeK, madeK_length l room k]
def cellsS (x : Sd) : List Value := [.int .i64 x.1, .int .i64 x.2.1, .int .i64 x.2.2]
def rowS (l : List Sd) : List Value := l.flatMap cellsS
theorem rowS_snoc (l : List Sd) (x : Sd) : rowS (l ++ [x]) = rowS l ++ cellsS x := by simp [rowS]
theorem rowS_length (l : List Sd) : (rowS l).length = l.length * 3 := by
  induction l with
  | nil => rfl
  | cons x l ih => simp only [rowS, List.flatMap_cons, List.length_append, List.length_cons] at *; rw [ih]; simp [cellsS]; omega
theorem Try.infoSide : (Try.prog.info? 23).map (fun i => (i.zero, i.size, i.bytes)) = some (some (.agg #[.int .i64 0, .int .i64 0, .int .i64 0]), 3, 24) := by kernel_rfl

theorem news_cells (w1 : World) (x : Sd) (t : TypeId) : ∀ j u, (cellsS x)[j]? = some u → (w1.alloc (.cells #[.int .i64 x.1, .int .i64 x.2.1, .int .i64 x.2.2] t)).cell? ((⟨w1.heap.size, 0, none⟩ : Addr).add j) = some u := by
  intro j u hj
  match j with
  | 0 => simp [cellsS] at hj; subst hj; simp [go_sem, Addr.add]
  | 1 => simp [cellsS] at hj; subst hj; simp [go_sem, Addr.add]
  | 2 => simp [cellsS] at hj; subst hj; simp [go_sem, Addr.add]
  | j + 3 => simp [cellsS] at hj
theorem one_cells (x : Sd) : ∀ u ∈ cellsS x, u.oneCell' = true := by
  intro u hu
  simp only [cellsS, List.mem_cons, List.not_mem_nil, or_false] at hu
  rcases hu with rfl | rfl | rfl <;> rfl

theorem made_step {w2 : World} {base k : Nat} {v' : Value} {l : List Nm} {room x1 x2 : Int} (hx : (x1, x2) = l[k]?.getD (0, 0)) (h : w2.ownsRow base 23 3 v' (k + 1) (rowS (madeK l room k) ++ cellsS (mkS room k (x1, x2)))) :
    w2.ownsRow base 23 3 v' (k + 1) (rowS (madeK l room (k + 1))) := by
  rw [show rowS (madeK l room (k + 1)) = rowS (madeK l room k) ++ cellsS (mkS room k (x1, x2)) by rw [madeK, rowS_snoc, ← hx]]
  exact h

set_option maxHeartbeats 1000000 in
theorem made_any (b off n cap : Nat) (l : List Nm) (room : Int) (h1 : 1 ≤ room) (h2 : room ≤ 8192) (hl : l.length = n) (hn : n ≤ cap) (_hcap : cap ≤ maxLen) (w : World) (hs : NumsAt w b off l) (hok : NumsOk l) (hb : b < w.heap.size) :
    Calls Try.prog 19 #[.slice (some ⟨b, off, none⟩) n cap, .int .i64 room] w fun e w' =>
      ∃ v, e = .returned v ∧ w'.ownsRow w.heap.size 23 3 v (min n 20) (rowS (madeK l room (min n 20))) ∧ Gr w w' := by
  obtain ⟨i0, hi, hz0, hz1, hz2⟩ := info_parts Try.infoSide
  have HL := Lib.hid hl
  have HS := Lib.hid hs
  have HO := Lib.hid hok
  clear hl hs hok
  rcases (show (n : Int) ≤ 20 ∨ (20 : Int) < n by omega) with h20 | h20
  all_goals
    go_enter Try.func19, Try.ntmps19
    go_wp2
    go_loopw [5, 14] (fun v i wr => ∃ k : Nat, k ≤ min n 20 ∧ i = .int .i64 k ∧ wr.ownsRow w.heap.size 23 3 v k (rowS (madeK l room k)) ∧ Gr w wr) (fun _ i _ => min n 20 - (intOf i).toNat)
    case atStart => exact ⟨0, by omega, rfl, ⟨rfl, .inl ⟨rfl, rfl⟩⟩, Gr.refl _⟩
    case round =>
      obtain ⟨k, hk, rfl, hown, hg⟩ := hrel
      have HW := Lib.hid hown
      clear hown
      by_cases hlt : k < min n 20
      · obtain ⟨x, hx⟩ : ∃ x, x = l[k]?.getD (0, 0) := ⟨_, rfl⟩
        obtain ⟨x1, x2⟩ := x
        have hc0 := HS.out k (by rw [HL.out]; omega)
        have ho0 := HO.out k (by rw [HL.out]; omega)
        rw [← hx] at hc0 ho0
        obtain ⟨z1, z2⟩ := hc0
        obtain ⟨o1, o2, o3, o4⟩ := ho0
        have y1 := (hg.cell _ (off + k * 2) hb).trans z1
        have y2 := (hg.cell _ (off + k * 2 + 1) hb).trans z2
        simp only at y1 y2 o1 o2 o3 o4
        have HX := Lib.hid hx
        clear z1 z2 hx
        have q1 : 0 ≤ x1 % (room + 1) := Int.emod_nonneg _ (by omega)
        have q2 : x1 % (room + 1) < room + 1 := Int.emod_lt_of_pos _ (by omega)
        obtain ⟨r, hrd⟩ : ∃ r, r = (u5.ownBlock).getD (wr.heap.size + 1) := ⟨_, rfl⟩
        have hr : ¬ wr.heap.size = r := by
          cases hob : u5.ownBlock with
          | none => rw [hrd, hob]; simp
          | some g => rw [hrd, hob]; have := (HW.out.lt g hob).2; simp; omega
        have hrow : u5.ownBlock = none ∨ u5.ownBlock = some r := by
          cases hob : u5.ownBlock with
          | none => exact .inl rfl
          | some g => rw [hrd, hob]; exact .inr rfl
        have HR := Lib.hid hrow
        have hlt1 : (k : Int) < n := by omega
        have hlt2 : (k : Int) < 20 := by omega
        clear hrd hrow
        go_wp2
        refine wp_region_flow_x (r) (by kernel_rfl) (by kernel_rfl) ?_
        refine flow_seg 12 rfl ?_
        simp only [List.take_succ_cons, List.take_zero, List.drop_succ_cons, List.drop_zero]
        repeat (go_big_quiet_step (fail))
        refine wpQuiet_nil ?_
        refine flow_eff rfl rfl (fun K hK => ?_)
        go_wp2_with ((go_at_call 36; refine (side_any _ _ _ _).mono ?_; rintro e w1 ⟨rfl, hg1⟩))
        refine ⟨OvX.of (by (repeat (first | (with_reducible exact AgreeX.refl _ _) | assumption | (with_reducible apply AgreeX.alloc) | (with_reducible apply AgreeX.drew) | (with_reducible refine AgreeX.gr ?_ (by assumption))))), ?_⟩
        refine flow_eff rfl rfl (fun K hK => ?_)
        go_wp2
        refine ⟨OvX.of (by (repeat (first | (with_reducible exact AgreeX.refl _ _) | assumption | (with_reducible apply AgreeX.alloc) | (with_reducible apply AgreeX.drew) | (with_reducible refine AgreeX.gr ?_ (by assumption))))), ?_⟩
        refine flow_eff rfl rfl (fun K hK => ?_)
        refine wp_append_own _ (.tmp 19) (.tmp 32) 42 rfl w.heap.size 23 i0 _ 3 24 Try.underlying42 hi hz0 hz1 hz2 rfl (by decide) u5 k (rowS (madeK l room k)) rfl (ownsRow_gr HW.out (by (repeat (first | (with_reducible exact Gr.refl _) | assumption | (with_reducible apply Gr.from_drew) | (with_reducible apply Gr.alloc) | (with_reducible apply Gr.drew) | (with_reducible refine Gr.trans ?_ (by assumption)) | (with_reducible refine Gr.setCell ?_ (by omega) _))))) ⟨w1.heap.size, 0, none⟩ 1 1 (cellsS (mkS room k (x1, x2))) rfl rfl (news_cells _ _ _) (one_cells _) (by simp only [maxLen]; omega) (by omega) (Nat.le_trans hg.sz (Gr.sz (by (repeat (first | (with_reducible exact Gr.refl _) | assumption | (with_reducible apply Gr.from_drew) | (with_reducible apply Gr.alloc) | (with_reducible apply Gr.drew) | (with_reducible refine Gr.trans ?_ (by assumption)) | (with_reducible refine Gr.setCell ?_ (by omega) _)))))) (fun v' w2 hn2 hg2 _ => ?_); (have HAG := Lib.hid (AgreeX.grown (r := r) (a := (wr.alloc (.cells #[.int .u16 x1, .int .u64 x2] 40)).drew) (by (repeat (first | (with_reducible exact AgreeX.refl _ _) | assumption | (with_reducible apply AgreeX.alloc) | (with_reducible apply AgreeX.drew) | (with_reducible refine AgreeX.gr ?_ (by assumption))))) hg2 HR.out)); (have HG2 := Lib.hid (Gr.of_append (by (repeat (first | (with_reducible exact Gr.refl _) | assumption | (with_reducible apply Gr.from_drew) | (with_reducible apply Gr.alloc) | (with_reducible apply Gr.drew) | (with_reducible refine Gr.trans ?_ (by assumption)) | (with_reducible refine Gr.setCell ?_ (by omega) _)))) hg2 hg HW.out (Nat.le_refl _))); (have HROW := Lib.hid (made_step HX.out hn2)); clear hn2 hg2; go_wp2; refine ⟨OvX.of HAG.out, ?_⟩
        refine flow_seg 1 rfl ?_
        simp only [List.take_succ_cons, List.take_zero, List.drop_succ_cons, List.drop_zero]
        repeat (go_big_quiet_step (fail))
        refine wpQuiet_nil ?_
        refine flow_nil ?_
        go_wp2
        go_roundw
        case rel => exact ⟨k + 1, by omega, by go_num, HROW.out, HG2.out⟩
        case measure => simp [intOf]; omega
      · have HK := Lib.hid (show k = min n 20 by omega)
        first
          | have hge : ¬ (k : Int) < n := by omega
          | have hge : ¬ (k : Int) < 20 := by omega
        go_wp2
        go_ret
        rw [← HK.out]
        exact ⟨_, rfl, HW.out, hg⟩
end Go.Proofs.Ytgpecjnnepocmaa
