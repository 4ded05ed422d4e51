/- LedgerRefuses. -/
import Derived.Test.YtiidkehcfoajeaaBd11
set_option linter.unusedVariables false
set_option linter.unusedSimpArgs false
namespace Go.Proofs.Ytiidkehcfoajeaa
open Go.RowKit Go.Shelf
attribute [local go_sem] OvM cell_ovm obj_ovm
attribute [local go_sem] Oper.semAt_some

theorem age_yes' {b : By} {n r : Int} {e : Ending} (he : e = .returned (ageBy b n)) (h1 : chkBy b = 0) (h2 : b.last ≤ n) (h3 : n ≤ 1099511627777) (hr : n - b.last = r) : e = .returned (.tuple #[.int .i64 r, .int .i64 0]) := by
  rw [he, age_yes h1 h2 h3, hr]
theorem age_no' {b : By} {n : Int} {e : Ending} (he : e = .returned (ageBy b n)) (h : ¬ (chkBy b = 0 ∧ b.last ≤ n ∧ n ≤ 1099511627777)) : e = .returned (.tuple #[.int .i64 0, .int .i64 2]) := by
  rw [he, age_no h]
theorem chk_2' {b : By} {e : Ending} (he : e = .returned (.int .i64 (chkBy b))) (h : chkBy b = 2) : e = .returned (.int .i64 2) := by
  rw [he, h]
theorem age_2' {b : By} {n : Int} {e : Ending} (he : e = .returned (ageBy b n)) (h : chkBy b = 2) : e = .returned (.tuple #[.int .i64 0, .int .i64 2]) := age_no' he (fun h' => by rw [h] at h'; exact absurd h'.1 (by decide))
theorem chk_bad (b : By) (h : (0 ≤ b.live ∧ b.live ≤ 262144) → (0 ≤ b.tombs ∧ b.tombs ≤ 262144) → (0 ≤ b.dead ∧ b.dead ≤ 262144) → b.total = b.live + b.tombs + b.dead → 0 ≤ b.last → b.last ≤ 1099511627776 → (b.last = 0 ↔ b.total = 0) → False) : chkBy b = 2 :=
  chk_2 fun ⟨a1, a2, a3, _, a5, a6, a7, a8⟩ => h (inBy_yes a1) (inBy_yes a2) (inBy_yes a3) a5 a6 a7 a8
set_option maxRecDepth 40000 in
set_option maxHeartbeats 40000000 in
theorem LedgerRefuses_any (l t d s k y : Int) (w : World) (hl : 0 ≤ l ∧ l ≤ 65535) (ht : 0 ≤ t ∧ t ≤ 65535) (hd : 0 ≤ d ∧ d ≤ 65535) (hs : 0 ≤ s ∧ s ≤ 4294967295) (hk : 0 ≤ k ∧ k ≤ 255) (hy : 0 ≤ y ∧ y ≤ 65535) :
    Calls Try.prog 6 #[.int .u16 l, .int .u16 t, .int .u16 d, .int .u32 s, .int .u8 k, .int .u16 y] w fun e w' => e = .returned (.bool true) ∧ Gr w w' := by
  obtain ⟨h1, h2⟩ := hl
  obtain ⟨h3, h4⟩ := ht
  obtain ⟨h5, h6⟩ := hd
  obtain ⟨h7, h8⟩ := hs
  obtain ⟨h9, h10⟩ := hk
  obtain ⟨h11, h12⟩ := hy
  go_enter Try.func6, Try.ntmps6
  by_cases h0 : l + t + d = 0
  · obtain rfl : l = 0 := by omega
    obtain rfl : t = 0 := by omega
    obtain rfl : d = 0 := by omega
    have HC : Hid (chkBy ⟨0, 0, 0, 0, 0⟩ = 0) := Lib.hid (chk_0 (decide_eq_true (by simp only <;> omega)) (decide_eq_true (by simp only <;> omega)) (decide_eq_true (by simp only <;> omega)) (decide_eq_true (by simp only <;> omega)) (by simp only <;> omega) (by simp only <;> omega) (by simp only <;> omega) (by simp only <;> omega))
    go_wp2_with fail
    refine (Age_by ⟨0, 0, 0, 0, 0⟩ _ _).mono ?_
    rintro e w1 ⟨he, hg⟩
    obtain rfl := age_yes' (r := y) he HC.out (by simp only <;> omega) (by omega) (by simp only <;> omega)
    obtain ⟨b13, hb13⟩ : ∃ q, q = w.heap.size := ⟨_, rfl⟩
    have H1 : Hid (w1.heap[b13]? = some (.cells #[.int .i64 (0), .int .i64 (0), .int .i64 (0), .int .i64 (0), .int .i64 (0)] 44) ∧ Gr w w1) := Lib.hid ⟨by rw [hb13]; exact hg.blk (blkNew w _), ((Gr.refl w).alloc _).trans hg⟩
    rw [← hb13]
    clear he hg hb13
    have c1 := (cellsOf H1.out.1).1
    go_wp2_with fail
    refine (Age_by ⟨0, 0, 0, 0, 0⟩ _ _).mono ?_
    rintro e w2 ⟨he, hg⟩
    obtain rfl := age_no' he (fun h => by have := h.2.1; (simp only at this) <;> omega)
    have H2 := Lib.hid (And.intro (hg.blk H1.out.1) (H1.out.2.trans hg))
    clear he hg c1
    have c1 := (cellsOf H2.out.1).1
    go_wp2_with fail
    refine (Age_by ⟨0, 0, 0, 0, 0⟩ _ _).mono ?_
    rintro e w3 ⟨he, hg⟩
    obtain rfl := age_yes' (r := 1099511627777 - (0)) he HC.out (by simp only <;> omega) (by omega) (by simp only)
    have H3 := Lib.hid (And.intro (hg.blk H2.out.1) (H2.out.2.trans hg))
    clear he hg c1
    have c1 := (cellsOf H3.out.1).1
    go_wp2_with fail
    refine (Age_by ⟨0, 0, 0, 0, 0⟩ _ _).mono ?_
    rintro e w4 ⟨he, hg⟩
    obtain rfl := age_no' he (fun h => by have := h.2.2; omega)
    have H4 := Lib.hid (And.intro (hg.blk H3.out.1) (H3.out.2.trans hg))
    clear he hg c1
    have c1 := (cellsOf H4.out.1).1
    go_wp2_with fail
    refine (Check_by ⟨0, 0, 0, 0, 0⟩ _).mono ?_
    rintro e w5 ⟨rfl, hg⟩
    rw [HC.out]
    have H5 := Lib.hid (And.intro (hg.blk H4.out.1) (H4.out.2.trans hg))
    clear hg c1
    have c1 := (cellsOf H5.out.1).1
    go_wp2_with fail
    all_goals
      refine (Age_by ⟨_, _, _, _, _⟩ _ _).mono ?_
      rintro e w6 ⟨he, hg⟩
      obtain rfl := age_2' he (chk_bad _ (fun a1 a2 a3 a5 a6 a7 a8 => by (simp only at a1 a2 a3 a5 a6 a7 a8) <;> omega))
      have d := (cellsOf (hg.blk (blkNew w5 _))).1
      have H6 := Lib.hid ((H5.out.2.alloc _).trans hg)
      clear he hg
      go_wp2_with fail
      refine (Check_by ⟨_, _, _, _, _⟩ _).mono ?_
      rintro e w7 ⟨he, hg⟩
      obtain rfl := chk_2' he (chk_bad _ (fun a1 a2 a3 a5 a6 a7 a8 => by (simp only at a1 a2 a3 a5 a6 a7 a8) <;> omega))
      have H7 := Lib.hid (H6.out.trans hg)
      clear he hg d
      go_wp2_with fail
      refine (Check_by ⟨_, _, _, _, _⟩ _).mono ?_
      rintro e w8 ⟨he, hg⟩
      obtain rfl := chk_2' he (chk_bad _ (fun _ _ _ _ _ _ a => by have a2 := a.2 rfl; (simp only at a2) <;> omega))
      have H8 := Lib.hid (H7.out.trans hg)
      clear he hg
      go_wp2_with fail
      refine (lg_works _).mono ?_
      rintro e w9 ⟨rfl, hg⟩
      have H9 := Lib.hid (H8.out.trans hg)
      clear hg
      go_wp2
      go_ret
      exact ⟨rfl, H9.out⟩

  · have hb : (l + t + d == 0) = false := beq_false_of_ne h0
    have HC : Hid (chkBy ⟨l + t + d, l, t, d, 1 + s⟩ = 0) := Lib.hid (chk_0 (decide_eq_true (by simp only <;> omega)) (decide_eq_true (by simp only <;> omega)) (decide_eq_true (by simp only <;> omega)) (decide_eq_true (by simp only <;> omega)) (by simp only <;> omega) (by simp only <;> omega) (by simp only <;> omega) (by simp only <;> omega))
    go_wp2_with fail
    refine (Age_by ⟨l + t + d, l, t, d, 1 + s⟩ _ _).mono ?_
    rintro e w1 ⟨he, hg⟩
    obtain rfl := age_yes' (r := y) he HC.out (by simp only <;> omega) (by omega) (by simp only <;> omega)
    obtain ⟨b13, hb13⟩ : ∃ q, q = w.heap.size := ⟨_, rfl⟩
    have H1 : Hid (w1.heap[b13]? = some (.cells #[.int .i64 (l + t + d), .int .i64 (l), .int .i64 (t), .int .i64 (d), .int .i64 (1 + s)] 44) ∧ Gr w w1) := Lib.hid ⟨by rw [hb13]; exact hg.blk (blkNew w _), ((Gr.refl w).alloc _).trans hg⟩
    rw [← hb13]
    clear he hg hb13
    have c1 := (cellsOf H1.out.1).1
    go_wp2_with fail
    refine (Age_by ⟨l + t + d, l, t, d, 1 + s⟩ _ _).mono ?_
    rintro e w2 ⟨he, hg⟩
    obtain rfl := age_no' he (fun h => by have := h.2.1; (simp only at this) <;> omega)
    have H2 := Lib.hid (And.intro (hg.blk H1.out.1) (H1.out.2.trans hg))
    clear he hg c1
    have c1 := (cellsOf H2.out.1).1
    go_wp2_with fail
    refine (Age_by ⟨l + t + d, l, t, d, 1 + s⟩ _ _).mono ?_
    rintro e w3 ⟨he, hg⟩
    obtain rfl := age_yes' (r := 1099511627777 - (1 + s)) he HC.out (by simp only <;> omega) (by omega) (by simp only)
    have H3 := Lib.hid (And.intro (hg.blk H2.out.1) (H2.out.2.trans hg))
    clear he hg c1
    have c1 := (cellsOf H3.out.1).1
    go_wp2_with fail
    refine (Age_by ⟨l + t + d, l, t, d, 1 + s⟩ _ _).mono ?_
    rintro e w4 ⟨he, hg⟩
    obtain rfl := age_no' he (fun h => by have := h.2.2; omega)
    have H4 := Lib.hid (And.intro (hg.blk H3.out.1) (H3.out.2.trans hg))
    clear he hg c1
    have c1 := (cellsOf H4.out.1).1
    go_wp2_with fail
    refine (Check_by ⟨l + t + d, l, t, d, 1 + s⟩ _).mono ?_
    rintro e w5 ⟨rfl, hg⟩
    rw [HC.out]
    have H5 := Lib.hid (And.intro (hg.blk H4.out.1) (H4.out.2.trans hg))
    clear hg c1
    have c1 := (cellsOf H5.out.1).1
    go_wp2_with fail
    all_goals
      refine (Age_by ⟨_, _, _, _, _⟩ _ _).mono ?_
      rintro e w6 ⟨he, hg⟩
      obtain rfl := age_2' he (chk_bad _ (fun a1 a2 a3 a5 a6 a7 a8 => by (simp only at a1 a2 a3 a5 a6 a7 a8) <;> omega))
      have d := (cellsOf (hg.blk (blkNew w5 _))).1
      have H6 := Lib.hid ((H5.out.2.alloc _).trans hg)
      clear he hg
      go_wp2_with fail
      refine (Check_by ⟨_, _, _, _, _⟩ _).mono ?_
      rintro e w7 ⟨he, hg⟩
      obtain rfl := chk_2' he (chk_bad _ (fun a1 a2 a3 a5 a6 a7 a8 => by (simp only at a1 a2 a3 a5 a6 a7 a8) <;> omega))
      have H7 := Lib.hid (H6.out.trans hg)
      clear he hg d
      go_wp2_with fail
      refine (Check_by ⟨_, _, _, _, _⟩ _).mono ?_
      rintro e w8 ⟨he, hg⟩
      obtain rfl := chk_2' he (chk_bad _ (fun _ _ _ _ _ _ a => by have a2 := a.2 rfl; (simp only at a2) <;> omega))
      have H8 := Lib.hid (H7.out.trans hg)
      clear he hg
      go_wp2_with fail
      refine (lg_works _).mono ?_
      rintro e w9 ⟨rfl, hg⟩
      have H9 := Lib.hid (H8.out.trans hg)
      clear hg
      go_wp2
      go_ret
      exact ⟨rfl, H9.out⟩

theorem LedgerRefuses_wf (l t d s k y : Int) (w : World) (hl : (Lit.int .u16 l).wf = true) (ht : (Lit.int .u16 t).wf = true) (hd : (Lit.int .u16 d).wf = true) (hs : (Lit.int .u32 s).wf = true) (hk : (Lit.int .u8 k).wf = true) (hy : (Lit.int .u16 y).wf = true) :
    Calls Try.prog 6 #[.int .u16 l, .int .u16 t, .int .u16 d, .int .u32 s, .int .u8 k, .int .u16 y] w fun e w' => e = .returned (.bool true) ∧ Gr w w' := by
  simp only [Lit.wf, Bool.and_eq_true, decide_eq_true_eq] at hl ht hd hs hk hy
  exact LedgerRefuses_any l t d s k y w hl ht hd hs hk hy
end Go.Proofs.Ytiidkehcfoajeaa
