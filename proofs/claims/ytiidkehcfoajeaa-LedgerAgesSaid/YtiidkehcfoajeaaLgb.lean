/- ledger.Check and Age, and the reference's. -/
import Derived.Test.YtiidkehcfoajeaaLga
set_option linter.unusedVariables false
set_option linter.unusedSimpArgs false
namespace Go.Proofs.Ytiidkehcfoajeaa
open Go.RowKit
attribute [local go_sem] OvM cell_ovm obj_ovm

theorem inBy_yes {n : Int} (h : inBy n = true) : 0 ≤ n ∧ n ≤ 262144 := by simpa [inBy] using h
theorem chk_0 {b : By} (h1 : inBy b.live = true) (h2 : inBy b.tombs = true) (h3 : inBy b.dead = true) (h4 : inBy b.total = true) (h5 : b.total = b.live + b.tombs + b.dead) (h6 : 0 ≤ b.last) (h7 : b.last ≤ 1099511627776) (h8 : b.last = 0 ↔ b.total = 0) : chkBy b = 0 := if_pos ⟨h1, h2, h3, h4, h5, h6, h7, h8⟩
theorem chk_2 {b : By} (h : ¬ (inBy b.live = true ∧ inBy b.tombs = true ∧ inBy b.dead = true ∧ inBy b.total = true ∧ b.total = b.live + b.tombs + b.dead ∧ 0 ≤ b.last ∧ b.last ≤ 1099511627776 ∧ (b.last = 0 ↔ b.total = 0))) : chkBy b = 2 := if_neg h
set_option maxRecDepth 40000 in
set_option maxHeartbeats 2000000 in
theorem Check_by (b : By) (w : World) : Calls Try.prog 23 #[byV b] w fun e w' => e = .returned (.int .i64 (chkBy b)) ∧ Gr w w' := by
  obtain ⟨l, hl⟩ : ∃ l : List Int, l = [b.live, b.tombs, b.dead, b.total] := ⟨_, rfl⟩
  have HL := Lib.hid hl
  clear hl
  simp only [byV]
  go_enter Try.func23, Try.ntmps23
  go_wp2_with fail
  obtain ⟨w1, hw1⟩ : ∃ y, y = (w.alloc (.cells #[.int .i64 b.total, .int .i64 b.live, .int .i64 b.tombs, .int .i64 b.dead, .int .i64 b.last] 44)).alloc (.cells #[.int .i64 b.live, .int .i64 b.tombs, .int .i64 b.dead, .int .i64 b.total] 3) := ⟨_, rfl⟩
  obtain ⟨b1, hb1⟩ : ∃ q, q = w.heap.size := ⟨_, rfl⟩
  have HW : Hid (Gr w w1 ∧ w1.heap[b1]? = some (.cells #[.int .i64 b.total, .int .i64 b.live, .int .i64 b.tombs, .int .i64 b.dead, .int .i64 b.last] 44) ∧ ∀ k v, l[k]? = some v → w1.cell? ⟨b1 + 1, k, none⟩ = some (.int .i64 v)) := Lib.hid (by
    have h2 : w1.heap[b1 + 1]? = some (.cells (l.map (Value.int .i64)).toArray 3) := by
      rw [hw1, hb1, HL.out]
      have := blkNew (w.alloc (.cells #[.int .i64 b.total, .int .i64 b.live, .int .i64 b.tombs, .int .i64 b.dead, .int .i64 b.last] 44)) (.cells #[.int .i64 b.live, .int .i64 b.tombs, .int .i64 b.dead, .int .i64 b.total] 3)
      rwa [World.size_alloc] at this
    refine ⟨by rw [hw1]; exact ((Gr.refl w).alloc _).alloc _, by rw [hw1, hb1]; exact blkOld (blkNew w _), fun k v hk => ?_⟩
    rw [(cellsOf h2).1]
    simp [hk])
  have HN : Hid (l.length = 4) := Lib.hid (by rw [HL.out]; rfl)
  rw [← hw1, ← hb1]
  clear hw1 hb1
  go_loop [15] (fun t15 => ∃ k : Nat, k ≤ 4 ∧ t15 = .int .i64 k ∧ Hid (∀ j v, j < k → l[j]? = some v → inBy v = true)) (fun t15 => 4 - (intOf t15).toNat)
  case atStart => exact ⟨0, by omega, rfl, Lib.hid (fun j v h => by omega)⟩
  case round =>
    obtain ⟨k, hk, rfl, HK⟩ := hrel
    by_cases hlt : k < 4
    · have hlt' : (k : Int) < 4 := by omega
      obtain ⟨v, hv⟩ : ∃ v, l[k]? = some v := ⟨_, List.getElem?_eq_getElem (by rw [HN.out]; exact hlt)⟩
      have hc := HW.out.2.2 k v hv
      have HV := Lib.hid hv
      clear hv
      by_cases hin : 0 ≤ v ∧ v ≤ 262144
      · have hI : Hid (inBy v = true) := Lib.hid (by simpa [inBy] using hin)
        obtain ⟨h1, h2⟩ := hin
        go_wp2
        go_round
        case rel => exact ⟨k + 1, by omega, by go_num, Lib.hid (fun j u hj hu => by
          rcases Nat.lt_or_ge j k with h | h
          · exact HK.out j u h hu
          · obtain rfl : j = k := by omega
            rw [HV.out] at hu
            rw [← Option.some.inj hu]; exact hI.out)⟩
        case measure => simp [intOf]; omega
      · have hI : Hid (inBy v = false) := Lib.hid (by simpa [inBy] using hin)
        have HR : Hid (chkBy b = 2) := Lib.hid (chk_2 (fun h => by
          have h0 := HV.out
          have h1 := hI.out
          rw [HL.out] at h0
          obtain ⟨a1, a2, a3, a4, _⟩ := h
          match k, hlt, h0 with
          | 0, _, h0 => simp at h0; rw [h0] at a1; rw [a1] at h1; cases h1
          | 1, _, h0 => simp at h0; rw [h0] at a2; rw [a2] at h1; cases h1
          | 2, _, h0 => simp at h0; rw [h0] at a3; rw [a3] at h1; cases h1
          | 3, _, h0 => simp at h0; rw [h0] at a4; rw [a4] at h1; cases h1))
        by_cases h1 : v < 0
        · clear hin
          go_wp2
          go_ret
          exact ⟨ret_int HR.out.symm, HW.out.1⟩
        · have h2 : 262144 < v := by omega
          clear hin
          go_wp2
          go_ret
          exact ⟨ret_int HR.out.symm, HW.out.1⟩
    · have hlt' : ¬ (k : Int) < 4 := by omega
      have hk4 : k = 4 := by omega
      have a1 : inBy b.live = true := HK.out 0 _ (by omega) (by rw [HL.out]; rfl)
      have a2 : inBy b.tombs = true := HK.out 1 _ (by omega) (by rw [HL.out]; rfl)
      have a3 : inBy b.dead = true := HK.out 2 _ (by omega) (by rw [HL.out]; rfl)
      have a4 : inBy b.total = true := HK.out 3 _ (by omega) (by rw [HL.out]; rfl)
      have HA := Lib.hid (And.intro a1 (And.intro a2 (And.intro a3 a4)))
      obtain ⟨p1, q1⟩ := inBy_yes a1
      obtain ⟨p2, q2⟩ := inBy_yes a2
      obtain ⟨p3, q3⟩ := inBy_yes a3
      obtain ⟨p4, q4⟩ := inBy_yes a4
      have cb := (cellsOf HW.out.2.1).1
      have HG := Lib.hid HW.out.1
      clear a1 a2 a3 a4 hk4 HK hk HL HW
      obtain ⟨t, l, m, d, s⟩ := b
      simp only at *
      by_cases t1 : t = l + m + d
      · subst t1
        by_cases t2 : s < 0
        · have HR : Hid (chkBy ⟨l + m + d, l, m, d, s⟩ = 2) := Lib.hid (chk_2 (fun h => by have h5 := h.2.2.2.2.1; have h6 := h.2.2.2.2.2.1; have h7 := h.2.2.2.2.2.2.1; have h8 := h.2.2.2.2.2.2.2; simp only at h5 h6 h7; first | omega | exact absurd (h8.1 rfl) t5 | (simp only at h8; omega)))
          go_wp2
          go_ret
          exact ⟨ret_int HR.out.symm, HG.out⟩
        · by_cases t3 : 1099511627776 < s
          · have HR : Hid (chkBy ⟨l + m + d, l, m, d, s⟩ = 2) := Lib.hid (chk_2 (fun h => by have h5 := h.2.2.2.2.1; have h6 := h.2.2.2.2.2.1; have h7 := h.2.2.2.2.2.2.1; have h8 := h.2.2.2.2.2.2.2; simp only at h5 h6 h7; first | omega | exact absurd (h8.1 rfl) t5 | (simp only at h8; omega)))
            go_wp2
            go_ret
            exact ⟨ret_int HR.out.symm, HG.out⟩
          · by_cases t4 : s = 0
            · subst t4
              by_cases t5 : l + m + d = 0
              · obtain rfl : l = 0 := by omega
                obtain rfl : m = 0 := by omega
                obtain rfl : d = 0 := by omega
                have HR : Hid (chkBy ⟨0 + 0 + 0, 0, 0, 0, 0⟩ = 0) := Lib.hid (chk_0 HA.out.1 HA.out.2.1 HA.out.2.2.1 HA.out.2.2.2 rfl (by simp) (by simp) (by simp))
                go_wp2
                go_ret
                exact ⟨ret_int HR.out.symm, HG.out⟩
              · have HR : Hid (chkBy ⟨l + m + d, l, m, d, 0⟩ = 2) := Lib.hid (chk_2 (fun h => by have h5 := h.2.2.2.2.1; have h6 := h.2.2.2.2.2.1; have h7 := h.2.2.2.2.2.2.1; have h8 := h.2.2.2.2.2.2.2; simp only at h5 h6 h7; first | omega | exact absurd (h8.1 rfl) t5 | (simp only at h8; omega)))
                have e1 : (l + m + d == 0) = false := by simp [t5]
                go_wp2
                go_ret
                exact ⟨ret_int HR.out.symm, HG.out⟩
            · by_cases t5 : l + m + d = 0
              · obtain rfl : l = 0 := by omega
                obtain rfl : m = 0 := by omega
                obtain rfl : d = 0 := by omega
                have HR : Hid (chkBy ⟨0 + 0 + 0, 0, 0, 0, s⟩ = 2) := Lib.hid (chk_2 (fun h => by have h5 := h.2.2.2.2.1; have h6 := h.2.2.2.2.2.1; have h7 := h.2.2.2.2.2.2.1; have h8 := h.2.2.2.2.2.2.2; simp only at h5 h6 h7; first | omega | exact absurd (h8.1 rfl) t5 | (simp only at h8; omega)))
                have e1 : (s == 0) = false := by simp [t4]
                go_wp2
                go_ret
                exact ⟨ret_int HR.out.symm, HG.out⟩
              · have HR : Hid (chkBy ⟨l + m + d, l, m, d, s⟩ = 0) := Lib.hid (chk_0 HA.out.1 HA.out.2.1 HA.out.2.2.1 HA.out.2.2.2 rfl (by simp only; omega) (by simp only; omega) (by simp only; omega))
                have e1 : (s == 0) = false := by simp [t4]
                have e2 : (l + m + d == 0) = false := by simp [t5]
                go_wp2
                go_ret
                exact ⟨ret_int HR.out.symm, HG.out⟩
      · have HR : Hid (chkBy ⟨t, l, m, d, s⟩ = 2) := Lib.hid (chk_2 (fun h => by have h5 := h.2.2.2.2.1; have h6 := h.2.2.2.2.2.1; have h7 := h.2.2.2.2.2.2.1; have h8 := h.2.2.2.2.2.2.2; simp only at h5 h6 h7; first | omega | exact absurd (h8.1 rfl) t5 | (simp only at h8; omega)))
        have e1 : (t == l + m + d) = false := by simp [t1]
        go_wp2
        go_ret
        exact ⟨ret_int HR.out.symm, HG.out⟩
set_option maxRecDepth 40000 in
set_option maxHeartbeats 2000000 in
theorem CheckRef_by (b : By) (w : World) : Calls Try.prog 24 #[byV b] w fun e w' => e = .returned (.int .i64 (chkBy b)) ∧ Gr w w' := by
  simp only [byV]
  cases i1 : inBy b.total with
  | false =>
    have HR : Hid (chkBy b = 2) := Lib.hid (chk_2 (fun h => by rw [i1] at h; simp at h))
    go_enter Try.func24, Try.ntmps24
    go_wp2_with (go_at_call 86; refine (inRef_any _ _).mono ?_; rintro e w1 ⟨rfl, rfl⟩; simp only [i1])
    go_ret
    exact ⟨ret_int HR.out.symm, by (repeat (first | (with_reducible exact Gr.refl _) | assumption | (with_reducible apply Gr.from_drew) | (with_reducible apply Gr.alloc) | (with_reducible apply Gr.drew) | (with_reducible refine Gr.trans ?_ (by assumption)) | (with_reducible refine Gr.setCell ?_ (by omega) _)))⟩
  | true =>
  cases i2 : inBy b.live with
  | false =>
    have HR : Hid (chkBy b = 2) := Lib.hid (chk_2 (fun h => by rw [i2] at h; simp at h))
    go_enter Try.func24, Try.ntmps24
    go_wp2_with (go_at_call 86; refine (inRef_any _ _).mono ?_; rintro e w1 ⟨rfl, rfl⟩; simp only [i1, i2])
    go_ret
    exact ⟨ret_int HR.out.symm, by (repeat (first | (with_reducible exact Gr.refl _) | assumption | (with_reducible apply Gr.from_drew) | (with_reducible apply Gr.alloc) | (with_reducible apply Gr.drew) | (with_reducible refine Gr.trans ?_ (by assumption)) | (with_reducible refine Gr.setCell ?_ (by omega) _)))⟩
  | true =>
  cases i3 : inBy b.tombs with
  | false =>
    have HR : Hid (chkBy b = 2) := Lib.hid (chk_2 (fun h => by rw [i3] at h; simp at h))
    go_enter Try.func24, Try.ntmps24
    go_wp2_with (go_at_call 86; refine (inRef_any _ _).mono ?_; rintro e w1 ⟨rfl, rfl⟩; simp only [i1, i2, i3])
    go_ret
    exact ⟨ret_int HR.out.symm, by (repeat (first | (with_reducible exact Gr.refl _) | assumption | (with_reducible apply Gr.from_drew) | (with_reducible apply Gr.alloc) | (with_reducible apply Gr.drew) | (with_reducible refine Gr.trans ?_ (by assumption)) | (with_reducible refine Gr.setCell ?_ (by omega) _)))⟩
  | true =>
  cases i4 : inBy b.dead with
  | false =>
    have HR : Hid (chkBy b = 2) := Lib.hid (chk_2 (fun h => by rw [i4] at h; simp at h))
    go_enter Try.func24, Try.ntmps24
    go_wp2_with (go_at_call 86; refine (inRef_any _ _).mono ?_; rintro e w1 ⟨rfl, rfl⟩; simp only [i1, i2, i3, i4])
    go_ret
    exact ⟨ret_int HR.out.symm, by (repeat (first | (with_reducible exact Gr.refl _) | assumption | (with_reducible apply Gr.from_drew) | (with_reducible apply Gr.alloc) | (with_reducible apply Gr.drew) | (with_reducible refine Gr.trans ?_ (by assumption)) | (with_reducible refine Gr.setCell ?_ (by omega) _)))⟩
  | true =>
    obtain ⟨p1, q1⟩ := inBy_yes i2
    obtain ⟨p2, q2⟩ := inBy_yes i3
    obtain ⟨p3, q3⟩ := inBy_yes i4
    obtain ⟨p4, q4⟩ := inBy_yes i1
    have HA := Lib.hid (And.intro i2 (And.intro i3 (And.intro i4 i1)))
    have HI := Lib.hid (And.intro i1 (And.intro i2 (And.intro i3 i4)))
    obtain ⟨t, l, m, d, s⟩ := b
    simp only at *
    clear i1 i2 i3 i4
    by_cases t1 : t = l + m + d
    · subst t1
      by_cases t2 : s < 0
      · have HR : Hid (chkBy ⟨l + m + d, l, m, d, s⟩ = 2) := Lib.hid (chk_2 (fun h => by have h5 := h.2.2.2.2.1; have h6 := h.2.2.2.2.2.1; have h7 := h.2.2.2.2.2.2.1; have h8 := h.2.2.2.2.2.2.2; simp only at h5 h6 h7; first | omega | exact absurd (h8.1 rfl) t5 | (simp only at h8; omega)))
        go_enter Try.func24, Try.ntmps24
        go_wp2_with (go_at_call 86; refine (inRef_any _ _).mono ?_; rintro e w1 ⟨rfl, rfl⟩; first | rw [HI.out.1] | rw [HI.out.2.1] | rw [HI.out.2.2.1] | rw [HI.out.2.2.2])
        go_ret
        exact ⟨ret_int HR.out.symm, by (repeat (first | (with_reducible exact Gr.refl _) | assumption | (with_reducible apply Gr.from_drew) | (with_reducible apply Gr.alloc) | (with_reducible apply Gr.drew) | (with_reducible refine Gr.trans ?_ (by assumption)) | (with_reducible refine Gr.setCell ?_ (by omega) _)))⟩
      · by_cases t3 : 1099511627776 < s
        · have HR : Hid (chkBy ⟨l + m + d, l, m, d, s⟩ = 2) := Lib.hid (chk_2 (fun h => by have h5 := h.2.2.2.2.1; have h6 := h.2.2.2.2.2.1; have h7 := h.2.2.2.2.2.2.1; have h8 := h.2.2.2.2.2.2.2; simp only at h5 h6 h7; first | omega | exact absurd (h8.1 rfl) t5 | (simp only at h8; omega)))
          go_enter Try.func24, Try.ntmps24
          go_wp2_with (go_at_call 86; refine (inRef_any _ _).mono ?_; rintro e w1 ⟨rfl, rfl⟩; first | rw [HI.out.1] | rw [HI.out.2.1] | rw [HI.out.2.2.1] | rw [HI.out.2.2.2])
          go_ret
          exact ⟨ret_int HR.out.symm, by (repeat (first | (with_reducible exact Gr.refl _) | assumption | (with_reducible apply Gr.from_drew) | (with_reducible apply Gr.alloc) | (with_reducible apply Gr.drew) | (with_reducible refine Gr.trans ?_ (by assumption)) | (with_reducible refine Gr.setCell ?_ (by omega) _)))⟩
        · by_cases t4 : s = 0
          · subst t4
            by_cases t5 : l + m + d = 0
            · obtain rfl : l = 0 := by omega
              obtain rfl : m = 0 := by omega
              obtain rfl : d = 0 := by omega
              have HR : Hid (chkBy ⟨0 + 0 + 0, 0, 0, 0, 0⟩ = 0) := Lib.hid (chk_0 HA.out.1 HA.out.2.1 HA.out.2.2.1 HA.out.2.2.2 rfl (by simp) (by simp) (by simp))
              go_enter Try.func24, Try.ntmps24
              go_wp2_with (go_at_call 86; refine (inRef_any _ _).mono ?_; rintro e w1 ⟨rfl, rfl⟩; first | rw [HI.out.1] | rw [HI.out.2.1] | rw [HI.out.2.2.1] | rw [HI.out.2.2.2])
              go_ret
              exact ⟨ret_int HR.out.symm, by (repeat (first | (with_reducible exact Gr.refl _) | assumption | (with_reducible apply Gr.from_drew) | (with_reducible apply Gr.alloc) | (with_reducible apply Gr.drew) | (with_reducible refine Gr.trans ?_ (by assumption)) | (with_reducible refine Gr.setCell ?_ (by omega) _)))⟩
            · have HR : Hid (chkBy ⟨l + m + d, l, m, d, 0⟩ = 2) := Lib.hid (chk_2 (fun h => by have h5 := h.2.2.2.2.1; have h6 := h.2.2.2.2.2.1; have h7 := h.2.2.2.2.2.2.1; have h8 := h.2.2.2.2.2.2.2; simp only at h5 h6 h7; first | omega | exact absurd (h8.1 rfl) t5 | (simp only at h8; omega)))
              have e1 : (l + m + d == 0) = false := by simp [t5]
              go_enter Try.func24, Try.ntmps24
              go_wp2_with (go_at_call 86; refine (inRef_any _ _).mono ?_; rintro e w1 ⟨rfl, rfl⟩; first | rw [HI.out.1] | rw [HI.out.2.1] | rw [HI.out.2.2.1] | rw [HI.out.2.2.2])
              go_ret
              exact ⟨ret_int HR.out.symm, by (repeat (first | (with_reducible exact Gr.refl _) | assumption | (with_reducible apply Gr.from_drew) | (with_reducible apply Gr.alloc) | (with_reducible apply Gr.drew) | (with_reducible refine Gr.trans ?_ (by assumption)) | (with_reducible refine Gr.setCell ?_ (by omega) _)))⟩
          · by_cases t5 : l + m + d = 0
            · obtain rfl : l = 0 := by omega
              obtain rfl : m = 0 := by omega
              obtain rfl : d = 0 := by omega
              have HR : Hid (chkBy ⟨0 + 0 + 0, 0, 0, 0, s⟩ = 2) := Lib.hid (chk_2 (fun h => by have h5 := h.2.2.2.2.1; have h6 := h.2.2.2.2.2.1; have h7 := h.2.2.2.2.2.2.1; have h8 := h.2.2.2.2.2.2.2; simp only at h5 h6 h7; first | omega | exact absurd (h8.1 rfl) t5 | (simp only at h8; omega)))
              have e1 : (s == 0) = false := by simp [t4]
              go_enter Try.func24, Try.ntmps24
              go_wp2_with (go_at_call 86; refine (inRef_any _ _).mono ?_; rintro e w1 ⟨rfl, rfl⟩; first | rw [HI.out.1] | rw [HI.out.2.1] | rw [HI.out.2.2.1] | rw [HI.out.2.2.2])
              go_ret
              exact ⟨ret_int HR.out.symm, by (repeat (first | (with_reducible exact Gr.refl _) | assumption | (with_reducible apply Gr.from_drew) | (with_reducible apply Gr.alloc) | (with_reducible apply Gr.drew) | (with_reducible refine Gr.trans ?_ (by assumption)) | (with_reducible refine Gr.setCell ?_ (by omega) _)))⟩
            · have HR : Hid (chkBy ⟨l + m + d, l, m, d, s⟩ = 0) := Lib.hid (chk_0 HA.out.1 HA.out.2.1 HA.out.2.2.1 HA.out.2.2.2 rfl (by simp only; omega) (by simp only; omega) (by simp only; omega))
              have e1 : (s == 0) = false := by simp [t4]
              have e2 : (l + m + d == 0) = false := by simp [t5]
              go_enter Try.func24, Try.ntmps24
              go_wp2_with (go_at_call 86; refine (inRef_any _ _).mono ?_; rintro e w1 ⟨rfl, rfl⟩; first | rw [HI.out.1] | rw [HI.out.2.1] | rw [HI.out.2.2.1] | rw [HI.out.2.2.2])
              go_ret
              exact ⟨ret_int HR.out.symm, by (repeat (first | (with_reducible exact Gr.refl _) | assumption | (with_reducible apply Gr.from_drew) | (with_reducible apply Gr.alloc) | (with_reducible apply Gr.drew) | (with_reducible refine Gr.trans ?_ (by assumption)) | (with_reducible refine Gr.setCell ?_ (by omega) _)))⟩
    · have HR : Hid (chkBy ⟨t, l, m, d, s⟩ = 2) := Lib.hid (chk_2 (fun h => by have h5 := h.2.2.2.2.1; have h6 := h.2.2.2.2.2.1; have h7 := h.2.2.2.2.2.2.1; have h8 := h.2.2.2.2.2.2.2; simp only at h5 h6 h7; first | omega | exact absurd (h8.1 rfl) t5 | (simp only at h8; omega)))
      have e1 : (t == l + m + d) = false := by simp [t1]
      go_enter Try.func24, Try.ntmps24
      go_wp2_with (go_at_call 86; refine (inRef_any _ _).mono ?_; rintro e w1 ⟨rfl, rfl⟩; first | rw [HI.out.1] | rw [HI.out.2.1] | rw [HI.out.2.2.1] | rw [HI.out.2.2.2])
      go_ret
      exact ⟨ret_int HR.out.symm, by (repeat (first | (with_reducible exact Gr.refl _) | assumption | (with_reducible apply Gr.from_drew) | (with_reducible apply Gr.alloc) | (with_reducible apply Gr.drew) | (with_reducible refine Gr.trans ?_ (by assumption)) | (with_reducible refine Gr.setCell ?_ (by omega) _)))⟩
/-- The age: how much older than the next number. -/
def ageBy (b : By) (n : Int) : Value := if chkBy b = 0 ∧ b.last ≤ n ∧ n ≤ 1099511627777 then .tuple #[.int .i64 (n - b.last), .int .i64 0] else .tuple #[.int .i64 0, .int .i64 2]
theorem age_yes {b : By} {n : Int} (h1 : chkBy b = 0) (h2 : b.last ≤ n) (h3 : n ≤ 1099511627777) : ageBy b n = .tuple #[.int .i64 (n - b.last), .int .i64 0] := if_pos ⟨h1, h2, h3⟩
theorem age_no {b : By} {n : Int} (h : ¬ (chkBy b = 0 ∧ b.last ≤ n ∧ n ≤ 1099511627777)) : ageBy b n = .tuple #[.int .i64 0, .int .i64 2] := if_neg h
theorem chk_or (b : By) : (chkBy b = 0 ∧ 0 ≤ b.last ∧ b.last ≤ 1099511627776) ∨ chkBy b = 2 := by
  unfold chkBy
  split
  · rename_i h; exact .inl ⟨rfl, h.2.2.2.2.2.1, h.2.2.2.2.2.2.1⟩
  · exact .inr rfl
set_option maxRecDepth 40000 in
set_option maxHeartbeats 2000000 in
theorem Age_by (b : By) (n : Int) (w : World) : Calls Try.prog 21 #[byV b, .int .i64 n] w fun e w' => e = .returned (ageBy b n) ∧ Gr w w' := by
  have c0 := (cellsOf (blkNew w (.cells #[.int .i64 b.total, .int .i64 b.live, .int .i64 b.tombs, .int .i64 b.dead, .int .i64 b.last] 44))).1
  have hlt : w.heap.size < (w.alloc (.cells #[.int .i64 b.total, .int .i64 b.live, .int .i64 b.tombs, .int .i64 b.dead, .int .i64 b.last] 44)).heap.size := by simp
  rcases chk_or b with ⟨hc, hl0, hl1⟩ | hc
  · by_cases h1 : n < b.last
    · have HR := Lib.hid (age_no (b := b) (n := n) (fun h => by omega))
      have HC := Lib.hid hc
      clear hc
      simp only [byV]
      go_enter Try.func21, Try.ntmps21
      go_wp2_with fail
      refine (Check_by b _).mono ?_
      rintro e w1 ⟨rfl, hg⟩
      rw [HC.out]
      have d0 := hg.cell
      have HG := Lib.hid (((Gr.refl w).alloc _).trans hg)
      clear hg
      go_wp2
      go_ret2
      exact ⟨by rw [HR.out]; rfl, HG.out⟩
    · by_cases h2 : 1099511627777 < n
      · have HR := Lib.hid (age_no (b := b) (n := n) (fun h => by omega))
        have HC := Lib.hid hc
        clear hc
        simp only [byV]
        go_enter Try.func21, Try.ntmps21
        go_wp2_with fail
        refine (Check_by b _).mono ?_
        rintro e w1 ⟨rfl, hg⟩
        rw [HC.out]
        have d0 := hg.cell
        have HG := Lib.hid (((Gr.refl w).alloc _).trans hg)
        clear hg
        go_wp2
        go_ret2
        exact ⟨by rw [HR.out]; rfl, HG.out⟩
      · have HR := Lib.hid (age_yes (b := b) (n := n) hc (by omega) (by omega))
        have HC := Lib.hid hc
        clear hc
        simp only [byV]
        go_enter Try.func21, Try.ntmps21
        go_wp2_with fail
        refine (Check_by b _).mono ?_
        rintro e w1 ⟨rfl, hg⟩
        rw [HC.out]
        have d0 := hg.cell
        have HG := Lib.hid (((Gr.refl w).alloc _).trans hg)
        clear hg
        go_wp2
        go_ret2
        exact ⟨by rw [HR.out]; rfl, HG.out⟩
  · have HR := Lib.hid (age_no (b := b) (n := n) (fun h => by omega))
    have HC := Lib.hid hc
    clear hc
    simp only [byV]
    go_enter Try.func21, Try.ntmps21
    go_wp2_with fail
    refine (Check_by b _).mono ?_
    rintro e w1 ⟨rfl, hg⟩
    rw [HC.out]
    have d0 := hg.cell
    have HG := Lib.hid (((Gr.refl w).alloc _).trans hg)
    clear hg
    go_wp2
    go_ret2
    exact ⟨by rw [HR.out]; rfl, HG.out⟩
set_option maxRecDepth 40000 in
set_option maxHeartbeats 2000000 in
theorem AgeRef_by (b : By) (n : Int) (w : World) : Calls Try.prog 22 #[byV b, .int .i64 n] w fun e w' => e = .returned (ageBy b n) ∧ Gr w w' := by
  have c0 := (cellsOf (blkNew w (.cells #[.int .i64 b.total, .int .i64 b.live, .int .i64 b.tombs, .int .i64 b.dead, .int .i64 b.last] 48))).1
  have hlt : w.heap.size < (w.alloc (.cells #[.int .i64 b.total, .int .i64 b.live, .int .i64 b.tombs, .int .i64 b.dead, .int .i64 b.last] 48)).heap.size := by simp
  rcases chk_or b with ⟨hc, hl0, hl1⟩ | hc
  · by_cases h1 : n < b.last
    · have HR := Lib.hid (age_no (b := b) (n := n) (fun h => by omega))
      have HC := Lib.hid hc
      clear hc
      simp only [byV]
      go_enter Try.func22, Try.ntmps22
      go_wp2_with fail
      refine (CheckRef_by b _).mono ?_
      rintro e w1 ⟨rfl, hg⟩
      rw [HC.out]
      have d0 := hg.cell
      have HG := Lib.hid (((Gr.refl w).alloc _).trans hg)
      clear hg
      go_wp2
      go_ret2
      exact ⟨by rw [HR.out]; rfl, HG.out⟩
    · by_cases h2 : 1099511627777 < n
      · have HR := Lib.hid (age_no (b := b) (n := n) (fun h => by omega))
        have HC := Lib.hid hc
        clear hc
        simp only [byV]
        go_enter Try.func22, Try.ntmps22
        go_wp2_with fail
        refine (CheckRef_by b _).mono ?_
        rintro e w1 ⟨rfl, hg⟩
        rw [HC.out]
        have d0 := hg.cell
        have HG := Lib.hid (((Gr.refl w).alloc _).trans hg)
        clear hg
        go_wp2
        go_ret2
        exact ⟨by rw [HR.out]; rfl, HG.out⟩
      · have HR := Lib.hid (age_yes (b := b) (n := n) hc (by omega) (by omega))
        have HC := Lib.hid hc
        clear hc
        simp only [byV]
        go_enter Try.func22, Try.ntmps22
        go_wp2_with fail
        refine (CheckRef_by b _).mono ?_
        rintro e w1 ⟨rfl, hg⟩
        rw [HC.out]
        have d0 := hg.cell
        have HG := Lib.hid (((Gr.refl w).alloc _).trans hg)
        clear hg
        go_wp2
        go_ret2
        exact ⟨by rw [HR.out]; rfl, HG.out⟩
  · have HR := Lib.hid (age_no (b := b) (n := n) (fun h => by omega))
    have HC := Lib.hid hc
    clear hc
    simp only [byV]
    go_enter Try.func22, Try.ntmps22
    go_wp2_with fail
    refine (CheckRef_by b _).mono ?_
    rintro e w1 ⟨rfl, hg⟩
    rw [HC.out]
    have d0 := hg.cell
    have HG := Lib.hid (((Gr.refl w).alloc _).trans hg)
    clear hg
    go_wp2
    go_ret2
    exact ⟨by rw [HR.out]; rfl, HG.out⟩
end Go.Proofs.Ytiidkehcfoajeaa
