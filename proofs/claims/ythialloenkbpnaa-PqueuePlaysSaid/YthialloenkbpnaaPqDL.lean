/- Contracts of a queue's methods, at the priorities int64. Written from YPqD.base by inst.py. -/
import Derived.Test.YthialloenkbpnaaPqZL
set_option linter.unusedVariables false
set_option linter.unusedSimpArgs false
namespace Go.Proofs.Ythialloenkbpnaa
open Go.RowKit
attribute [local go_sem] OvM cell_ovm obj_ovm

set_option maxRecDepth 40000 in
set_option maxHeartbeats 1000000 in
theorem New_badL (n : Int) (w : World) (h : n < 1 ∨ 1024 < n) :
    Calls Try.prog 30 #[.int .i64 n] w fun e w' => e = .returned (.tuple #[.pointer none, .int .i64 2]) ∧ w = w' := by
  rcases h with h | h
  · go_enter Try.func30, Try.ntmps30
    go_wp2
    go_ret2
    exact ⟨rfl, rfl⟩
  · have h' : ¬ n < 1 := by omega
    go_enter Try.func30, Try.ntmps30
    go_wp2
    go_ret2
    exact ⟨rfl, rfl⟩

set_option maxRecDepth 40000 in
set_option maxHeartbeats 1000000 in
theorem NewL (n : Int) (w : World) (h1 : 1 ≤ n) (h2 : n ≤ 1024) :
    Calls Try.prog 30 #[.int .i64 n] w fun e w' => e = .returned (.tuple #[.pointer (some ⟨w.heap.size, 0, none⟩), .int .i64 0]) ∧ QB w' 86 w.heap.size n.toNat (.slice none 0 0) (fun _ => 0) ∧ Gr w w' := by
  have h1' : ¬ n < 1 := by omega
  have h2' : ¬ 1024 < n := by omega
  go_enter Try.func30, Try.ntmps30
  go_wp2
  go_ret2
  have hb := blkNew w (.cells (Try.zeroCells86.setIfInBounds 0 (.int .i64 n)) 86)
  refine ⟨rfl, QB.mk ⟨_, hb, ?_, ?_, ?_, fun i hi => ?_⟩, by (repeat (first | (with_reducible exact Gr.refl _) | assumption | (with_reducible apply Gr.from_drew) | (with_reducible apply Gr.alloc) | (with_reducible apply Gr.drew) | (with_reducible refine Gr.trans ?_ (by assumption)) | (with_reducible refine Gr.setCell ?_ (by omega) _)))⟩
  · rw [Array.size_setIfInBounds]; exact zc1L
  · rw [Array.getElem?_setIfInBounds_self_of_lt (by rw [zc1L]; omega)]
    exact congrArg (fun z => some (Value.int .i64 z)) (by omega)
  · rw [Array.getElem?_setIfInBounds_ne (by omega)]; exact zc2L
  · rw [Array.getElem?_setIfInBounds_ne (by omega)]; exact zc4L i hi

theorem ordrL : Ordr ltL := by
  have key : ∀ a b : Nat × Int, ltL a b ↔ ((a.2) < (b.2) ∨ ((a.2) = (b.2) ∧ a.1 < b.1)) := fun a b => by
    simp only [ltL, ltbL, decide_eq_true_eq, orL2_neg, cmpZ_neg, cmpZ_zero, cmpZ_neg]
    omega
  refine ⟨fun {a b} h => ?_, fun {a b c} h1 h2 => ?_, fun {a b} h1 h2 => ?_⟩
  · rw [key] at h ⊢
    omega
  · rw [key] at h1 h2 ⊢
    omega
  · rw [key] at h1 h2
    obtain ⟨a1, a2⟩ := a
    obtain ⟨b1, b2⟩ := b
    simp only at h1 h2
    have e2 : a2 = b2 := by first | omega | (apply UInt8.toNat_inj.1; omega)
    subst e2
    have e1 : a1 = b1 := by omega
    rw [e1]

/-- A settled queue: what it holds at each id is told by m. -/
structure QKL (w : World) (b n len cap g : Nat) (pl : Nat → Nat) (h : Nat → Nat × Int) : Prop where
  c : QCL w b n len cap g pl h
  p : PI n len h pl
  k : HeapOK ltL len h

set_option maxRecDepth 40000 in
set_option maxHeartbeats 2000000 in
theorem settleL (b n len cap g : Nat) (pl : Nat → Nat) (h : Nat → Nat × Int) (i : Nat) (w : World) (c : QCL w b n len cap g pl h) (P : PI n len h pl) (U : Up ltL len h i) (hi : i < len) :
    Calls Try.prog 71 #[.pointer (some ⟨b, 0, none⟩), .int .i64 i] w fun e w' => (∃ v, e = .returned v) ∧ ∃ pl' h', QKL w' b n len cap g pl' h' ∧ (∀ m, m < 1024 → Mo h' pl' m = Mo h pl m) ∧ Mdh (QS b g) w w' := by
  have hfew := P.few
  have hmost := P.most
  have HC := Lib.hid c
  have HP := Lib.hid P
  have HU := Lib.hid U
  clear c P U
  go_enter Try.func71, Try.ntmps71
  go_upto_block 0 with fail
  go_cut [1] (fun t1 wx => ∃ i' pl' h', t1 = .int .i64 (i' : Nat) ∧ i' < len ∧ Hid (QCL wx b n len cap g pl' h' ∧ PI n len h' pl' ∧ Dn ltL len h' i' ∧ (∀ m, m < 1024 → Mo h' pl' m = Mo h pl m) ∧ Mdh (QS b g) w wx))
  case first =>
    go_wp2_with fail
    go_loopw [1] (fun t1 wx => ∃ i' pl' h', t1 = .int .i64 (i' : Nat) ∧ i' < len ∧ Hid (QCL wx b n len cap g pl' h' ∧ PI n len h' pl' ∧ Up ltL len h' i' ∧ (∀ m, m < 1024 → Mo h' pl' m = Mo h pl m) ∧ Mdh (QS b g) w wx)) (fun t1 _ => (intOf t1).toNat)
    case atStart => exact ⟨i, pl, h, rfl, hi, Lib.hid ⟨HC.out, HP.out, HU.out, fun _ _ => rfl, Mdh.refl _ _⟩⟩
    case round =>
      obtain ⟨i', pl', h', rfl, hi', H⟩ := hrel
      clear HC HP HU
      by_cases h0 : 0 < i'
      · have hp := par_lt h0
        have e1 : ((i' : Int) - 1) / 2 = (par i' : Nat) := by unfold par; omega
        have h0' : (0 : Int) < i' := by omega
        cases hl : ltbL (h' i') (h' (par i')) with
        | true =>
          have HL := Lib.hid (show ltL (h' i') (h' (par i')) from hl)
          go_wp2_with fail
          refine (beforeL b n len cap g pl' h' i' (par i') wr H.out.1.q H.out.1.r hi' (by omega)).mono ?_
          rintro e w1 ⟨rfl, hg⟩
          rw [hl]
          have H1 := Lib.hid (H.out.1.gr hg)
          clear hl
          go_wp2_with fail
          refine (swapL b n len cap g pl' h' i' (par i') w1 H1.out H.out.2.1 hi' (by omega)).mono ?_
          rintro e w2 ⟨⟨v, rfl⟩, hc, hm⟩
          have H2 := Lib.hid hc
          clear hc
          go_wp2
          go_roundw
          case rel => exact ⟨par i', _, _, by rw [e1], by omega, Lib.hid ⟨H2.out, H.out.2.1.swp hi' (by omega), H.out.2.2.1.step ordrL h0 hi' HL.out, fun m hm' => (H.out.2.1.mo_swp hi' (by omega) m hm').trans (H.out.2.2.2.1 m hm'), (H.out.2.2.2.2.gr hg).trans hm⟩⟩
          case measure => simp [intOf]; omega
        | false =>
          have HL := Lib.hid (show ¬ ltL (h' i') (h' (par i')) from fun h => by rw [ltL, hl] at h; cases h)
          go_wp2_with fail
          refine (beforeL b n len cap g pl' h' i' (par i') wr H.out.1.q H.out.1.r hi' (by omega)).mono ?_
          rintro e w1 ⟨rfl, hg⟩
          rw [hl]
          have H1 := Lib.hid (H.out.1.gr hg)
          clear hl
          go_wp2
          go_meet
          exact ⟨i', pl', h', rfl, hi', Lib.hid ⟨H1.out, H.out.2.1, H.out.2.2.1.done (.inr HL.out), H.out.2.2.2.1, H.out.2.2.2.2.gr hg⟩⟩
      · obtain rfl : i' = 0 := by omega
        go_wp2
        go_meet
        exact ⟨0, pl', h', rfl, hi', Lib.hid ⟨H.out.1, H.out.2.1, H.out.2.2.1.done (.inl rfl), H.out.2.2.2.1, H.out.2.2.2.2⟩⟩
  case rest =>
    obtain ⟨i0, pl0, h0, rfl, hi0, H0⟩ := hcut
    clear HC HP HU
    go_wp2_with fail
    go_loopw [1] (fun t1 wx => ∃ i' pl' h', t1 = .int .i64 (i' : Nat) ∧ i' < len ∧ Hid (QCL wx b n len cap g pl' h' ∧ PI n len h' pl' ∧ Dn ltL len h' i' ∧ (∀ m, m < 1024 → Mo h' pl' m = Mo h pl m) ∧ Mdh (QS b g) w wx)) (fun t1 _ => len - (intOf t1).toNat)
    case atStart => exact ⟨i0, pl0, h0, rfl, hi0, H0⟩
    case round =>
      obtain ⟨i', pl', h', rfl, hi', H⟩ := hrel
      clear H0 hi0
      obtain ⟨wo, rfl⟩ : ∃ wo : World, wo = wr := ⟨_, rfl⟩
      go_upto_block 4 with fail
      go_cut [4] (fun t4 wx => ∃ l, t4 = .int .i64 (l : Nat) ∧ l < len ∧ Hid (QCL wx b n len cap g pl' h' ∧ Mdh (QS b g) w wx ∧ (l = i' ∨ (par l = i' ∧ 0 < l ∧ ltL (h' l) (h' i'))) ∧ ∀ k, 0 < k → k < len → par k = i' → ¬ ltL (h' k) (h' l)))
      case first =>
        go_wp2_with fail
        go_loopw [4, 34] (fun t4 t34 wx => ∃ (l q : Nat), t4 = .int .i64 l ∧ t34 = .int .i64 q ∧ q ≤ 2 ∧ l < len ∧ Hid (QCL wx b n len cap g pl' h' ∧ Mdh (QS b g) w wx ∧ (l = i' ∨ (par l = i' ∧ 0 < l ∧ ltL (h' l) (h' i'))) ∧ ∀ k, 0 < k → k < len → k ≤ 2 * i' + q → par k = i' → ¬ ltL (h' k) (h' l))) (fun _ t34 _ => 2 - (intOf t34).toNat)
        case atStart => exact ⟨i', 0, rfl, rfl, by omega, hi', Lib.hid ⟨H.out.1, H.out.2.2.2.2, .inl rfl, fun k k0 kl kq kp => by have := par_child k0 kp; omega⟩⟩
        case round =>
          obtain ⟨l, q, rfl, rfl, hq, hl, H1⟩ := hrel
          by_cases hq2 : q < 2
          · obtain ⟨k, hk⟩ : ∃ k : Nat, k = 2 * i' + 1 + q := ⟨_, rfl⟩
            have hpk : par k = i' := by rw [hk]; unfold par; omega
            have k0 : 0 < k := by omega
            have hix : ∀ w, (Instr.index 138 (.agg #[.int .i64 (2 * (i' : Int) + 1), .int .i64 (2 * (i' : Int) + 2)]) (.int .i64 (q : Int))).run Try.prog w = .ok (.int .i64 (k : Int)) w := by
              intro w
              rcases (show q = 0 ∨ q = 1 by omega) with rfl | rfl
              · rw [hk]; kernel_rfl
              · rw [hk]; kernel_rfl
            have HK := Lib.hid (show ∀ k', 0 < k' → k' < len → k' ≤ 2 * i' + (q + 1) → par k' = i' → k' = k ∨ (k' ≤ 2 * i' + q) from fun k' a b c d => by omega)
            have HPK := Lib.hid hpk
            have hkb : k ≤ 2 * i' + 2 := by omega
            have HQ1 := Lib.hid (show k = 2 * i' + 1 + q from hk)
            clear hpk hk
            have hc1 := H1.out.1.q.c1
            by_cases hlt : k < len
            · have hlt' : (k : Int) < len := by omega
              cases hb : ltbL (h' k) (h' l) with
              | true =>
                have HB := Lib.hid (show ltL (h' k) (h' l) from hb)
                go_wp2_with fail
                refine (beforeL b n len cap g pl' h' k l wr H1.out.1.q H1.out.1.r hlt hl).mono ?_
                rintro e w1 ⟨rfl, hg⟩
                rw [hb]
                have H2 := Lib.hid (H1.out.1.gr hg)
                have H3 := Lib.hid (H1.out.2.1.gr hg)
                clear hb hc1
                go_wp2
                go_roundw
                case rel =>
                  refine ⟨k, q + 1, rfl, by go_num, by omega, hlt, Lib.hid ⟨H2.out, H3.out, .inr ⟨HPK.out, k0, ?_⟩, fun k' a b c d => ?_⟩⟩
                  · rcases H1.out.2.2.1 with rfl | ⟨_, _, h3⟩
                    · exact HB.out
                    · exact Classical.byContradiction fun hn => ordrL.le (fun h => ordrL.asym h3 h) hn HB.out
                  · rcases HK.out k' a b c d with rfl | h4
                    · exact fun h => ordrL.asym h h
                    · exact ordrL.le (fun h => ordrL.asym HB.out h) (H1.out.2.2.2 k' a b h4 d)
                case measure => simp [intOf]; omega
              | false =>
                have HB := Lib.hid (show ¬ ltL (h' k) (h' l) from fun h => by rw [ltL, hb] at h; cases h)
                go_wp2_with fail
                refine (beforeL b n len cap g pl' h' k l wr H1.out.1.q H1.out.1.r hlt hl).mono ?_
                rintro e w1 ⟨rfl, hg⟩
                rw [hb]
                have H2 := Lib.hid (H1.out.1.gr hg)
                have H3 := Lib.hid (H1.out.2.1.gr hg)
                clear hb hc1
                go_wp2
                go_roundw
                case rel =>
                  refine ⟨l, q + 1, rfl, by go_num, by omega, hl, Lib.hid ⟨H2.out, H3.out, H1.out.2.2.1, fun k' a b c d => ?_⟩⟩
                  rcases HK.out k' a b c d with rfl | h4
                  · exact HB.out
                  · exact H1.out.2.2.2 k' a b h4 d
                case measure => simp [intOf]; omega
            · have hlt' : ¬ (k : Int) < len := by omega
              go_wp2
              go_roundw
              case rel =>
                refine ⟨l, q + 1, rfl, by go_num, by omega, hl, Lib.hid ⟨H1.out.1, H1.out.2.1, H1.out.2.2.1, fun k' a b c d => ?_⟩⟩
                rcases HK.out k' a b c d with rfl | h4
                · exact absurd b hlt
                · exact H1.out.2.2.2 k' a b h4 d
              case measure => simp [intOf]; omega
          · obtain rfl : q = 2 := by omega
            go_wp2
            go_meet
            exact ⟨l, rfl, hl, Lib.hid ⟨H1.out.1, H1.out.2.1, H1.out.2.2.1, fun k' a b d => H1.out.2.2.2 k' a b (by have := par_child a d; omega) d⟩⟩
      case rest =>
        obtain ⟨l, rfl, hl, H1⟩ := hcut
        by_cases hli : l = i'
        · subst hli
          go_wp2
          refine bodyPost_ret (results_none rfl _ _ _) rfl ?_
          exact ⟨⟨_, rfl⟩, pl', h', ⟨H1.out.1, H.out.2.1, H.out.2.2.1.done H1.out.2.2.2⟩, H.out.2.2.2.1, H1.out.2.1⟩
        · have hli' : ((l : Int) == i') = false := by simp; omega
          have HL := Lib.hid (H1.out.2.2.1.resolve_left hli)
          go_wp2_with fail
          refine (swapL b n len cap g pl' h' i' l _ H1.out.1 H.out.2.1 hi' hl).mono ?_
          rintro e w2 ⟨⟨v, rfl⟩, hc, hm⟩
          have H2 := Lib.hid hc
          clear hc
          have hpl := par_lt HL.out.2.1
          rw [HL.out.1] at hpl
          go_wp2
          go_roundw
          case rel => exact ⟨l, _, _, rfl, hl, Lib.hid ⟨H2.out, H.out.2.1.swp hi' hl, H.out.2.2.1.step ordrL hl HL.out.1 HL.out.2.1 HL.out.2.2 H1.out.2.2.2, fun m hm' => (H.out.2.1.mo_swp hi' hl m hm').trans (H.out.2.2.2.1 m hm'), H1.out.2.1.trans hm⟩⟩
          case measure => simp [intOf]; omega
end Go.Proofs.Ythialloenkbpnaa
