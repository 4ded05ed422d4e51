/- ScoreBest answers true: the best side is preferred to all others, in whatever order they are listed. -/
import Derived.Test.YtgpecjnnepocmaaScU
import Derived.Test.YtgpecjnnepocmaaScL3
namespace Go.Proofs.Ytgpecjnnepocmaa
open Go.RowKit
attribute [local go_sem] OvM cell_ovm obj_ovm

theorem u8_bd {a : Int} (h : (Lit.int .u8 a).wf = true) : 0 ≤ a ∧ a ≤ 255 := by
  have h' : (decide (IntKind.u8.min ≤ a) && decide (a ≤ IntKind.u8.max)) = true := h
  simpa [IntKind.min, IntKind.max, IntKind.signed, IntKind.bits] using h'
theorem okC_of {policy room s1 s2 s3 q1 q2 q3 : Int} (hp : policy = 1 ∨ policy = 2) (h1 : chkS room (s1, s2, s3) = true) (h2 : chkS room (q1, q2, q3) = true) : okC policy s1 s2 s3 q1 q2 q3 room = true := by
  have e1 : chkB s1 s2 s3 room = true := h1
  have e2 : chkB q1 q2 q3 room = true := h2
  have e0 : (policy == 1 || policy == 2) = true := by rcases hp with rfl | rfl <;> rfl
  simp only [okC, e0, e1, e2, Bool.and_true]
theorem SdIn.mem {w : World} {a : Option Addr} {len cap : Nat} {l : List Sd} (h : SdIn w a len cap l) : l.length = len := h.1
theorem SdIn.drop {w : World} {g n cap K : Nat} {l : List Sd} (h : SdIn w (some ⟨g, 0, none⟩) n cap l) (hK : K < n) (cap' : Nat) : SdIn w (some ⟨g, K * 3, none⟩) (n - K) cap' (l.drop K) := by
  obtain ⟨h1, h2⟩ := h
  refine ⟨by rw [List.length_drop, h1], .inr ⟨_, rfl, fun _ => ?_⟩⟩
  rcases h2 with ⟨h2, _⟩ | ⟨ad, he, h2⟩
  · cases h2
  · obtain rfl := Option.some.inj he
    obtain ⟨_, a2, a3⟩ := h2 (by omega)
    refine ⟨rfl, a2, fun i hi => ?_⟩
    have := a3 (K + i) (by rw [List.length_drop] at hi; omega)
    rw [List.getElem?_drop]
    simpa only [Nat.zero_add, Nat.add_mul, Nat.add_assoc] using this

theorem SdIn.take {w : World} {g n cap K : Nat} {l : List Sd} (h : SdIn w (some ⟨g, 0, none⟩) n cap l) (hK : K ≤ n) : ∀ j u, (rowS (l.take K))[j]? = some u → w.cell? ((⟨g, 0, none⟩ : Addr).add j) = some u := by
  obtain ⟨h1, h2⟩ := h
  by_cases h0 : K = 0
  · subst h0; intro j u hj; simp [rowS] at hj
  · rcases h2 with ⟨h2, _⟩ | ⟨ad, he, h2⟩
    · cases h2
    · obtain rfl := Option.some.inj he
      obtain ⟨_, a2, a3⟩ := h2 (by omega)
      refine SidesAt.cells fun i hi => ?_
      rw [List.length_take] at hi
      have := a3 i (by omega)
      rw [List.getElem?_take_of_lt (by omega)]
      exact this
theorem rowS_app (l m : List Sd) : rowS (l ++ m) = rowS l ++ rowS m := by simp [rowS]
theorem rowS_take_len (l : List Sd) (k : Nat) (h : k ≤ l.length) : (rowS (l.take k)).length = k * 3 := by rw [rowS_length, List.length_take]; congr 1; omega

set_option maxRecDepth 40000 in
set_option maxHeartbeats 8000000 in
theorem ScoreBest_any (benefit : Bool) (n : Int) (a : Option Addr) (len cap : Nat) (l : List Nm) (turn : Int) (hn : (Lit.int .u16 n).wf = true) (ht : (Lit.int .u8 turn).wf = true) (hl : l.length = len) (hle : len ≤ cap) (hcap : cap ≤ maxLen) (hok : NumsOk l) (w : World) (hs : NmIn w a len l) :
    Calls Try.prog 8 #[.bool benefit, .int .u16 n, .slice a len cap, .int .u8 turn] w fun e w' => e = .returned (.bool true) ∧ Gr w w' := by
  obtain ⟨i0, hi, hz0, hz1, hz2⟩ := info_parts Try.infoSide
  obtain ⟨hn0, hn1⟩ := u16_of hn
  obtain ⟨ht0, ht1⟩ := u8_bd ht
  obtain ⟨T, rfl⟩ := Int.eq_ofNat_of_zero_le ht0
  obtain ⟨r, hr⟩ : ∃ r, r = 1 + n % 8192 := ⟨_, rfl⟩
  have r1 : 1 ≤ r := by omega
  have r2 : r ≤ 8192 := by omega
  have HR := Lib.hid hr
  have HS := Lib.hid hs
  have HL := Lib.hid hl
  have HK := Lib.hid hok
  have HCAP := Lib.hid hcap
  have HT1 : (T : Int) < 256 := by omega
  have HRB : Hid (inB r 1 8192 = true) := Lib.hid (by simp [inB]; omega)
  clear hr hs hl hok hn ht hcap ht0 ht1
  go_enter Try.func8, Try.ntmps8
  go_upto_if 25 with (first
    | (go_at_call 18; refine (room_r n r hn0 hn1 HR.out _).mono ?_; rintro e w1 ⟨rfl, rfl⟩)
    | fail)
  go_cut [10] (fun t10 wx => ∃ P : Int, t10 = .int .i64 P ∧ Hid (P = 1 ∨ P = 2) ∧ wx = w)
  case first =>
    cases benefit
    all_goals
      go_wp2
      go_meet
    · exact ⟨1, rfl, Lib.hid (.inl rfl), rfl⟩
    · exact ⟨2, rfl, Lib.hid (.inr rfl), rfl⟩
  case rest =>
    obtain ⟨P, rfl, HP, rfl⟩ := hcut
    go_wp2_with fail
    refine (madeIn a len cap l r r1 r2 HL.out hle HCAP.out _ HS.out HK.out).mono ?_
    rintro e w1 ⟨v, rfl, hown, hg1⟩
    obtain ⟨N, hN⟩ : ∃ N, N = min len 20 := ⟨_, rfl⟩
    rw [← hN] at hown
    have hN20 : N ≤ 20 := by omega
    have hc0 := made_chk l r N r1 r2 hN20 (fun i hi => ⟨(HK.out i (by rw [HL.out]; omega)).1, (HK.out i (by rw [HL.out]; omega)).2.2.1⟩)
    have hd0 := made_nodup l r N
    have hlen0 := madeK_length l r N
    generalize madeK l r N = S at *
    have HC := Lib.hid hc0
    have HD := Lib.hid hd0
    have HN := Lib.hid hlen0
    have HG1 := Lib.hid hg1
    clear hc0 hd0 hlen0 HS HL HK HR hN hn0 hn1 hle HCAP hg1
    have hown := Own.lift hown
    by_cases h0 : N = 0
    · subst h0
      obtain rfl : S = [] := List.eq_nil_of_length_eq_zero HN.out
      obtain ⟨a1, cap1, rfl, _, _, _⟩ := SdIn.ofOwn hown HN.out
      have HO := Lib.hid hown
      clear hown
      go_wp2_with fail
      refine (BestAny P r _ 0 [] rfl (by omega) w1 HO.out).mono ?_
      rintro e w2 ⟨rfl, hg2⟩
      rw [best_empty HP.out HRB.out]
      simp only [bestV, zSd]
      go_wp2_with fail
      refine (works_any _).mono ?_
      rintro e w3 ⟨rfl, hg3⟩
      go_wp2
      go_ret
      exact ⟨rfl, (HG1.out.trans hg2).trans ((Gr.alloc (Gr.refl w2) _).trans hg3)⟩
    · obtain ⟨B, hB, hmin⟩ := best_good HP.out HRB.out HC.out HD.out (by rw [HN.out]; exact h0)
      obtain ⟨q1, q2, q3⟩ := B
      have HB := Lib.hid hB
      have HM := Lib.hid hmin
      clear hB hmin
      obtain ⟨g, cap1, rfl, hgs⟩ : ∃ g cap1, v = .slice (some ⟨g, 0, none⟩) N cap1 ∧ (N ≤ cap1 ∧ cap1 ≤ maxLen ∧ g < w1.heap.size ∧ SidesAt w1 g 0 S) := by
        rcases hown.2 with ⟨_, h⟩ | ⟨g, cap1, cur, rfl, _⟩
        · exact absurd h h0
        · exact ⟨g, cap1, rfl, sides_of_own hown HN.out⟩
      obtain ⟨hn1, hm1, hg1, hsd⟩ := hgs
      have HIN : Hid (SdIn w1 (some ⟨g, 0, none⟩) N cap1 S) := Lib.hid ⟨HN.out, .inr ⟨_, rfl, fun _ => ⟨rfl, hg1, hsd⟩⟩⟩
      have HO := Lib.hid hown
      have hNpos : (0 : Int) < N := by omega
      unfold maxLen at hm1
      clear hown hsd
      go_wp2_with fail
      refine (BestAny P r _ N S HN.out (by omega) w1 HO.out).mono ?_
      rintro e w2 ⟨rfl, hg2⟩
      rw [HB.out]
      simp only [bestV]
      have HIN2 := Lib.hid (HIN.out.grow hg2)
      have HG2 := Lib.hid (HG1.out.trans hg2)
      clear hg2 hg1
      go_wp2_with fail
      refine (ContainsSd (some ⟨g, 0, none⟩) N cap1 S q1 q2 q3 (by omega) _ (HIN2.out.grow (by (repeat (first | (with_reducible exact Gr.refl _) | assumption | (with_reducible apply Gr.from_drew) | (with_reducible apply Gr.alloc) | (with_reducible apply Gr.drew) | (with_reducible refine Gr.trans ?_ (by assumption)) | (with_reducible refine Gr.setCell ?_ (by omega) _))))) HM.out.1).mono ?_
      rintro e w3 ⟨rfl, hg3⟩
      have HIN3 := Lib.hid ((HIN2.out.grow (Gr.alloc (Gr.refl w2) _)).grow hg3)
      have HG3 := Lib.hid (HG2.out.trans ((Gr.alloc (Gr.refl w2) _).trans hg3))
      have z0 := hg3.keep (show _ = some (Value.int .i64 q1) from cell_of_row _ w2.heap.size 0 #[.int .i64 q1, .int .i64 q2, .int .i64 q3] 23 (0, 0) (World.alloc_heap_new _ _))
      have z1 := hg3.keep (show _ = some (Value.int .i64 q2) from cell_of_row _ w2.heap.size 1 #[.int .i64 q1, .int .i64 q2, .int .i64 q3] 23 (0, 0) (World.alloc_heap_new _ _))
      have z2 := hg3.keep (show _ = some (Value.int .i64 q3) from cell_of_row _ w2.heap.size 2 #[.int .i64 q1, .int .i64 q2, .int .i64 q3] 23 (0, 0) (World.alloc_heap_new _ _))
      generalize w2.heap.size = b12 at *
      have HZ := Lib.hid (And.intro z0 (And.intro z1 z2))
      clear hg3 HIN HIN2 HO HG1 HG2 z0 z1 z2
      go_wp2_with fail
      go_loopw [69] (fun i wx => ∃ k : Nat, k ≤ N ∧ i = .int .i64 k ∧ Hid (Gr w3 wx)) (fun i _ => N - (intOf i).toNat)
      case atStart => exact ⟨0, by omega, rfl, Lib.hid (Gr.refl _)⟩
      case round =>
        obtain ⟨k, hk, rfl, H⟩ := hrel
        by_cases hlt : k < N
        · have hlt' : (k : Int) < N := by omega
          obtain ⟨b, off, he, hb, x0, x1, x2⟩ := HIN3.out.at k hlt
          obtain ⟨rfl, rfl⟩ : g = b ∧ 0 = off := by simpa using he
          have y0 := H.out.keep x0
          have y1 := H.out.keep x1
          have y2 := H.out.keep x2
          obtain ⟨s, hs⟩ : ∃ s, s = S[k]?.getD (0, 0, 0) := ⟨_, rfl⟩
          rw [← hs] at y0 y1 y2
          have HMEM : Hid (s ∈ S) := Lib.hid (by rw [hs, List.getElem?_eq_getElem (by rw [HN.out]; exact hlt)]; exact List.getElem_mem _)
          obtain ⟨s1, s2, s3⟩ := s
          simp only [Nat.zero_add] at y0 y1 y2
          have z0 := H.out.keep HZ.out.1
          have z1 := H.out.keep HZ.out.2.1
          have z2 := H.out.keep HZ.out.2.2
          clear x0 x1 x2 he hs hb
          have hb12 := World.block_lt_of_cell? wr ⟨b12, 0, none⟩ z0
          simp only at hb12
          go_wp2_with fail
          clear hb12
          refine (Compare_any P q1 q2 q3 s1 s2 s3 r _).mono ?_
          rintro e w4 ⟨rfl, hg4⟩
          rw [okC_of HP.out (HC.out _ HM.out.1) (HC.out _ HMEM.out), cmpC_of HP.out (HC.out _ HM.out.1) (HC.out _ HMEM.out)]
          have hgr : Gr wr w4 := (Gr.alloc (Gr.refl wr) _).trans hg4
          have zz0 := hgr.keep z0
          have zz1 := hgr.keep z1
          have zz2 := hgr.keep z2
          have s0 := hg4.keep (show _ = some (Value.int .i64 s1) from cell_of_row _ wr.heap.size 0 #[.int .i64 s1, .int .i64 s2, .int .i64 s3] 23 (0, 0) (World.alloc_heap_new _ _))
          have s0' := hg4.keep (show _ = some (Value.int .i64 s2) from cell_of_row _ wr.heap.size 1 #[.int .i64 s1, .int .i64 s2, .int .i64 s3] 23 (0, 0) (World.alloc_heap_new _ _))
          have s0'' := hg4.keep (show _ = some (Value.int .i64 s3) from cell_of_row _ wr.heap.size 2 #[.int .i64 s1, .int .i64 s2, .int .i64 s3] 23 (0, 0) (World.alloc_heap_new _ _))
          have HG4 := Lib.hid (H.out.trans hgr)
          clear hg4 hgr y0 y1 y2 z0 z1 z2
          generalize wr.heap.size = bs at *
          by_cases hsl : s1 = q1
          · have e0 := slot_inj HD.out _ HMEM.out _ HM.out.1 hsl
            obtain ⟨rfl, rfl, rfl⟩ : s1 = q1 ∧ s2 = q2 ∧ s3 = q3 := by simpa using e0
            rw [pol_self HP.out (HC.out _ HM.out.1)]
            clear hsl e0
            go_wp2
            go_roundw
            case rel => exact ⟨k + 1, by omega, by go_num, HG4⟩
            case measure => simp [intOf]; omega
          · have HLT : Hid (polC P q1 q2 q3 s1 s2 s3 r < 0) := Lib.hid (by have := HM.out.2 _ HMEM.out hsl; exact (show polS P r (q1, q2, q3) (s1, s2, s3) < 0 by omega))
            rw [HM.out.2 _ HMEM.out hsl]
            have hcb := beq_false_of_ne hsl
            have HCK := Lib.hid (And.intro (HC.out _ HM.out.1) (HC.out _ HMEM.out))
            go_wp2_with fail
            refine (less_any P q1 q2 q3 s1 s2 s3 r HP.out HCK.out.1 HCK.out.2 _).mono ?_
            rintro e w5 ⟨rfl, hg5⟩
            have hgk : Gr w4 w5 := by (repeat (first | (with_reducible exact Gr.refl _) | assumption | (with_reducible apply Gr.from_drew) | (with_reducible apply Gr.alloc) | (with_reducible apply Gr.drew) | (with_reducible refine Gr.trans ?_ (by assumption)) | (with_reducible refine Gr.setCell ?_ (by omega) _)))
            have HG5 := Lib.hid (HG4.out.trans hgk)
            have y0 := hgk.keep zz0
            have y1 := hgk.keep zz1
            have y2 := hgk.keep zz2
            have x0 := hgk.keep s0
            have x1 := hgk.keep s0'
            have x2 := hgk.keep s0''
            rw [decide_eq_true HLT.out]
            clear zz0 zz1 zz2 s0 s0' s0'' hg5 hgk
            go_wp2
            go_roundw
            case rel => exact ⟨k + 1, by omega, by go_num, HG5⟩
            case measure => simp [intOf]; omega
        · have hlt' : ¬ (k : Int) < N := by omega
          obtain rfl : k = N := by omega
          obtain ⟨kt, eK⟩ : ∃ kt : Nat, (T : Int) % k = kt := ⟨T % k, by simp⟩
          have hkt : kt < k := by have := Int.emod_lt_of_pos (T : Int) hNpos; omega
          have HIN4 := Lib.hid (HIN3.out.grow H.out)
          have HG4 := Lib.hid (HG3.out.trans H.out)
          have hK' : (kt : Int) ≤ k := by omega
          have hKc : (k : Int) ≤ cap1 := by omega
          clear HIN3 HG3 hown
          go_wp2
          have HG := Gr.refl wr.drew
          refine wp_region_flo (fun _ => False) [20] [] (by kernel_rfl) (by kernel_rfl) (fun _ h => h.elim) ?_
          refine flo_seg 4 rfl ?_
          simp only [List.take_succ_cons, List.take_zero, List.drop_succ_cons, List.drop_zero]
          repeat (go_big_quiet_step (fail))
          refine wpQuiet_nil ?_
          refine flo_effg rfl rfl rfl (fun wg1 hgg1 K hK => ?_)
          (try replace HG := Gr.trans (Gr.trans HG (by (repeat (first | (with_reducible exact Gr.refl _) | assumption | (with_reducible apply Gr.from_drew) | (with_reducible apply Gr.alloc) | (with_reducible apply Gr.drew) | (with_reducible refine Gr.trans ?_ (by assumption)) | (with_reducible refine Gr.setCell ?_ (by omega) _))))) hgg1)
          go_wp2_with ((go_at_call 22; refine (CloneSd (some ⟨g, kt * 3, none⟩) (k - kt) (cap1 - kt) (S.drop kt) (by omega) _ ((HIN4.out.grow (Gr.of_drew HG)).drop hkt _)).mono ?_; rintro e w5 ⟨v5, rfl, hown5, hfresh5, hg5⟩; have HOWN5 := Lib.hid hown5; have HFR5 := Lib.hid hfresh5; have HG5 := Lib.hid hg5; clear hown5 hfresh5))
          refine ⟨by (first | (refine Gr.mdh ?_ _; (repeat (first | (with_reducible exact Gr.refl _) | assumption | (with_reducible apply Gr.from_drew) | (with_reducible apply Gr.alloc) | (with_reducible apply Gr.drew) | (with_reducible refine Gr.trans ?_ (by assumption)) | (with_reducible refine Gr.setCell ?_ (by omega) _))); done) | (repeat (first | (with_reducible exact Mdh.refl _ _) | (with_reducible refine Mdh.setCell ?_ (by simp) _) | (with_reducible refine Mdh.setNew ?_ (by simp) _) | (with_reducible apply Mdh.alloc) | (with_reducible apply Mdh.drew) | (with_reducible refine Mdh.gr ?_ (by assumption))))), ?_⟩
          refine flo_seg 3 rfl ?_
          simp only [List.take_succ_cons, List.take_zero, List.drop_succ_cons, List.drop_zero]
          repeat (go_big_quiet_step (fail))
          refine wpQuiet_nil ?_
          refine flo_effg rfl rfl rfl (fun wg2 hgg2 K hK => ?_)
          (try replace HG := Gr.trans (Gr.trans HG (by (repeat (first | (with_reducible exact Gr.refl _) | assumption | (with_reducible apply Gr.from_drew) | (with_reducible apply Gr.alloc) | (with_reducible apply Gr.drew) | (with_reducible refine Gr.trans ?_ (by assumption)) | (with_reducible refine Gr.setCell ?_ (by omega) _))))) hgg2)
          refine wp_append_own _ (.tmp 120) (.tmp 123) 42 rfl 0 23 i0 _ 3 24 Try.underlying42 hi hz0 hz1 hz2 rfl (by decide) v5 (k - kt) (rowS (S.drop kt)) rfl (HOWN5.out.gr (by (repeat (first | (with_reducible exact Gr.refl _) | assumption | (with_reducible apply Gr.from_drew) | (with_reducible apply Gr.alloc) | (with_reducible apply Gr.drew) | (with_reducible refine Gr.trans ?_ (by assumption)) | (with_reducible refine Gr.setCell ?_ (by omega) _))))) ⟨g, 0, none⟩ kt cap1 (rowS (S.take kt)) rfl (rowS_take_len S kt (by rw [HN.out]; omega)) ((HIN4.out.grow (Gr.of_drew HG)).take (by omega)) (rowS_one _) (by simp only [maxLen]; omega) (by omega) (Nat.zero_le _) (fun v6 w6 ho6 hg6 _ => ?_); rw [← rowS_app] at ho6; (have HO6 : Hid (Own w6 23 3 v6 (k - kt + kt) (rowS (S.drop kt ++ S.take kt))) := Lib.hid ho6); (have HM6 := Lib.hid (Mdh.grown (Mdh.refl (fun q => False ∨ False ∨ wg1.heap.size ≤ q ∧ q < w5.heap.size) wg2) hg6 (fun q hq => .inr (.inr ⟨HFR5.out q hq, HOWN5.out.lt hq⟩)))); (replace HG := Gr.md HG HM6.out (fun q hq => by have := hgg1.sz; rcases hq with h | h | ⟨h, _⟩ <;> first | exact h.elim | omega)); clear ho6 hg6; go_wp2; refine ⟨HM6.out.mono (fun q hq => by simpa using hq), ?_⟩
          refine flo_seg 1 rfl ?_
          simp only [List.take_succ_cons, List.take_zero, List.drop_succ_cons, List.drop_zero]
          repeat (go_big_quiet_step (fail))
          refine wpQuiet_nil ?_
          refine flo_effg rfl rfl rfl (fun wg3 hgg3 K hK => ?_)
          (try replace HG := Gr.trans (Gr.trans HG (by (repeat (first | (with_reducible exact Gr.refl _) | assumption | (with_reducible apply Gr.from_drew) | (with_reducible apply Gr.alloc) | (with_reducible apply Gr.drew) | (with_reducible refine Gr.trans ?_ (by assumption)) | (with_reducible refine Gr.setCell ?_ (by omega) _))))) hgg3)
          go_wp2_with ((go_at_call 21; go_must (refine (BestAny P r _ (k - kt + kt) (S.drop kt ++ S.take kt) (by rw [List.length_append, List.length_drop, List.length_take, HN.out]; omega) (by omega) _ (HO6.out.gr (by (repeat (first | (with_reducible exact Gr.refl _) | assumption | (with_reducible apply Gr.from_drew) | (with_reducible apply Gr.alloc) | (with_reducible apply Gr.drew) | (with_reducible refine Gr.trans ?_ (by assumption)) | (with_reducible refine Gr.setCell ?_ (by omega) _)))))).mono ?_); rintro e w7 ⟨rfl, hg7⟩; go_must (rw [best_turned HP.out HRB.out HC.out HD.out (by rw [HN.out]; exact h0), HB.out]); simp only [bestV]; replace HG := Gr.trans HG hg7))
          refine ⟨by (first | (refine Gr.mdh ?_ _; (repeat (first | (with_reducible exact Gr.refl _) | assumption | (with_reducible apply Gr.from_drew) | (with_reducible apply Gr.alloc) | (with_reducible apply Gr.drew) | (with_reducible refine Gr.trans ?_ (by assumption)) | (with_reducible refine Gr.setCell ?_ (by omega) _))); done) | (repeat (first | (with_reducible exact Mdh.refl _ _) | (with_reducible refine Mdh.setCell ?_ (by simp) _) | (with_reducible refine Mdh.setNew ?_ (by simp) _) | (with_reducible apply Mdh.alloc) | (with_reducible apply Mdh.drew) | (with_reducible refine Mdh.gr ?_ (by assumption))))), ?_⟩
          refine flo_seg 4 rfl ?_
          simp only [List.take_succ_cons, List.take_zero, List.drop_succ_cons, List.drop_zero]
          repeat (go_big_quiet_step (fail))
          refine wpQuiet_nil ?_
          refine flo_float (fun b => .pointer (some ⟨b, 0, none⟩)) (.cells #[.int .i64 0, .int .i64 0, .int .i64 0] 23) rfl rfl (fun w => by kernel_rfl) (fun wf1 fb1 hgf1 fl1 fh1 ft1 fo1 => ?_)
          (try replace HG := Gr.trans (Gr.trans HG (by (repeat (first | (with_reducible exact Gr.refl _) | assumption | (with_reducible apply Gr.from_drew) | (with_reducible apply Gr.alloc) | (with_reducible apply Gr.drew) | (with_reducible refine Gr.trans ?_ (by assumption)) | (with_reducible refine Gr.setCell ?_ (by omega) _))))) hgf1)
          have fc1 := (cellsOf fo1).1
          have ff1 := (cellsOf fo1).2
          refine flo_eff rfl rfl rfl rfl (fun K hK => ?_)
          go_wp2
          refine ⟨by (first | (refine Gr.mdh ?_ _; (repeat (first | (with_reducible exact Gr.refl _) | assumption | (with_reducible apply Gr.from_drew) | (with_reducible apply Gr.alloc) | (with_reducible apply Gr.drew) | (with_reducible refine Gr.trans ?_ (by assumption)) | (with_reducible refine Gr.setCell ?_ (by omega) _))); done) | (repeat (first | (with_reducible exact Mdh.refl _ _) | (with_reducible refine Mdh.setCell ?_ (by simp) _) | (with_reducible refine Mdh.setNew ?_ (by simp) _) | (with_reducible apply Mdh.alloc) | (with_reducible apply Mdh.drew) | (with_reducible refine Mdh.gr ?_ (by assumption))))), ?_⟩
          refine flo_seg 2 rfl ?_
          simp only [List.take_succ_cons, List.take_zero, List.drop_succ_cons, List.drop_zero]
          repeat (go_big_quiet_step (fail))
          refine wpQuiet_nil ?_
          refine flo_nil ?_
          have hb3 := blk3 (u := .int .i64 q1) (v := .int .i64 q2) (s := .int .i64 q3) fo1
          have HG8 : Gr wr (((wf1.setCell ⟨fb1, 0, none⟩ (.int .i64 q1)).setCell ⟨fb1, 1, none⟩ (.int .i64 q2)).setCell ⟨fb1, 2, none⟩ (.int .i64 q3)) := (((Gr.of_drew HG).setCell fl1 _).setCell fl1 _).setCell fl1 _
          generalize ((wf1.setCell ⟨fb1, 0, none⟩ (.int .i64 q1)).setCell ⟨fb1, 1, none⟩ (.int .i64 q2)).setCell ⟨fb1, 2, none⟩ (.int .i64 q3) = w8 at *
          have c0 := ((cellsOf hb3).1 0).trans (show _ = some (Value.int .i64 q1) from rfl)
          have c1 := ((cellsOf hb3).1 1).trans (show _ = some (Value.int .i64 q2) from rfl)
          have c2 := ((cellsOf hb3).1 2).trans (show _ = some (Value.int .i64 q3) from rfl)
          have z0 := (H.out.trans HG8).keep HZ.out.1
          have z1 := (H.out.trans HG8).keep HZ.out.2.1
          have z2 := (H.out.trans HG8).keep HZ.out.2.2
          have HG9 := Lib.hid (HG4.out.trans HG8)
          clear hgg1 hg5 hgg2 hgg3 hg7 hgf1 fl1 fh1 ft1 fo1 HG fc1 ff1 hb3 HG8
          go_wp2_with fail
          refine (works_any _).mono ?_
          rintro e w9 ⟨rfl, hg9⟩
          go_wp2
          go_ret
          exact ⟨rfl, HG9.out.trans hg9⟩
end Go.Proofs.Ytgpecjnnepocmaa
