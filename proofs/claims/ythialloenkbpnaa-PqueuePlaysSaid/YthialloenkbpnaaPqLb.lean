/- PqueuePlays: a size below 1. -/
import Derived.Test.YthialloenkbpnaaPqL8
set_option linter.unusedVariables false
set_option linter.unusedSimpArgs false
namespace Go.Proofs.Ythialloenkbpnaa
open Go.RowKit Go.Shelf
attribute [local go_sem] OvM cell_ovm obj_ovm
attribute [local go_sem] Oper.semAt_some
set_option maxRecDepth 100000 in
set_option maxHeartbeats 16000000 in
theorem Plays_bad1 (size : Int) (a : Option Addr) (len cap : Nat) (l : List Stq) (id : Int) (w : World) (hl : l.length = len) (hle : len ≤ cap) (hcap : cap ≤ maxLen) (hs : StepsAt w a l) (hlen : (len : Int) ≤ 150) (hz2 : size < 1) :
    Calls Try.prog 7 #[.int .i64 size, .slice a len cap, .int .i64 id] w fun e w' => e = .returned (.bool true) ∧ Gr w w' := by
  refine calls_of_wp_marks Try.func7 rfl ?_
  simp only [Try.ntmps7, List.size_toArray, List.length_cons, List.length_nil, Nat.reduceAdd, Nat.reduceSub, Array.replicate_succ, Array.replicate_zero, List.push_toArray, List.append_toArray, List.nil_append, List.cons_append]
  obtain ⟨wa, hwa⟩ : ∃ wa, wa = w.alloc (.cells #[.bool false] 4) := ⟨_, rfl⟩
  obtain ⟨br, hbr⟩ : ∃ b, b = w.heap.size := ⟨_, rfl⟩
  have HWA : Hid (Gr w wa ∧ wa.heap[br]? = some (.cells #[.bool false] 4) ∧ br < wa.heap.size ∧ w.heap.size ≤ br ∧ wa = w.alloc (.cells #[.bool false] 4) ∧ br = w.heap.size) := Lib.hid ⟨by rw [hwa]; exact (Gr.refl w).alloc _, by rw [hwa, hbr]; exact blkNew _ _, by rw [hwa, hbr]; simp, by omega, hwa, hbr⟩
  clear hwa hbr
  have HS := Lib.hid hs
  have HL := Lib.hid hl
  unfold maxLen at hcap
  clear hs hl
  have hq1 : ¬ 40 < size := by omega
  obtain ⟨z, hzz⟩ : ∃ z : Bool, z = false := ⟨_, rfl⟩
  obtain ⟨n, HN⟩ : ∃ n : Nat, Hid (n ≤ 1024) := ⟨0, Lib.hid (by omega)⟩
  have HZZ := Lib.hid hzz
  have HSZ2 : Hid (size < 1 ∨ 1024 < size) := Lib.hid (by omega)
  clear hzz
  go_wp2_with fail
  rw [← HWA.out.2.2.2.2.1, ← HWA.out.2.2.2.2.2]
  refine (New_badL size wa HSZ2.out).mono ?_
  rintro e w1 ⟨rfl, rfl⟩
  go_wp2_with fail
  refine (New_badR size wa HSZ2.out).mono ?_
  rintro e w2 ⟨rfl, rfl⟩
  have H0 : Hid (PS wa wa none none z n (fun _ => none) (fun _ => False)) := Lib.hid ⟨.inr ⟨HZZ.out, rfl, rfl, rfl, rfl, fun _ h => h⟩, Gr.refl _⟩
  go_wp2_with fail
  go_loopw [7, 9, 11] (fun t7 t9 t11 wx => ∃ (j : Nat) (pq pr : Option Addr) (M : Nat → Option Int) (W : Nat → Prop), j ≤ len ∧ t7 = .pointer pq ∧ t9 = .pointer pr ∧ t11 = .int .i64 j ∧ Hid (PS wa wx pq pr z n M W)) (fun _ _ t11 _ => len - (intOf t11).toNat)
  case atStart => exact ⟨0, _, _, _, _, by omega, rfl, rfl, rfl, H0⟩
  case round =>
    obtain ⟨j, pq, pr, M, W, hj, rfl, rfl, rfl, H⟩ := hrel
    clear H0
    by_cases hlt : j < len
    · have hlt' : (j : Int) < len := by omega
      obtain ⟨gs, off, rfl, hgs, c0, c1, c2⟩ := HS.out j (by rw [HL.out]; exact hlt)
      have e0 := (HWA.out.1.trans H.out.g).keep c0
      have e1 := (HWA.out.1.trans H.out.g).keep c1
      have e2 := (HWA.out.1.trans H.out.g).keep c2
      generalize l[j]?.getD (0, 0, 0) = x at *
      obtain ⟨d, i, p⟩ := x
      simp only at e0 e1 e2
      clear c0 c1 c2 hgs
      by_cases h0 : d = 0
      · subst h0
        go_wp2_with fail
        obtain ⟨u, hu⟩ : ∃ u, u = wr.alloc (.cells #[.int .i64 0, .int .i64 i, .int .i64 p] 66) := ⟨_, rfl⟩
        have xb : u.heap[wr.heap.size]? = some (.cells #[.int .i64 0, .int .i64 i, .int .i64 p] 66) := by rw [hu]; exact blkNew _ _
        rw [← hu]
        have HU : Hid (PS wa u pq pr z n M W) := Lib.hid (by rw [hu]; exact ⟨H.out.b.gr ((Gr.refl _).alloc _), H.out.g.alloc _⟩)
        have HX : Hid (u.heap[wr.heap.size]? = some (.cells #[.int .i64 0, .int .i64 i, .int .i64 p] 66) ∧ ∀ k, W k → k ≠ wr.heap.size) := Lib.hid ⟨xb, fun k hk => by have := H.out.b.lt k hk; omega⟩
        have y0 := ((cellsOf xb).1 0).trans (show _ = some (Value.int .i64 0) from rfl)
        have y1 := ((cellsOf xb).1 1).trans (show _ = some (Value.int .i64 i) from rfl)
        have y2 := ((cellsOf xb).1 2).trans (show _ = some (Value.int .i64 p) from rfl)
        have nW : ¬ W wr.heap.size := fun h => HX.out.2 _ h rfl
        have hbx := blkLt xb
        clear hu e0 e1 e2 H xb
        generalize wr.heap.size = bx at *
        go_wp2_with fail
        refine wp_region_flo (W) [] [] (by kernel_rfl) (by kernel_rfl) (fun k hk => HU.out.b.lt k hk) ?_
        refine flo_seg 5 rfl ?_
        simp only [List.take_succ_cons, List.take_zero, List.drop_succ_cons, List.drop_zero]
        repeat (go_big_quiet_step (fail))
        refine wpQuiet_nil ?_
        refine flo_eff rfl rfl rfl rfl (fun K hK => ?_)
        go_wp2_with (go_at_call 32; refine (pushQ wa u.drew pq pr z n M M W HU.out.g.sz i p (HU.out.b.gr (Gr.drew (Gr.refl u)))).mono ?_; rintro e w3 ⟨rfl, W', hb3, hm3, hw3⟩); (have HB3 := Lib.hid (And.intro hb3 (And.intro hm3 hw3))); clear hb3 hm3 hw3; refine ⟨HB3.out.2.1.mono (fun k hk => .inl hk), ?_⟩
        refine flo_seg 5 rfl ?_
        simp only [List.take_succ_cons, List.take_zero, List.drop_succ_cons, List.drop_zero]
        repeat (go_big_quiet_step (fail))
        refine wpQuiet_nil ?_
        refine flo_eff rfl rfl rfl rfl (fun K hK => ?_)
        go_wp2_with (go_at_call 33; refine (pushR wa _ pq pr z n _ M W' i p HB3.out.1).mono ?_; rintro e w4 ⟨rfl, hb4, hm4⟩); (have HB4 := Lib.hid (And.intro hb4 hm4)); clear hb4 hm4; refine ⟨HB4.out.2.mono (fun k hk => (HB3.out.2.2 k hk).elim .inl (fun h => .inr (.inr ⟨h, HB3.out.1.lt k hk⟩))), ?_⟩
        refine flo_seg 1 rfl ?_
        simp only [List.take_succ_cons, List.take_zero, List.drop_succ_cons, List.drop_zero]
        repeat (go_big_quiet_step (fail))
        refine wpQuiet_nil ?_
        refine flo_nil ?_
        have hm34 : Mdh (fun k => W k ∨ u.heap.size ≤ k) u w4 := (((Mdh.refl _ u).gr (by (repeat (first | (with_reducible exact Gr.refl _) | assumption | (with_reducible apply Gr.from_drew) | (with_reducible apply Gr.alloc) | (with_reducible apply Gr.drew) | (with_reducible refine Gr.trans ?_ (by assumption)) | (with_reducible refine Gr.setCell ?_ (by omega) _))))).trans (HB3.out.2.1.mono (fun k h => .inl h))).trans (HB4.out.2.mono (fun k h => HB3.out.2.2 k h))
        have PT : Hid (PS wa w4 pq pr z n (pushM z n M i p) W') := Lib.hid ⟨HB4.out.1, HU.out.g.md hm34 (fun k hk => hk.elim (HU.out.new k) (fun h => Nat.le_trans HU.out.g.sz h))⟩
        replace y1 := (hm34.keep y1 (fun h => h.elim nW (fun h => by omega)))
        clear y0 y2 hm34 HB3 HB4 HU nW
        generalize hM' : pushM z n M i p = M' at *
        clear hM'
        have HG := Gr.refl w4
        go_wp2_with (first
          | (go_at_call 42; refine (alike_any wa _ pq pr z n M' W' _ (PT.out.b.gr HG)).mono ?_; rintro e w1 ⟨rfl, hg1⟩; replace y1 := hg1.keep y1; replace HG := HG.trans hg1; clear hg1)
          | fail)
        go_roundw
        case rel => exact ⟨j + 1, pq, pr, M', W', by omega, rfl, rfl, by go_num, Lib.hid ⟨PT.out.b.gr HG, PT.out.g.trans HG⟩⟩
        case measure => simp [intOf]; omega
      have b0 := beq_false_of_ne h0
      by_cases h1 : d = 1
      · subst h1
        clear b0 h0
        go_wp2_with fail
        obtain ⟨u, hu⟩ : ∃ u, u = wr.alloc (.cells #[.int .i64 1, .int .i64 i, .int .i64 p] 66) := ⟨_, rfl⟩
        have xb : u.heap[wr.heap.size]? = some (.cells #[.int .i64 1, .int .i64 i, .int .i64 p] 66) := by rw [hu]; exact blkNew _ _
        rw [← hu]
        have HU : Hid (PS wa u pq pr z n M W) := Lib.hid (by rw [hu]; exact ⟨H.out.b.gr ((Gr.refl _).alloc _), H.out.g.alloc _⟩)
        have HX : Hid (u.heap[wr.heap.size]? = some (.cells #[.int .i64 1, .int .i64 i, .int .i64 p] 66) ∧ ∀ k, W k → k ≠ wr.heap.size) := Lib.hid ⟨xb, fun k hk => by have := H.out.b.lt k hk; omega⟩
        have y0 := ((cellsOf xb).1 0).trans (show _ = some (Value.int .i64 1) from rfl)
        have y1 := ((cellsOf xb).1 1).trans (show _ = some (Value.int .i64 i) from rfl)
        have y2 := ((cellsOf xb).1 2).trans (show _ = some (Value.int .i64 p) from rfl)
        have nW : ¬ W wr.heap.size := fun h => HX.out.2 _ h rfl
        have hbx := blkLt xb
        clear hu e0 e1 e2 H xb
        generalize wr.heap.size = bx at *
        go_wp2_with fail
        refine wp_region_flo (W) [] [] (by kernel_rfl) (by kernel_rfl) (fun k hk => HU.out.b.lt k hk) ?_
        refine flo_seg 5 rfl ?_
        simp only [List.take_succ_cons, List.take_zero, List.drop_succ_cons, List.drop_zero]
        repeat (go_big_quiet_step (fail))
        refine wpQuiet_nil ?_
        refine flo_eff rfl rfl rfl rfl (fun K hK => ?_)
        go_wp2_with (go_at_call 34; refine (chgQ wa u.drew pq pr z n M M W HU.out.g.sz i p (HU.out.b.gr (Gr.drew (Gr.refl u)))).mono ?_; rintro e w3 ⟨rfl, W', hb3, hm3, hw3⟩); (have HB3 := Lib.hid (And.intro hb3 (And.intro hm3 hw3))); clear hb3 hm3 hw3; refine ⟨HB3.out.2.1.mono (fun k hk => .inl hk), ?_⟩
        refine flo_seg 5 rfl ?_
        simp only [List.take_succ_cons, List.take_zero, List.drop_succ_cons, List.drop_zero]
        repeat (go_big_quiet_step (fail))
        refine wpQuiet_nil ?_
        refine flo_eff rfl rfl rfl rfl (fun K hK => ?_)
        go_wp2_with (go_at_call 35; refine (chgR wa _ pq pr z n _ M W' i p HB3.out.1).mono ?_; rintro e w4 ⟨rfl, hb4, hm4⟩); (have HB4 := Lib.hid (And.intro hb4 hm4)); clear hb4 hm4; refine ⟨HB4.out.2.mono (fun k hk => (HB3.out.2.2 k hk).elim .inl (fun h => .inr (.inr ⟨h, HB3.out.1.lt k hk⟩))), ?_⟩
        refine flo_seg 1 rfl ?_
        simp only [List.take_succ_cons, List.take_zero, List.drop_succ_cons, List.drop_zero]
        repeat (go_big_quiet_step (fail))
        refine wpQuiet_nil ?_
        refine flo_nil ?_
        have hm34 : Mdh (fun k => W k ∨ u.heap.size ≤ k) u w4 := (((Mdh.refl _ u).gr (by (repeat (first | (with_reducible exact Gr.refl _) | assumption | (with_reducible apply Gr.from_drew) | (with_reducible apply Gr.alloc) | (with_reducible apply Gr.drew) | (with_reducible refine Gr.trans ?_ (by assumption)) | (with_reducible refine Gr.setCell ?_ (by omega) _))))).trans (HB3.out.2.1.mono (fun k h => .inl h))).trans (HB4.out.2.mono (fun k h => HB3.out.2.2 k h))
        have PT : Hid (PS wa w4 pq pr z n (chgM z n M i p) W') := Lib.hid ⟨HB4.out.1, HU.out.g.md hm34 (fun k hk => hk.elim (HU.out.new k) (fun h => Nat.le_trans HU.out.g.sz h))⟩
        replace y1 := (hm34.keep y1 (fun h => h.elim nW (fun h => by omega)))
        clear y0 y2 hm34 HB3 HB4 HU nW
        generalize hM' : chgM z n M i p = M' at *
        clear hM'
        have HG := Gr.refl w4
        go_wp2_with (first
          | (go_at_call 42; refine (alike_any wa _ pq pr z n M' W' _ (PT.out.b.gr HG)).mono ?_; rintro e w1 ⟨rfl, hg1⟩; replace y1 := hg1.keep y1; replace HG := HG.trans hg1; clear hg1)
          | fail)
        go_roundw
        case rel => exact ⟨j + 1, pq, pr, M', W', by omega, rfl, rfl, by go_num, Lib.hid ⟨PT.out.b.gr HG, PT.out.g.trans HG⟩⟩
        case measure => simp [intOf]; omega
      have b1 := beq_false_of_ne h1
      by_cases h2 : d = 2
      · subst h2
        clear b0 h0 b1 h1
        obtain ⟨x, hx⟩ : ∃ x, (prV z n M i).getD 0 = x := ⟨_, rfl⟩
        obtain ⟨y, hy⟩ : ∃ y, (prV z n M i).isSome = y := ⟨_, rfl⟩
        have F1 : Hid (prT (prV z n M i) = .tuple #[.int .i64 x, .bool y]) := Lib.hid (by rw [prT, hx, hy])
        clear hx hy
        go_wp2_with fail
        obtain ⟨u, hu⟩ : ∃ u, u = wr.alloc (.cells #[.int .i64 2, .int .i64 i, .int .i64 p] 66) := ⟨_, rfl⟩
        have xb : u.heap[wr.heap.size]? = some (.cells #[.int .i64 2, .int .i64 i, .int .i64 p] 66) := by rw [hu]; exact blkNew _ _
        rw [← hu]
        have HU : Hid (PS wa u pq pr z n M W) := Lib.hid (by rw [hu]; exact ⟨H.out.b.gr ((Gr.refl _).alloc _), H.out.g.alloc _⟩)
        have HX : Hid (u.heap[wr.heap.size]? = some (.cells #[.int .i64 2, .int .i64 i, .int .i64 p] 66) ∧ ∀ k, W k → k ≠ wr.heap.size) := Lib.hid ⟨xb, fun k hk => by have := H.out.b.lt k hk; omega⟩
        have y0 := ((cellsOf xb).1 0).trans (show _ = some (Value.int .i64 2) from rfl)
        have y1 := ((cellsOf xb).1 1).trans (show _ = some (Value.int .i64 i) from rfl)
        have y2 := ((cellsOf xb).1 2).trans (show _ = some (Value.int .i64 p) from rfl)
        have nW : ¬ W wr.heap.size := fun h => HX.out.2 _ h rfl
        have hbx := blkLt xb
        clear hu e0 e1 e2 H xb
        generalize wr.heap.size = bx at *
        go_wp2_with fail
        refine (remQ wa _ pq pr z n M M W HU.out.g.sz i HU.out.b).mono ?_
        rintro e w3 ⟨rfl, W', hb3, hm3, hw3⟩
        rw [F1.out]
        have HB3 := Lib.hid (And.intro hb3 (And.intro hm3 hw3))
        replace y1 := hm3.keep y1 nW
        clear hb3 hm3 hw3
        go_wp2_with fail
        refine (remR wa _ pq pr z n _ M W' i HB3.out.1).mono ?_
        rintro e w4 ⟨rfl, hb4, hm4⟩
        rw [F1.out]
        have hm34 : Mdh (fun k => W k ∨ u.heap.size ≤ k) u w4 := (HB3.out.2.1.mono (fun k h => .inl h)).trans (hm4.mono (fun k h => HB3.out.2.2 k h))
        have PT : Hid (PS wa w4 pq pr z n (remM z n M i) W') := Lib.hid ⟨hb4, HU.out.g.md hm34 (fun k hk => hk.elim (HU.out.new k) (fun h => Nat.le_trans HU.out.g.sz h))⟩
        replace y1 := hm4.keep y1 (fun h => (HB3.out.2.2 bx h).elim nW (fun h => by omega))
        clear y0 y2 hm34 HB3 hb4 hm4 HU nW
        generalize hM' : remM z n M i = M' at *
        clear hM'
        have HG := Gr.refl w4
        go_wp2_with (first
          | (go_at_call 42; refine (alike_any wa _ pq pr z n M' W' _ (PT.out.b.gr HG)).mono ?_; rintro e w1 ⟨rfl, hg1⟩; replace y1 := hg1.keep y1; replace HG := HG.trans hg1; clear hg1)
          | fail)
        go_roundw
        case rel => exact ⟨j + 1, pq, pr, M', W', by omega, rfl, rfl, by go_num, Lib.hid ⟨PT.out.b.gr HG, PT.out.g.trans HG⟩⟩
        case measure => simp [intOf]; omega
      have b2 := beq_false_of_ne h2
      by_cases h3 : d = 3
      · subst h3
        clear b0 h0 b1 h1 b2 h2
        obtain ⟨a0, p0, ok, hk⟩ := pk_ex n M H.out.b.out
        have HK := Lib.hid hk
        clear hk
        go_wp2_with fail
        obtain ⟨u, hu⟩ : ∃ u, u = wr.alloc (.cells #[.int .i64 3, .int .i64 i, .int .i64 p] 66) := ⟨_, rfl⟩
        have xb : u.heap[wr.heap.size]? = some (.cells #[.int .i64 3, .int .i64 i, .int .i64 p] 66) := by rw [hu]; exact blkNew _ _
        rw [← hu]
        have HU : Hid (PS wa u pq pr z n M W) := Lib.hid (by rw [hu]; exact ⟨H.out.b.gr ((Gr.refl _).alloc _), H.out.g.alloc _⟩)
        have HX : Hid (u.heap[wr.heap.size]? = some (.cells #[.int .i64 3, .int .i64 i, .int .i64 p] 66) ∧ ∀ k, W k → k ≠ wr.heap.size) := Lib.hid ⟨xb, fun k hk => by have := H.out.b.lt k hk; omega⟩
        have y0 := ((cellsOf xb).1 0).trans (show _ = some (Value.int .i64 3) from rfl)
        have y1 := ((cellsOf xb).1 1).trans (show _ = some (Value.int .i64 i) from rfl)
        have y2 := ((cellsOf xb).1 2).trans (show _ = some (Value.int .i64 p) from rfl)
        have nW : ¬ W wr.heap.size := fun h => HX.out.2 _ h rfl
        have hbx := blkLt xb
        clear hu e0 e1 e2 H xb
        generalize wr.heap.size = bx at *
        go_wp2_with fail
        refine (popQ wa _ pq pr z n M M W HU.out.g.sz a0 p0 ok HK.out HU.out.b).mono ?_
        rintro e w3 ⟨rfl, W', hb3, hm3, hw3⟩
        skip
        have HB3 := Lib.hid (And.intro hb3 (And.intro hm3 hw3))
        replace y1 := hm3.keep y1 nW
        clear hb3 hm3 hw3
        go_wp2_with fail
        refine (popR wa _ pq pr z n _ M W' a0 p0 ok HK.out HB3.out.1).mono ?_
        rintro e w4 ⟨rfl, hb4, hm4⟩
        skip
        have hm34 : Mdh (fun k => W k ∨ u.heap.size ≤ k) u w4 := (HB3.out.2.1.mono (fun k h => .inl h)).trans (hm4.mono (fun k h => HB3.out.2.2 k h))
        have PT : Hid (PS wa w4 pq pr z n (popM M a0 ok) W') := Lib.hid ⟨hb4, HU.out.g.md hm34 (fun k hk => hk.elim (HU.out.new k) (fun h => Nat.le_trans HU.out.g.sz h))⟩
        replace y1 := hm4.keep y1 (fun h => (HB3.out.2.2 bx h).elim nW (fun h => by omega))
        clear y0 y2 hm34 HB3 hb4 hm4 HU nW
        generalize hM' : popM M a0 ok = M' at *
        clear hM'
        have HG := Gr.refl w4
        go_wp2_with (first
          | (go_at_call 42; refine (alike_any wa _ pq pr z n M' W' _ (PT.out.b.gr HG)).mono ?_; rintro e w1 ⟨rfl, hg1⟩; replace y1 := hg1.keep y1; replace HG := HG.trans hg1; clear hg1)
          | fail)
        go_roundw
        case rel => exact ⟨j + 1, pq, pr, M', W', by omega, rfl, rfl, by go_num, Lib.hid ⟨PT.out.b.gr HG, PT.out.g.trans HG⟩⟩
        case measure => simp [intOf]; omega
      have b3 := beq_false_of_ne h3
      by_cases h4 : d = 4
      · subst h4
        clear b0 h0 b1 h1 b2 h2 b3 h3
        go_wp2_with fail
        obtain ⟨u, hu⟩ : ∃ u, u = wr.alloc (.cells #[.int .i64 4, .int .i64 i, .int .i64 p] 66) := ⟨_, rfl⟩
        have xb : u.heap[wr.heap.size]? = some (.cells #[.int .i64 4, .int .i64 i, .int .i64 p] 66) := by rw [hu]; exact blkNew _ _
        rw [← hu]
        have HU : Hid (PS wa u pq pr z n M W) := Lib.hid (by rw [hu]; exact ⟨H.out.b.gr ((Gr.refl _).alloc _), H.out.g.alloc _⟩)
        have HX : Hid (u.heap[wr.heap.size]? = some (.cells #[.int .i64 4, .int .i64 i, .int .i64 p] 66) ∧ ∀ k, W k → k ≠ wr.heap.size) := Lib.hid ⟨xb, fun k hk => by have := H.out.b.lt k hk; omega⟩
        have y0 := ((cellsOf xb).1 0).trans (show _ = some (Value.int .i64 4) from rfl)
        have y1 := ((cellsOf xb).1 1).trans (show _ = some (Value.int .i64 i) from rfl)
        have y2 := ((cellsOf xb).1 2).trans (show _ = some (Value.int .i64 p) from rfl)
        have nW : ¬ W wr.heap.size := fun h => HX.out.2 _ h rfl
        have hbx := blkLt xb
        clear hu e0 e1 e2 H xb
        generalize wr.heap.size = bx at *
        go_wp2_with fail
        refine (copyQ wa _ pq pr z n M M W HU.out.b).mono ?_
        rintro e w3 ⟨pq', rfl, hch, hg3⟩
        have HC3 := Lib.hid (And.intro hch hg3)
        replace y1 := hg3.keep y1
        clear hch hg3
        go_wp2_with fail
        refine (copyR wa u pq pr z n M W w3 pq' (HU.out.b.gr HC3.out.2) HC3.out.1 HU.out.g.sz HC3.out.2.sz).mono ?_
        rintro e w4 ⟨pr', W', rfl, hb4, hg4⟩
        have PT : Hid (PS wa w4 pq' pr' z n M W') := Lib.hid ⟨hb4, (HU.out.g.trans HC3.out.2).trans hg4⟩
        replace y1 := hg4.keep y1
        clear y0 y2 hb4 hg4 HU HC3 nW
        have HG := Gr.refl w4
        go_wp2_with (first
          | (go_at_call 42; refine (alike_any wa _ pq' pr' z n M W' _ (PT.out.b.gr HG)).mono ?_; rintro e w1 ⟨rfl, hg1⟩; replace y1 := hg1.keep y1; replace HG := HG.trans hg1; clear hg1)
          | fail)
        go_roundw
        case rel => exact ⟨j + 1, pq', pr', M, W', by omega, rfl, rfl, by go_num, Lib.hid ⟨PT.out.b.gr HG, PT.out.g.trans HG⟩⟩
        case measure => simp [intOf]; omega
      have b4 := beq_false_of_ne h4
      go_wp2_with fail
      obtain ⟨u, hu⟩ : ∃ u, u = wr.alloc (.cells #[.int .i64 d, .int .i64 i, .int .i64 p] 66) := ⟨_, rfl⟩
      have xb : u.heap[wr.heap.size]? = some (.cells #[.int .i64 d, .int .i64 i, .int .i64 p] 66) := by rw [hu]; exact blkNew _ _
      rw [← hu]
      have HU : Hid (PS wa u pq pr z n M W) := Lib.hid (by rw [hu]; exact ⟨H.out.b.gr ((Gr.refl _).alloc _), H.out.g.alloc _⟩)
      have HX : Hid (u.heap[wr.heap.size]? = some (.cells #[.int .i64 d, .int .i64 i, .int .i64 p] 66) ∧ ∀ k, W k → k ≠ wr.heap.size) := Lib.hid ⟨xb, fun k hk => by have := H.out.b.lt k hk; omega⟩
      have y0 := ((cellsOf xb).1 0).trans (show _ = some (Value.int .i64 d) from rfl)
      have y1 := ((cellsOf xb).1 1).trans (show _ = some (Value.int .i64 i) from rfl)
      have y2 := ((cellsOf xb).1 2).trans (show _ = some (Value.int .i64 p) from rfl)
      have nW : ¬ W wr.heap.size := fun h => HX.out.2 _ h rfl
      have hbx := blkLt xb
      clear hu e0 e1 e2 H xb
      generalize wr.heap.size = bx at *
      have PT : Hid (PS wa u pq pr z n M W) := HU
      clear y0 y2
      have HG := Gr.refl u
      go_wp2_with (first
        | (go_at_call 42; refine (alike_any wa _ pq pr z n M W _ (PT.out.b.gr HG)).mono ?_; rintro e w1 ⟨rfl, hg1⟩; replace y1 := hg1.keep y1; replace HG := HG.trans hg1; clear hg1)
        | fail)
      go_roundw
      case rel => exact ⟨j + 1, pq, pr, M, W, by omega, rfl, rfl, by go_num, Lib.hid ⟨PT.out.b.gr HG, PT.out.g.trans HG⟩⟩
      case measure => simp [intOf]; omega
    · have hlt' : ¬ (j : Int) < len := by omega
      go_wp2_with fail
      refine (AllB wa wr pq pr z n M M W H.out.b).mono ?_
      rintro e w5 ⟨xs, v1, v2, rfl, hpops, hxl, ho1, ho2, hg5⟩
      obtain ⟨a1, c1, rfl, hc1, hm1⟩ := own_val ho1
      obtain ⟨a2, c2, rfl, hc2, hm2⟩ := own_val ho2
      have HP := Lib.hid hpops
      have HXL := Lib.hid hxl
      have HO := Lib.hid (And.intro ho1 ho2)
      have HG5 := Lib.hid hg5
      have HWL : Hid (∀ k, W k → k < w5.heap.size) := Lib.hid (fun k hk => Nat.lt_of_lt_of_le (H.out.b.lt k hk) hg5.sz)
      unfold maxLen at hm1 hm2
      clear hpops hxl ho1 ho2 hg5
      go_wp2_with fail
      refine (AllL pq _).mono ?_
      rintro e w6 ⟨bb, rfl, hbb, hlb, hg6⟩
      obtain ⟨b3, hb3⟩ : ∃ b, b = w5.heap.size := ⟨_, rfl⟩
      simp only [World.size_alloc] at hlb
      have x3 : w6.heap[b3]? = some (.cells #[.slice a1 xs.length c1] 25) := by rw [hb3]; exact hg6.blk (blkOld (blkOld (blkNew w5 _)))
      have x4 : w6.heap[b3 + 1]? = some (.cells #[.slice a2 xs.length c2] 75) := by
        rw [hb3]
        have := hg6.blk (blkOld (o' := .cells #[.int .i64 0] 3) (blkNew (w5.alloc (.cells #[.slice a1 xs.length c1] 25)) (.cells #[.slice a2 xs.length c2] 75)))
        rwa [World.size_alloc] at this
      have x5 : w6.heap[b3 + 1 + 1]? = some (.cells #[.int .i64 0] 3) := by
        rw [hb3]
        have := hg6.blk (blkNew ((w5.alloc (.cells #[.slice a1 xs.length c1] 25)).alloc (.cells #[.slice a2 xs.length c2] 75)) (.cells #[.int .i64 0] 3))
        rwa [World.size_alloc, World.size_alloc] at this
      have g56 : Gr w5 w6 := ((((Gr.refl w5).alloc _).alloc _).alloc _).trans hg6
      rw [← hb3]
      obtain ⟨b4, hb4⟩ : ∃ b, b = b3 + 1 := ⟨_, rfl⟩
      rw [← hb4] at x4 x5 ⊢
      obtain ⟨b5, hb5⟩ : ∃ b, b = b4 + 1 := ⟨_, rfl⟩
      rw [← hb5] at x5 ⊢
      have l34 : b3 < b4 ∧ b4 < b5 ∧ b5 < bb ∧ w5.heap.size ≤ b3 := by omega
      have HLL := Lib.hid l34
      have HG6 := Lib.hid (HG5.out.trans g56)
      have HO6 : Hid (Own w6 3 1 (.slice a1 xs.length c1) xs.length (idL xs) ∧ Own w6 2 1 (.slice a2 xs.length c2) xs.length (pL xs)) := Lib.hid ⟨HO.out.1.gr g56, HO.out.2.gr g56⟩
      have HO5L : Hid ((∀ k, (Value.slice a1 xs.length c1).ownBlock = some k → k < w5.heap.size) ∧ ∀ k, (Value.slice a2 xs.length c2).ownBlock = some k → k < w5.heap.size) := Lib.hid ⟨fun k hk => HO.out.1.lt hk, fun k hk => HO.out.2.lt hk⟩
      have X3 := Lib.hid x3
      have X4 := Lib.hid x4
      obtain ⟨A, hA, hA2, hseq⟩ := SeqB wa w6 pq pr z n M M W bb (H.out.b.gr HG6.out) hbb
      have HA5 : Hid (¬ A b5) := Lib.hid (fun h => (hA2 b5 h).elim (fun e => by omega) (fun h => by have := HWL.out b5 h; omega))
      have HSEQ := Lib.hid hseq
      have HA := Lib.hid hA
      clear hb3 hb4 hb5 l34 hlb hg6 g56 hbb hA2 hseq hA x3 x4 HO
      go_wp2_with fail
      refine (yieldsTwoL _ _ _).mono ?_
      rintro e w7 ⟨rfl, rfl⟩
      go_wp2_with fail
      apply wp_rangeFunc_zb (gf := 81) (lb := #[.pointer (some ⟨bb, 0, none⟩)]) rfl (enters_of Try.func81 (by kernel_rfl) rfl) HSEQ.out (Mdh.refl _ w6) HA.out (fun _ => rfl)
        (fun Z pre X => (X.heap[b5]? = some (.cells #[.int .i64 pre.length] 3) ∧ ¬ Z b5) ∧ Frm w6 (fun k => k = b5) Z X)
        (fun _ _ _ => False) (fun _ _ _ => False)
        ((Apart.block _ _).and (Frm.apart _ _)) apart_no apart_no ⟨⟨x5, fun h => h⟩, Frm.refl _ _⟩
        _ ?assign ?body ?hend ?hret
      case assign =>
        intro l x X K hK
        dsimp only [encIL]
        gi_wp2
        exact hK
      case hret => intro _ _ _ _ _ _ _ h; exact h.elim
      case body =>
        intro l Z2 pre x X hI hsp
        obtain ⟨⟨hb, hz⟩, hF⟩ := hI
        obtain ⟨c25, f25⟩ := box1 hb
        have hpl : pre.length < xs.length := by have h7 := hsp.2; have := HXL.out; simp only [List.length_append, List.length_cons, List.length_nil] at h7; omega
        have hpl2 : (pre.length : Int) < xs.length := by omega
        have hx := pops_at HP.out hsp.1 hpl
        obtain ⟨c23, _⟩ := box1 (hF.m.blk X3.out (by have := HLL.out; omega))
        obtain ⟨c24, _⟩ := box1 (hF.m.blk X4.out (by have := HLL.out; omega))
        have o1 := HO6.out.1.mdh hF.m (fun k hk e => by have := HO5L.out.1 k hk; have := HLL.out; omega)
        have o2 := HO6.out.2.mdh hF.m (fun k hk e => by have := HO5L.out.2 k hk; have := HLL.out; omega)
        obtain ⟨g1, rfl, d1⟩ := own_cell o1 hpl
        obtain ⟨g2, rfl, d2⟩ := own_cell o2 hpl
        rw [idL, List.getElem?_map, hx, Option.map_some] at d1
        rw [pL, List.getElem?_map, hx, Option.map_some] at d2
        have HF := Lib.hid hF
        have HZ := Lib.hid hz
        have HB := Lib.hid hb
        have hcb : (xs.length : Int) ≤ 1024 := by have := HXL.out; have := cnt_le M n; have := HN.out; omega
        clear hF hb hz o1 o2 hx hsp
        gi_wp2
        have hm : Mdh (fun k => k = b5) X (X.setCell ⟨b5, 0, none⟩ (.int .i64 ((pre.length : Int) + 1))) := (Mdh.refl (fun k => k = b5) X).setCell (p := ⟨b5, 0, none⟩) rfl _
        refine ⟨hm.mono (fun k hk => by subst hk; exact ⟨HA5.out, HZ.out⟩), ⟨?_, HZ.out⟩, HF.out.step hm (fun k hk => .inl hk)⟩
        have := blkSet (j := 0) (u := .int .i64 ((pre.length : Int) + 1)) HB.out
        simpa using this
      case hend =>
        intro Z2 D xs2 X hD hZD hcase hdef
        obtain ⟨⟨_, hl2⟩, ⟨hb, _⟩, hF⟩ := hcase.elim (fun h => h) (fun h => h.2.elim)
        have hlx : xs2.length = xs.length := by have := HXL.out; omega
        rw [hlx] at hb
        obtain ⟨c25, f25⟩ := box1 hb
        obtain ⟨c23, _⟩ := box1 (hF.m.blk X3.out (by have := HLL.out; omega))
        have hGX : Gr wa X := (H.out.g.trans HG6.out).md hF.m (fun k hk => by have := HLL.out; have := H.out.g.sz; have := HG5.out.sz; omega)
        have HGX := Lib.hid hGX
        have HD : Hid (w6.heap.size ≤ D ∧ X.heap[D]? = some (.deferred (some []))) := Lib.hid ⟨hD, hdef⟩
        clear hb hF hcase hdef hD hZD hGX hlx hl2
        dsimp only
        go_wp2_with fail
        refine (works_any _).mono ?_
        rintro e w8 ⟨rfl, hg8⟩
        have b6 := (HGX.out.trans hg8).blk HWA.out.2.1
        obtain ⟨c6, f6⟩ := box1 b6
        have HB6 := Lib.hid b6
        have HG8 := Lib.hid hg8
        clear b6 hg8
        go_wp2_with fail
        have hbD : br < D := by have := HWA.out.2.2.1; have := HG6.out.sz; have := H.out.g.sz; have := HD.out.1; omega
        refine retM1 (D := D) (v := .bool true) rfl (blkSetO (HG8.out.blk HD.out.2) (by simp; omega)) ?_ ⟨rfl, ?_⟩
        · have h6 := blkSet (j := 0) (u := .bool true) HB6.out
          have h6' : ((w8.setCell ⟨br, 0, none⟩ (.bool true)).putObj D (.deferred none)).heap[br]? = some (.cells #[.bool true] 4) :=
            (World.putObj_heap_other (by omega)).trans (by simpa using h6)
          have := (box1 h6').1
          simp [results, Try.results7, go_sem, this]
        · exact ((((HWA.out.1.trans HGX.out).trans HG8.out).setCell (by have := HWA.out.2.2.2.1; simp; omega) _).putObj (by have := HWA.out.2.2.2.1; omega) _)
end Go.Proofs.Ythialloenkbpnaa
