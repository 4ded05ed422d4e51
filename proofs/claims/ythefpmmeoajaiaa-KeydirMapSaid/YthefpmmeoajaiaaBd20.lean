/- KeydirMap: the walk. -/
import Derived.Test.YthefpmmeoajaiaaBd19
import Derived.Test.YthefpmmeoajaiaaBd16
import Derived.Test.YthefpmmeoajaiaaBd13
import Derived.Test.YthefpmmeoajaiaaBd17
import Derived.Test.YthefpmmeoajaiaaBd18
set_option linter.unusedVariables false
set_option linter.unusedSimpArgs false
namespace Go.Proofs.Ythefpmmeoajaiaa
open Go.RowKit Go.Shelf
attribute [local go_sem] OvM cell_ovm obj_ovm
attribute [local go_sem] Oper.semAt_some

abbrev pA (v : Value) (l : List PrI) : Asn := rowA 67 2 v l.length (rowQ l)
set_option maxRecDepth 40000 in
set_option maxHeartbeats 16000000 in
theorem KeydirMap_any (u : Int) (a : Option Addr) (len cap : Nat) (L : List Tn) (w : World) (hu0 : 0 ≤ u) (hu1 : u ≤ 255) (hl : L.length = len) (hle : len ≤ cap) (hcap : cap ≤ maxLen) (hs : TurnAt w a L) :
    Calls Try.prog 4 #[.int .u8 u, .slice a len cap] w fun e w' => e = .returned (.bool true) ∧ Gr w w' := by
  by_cases h80 : 100 < len
  · have h80' : (100 : Int) < len := by omega
    clear hs hl
    go_enter Try.func4, Try.ntmps4
    go_wp2_with (go_at_call 22; refine (kd_works _).mono ?_; rintro e w1 ⟨rfl, hg⟩; have HG := Lib.hid hg; clear hg)
    go_ret
    exact ⟨rfl, HG.out⟩
  have h80' : ¬ (100 : Int) < len := by omega
  obtain ⟨n, hn⟩ : ∃ n : Nat, 1 + u % 8 = (n : Int) := ⟨(1 + u % 8).toNat, by omega⟩
  have hn1 : 1 ≤ n := by omega
  have hn2 : n ≤ 32 := by omega
  obtain ⟨i0, hi, hz0, hz1, hz2⟩ := info_parts infoPair
  have HWF := Lib.hid (fun j (hj : j ≤ len) => foldW_ok n hn1 hn2 j (L.take j) (by rw [List.length_take]; omega) (by omega) (turnTake hs j))
  have HS := Lib.hid hs
  have HL := Lib.hid hl
  have H0 : Hid (SW w [pA (.slice none 0 0) []] w) := Lib.hid ((SW.start w).new (Gr.refl _) (A := pA (.slice none 0 0) []) (nilRow _ _ _) (fun k hk => by cases hk))
  unfold maxLen at hcap
  clear hs hl
  go_enter Try.func4, Try.ntmps4
  go_wp2_with fail
  (try rw [hn])
  refine (Begin_any H0.out n hn1 hn2).mono ?_
  rintro e w1 ⟨b, rb, mb, v1, v2, S, rfl, hs⟩
  have H1 : Hid (SW w (mL b rb mb n v1 v2 S (foldW n (L.take 0)).1 [pA (.slice none 0 0) (foldW n (L.take 0)).2]) w1) := Lib.hid hs
  clear hs H0 hn
  go_wp2_with fail
  go_loopw [7, 8] (fun t7 t8 wx => ∃ (j : Nat) (v1 v2 : Value) (S : Nat → Prop), j ≤ len ∧ t8 = .int .i64 j ∧ Hid (SW w (mL b rb mb n v1 v2 S (foldW n (L.take j)).1 [pA t7 (foldW n (L.take j)).2]) wx)) (fun _ t8 _ => len - (intOf t8).toNat)
  case atStart => exact ⟨0, v1, v2, S, by omega, rfl, H1⟩
  case round =>
    obtain ⟨j, v1, v2, S, hj, rfl, HI⟩ := hrel
    clear H1
    by_cases hlt : j < len
    · have hlt' : (j : Int) < len := by omega
      obtain ⟨x, hx⟩ : ∃ x, L[j]? = some x := ⟨_, List.getElem?_eq_getElem (by have := HL.out; omega)⟩
      obtain ⟨bm, off, rfl, hbm, m0, m1, m2, m3, hok⟩ := HS.out j x hx
      have HW := Lib.hid (HWF.out j hj)
      have HNX := Lib.hid (foldW_take n hx)
      have HOK := Lib.hid hok
      generalize foldW n (L.take j) = p at *
      obtain ⟨⟨X, all, nx⟩, want⟩ := p
      have hal : all.length ≤ 100 := by have := HW.out.s.n; simp only at this; omega
      have hwl : want.length ≤ 100 := by have := HW.out.n; simp only at this; omega
      simp only at HI
      have e0 := HI.out.g.keep m0
      have e1 := HI.out.g.keep m1
      have e2 := HI.out.g.keep m2
      have e3 := HI.out.g.keep m3
      have lm : bm < wr.heap.size := Nat.lt_of_lt_of_le hbm HI.out.g.sz
      obtain ⟨x0, x1, x2, x3⟩ := x
      simp only at e0 e1 e2 e3
      obtain ⟨k0, k0'⟩ := hok.kind
      simp only at k0 k0'
      have HM0 := Lib.hid (show w.cell? ⟨bm, off + j * 4, none⟩ = some (.int .u8 x0) from m0)
      have HBM := Lib.hid hbm
      clear m0 m1 m2 m3 hx hbm hok
      have HSW : Hid (stepW n (⟨X, all, nx⟩, want) ⟨x0, x1, x2, x3⟩ = if x0 % 8 = 7 then (⟨X, all, nx⟩, want) else (stepM n ⟨X, all, nx⟩ ⟨x0, x1, x2, x3⟩, if x0 % 8 < 5 then wantT want (atM ⟨X, all, nx⟩ (newM n ⟨X, all, nx⟩ ⟨x0, x1, x2, x3⟩)) else want)) := Lib.hid rfl
      by_cases h7 : x0 % 8 = 7
      · have hb7 : (x0 % 8 == 7) = true := beq_iff_eq.2 h7
        have HN2 : Hid (foldW n (L.take (j + 1)) = (⟨X, all, nx⟩, want)) := Lib.hid (by rw [HNX.out, HSW.out, if_pos h7])
        clear h7
        go_wp2_with fail
        exact ⟨⟨j + 1, v1, v2, S, by omega, by simp, Lib.hid (by rw [HN2.out]; exact HI.out)⟩, by simp [intOf]; omega⟩
      have hb7 : (x0 % 8 == 7) = false := beq_false_of_ne h7
      obtain ⟨av, cv, rfl, hcv, hmv, _⟩ := ownE_at (show Own wr 43 6 v2 all.length (rowE all) from HI.out.get (i := 4) rfl)
      unfold maxLen at hmv
      have dm2 := ((cellsOf (show wr.heap[mb]? = _ from HI.out.get (i := 3) rfl)).1 2).trans (show _ = some (Value.slice av all.length cv) from rfl)
      have HD := Lib.hid (mDo HI.out HW.out.s (by omega) hn1 HOK.out)
      simp only [tnV] at HD
      go_wp2_with fail
      refine Calls.mono HD.out ?_
      rintro r w8 ⟨rfl, v1', v2', S', hs⟩
      have H8 := Lib.hid hs
      clear hs HD e0 e1 e2 e3 lm dm2 HI
      have e0 := H8.out.g.keep HM0.out
      have lm : bm < w8.heap.size := Nat.lt_of_lt_of_le HBM.out H8.out.g.sz
      obtain ⟨μ, hμ⟩ : ∃ μ : Nat, x0 % 8 = (μ : Int) := ⟨(x0 % 8).toNat, by omega⟩
      by_cases h5 : x0 % 8 < 5
      · have HFE : Hid (stepM n ⟨X, all, nx⟩ ⟨x0, x1, x2, x3⟩ = ⟨addX X (atM ⟨X, all, nx⟩ (newM n ⟨X, all, nx⟩ ⟨x0, x1, x2, x3⟩)), all ++ [atM ⟨X, all, nx⟩ (newM n ⟨X, all, nx⟩ ⟨x0, x1, x2, x3⟩)], nx + 1⟩) := Lib.hid (stepM_new HW.out.s (by omega) HOK.out h5)
        have HN2 : Hid (foldW n (L.take (j + 1)) = (⟨addX X (atM ⟨X, all, nx⟩ (newM n ⟨X, all, nx⟩ ⟨x0, x1, x2, x3⟩)), all ++ [atM ⟨X, all, nx⟩ (newM n ⟨X, all, nx⟩ ⟨x0, x1, x2, x3⟩)], nx + 1⟩, wantT want (atM ⟨X, all, nx⟩ (newM n ⟨X, all, nx⟩ ⟨x0, x1, x2, x3⟩)))) := Lib.hid (by rw [HNX.out, HSW.out, if_neg h7, if_pos h5, HFE.out])
        rw [HFE.out] at H8
        generalize atM ⟨X, all, nx⟩ (newM n ⟨X, all, nx⟩ ⟨x0, x1, x2, x3⟩) = f at *
        have h4 : ¬ 4 < x0 % 8 := by omega
        clear HFE HSW HNX HOK HW
        obtain ⟨a2, c2, rfl, hc2, hm2, _⟩ := ownE_at (show Own w8 43 6 v2' (all ++ [f]).length (rowE (all ++ [f])) from H8.out.get (i := 4) rfl)
        unfold maxLen at hm2
        have hln : (all ++ [f]).length = all.length + 1 := by simp
        have hfg : (all ++ [f])[all.length]? = some f := by simp
        obtain ⟨g2, rfl, hg2, y0, y1, y2, y3, y4, y5⟩ := ent6 (show Own w8 43 6 (.slice a2 (all ++ [f]).length c2) (all ++ [f]).length (rowE (all ++ [f])) from H8.out.get (i := 4) rfl) hfg
        have dm2 := ((cellsOf (show w8.heap[mb]? = _ from H8.out.get (i := 3) rfl)).1 2).trans (show _ = some (Value.slice (some ⟨g2, 0, none⟩) (all ++ [f]).length c2) from rfl)
        rw [hln] at dm2 hc2
        have hbq : (((all.length : Int) + 1) == (all.length : Int)) = false := beq_false_of_ne (by omega)
        have HLN := Lib.hid hln
        clear hln hfg
        obtain ⟨f0, f1, f2, f3, f4, f5⟩ := f
        simp only at y0 y1 y2 y3 y4 y5
        go_upto_region 16 with fail
        obtain ⟨b10, hb10⟩ : ∃ k, k = w8.heap.size := ⟨_, rfl⟩
        obtain ⟨w9, hw9⟩ : ∃ y, y = w8.alloc (boxF ⟨f0, f1, f2, f3, f4, f5⟩) := ⟨_, rfl⟩
        have H9 : Hid (SW w (blkA b10 (boxF ⟨f0, f1, f2, f3, f4, f5⟩) :: mL b rb mb n v1' (.slice (some ⟨g2, 0, none⟩) (all ++ [(⟨f0, f1, f2, f3, f4, f5⟩ : En)]).length c2) S' ⟨addX X ⟨f0, f1, f2, f3, f4, f5⟩, all ++ [⟨f0, f1, f2, f3, f4, f5⟩], nx + 1⟩ [pA u7 want]) w9) := Lib.hid (by rw [hw9, hb10]; exact H8.out.alloc _)
        (try simp only [boxF] at hw9)
        rw [← hw9, ← hb10]
        clear hw9 hb10 H8 y0 y1 y2 y3 y4 y5 hg2 dm2 e0 lm
        have d10 := (cellsOf (show w9.heap[b10]? = _ from H9.out.get (i := 0) rfl)).1
        (try simp only [boxF] at d10)
        have HOW := Lib.hid (show Own w9 67 2 u7 want.length (rowQ want) from H9.out.get (i := 6) rfl)
        obtain ⟨a7, c7, rfl, hc7, hm7, hat⟩ := pair2 HOW.out
        have HAT := Lib.hid hat
        unfold maxLen at hm7
        have HFI := Lib.hid (find22 f1 rfl HOW.out)
        have HWT : Hid (wantT want ⟨f0, f1, f2, f3, f4, f5⟩ = match pIdx want f1 with | some i => if f2 = true then want.eraseIdx i else want.set i (f1, f5) | none => if f2 = true then want else want ++ [(f1, f5)]) := Lib.hid rfl
        have HFC : Hid (fndC want f1 = match pIdx want f1 with | some i => (i : Int) | none => -1) := Lib.hid rfl
        have HPI := Lib.hid (fun i (h : pIdx want f1 = some i) => pIdx_some h)
        clear hat
        go_wp2_with fail
        refine Calls.mono HFI.out ?_
        rintro e w10 ⟨rfl, rfl⟩
        clear HFI
        cases hp : pIdx want f1 with
        | none =>
          rw [hp] at HWT HFC
          rw [HFC.out]
          simp only at HWT
          clear hp HFC HPI
          cases f2 with
          | true =>
            have HWE : Hid (wantT want ⟨f0, f1, true, f3, f4, f5⟩ = want) := Lib.hid (by rw [HWT.out, if_pos rfl])
            clear HWT
            go_wp2_with fail
            exact ⟨⟨j + 1, v1', .slice (some ⟨g2, 0, none⟩) (all ++ [(⟨f0, f1, true, f3, f4, f5⟩ : En)]).length c2, S', by omega, by simp, Lib.hid (by rw [HN2.out, HWE.out]; exact H9.out.sub (.cons _ (List.Sublist.refl _)))⟩, by simp [intOf]; omega⟩
          | false =>
            have HWE : Hid (wantT want ⟨f0, f1, false, f3, f4, f5⟩ = want ++ [(f1, f5)]) := Lib.hid (by rw [HWT.out, if_neg (by decide)])
            clear HWT
            go_wp2_with (first
              | (at_builtin; go_must (refine wpList_appv _ rfl (.tmp 90) (.tmp 96) 57 rfl 67 i0 _ 2 24 Try.underlying57 hi hz0 hz1 hz2 rfl (by decide) (.slice a7 want.length c7) want.length (rowQ want) rfl (HOW.out.gr (by (repeat (first | (with_reducible exact Gr.refl _) | assumption | (with_reducible apply Gr.from_drew) | (with_reducible apply Gr.alloc) | (with_reducible apply Gr.drew) | (with_reducible refine Gr.trans ?_ (by assumption)) | (with_reducible refine Gr.setCell ?_ (by omega) _))))) (some ⟨w9.heap.size, 0, none⟩) 1 1 (cellsQ (f1, f5)) rfl (src_newK w9 (cellsQ (f1, f5)) _ 2 rfl (cellsQ_one (f1, f5))) (by simp only [maxLen]; omega) (by omega) ?_); intro v3 w11 hA; have HAP := Lib.hid hA; clear hA)
              | fail)
            have h10 := (H9.out.gr ((Gr.refl w9).alloc (.cells (cellsQ (f1, f5)).toArray 67))).at (i := 6) rfl (HAP.out.mdh (fun g h => h)) (fun k hk => .inl hk) (B := pA v3 (want ++ [(f1, f5)])) (by
              show Own _ _ _ _ _ _
              rw [rowQ_snoc, List.length_append]
              exact HAP.out.1) (fun k hq => HAP.out.2.1 k hq)
            exact ⟨⟨j + 1, v1', .slice (some ⟨g2, 0, none⟩) (all ++ [(⟨f0, f1, false, f3, f4, f5⟩ : En)]).length c2, S', by omega, by simp, Lib.hid (by rw [HN2.out, HWE.out]; exact h10.sub (.cons _ (List.Sublist.refl _)))⟩, by simp [intOf]; omega⟩
        | some i =>
          obtain ⟨s0, hwi⟩ := HPI.out i hp
          have hiw : i < want.length := (List.getElem?_eq_some_iff.1 hwi).1
          have HWI := Lib.hid hwi
          rw [hp] at HWT HFC
          rw [HFC.out]
          simp only at HWT
          clear hp HFC HPI hwi
          obtain ⟨g7, rfl, hg7, ho7, q0, q1⟩ := HAT.out i _ HWI.out
          simp only at q0 q1
          have hi0 : (0 : Int) ≤ (i : Int) := by omega
          have hiw' : (i : Int) < want.length := by omega
          cases f2 with
          | true =>
            have HWE : Hid (wantT want ⟨f0, f1, true, f3, f4, f5⟩ = want.eraseIdx i) := Lib.hid (by rw [HWT.out, if_pos rfl])
            have hel : (want.eraseIdx i).length = i + (want.length - (i + 1)) := by rw [List.length_eraseIdx_of_lt hiw]; omega
            have HEL := Lib.hid hel
            obtain ⟨V, hV⟩ : ∃ V, V = Value.slice (some ⟨g7, 0, none⟩) want.length c7 := ⟨_, rfl⟩
            rw [← hV] at HOW H9 ⊢
            obtain ⟨x1, n1, s1, src1, z1⟩ := slice_take Try.underlying57 hi hz1 HOW.out (rowQ_one want) (i := i) (by omega)
            obtain ⟨x2, n2, s2', src2, z2⟩ := slice_drop Try.underlying57 hi hz1 HOW.out (rowQ_one want) (i := i + 1) (by omega)
            have s2 : ∀ w' : World, (Instr.slice 57 V (some (.int .i64 ((i : Int) + 1))) none none).run Try.prog w' = .ok (.slice x2 (want.length - (i + 1)) n2) w' := fun w' => by rw [show ((i : Int) + 1) = ((i + 1 : Nat) : Int) by omega]; exact s2' w'
            rw [rowQ_take] at src1
            rw [rowQ_drop] at src2
            have SRC := Lib.hid (And.intro src1 src2)
            clear HWT hel hV src1 src2 s2' z1 z2 q0 q1 ho7 HAT hc7 hm7
            have hib : (i : Int) ≤ 1000 := by omega
            go_wp2_with fail
            refine wp_region_flo (fun _ => False) [] [] (by kernel_rfl) (by kernel_rfl) (fun _ h => h.elim) ?_
            refine flo_eff rfl rfl rfl rfl (fun K hK => ?_)
            go_wp2
            refine ⟨by (first | (refine Gr.mdh ?_ _; (repeat (first | (with_reducible exact Gr.refl _) | assumption | (with_reducible apply Gr.from_drew) | (with_reducible apply Gr.alloc) | (with_reducible apply Gr.drew) | (with_reducible refine Gr.trans ?_ (by assumption)) | (with_reducible refine Gr.setCell ?_ (by omega) _))); done) | (repeat (first | (with_reducible exact Mdh.refl _ _) | (with_reducible refine Mdh.setCell ?_ (by simp) _) | (with_reducible refine Mdh.setNew ?_ (by simp) _) | (with_reducible apply Mdh.alloc) | (with_reducible apply Mdh.from_drew) | (with_reducible apply Mdh.drew) | (with_reducible refine Mdh.gr ?_ (by assumption))))), ?_⟩
            refine flo_seg 3 rfl ?_
            simp only [List.take_succ_cons, List.take_zero, List.drop_succ_cons, List.drop_zero]
            repeat (go_big_quiet_step (fail))
            refine wpQuiet_nil ?_
            refine flo_eff rfl rfl rfl rfl (fun K hK => ?_)
            refine wp_appv _ (.tmp 105) (.tmp 108) 57 rfl 67 i0 _ 2 24 Try.underlying57 hi hz0 hz1 hz2 rfl (by decide) (.slice (some ⟨w9.heap.size, 0, none⟩) 0 0) 0 [] rfl ((Nw.made (w0 := w9) (w := w9) (Nat.le_refl _)).own.gr (by (repeat (first | (with_reducible exact Gr.refl _) | assumption | (with_reducible apply Gr.from_drew) | (with_reducible apply Gr.alloc) | (with_reducible apply Gr.drew) | (with_reducible refine Gr.trans ?_ (by assumption)) | (with_reducible refine Gr.setCell ?_ (by omega) _))))) x1 i _ (rowQ (want.take i)) rfl (SRC.out.1.gr (by (repeat (first | (with_reducible exact Gr.refl _) | assumption | (with_reducible apply Gr.from_drew) | (with_reducible apply Gr.alloc) | (with_reducible apply Gr.drew) | (with_reducible refine Gr.trans ?_ (by assumption)) | (with_reducible refine Gr.setCell ?_ (by omega) _))))) (by simp only [maxLen]; omega) (by omega) (fun k3 xa hk3 => ?_); rw [Nat.zero_add, List.nil_append] at hk3; (have n3 := hk3.nw (w0 := w9) ((Nw.made (w0 := w9) (w := w9) (e := 67) (K := 2) (Nat.le_refl _)).gr (by (repeat (first | (with_reducible exact Gr.refl _) | assumption | (with_reducible apply Gr.from_drew) | (with_reducible apply Gr.alloc) | (with_reducible apply Gr.drew) | (with_reducible refine Gr.trans ?_ (by assumption)) | (with_reducible refine Gr.setCell ?_ (by omega) _))))) (Gr.sz (by (repeat (first | (with_reducible exact Gr.refl _) | assumption | (with_reducible apply Gr.from_drew) | (with_reducible apply Gr.alloc) | (with_reducible apply Gr.drew) | (with_reducible refine Gr.trans ?_ (by assumption)) | (with_reducible refine Gr.setCell ?_ (by omega) _)))))); (have m3 := hk3.gw (w0 := w9) ((Nw.made (w0 := w9) (w := w9) (e := 67) (K := 2) (Nat.le_refl _)).gr (by (repeat (first | (with_reducible exact Gr.refl _) | assumption | (with_reducible apply Gr.from_drew) | (with_reducible apply Gr.alloc) | (with_reducible apply Gr.drew) | (with_reducible refine Gr.trans ?_ (by assumption)) | (with_reducible refine Gr.setCell ?_ (by omega) _))))) (by (repeat (first | (with_reducible exact Gr.refl _) | assumption | (with_reducible apply Gr.from_drew) | (with_reducible apply Gr.alloc) | (with_reducible apply Gr.drew) | (with_reducible refine Gr.trans ?_ (by assumption)) | (with_reducible refine Gr.setCell ?_ (by omega) _))))); refine hK _ _ ⟨hk3.mdh (fun q hq => by rw [ownB hq]; right; right; exact ⟨Nat.le_refl _, by simp⟩), ?_⟩; simp only [Act.put, List.setIfInBounds_toArray, List.set_cons_succ, List.set_cons_zero]
            refine flo_seg 4 rfl ?_
            simp only [List.take_succ_cons, List.take_zero, List.drop_succ_cons, List.drop_zero]
            repeat (go_big_quiet_step (fail))
            refine wpQuiet_nil ?_
            refine flo_eff rfl rfl rfl rfl (fun K hK => ?_)
            refine wp_appv _ (.tmp 109) (.tmp 113) 57 rfl 67 i0 _ 2 24 Try.underlying57 hi hz0 hz1 hz2 rfl (by decide) k3 i (rowQ (want.take i)) rfl hk3.1 x2 (want.length - (i + 1)) _ (rowQ (want.drop (i + 1))) rfl (SRC.out.2.gr m3) (by simp only [maxLen]; omega) (by omega) (fun k5 xb hk5 => ?_); obtain ⟨a5, c5, rfl⟩ := hk5.val; refine hK _ _ ⟨hk5.mdh (fun q hq => (hk3.2.1 q hq).elim (fun h => by rw [ownB h]; exact .inr (.inl (.inr ⟨Nat.le_refl _, by simp⟩))) (fun h => .inr (.inr ⟨h, hk3.1.lt hq⟩))), ?_⟩; simp only [Act.put, List.setIfInBounds_toArray, List.set_cons_succ, List.set_cons_zero]
            refine flo_seg 1 rfl ?_
            simp only [List.take_succ_cons, List.take_zero, List.drop_succ_cons, List.drop_zero]
            repeat (go_big_quiet_step (fail))
            refine wpQuiet_nil ?_
            refine flo_nil ?_
            have n5 := hk5.nw n3 m3.sz
            have m5 := hk5.gw n3 m3
            have h10 := H9.out.new m5 (A := pA (.slice a5 (i + (want.length - (i + 1))) c5) (want.eraseIdx i)) (by
              show Own _ _ _ _ _ _
              rw [HEL.out, List.eraseIdx_eq_take_drop_succ, rowQ_app]
              exact n5.own) (fun k hq => n5.new k hq)
            have HE : Hid (SW w (mL b rb mb n v1' (.slice (some ⟨g2, 0, none⟩) (all ++ [(⟨f0, f1, true, f3, f4, f5⟩ : En)]).length c2) S' ⟨addX X ⟨f0, f1, true, f3, f4, f5⟩, all ++ [⟨f0, f1, true, f3, f4, f5⟩], nx + 1⟩ [pA (.slice a5 (i + (want.length - (i + 1))) c5) (want.eraseIdx i)]) xb) := Lib.hid ((((((h10.pick (i := 6) rfl).pick (i := 6) rfl).pick (i := 6) rfl).pick (i := 6) rfl).pick (i := 6) rfl).sub (.cons_cons _ (.cons_cons _ (.cons_cons _ (.cons_cons _ (.cons_cons _ (.cons_cons _ (.cons _ (.cons _ (List.Sublist.refl _))))))))))
            clear n3 m3 n5 m5 h10 hk3 hk5 SRC s1 s2 d10
            go_wp2_with fail
            exact ⟨⟨j + 1, v1', .slice (some ⟨g2, 0, none⟩) (all ++ [(⟨f0, f1, true, f3, f4, f5⟩ : En)]).length c2, S', by omega, by simp, Lib.hid (by rw [HN2.out, HWE.out]; exact HE.out)⟩, by simp [intOf]; omega⟩
          | false =>
            have HWE : Hid (wantT want ⟨f0, f1, false, f3, f4, f5⟩ = want.set i (f1, f5)) := Lib.hid (by rw [HWT.out, if_neg (by decide)])
            obtain ⟨_, hb7⟩ := own_blk HOW.out ho7
            have f7 := (cellsOf hb7).2
            have hset : Own (w9.setCell ⟨g7, i * 2 + 1, none⟩ (.int .i64 f5)) 67 2 (.slice (some ⟨g7, 0, none⟩) want.length c7) (want.set i (f1, f5)).length (rowQ (want.set i (f1, f5))) := by
              rw [List.length_set, ← rowQ_set want i f1 s0 f5 HWI.out]
              exact HOW.out.set (by rw [rowQ_len]; omega) _
            have HE := Lib.hid (H9.out.at (i := 6) rfl ((Mdh.refl (fun k => k = g7) w9).setCell (p := ⟨g7, i * 2 + 1, none⟩) rfl (.int .i64 f5)) (fun k hk => by left; show _ = some k; rw [show k = g7 from hk]; exact ho7) (B := pA (.slice (some ⟨g7, 0, none⟩) want.length c7) (want.set i (f1, f5))) hset (fun k hk => .inl hk))
            clear HWT hset hb7
            go_wp2_with fail
            exact ⟨⟨j + 1, v1', .slice (some ⟨g2, 0, none⟩) (all ++ [(⟨f0, f1, false, f3, f4, f5⟩ : En)]).length c2, S', by omega, by simp, Lib.hid (by rw [HN2.out, HWE.out]; exact HE.out.sub (.cons _ (List.Sublist.refl _)))⟩, by simp [intOf]; omega⟩
      · have h4 : 4 < x0 % 8 := by omega
        have HN2 : Hid (foldW n (L.take (j + 1)) = (stepM n ⟨X, all, nx⟩ ⟨x0, x1, x2, x3⟩, want)) := Lib.hid (by rw [HNX.out, HSW.out, if_neg h7, if_neg h5])
        clear h5 h7
        go_wp2_with fail
        exact ⟨⟨j + 1, v1', v2', S', by omega, by simp, Lib.hid (by rw [HN2.out]; exact H8.out)⟩, by simp [intOf]; omega⟩
    · have hlt' : ¬ (j : Int) < len := by omega
      obtain rfl : j = len := by omega
      have HW := Lib.hid (HWF.out j (Nat.le_refl _))
      generalize foldW n (L.take j) = p at *
      obtain ⟨⟨X, all, nx⟩, want⟩ := p
      have hwl : want.length ≤ 100 := by have := HW.out.n; simp only at this; omega
      simp only at HI
      have HFG := Lib.hid HW.out.s.g
      have HMI := Lib.hid HW.out.m
      simp only at HFG HMI
      have HFD : Hid (∀ i k s, want[i]? = some (k, s) → ∃ c, findV X k = .tuple #[enV c, .bool true, .int .i64 0] ∧ c.size = s ∧ c.key = k ∧ c.del = false ∧ 0 ≤ s ∧ s ≤ 8192) := Lib.hid (fun i k s hks => by
        obtain ⟨c, hc, hs⟩ := (HMI.out.mem k s).1 (List.mem_of_getElem? hks)
        obtain ⟨c1, c2, c3⟩ := find_ok HFG.out hc
        have hv := HFG.out.val c3
        refine ⟨c, ?_, hs, c1, c2, by omega, by omega⟩
        unfold findV codeX
        rw [hc, if_neg HFG.out.ne]
        rfl)
      have HSUM : Hid (∀ i, 0 ≤ ((want.take i).map (fun p => p.2)).sum ∧ ((want.take i).map (fun p => p.2)).sum ≤ 8192 * (want.take i).length) := Lib.hid (fun i => by
        have h : ∀ l : List PrI, (∀ p ∈ l, 0 ≤ p.2 ∧ p.2 ≤ 8192) → 0 ≤ (l.map (fun p => p.2)).sum ∧ (l.map (fun p => p.2)).sum ≤ 8192 * l.length := by
          intro l
          induction l with
          | nil => intro _; simp
          | cons p l ih =>
            intro hp
            have h1 := ih (fun q hq => hp q (List.mem_cons_of_mem _ hq))
            have h2 := hp p (List.mem_cons_self ..)
            rw [List.map_cons, List.sum_cons, List.length_cons]
            omega
        refine h _ (fun p hp => ?_)
        obtain ⟨i', hi'⟩ := List.mem_iff_getElem?.1 (List.mem_of_mem_take hp)
        obtain ⟨c, _, _, _, _, h5, h6⟩ := HFD.out i' p.1 p.2 hi'
        exact ⟨h5, h6⟩)
      have HSS : Hid (∀ i k s, want[i]? = some (k, s) → ((want.take (i + 1)).map (fun p => p.2)).sum = ((want.take i).map (fun p => p.2)).sum + s) := Lib.hid (fun i k s h => by rw [List.take_add_one, h]; simp)
      obtain ⟨a7, c7, rfl, hc7, hm7, _⟩ := pair2 (show Own wr 67 2 u7 want.length (rowQ want) from HI.out.get (i := 5) rfl)
      unfold maxLen at hm7
      clear HW HWF
      obtain ⟨nw, hnw⟩ : ∃ nw, nw = want.length := ⟨_, rfl⟩
      have HNW := Lib.hid hnw
      rw [← hnw] at hwl hc7 ⊢
      have HI2 : Hid (SW w (mL b rb mb n v1 v2 S ⟨X, all, nx⟩ [rowA 67 2 (.slice a7 nw c7) nw (rowQ want)]) wr) := Lib.hid (by have := HI.out; rw [hnw]; exact this)
      clear hnw HI
      go_wp2_with fail
      go_loopw [12, 13] (fun t12 t13 wx => ∃ i : Nat, i ≤ nw ∧ t12 = .int .i64 ((want.take i).map (fun p => p.2)).sum ∧ t13 = .int .i64 i ∧ Hid (SW w (mL b rb mb n v1 v2 S ⟨X, all, nx⟩ [rowA 67 2 (.slice a7 nw c7) nw (rowQ want)]) wx)) (fun _ t13 _ => nw - (intOf t13).toNat)
      case atStart => exact ⟨0, by omega, rfl, rfl, HI2⟩
      case round =>
        obtain ⟨i, hin, rfl, rfl, HJ⟩ := hrel
        clear HI2
        have dm0 := ((cellsOf (show wr.heap[mb]? = _ from HJ.out.get (i := 3) rfl)).1 0).trans (show _ = some (Value.pointer (some ⟨b, 0, none⟩)) from rfl)
        have hsu := HSUM.out i
        rw [List.length_take] at hsu
        obtain ⟨hsu1, hsu2⟩ := hsu
        have hsu3 : ((want.take i).map (fun p => p.2)).sum ≤ 819200 := by have := HNW.out; omega
        clear hsu2
        by_cases hli : i < nw
        · have hli' : (i : Int) < nw := by omega
          obtain ⟨⟨ky, sz⟩, hx⟩ : ∃ x, want[i]? = some x := ⟨_, List.getElem?_eq_getElem (by have := HNW.out; omega)⟩
          obtain ⟨c, hfv, hcs, hck, hcd, hs0, hs1⟩ := HFD.out i ky sz hx
          have HS1 := Lib.hid (HSS.out i ky sz hx)
          obtain ⟨_, _, hve, _, _, hat⟩ := pair2 (show Own wr 67 2 (.slice a7 want.length c7) want.length (rowQ want) by rw [← HNW.out]; exact HJ.out.get (i := 5) rfl)
          injection hve with g1 g2 g3
          subst g1
          obtain ⟨g7, rfl, hg7, _, z0, z1⟩ := hat i _ hx
          have HX := Lib.hid hx
          have HFV := Lib.hid hfv
          simp only at z0 z1
          obtain ⟨c0, c1, c2, c3, c4, c5⟩ := c
          simp only at hcs hck hcd
          subst hcs hck hcd
          generalize ((want.take i).map (fun p => p.2)).sum = ps at *
          clear hat hx hfv g2 g3
          go_wp2_with fail
          have HG := Gr.refl wr.drew
          refine wp_region_flo (fun _ => False) [14] [] (by kernel_rfl) (by kernel_rfl) (fun _ h => h.elim) ?_
          refine flo_seg 9 rfl ?_
          simp only [List.take_succ_cons, List.take_zero, List.drop_succ_cons, List.drop_zero]
          repeat (go_big_quiet_step (fail))
          refine wpQuiet_nil ?_
          refine flo_effg rfl rfl rfl (fun wg1 hgg1 K hK => ?_)
          (try replace HG := Gr.trans (Gr.trans HG (by (repeat (first | (with_reducible exact Gr.refl _) | assumption | (with_reducible apply Gr.from_drew) | (with_reducible apply Gr.alloc) | (with_reducible apply Gr.drew) | (with_reducible refine Gr.trans ?_ (by assumption)) | (with_reducible refine Gr.setCell ?_ (by omega) _))))) hgg1)
          go_wp2_with ((go_at_call 26; refine (Find_any (.inl ⟨b, rfl, (show IXR wg1 b X S from (HJ.out.gr (Gr.of_drew HG)).get (i := 0) rfl)⟩) c1).mono ?_; rintro e' w5 ⟨rfl, hg⟩; rw [HFV.out]; simp only [enV]; have hg5 := hg; clear hg))
          refine ⟨by (first | (refine Gr.mdh ?_ _; (repeat (first | (with_reducible exact Gr.refl _) | assumption | (with_reducible apply Gr.from_drew) | (with_reducible apply Gr.alloc) | (with_reducible apply Gr.drew) | (with_reducible refine Gr.trans ?_ (by assumption)) | (with_reducible refine Gr.setCell ?_ (by omega) _))); done) | (repeat (first | (with_reducible exact Mdh.refl _ _) | (with_reducible refine Mdh.setCell ?_ (by simp) _) | (with_reducible refine Mdh.setNew ?_ (by simp) _) | (with_reducible apply Mdh.alloc) | (with_reducible apply Mdh.from_drew) | (with_reducible apply Mdh.drew) | (with_reducible refine Mdh.gr ?_ (by assumption))))), ?_⟩
          refine flo_seg 4 rfl ?_
          simp only [List.take_succ_cons, List.take_zero, List.drop_succ_cons, List.drop_zero]
          repeat (go_big_quiet_step (fail))
          refine wpQuiet_nil ?_
          refine flo_float (fun b => .pointer (some ⟨b, 0, none⟩)) (.cells #[.int .i64 0, .string ⟨#[]⟩, .bool false, .int .i64 0, .int .i64 0, .int .i64 0] 43) rfl rfl (fun w => by kernel_rfl) (fun wf1 fb1 hgf1 fl1 fh1 ft1 fo1 => ?_)
          (try replace HG := Gr.trans (Gr.trans HG (by (repeat (first | (with_reducible exact Gr.refl _) | assumption | (with_reducible apply Gr.from_drew) | (with_reducible apply Gr.alloc) | (with_reducible apply Gr.drew) | (with_reducible refine Gr.trans ?_ (by assumption)) | (with_reducible refine Gr.setCell ?_ (by omega) _))))) hgf1)
          (try have fc1 := (cellsOf fo1).1)
          (try have ff1 := (cellsOf fo1).2)
          refine flo_eff rfl rfl rfl rfl (fun K hK => ?_)
          go_wp2
          refine ⟨by (first | (refine Gr.mdh ?_ _; (repeat (first | (with_reducible exact Gr.refl _) | assumption | (with_reducible apply Gr.from_drew) | (with_reducible apply Gr.alloc) | (with_reducible apply Gr.drew) | (with_reducible refine Gr.trans ?_ (by assumption)) | (with_reducible refine Gr.setCell ?_ (by omega) _))); done) | (repeat (first | (with_reducible exact Mdh.refl _ _) | (with_reducible refine Mdh.setCell ?_ (by simp) _) | (with_reducible refine Mdh.setNew ?_ (by simp) _) | (with_reducible apply Mdh.alloc) | (with_reducible apply Mdh.from_drew) | (with_reducible apply Mdh.drew) | (with_reducible refine Mdh.gr ?_ (by assumption))))), ?_⟩
          refine flo_seg 2 rfl ?_
          simp only [List.take_succ_cons, List.take_zero, List.drop_succ_cons, List.drop_zero]
          repeat (go_big_quiet_step (fail))
          refine wpQuiet_nil ?_
          refine flo_nil ?_
          have HJ5 : Hid (SW w (mL b rb mb n v1 v2 S ⟨X, all, nx⟩ [rowA 67 2 (.slice (some ⟨g7, 0, none⟩) nw c7) nw (rowQ want)]) wf1) := Lib.hid (HJ.out.gr (Gr.of_drew HG))
          obtain ⟨W4, hW4⟩ : ∃ y, y = ((((((wf1.setCell ⟨fb1, 0, none⟩ (.int .i64 c0)).setCell ⟨fb1, 1, none⟩ (.string c1)).setCell ⟨fb1, 2, none⟩ (.bool false)).setCell ⟨fb1, 3, none⟩ (.int .i64 c3)).setCell ⟨fb1, 4, none⟩ (.int .i64 c4)).setCell ⟨fb1, 5, none⟩ (.int .i64 c5)) := ⟨_, rfl⟩
          have H6 : Hid (SW w (blkA fb1 (boxF ⟨c0, c1, false, c3, c4, c5⟩) :: mL b rb mb n v1 v2 S ⟨X, all, nx⟩ [rowA 67 2 (.slice (some ⟨g7, 0, none⟩) nw c7) nw (rowQ want)]) W4) := Lib.hid (by
            have h1 := SW.addD HJ5.out (D := fb1) fo1 (fun B hB k hk e => ?_) (Nat.le_trans HJ.out.g.sz fl1)
            · rw [hW4]
              exact h1.step (B := blkA fb1 (boxF ⟨c0, c1, false, c3, c4, c5⟩)) (T := fun k => k = fb1) ((((((((Mdh.refl (fun k => k = fb1) wf1).setCell (p := ⟨fb1, 0, none⟩) rfl _).setCell (p := ⟨fb1, 1, none⟩) rfl _).setCell (p := ⟨fb1, 2, none⟩) rfl _).setCell (p := ⟨fb1, 3, none⟩) rfl _).setCell (p := ⟨fb1, 4, none⟩) rfl _).setCell (p := ⟨fb1, 5, none⟩) rfl _)) (fun k hk => .inl hk) (blk6 fo1) (fun k hk => .inl hk)
            · have := HJ.out.s.lt hB k hk
              omega)
          rw [← hW4]
          clear hW4 fl1 fh1 ft1 fo1 fc1 ff1 HG hgf1 hgg1 hg5 HJ5 HJ dm0 z0 z1 hg7 HFV
          obtain ⟨_, _, hve, _, _, hat⟩ := pair2 (show Own W4 67 2 (.slice (some ⟨g7, 0, none⟩) want.length c7) want.length (rowQ want) by rw [← HNW.out]; exact H6.out.get (i := 6) rfl)
          injection hve with g1 g2 g3
          subst g1
          obtain ⟨g7', hgg7, hg7, _, z0, z1⟩ := hat i _ HX.out
          simp only [Option.some.injEq, Addr.mk.injEq, and_true] at hgg7
          subst hgg7
          simp only at z0 z1
          have d14 := (cellsOf (show W4.heap[fb1]? = _ from H6.out.get (i := 0) rfl)).1
          (try simp only [boxF] at d14)
          have hkb : (c1.toList == c1.toList) = true := (str_beq c1 c1).trans (decide_eq_true rfl)
          have H7 : Hid (SW w (mL b rb mb n v1 v2 S ⟨X, all, nx⟩ [rowA 67 2 (.slice (some ⟨g7, 0, none⟩) nw c7) nw (rowQ want)]) W4.drew) := Lib.hid ((H6.out.sub (.cons _ (List.Sublist.refl _))).gr (Gr.refl W4).drew)
          clear hat g2 g3 H6
          go_wp2_with fail
          refine wp_region_flo (fun _ => False) [] [] (by kernel_rfl) (by kernel_rfl) (fun _ h => h.elim) ?_
          refine flo_seg 30 rfl ?_
          simp only [List.take_succ_cons, List.take_zero, List.drop_succ_cons, List.drop_zero]
          repeat (go_big_quiet_step (fail))
          refine wpQuiet_nil ?_
          refine flo_nil ?_
          go_wp2_with fail
          exact ⟨⟨i + 1, by omega, by rw [HS1.out], by simp, H7⟩, by simp [intOf]; omega⟩
        · have hli' : ¬ (i : Int) < nw := by omega
          have HTK : Hid ((want.take i).map (fun p => p.2) = want.map (fun p => p.2)) := Lib.hid (by rw [List.take_of_length_le (by have := HNW.out; omega)])
          rw [HTK.out]
          obtain rfl : i = nw := by omega
          have HKL : Hid ((liveL X).length = i ∧ ((liveL X).map (fun x => x.1)).length = i) := Lib.hid (by
            have h1 := HMI.out.len HFG.out.wf
            have h2 := HNW.out
            rw [List.length_map]
            omega)
          have HSC : Hid (sumR X (fun e => e.size) = .tuple #[.int .i64 (want.map (fun p => p.2)).sum, .int .i64 0]) := Lib.hid (by unfold sumR; rw [if_neg HFG.out.ne, HMI.out.cost HFG.out.wf])
          have HCN : Hid (sumR X (fun _ => 1) = .tuple #[.int .i64 (i : Int), .int .i64 0]) := Lib.hid (by
            unfold sumR
            rw [if_neg HFG.out.ne, sumF_map, ← HKL.out.1]
            congr 2
            have h : ∀ l : List (ByteArray × En), (l.map (fun _ => (1 : Int))).sum = l.length := by
              intro l
              induction l with
              | nil => rfl
              | cons x l ih => rw [List.map_cons, List.sum_cons, ih, List.length_cons]; omega
            rw [h])
          have HKE : Hid (∀ ky, ky ∈ (liveL X).map (fun x => x.1) → ∃ i' : Nat, fndC want ky = (i' : Int)) := Lib.hid (fun ky hk => by
            have h1 := HMI.out.key HFG.out.wf hk
            unfold fndC
            cases hp : pIdx want ky with
            | none => exact absurd hp h1
            | some i' => exact ⟨i', rfl⟩)
          have HKP : Hid (((liveL X).map (fun x => x.1)).Pairwise (fun a b => ltS a b = true)) := Lib.hid (by rw [live_keys]; exact lvK_srt HFG.out.wf)
          generalize (want.map (fun p => p.2)).sum = cs at *
          obtain ⟨keys, hkd⟩ : ∃ keys, keys = (liveL X).map (fun x => x.1) := ⟨_, rfl⟩
          rw [← hkd] at HKL HKE HKP
          have HKD := Lib.hid hkd
          clear hkd
          clear HTK hsu1 hsu3 HSUM HSS HFD
          go_wp2_with fail
          refine (live22_any (.inl ⟨b, rfl, (show IXR wr b X S from HJ.out.get (i := 0) rfl)⟩)).mono ?_
          rintro e w10 ⟨v17, v18, rfl, ho, _, hg⟩
          rw [← HKD.out, HKL.out.1] at ho
          obtain ⟨a17, c17, hv17, hc17, hm17, _⟩ := ownS_at (show Own w10 9 1 v17 keys.length (kS keys) by rw [HKL.out.2]; exact ho)
          rw [HKL.out.2] at hv17 hc17
          subst hv17
          have H10 : Hid (SW w (mL b rb mb n v1 v2 S ⟨X, all, nx⟩ [rowA 67 2 (.slice a7 i c7) i (rowQ want)]) w10 ∧ Own w10 9 1 (.slice a17 i c17) i (kS keys)) := Lib.hid ⟨HJ.out.gr hg, ho⟩
          clear ho hg dm0 HJ
          have dm0 := ((cellsOf (show w10.heap[mb]? = _ from H10.out.1.get (i := 3) rfl)).1 0).trans (show _ = some (Value.pointer (some ⟨b, 0, none⟩)) from rfl)
          go_wp2_with fail
          refine (Count_any (.inl ⟨b, rfl, (show IXR w10 b X S from H10.out.1.get (i := 0) rfl)⟩)).mono ?_
          rintro e w11 ⟨rfl, hg⟩
          rw [HCN.out]
          have H11 : Hid (SW w (mL b rb mb n v1 v2 S ⟨X, all, nx⟩ [rowA 67 2 (.slice a7 i c7) i (rowQ want)]) w11 ∧ Own w11 9 1 (.slice a17 i c17) i (kS keys)) := Lib.hid ⟨H10.out.1.gr hg, H10.out.2.gr hg⟩
          clear hg dm0 H10
          have dm0 := ((cellsOf (show w11.heap[mb]? = _ from H11.out.1.get (i := 3) rfl)).1 0).trans (show _ = some (Value.pointer (some ⟨b, 0, none⟩)) from rfl)
          go_wp2_with fail
          refine (Cost_any (.inl ⟨b, rfl, (show IXR w11 b X S from H11.out.1.get (i := 0) rfl)⟩)).mono ?_
          rintro e w12 ⟨rfl, hg⟩
          rw [HSC.out]
          have H12 : Hid (SW w (mL b rb mb n v1 v2 S ⟨X, all, nx⟩ [rowA 67 2 (.slice a7 i c7) i (rowQ want)]) w12 ∧ Own w12 9 1 (.slice a17 i c17) i (kS keys)) := Lib.hid ⟨H11.out.1.gr hg, H11.out.2.gr hg⟩
          clear hg dm0 H11
          go_wp2_with fail
          go_loopw [23] (fun t23 wx => ∃ k : Nat, k ≤ i ∧ t23 = .int .i64 k ∧ Hid (SW w (mL b rb mb n v1 v2 S ⟨X, all, nx⟩ [rowA 67 2 (.slice a7 i c7) i (rowQ want)]) wx ∧ Own wx 9 1 (.slice a17 i c17) i (kS keys))) (fun t23 _ => i - (intOf t23).toNat)
          case atStart => exact ⟨0, by omega, rfl, H12⟩
          case round =>
            obtain ⟨k, hki, rfl, HM⟩ := hrel
            clear H12
            by_cases hlk : k < i
            · have hlk' : (k : Int) < i := by omega
              obtain ⟨ky, hy⟩ : ∃ ky, keys[k]? = some ky := ⟨_, List.getElem?_eq_getElem (by have := HKL.out.2; omega)⟩
              obtain ⟨i', hfi⟩ := HKE.out ky (List.mem_of_getElem? hy)
              have HFI := Lib.hid (find22 ky HNW.out.symm (show Own wr.drew 67 2 (.slice a7 i c7) i (rowQ want) from (HM.out.1.gr (Gr.refl wr).drew).get (i := 5) rfl))
              rw [hfi] at HFI
              have hi0 : (0 : Int) ≤ (i' : Int) := by omega
              have hd0 : decide ((i' : Int) < 0) = false := decide_eq_false (by omega)
              have HE : Hid (SW w (mL b rb mb n v1 v2 S ⟨X, all, nx⟩ [rowA 67 2 (.slice a7 i c7) i (rowQ want)]) wr.drew ∧ Own wr.drew 9 1 (.slice a17 i c17) i (kS keys)) := Lib.hid ⟨HM.out.1.gr (Gr.refl wr).drew, HM.out.2.gr (Gr.refl wr).drew⟩
              clear hfi
              cases k with
              | zero =>
                obtain ⟨g17, rfl, hg17, z17⟩ := str1 HKL.out.2 HM.out.2 hy
                clear hy HM
                go_wp2_with fail
                refine wp_region_flo (fun _ => False) [] [] (by kernel_rfl) (by kernel_rfl) (fun _ h => h.elim) ?_
                refine flo_seg 5 rfl ?_
                simp only [List.take_succ_cons, List.take_zero, List.drop_succ_cons, List.drop_zero]
                repeat (go_big_quiet_step (fail))
                refine wpQuiet_nil ?_
                refine flo_eff rfl rfl rfl rfl (fun K hK => ?_)
                go_wp2_with ((go_at_call 25; refine Calls.mono HFI.out ?_; rintro e' w13 ⟨rfl, rfl⟩))
                refine ⟨by (first | (refine Gr.mdh ?_ _; (repeat (first | (with_reducible exact Gr.refl _) | assumption | (with_reducible apply Gr.from_drew) | (with_reducible apply Gr.alloc) | (with_reducible apply Gr.drew) | (with_reducible refine Gr.trans ?_ (by assumption)) | (with_reducible refine Gr.setCell ?_ (by omega) _))); done) | (repeat (first | (with_reducible exact Mdh.refl _ _) | (with_reducible refine Mdh.setCell ?_ (by simp) _) | (with_reducible refine Mdh.setNew ?_ (by simp) _) | (with_reducible apply Mdh.alloc) | (with_reducible apply Mdh.from_drew) | (with_reducible apply Mdh.drew) | (with_reducible refine Mdh.gr ?_ (by assumption))))), ?_⟩
                refine flo_seg 17 rfl ?_
                simp only [List.take_succ_cons, List.take_zero, List.drop_succ_cons, List.drop_zero]
                repeat (go_big_quiet_step (fail))
                refine wpQuiet_nil ?_
                refine flo_nil ?_
                go_wp2_with fail
                go_roundw
                case rel => exact ⟨1, by omega, by go_num, HE⟩
                case measure => simp [intOf]; omega
              | succ k' =>
                obtain ⟨kp, hyp⟩ : ∃ kp, keys[k']? = some kp := ⟨_, List.getElem?_eq_getElem (by have := HKL.out.2; omega)⟩
                have hlt1 : Op.bytesLess kp.toList ky.toList = true := by
                  obtain ⟨l1, e1⟩ := List.getElem?_eq_some_iff.1 hyp
                  obtain ⟨l2, e2⟩ := List.getElem?_eq_some_iff.1 hy
                  have := List.pairwise_iff_getElem.1 HKP.out k' (k' + 1) l1 l2 (by omega)
                  rw [e1, e2] at this
                  exact this
                have hlt2 : Op.bytesLess ky.toList kp.toList = false := by
                  cases h : Op.bytesLess ky.toList kp.toList with
                  | false => rfl
                  | true => have := bl_trn _ _ _ hlt1 h; rw [bl_irr] at this; cases this
                have hne : (ky.toList == kp.toList) = false := (str_beq ky kp).trans (decide_eq_false (fun e => by rw [e, bl_irr] at hlt1; cases hlt1))
                obtain ⟨g17, rfl, hg17, z17⟩ := str1 HKL.out.2 HM.out.2 hy
                obtain ⟨_, z18⟩ := str1g HKL.out.2 HM.out.2 hyp
                clear hy hyp HM
                go_wp2_with fail
                refine wp_region_flo (fun _ => False) [] [] (by kernel_rfl) (by kernel_rfl) (fun _ h => h.elim) ?_
                refine flo_seg 5 rfl ?_
                simp only [List.take_succ_cons, List.take_zero, List.drop_succ_cons, List.drop_zero]
                repeat (go_big_quiet_step (fail))
                refine wpQuiet_nil ?_
                refine flo_eff rfl rfl rfl rfl (fun K hK => ?_)
                go_wp2_with ((go_at_call 25; refine Calls.mono HFI.out ?_; rintro e' w13 ⟨rfl, rfl⟩))
                refine ⟨by (first | (refine Gr.mdh ?_ _; (repeat (first | (with_reducible exact Gr.refl _) | assumption | (with_reducible apply Gr.from_drew) | (with_reducible apply Gr.alloc) | (with_reducible apply Gr.drew) | (with_reducible refine Gr.trans ?_ (by assumption)) | (with_reducible refine Gr.setCell ?_ (by omega) _))); done) | (repeat (first | (with_reducible exact Mdh.refl _ _) | (with_reducible refine Mdh.setCell ?_ (by simp) _) | (with_reducible refine Mdh.setNew ?_ (by simp) _) | (with_reducible apply Mdh.alloc) | (with_reducible apply Mdh.from_drew) | (with_reducible apply Mdh.drew) | (with_reducible refine Mdh.gr ?_ (by assumption))))), ?_⟩
                refine flo_seg 17 rfl ?_
                simp only [List.take_succ_cons, List.take_zero, List.drop_succ_cons, List.drop_zero]
                repeat (go_big_quiet_step (fail))
                refine wpQuiet_nil ?_
                refine flo_nil ?_
                go_wp2_with fail
                go_roundw
                case rel => exact ⟨k' + 1 + 1, by omega, by go_num, HE⟩
                case measure => simp [intOf]; omega
            · have hlk' : ¬ (k : Int) < i := by omega
              go_wp2_with (go_at_call 22; refine (kd_works _).mono ?_; rintro e w1 ⟨rfl, hg⟩; have HG := Lib.hid hg; clear hg)
              go_ret
              exact ⟨rfl, HM.out.1.g.trans HG.out⟩
end Go.Proofs.Ythefpmmeoajaiaa
