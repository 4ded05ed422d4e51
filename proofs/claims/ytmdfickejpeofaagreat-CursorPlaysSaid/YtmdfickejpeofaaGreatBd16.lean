/- drumlinref21's Of: again and again the best of what is left. -/
import Derived.Test.YtmdfickejpeofaaGreatBd15
import Derived.Test.YtmdfickejpeofaaGreatBd12
import Derived.Test.YtmdfickejpeofaaGreatBd10
set_option linter.unusedVariables false
set_option linter.unusedSimpArgs false
namespace Go.Proofs.YtmdfickejpeofaaGreat
open Go.RowKit Go.Shelf
attribute [local go_sem] OvM cell_ovm obj_ovm
attribute [local go_sem] Oper.semAt_some

theorem fil_key {k : ByteArray} {all : List En} {i : Nat} {x : En} (h : all[i]? = some x) : (all.take (i + 1)).filter (keyF k) = (all.take i).filter (keyF k) ++ (if x.key = k then [x] else []) := by
  rw [List.take_add_one, h]
  show ((all.take i) ++ [x]).filter (keyF k) = _
  rw [List.filter_append]
  by_cases e : x.key = k
  · rw [if_pos e]; simp [keyF, e]
  · rw [if_neg e]; simp [keyF, e]
def OfP (X : IX) (k : ByteArray) (w : World) (e : Ending) (w' : World) : Prop := ∃ v, e = .returned v ∧ Nw w w' 56 6 v (X.of k).length (rowE (X.of k)) ∧ Gr w w'
set_option maxRecDepth 40000 in
set_option maxHeartbeats 8000000 in
theorem rOf_any {w : World} {rb : Nat} {N : Int} {v : Value} {all : List En} {X : IX} (h : w.heap[rb]? = some (rmO N v)) (hN : 0 < N) (ho : Own w 56 6 v all.length (rowE all)) (hw : X.Wf) (hp : all.Perm X.ents) (h1000 : all.length ≤ 1000) (k : ByteArray) :
    Calls Tryz.prog 75 #[.pointer (some ⟨rb, 0, none⟩), .string k] w (OfP X k w) := by
  have HB := Lib.hid h
  have HO := Lib.hid ho
  have HV := Lib.hid (fun W (g : Gr w W) => rvalid (g.blk h) hN)
  have HL := Lib.hid (of_left hw hp k)
  have HPW := Lib.hid (hw.ofPair k)
  have HOL := Lib.hid (hw.of_le k)
  obtain ⟨a, c, rfl, hc, hm, _⟩ := ownE_at ho
  unfold maxLen at hm
  obtain ⟨i0, hi, hz0, hz1, hz2⟩ := info_parts infoIten
  clear h ho hw hp
  go_enter Tryz.func75, Tryz.ntmps75
  go_wp2_with (go_at_call 71; refine Calls.mono (HV.out _ (Gr.refl _)) ?_; rintro e w1 ⟨rfl, rfl⟩)
  go_loopw [6, 7] (fun t6 t7 wx => ∃ (i : Nat) (v : Value), i ≤ all.length ∧ v = t6 ∧ t7 = .int .i64 i ∧ Hid (Nw w wx 56 6 v ((all.take i).filter (keyF k)).length (rowE ((all.take i).filter (keyF k))) ∧ Gr w wx)) (fun _ t7 _ => all.length - (intOf t7).toNat)
  case atStart => exact ⟨0, _, by omega, rfl, rfl, Lib.hid ⟨Nw.nil w _ _, Gr.refl _⟩⟩
  case round =>
    obtain ⟨i, v, hil, rfl, rfl, HR⟩ := hrel
    have c1 := ((cellsOf (HR.out.2.blk HB.out)).1 1).trans (show _ = some (Value.slice a all.length c) from rfl)
    by_cases hlt : i < all.length
    · have hlt' : (i : Int) < all.length := by omega
      obtain ⟨x, hx⟩ : ∃ x, all[i]? = some x := ⟨_, List.getElem?_eq_getElem hlt⟩
      obtain ⟨g0, rfl, hg0, y0, y1, y2, y3, y4, y5⟩ := ent6 (HO.out.gr HR.out.2) hx
      have HTK := Lib.hid (fil_key (k := k) hx)
      have hfl : ((all.take i).filter (keyF k)).length ≤ i := by
        have h1 := List.length_filter_le (keyF k) (all.take i)
        have h2 : (all.take i).length ≤ i := by rw [List.length_take]; omega
        omega
      generalize (all.take i).filter (keyF k) = fl at *
      clear hx
      obtain ⟨x0, x1, x2, x3, x4, x5⟩ := x
      simp only at y0 y1 y2 y3 y4 y5 HTK
      by_cases hk : x1 = k
      · subst hk
        go_wp2_with (first
          | (at_builtin; go_must (refine wpList_appv _ rfl (.tmp 31) (.tmp 39) 37 rfl 56 i0 _ 6 56 Tryz.underlying37 hi hz0 hz1 hz2 rfl (by decide) v fl.length (rowE fl) rfl (HR.out.1.own.gr (by (repeat (first | (with_reducible exact Gr.refl _) | assumption | (with_reducible apply Gr.from_drew) | (with_reducible apply Gr.alloc) | (with_reducible apply Gr.drew) | (with_reducible refine Gr.trans ?_ (by assumption)) | (with_reducible refine Gr.setCell ?_ (by omega) _))))) (some ⟨wr.heap.size, 0, none⟩) 1 1 (enC ⟨x0, x1, x2, x3, x4, x5⟩) rfl (src_newK wr (enC ⟨x0, x1, x2, x3, x4, x5⟩) _ 6 rfl (enC_one _)) (by simp only [maxLen]; omega) (by omega) ?_); intro v3 w6 hA; have N6 := Lib.hid (hA.nw (HR.out.1.gr ((Gr.refl wr).alloc _)) (by have := HR.out.2.sz; simp; omega)); have HG6 := Lib.hid (hA.gw (HR.out.1.gr ((Gr.refl wr).alloc _)) (HR.out.2.alloc _)); clear hA)
          | fail)
        go_roundw
        case rel => exact ⟨i + 1, v3, by omega, rfl, by go_num, Lib.hid ⟨by rw [HTK.out, if_pos rfl, List.length_append, rowE_snoc]; exact N6.out, HG6.out⟩⟩
        case measure => simp [intOf]; omega
      · have hkb : (x1.toList == k.toList) = false := (str_beq x1 k).trans (decide_eq_false hk)
        go_wp2_with fail
        go_roundw
        case rel => exact ⟨i + 1, v, by omega, rfl, by go_num, Lib.hid ⟨by rw [HTK.out, if_neg hk, List.append_nil]; exact HR.out.1, HR.out.2⟩⟩
        case measure => simp [intOf]; omega
    · have hlt' : ¬ (i : Int) < all.length := by omega
      have hii : i = all.length := by omega
      have HN0 := Lib.hid HR.out.1
      rw [hii, List.take_length] at HN0
      have HG0 := Lib.hid HR.out.2
      clear HR hii
      have hll : (all.filter (keyF k)).length ≤ 1000 := by
        have := List.length_filter_le (keyF k) all
        omega
      generalize all.filter (keyF k) = L0 at *
      go_wp2_with fail
      go_loopw [5, 6] (fun t5 t6 wx => ∃ (out left : List En) (v5 v6 : Value), v5 = t5 ∧ v6 = t6 ∧ Hid (Nw w wx 56 6 v5 out.length (rowE out) ∧ Nw w wx 56 6 v6 left.length (rowE left) ∧ Gr w wx ∧ (∀ q, v5.ownBlock = some q → v6.ownBlock ≠ some q) ∧ ∃ D, X.of k = out ++ D ∧ left.Perm D ∧ left.length ≤ 1000)) (fun _ t6 _ => match t6 with | .slice _ m _ => m | _ => 0)
      case atStart => exact ⟨[], L0, _, _, rfl, rfl, Lib.hid ⟨(Nw.nil w _ _).gr HG0.out, HN0.out, HG0.out, (fun q h => by cases h), X.of k, rfl, HL.out, hll⟩⟩
      case round =>
        obtain ⟨out, left, v5, v6, rfl, rfl, HI⟩ := hrel
        obtain ⟨a6, c6, rfl, hc6, hm6, _⟩ := ownE_at HI.out.2.1.own
        have hm62 := hm6
        unfold maxLen at hm62
        obtain ⟨D, hD1, hD2, hD3⟩ := HI.out.2.2.2.2
        have HD := Lib.hid (And.intro hD1 (And.intro hD2 hD3))
        clear hD1 hD2
        by_cases hl0 : left.length = 0
        · have hl : left = [] := List.eq_nil_of_length_eq_zero hl0
          have hDn : D = [] := by
            have h := HD.out.2.1.length_eq
            rw [hl0] at h
            exact List.eq_nil_of_length_eq_zero h.symm
          have HE : Hid (OfP X k w (.returned v5) wr) := Lib.hid ⟨v5, rfl, by rw [HD.out.1, hDn, List.append_nil]; exact HI.out.1, HI.out.2.2.1⟩
          have hz : ¬ (0 : Int) < left.length := by omega
          generalize OfP X k w = Q at *
          clear hl hDn
          go_wp2_with fail
          exact HE.out
        · have hz : (0 : Int) < left.length := by omega
          go_wp2_with fail
          generalize decide (0 < left.length) = B43
          go_loopw [8, 9] (fun t8 t9 wx => ∃ i bi : Nat, 1 ≤ i ∧ i ≤ left.length ∧ bi < left.length ∧ t8 = .int .i64 bi ∧ t9 = .int .i64 i ∧ Hid (selI left i bi ∧ Gr wr wx)) (fun _ t9 _ => left.length - (intOf t9).toNat)
          case atStart => exact ⟨1, 0, by omega, by omega, by omega, by go_num, by go_num, Lib.hid ⟨selI_one (by omega), Gr.refl _⟩⟩
          case round =>
            clear hz
            obtain ⟨i2, bi, hi1, hi2, hbi, rfl, rfl, HS⟩ := hrel
            by_cases hlt2 : i2 < left.length
            · have hlt2' : (i2 : Int) < left.length := by omega
              have hbi' : (bi : Int) < left.length := by omega
              obtain ⟨y, hy⟩ : ∃ y, left[i2]? = some y := ⟨_, List.getElem?_eq_getElem hlt2⟩
              obtain ⟨x, hx⟩ : ∃ x, left[bi]? = some x := ⟨_, List.getElem?_eq_getElem hbi⟩
              obtain ⟨g1, rfl, hg1, y0, _, _, y3, _, _⟩ := ent6 (HI.out.2.1.own.gr HS.out.2) hy
              obtain ⟨_, x0, _, _, x3, _, _⟩ := ent6g (HI.out.2.1.own.gr HS.out.2) hx
              have HNO := Lib.hid (fun h => selI_no HS.out.1 hx hy h)
              have HYE := Lib.hid (fun h => selI_yes HS.out.1 hx hy h)
              have HLT : Hid (ltE y x = (decide (x.seq < y.seq) || (decide (y.seq = x.seq) && decide (y.slot < x.slot)))) := Lib.hid (by
                unfold ltE
                rw [Bool.eq_iff_iff]
                simp)
              clear hx hy
              generalize y.seq = ys at *
              generalize x.seq = xs at *
              generalize y.slot = yl at *
              generalize x.slot = xl at *
              by_cases e1 : xs < ys
              · have d1 : decide (xs < ys) = true := decide_eq_true e1
                have HN2 := Lib.hid (HYE.out (by rw [HLT.out, d1]; rfl))
                go_wp2_with fail
                refine wp_region_flo (fun _ => False) [] [] (by kernel_rfl) (by kernel_rfl) (fun _ h => h.elim) ?_
                (try simp only [List.append_eq, List.cons_append, List.nil_append])
                refine flo_seg 37 rfl ?_
                simp only [List.take_succ_cons, List.take_zero, List.drop_succ_cons, List.drop_zero]
                repeat (go_big_quiet_step (fail))
                refine wpQuiet_nil ?_
                refine flo_nil ?_
                go_wp2_with fail
                go_roundw
                case rel => exact ⟨i2 + 1, i2, by omega, by omega, by omega, rfl, by go_num, Lib.hid ⟨HN2.out, HS.out.2.trans (Gr.refl wr).drew⟩⟩
                case measure => simp [intOf]; omega
              · have d1 : decide (xs < ys) = false := decide_eq_false e1
                by_cases e2 : ys = xs
                · by_cases e3 : yl < xl
                  · have d2 : (ys == xs) = true := beq_iff_eq.2 e2
                    have HN2 := Lib.hid (HYE.out (by rw [HLT.out, d1, decide_eq_true e2, decide_eq_true e3]; rfl))
                    go_wp2_with fail
                    refine wp_region_flo (fun _ => False) [] [] (by kernel_rfl) (by kernel_rfl) (fun _ h => h.elim) ?_
                    (try simp only [List.append_eq, List.cons_append, List.nil_append])
                    refine flo_seg 37 rfl ?_
                    simp only [List.take_succ_cons, List.take_zero, List.drop_succ_cons, List.drop_zero]
                    repeat (go_big_quiet_step (fail))
                    refine wpQuiet_nil ?_
                    refine flo_nil ?_
                    go_wp2_with fail
                    go_roundw
                    case rel => exact ⟨i2 + 1, i2, by omega, by omega, by omega, rfl, by go_num, Lib.hid ⟨HN2.out, HS.out.2.trans (Gr.refl wr).drew⟩⟩
                    case measure => simp [intOf]; omega
                  · have d2 : (ys == xs) = true := beq_iff_eq.2 e2
                    have HN2 := Lib.hid (HNO.out (by rw [HLT.out, d1, decide_eq_true e2, decide_eq_false e3]; rfl))
                    go_wp2_with fail
                    refine wp_region_flo (fun _ => False) [] [] (by kernel_rfl) (by kernel_rfl) (fun _ h => h.elim) ?_
                    (try simp only [List.append_eq, List.cons_append, List.nil_append])
                    refine flo_seg 37 rfl ?_
                    simp only [List.take_succ_cons, List.take_zero, List.drop_succ_cons, List.drop_zero]
                    repeat (go_big_quiet_step (fail))
                    refine wpQuiet_nil ?_
                    refine flo_nil ?_
                    go_wp2_with fail
                    go_roundw
                    case rel => exact ⟨i2 + 1, bi, by omega, by omega, by omega, rfl, by go_num, Lib.hid ⟨HN2.out, HS.out.2.trans (Gr.refl wr).drew⟩⟩
                    case measure => simp [intOf]; omega
                · have d2 : (ys == xs) = false := beq_false_of_ne e2
                  have HN2 := Lib.hid (HNO.out (by rw [HLT.out, d1, decide_eq_false e2]; rfl))
                  go_wp2_with fail
                  refine wp_region_flo (fun _ => False) [] [] (by kernel_rfl) (by kernel_rfl) (fun _ h => h.elim) ?_
                  (try simp only [List.append_eq, List.cons_append, List.nil_append])
                  refine flo_seg 37 rfl ?_
                  simp only [List.take_succ_cons, List.take_zero, List.drop_succ_cons, List.drop_zero]
                  repeat (go_big_quiet_step (fail))
                  refine wpQuiet_nil ?_
                  refine flo_nil ?_
                  go_wp2_with fail
                  go_roundw
                  case rel => exact ⟨i2 + 1, bi, by omega, by omega, by omega, rfl, by go_num, Lib.hid ⟨HN2.out, HS.out.2.trans (Gr.refl wr).drew⟩⟩
                  case measure => simp [intOf]; omega
            · have hlt2' : ¬ (i2 : Int) < left.length := by omega
              obtain rfl : i2 = left.length := by omega
              have hbi' : (bi : Int) < left.length := by omega
              obtain ⟨x, hx, hmin⟩ : ∃ x, left[bi]? = some x ∧ ∀ y ∈ left, ltE y x = false := selI_end HS.out.1
              obtain ⟨D', hDe, hDp⟩ := sel_head (List.pairwise_append.1 (HD.out.1 ▸ HPW.out)).2.1 HD.out.2.1 hx hmin
              have hol : out.length ≤ 1000 := by
                have h1 := congrArg List.length HD.out.1
                have h2 := HL.out.length_eq
                rw [List.length_append] at h1
                omega
              have HDE : Hid (X.of k = (out ++ [x]) ++ D' ∧ (left.eraseIdx bi).Perm D') := Lib.hid ⟨by rw [HD.out.1, hDe, List.append_assoc]; rfl, hDp⟩
              obtain ⟨g1, rfl, hg1, y0, y1, y2, y3, y4, y5⟩ := ent6 (HI.out.2.1.own.gr HS.out.2) hx
              obtain ⟨x0, x1, x2, x3, x4, x5⟩ := x
              simp only at y0 y1 y2 y3 y4 y5
              clear hx hmin hDe hDp
              go_wp2_with (first
                | (at_builtin; go_must (refine wpList_appv _ rfl (.tmp 88) (.tmp 93) 37 rfl 56 i0 _ 6 56 Tryz.underlying37 hi hz0 hz1 hz2 rfl (by decide) v5 out.length (rowE out) rfl ((HI.out.1.own.gr HS.out.2).gr (by (repeat (first | (with_reducible exact Gr.refl _) | assumption | (with_reducible apply Gr.from_drew) | (with_reducible apply Gr.alloc) | (with_reducible apply Gr.drew) | (with_reducible refine Gr.trans ?_ (by assumption)) | (with_reducible refine Gr.setCell ?_ (by omega) _))))) (some ⟨wr.heap.size, 0, none⟩) 1 1 (enC ⟨x0, x1, x2, x3, x4, x5⟩) rfl (src_newK wr (enC ⟨x0, x1, x2, x3, x4, x5⟩) _ 6 rfl (enC_one _)) (by simp only [maxLen]; omega) (by omega) ?_); intro v7 w5 hA; have N5 := Lib.hid (hA.nw ((HI.out.1.gr HS.out.2).gr ((Gr.refl wr).alloc _)) (by have h1 := HI.out.2.2.1.sz; have h2 := HS.out.2.sz; simp; omega)); have HG5 := Lib.hid (hA.gw ((HI.out.1.gr HS.out.2).gr ((Gr.refl wr).alloc _)) ((HI.out.2.2.1.trans HS.out.2).alloc _)); have HL5 := Lib.hid (((HI.out.2.1.gr HS.out.2).gr ((Gr.refl wr).alloc _)).mdh (hA.mdh (S := fun q => v5.ownBlock = some q) (fun g h => h)) (fun q hq hs => HI.out.2.2.2.1 q hs hq)); clear hA)
                | fail)
              have hel : (left.eraseIdx bi).length = bi + (left.length - (bi + 1)) := by rw [List.length_eraseIdx_of_lt hbi]; omega
              have HEL := Lib.hid hel
              obtain ⟨V, hV⟩ : ∃ V, V = Value.slice (some ⟨g1, 0, none⟩) left.length c6 := ⟨_, rfl⟩
              have HVE := Lib.hid hV
              rw [← hV] at HL5 ⊢
              obtain ⟨z1, n1, s1, src1, _⟩ := slice_take Tryz.underlying37 hi hz1 HL5.out.own (rowE_one left) (i := bi) (by omega)
              obtain ⟨z2, n2, s2', src2, _⟩ := slice_drop Tryz.underlying37 hi hz1 HL5.out.own (rowE_one left) (i := bi + 1) (by omega)
              have s2 : ∀ w' : World, (Instr.slice 37 V (some (.int .i64 ((bi : Int) + 1))) none none).run Tryz.prog w' = .ok (.slice z2 (left.length - (bi + 1)) n2) w' := fun w' => by rw [show ((bi : Int) + 1) = ((bi + 1 : Nat) : Int) by omega]; exact s2' w'
              rw [rowE_take] at src1
              rw [rowE_drop] at src2
              have SRC := Lib.hid (And.intro src1 src2)
              clear hel hV src1 src2 s2' y0 y1 y2 y3 y4 y5 hg1
              have hib : (bi : Int) ≤ 1000 := by have := HD.out.2.2; omega
              have hle : left.length ≤ 1000 := HD.out.2.2
              go_wp2_with fail
              refine wp_region_flo (fun _ => False) [] [] (by kernel_rfl) (by kernel_rfl) (fun _ h => h.elim) ?_
              refine flo_eff rfl rfl rfl rfl (fun K hK => ?_)
              go_wp2
              refine ⟨by (first | (refine Gr.mdh ?_ _; (repeat (first | (with_reducible exact Gr.refl _) | assumption | (with_reducible apply Gr.from_drew) | (with_reducible apply Gr.alloc) | (with_reducible apply Gr.drew) | (with_reducible refine Gr.trans ?_ (by assumption)) | (with_reducible refine Gr.setCell ?_ (by omega) _))); done) | (repeat (first | (with_reducible exact Mdh.refl _ _) | (with_reducible refine Mdh.setCell ?_ (by simp) _) | (with_reducible refine Mdh.setNew ?_ (by simp) _) | (with_reducible apply Mdh.alloc) | (with_reducible apply Mdh.from_drew) | (with_reducible apply Mdh.drew) | (with_reducible refine Mdh.gr ?_ (by assumption))))), ?_⟩
              refine flo_seg 3 rfl ?_
              simp only [List.take_succ_cons, List.take_zero, List.drop_succ_cons, List.drop_zero]
              repeat (go_big_quiet_step (fail))
              refine wpQuiet_nil ?_
              refine flo_eff rfl rfl rfl rfl (fun K hK => ?_)
              refine wp_appv _ (.tmp 95) (.tmp 98) 37 rfl 56 i0 _ 6 56 Tryz.underlying37 hi hz0 hz1 hz2 rfl (by decide) (.slice (some ⟨w5.heap.size, 0, none⟩) 0 0) 0 [] rfl ((Nw.made (w0 := w5) (w := w5) (Nat.le_refl _)).own.gr (by (repeat (first | (with_reducible exact Gr.refl _) | assumption | (with_reducible apply Gr.from_drew) | (with_reducible apply Gr.alloc) | (with_reducible apply Gr.drew) | (with_reducible refine Gr.trans ?_ (by assumption)) | (with_reducible refine Gr.setCell ?_ (by omega) _))))) z1 bi _ (rowE (left.take bi)) rfl (SRC.out.1.gr (by (repeat (first | (with_reducible exact Gr.refl _) | assumption | (with_reducible apply Gr.from_drew) | (with_reducible apply Gr.alloc) | (with_reducible apply Gr.drew) | (with_reducible refine Gr.trans ?_ (by assumption)) | (with_reducible refine Gr.setCell ?_ (by omega) _))))) (by simp only [maxLen]; omega) (by omega) (fun k3 xa hk3 => ?_); rw [Nat.zero_add, List.nil_append] at hk3; (have n3 := hk3.nw (w0 := w5) ((Nw.made (w0 := w5) (w := w5) (e := 56) (K := 6) (Nat.le_refl _)).gr (by (repeat (first | (with_reducible exact Gr.refl _) | assumption | (with_reducible apply Gr.from_drew) | (with_reducible apply Gr.alloc) | (with_reducible apply Gr.drew) | (with_reducible refine Gr.trans ?_ (by assumption)) | (with_reducible refine Gr.setCell ?_ (by omega) _))))) (Gr.sz (by (repeat (first | (with_reducible exact Gr.refl _) | assumption | (with_reducible apply Gr.from_drew) | (with_reducible apply Gr.alloc) | (with_reducible apply Gr.drew) | (with_reducible refine Gr.trans ?_ (by assumption)) | (with_reducible refine Gr.setCell ?_ (by omega) _)))))); (have m3 := hk3.gw (w0 := w5) ((Nw.made (w0 := w5) (w := w5) (e := 56) (K := 6) (Nat.le_refl _)).gr (by (repeat (first | (with_reducible exact Gr.refl _) | assumption | (with_reducible apply Gr.from_drew) | (with_reducible apply Gr.alloc) | (with_reducible apply Gr.drew) | (with_reducible refine Gr.trans ?_ (by assumption)) | (with_reducible refine Gr.setCell ?_ (by omega) _))))) (by (repeat (first | (with_reducible exact Gr.refl _) | assumption | (with_reducible apply Gr.from_drew) | (with_reducible apply Gr.alloc) | (with_reducible apply Gr.drew) | (with_reducible refine Gr.trans ?_ (by assumption)) | (with_reducible refine Gr.setCell ?_ (by omega) _))))); refine hK _ _ ⟨hk3.mdh (fun q hq => by rw [ownB hq]; right; right; exact ⟨Nat.le_refl _, by simp⟩), ?_⟩; simp only [Act.put, List.setIfInBounds_toArray, List.set_cons_succ, List.set_cons_zero]
              refine flo_seg 4 rfl ?_
              simp only [List.take_succ_cons, List.take_zero, List.drop_succ_cons, List.drop_zero]
              repeat (go_big_quiet_step (fail))
              refine wpQuiet_nil ?_
              refine flo_eff rfl rfl rfl rfl (fun K hK => ?_)
              refine wp_appv _ (.tmp 99) (.tmp 103) 37 rfl 56 i0 _ 6 56 Tryz.underlying37 hi hz0 hz1 hz2 rfl (by decide) k3 bi (rowE (left.take bi)) rfl hk3.1 z2 (left.length - (bi + 1)) _ (rowE (left.drop (bi + 1))) rfl (SRC.out.2.gr m3) (by simp only [maxLen]; omega) (by omega) (fun k5 xb hk5 => ?_); obtain ⟨a5, c5, rfl⟩ := hk5.val; refine hK _ _ ⟨hk5.mdh (fun q hq => (hk3.2.1 q hq).elim (fun h => by rw [ownB h]; exact .inr (.inl (.inr ⟨Nat.le_refl _, by simp⟩))) (fun h => .inr (.inr ⟨h, hk3.1.lt hq⟩))), ?_⟩; simp only [Act.put, List.setIfInBounds_toArray, List.set_cons_succ, List.set_cons_zero]
              refine flo_seg 1 rfl ?_
              simp only [List.take_succ_cons, List.take_zero, List.drop_succ_cons, List.drop_zero]
              repeat (go_big_quiet_step (fail))
              refine wpQuiet_nil ?_
              refine flo_nil ?_
              have n5 := hk5.nw n3 m3.sz
              have m5 := hk5.gw n3 m3
              have hcut : (left.take bi ++ left.drop (bi + 1)) = left.eraseIdx bi := (List.eraseIdx_eq_take_drop_succ left bi).symm
              rw [← rowE_app, hcut] at n5
              have hsm : bi + (left.length - (bi + 1)) < left.length := by omega
              have HNN : Hid (Nw w xb 56 6 (.slice a5 (bi + (left.length - (bi + 1))) c5) (left.eraseIdx bi).length (rowE (left.eraseIdx bi))) := Lib.hid (by rw [HEL.out]; exact ⟨n5.own, fun q hq => Nat.le_trans HG5.out.sz (n5.new q hq)⟩)
              have HNE : Hid (∀ q, v7.ownBlock = some q → (Value.slice a5 (bi + (left.length - (bi + 1))) c5).ownBlock ≠ some q) := Lib.hid (fun q hq hs => absurd (n5.new q hs) (Nat.not_le.2 (N5.out.own.lt hq)))
              have HM5 := Lib.hid m5
              clear hk3 hk5 n3 m3 n5 m5 s1 s2 SRC
              go_wp2_with fail
              exact ⟨⟨out ++ [⟨x0, x1, x2, x3, x4, x5⟩], left.eraseIdx bi, v7, _, rfl, rfl, Lib.hid ⟨by rw [List.length_append, rowE_snoc]; exact N5.out.gr HM5.out, HNN.out, HG5.out.trans HM5.out, HNE.out, D', HDE.out.1, HDE.out.2, by rw [HEL.out]; omega⟩⟩, hsm⟩
end Go.Proofs.YtmdfickejpeofaaGreat

/- drumlinref21's Slot, Newest, Last: what they answer of an index that was made. -/
set_option linter.unusedVariables false
set_option linter.unusedSimpArgs false
namespace Go.Proofs.YtmdfickejpeofaaGreat
open Go.RowKit Go.Shelf
attribute [local go_sem] OvM cell_ovm obj_ovm
attribute [local go_sem] Oper.semAt_some

/-- Where the search through a slot stands: m are out, the others lie at off or behind. -/
def slI (L : List En) (m : Nat) (off : Int) : Prop := m ≤ L.length ∧ (∀ j x, j < m → L[j]? = some x → x.off + x.size ≤ off) ∧ ∀ j x, m ≤ j → L[j]? = some x → off ≤ x.off
theorem valid_nums {e : En} (h : validE e = true) : 0 ≤ e.off ∧ 16 ≤ e.size ∧ e.size ≤ 8192 ∧ e.off ≤ 8192 - e.size := by
  simp only [validE, decide_eq_true_eq] at h
  omega
theorem slI_zero {L : List En} {s : Int} (h : SlotOk s L) : slI L 0 0 :=
  ⟨Nat.zero_le _, fun j x hj => absurd hj (Nat.not_lt_zero j), fun j x _ hx => (valid_nums (h.e x (List.mem_of_getElem? hx)).2).1⟩
theorem slI_no {L : List En} {m : Nat} {off : Int} (h : slI L m off) (hn : ∀ x ∈ L, x.off ≠ off) : slI L m (off + 1) := by
  obtain ⟨h1, h2, h3⟩ := h
  refine ⟨h1, fun j x hj hx => ?_, fun j x hj hx => ?_⟩
  · have := h2 j x hj hx; omega
  · have := h3 j x hj hx
    have := hn x (List.mem_of_getElem? hx)
    omega
theorem slI_yes {L : List En} {s : Int} (hs : SlotOk s L) {m : Nat} {off : Int} (h : slI L m off) {x : En} (hx : x ∈ L) (he : x.off = off) : L[m]? = some x ∧ slI L (m + 1) (off + x.size) := by
  obtain ⟨h1, h2, h3⟩ := h
  obtain ⟨j, hj⟩ := List.mem_iff_getElem?.1 hx
  have hjl := (List.getElem?_eq_some_iff.1 hj).1
  have hv := valid_nums (hs.e x hx).2
  have hjm : m ≤ j := by
    rcases Nat.lt_or_ge j m with h | h
    · have := h2 j x h hj; omega
    · exact h
  have hjm2 : j = m := by
    rcases Nat.eq_or_lt_of_le hjm with h | h
    · exact h.symm
    · have hml : m < L.length := by omega
      have h4 := h3 m _ (Nat.le_refl _) (List.getElem?_eq_getElem hml)
      have h5 := List.pairwise_iff_getElem.1 hs.p m j hml hjl h
      have h6 := valid_nums (hs.e _ (List.getElem_mem hml)).2
      have h7 : L[j] = x := by rw [List.getElem?_eq_getElem hjl] at hj; exact Option.some.inj hj
      rw [h7] at h5
      omega
  subst hjm2
  refine ⟨hj, by omega, fun i y hi hy => ?_, fun i y hi hy => ?_⟩
  · rcases Nat.lt_or_ge i j with h | h
    · have := h2 i y h hy; omega
    · obtain rfl : i = j := by omega
      rw [hj] at hy
      obtain rfl := Option.some.inj hy
      omega
  · have hil := (List.getElem?_eq_some_iff.1 hy).1
    have h5 := List.pairwise_iff_getElem.1 hs.p j i hjl hil (by omega)
    have h7 : L[j] = x := by rw [List.getElem?_eq_getElem hjl] at hj; exact Option.some.inj hj
    have h8 : L[i] = y := by rw [List.getElem?_eq_getElem hil] at hy; exact Option.some.inj hy
    rw [h7, h8] at h5
    omega
theorem slI_end {L : List En} {s : Int} (hs : SlotOk s L) {m : Nat} {off : Int} (h : slI L m off) (he : 8192 ≤ off) : L.take m = L := by
  obtain ⟨h1, h2, h3⟩ := h
  have : m = L.length := by
    rcases Nat.eq_or_lt_of_le h1 with h | h
    · exact h
    · have h4 := h3 m _ (Nat.le_refl _) (List.getElem?_eq_getElem h)
      have h6 := valid_nums (hs.e _ (List.getElem_mem h)).2
      omega
  rw [this, List.take_length]
def SlP (X : IX) (s : Int) (w : World) (e : Ending) (w' : World) : Prop := ∃ v, e = .returned v ∧ Nw w w' 56 6 v (X.slot s).length (rowE (X.slot s)) ∧ Gr w w'
set_option maxRecDepth 40000 in
set_option maxHeartbeats 8000000 in
theorem rSlot_any {w : World} {rb : Nat} {N : Int} {v : Value} {all : List En} {X : IX} (h : w.heap[rb]? = some (rmO N v)) (hN : 0 < N) (ho : Own w 56 6 v all.length (rowE all)) (hw : X.Wf) (hp : all.Perm X.ents) (h1000 : all.length ≤ 1000) (s : Int) :
    Calls Tryz.prog 110 #[.pointer (some ⟨rb, 0, none⟩), .int .i64 s] w (SlP X s w) := by
  have HB := Lib.hid h
  have HO := Lib.hid ho
  have HV := Lib.hid (fun W (g : Gr w W) => rvalid (g.blk h) hN)
  have HIN := Lib.hid (fun x (hx : x ∈ all) (hs : x.slot = s) => (hw.slot_mem s x).2 ⟨hp.mem_iff.1 hx, hs⟩)
  have HOUT := Lib.hid (fun x (hx : x ∈ X.slot s) => (show x ∈ all ∧ x.slot = s from ⟨hp.mem_iff.2 ((hw.slot_mem s x).1 hx).1, ((hw.slot_mem s x).1 hx).2⟩))
  have HSO := Lib.hid (hw.slotOk s)
  have HSL := Lib.hid (hw.slot_le s)
  have HP : Hid (∀ v w', Nw w w' 56 6 v (X.slot s).length (rowE (X.slot s)) → Gr w w' → SlP X s w (.returned v) w') := Lib.hid (fun v w' h g => ⟨v, rfl, h, g⟩)
  generalize SlP X s w = PP at *
  generalize X.slot s = L at *
  obtain ⟨a, c, rfl, hc, hm, _⟩ := ownE_at ho
  unfold maxLen at hm
  obtain ⟨i0, hi, hz0, hz1, hz2⟩ := info_parts infoIten
  clear h ho hw hp
  go_enter Tryz.func110, Tryz.ntmps110
  go_wp2_with (go_at_call 71; refine Calls.mono (HV.out _ (Gr.refl _)) ?_; rintro e w1 ⟨rfl, rfl⟩)
  go_loopw [5, 6] (fun t5 t6 wx => ∃ (m : Nat) (off : Int) (v : Value), v = t5 ∧ t6 = .int .i64 off ∧ 0 ≤ off ∧ off ≤ 8192 ∧ Hid (slI L m off ∧ Nw w wx 56 6 v (L.take m).length (rowE (L.take m)) ∧ Gr w wx)) (fun _ t6 _ => (8192 - intOf t6).toNat)
  case atStart => exact ⟨0, 0, _, rfl, by go_num, by omega, by omega, Lib.hid ⟨slI_zero HSO.out, Nw.nil w _ _, Gr.refl _⟩⟩
  case round =>
    obtain ⟨m, off, v, rfl, rfl, ho0, ho1, HI⟩ := hrel
    by_cases hoff : off < 8192
    · go_wp2_with fail
      go_loopw [5, 6, 7] (fun t5 t6 t7 wx => (∃ i : Nat, i ≤ all.length ∧ t7 = .int .i64 i ∧ v = t5 ∧ t6 = .int .i64 off ∧ Hid ((∀ x ∈ all.take i, x.slot = s → x.off ≠ off) ∧ Gr wr wx)) ∨ (∃ (v' : Value) (off' : Int), t7 = .int .i64 ((all.length : Int) + 1) ∧ v' = t5 ∧ t6 = .int .i64 off' ∧ off ≤ off' ∧ off' < 8192 ∧ Hid (slI L (m + 1) (off' + 1) ∧ Nw w wx 56 6 v' (L.take (m + 1)).length (rowE (L.take (m + 1))) ∧ Gr w wx))) (fun _ _ t7 _ => all.length - (intOf t7).toNat)
      case atStart => exact .inl ⟨0, by omega, by go_num, rfl, rfl, Lib.hid ⟨by simp, Gr.refl _⟩⟩
      case round =>
        rcases hrel with ⟨i, hil, rfl, rfl, rfl, HS⟩ | ⟨v', off', rfl, rfl, rfl, h1, h2, HS⟩
        · have c1 := ((cellsOf ((HI.out.2.2.trans HS.out.2).blk HB.out)).1 1).trans (show _ = some (Value.slice a all.length c) from rfl)
          by_cases hlt : i < all.length
          · have hlt' : (i : Int) < all.length := by omega
            obtain ⟨x, hx⟩ : ∃ x, all[i]? = some x := ⟨_, List.getElem?_eq_getElem hlt⟩
            obtain ⟨g0, rfl, hg0, y0, y1, y2, y3, y4, y5⟩ := ent6 (HO.out.gr (HI.out.2.2.trans HS.out.2)) hx
            have HTK : Hid (¬ (x.slot = s ∧ x.off = off) → ∀ y ∈ all.take (i + 1), y.slot = s → y.off ≠ off) := Lib.hid (fun hn y hy => by
              rw [List.take_add_one, hx] at hy
              rcases List.mem_append.1 hy with h | h
              · exact HS.out.1 y h
              · obtain rfl : y = x := by simpa using h
                exact fun h1 h2 => hn ⟨h1, h2⟩)
            have HYE : Hid (x.slot = s → x.off = off → (16 ≤ x.size ∧ x.size ≤ 8192 ∧ x.off ≤ 8192 - x.size) ∧ L[m]? = some x ∧ slI L (m + 1) (off + x.size)) := Lib.hid (fun h1 h2 => by
              have hxL := HIN.out x (List.mem_of_getElem? hx) h1
              exact ⟨(valid_nums (HSO.out.e x hxL).2).2, slI_yes HSO.out HI.out.1 hxL h2⟩)
            have HX5 := Lib.hid (fun W (g : Gr w W) => (ent6g (HO.out.gr g) hx).2.2.2.2.2.2)
            clear hx
            by_cases h1 : x.slot = s
            · by_cases h2 : x.off = off
              · obtain ⟨⟨hs1, hs2, hs3⟩, hLm, hsl⟩ := HYE.out h1 h2
                have HLT : Hid (L.take (m + 1) = L.take m ++ [x]) := Lib.hid (by rw [List.take_add_one, hLm]; rfl)
                have hlm : (L.take m).length ≤ 512 := Nat.le_trans (by rw [List.length_take]; omega) HSL.out
                have HSI := Lib.hid hsl
                clear hLm hsl HYE HTK
                obtain ⟨x0, x1, x2, x3, x4, x5⟩ := x
                simp only at y0 y1 y2 y3 y4 y5 h1 h2 hs1 hs2 hs3 HSI HX5
                subst h1 h2
                generalize L.take m = out at *
                go_wp2_with (first
                  | (at_builtin; go_must (refine wpList_appv _ rfl (.tmp 46) (.tmp 54) 37 rfl 56 i0 _ 6 56 Tryz.underlying37 hi hz0 hz1 hz2 rfl (by decide) v out.length (rowE out) rfl ((HI.out.2.1.own.gr HS.out.2).gr (by (repeat (first | (with_reducible exact Gr.refl _) | assumption | (with_reducible apply Gr.from_drew) | (with_reducible apply Gr.alloc) | (with_reducible apply Gr.drew) | (with_reducible refine Gr.trans ?_ (by assumption)) | (with_reducible refine Gr.setCell ?_ (by omega) _))))) (some ⟨wr.heap.size, 0, none⟩) 1 1 (enC ⟨x0, x1, x2, x3, x4, x5⟩) rfl (src_newK wr (enC ⟨x0, x1, x2, x3, x4, x5⟩) _ 6 rfl (enC_one _)) (by simp only [maxLen]; omega) (by omega) ?_); intro v3 w6 hA; have N6 := Lib.hid (hA.nw ((HI.out.2.1.gr HS.out.2).gr ((Gr.refl wr).alloc _)) (by have h1 := HI.out.2.2.sz; have h2 := HS.out.2.sz; simp; omega)); have HG6 := Lib.hid (hA.gw ((HI.out.2.1.gr HS.out.2).gr ((Gr.refl wr).alloc _)) ((HI.out.2.2.trans HS.out.2).alloc _)); have y56 := HX5.out _ HG6.out; have c16 := ((cellsOf (HG6.out.blk HB.out)).1 1).trans (show _ = some (Value.slice (some ⟨g0, 0, none⟩) all.length c) from rfl); clear hA)
                  | fail)
                have N7 : Hid (Nw w w6 56 6 v3 (L.take (m + 1)).length (rowE (L.take (m + 1)))) := Lib.hid (by rw [HLT.out, List.length_append, rowE_snoc]; exact N6.out)
                have HSJ : Hid (slI L (m + 1) (x4 + x5 - 1 + 1)) := Lib.hid (by rw [show x4 + x5 - 1 + 1 = x4 + x5 by omega]; exact HSI.out)
                go_roundw
                case rel => exact .inr ⟨v3, x4 + x5 - 1, by go_num, rfl, by go_num, by omega, by omega, Lib.hid ⟨HSJ.out, N7.out, HG6.out⟩⟩
                case measure => simp [intOf]; omega
              · have hn : ¬ (x.slot = s ∧ x.off = off) := fun h => h2 h.2
                have HN := Lib.hid (HTK.out hn)
                clear HTK HYE hn
                obtain ⟨x0, x1, x2, x3, x4, x5⟩ := x
                simp only at y0 y1 y2 y3 y4 y5 h1 h2
                have d1 : (x3 == s) = true := beq_iff_eq.2 h1
                have d2 : (x4 == off) = false := beq_false_of_ne h2
                clear h1 h2
                go_wp2_with fail
                go_roundw
                case rel => exact .inl ⟨i + 1, by omega, by go_num, rfl, rfl, Lib.hid ⟨HN.out, HS.out.2⟩⟩
                case measure => simp [intOf]; omega
            · have hn : ¬ (x.slot = s ∧ x.off = off) := fun h => h1 h.1
              have HN := Lib.hid (HTK.out hn)
              clear HTK HYE hn
              obtain ⟨x0, x1, x2, x3, x4, x5⟩ := x
              simp only at y0 y1 y2 y3 y4 y5 h1
              have d1 : (x3 == s) = false := beq_false_of_ne h1
              clear h1
              go_wp2_with fail
              go_roundw
              case rel => exact .inl ⟨i + 1, by omega, by go_num, rfl, rfl, Lib.hid ⟨HN.out, HS.out.2⟩⟩
              case measure => simp [intOf]; omega
          · have hlt' : ¬ (i : Int) < all.length := by omega
            obtain rfl : i = all.length := by omega
            have HJ : Hid (slI L m (off + 1)) := Lib.hid (slI_no HI.out.1 (fun x hx => HS.out.1 x (by rw [List.take_length]; exact (HOUT.out x hx).1) (HOUT.out x hx).2))
            have HNW := Lib.hid (HI.out.2.1.gr HS.out.2)
            have HGW := Lib.hid (HI.out.2.2.trans HS.out.2)
            clear HI HS
            go_wp2_with fail
            go_roundw
            case rel => exact ⟨m, off + 1, v, rfl, by go_num, by omega, by omega, Lib.hid ⟨HJ.out, HNW.out, HGW.out⟩⟩
            case measure => simp [intOf]; omega
        · have c1 := ((cellsOf (HS.out.2.2.blk HB.out)).1 1).trans (show _ = some (Value.slice a all.length c) from rfl)
          have hlt' : ¬ ((all.length : Int) + 1) < all.length := by omega
          clear HI
          go_wp2_with fail
          go_roundw
          case rel => exact ⟨m + 1, off' + 1, v', rfl, by go_num, by omega, by omega, Lib.hid HS.out⟩
          case measure => simp [intOf]; omega
    · have HE : Hid (PP (.returned v) wr) := Lib.hid (HP.out v wr (by have h := HI.out.2.1; rw [slI_end HSO.out HI.out.1 (by omega)] at h; exact h) HI.out.2.2)
      go_wp2_with fail
      exact HE.out
end Go.Proofs.YtmdfickejpeofaaGreat

/- What drumlinref21's functions answer of a pointer to an index, made or not: Slots, Slot, Of, Newest, Len. -/
set_option linter.unusedVariables false
set_option linter.unusedSimpArgs false
namespace Go.Proofs.YtmdfickejpeofaaGreat
open Go.RowKit Go.Shelf
attribute [local go_sem] OvM cell_ovm obj_ovm
attribute [local go_sem] Oper.semAt_some

/-- A reference index that was made, in block rb. -/
def RPa (w : World) (rb : Nat) (X : IX) : Prop := ∃ v all, w.heap[rb]? = some (rmO X.slots.length v) ∧ X.slots ≠ [] ∧ Own w 56 6 v all.length (rowE all) ∧ X.Wf ∧ all.Perm X.ents ∧ all.length ≤ 1000
/-- A pointer to a reference index, made or nil. -/
def RP (w : World) (p : Option Addr) (X : IX) : Prop := (p = none ∧ X = ⟨[], []⟩) ∨ ∃ rb, p = some ⟨rb, 0, none⟩ ∧ RPa w rb X
theorem RPa.gr {w w' : World} {rb : Nat} {X : IX} (h : RPa w rb X) (g : Gr w w') : RPa w' rb X := by
  obtain ⟨v, all, h1, h2, h3, h4⟩ := h
  exact ⟨v, all, g.blk h1, h2, h3.gr g, h4⟩
theorem RP.gr {w w' : World} {p : Option Addr} {X : IX} (h : RP w p X) (g : Gr w w') : RP w' p X := h.imp (fun h => h) (fun ⟨rb, e, h⟩ => ⟨rb, e, h.gr g⟩)
theorem RPa.pos {w : World} {rb : Nat} {X : IX} (h : RPa w rb X) : (0 : Int) < X.slots.length := by
  obtain ⟨v, all, h1, h2, _⟩ := h
  have := List.length_pos_iff.2 h2
  omega
theorem RP.ok {w : World} {p : Option Addr} {X : IX} (h : RP w p X) : X.Wf := by
  rcases h with ⟨_, rfl⟩ | ⟨rb, _, v, all, _, _, _, h, _⟩
  · exact none_wf
  · exact h
theorem slot_no0 (s : Int) : (⟨[], []⟩ : IX).slot s = [] := by simp [IX.slot]
theorem of_no0 (k : ByteArray) : (⟨[], []⟩ : IX).of k = [] := rfl
theorem rvalid_no (w : World) : Calls Tryz.prog 71 #[.pointer none] w fun e w' => e = .returned (.bool false) ∧ w = w' := by
  go_enter Tryz.func71, Tryz.ntmps71
  go_wp2
  go_ret
  exact ⟨rfl, rfl⟩
theorem rpSlots {w : World} {p : Option Addr} {X : IX} (h : RP w p X) : Calls Tryz.prog 59 #[.pointer p] w fun e w' => e = .returned (.int .i64 X.slots.length) ∧ w = w' := by
  rcases h with ⟨rfl, rfl⟩ | ⟨rb, rfl, h⟩
  · go_enter Tryz.func59, Tryz.ntmps59
    go_wp2_with (go_at_call 71; refine Calls.mono (rvalid_no _) ?_; rintro e w1 ⟨rfl, rfl⟩)
    go_ret
    exact ⟨rfl, rfl⟩
  · have hN := h.pos
    obtain ⟨v, all, h1, _⟩ := h
    exact rSlots h1 hN
theorem rpOf {w : World} {p : Option Addr} {X : IX} (h : RP w p X) (k : ByteArray) : Calls Tryz.prog 75 #[.pointer p, .string k] w (OfP X k w) := by
  rcases h with ⟨rfl, rfl⟩ | ⟨rb, rfl, h⟩
  · have HE : Hid (∀ W, Gr w W → OfP ⟨[], []⟩ k w (.returned (.slice none 0 0)) W) := Lib.hid (fun W g => ⟨_, rfl, (Nw.nil w _ _).gr g, g⟩)
    generalize OfP ⟨[], []⟩ k w = Q at *
    go_enter Tryz.func75, Tryz.ntmps75
    go_wp2_with (go_at_call 71; refine Calls.mono (rvalid_no _) ?_; rintro e w1 ⟨rfl, rfl⟩)
    go_loopw [5, 6] (fun t5 t6 wx => t5 = .slice none 0 0 ∧ t6 = .slice none 0 0 ∧ Gr w wx) (fun _ t6 _ => match t6 with | .slice _ m _ => m | _ => 0)
    case atStart => exact ⟨rfl, rfl, by (repeat (first | (with_reducible exact Gr.refl _) | assumption | (with_reducible apply Gr.from_drew) | (with_reducible apply Gr.alloc) | (with_reducible apply Gr.drew) | (with_reducible refine Gr.trans ?_ (by assumption)) | (with_reducible refine Gr.setCell ?_ (by omega) _)))⟩
    case round =>
      obtain ⟨rfl, rfl, hg⟩ := hrel
      go_wp2_with fail
      exact HE.out _ hg
  · have hN := h.pos
    obtain ⟨v, all, h1, _, h3, h4, h5, h6⟩ := h
    exact rOf_any h1 hN h3 h4 h5 h6 k
theorem rpSlot {w : World} {p : Option Addr} {X : IX} (h : RP w p X) (s : Int) : Calls Tryz.prog 110 #[.pointer p, .int .i64 s] w (SlP X s w) := by
  rcases h with ⟨rfl, rfl⟩ | ⟨rb, rfl, h⟩
  · have HE : Hid (SlP ⟨[], []⟩ s w (.returned (.slice none 0 0)) w) := Lib.hid ⟨_, rfl, by rw [slot_no0]; exact Nw.nil w _ _, Gr.refl w⟩
    generalize SlP ⟨[], []⟩ s w = Q at *
    go_enter Tryz.func110, Tryz.ntmps110
    go_wp2_with (go_at_call 71; refine Calls.mono (rvalid_no _) ?_; rintro e w1 ⟨rfl, rfl⟩)
    exact HE.out
  · have hN := h.pos
    obtain ⟨v, all, h1, _, h3, h4, h5, h6⟩ := h
    exact rSlot_any h1 hN h3 h4 h5 h6 s
theorem Gr.cell6 {w w' : World} (g : Gr w w') {b : Nat} (h : w.heap.size ≤ b) (u0 u1 u2 u3 u4 u5 : Value) : Gr w ((((((w'.setCell ⟨b, 0, none⟩ u0).setCell ⟨b, 1, none⟩ u1).setCell ⟨b, 2, none⟩ u2).setCell ⟨b, 3, none⟩ u3).setCell ⟨b, 4, none⟩ u4).setCell ⟨b, 5, none⟩ u5) :=
  (g.cell5 h u0 u1 u2 u3 u4).setCell (p := ⟨b, 5, none⟩) h u5
set_option maxRecDepth 40000 in
set_option maxHeartbeats 4000000 in
theorem rpNewest {w : World} {p : Option Addr} {X : IX} (h : RP w p X) (k : ByteArray) : Calls Tryz.prog 161 #[.pointer p, .string k] w fun e w' => e = .returned (newV (X.of k)) ∧ Gr w w' := by
  have H := Lib.hid h
  clear h
  obtain ⟨w0, hw0⟩ : ∃ y, y = w.alloc (.cells #[.int .i64 0, .string ⟨#[]⟩, .bool false, .int .i64 0, .int .i64 0, .int .i64 0] 56) := ⟨_, rfl⟩
  obtain ⟨b4, hb4⟩ : ∃ q, q = w.heap.size := ⟨_, rfl⟩
  have HG0 : Hid (Gr w w0) := Lib.hid (by rw [hw0]; exact (Gr.refl w).alloc _)
  have HX0 : Hid (w0.heap[b4]? = some (.cells #[.int .i64 0, .string ⟨#[]⟩, .bool false, .int .i64 0, .int .i64 0, .int .i64 0] 56)) := Lib.hid (by rw [hw0, hb4]; exact blkNew _ _)
  have HBW : Hid (w.heap.size ≤ b4) := Lib.hid (Nat.le_of_eq hb4.symm)
  have HOF : Hid (∀ W, Gr w W → Calls Tryz.prog 75 #[.pointer p, .string k] W (fun e w' => ∃ v, e = .returned v ∧ Nw W w' 56 6 v (X.of k).length (rowE (X.of k)) ∧ Gr W w')) := Lib.hid (fun W g => rpOf (H.out.gr g) k)
  generalize X.of k = L at *
  clear H
  go_enter Tryz.func161, Tryz.ntmps161
  go_upto_region 2 with (first
    | (go_at_call 75; rw [← hw0, ← hb4]; clear hw0 hb4; refine Calls.mono (HOF.out _ HG0.out) ?_; rintro e w1 ⟨v, rfl, hn, hg⟩; have HN1 := Lib.hid hn; have HG1 := Lib.hid (HG0.out.trans hg); have HX1 := Lib.hid (hg.blk HX0.out); clear hn hg; obtain ⟨d4, f4⟩ := cellsOf HX1.out; obtain ⟨a1, c1, rfl, _, hm1, _⟩ := ownE_at HN1.out.own)
    | fail)
  rcases L with _ | ⟨x, L⟩
  · simp only [List.length_nil]
    have hb6 := blk6 (y0 := .int .i64 0) (y1 := .string ⟨#[]⟩) (y2 := .bool false) (y3 := .int .i64 0) (y4 := .int .i64 0) (y5 := .int .i64 0) HX1.out
    obtain ⟨d6, _⟩ := cellsOf hb6
    go_wp2_with fail
    refine bodyPost_ret (v := newV []) ?_ rfl ⟨rfl, HG1.out.cell6 HBW.out _ _ _ _ _ _⟩
    simp [results, Tryz.results161, go_sem, d6, newV, enV, zE]
  · obtain ⟨g1, rfl, hg1, y0, y1, y2, y3, y4, y5⟩ := ent6 HN1.out.own (i := 0) rfl
    simp only [Nat.zero_mul, Nat.zero_add] at y0 y1 y2 y3 y4 y5
    have hl : (0 : Int) < (x :: L).length := by simp
    have hl2 : (((x :: L).length : Int) == 0) = false := beq_false_of_ne (by omega)
    obtain ⟨n, hn⟩ : ∃ n, n = (x :: L).length := ⟨_, rfl⟩
    rw [← hn] at hl hl2 ⊢
    have hne : g1 ≠ b4 := fun e => by
      obtain ⟨cs, h⟩ := own_blk HN1.out.own (g := g1) rfl
      have h1 := HN1.out.new g1 rfl
      have h2 := blkLt HX0.out
      omega
    have hne' : b4 ≠ g1 := fun e => hne e.symm
    obtain ⟨x0, x1, x2, x3, x4, x5⟩ := x
    simp only at y0 y1 y2 y3 y4 y5
    go_upto_region 4 with fail
    go_wp2_with fail
    have hb6 := blk6 (y0 := .int .i64 x0) (y1 := .string x1) (y2 := .bool x2) (y3 := .int .i64 x3) (y4 := .int .i64 x4) (y5 := .int .i64 x5) HX1.out
    obtain ⟨d6, _⟩ := cellsOf hb6
    refine bodyPost_ret (v := newV (⟨x0, x1, x2, x3, x4, x5⟩ :: L)) ?_ rfl ⟨rfl, HG1.out.cell6 HBW.out _ _ _ _ _ _⟩
    simp [results, Tryz.results161, go_sem, d6, newV, enV]
end Go.Proofs.YtmdfickejpeofaaGreat

/- What a builder of chapters 21, 23, 24, 28 keeps: an index filled by moves. No walk. -/
set_option linter.unusedVariables false
set_option linter.unusedSimpArgs false
namespace Go.Proofs.YtmdfickejpeofaaGreat

/-- An index behind moves: its entries in the order in which they were added, where each slot ends, the next number, how many moves. -/
structure FI (X : IX) (all : List En) (en : Int → Int) (nx j n : Int) : Prop where
  wf : X.Wf
  ln : (X.slots.length : Int) = n
  n0 : 1 ≤ n
  pm : all.Perm X.ents
  en0 : ∀ s, 0 ≤ en s ∧ en s ≤ 68 * j
  up : ∀ e ∈ all, e.off + e.size ≤ en e.slot
  j0 : 0 ≤ j
  nx0 : 1 ≤ nx
  nx1 : nx ≤ j + 1
  sq : ∀ e ∈ all, e.seq < nx
  cp : ∀ a ∈ all, ∀ b ∈ all, a.seq = b.seq → a.key = b.key ∧ a.del = b.del ∧ a.size = b.size
  sm : ∀ e ∈ all, e.size ≤ 68 ∧ e.key.size ≤ 3 ∧ Low e.key
def upd (en : Int → Int) (s v : Int) : Int → Int := fun t => if t = s then v else en t
theorem upd_same (en : Int → Int) (s v : Int) : upd en s v s = v := if_pos rfl
theorem upd_other (en : Int → Int) {s t : Int} (v : Int) (h : t ≠ s) : upd en s v t = en t := if_neg h
section
variable {X : IX} {all : List En} {en : Int → Int} {nx j n : Int}
theorem clash_end {l : List En} {e : En} (h : ∀ o ∈ l, o.off + o.size ≤ e.off) (hp : ∀ o ∈ l, 0 < o.size) : clash l e = false := by
  have hc : cnt (offP e.off) l = l.length := by
    refine (cnt_uniq (offP e.off) l l.length (Nat.le_refl _) (fun i x _ hx => ?_) (fun i x hi hx => ?_)).symm
    · have hm := List.mem_of_getElem? hx
      have := h x hm
      have := hp x hm
      unfold offP
      exact decide_eq_true (by omega)
    · have := (List.getElem?_eq_some_iff.1 hx).1; omega
  unfold clash
  rw [hc, List.getElem?_eq_none (Nat.le_refl _)]
  simp only [Bool.false_or]
  cases hl : l[l.length - 1]? with
  | none => simp
  | some o =>
    have := h o (List.mem_of_getElem? hl)
    simp only [Bool.and_eq_false_iff]
    exact .inr (decide_eq_false (by omega))
theorem FI.mem (h : FI X all en nx j n) (e : En) : e ∈ all ↔ e ∈ X.ents := h.pm.mem_iff
theorem FI.slot (h : FI X all en nx j n) (s : Int) (e : En) : e ∈ X.slot s ↔ e ∈ all ∧ e.slot = s := by rw [h.mem]; exact h.wf.slot_mem s e
theorem FI.of (h : FI X all en nx j n) (k : ByteArray) (e : En) : e ∈ X.of k ↔ e ∈ all ∧ e.key = k := by rw [h.mem]; exact h.wf.of_mem k e
theorem FI.ne (h : FI X all en nx j n) : X.slots ≠ [] := fun h0 => by have := h.ln; have := h.n0; rw [h0] at *; simp at *; omega
theorem FI.has (h : FI X all en nx j n) {s : Int} (h0 : 0 ≤ s) (h1 : s < n) : X.has s = true := by
  unfold IX.has
  exact decide_eq_true ⟨h0, by have := h.ln; omega⟩
theorem FI.clash (h : FI X all en nx j n) {e : En} (ho : e.off = en e.slot) : clash (X.slot e.slot) e = false := by
  refine clash_end (fun o hm => ?_) (fun o hm => ?_)
  · obtain ⟨h1, h2⟩ := (h.slot _ o).1 hm
    have := h.up o h1
    rw [h2] at this
    omega
  · obtain ⟨h1, h2⟩ := (h.slot _ o).1 hm
    have := (valid_iff o).1 (h.wf.valid ((h.mem o).1 h1)).1
    omega
theorem FI.later (h : FI X all en nx j n) {j' : Int} (hj : j ≤ j') : FI X all en nx j' n :=
  ⟨h.wf, h.ln, h.n0, h.pm, fun s => ⟨(h.en0 s).1, by have := (h.en0 s).2; omega⟩, h.up, by have := h.j0; omega, h.nx0, by have := h.nx1; omega, h.sq, h.cp, h.sm⟩
/-- An entry that goes behind those of its slot. -/
theorem FI.push (h : FI X all en nx j n) {e : En} {nx' : Int} (a : AddOk X e) (ho : e.off = en e.slot) (hs : e.size ≤ 68 ∧ e.key.size ≤ 3 ∧ Low e.key) (h1 : nx ≤ nx') (h2 : nx' ≤ j + 2) (h3 : e.seq < nx')
    (hc : ∀ o ∈ all, o.seq = e.seq → o.key = e.key ∧ o.del = e.del ∧ o.size = e.size) : FI (addX X e) (all ++ [e]) (upd en e.slot (e.off + e.size)) nx' (j + 1) n := by
  have hv := (valid_iff e).1 a.valid
  have he := h.en0 e.slot
  have hle : ∀ s, en s ≤ upd en e.slot (e.off + e.size) s := fun s => by
    unfold upd
    split
    · rename_i h0; subst h0; omega
    · exact Int.le_refl _
  refine ⟨add_wf h.wf a, ?_, h.n0, ?_, fun s => ?_, fun o hm => ?_, by have := h.j0; omega, by have := h.nx0; omega, by omega, fun o hm => ?_, fun x hx y hy hq => ?_, fun o hm => ?_⟩
  · rw [addX_eq a]; simp only [List.length_set]; exact h.ln
  · exact (List.perm_append_singleton e all).trans ((h.pm.cons e).trans (add_ents h.wf a).symm)
  · have := h.en0 s
    unfold upd
    split
    · omega
    · omega
  · rcases List.mem_append.1 hm with hm | hm
    · exact Int.le_trans (h.up o hm) (hle _)
    · rw [List.mem_singleton.1 hm, upd_same]
      exact Int.le_refl _
  · rcases List.mem_append.1 hm with hm | hm
    · have := h.sq o hm; omega
    · rw [List.mem_singleton.1 hm]; exact h3
  · rcases List.mem_append.1 hx with hx1 | hx1 <;> rcases List.mem_append.1 hy with hy1 | hy1
    · exact h.cp x hx1 y hy1 hq
    · obtain rfl := List.mem_singleton.1 hy1
      exact hc x hx1 hq
    · obtain rfl := List.mem_singleton.1 hx1
      obtain ⟨q1, q2, q3⟩ := hc y hy1 hq.symm
      exact ⟨q1.symm, q2.symm, q3.symm⟩
    · obtain rfl := List.mem_singleton.1 hx1
      obtain rfl := List.mem_singleton.1 hy1
      exact ⟨rfl, rfl, rfl⟩
  · rcases List.mem_append.1 hm with hm | hm
    · exact h.sm o hm
    · rw [List.mem_singleton.1 hm]; exact hs
/-- A new entry. -/
theorem FI.newOk (h : FI X all en nx j n) {e : En} (hj : j < 100) (hq : e.seq = nx) (h0 : 0 ≤ e.slot) (h1 : e.slot < n) (ho : e.off = en e.slot) (hk : keyChk e.key = 0) (hz : 16 + (e.key.size : Int) ≤ e.size) (hz2 : e.size = 16 + (e.key.size : Int) ∨ e.del = false) (hs : e.size ≤ 68) : AddOk X e := by
  have he := h.en0 e.slot
  have hx := h.nx0
  have hx1 := h.nx1
  refine ⟨h.ne, h.has h0 h1, (valid_iff e).2 ⟨hk, by omega, by omega, by omega, hz, hz2, by omega, by omega⟩, fun o hm => ?_, fun o hm => ?_, h.clash ho⟩
  · have := h.sq o ((h.of _ o).1 hm).1
    exact badE_no (fun hh => by omega)
  · have := h.sq o ((h.of _ o).1 hm).1
    unfold sameE
    exact decide_eq_false (fun hh => by omega)
theorem FI.new (h : FI X all en nx j n) {e : En} (hj : j < 100) (hq : e.seq = nx) (h0 : 0 ≤ e.slot) (h1 : e.slot < n) (ho : e.off = en e.slot) (hk : keyChk e.key = 0) (hz : 16 + (e.key.size : Int) ≤ e.size) (hz2 : e.size = 16 + (e.key.size : Int) ∨ e.del = false) (hs : e.size ≤ 68) (hkz : e.key.size ≤ 3) (hl : Low e.key) :
    addE X e = 0 ∧ FI (addX X e) (all ++ [e]) (upd en e.slot (e.off + e.size)) (nx + 1) (j + 1) n :=
  have a := h.newOk hj hq h0 h1 ho hk hz hz2 hs
  ⟨ok_add a, h.push a ho ⟨hs, hkz, hl⟩ (by omega) (by have := h.nx1; omega) (by omega) (fun o hm hh => by have := h.sq o hm; omega)⟩
/-- A copy: refused where the slot has one. -/
theorem FI.copyBad (h : FI X all en nx j n) {x e : En} (hx : x ∈ all) (he : e = { x with slot := e.slot, off := e.off }) : ∀ o ∈ X.of e.key, badE e o = false := by
  intro o hm
  obtain ⟨h1, h2⟩ := (h.of _ o).1 hm
  refine badE_no (fun hh => ?_)
  have e1 : e.seq = x.seq := by rw [he]
  have e3 : e.del = x.del := by rw [he]
  have e4 : e.size = x.size := by rw [he]
  obtain ⟨q1, q2, q3⟩ := h.cp o h1 x hx (by rw [hh, e1])
  exact En.ext' hh h2 (by rw [e3]; exact q2) rfl rfl (by rw [e4]; exact q3)
theorem FI.copyValid (h : FI X all en nx j n) {x e : En} (hj : j < 100) (hx : x ∈ all) (he : e = { x with slot := e.slot, off := e.off }) (ho : e.off = en e.slot) : validE e = true := by
  have hv := (valid_iff x).1 (h.wf.valid ((h.mem x).1 hx)).1
  have hs := h.sm x hx
  have he0 := h.en0 e.slot
  have e1 : e.seq = x.seq := by rw [he]
  have e2 : e.key = x.key := by rw [he]
  have e3 : e.del = x.del := by rw [he]
  have e4 : e.size = x.size := by rw [he]
  refine (valid_iff e).2 ⟨by rw [e2]; exact hv.1, by omega, by omega, by omega, by rw [e2]; omega, ?_, by omega, by omega⟩
  rw [e2, e3, e4]
  exact hv.2.2.2.2.2.1
theorem FI.copyNo (h : FI X all en nx j n) {x e : En} (hj : j < 100) (hx : x ∈ all) (he : e = { x with slot := e.slot, off := e.off }) (h0 : 0 ≤ e.slot) (h1 : e.slot < n) (ho : e.off = en e.slot) (hd : all.any (fun o => decide (o.slot = e.slot) && decide (o.seq = e.seq)) = true) :
    addE X e = 6 ∧ FI (addX X e) all en nx (j + 1) n := by
  have h6 : addE X e = 6 := by
    refine add_6 h.ne (h.has h0 h1) (h.copyValid hj hx he ho) (h.copyBad hx he) ?_
    rw [Bool.or_eq_true]
    refine .inl ?_
    obtain ⟨o, hm, hh⟩ := List.any_eq_true.1 hd
    simp only [Bool.and_eq_true, decide_eq_true_eq] at hh
    have e1 : e.seq = x.seq := by rw [he]
    have e2 : e.key = x.key := by rw [he]
    obtain ⟨q1, _, _⟩ := h.cp o hm x hx (by rw [hh.2, e1])
    exact List.any_eq_true.2 ⟨o, (h.of _ o).2 ⟨hm, by rw [q1, e2]⟩, decide_eq_true ⟨hh.2, hh.1⟩⟩
  refine ⟨h6, ?_⟩
  rw [addX_no (by rw [h6]; decide)]
  exact h.later (by omega)
theorem FI.copyYes (h : FI X all en nx j n) {x e : En} (hj : j < 100) (hx : x ∈ all) (he : e = { x with slot := e.slot, off := e.off }) (h0 : 0 ≤ e.slot) (h1 : e.slot < n) (ho : e.off = en e.slot) (hd : all.any (fun o => decide (o.slot = e.slot) && decide (o.seq = e.seq)) = false) :
    addE X e = 0 ∧ FI (addX X e) (all ++ [e]) (upd en e.slot (e.off + e.size)) nx (j + 1) n := by
  have e1 : e.seq = x.seq := by rw [he]
  have e2 : e.key = x.key := by rw [he]
  have e3 : e.del = x.del := by rw [he]
  have e4 : e.size = x.size := by rw [he]
  have a : AddOk X e := ⟨h.ne, h.has h0 h1, h.copyValid hj hx he ho, h.copyBad hx he, fun o hm => by
    have h2 := (h.of _ o).1 hm
    have h3 := List.any_eq_false.1 hd o h2.1
    unfold sameE
    refine decide_eq_false (fun hh => ?_)
    simp [hh.1, hh.2] at h3, h.clash ho⟩
  have hs := h.sm x hx
  refine ⟨ok_add a, h.push a ho (by rw [e4, e2]; exact hs) (Int.le_refl _) (by have := h.nx1; omega) (by rw [e1]; exact h.sq x hx) (fun o hm hh => ?_)⟩
  rw [e2, e3, e4]
  exact h.cp o hm x hx (by rw [hh, e1])
/-- A slot is emptied. -/
theorem FI.drop (h : FI X all en nx j n) {s : Int} (h0 : 0 ≤ s) (h1 : s < n) :
    dropC X s = 0 ∧ (X.slot s).length + (all.filter (fun o => !decide (o.slot = s))).length = all.length ∧ FI (dropX X s) (all.filter (fun o => !decide (o.slot = s))) (upd en s 0) nx (j + 1) n := by
  have hh := h.has h0 h1
  have hp := drop_ents h.wf hh
  have hw := drop_wf h.wf s
  have hne : ∀ o ∈ (dropX X s).ents, (!decide (o.slot = s)) = true := fun o ho => by
    simp only [Bool.not_eq_true', decide_eq_false_iff_not]
    intro e
    have h2 := (hw.slot_mem s o).2 ⟨ho, e⟩
    rw [drop_slot h.wf, if_pos rfl] at h2
    cases h2
  have hs : ∀ o ∈ X.slot s, ¬ (!decide (o.slot = s)) = true := fun o ho => by simp [((h.wf.slot_mem s o).1 ho).2]
  have hpm : (all.filter (fun o => !decide (o.slot = s))).Perm (dropX X s).ents := by
    have h2 := (h.pm.trans hp).filter (fun o => !decide (o.slot = s))
    rw [List.filter_append, List.filter_eq_nil_iff.2 hs, List.nil_append, List.filter_eq_self.2 hne] at h2
    exact h2
  refine ⟨if_pos hh, ?_, hw, ?_, h.n0, hpm, fun t => ?_, fun o ho => ?_, by have := h.j0; omega, h.nx0, by have := h.nx1; omega, fun o ho => h.sq o (List.mem_filter.1 ho).1, fun a ha b hb => h.cp a (List.mem_filter.1 ha).1 b (List.mem_filter.1 hb).1, fun o ho => h.sm o (List.mem_filter.1 ho).1⟩
  · have h2 := (h.pm.trans hp).length_eq
    have h3 := hpm.length_eq
    rw [List.length_append] at h2
    omega
  · rw [drop_yes hh]; simp only [List.length_set]; exact h.ln
  · have := h.en0 t
    have := h.j0
    unfold upd
    split <;> omega
  · obtain ⟨h2, h3⟩ := List.mem_filter.1 ho
    simp only [Bool.not_eq_true', decide_eq_false_iff_not] at h3
    rw [upd_other _ _ h3]
    exact h.up o h2
end
theorem FI.start (n : Nat) (h1 : 1 ≤ n) (h2 : n ≤ 32) : FI (ixNew n) [] (fun _ => 0) 1 0 n :=
  ⟨new_wf h2, by simp [ixNew], by omega, by simp [ixNew, IX.ents], fun _ => ⟨by omega, by omega⟩, (fun _ h => by cases h), by omega, by omega, by omega, (fun _ h => by cases h), (fun _ h => by cases h), (fun _ h => by cases h)⟩
end Go.Proofs.YtmdfickejpeofaaGreat

/- A box of an entry; six numbers, one for each slot. -/
set_option linter.unusedVariables false
set_option linter.unusedSimpArgs false
namespace Go.Proofs.YtmdfickejpeofaaGreat
open Go.RowKit Go.Shelf

abbrev boxF (e : En) : Obj := .cells #[.int .i64 e.seq, .string e.key, .bool e.del, .int .i64 e.slot, .int .i64 e.off, .int .i64 e.size] 56
theorem SW.put {w0 w w' : World} {R : List Asn} {b : Nat} {o o' : Obj} (h : SW w0 (blkA b o :: R) w) (m : Mdh (fun k => k = b) w w') (hB : w'.heap[b]? = some o') : SW w0 (blkA b o' :: R) w' := h.step m (fun _ hk => .inl hk) hB (fun _ hk => .inl hk)
theorem us_get (us : Int → Int) (σ : Nat) (h : σ < 6) : (#[.int .i64 (us 0), .int .i64 (us 1), .int .i64 (us 2), .int .i64 (us 3), .int .i64 (us 4), .int .i64 (us 5)] : Array Value)[σ]? = some (.int .i64 (us σ)) := by
  have h' : σ = 0 ∨ σ = 1 ∨ σ = 2 ∨ σ = 3 ∨ σ = 4 ∨ σ = 5 := by omega
  rcases h' with rfl | rfl | rfl | rfl | rfl | rfl <;> rfl
theorem us_set (us : Int → Int) (σ : Nat) (h : σ < 6) (u : Int) : (#[.int .i64 (us 0), .int .i64 (us 1), .int .i64 (us 2), .int .i64 (us 3), .int .i64 (us 4), .int .i64 (us 5)] : Array Value).setIfInBounds σ (.int .i64 u) = #[.int .i64 (upd us σ u 0), .int .i64 (upd us σ u 1), .int .i64 (upd us σ u 2), .int .i64 (upd us σ u 3), .int .i64 (upd us σ u 4), .int .i64 (upd us σ u 5)] := by
  have h' : σ = 0 ∨ σ = 1 ∨ σ = 2 ∨ σ = 3 ∨ σ = 4 ∨ σ = 5 := by omega
  rcases h' with rfl | rfl | rfl | rfl | rfl | rfl <;> simp [upd]
end Go.Proofs.YtmdfickejpeofaaGreat
