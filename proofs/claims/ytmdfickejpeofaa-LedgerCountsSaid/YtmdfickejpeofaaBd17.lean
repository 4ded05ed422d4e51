/- drumlinref21's index: the walk of Add. -/
import Derived.Test.YtmdfickejpeofaaBd13
import Derived.Test.YtmdfickejpeofaaBd16
import Derived.Test.YtmdfickejpeofaaBd15
set_option linter.unusedVariables false
set_option linter.unusedSimpArgs false
namespace Go.Proofs.Ytmdfickejpeofaa
open Go.RowKit Go.Shelf
attribute [local go_sem] OvM cell_ovm obj_ovm
attribute [local go_sem] Oper.semAt_some

/-- An element of a new block, as a source of an append. -/
theorem src_blk {w : World} {b : Nat} {e : En} {t : TypeId} (h : w.heap[b]? = some (.cells #[.int .i64 e.seq, .string e.key, .bool e.del, .int .i64 e.slot, .int .i64 e.off, .int .i64 e.size] t)) : SrcAt w 6 (some ⟨b, 0, none⟩) 1 (enC e) :=
  ⟨rfl, enC_one e, .inr ⟨_, rfl, fun j u hj => by
    rw [addr_add, Nat.zero_add]
    refine ((cellsOf h).1 j).trans ?_
    rw [← hj, List.getElem?_toArray]
    rfl⟩⟩
abbrev rIx (rb : Nat) (N : Int) (v : Value) (all : List En) (R : List Asn) : List Asn := blkA rb (rmO N v) :: rowA 53 6 v all.length (rowE all) :: R
def RAddP (w0 w : World) (rb : Nat) (N : Int) (all : List En) (R : List Asn) (e : En) (r : Ending) (w' : World) : Prop :=
  r = .returned (.int .i64 (rAddC N all e)) ∧ Mdh (fun k => k = rb) w w' ∧ ∃ v', SW w0 (rIx rb N v' (rAddL N all e) R) w'
theorem rAddP_no {w0 w w' : World} {rb : Nat} {N : Int} {v : Value} {all : List En} {R : List Asn} {e : En} {b : Nat} {o : Obj} {c : Int} (h : SW w0 (blkA b o :: rIx rb N v all R) w') (g : Gr w w') (hc : rAddC N all e = c) (h0 : c ≠ 0) : RAddP w0 w rb N all R e (.returned (.int .i64 c)) w' := by
  refine ⟨ret_int hc.symm, g.mdh _, v, ?_⟩
  unfold rAddL
  rw [hc, if_neg h0]
  exact h.sub (.cons _ (List.Sublist.refl _))
set_option maxRecDepth 40000 in
set_option maxHeartbeats 8000000 in
theorem rAdd {w0 w : World} {rb : Nat} {N : Int} {v : Value} {all : List En} {R : List Asn} (e : En) (h : SW w0 (rIx rb N v all R) w) (hN : 1 ≤ N) (hb : ∀ o ∈ all, 0 ≤ o.off ∧ o.off ≤ 8192 ∧ 0 ≤ o.size ∧ o.size ≤ 8192) (hk : e.key.size ≤ 140737488351232) (hn : all.length ≤ 200) :
    Calls Try.prog 21 #[.pointer (some ⟨rb, 0, none⟩), enV e] w (RAddP w0 w rb N all R e) := by
  obtain ⟨i0, hi, hz0, hz1, hz2⟩ := info_parts infoIten
  have H := Lib.hid h
  have HB := Lib.hid hb
  have HVE := Lib.hid (rValid e hk)
  have hN0 : 0 < N := by omega
  obtain ⟨av, cv, rfl, hcv, hmv, _⟩ := ownE_at (show Own w 53 6 v all.length (rowE all) from h.get (i := 1) rfl)
  unfold maxLen at hmv
  have HVI := Lib.hid (valid_iff e)
  have HRC : Hid (rAddC N all e = if e.slot < 0 ∨ N ≤ e.slot then 3 else if validE e = false then 2 else if all.any (rBad e) = true then 2 else if all.any (rHav e) = true then 6 else 0) := Lib.hid rfl
  have HRL : Hid (rAddC N all e = 0 → rAddL N all e = all ++ [e]) := Lib.hid (fun h => if_pos h)
  have HTB := Lib.hid (fun (i : Nat) (x : En) (hx : all[i]? = some x) => rany_snoc (p := rBad e) hx)
  have HTH := Lib.hid (fun (i : Nat) (x : En) (hx : all[i]? = some x) => rany_snoc (p := rHav e) hx)
  have HBE : Hid (∀ x : En, rBad e x = decide (x.seq = e.seq ∧ x.key = e.key ∧ (x.del ≠ e.del ∨ x.size ≠ e.size))) := Lib.hid (fun x => rfl)
  have HHE : Hid (∀ x : En, rHav e x = decide (x.slot = e.slot ∧ ((x.seq = e.seq ∧ x.key = e.key) ∨ (x.off < e.off + e.size ∧ e.off < x.off + x.size)))) := Lib.hid (fun x => rfl)
  have HTK := Lib.hid (fun (i : Nat) => rany_take (p := rBad e) (l := all) (i := i))
  clear h hb hk
  obtain ⟨rB, hrB⟩ : ∃ f, f = rBad e := ⟨_, rfl⟩
  obtain ⟨rH, hrH⟩ : ∃ f, f = rHav e := ⟨_, rfl⟩
  rw [← hrB] at HRC HTB HBE HTK
  rw [← hrH] at HRC HTH HHE
  clear hrB hrH
  obtain ⟨e0, e1, e2, e3, e4, e5⟩ := e
  simp only [enV] at HVE HVI HRC HHE HBE ⊢
  go_enter Try.func21, Try.ntmps21
  go_upto_region 1 with fail
  obtain ⟨b3, hb3⟩ : ∃ q, q = w.heap.size := ⟨_, rfl⟩
  obtain ⟨w1, hw1⟩ : ∃ y, y = w.alloc (boxF ⟨e0, e1, e2, e3, e4, e5⟩) := ⟨_, rfl⟩
  have H1 : Hid (SW w0 (blkA b3 (boxF ⟨e0, e1, e2, e3, e4, e5⟩) :: rIx rb N (.slice av all.length cv) all R) w1 ∧ Gr w w1) := Lib.hid (by rw [hw1, hb3]; exact ⟨H.out.alloc _, (Gr.refl w).alloc _⟩)
  simp only [boxF] at hw1
  rw [← hb3, ← hw1]
  clear hw1 hb3 H
  have d3 := (cellsOf (show w1.heap[b3]? = _ from H1.out.1.get (i := 0) rfl)).1
  have l3 := blkLt (show w1.heap[b3]? = _ from H1.out.1.get (i := 0) rfl)
  simp only [boxF] at d3
  have dr0 := ((cellsOf (show w1.heap[rb]? = _ from H1.out.1.get (i := 1) rfl)).1 0).trans (show _ = some (Value.int .i64 N) from rfl)
  go_wp2_with (go_at_call 85; refine (rvalid (H1.out.1.get (i := 1) rfl) hN0).mono ?_; rintro e w2 ⟨rfl, rfl⟩)
  have HD1 : Hid (SW w0 (blkA b3 (boxF ⟨e0, e1, e2, e3, e4, e5⟩) :: rIx rb N (.slice av all.length cv) all R) w1.drew ∧ Gr w w1.drew) := Lib.hid ⟨H1.out.1.gr (Gr.refl w1).drew, H1.out.2.drew⟩
  clear H1
  by_cases n0 : e3 < 0
  · have HR3 : Hid (rAddC N all ⟨e0, e1, e2, e3, e4, e5⟩ = 3) := Lib.hid (by rw [HRC.out, if_pos (.inl n0)])
    refine wp_region_flo (fun _ => False) [] [] (by kernel_rfl) (by kernel_rfl) (fun _ h => h.elim) ?_
    refine flo_seg 12 rfl ?_
    simp only [List.take_succ_cons, List.take_zero, List.drop_succ_cons, List.drop_zero]
    repeat (go_big_quiet_step (fail))
    refine wpQuiet_nil ?_
    refine flo_nil ?_
    go_wp2_with fail
    go_ret
    exact rAddP_no HD1.out.1 HD1.out.2 HR3.out (by decide)
  by_cases n1 : N ≤ e3
  · have HR3 : Hid (rAddC N all ⟨e0, e1, e2, e3, e4, e5⟩ = 3) := Lib.hid (by rw [HRC.out, if_pos (.inr n1)])
    refine wp_region_flo (fun _ => False) [] [] (by kernel_rfl) (by kernel_rfl) (fun _ h => h.elim) ?_
    refine flo_seg 12 rfl ?_
    simp only [List.take_succ_cons, List.take_zero, List.drop_succ_cons, List.drop_zero]
    repeat (go_big_quiet_step (fail))
    refine wpQuiet_nil ?_
    refine flo_nil ?_
    go_wp2_with fail
    go_ret
    exact rAddP_no HD1.out.1 HD1.out.2 HR3.out (by decide)
  have HRC2 : Hid (rAddC N all ⟨e0, e1, e2, e3, e4, e5⟩ = if validE ⟨e0, e1, e2, e3, e4, e5⟩ = false then 2 else if all.any rB = true then 2 else if all.any rH = true then 6 else 0) := Lib.hid (by rw [HRC.out, if_neg (by omega)])
  clear HRC
  refine wp_region_flo (fun _ => False) [] [] (by kernel_rfl) (by kernel_rfl) (fun _ h => h.elim) ?_
  refine flo_seg 12 rfl ?_
  simp only [List.take_succ_cons, List.take_zero, List.drop_succ_cons, List.drop_zero]
  repeat (go_big_quiet_step (fail))
  refine wpQuiet_nil ?_
  refine flo_nil ?_
  cases hv : validE ⟨e0, e1, e2, e3, e4, e5⟩ with
  | false =>
    rw [hv] at HVE
    have HR3 : Hid (rAddC N all ⟨e0, e1, e2, e3, e4, e5⟩ = 2) := Lib.hid (by rw [HRC2.out, if_pos hv])
    clear hv
    go_wp2_with (go_at_call 86; refine (HVE.out _).mono ?_; rintro e w2 ⟨rfl, hg⟩; have HG2 := Lib.hid hg; clear hg)
    go_ret
    exact rAddP_no (HD1.out.1.gr HG2.out) (HD1.out.2.trans HG2.out) HR3.out (by decide)
  | true =>
    have HRC3 : Hid (rAddC N all ⟨e0, e1, e2, e3, e4, e5⟩ = if all.any rB = true then 2 else if all.any rH = true then 6 else 0) := Lib.hid (by rw [HRC2.out, hv, if_neg (by decide)])
    have hvi := HVI.out.1 hv
    rw [hv] at HVE
    have hb4 : 0 ≤ e4 ∧ e4 ≤ 8192 ∧ 0 ≤ e5 ∧ e5 ≤ 8192 := by omega
    obtain ⟨v1, v2, v3, v4⟩ := hb4
    clear hv hvi HVI HRC2
    go_wp2_with (go_at_call 86; refine (HVE.out _).mono ?_; rintro e w2 ⟨rfl, hg⟩; have HD2 : Hid (SW w0 (blkA b3 (boxF ⟨e0, e1, e2, e3, e4, e5⟩) :: rIx rb N (.slice av all.length cv) all R) w2 ∧ Gr w w2) := Lib.hid ⟨HD1.out.1.gr hg, HD1.out.2.trans hg⟩; clear hg)
    clear HD1 HVE d3 l3 dr0
    go_loopw [5, 6] (fun t5 t6 wx => ∃ i : Nat, i ≤ all.length ∧ t5 = .bool ((all.take i).any rH) ∧ t6 = .int .i64 i ∧ Hid ((all.take i).any rB = false) ∧ Hid (SW w0 (blkA b3 (boxF ⟨e0, e1, e2, e3, e4, e5⟩) :: rIx rb N (.slice av all.length cv) all R) wx ∧ Gr w wx)) (fun _ t6 _ => all.length - (intOf t6).toNat)
    case atStart => exact ⟨0, by omega, rfl, rfl, Lib.hid rfl, HD2⟩
    case round =>
      obtain ⟨i, hil, rfl, rfl, HNB, HI⟩ := hrel
      clear HD2
      have hrb : wr.heap[rb]? = _ := HI.out.1.get (i := 1) rfl
      have dr1 := ((cellsOf hrb).1 1).trans (show _ = some (Value.slice av all.length cv) from rfl)
      clear hrb
      by_cases hli : i < all.length
      · have hli' : (i : Int) < all.length := by omega
        obtain ⟨x, hx⟩ : ∃ x, all[i]? = some x := ⟨_, List.getElem?_eq_getElem hli⟩
        obtain ⟨_, _, hve, _, _, hat⟩ := ownE_at (show Own wr 53 6 (.slice av all.length cv) all.length (rowE all) from HI.out.1.get (i := 2) rfl)
        injection hve with g1 g2 g3
        subst g1
        obtain ⟨g0, rfl, hg0, _, hc⟩ := hat i _ hx
        have y0 := hc 0 _ rfl
        have y1 := hc 1 _ rfl
        have y2 := hc 2 _ rfl
        have y3 := hc 3 _ rfl
        have y4 := hc 4 _ rfl
        have y5 := hc 5 _ rfl
        simp only [Nat.add_zero] at y0 y1 y2 y3 y4 y5
        have HTB1 := Lib.hid (HTB.out i x hx)
        have HTH1 := Lib.hid (HTH.out i x hx)
        have HBE1 := Lib.hid (HBE.out x)
        have HHE1 := Lib.hid (HHE.out x)
        obtain ⟨q1, q2, q3, q4⟩ := HB.out x (List.mem_of_getElem? hx)
        clear hat hc g2 g3 hx
        obtain ⟨bB, hbB⟩ : ∃ b, b = rB x := ⟨_, rfl⟩
        obtain ⟨bH, hbH⟩ : ∃ b, b = rH x := ⟨_, rfl⟩
        rw [← hbB] at HTB1 HBE1
        rw [← hbH] at HTH1 HHE1
        clear hbB hbH
        obtain ⟨x0, x1, x2, x3, x4, x5⟩ := x
        simp only at y0 y1 y2 y3 y4 y5 q1 q2 q3 q4 HBE1 HHE1
        go_upto_region 12 with fail
        obtain ⟨b7, hb7⟩ : ∃ q, q = wr.heap.size := ⟨_, rfl⟩
        obtain ⟨w9, hw9⟩ : ∃ y, y = wr.alloc (boxF ⟨x0, x1, x2, x3, x4, x5⟩) := ⟨_, rfl⟩
        have H9 : Hid (SW w0 (blkA b7 (boxF ⟨x0, x1, x2, x3, x4, x5⟩) :: blkA b3 (boxF ⟨e0, e1, e2, e3, e4, e5⟩) :: rIx rb N (.slice (some ⟨g0, 0, none⟩) all.length cv) all R) w9 ∧ Gr w w9) := Lib.hid (by rw [hw9, hb7]; exact ⟨HI.out.1.alloc _, HI.out.2.alloc _⟩)
        simp only [boxF] at hw9
        rw [← hb7, ← hw9]
        clear hw9 hb7 HI y0 y1 y2 y3 y4 y5 hg0 dr1
        have d3 := (cellsOf (show w9.heap[b3]? = _ from H9.out.1.get (i := 1) rfl)).1
        have d7 := (cellsOf (show w9.heap[b7]? = _ from H9.out.1.get (i := 0) rfl)).1
        simp only [boxF] at d3 d7
        have H10 : Hid (SW w0 (blkA b3 (boxF ⟨e0, e1, e2, e3, e4, e5⟩) :: rIx rb N (.slice (some ⟨g0, 0, none⟩) all.length cv) all R) w9 ∧ Gr w w9) := Lib.hid ⟨H9.out.1.sub (.cons _ (List.Sublist.refl _)), H9.out.2⟩
        clear H9
        obtain ⟨bb, hbb⟩ : ∃ b, b = (all.take i).any rH := ⟨_, rfl⟩
        rw [← hbb] at HTH1 ⊢
        clear hbb
        have hcl : ∀ (c : Prop) [Decidable c], (c → False) → decide c = false := fun c _ h => decide_eq_false h
        by_cases hcp : x0 = e0 ∧ x1 = e1
        · obtain ⟨hq, hk⟩ := hcp
          subst hq hk
          clear hcl
          go_wp2_with fail
          all_goals
            try
              (refine ⟨⟨i + 1, by omega, ?_, by simp, Lib.hid ?_, H10⟩, by simp [intOf]; omega⟩
               · rw [HTH1.out, HHE1.out]
                 first
                 | (rw [decide_eq_true ⟨by assumption, .inl ⟨rfl, rfl⟩⟩, Bool.or_true]; done)
                 | (rw [decide_eq_false (fun hh => by have := hh.1; first | (exact absurd this (by assumption)) | (simp_all; done)), Bool.or_false]; done)
               · rw [HTB1.out, HNB.out, HBE1.out, Bool.false_or]
                 refine decide_eq_false (fun hh => ?_)
                 have hh2 := hh.2.2
                 clear hh HTB HTH HBE HHE HTK HRC3
                 simp_all)
          all_goals
            go_ret
            refine rAddP_no H10.out.1 H10.out.2 (c := 2) ?_ (by decide)
            rw [HRC3.out, if_pos]
            refine HTK.out (i + 1) ?_
            rw [HTB1.out, HBE1.out, Bool.or_eq_true]
            refine .inr (decide_eq_true (And.intro (by first | trivial | rfl) (And.intro (by first | trivial | rfl) ?_)))
            first | exact .inl (by assumption) | exact .inr (bne_iff_ne.1 (by assumption)) | (simp_all; done)
        · have HNC := Lib.hid hcp
          have HB2 : Hid (bB = false) := Lib.hid (HBE1.out.trans (decide_eq_false (fun hh => hcp ⟨hh.1, hh.2.1⟩)))
          have HH2 : Hid (bH = decide (x3 = e3 ∧ x4 < e4 + e5 ∧ e4 < x4 + x5)) := Lib.hid (HHE1.out.trans (by
            congr 1
            exact propext ⟨fun hh => ⟨hh.1, hh.2.resolve_left hcp⟩, fun hh => ⟨hh.1, .inr hh.2⟩⟩))
          clear HBE1 HHE1 hcl
          have fin : ∀ b : Bool, (b = (bb || bH)) → ∃ i', i' ≤ all.length ∧ Value.bool b = Value.bool ((all.take i').any rH) ∧ Value.int .i64 ((i : Int) + 1) = .int .i64 (i' : Nat) ∧ Hid ((all.take i').any rB = false) ∧ Hid (SW w0 (blkA b3 (boxF ⟨e0, e1, e2, e3, e4, e5⟩) :: rIx rb N (.slice (some ⟨g0, 0, none⟩) all.length cv) all R) w9 ∧ Gr w w9) := fun b hb =>
            ⟨i + 1, by omega, by rw [HTH1.out, hb], by simp, Lib.hid (by rw [HTB1.out, HNB.out, HB2.out]; rfl), H10⟩
          have HF := Lib.hid fin
          clear fin
          by_cases hq : x0 = e0
          · have hk : ¬ x1 = e1 := fun h => hcp ⟨hq, h⟩
            have hkb : (x1.toList == e1.toList) = false := (str_beq x1 e1).trans (decide_eq_false hk)
            clear hcp hk
            subst hq
            go_wp2_with fail
            all_goals
              refine ⟨HF.out _ ?_, by simp [intOf]; omega⟩
              rw [HH2.out]
              first
              | (rw [decide_eq_true (by omega), Bool.or_true]; done)
              | (rw [decide_eq_false (by omega), Bool.or_false]; done)
          · have hqb : (x0 == e0) = false := beq_false_of_ne hq
            clear hcp hq
            go_wp2_with fail
            all_goals
              refine ⟨HF.out _ ?_, by simp [intOf]; omega⟩
              rw [HH2.out]
              first
              | (rw [decide_eq_true (by omega), Bool.or_true]; done)
              | (rw [decide_eq_false (by omega), Bool.or_false]; done)
      · have hli' : ¬ (i : Int) < all.length := by omega
        obtain rfl : i = all.length := by omega
        rw [List.take_length] at HNB ⊢
        cases hH : all.any rH with
        | true =>
          have HR6 : Hid (rAddC N all ⟨e0, e1, e2, e3, e4, e5⟩ = 6) := Lib.hid (by rw [HRC3.out, HNB.out, hH, if_neg (by decide), if_pos rfl])
          clear hH
          go_wp2_with fail
          go_ret
          exact rAddP_no HI.out.1 HI.out.2 HR6.out (by decide)
        | false =>
          have HR0 : Hid (rAddC N all ⟨e0, e1, e2, e3, e4, e5⟩ = 0) := Lib.hid (by rw [HRC3.out, HNB.out, hH, if_neg (by decide), if_neg (by decide)])
          clear hH
          have d3 := (cellsOf (show wr.heap[b3]? = _ from HI.out.1.get (i := 0) rfl)).1
          simp only [boxF] at d3
          have SRC : Hid (SrcAt wr.drew 6 av all.length (rowE all)) := Lib.hid ((src_all (show Own wr 53 6 (.slice av all.length cv) all.length (rowE all) from HI.out.1.get (i := 2) rfl) (rowE_one all)).gr (Gr.refl wr).drew)
          go_wp2_with fail
          have HG := Gr.refl wr.drew
          refine wp_region_flt 10 (fun _ => False) [107] [] (by kernel_rfl) (by kernel_rfl) (by decide) (by kernel_rfl) (fun _ h => h.elim) ?_
          simp only [List.take_succ_cons, List.take_zero, List.drop_succ_cons, List.drop_zero]
          refine flo_seg 1 rfl ?_
          simp only [List.take_succ_cons, List.take_zero, List.drop_succ_cons, List.drop_zero]
          repeat (go_big_quiet_step (fail))
          refine wpQuiet_nil ?_
          refine flo_effg rfl rfl rfl (fun wg1 hgg1 K hK => ?_)
          (try replace HG := Gr.trans (Gr.trans HG (by (repeat (first | (with_reducible exact Gr.refl _) | assumption | (with_reducible apply Gr.from_drew) | (with_reducible apply Gr.alloc) | (with_reducible apply Gr.drew) | (with_reducible refine Gr.trans ?_ (by assumption)) | (with_reducible refine Gr.setCell ?_ (by omega) _))))) hgg1)
          go_wp2
          refine ⟨by (first | (refine Gr.mdh ?_ _; (repeat (first | (with_reducible exact Gr.refl _) | assumption | (with_reducible apply Gr.from_drew) | (with_reducible apply Gr.alloc) | (with_reducible apply Gr.drew) | (with_reducible refine Gr.trans ?_ (by assumption)) | (with_reducible refine Gr.setCell ?_ (by omega) _))); done) | (repeat (first | (with_reducible exact Mdh.refl _ _) | (with_reducible refine Mdh.setCell ?_ (by simp) _) | (with_reducible refine Mdh.setNew ?_ (by simp) _) | (with_reducible apply Mdh.alloc) | (with_reducible apply Mdh.from_drew) | (with_reducible apply Mdh.drew) | (with_reducible refine Mdh.gr ?_ (by assumption))))), ?_⟩
          refine flo_seg 4 rfl ?_
          simp only [List.take_succ_cons, List.take_zero, List.drop_succ_cons, List.drop_zero]
          repeat (go_big_quiet_step (fail))
          refine wpQuiet_nil ?_
          refine flo_effg rfl rfl rfl (fun wg2 hgg2 K hK => ?_)
          (try replace HG := Gr.trans (Gr.trans HG (by (repeat (first | (with_reducible exact Gr.refl _) | assumption | (with_reducible apply Gr.from_drew) | (with_reducible apply Gr.alloc) | (with_reducible apply Gr.drew) | (with_reducible refine Gr.trans ?_ (by assumption)) | (with_reducible refine Gr.setCell ?_ (by omega) _))))) hgg2)
          refine wp_appv _ (.tmp 100) (.tmp 104) 45 rfl 53 i0 _ 6 56 Try.underlying45 hi hz0 hz1 hz2 rfl (by decide) (.slice (some ⟨wg1.heap.size, 0, none⟩) 0 0) 0 [] rfl ((Nw.made (w0 := wr.drew) (w := wg1) hgg1.sz).own.gr hgg2) av all.length cv (rowE all) rfl (SRC.out.gr HG) (by simp only [maxLen]; omega) (by omega) (fun k1 x1 hk1 => ?_); rw [Nat.zero_add, List.nil_append] at hk1; (have n1 := hk1.nw ((Nw.made (w0 := wr.drew) (w := wg1) hgg1.sz).gr hgg2) HG.sz); (replace HG := hk1.gw ((Nw.made (w0 := wr.drew) (w := wg1) hgg1.sz).gr hgg2) HG); obtain ⟨a1, c1, rfl⟩ := hk1.val; refine hK _ _ ⟨hk1.mdh (fun q hq => by rw [ownB hq]; simp), ?_⟩; simp only [Act.put, List.setIfInBounds_toArray, List.set_cons_succ, List.set_cons_zero]
          refine flo_seg 1 rfl ?_
          simp only [List.take_succ_cons, List.take_zero, List.drop_succ_cons, List.drop_zero]
          repeat (go_big_quiet_step (fail))
          refine wpQuiet_nil ?_
          refine flo_float (fun b => .slice (some ⟨b, 0, none⟩) 1 1) (_) rfl rfl (fun w => by simp [go_sem]; rfl) (fun wf1 fb1 hgf1 fl1 fh1 ft1 fo1 => ?_)
          (try replace HG := Gr.trans (Gr.trans HG (by (repeat (first | (with_reducible exact Gr.refl _) | assumption | (with_reducible apply Gr.from_drew) | (with_reducible apply Gr.alloc) | (with_reducible apply Gr.drew) | (with_reducible refine Gr.trans ?_ (by assumption)) | (with_reducible refine Gr.setCell ?_ (by omega) _))))) hgf1)
          (try have fc1 := (cellsOf fo1).1)
          (try have ff1 := (cellsOf fo1).2)
          refine flo_eff rfl rfl rfl rfl (fun K hK => ?_)
          refine wp_appv _ (.tmp 105) (.tmp 107) 45 rfl 53 i0 _ 6 56 Try.underlying45 hi hz0 hz1 hz2 rfl (by decide) (.slice a1 all.length c1) all.length (rowE all) rfl (n1.own.gr hgf1) (some ⟨fb1, 0, none⟩) 1 1 (enC ⟨e0, e1, e2, e3, e4, e5⟩) rfl (src_blk (e := ⟨e0, e1, e2, e3, e4, e5⟩) fo1) (by simp only [maxLen]; omega) (by omega) (fun k2 x2 hk2 => ?_); (have n2 := hk2.nw (n1.gr hgf1) HG.sz); (have m2 := hk2.gw (n1.gr hgf1) HG); obtain ⟨a2, c2, rfl⟩ := hk2.val; refine hK _ _ ⟨hk2.mdh (fun q hq => (hk1.2.1 q hq).elim (fun h => by rw [ownB h]; exact .inr (.inl (.inl (.inr ⟨Nat.le_refl _, by simp⟩)))) (fun h => .inr (.inl (.inr ⟨h, hk1.1.lt hq⟩)))), ?_⟩; simp only [Act.put, List.setIfInBounds_toArray, List.set_cons_succ, List.set_cons_zero]
          refine flo_nil ?_
          have g0 : Gr wr x2 := (Gr.refl wr).drew.trans m2
          have h1 := HI.out.1.new g0 (A := rowA 53 6 (.slice a2 (all.length + 1) c2) (all ++ [(⟨e0, e1, e2, e3, e4, e5⟩ : En)]).length (rowE (all ++ [(⟨e0, e1, e2, e3, e4, e5⟩ : En)]))) (by
            show Own _ _ _ _ _ _
            rw [rowE_snoc, List.length_append]
            exact n2.own) (fun k hk => by have := n2.new k hk; simpa using this)
          have hb2 : x2.heap[rb]? = some (rmO N (.slice av all.length cv)) := h1.get (i := 2) rfl
          have h2 := h1.at (i := 2) rfl ((Mdh.refl (fun k => k = rb) x2).setCell (p := ⟨rb, 1, none⟩) rfl (.slice a2 (all.length + 1) c2)) (fun k hk => .inl hk) (B := blkA rb (rmO N (.slice a2 (all.length + 1) c2))) (blkSet (j := 1) hb2) (fun k hk => .inl hk)
          have HE := Lib.hid ((h2.sub (.cons_cons _ (.cons _ (.cons_cons _ (.cons _ (List.Sublist.refl _)))))).perm (List.Perm.swap _ _ _))
          have HM : Hid (Mdh (fun k => k = rb) w (x2.setCell ⟨rb, 1, none⟩ (.slice a2 (all.length + 1) c2))) := Lib.hid (((HI.out.2.trans g0).mdh (fun k => k = rb)).setCell (p := ⟨rb, 1, none⟩) rfl _)
          obtain ⟨_, f2⟩ := cellsOf hb2
          have l2 := blkLt hb2
          clear h1 h2 hb2 g0 n1 n2 m2 hk1 hk2 HG d3
          go_wp2_with fail
          go_ret
          exact ⟨ret_int HR0.out.symm, HM.out, _, by rw [HRL.out HR0.out]; exact HE.out⟩
end Go.Proofs.Ytmdfickejpeofaa

/- An index that grows entry by entry, each behind those of its slot: what every builder of chapters 22, 23, 24, 28 keeps, without bounds. No walk. -/
set_option linter.unusedVariables false
set_option linter.unusedSimpArgs false
namespace Go.Proofs.Ytmdfickejpeofaa

structure FG (X : IX) (all : List En) (en : Int → Int) (n : Int) : Prop where
  wf : X.Wf
  ln : (X.slots.length : Int) = n
  n0 : 1 ≤ n
  pm : all.Perm X.ents
  up : ∀ e ∈ all, e.off + e.size ≤ en e.slot
  cp : ∀ a ∈ all, ∀ b ∈ all, a.seq = b.seq → a.key = b.key ∧ a.del = b.del ∧ a.size = b.size
section
variable {X : IX} {all : List En} {en : Int → Int} {n : Int}
theorem FG.mem (h : FG X all en n) (e : En) : e ∈ all ↔ e ∈ X.ents := h.pm.mem_iff
theorem FG.slot (h : FG X all en n) (s : Int) (e : En) : e ∈ X.slot s ↔ e ∈ all ∧ e.slot = s := by rw [h.mem]; exact h.wf.slot_mem s e
theorem FG.of (h : FG X all en n) (k : ByteArray) (e : En) : e ∈ X.of k ↔ e ∈ all ∧ e.key = k := by rw [h.mem]; exact h.wf.of_mem k e
theorem FG.ne (h : FG X all en n) : X.slots ≠ [] := fun h0 => by have := h.ln; have := h.n0; rw [h0] at *; simp at *; omega
theorem FG.has (h : FG X all en n) {s : Int} (h0 : 0 ≤ s) (h1 : s < n) : X.has s = true := by
  unfold IX.has
  exact decide_eq_true ⟨h0, by have := h.ln; omega⟩
theorem FG.no (h : FG X all en n) {s : Int} (h0 : s < 0 ∨ n ≤ s) : X.has s = false := by
  unfold IX.has
  exact decide_eq_false (by have := h.ln; omega)
theorem FG.len (h : FG X all en n) : (X.ents.length : Int) = all.length := by rw [h.pm.length_eq]
theorem FG.val (h : FG X all en n) {e : En} (he : e ∈ all) : keyChk e.key = 0 ∧ 1 ≤ e.seq ∧ e.seq ≤ 1099511627776 ∧ 0 ≤ e.off ∧ 16 + (e.key.size : Int) ≤ e.size ∧ (e.size = 16 + (e.key.size : Int) ∨ e.del = false) ∧ e.size ≤ 8192 ∧ e.off ≤ 8192 - e.size := (valid_iff e).1 (h.wf.valid ((h.mem e).1 he)).1
theorem FG.slots (h : FG X all en n) {e : En} (he : e ∈ all) : 0 ≤ e.slot ∧ e.slot < n := by
  have h1 := (h.wf.valid ((h.mem e).1 he)).2
  unfold IX.has at h1
  have := of_decide_eq_true h1
  have := h.ln
  omega
theorem FG.clash (h : FG X all en n) {e : En} (ho : en e.slot ≤ e.off) : clash (X.slot e.slot) e = false := by
  refine clash_end (fun o hm => ?_) (fun o hm => ?_)
  · obtain ⟨h1, h2⟩ := (h.slot _ o).1 hm
    have := h.up o h1
    rw [h2] at this
    omega
  · have := h.val ((h.slot _ o).1 hm).1
    omega
/-- An entry that goes behind those of its slot. -/
theorem FG.push (h : FG X all en n) {e : En} (a : AddOk X e) (ho : en e.slot ≤ e.off) (hc : ∀ o ∈ all, o.seq = e.seq → o.key = e.key ∧ o.del = e.del ∧ o.size = e.size) :
    FG (addX X e) (all ++ [e]) (upd en e.slot (e.off + e.size)) n := by
  have hv := (valid_iff e).1 a.valid
  have hle : ∀ s, en s ≤ upd en e.slot (e.off + e.size) s := fun s => by
    unfold upd
    split
    · rename_i h0; subst h0; omega
    · exact Int.le_refl _
  refine ⟨add_wf h.wf a, ?_, h.n0, ?_, fun o hm => ?_, fun x hx y hy hq => ?_⟩
  · rw [addX_eq a]; simp only [List.length_set]; exact h.ln
  · exact (List.perm_append_singleton e all).trans ((h.pm.cons e).trans (add_ents h.wf a).symm)
  · rcases List.mem_append.1 hm with hm | hm
    · exact Int.le_trans (h.up o hm) (hle _)
    · rw [List.mem_singleton.1 hm, upd_same]
      exact Int.le_refl _
  · rcases List.mem_append.1 hx with hx1 | hx1 <;> rcases List.mem_append.1 hy with hy1 | hy1
    · exact h.cp x hx1 y hy1 hq
    · obtain rfl := List.mem_singleton.1 hy1
      exact hc x hx1 hq
    · obtain rfl := List.mem_singleton.1 hx1
      obtain ⟨q1, q2, q3⟩ := hc y hy1 hq.symm
      exact ⟨q1.symm, q2.symm, q3.symm⟩
    · obtain rfl := List.mem_singleton.1 hx1
      obtain rfl := List.mem_singleton.1 hy1
      exact ⟨rfl, rfl, rfl⟩
/-- A new entry can be added. -/
theorem FG.okNew (h : FG X all en n) {e : En} (hq : ∀ o ∈ all, o.seq ≠ e.seq) (h0 : 0 ≤ e.slot) (h1 : e.slot < n) (hv : validE e = true) (ho : en e.slot ≤ e.off) : AddOk X e := by
  refine ⟨h.ne, h.has h0 h1, hv, fun o hm => badE_no (fun hh => absurd hh (hq o ((h.of _ o).1 hm).1)), fun o hm => ?_, h.clash ho⟩
  unfold sameE
  exact decide_eq_false (fun hh => hq o ((h.of _ o).1 hm).1 hh.1)
theorem FG.new (h : FG X all en n) {e : En} (hq : ∀ o ∈ all, o.seq ≠ e.seq) (h0 : 0 ≤ e.slot) (h1 : e.slot < n) (hv : validE e = true) (ho : en e.slot ≤ e.off) :
    addE X e = 0 ∧ FG (addX X e) (all ++ [e]) (upd en e.slot (e.off + e.size)) n :=
  have a := h.okNew hq h0 h1 hv ho
  ⟨ok_add a, h.push a ho (fun o hm hh => absurd hh (hq o hm))⟩
/-- A copy of what there is differs from no entry with its number. -/
theorem FG.copyBad (h : FG X all en n) {x e : En} (hx : x ∈ all) (he : e = { x with slot := e.slot, off := e.off }) : ∀ o ∈ X.of e.key, badE e o = false := by
  intro o hm
  obtain ⟨h1, h2⟩ := (h.of _ o).1 hm
  refine badE_no (fun hh => ?_)
  have e1 : e.seq = x.seq := by rw [he]
  have e3 : e.del = x.del := by rw [he]
  have e4 : e.size = x.size := by rw [he]
  obtain ⟨q1, q2, q3⟩ := h.cp o h1 x hx (by rw [hh, e1])
  exact En.ext' hh h2 (by rw [e3]; exact q2) rfl rfl (by rw [e4]; exact q3)
theorem FG.copyNo (h : FG X all en n) {x e : En} (hx : x ∈ all) (he : e = { x with slot := e.slot, off := e.off }) (h0 : 0 ≤ e.slot) (h1 : e.slot < n) (hv : validE e = true) (hd : ∃ o ∈ all, o.slot = e.slot ∧ o.seq = e.seq) : addE X e = 6 := by
  refine add_6 h.ne (h.has h0 h1) hv (h.copyBad hx he) ?_
  rw [Bool.or_eq_true]
  refine .inl ?_
  obtain ⟨o, hm, hh⟩ := hd
  have e1 : e.seq = x.seq := by rw [he]
  have e2 : e.key = x.key := by rw [he]
  obtain ⟨q1, _, _⟩ := h.cp o hm x hx (by rw [hh.2, e1])
  exact List.any_eq_true.2 ⟨o, (h.of _ o).2 ⟨hm, by rw [q1, e2]⟩, decide_eq_true ⟨hh.2, hh.1⟩⟩
theorem FG.copyYes (h : FG X all en n) {x e : En} (hx : x ∈ all) (he : e = { x with slot := e.slot, off := e.off }) (h0 : 0 ≤ e.slot) (h1 : e.slot < n) (hv : validE e = true) (ho : en e.slot ≤ e.off) (hd : ¬ ∃ o ∈ all, o.slot = e.slot ∧ o.seq = e.seq) :
    addE X e = 0 ∧ FG (addX X e) (all ++ [e]) (upd en e.slot (e.off + e.size)) n := by
  have e1 : e.seq = x.seq := by rw [he]
  have e2 : e.key = x.key := by rw [he]
  have e3 : e.del = x.del := by rw [he]
  have e4 : e.size = x.size := by rw [he]
  have a : AddOk X e := ⟨h.ne, h.has h0 h1, hv, h.copyBad hx he, fun o hm => by
    have h2 := (h.of _ o).1 hm
    unfold sameE
    exact decide_eq_false (fun hh => hd ⟨o, h2.1, hh.2, hh.1⟩), h.clash ho⟩
  refine ⟨ok_add a, h.push a ho (fun o hm hh => ?_)⟩
  rw [e2, e3, e4]
  exact h.cp o hm x hx (by rw [hh, e1])
/-- A slot is emptied. -/
theorem FG.drop (h : FG X all en n) {s : Int} (h0 : 0 ≤ s) (h1 : s < n) {en' : Int → Int} (he : ∀ t, t ≠ s → en t ≤ en' t) :
    dropC X s = 0 ∧ (X.slot s).length + (all.filter (fun o => !decide (o.slot = s))).length = all.length ∧ FG (dropX X s) (all.filter (fun o => !decide (o.slot = s))) en' n := by
  have hh := h.has h0 h1
  have hp := drop_ents h.wf hh
  have hw := drop_wf h.wf s
  have hne : ∀ o ∈ (dropX X s).ents, (!decide (o.slot = s)) = true := fun o ho => by
    simp only [Bool.not_eq_true', decide_eq_false_iff_not]
    intro e
    have h2 := (hw.slot_mem s o).2 ⟨ho, e⟩
    rw [drop_slot h.wf, if_pos rfl] at h2
    cases h2
  have hs : ∀ o ∈ X.slot s, ¬ (!decide (o.slot = s)) = true := fun o ho => by simp [((h.wf.slot_mem s o).1 ho).2]
  have hpm : (all.filter (fun o => !decide (o.slot = s))).Perm (dropX X s).ents := by
    have h2 := (h.pm.trans hp).filter (fun o => !decide (o.slot = s))
    rw [List.filter_append, List.filter_eq_nil_iff.2 hs, List.nil_append, List.filter_eq_self.2 hne] at h2
    exact h2
  refine ⟨if_pos hh, ?_, hw, ?_, h.n0, hpm, fun o ho => ?_, fun a ha b hb => h.cp a (List.mem_filter.1 ha).1 b (List.mem_filter.1 hb).1⟩
  · have h2 := (h.pm.trans hp).length_eq
    have h3 := hpm.length_eq
    rw [List.length_append] at h2
    omega
  · rw [drop_yes hh]; simp only [List.length_set]; exact h.ln
  · obtain ⟨h2, h3⟩ := List.mem_filter.1 ho
    simp only [Bool.not_eq_true', decide_eq_false_iff_not] at h3
    exact Int.le_trans (h.up o h2) (he _ h3)
end
theorem FG.start (n : Nat) (h1 : 1 ≤ n) (h2 : n ≤ 32) (en : Int → Int) : FG (ixNew n) [] en n :=
  ⟨new_wf h2, by simp [ixNew], by omega, by simp [ixNew, IX.ents], (fun _ h => by cases h), (fun _ h => by cases h)⟩
end Go.Proofs.Ytmdfickejpeofaa

/- drumlinlaw22.Made in plain Lean. No walk. -/
set_option linter.unusedVariables false
set_option linter.unusedSimpArgs false
namespace Go.Proofs.Ytmdfickejpeofaa

structure Tn where
  kind : Int
  slot : Int
  n : Int
  size : Int
structure Tn.Ok (t : Tn) : Prop where
  kind : 0 ≤ t.kind ∧ t.kind ≤ 255
  slot : 0 ≤ t.slot ∧ t.slot ≤ 255
  n : 0 ≤ t.n ∧ t.n ≤ 255
  size : 0 ≤ t.size ∧ t.size ≤ 255
def nmL : List ByteArray := [⟨#[97]⟩, ⟨#[98]⟩, ⟨#[97, 98]⟩, ⟨#[107, 49]⟩, ⟨#[120, 46, 121]⟩, ⟨#[122, 122]⟩]
def tnKey (n : Int) : ByteArray := nmL.getD (n % 6).toNat ⟨#[97]⟩
theorem tnKey_ok (n : Int) : keyChk (tnKey n) = 0 ∧ 1 ≤ (tnKey n).size ∧ (tnKey n).size ≤ 3 ∧ Low (tnKey n) := by
  have hl : ∀ x ∈ nmL, keyChk x = 0 ∧ 1 ≤ x.size ∧ x.size ≤ 3 ∧ Low x := by
    intro x hx
    simp only [nmL, List.mem_cons, List.not_mem_nil, or_false] at hx
    rcases hx with rfl | rfl | rfl | rfl | rfl | rfl
    all_goals
      refine ⟨by kernel_rfl, by decide, by decide, ?_⟩
      unfold Low
      decide
  have hk : (n % 6).toNat < nmL.length := by
    have h1 : 0 ≤ n % 6 ∧ n % 6 < 6 := by omega
    have h2 : nmL.length = 6 := rfl
    omega
  unfold tnKey
  rw [List.getD_eq_getElem?_getD, List.getElem?_eq_getElem hk]
  exact hl _ (List.getElem_mem hk)
structure MS where
  X : IX
  all : List En
  nx : Int
/-- Where the entries of a slot end. -/
def endF (s : Int) (a : Int) (e : En) : Int := if e.slot = s then max a (e.off + e.size) else a
def endL (all : List En) (s : Int) : Int := all.foldl (endF s) 0
theorem endL_snoc (all : List En) (e : En) (s : Int) : endL (all ++ [e]) s = endF s (endL all s) e := by simp [endL]
theorem endL_nn (all : List En) (s : Int) : 0 ≤ endL all s := by
  have h : ∀ (l : List En) (a : Int), a ≤ l.foldl (endF s) a := by
    intro l
    induction l with
    | nil => intro a; exact Int.le_refl _
    | cons e l ih =>
      intro a
      refine Int.le_trans ?_ (ih _)
      unfold endF
      split <;> omega
  exact h all 0
theorem endL_filter (all : List En) {s t : Int} (h : t ≠ s) : endL (all.filter (fun o => !decide (o.slot = s))) t = endL all t := by
  have h : ∀ (l : List En) (a : Int), (l.filter (fun o => !decide (o.slot = s))).foldl (endF t) a = l.foldl (endF t) a := by
    intro l
    induction l with
    | nil => intro a; rfl
    | cons e l ih =>
      intro a
      rw [List.filter_cons]
      by_cases he : e.slot = s
      · rw [if_neg (by simp [he]), ih, List.foldl_cons]
        congr 1
        unfold endF
        rw [if_neg (by omega)]
      · rw [if_pos (by simp [he]), List.foldl_cons, List.foldl_cons, ih]
  exact h all 0
theorem endL_zero (all : List En) (s : Int) : endL (all.filter (fun o => !decide (o.slot = s))) s = 0 := by
  have h : ∀ (l : List En), (l.filter (fun o => !decide (o.slot = s))).foldl (endF s) 0 = 0 := by
    intro l
    induction l with
    | nil => rfl
    | cons e l ih =>
      rw [List.filter_cons]
      by_cases he : e.slot = s
      · rw [if_neg (by simp [he]), ih]
      · rw [if_pos (by simp [he]), List.foldl_cons, show endF s 0 e = 0 from if_neg he, ih]
  exact h all
/-- An entry behind those of its slot. -/
def atM (st : MS) (e : En) : En := { e with off := endL st.all e.slot }
def dupM (st : MS) (e : En) : Bool := st.all.any (fun o => decide (o.slot = e.slot) && decide (o.seq = e.seq))
def addM (st : MS) (e : En) : MS := if dupM st e = true then st else ⟨addX st.X (atM st e), st.all ++ [atM st e], st.nx⟩
def newM (N : Int) (st : MS) (t : Tn) : En := ⟨st.nx, tnKey t.n, decide (t.kind % 8 = 4), t.slot % N, 0, 16 + ((tnKey t.n).size : Int) + if t.kind % 8 = 4 then 0 else t.size % 60⟩
def cpM (N : Int) (st : MS) (t : Tn) : En := { (st.all.getD (t.n % st.all.length).toNat zE) with slot := t.slot % N }
def nextM (st : MS) : MS := { st with nx := st.nx + 1 }
def dropM (st : MS) (s : Int) : MS := ⟨dropX st.X s, st.all.filter (fun o => !decide (o.slot = s)), st.nx⟩
def stepM (N : Int) (st : MS) (t : Tn) : MS :=
  if t.kind % 8 < 5 then addM (nextM st) (newM N st t)
  else if t.kind % 8 < 7 then (if st.all = [] then st else addM st (cpM N st t))
  else dropM st (t.slot % N)
def foldM (n : Nat) (L : List Tn) : MS := L.foldl (stepM n) ⟨ixNew n, [], 1⟩
theorem foldM_snoc (n : Nat) (L : List Tn) (t : Tn) : foldM n (L ++ [t]) = stepM n (foldM n L) t := by simp [foldM]
structure MS.Ok (st : MS) (N : Int) (j : Nat) : Prop where
  g : FG st.X st.all (endL st.all) N
  n : st.all.length ≤ j
  q0 : 1 ≤ st.nx
  q1 : st.nx ≤ j + 1
  u : ∀ s, endL st.all s ≤ 78 * j
  e : ∀ e ∈ st.all, 1 ≤ e.seq ∧ e.seq < st.nx ∧ Low e.key ∧ 1 ≤ e.key.size ∧ e.key.size ≤ 3 ∧ e.size ≤ 78
theorem MS.later {st : MS} {N : Int} {j j' : Nat} (h : st.Ok N j) (hj : j ≤ j') : st.Ok N j' := ⟨h.g, Nat.le_trans h.n hj, h.q0, by have := h.q1; omega, fun s => by have := h.u s; omega, h.e⟩
structure AddM (st : MS) (N : Int) (e : En) : Prop where
  slot : 0 ≤ e.slot ∧ e.slot < N
  sq : e.seq < st.nx ∧ 1 ≤ e.seq
  k : keyChk e.key = 0 ∧ 1 ≤ e.key.size ∧ e.key.size ≤ 3 ∧ Low e.key
  z : 16 + (e.key.size : Int) ≤ e.size ∧ e.size ≤ 78 ∧ (e.size = 16 + (e.key.size : Int) ∨ e.del = false)
  o : (∀ o ∈ st.all, o.seq ≠ e.seq) ∨ ∃ x ∈ st.all, x.seq = e.seq ∧ x.key = e.key ∧ x.del = e.del ∧ x.size = e.size
theorem dupM_iff {st : MS} {e : En} : dupM st e = true ↔ ∃ o ∈ st.all, o.slot = (atM st e).slot ∧ o.seq = (atM st e).seq := by
  unfold dupM
  rw [List.any_eq_true]
  simp only [Bool.and_eq_true, decide_eq_true_eq]
  exact Iff.rfl
theorem endM_upd {st : MS} {e : En} (hz : 0 ≤ e.size) : upd (endL st.all) e.slot (endL st.all e.slot + e.size) = endL (st.all ++ [atM st e]) := by
  funext s
  rw [endL_snoc]
  unfold upd endF
  by_cases h : s = e.slot
  · subst h
    rw [if_pos rfl, if_pos (show (atM st e).slot = e.slot from rfl)]
    show _ = max (endL st.all e.slot) (endL st.all e.slot + e.size)
    omega
  · rw [if_neg h, if_neg (show ¬ (atM st e).slot = s from fun hh => h hh.symm)]
theorem addM_ok {st : MS} {N : Int} {j : Nat} {e : En} (h : st.Ok N j) (hj : j ≤ 101) (a : AddM st N e) :
    (dupM st e = true → addE st.X (atM st e) = 6) ∧ (dupM st e = false → addE st.X (atM st e) = 0) ∧ (addM st e).Ok N (j + 1) ∧ Low (atM st e).key ∧ En64 (atM st e) ∧ validE (atM st e) = true ∧ 0 ≤ endL st.all e.slot ∧ endL st.all e.slot ≤ 7878 := by
  have hu := h.u e.slot
  have hu0 := endL_nn st.all e.slot
  have q1 := h.q1
  obtain ⟨z1, z2, z3⟩ := a.z
  obtain ⟨k1, k2, k3, k4⟩ := a.k
  have hv : validE (atM st e) = true := (valid_iff _).2 ⟨k1, a.sq.2, show e.seq ≤ 1099511627776 by have := a.sq.1; omega, hu0, z1, z3, show e.size ≤ (8192 : Int) by omega, show endL st.all e.slot ≤ 8192 - e.size by omega⟩
  have hpush : FG (addX st.X (atM st e)) (st.all ++ [atM st e]) (upd (endL st.all) e.slot (endL st.all e.slot + e.size)) N → (⟨addX st.X (atM st e), st.all ++ [atM st e], st.nx⟩ : MS).Ok N (j + 1) := fun g => by
    rw [endM_upd (by omega)] at g
    refine ⟨g, ?_, h.q0, by show st.nx ≤ ((j + 1 : Nat) : Int) + 1; omega, fun s => ?_, fun o ho => ?_⟩
    · show (st.all ++ [_]).length ≤ j + 1
      have := h.n
      rw [List.length_append]; simp; omega
    · have hs := h.u s
      show endL (st.all ++ [atM st e]) s ≤ 78 * ((j + 1 : Nat) : Int)
      rw [endL_snoc]
      unfold endF
      split
      · show max _ (endL st.all e.slot + e.size) ≤ _
        omega
      · omega
    · rcases List.mem_append.1 ho with ho | ho
      · exact h.e o ho
      · rw [List.mem_singleton.1 ho]
        exact ⟨a.sq.2, a.sq.1, k4, k2, k3, z2⟩
  refine ⟨fun hd => ?_, fun hd => ?_, ?_, k4, ⟨by show e.size ≤ 9223372036854775807; omega, by show -9223372036854775808 ≤ e.size; omega, by show e.key.size ≤ 140737488351232; omega⟩, hv, hu0, by omega⟩
  · have hd := dupM_iff.1 hd
    rcases a.o with ho | ⟨x, hx, e1, e2, e3, e4⟩
    · obtain ⟨o, hm, _, hq⟩ := hd
      exact absurd hq (ho o hm)
    · exact h.g.copyNo hx (En.ext' (show e.seq = x.seq from e1.symm) (show e.key = x.key from e2.symm) (show e.del = x.del from e3.symm) rfl rfl (show e.size = x.size from e4.symm)) a.slot.1 a.slot.2 hv hd
  · have hd' : ¬ ∃ o ∈ st.all, o.slot = (atM st e).slot ∧ o.seq = (atM st e).seq := fun hh => by rw [dupM_iff.2 hh] at hd; cases hd
    rcases a.o with ho | ⟨x, hx, e1, e2, e3, e4⟩
    · exact (h.g.new (e := atM st e) ho a.slot.1 a.slot.2 hv (Int.le_refl _)).1
    · exact (h.g.copyYes (e := atM st e) hx (En.ext' (show e.seq = x.seq from e1.symm) (show e.key = x.key from e2.symm) (show e.del = x.del from e3.symm) rfl rfl (show e.size = x.size from e4.symm)) a.slot.1 a.slot.2 hv (Int.le_refl _) hd').1
  · unfold addM
    split
    · exact MS.later h (by omega)
    · rename_i hd
      have hd' : ¬ ∃ o ∈ st.all, o.slot = (atM st e).slot ∧ o.seq = (atM st e).seq := fun hh => hd (dupM_iff.2 hh)
      rcases a.o with ho | ⟨x, hx, e1, e2, e3, e4⟩
      · exact hpush (h.g.new (e := atM st e) ho a.slot.1 a.slot.2 hv (Int.le_refl _)).2
      · exact hpush (h.g.copyYes (e := atM st e) hx (En.ext' (show e.seq = x.seq from e1.symm) (show e.key = x.key from e2.symm) (show e.del = x.del from e3.symm) rfl rfl (show e.size = x.size from e4.symm)) a.slot.1 a.slot.2 hv (Int.le_refl _) hd').2
theorem newM_ok {st : MS} {N : Int} {j : Nat} (h : st.Ok N j) (hN : 1 ≤ N) {t : Tn} (ht : t.Ok) : AddM (nextM st) N (newM N st t) ∧ (∀ o ∈ st.all, o.seq ≠ st.nx) := by
  obtain ⟨k1, k2, k3, k4⟩ := tnKey_ok t.n
  have hq := h.q0
  have hn : ∀ o ∈ st.all, o.seq ≠ st.nx := fun o ho => by have := (h.e o ho).2.1; omega
  refine ⟨⟨⟨Int.emod_nonneg _ (by omega), Int.emod_lt_of_pos _ (by omega)⟩, ⟨by show st.nx < st.nx + 1; omega, hq⟩, ⟨k1, k2, k3, k4⟩, ?_, .inl hn⟩, hn⟩
  show 16 + ((tnKey t.n).size : Int) ≤ 16 + ((tnKey t.n).size : Int) + (if t.kind % 8 = 4 then 0 else t.size % 60) ∧ 16 + ((tnKey t.n).size : Int) + (if t.kind % 8 = 4 then 0 else t.size % 60) ≤ 78 ∧ (16 + ((tnKey t.n).size : Int) + (if t.kind % 8 = 4 then 0 else t.size % 60) = 16 + ((tnKey t.n).size : Int) ∨ decide (t.kind % 8 = 4) = false)
  by_cases hd : t.kind % 8 = 4
  · rw [if_pos hd]
    exact ⟨by omega, by omega, .inl (by omega)⟩
  · rw [if_neg hd]
    exact ⟨by omega, by omega, .inr (decide_eq_false hd)⟩
theorem cpM_mem {st : MS} (hne : st.all ≠ []) (n : Int) (hn : 0 ≤ n) : st.all.getD (n % st.all.length).toNat zE ∈ st.all := by
  have hl : 0 < st.all.length := List.length_pos_iff.2 hne
  have h1 := Int.emod_lt_of_pos n (show (0 : Int) < st.all.length by omega)
  have h2 := Int.emod_nonneg n (show (st.all.length : Int) ≠ 0 by omega)
  have h3 : (n % st.all.length).toNat < st.all.length := by omega
  rw [List.getD_eq_getElem?_getD, List.getElem?_eq_getElem h3]
  exact List.getElem_mem h3
theorem cpM_ok {st : MS} {N : Int} {j : Nat} (h : st.Ok N j) (hN : 1 ≤ N) (hne : st.all ≠ []) {t : Tn} (ht : t.Ok) : AddM st N (cpM N st t) := by
  have hx := cpM_mem hne t.n ht.n.1
  unfold cpM
  generalize st.all.getD (t.n % st.all.length).toNat zE = x at *
  obtain ⟨h1, h2, h3, h4, h5, h6⟩ := h.e x hx
  have hv := h.g.val hx
  exact ⟨⟨Int.emod_nonneg _ (by omega), Int.emod_lt_of_pos _ (by omega)⟩, ⟨h2, h1⟩, ⟨hv.1, h4, h5, h3⟩, ⟨hv.2.2.2.2.1, h6, hv.2.2.2.2.2.1⟩, .inr ⟨x, hx, rfl, rfl, rfl, rfl⟩⟩
theorem dropM_ok {st : MS} {N : Int} {j : Nat} (h : st.Ok N j) {s : Int} (h0 : 0 ≤ s) (h1 : s < N) : (dropM st s).Ok N j ∧ dropC st.X s = 0 ∧ (st.X.slot s).length + (st.all.filter (fun o => !decide (o.slot = s))).length = st.all.length := by
  obtain ⟨d1, d2, d3⟩ := h.g.drop h0 h1 (en' := endL (st.all.filter (fun o => !decide (o.slot = s)))) (fun t ht => by rw [endL_filter _ ht]; exact Int.le_refl _)
  refine ⟨⟨d3, Nat.le_trans (List.length_filter_le _ _) h.n, h.q0, h.q1, fun t => ?_, fun e he => h.e e (List.mem_filter.1 he).1⟩, d1, d2⟩
  show endL (st.all.filter (fun o => !decide (o.slot = s))) t ≤ _
  by_cases ht : t = s
  · subst ht; rw [endL_zero]; omega
  · rw [endL_filter _ ht]; exact h.u t
theorem nextM_ok {st : MS} {N : Int} {j : Nat} (h : st.Ok N j) : st.nx + 1 ≤ (j + 1 : Nat) + 1 := by have := h.q1; omega
/-- One turn more. -/
theorem stepM_ok {st : MS} {N : Int} {j : Nat} (h : st.Ok N j) (hj : j < 100) (hN : 1 ≤ N) {t : Tn} (ht : t.Ok) : (stepM N st t).Ok N (j + 1) := by
  unfold stepM
  split
  · have hn : (nextM st).Ok N (j + 1) := ⟨h.g, Nat.le_succ_of_le h.n, by have := h.q0; show 1 ≤ st.nx + 1; omega, by have := h.q1; show st.nx + 1 ≤ ((j + 1 : Nat) : Int) + 1; omega, fun s => by have := h.u s; show endL st.all s ≤ _; omega, fun e he => by
      obtain ⟨h1, h2, h3⟩ := h.e e he
      exact ⟨h1, by show e.seq < st.nx + 1; omega, h3⟩⟩
    obtain ⟨a, hq⟩ := newM_ok h hN ht
    -- the sizes are those of the state before
    have hn0 : addM (nextM st) (newM N st t) = ⟨addX st.X (atM st (newM N st t)), st.all ++ [atM st (newM N st t)], st.nx + 1⟩ := by
      unfold addM
      rw [if_neg (fun hd => by
        obtain ⟨o, ho, _, h2⟩ := dupM_iff.1 hd
        exact hq o ho h2)]
      rfl
    obtain ⟨_, _, b3, _⟩ := addM_ok (st := ⟨st.X, st.all, st.nx + 1⟩) (j := j + 1) hn (by omega) a
    rw [hn0]
    refine ⟨(show (addM (nextM st) (newM N st t)).Ok N (j + 1 + 1) from b3).g |> (fun g => by rw [hn0] at g; exact g), ?_, ?_, ?_, fun s => ?_, ?_⟩
    · show (st.all ++ [_]).length ≤ j + 1
      have := h.n
      rw [List.length_append]; simp; omega
    · have := h.q0; show 1 ≤ st.nx + 1; omega
    · have := h.q1; show st.nx + 1 ≤ ((j + 1 : Nat) : Int) + 1; omega
    · show endL (st.all ++ [atM st (newM N st t)]) s ≤ 78 * ((j + 1 : Nat) : Int)
      rw [endL_snoc]
      have hs := h.u s
      have hz := a.z
      unfold endF
      split
      · rename_i he
        have hs2 : (newM N st t).slot = s := he
        show max _ (endL st.all (newM N st t).slot + (newM N st t).size) ≤ _
        rw [hs2]
        omega
      · omega
    · have := (show (addM (nextM st) (newM N st t)).Ok N (j + 1 + 1) from b3).e
      rw [hn0] at this
      exact this
  · split
    · split
      · exact MS.later h (by omega)
      · rename_i hne
        exact (addM_ok h (by omega) (cpM_ok h hN hne ht)).2.2.1
    · exact MS.later (dropM_ok h (Int.emod_nonneg _ (by omega)) (Int.emod_lt_of_pos _ (by omega))).1 (by omega)
theorem foldM_ok (n : Nat) (h1 : 1 ≤ n) (h2 : n ≤ 32) : ∀ (j : Nat) (L : List Tn), L.length = j → j ≤ 100 → (∀ t ∈ L, t.Ok) → (foldM n L).Ok n j
  | 0, L, hL, _, _ => by
    rw [List.eq_nil_of_length_eq_zero hL]
    exact ⟨FG.start n h1 h2 _, by show 0 ≤ 0; omega, by show (1 : Int) ≤ 1; omega, by show (1 : Int) ≤ 0 + 1; omega, fun s => by show (0 : Int) ≤ 78 * 0; omega, (fun _ h => by cases h)⟩
  | j + 1, L, hL, hj, ht => by
    have hne : L ≠ [] := fun h => by rw [h] at hL; cases hL
    have e := List.dropLast_concat_getLast hne
    have h3 := foldM_ok n h1 h2 j L.dropLast (by rw [List.length_dropLast]; omega) (by omega) (fun m h => ht m (List.dropLast_subset L h))
    rw [← e, foldM_snoc]
    exact stepM_ok h3 (by omega) (by omega) (ht _ (List.getLast_mem hne))
end Go.Proofs.Ytmdfickejpeofaa

/- drumlinref21's Drop; drumlinlaw22's Made: end. -/
set_option linter.unusedVariables false
set_option linter.unusedSimpArgs false
namespace Go.Proofs.Ytmdfickejpeofaa
open Go.RowKit Go.Shelf
attribute [local go_sem] OvM cell_ovm obj_ovm
attribute [local go_sem] Oper.semAt_some

def nsP (s : Int) (o : En) : Bool := !decide (o.slot = s)
theorem tfs {l : List En} {p : En → Bool} {i : Nat} {x : En} (h : l[i]? = some x) : (l.take (i + 1)).filter p = (l.take i).filter p ++ if p x then [x] else [] := by
  rw [List.take_add_one, h, List.filter_append]
  congr 1
  simp only [Option.toList_some, List.filter_cons, List.filter_nil]
set_option maxRecDepth 40000 in
set_option maxHeartbeats 8000000 in
theorem rDrop {w0 w : World} {rb : Nat} {N : Int} {v : Value} {all : List En} {R : List Asn} (h : SW w0 (rIx rb N v all R) w) (s : Int) (h0 : 0 ≤ s) (h1 : s < N) (hn : all.length ≤ 200) :
    Calls Try.prog 32 #[.pointer (some ⟨rb, 0, none⟩), .int .i64 s] w fun r w' => r = .returned (.tuple #[.int .i64 ((all.length : Int) - (all.filter (nsP s)).length), .int .i64 0]) ∧ ∃ v', SW w0 (rIx rb N v' (all.filter (nsP s)) R) w' := by
  obtain ⟨i0, hi, hz0, hz1, hz2⟩ := info_parts infoIten
  have H := Lib.hid h
  obtain ⟨av, cv, rfl, hcv, hmv, hat⟩ := ownE_at (show Own w 53 6 v all.length (rowE all) from h.get (i := 1) rfl)
  have HAT := Lib.hid hat
  unfold maxLen at hmv
  have hN0 : 0 < N := by omega
  have n0 : ¬ s < 0 := by omega
  have n1 : ¬ N ≤ s := by omega
  have dr0 := ((cellsOf (show w.heap[rb]? = _ from H.out.get (i := 0) rfl)).1 0).trans (show _ = some (Value.int .i64 N) from rfl)
  clear h hat
  go_enter Try.func32, Try.ntmps32
  go_wp2_with (go_at_call 85; refine (rvalid (H.out.get (i := 0) rfl) hN0).mono ?_; rintro e w2 ⟨rfl, rfl⟩)
  go_loopw [6, 7] (fun t6 t7 wx => ∃ i : Nat, i ≤ all.length ∧ t7 = .int .i64 i ∧ Hid (Nw w wx 53 6 t6 ((all.take i).filter (nsP s)).length (rowE ((all.take i).filter (nsP s))) ∧ Gr w wx)) (fun _ t7 _ => all.length - (intOf t7).toNat)
  case atStart => exact ⟨0, by omega, rfl, Lib.hid ⟨⟨nilRow _ _ _, fun q hq => by cases hq⟩, Gr.refl _⟩⟩
  case round =>
    obtain ⟨i, hil, rfl, HI⟩ := hrel
    clear dr0
    have hrb : wr.heap[rb]? = _ := HI.out.2.blk (H.out.get (i := 0) rfl)
    have dr1 := ((cellsOf hrb).1 1).trans (show _ = some (Value.slice av all.length cv) from rfl)
    have HRB := Lib.hid hrb
    clear hrb
    by_cases hli : i < all.length
    · have hli' : (i : Int) < all.length := by omega
      obtain ⟨x, hx⟩ : ∃ x, all[i]? = some x := ⟨_, List.getElem?_eq_getElem hli⟩
      obtain ⟨g0, rfl, _, _, hc⟩ := HAT.out i x hx
      have hr : ∀ i' u, (enC x)[i']? = some u → wr.cell? ⟨g0, i * 6 + i', none⟩ = some u := fun i' u hu => HI.out.2.keep (hc i' u hu)
      have d0 := hr 0 _ rfl
      have d1 := hr 1 _ rfl
      have d2 := hr 2 _ rfl
      have d3 := hr 3 _ rfl
      have d4 := hr 4 _ rfl
      have d5 := hr 5 _ rfl
      simp only [Nat.add_zero] at d0 d1 d2 d3 d4 d5
      have HTF := Lib.hid (tfs (p := nsP s) hx)
      have hfl : ((all.take i).filter (nsP s)).length ≤ 1000 := by
        have h1 := List.length_filter_le (nsP s) (all.take i)
        rw [List.length_take] at h1
        omega
      clear hr hc hx
      by_cases hxs : x.slot = s
      · have hb : (x.slot == s) = true := beq_iff_eq.2 hxs
        have hb2 : (x.slot != s) = false := by simp [bne, hb]
        have HTG : Hid ((all.take (i + 1)).filter (nsP s) = (all.take i).filter (nsP s)) := Lib.hid (by rw [HTF.out, show nsP s x = false by unfold nsP; rw [decide_eq_true hxs]; rfl, if_neg (by decide), List.append_nil])
        clear hxs
        go_wp2_with fail
        exact ⟨⟨i + 1, by omega, by simp, Lib.hid ⟨by rw [HTG.out]; exact HI.out.1, HI.out.2⟩⟩, by simp [intOf]; omega⟩
      · have hb : (x.slot == s) = false := beq_false_of_ne hxs
        have hb2 : (x.slot != s) = true := by simp [bne, hb]
        have HTG : Hid ((all.take (i + 1)).filter (nsP s) = (all.take i).filter (nsP s) ++ [x]) := Lib.hid (by rw [HTF.out, show nsP s x = true by unfold nsP; rw [decide_eq_false hxs]; rfl, if_pos rfl])
        clear hxs
        go_wp2_with (first
          | (at_builtin; go_must (refine wpList_appv _ rfl (.tmp 41) (.tmp 49) 45 rfl 53 i0 _ 6 56 Try.underlying45 hi hz0 hz1 hz2 rfl (by decide) u6 ((all.take i).filter (nsP s)).length (rowE ((all.take i).filter (nsP s))) rfl (HI.out.1.own.gr (by (repeat (first | (with_reducible exact Gr.refl _) | assumption | (with_reducible apply Gr.from_drew) | (with_reducible apply Gr.alloc) | (with_reducible apply Gr.drew) | (with_reducible refine Gr.trans ?_ (by assumption)) | (with_reducible refine Gr.setCell ?_ (by omega) _))))) (some ⟨wr.heap.size, 0, none⟩) 1 1 (enC x) rfl (src_newK wr (enC x) _ 6 rfl (enC_one x)) (by simp only [maxLen]; omega) (by omega) ?_); intro v2 w2 hA; have N2 := Lib.hid (hA.nw (HI.out.1.gr ((Gr.refl wr).alloc _)) (by have := HI.out.2.sz; simp; omega)); have HG2 := Lib.hid (hA.gw (HI.out.1.gr ((Gr.refl wr).alloc _)) (HI.out.2.alloc _)); clear hA)
          | fail)
        exact ⟨⟨i + 1, by omega, by simp, Lib.hid ⟨by rw [HTG.out, rowE_snoc, List.length_append]; exact N2.out, HG2.out⟩⟩, by simp [intOf]; omega⟩
    · have hli' : ¬ (i : Int) < all.length := by omega
      obtain rfl : i = all.length := by omega
      rw [List.take_length] at HI
      obtain ⟨a6, c6, rfl, _, _, _⟩ := ownE_at HI.out.1.own
      have hfl : (all.filter (nsP s)).length ≤ all.length := List.length_filter_le _ _
      obtain ⟨_, fr⟩ := cellsOf HRB.out
      have lr := blkLt HRB.out
      generalize hfn : (all.filter (nsP s)).length = fn at *
      go_wp2_with fail
      go_ret2
      rw [← hfn] at HI ⊢
      refine ⟨rfl, .slice a6 (all.filter (nsP s)).length c6, ?_⟩
      have h1 := H.out.new HI.out.2 (A := rowA 53 6 (.slice a6 (all.filter (nsP s)).length c6) (all.filter (nsP s)).length (rowE (all.filter (nsP s)))) HI.out.1.own (fun k hk => HI.out.1.new k hk)
      have h2 := h1.at (i := 1) rfl ((Mdh.refl (fun k => k = rb) wr).setCell (p := ⟨rb, 1, none⟩) rfl (.slice a6 (all.filter (nsP s)).length c6)) (fun k hk => .inl hk) (B := blkA rb (rmO N (.slice a6 (all.filter (nsP s)).length c6))) (blkSet (j := 1) HRB.out) (fun k hk => .inl hk)
      exact (h2.sub (.cons_cons _ (.cons_cons _ (.cons _ (List.Sublist.refl _))))).perm (List.Perm.swap _ _ _)

theorem endL_take {all : List En} {i : Nat} {x : En} (h : all[i]? = some x) (s : Int) : endL (all.take (i + 1)) s = endF s (endL (all.take i) s) x := by
  rw [List.take_add_one, h]
  exact endL_snoc _ _ _
theorem endL_le {all : List En} {m : Int} (hm : 0 ≤ m) (h : ∀ o ∈ all, o.off + o.size ≤ m) (s : Int) : endL all s ≤ m := by
  have h2 : ∀ (l : List En) (a : Int), a ≤ m → (∀ o ∈ l, o.off + o.size ≤ m) → l.foldl (endF s) a ≤ m := by
    intro l
    induction l with
    | nil => intro a ha _; exact ha
    | cons e l ih =>
      intro a ha hl
      refine ih _ ?_ (fun o ho => hl o (List.mem_cons_of_mem _ ho))
      have := hl e (List.mem_cons_self ..)
      unfold endF
      split <;> omega
  exact h2 all 0 hm h
end Go.Proofs.Ytmdfickejpeofaa

/- An index of the program beside the reference's: both made by one number of slots, or neither; Add and Drop of both. -/
set_option linter.unusedVariables false
set_option linter.unusedSimpArgs false
namespace Go.Proofs.Ytmdfickejpeofaa
open Go.RowKit Go.Shelf
attribute [local go_sem] OvM cell_ovm obj_ovm
attribute [local go_sem] Oper.semAt_some

/-! ### Plain -/
/-- The entries of the reference are the index's. -/
structure RelX (X : IX) (all : List En) : Prop where
  wf : X.Wf
  pm : all.Perm X.ents
def nwC (n : Int) : Int := if 1 ≤ n ∧ n ≤ 32 then 0 else 2
def nwX (n : Int) : IX := if 1 ≤ n ∧ n ≤ 32 then ixNew n.toNat else ⟨[], []⟩
def alX (X : IX) (all : List En) (e : En) : List En := if addE X e = 0 then all ++ [e] else all
theorem relNew (n : Int) : RelX (nwX n) [] := by
  unfold nwX
  split
  · exact ⟨new_wf (by omega), by unfold IX.ents ixNew; simp⟩
  · exact ⟨none_wf, List.Perm.refl _⟩
section
variable {X : IX} {all : List En}
theorem RelX.no (h : RelX X all) (h0 : X.slots = []) : X = ⟨[], []⟩ := by
  obtain ⟨s, k⟩ := X
  have := h.wf.z h0
  simp only at h0 this
  rw [h0, this]
theorem RelX.codes (h : RelX X all) (h0 : X.slots ≠ []) (e : En) : rAddC X.slots.length all e = addE X e :=
  rAddC_eq h.wf rfl (by have := List.length_pos_iff.2 h0; omega) h.pm e
theorem RelX.lists (h : RelX X all) (h0 : X.slots ≠ []) (e : En) : rAddL X.slots.length all e = alX X all e := by
  unfold rAddL alX
  rw [h.codes h0]
theorem RelX.add (h : RelX X all) (e : En) : RelX (addX X e) (alX X all e) := by
  unfold alX
  by_cases h1 : addE X e = 0
  · rw [if_pos h1]
    have a := add_ok h1
    exact ⟨add_wf h.wf a, (List.perm_append_singleton e all).trans ((h.pm.cons e).trans (add_ents h.wf a).symm)⟩
  · rw [if_neg h1, addX_no h1]; exact h
theorem RelX.val (h : RelX X all) {e : En} (he : e ∈ all) : validE e = true := (h.wf.valid (h.pm.mem_iff.1 he)).1
theorem RelX.rows (h : RelX X all) : ∀ o ∈ all, 0 ≤ o.off ∧ o.off ≤ 8192 ∧ 0 ≤ o.size ∧ o.size ≤ 8192 := fun o ho => by
  have := (valid_iff o).1 (h.val ho)
  omega
theorem RelX.drop (h : RelX X all) {s : Int} (hh : X.has s = true) : (X.slot s).length + (all.filter (nsP s)).length = all.length ∧ RelX (dropX X s) (all.filter (nsP s)) := by
  have hp := drop_ents h.wf hh
  have hw := drop_wf h.wf s
  have hne : ∀ o ∈ (dropX X s).ents, nsP s o = true := fun o ho => by
    unfold nsP
    simp only [Bool.not_eq_true', decide_eq_false_iff_not]
    intro e
    have h2 := (hw.slot_mem s o).2 ⟨ho, e⟩
    rw [drop_slot h.wf, if_pos rfl] at h2
    cases h2
  have hs : ∀ o ∈ X.slot s, ¬ nsP s o = true := fun o ho => by unfold nsP; simp [((h.wf.slot_mem s o).1 ho).2]
  have hpm : (all.filter (nsP s)).Perm (dropX X s).ents := by
    have h2 := (h.pm.trans hp).filter (nsP s)
    rw [List.filter_append, List.filter_eq_nil_iff.2 hs, List.nil_append, List.filter_eq_self.2 hne] at h2
    exact h2
  refine ⟨?_, hw, hpm⟩
  have h2 := (h.pm.trans hp).length_eq
  have h3 := hpm.length_eq
  rw [List.length_append] at h2
  omega
end
theorem addX_slots (X : IX) (e : En) : (addX X e).slots.length = X.slots.length := by
  unfold addX
  split
  · simp
  · rfl
theorem addX_nil {X : IX} {e : En} : (addX X e).slots = [] ↔ X.slots = [] := by
  rw [← List.length_eq_zero_iff, ← List.length_eq_zero_iff, addX_slots]
theorem alX_len (X : IX) (all : List En) (e : En) : (alX X all e).length ≤ all.length + 1 := by
  unfold alX
  split <;> simp
theorem add_nil {e : En} : addE ⟨[], []⟩ e = 1 := if_pos rfl

/-! ### In a world -/
/-- The program's index alone. -/
def PH (w0 : World) (p : Option Addr) (X : IX) (R : List Asn) (w : World) : Prop :=
  (p = none ∧ X = ⟨[], []⟩ ∧ SW w0 R w) ∨ (∃ b S, p = some ⟨b, 0, none⟩ ∧ X.slots ≠ [] ∧ SW w0 (ixA b X S :: R) w)
abbrev pxL (b rb : Nat) (X : IX) (S : Nat → Prop) (v : Value) (all : List En) (R : List Asn) : List Asn := ixA b X S :: rIx rb X.slots.length v all R
/-- Both. -/
def PX (w0 : World) (p q : Option Addr) (X : IX) (all : List En) (R : List Asn) (w : World) : Prop :=
  (p = none ∧ q = none ∧ X = ⟨[], []⟩ ∧ all = [] ∧ SW w0 R w) ∨ (∃ b rb S v, p = some ⟨b, 0, none⟩ ∧ q = some ⟨rb, 0, none⟩ ∧ X.slots ≠ [] ∧ SW w0 (pxL b rb X S v all R) w)
section
variable {w0 w w' : World} {p q : Option Addr} {X : IX} {all : List En} {R : List Asn}
theorem PX.gr (h : PX w0 p q X all R w) (g : Gr w w') : PX w0 p q X all R w' := by
  rcases h with ⟨h1, h2, h3, h4, h5⟩ | ⟨b, rb, S, v, h1, h2, h3, h4⟩
  · exact .inl ⟨h1, h2, h3, h4, h5.gr g⟩
  · exact .inr ⟨b, rb, S, v, h1, h2, h3, h4.gr g⟩
theorem PX.g (h : PX w0 p q X all R w) : Gr w0 w := by
  rcases h with ⟨_, _, _, _, h5⟩ | ⟨b, rb, S, v, _, _, _, h4⟩
  · exact h5.g
  · exact h4.g
theorem PX.ixp (h : PX w0 p q X all R w) : ∃ S, IXP w p X S := by
  rcases h with ⟨h1, h2, h3, h4, h5⟩ | ⟨b, rb, S, v, h1, h2, h3, h4⟩
  · exact ⟨fun _ => False, .inr ⟨.inl h1, h3, fun k => ⟨fun h => h.elim, (fun ⟨a, ha, _⟩ => by rw [h1] at ha; cases ha)⟩⟩⟩
  · exact ⟨S, h1 ▸ h4.ixp⟩
theorem PX.rp (h : PX w0 p q X all R w) (hr : RelX X all) (hn : all.length ≤ 1000) : RP w q X := by
  rcases h with ⟨h1, h2, h3, h4, h5⟩ | ⟨b, rb, S, v, h1, h2, h3, h4⟩
  · exact .inl ⟨h2, h3⟩
  · exact .inr ⟨rb, h2, v, all, h4.get (i := 1) rfl, h3, h4.get (i := 2) rfl, hr.wf, hr.pm, hn⟩
theorem PX.part (h : PX w0 p q X all R w) {A : Asn} (hA : A ∈ R) : A.P w := by
  rcases h with ⟨_, _, _, _, h5⟩ | ⟨b, rb, S, v, _, _, _, h4⟩
  · exact h5.s.get hA
  · exact h4.s.get (List.mem_cons_of_mem _ (List.mem_cons_of_mem _ (List.mem_cons_of_mem _ hA)))
theorem PX.nil_iff (h : PX w0 p q X all R w) : (p = none ↔ X.slots = []) ∧ (q = none ↔ X.slots = []) := by
  rcases h with ⟨rfl, rfl, rfl, _, _⟩ | ⟨b, rb, S, v, rfl, rfl, h3, _⟩
  · exact ⟨⟨fun _ => rfl, fun _ => rfl⟩, ⟨fun _ => rfl, fun _ => rfl⟩⟩
  · exact ⟨⟨(fun h => by cases h), fun h => absurd h h3⟩, ⟨(fun h => by cases h), fun h => absurd h h3⟩⟩
end
theorem pNew {w0 w : World} {R : List Asn} (h : SW w0 R w) (n : Int) : Calls Try.prog 18 #[.int .i64 n] w fun e w' => ∃ p, e = .returned (.tuple #[.pointer p, .int .i64 (nwC n)]) ∧ PH w0 p (nwX n) R w' := by
  unfold nwC nwX
  by_cases h1 : 1 ≤ n ∧ n ≤ 32
  · rw [if_pos h1, if_pos h1]
    obtain ⟨m, rfl⟩ : ∃ m : Nat, n = m := ⟨n.toNat, by omega⟩
    have hm1 : 1 ≤ m := by omega
    have hm2 : m ≤ 32 := by omega
    refine (New_any m w hm1 hm2).mono ?_
    rintro e w' ⟨b, S, rfl, i1, i2, i3⟩
    exact ⟨_, rfl, .inr ⟨b, S, rfl, ixNew_pos hm1, h.ixnew i1 i2 i3⟩⟩
  · rw [if_neg h1, if_neg h1]
    refine (new_bad n (by omega) w).mono ?_
    rintro e w' ⟨rfl, rfl⟩
    exact ⟨none, rfl, .inl ⟨rfl, rfl, h⟩⟩
theorem rNew_bad (n : Int) (h : n < 1 ∨ 32 < n) (w : World) : Calls Try.prog 19 #[.int .i64 n] w fun e w' => e = .returned (.tuple #[.pointer none, .int .i64 2]) ∧ w = w' := by
  rcases h with h | h
  · go_enter Try.func19, Try.ntmps19
    go_wp2
    go_ret2
    exact ⟨rfl, rfl⟩
  · have h' : ¬ n < 1 := by omega
    go_enter Try.func19, Try.ntmps19
    go_wp2
    go_ret2
    exact ⟨rfl, rfl⟩
theorem pNewR {w0 w : World} {R : List Asn} {p : Option Addr} {n : Int} (h : PH w0 p (nwX n) R w) : Calls Try.prog 19 #[.int .i64 n] w fun e w' => ∃ q, e = .returned (.tuple #[.pointer q, .int .i64 (nwC n)]) ∧ PX w0 p q (nwX n) [] R w' := by
  unfold nwC
  unfold nwX at h ⊢
  by_cases h1 : 1 ≤ n ∧ n ≤ 32
  · rw [if_pos h1] at h ⊢
    rw [if_pos h1]
    obtain ⟨m, rfl⟩ : ∃ m : Nat, n = m := ⟨n.toNat, by omega⟩
    have hm1 : 1 ≤ m := by omega
    have hm2 : m ≤ 32 := by omega
    rw [Int.toNat_natCast] at h ⊢
    have hl : ((ixNew m).slots.length : Int) = m := by unfold ixNew; simp
    rcases h with ⟨_, h2, _⟩ | ⟨b, S, rfl, h2, h3⟩
    · exact absurd (by rw [h2]) (ixNew_pos hm1)
    · refine (rNew m hm1 hm2 w).mono ?_
      rintro e w' ⟨rfl, rfl⟩
      have h4 := h3.alloc (rmO m (.slice none 0 0))
      have n1 : Own (w.alloc (rmO m (.slice none 0 0))) 53 6 (.slice none 0 0) 0 [] := nilRow _ _ _
      have h5 := h4.new (Gr.refl _) (A := rowA 53 6 (.slice none 0 0) 0 []) n1 (fun k hk => by cases hk)
      refine ⟨_, rfl, .inr ⟨b, w.heap.size, S, .slice none 0 0, rfl, rfl, h2, ?_⟩⟩
      show SW w0 (ixA b (ixNew m) S :: blkA w.heap.size (rmO (ixNew m).slots.length (.slice none 0 0)) :: rowA 53 6 (.slice none 0 0) ([] : List En).length (rowE []) :: R) _
      rw [hl]
      exact (h5.pick (i := 1) rfl).pick (i := 2) rfl
  · rw [if_neg h1] at h ⊢
    rw [if_neg h1]
    refine (rNew_bad n (by omega) w).mono ?_
    rintro e w' ⟨rfl, rfl⟩
    rcases h with ⟨rfl, _, h3⟩ | ⟨b, S, _, h2, _⟩
    · exact ⟨none, rfl, .inl ⟨rfl, rfl, rfl, rfl, h3⟩⟩
    · exact absurd rfl h2
theorem pAdd {w0 w : World} {p q : Option Addr} {X : IX} {all : List En} {R : List Asn} (h : PX w0 p q X all R w) (e : En) (hB : En64 e) :
    Calls Try.prog 20 #[.pointer p, enV e] w fun r w' => r = .returned (.int .i64 (addE X e)) ∧ PX w0 p q (addX X e) all R w' ∧ Mdh (fun k => w0.heap.size ≤ k) w w' := by
  rcases h with ⟨rfl, rfl, rfl, rfl, h5⟩ | ⟨b, rb, S, v, rfl, rfl, h3, h4⟩
  · refine (AddN (.inl rfl) e).mono ?_
    rintro r w' ⟨rfl, hg⟩
    exact ⟨rfl, .inl ⟨rfl, rfl, rfl, rfl, h5.gr hg⟩, hg.mdh _⟩
  · refine (Add_all h4.ix e hB).mono ?_
    rintro r w' ⟨rfl, hp⟩
    obtain ⟨S', h6⟩ := h4.post hp
    obtain ⟨_, _, hm, _⟩ := hp
    refine ⟨rfl, .inr ⟨b, rb, S', v, rfl, rfl, fun h0 => h3 (addX_nil.1 h0), ?_⟩, hm.mono (fun k hk => h4.n (ixA b X S) (List.mem_cons_self ..) k hk)⟩
    show SW w0 (ixA b (addX X e) S' :: blkA rb (rmO (addX X e).slots.length v) :: rowA 53 6 v all.length (rowE all) :: R) w'
    rw [addX_slots]
    exact h6
set_option maxHeartbeats 2000000 in
theorem rAddN (e : En) (w : World) : Calls Try.prog 21 #[.pointer none, enV e] w fun r w' => r = .returned (.int .i64 1) ∧ Gr w w' := by
  obtain ⟨e1, e2, e3, e4, e5, e6⟩ := e
  simp only [enV]
  go_enter Try.func21, Try.ntmps21
  go_wp2_with (go_at_call 85; refine Calls.mono (rvalid_no _) ?_; rintro e w1 ⟨rfl, rfl⟩)
  go_ret
  exact ⟨rfl, by (repeat (first | (with_reducible exact Gr.refl _) | assumption | (with_reducible apply Gr.from_drew) | (with_reducible apply Gr.alloc) | (with_reducible apply Gr.drew) | (with_reducible refine Gr.trans ?_ (by assumption)) | (with_reducible refine Gr.setCell ?_ (by omega) _)))⟩
theorem pAddR {w0 w : World} {p q : Option Addr} {X : IX} {all : List En} {R : List Asn} {e : En} (h : PX w0 p q (addX X e) all R w) (hr : RelX X all) (hk : e.key.size ≤ 10000) (hn : all.length ≤ 200) :
    Calls Try.prog 21 #[.pointer q, enV e] w fun r w' => r = .returned (.int .i64 (addE X e)) ∧ PX w0 p q (addX X e) (alX X all e) R w' ∧ Mdh (fun k => w0.heap.size ≤ k) w w' := by
  rcases h with ⟨rfl, rfl, h0, rfl, h5⟩ | ⟨b, rb, S, v, rfl, rfl, h3, h4⟩
  · have hs : X.slots = [] := addX_nil.1 (by rw [h0])
    have hE : addE X e = 1 := by rw [hr.no hs, add_nil]
    refine (rAddN e w).mono ?_
    rintro r w' ⟨rfl, hg⟩
    exact ⟨by rw [hE], .inl ⟨rfl, rfl, h0, by unfold alX; rw [if_neg (by rw [hE]; decide)], h5.gr hg⟩, hg.mdh _⟩
  · have hs : X.slots ≠ [] := fun h0 => h3 (addX_nil.2 h0)
    have hp := List.length_pos_iff.2 hs
    have h4' := h4.pick (i := 1) rfl
    have h6 := h4'.pick (i := 2) rfl
    have h7 : SW w0 (rIx rb X.slots.length v all (ixA b (addX X e) S :: R)) w := by
      have := h6.pick (i := 1) rfl
      rw [← addX_slots X e]
      exact this
    have hrb : w0.heap.size ≤ rb := h7.n (blkA rb (rmO X.slots.length v)) (List.mem_cons_self ..) rb rfl
    refine (rAdd e h7 (by omega) hr.rows (by omega) hn).mono ?_
    rintro r w' ⟨rfl, hm, v', h8⟩
    rw [hr.codes hs, hr.lists hs] at *
    refine ⟨rfl, .inr ⟨b, rb, S, v', rfl, rfl, h3, ?_⟩, hm.mono (fun k hk => by rw [hk]; exact hrb)⟩
    have h9 := h8.pick (i := 2) rfl
    show SW w0 (ixA b (addX X e) S :: blkA rb (rmO (addX X e).slots.length v') :: rowA 53 6 v' (alX X all e).length (rowE (alX X all e)) :: R) w'
    rw [addX_slots]
    exact h9
theorem Mdh.cut {S : Nat → Prop} {w w' : World} (h : Mdh S w w') {n : Nat} (hn : w.heap.size ≤ n) : Mdh (fun k => S k ∧ k < n) w w' :=
  ⟨h.size, fun k hk hs => h.blocks k hk (fun h2 => hs ⟨h2, by omega⟩), h.os, h.tape, h.output⟩
end Go.Proofs.Ytmdfickejpeofaa
