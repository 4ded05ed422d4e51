/- drumlinlaw22's Made: add. -/
import Derived.Test.YtemjnppplmankaaGreatBd22
import Derived.Test.YtemjnppplmankaaGreatBd2
import Derived.Deep.Slices
import Derived.Deep.Fields
import Derived.ChangeSame
import Derived.ChangeArms
import Derived.OpenShut
import Derived.ShutString
import Derived.ChangeOld
import Derived.Lib.SmallJoins
set_option linter.unusedVariables false
set_option linter.unusedSimpArgs false
namespace Go.Proofs.YtemjnppplmankaaGreat
open Go.RowKit Go.Shelf
attribute [local go_sem] OvM cell_ovm obj_ovm
attribute [local go_sem] Oper.semAt_some

abbrev mL (b rb mb : Nat) (N : Int) (v1 v2 : Value) (S : Nat → Prop) (st : MS) (R : List Asn) : List Asn :=
  ixA b st.X S :: blkA rb (rmO N v1) :: rowA 89 6 v1 st.all.length (rowE st.all) :: blkA mb (mdO b rb v2 st.nx) :: rowA 89 6 v2 st.all.length (rowE st.all) :: R
/-- What stands behind a call of Made: the same index, with the state st. -/
def MdP (w0 : World) (b rb mb : Nat) (N : Int) (st : MS) (R : List Asn) (r : Ending) (w' : World) : Prop := r = .returned (.bool true) ∧ ∃ v1 v2 S, SW w0 (mL b rb mb N v1 v2 S st R) w'
theorem MS.Ok.rows {st : MS} {N : Int} {j : Nat} (h : st.Ok N j) : ∀ o ∈ st.all, 0 ≤ o.off ∧ o.off ≤ 8192 ∧ 0 ≤ o.size ∧ o.size ≤ 8192 := fun o ho => by
  have := h.g.val ho
  omega
theorem MS.Ok.rix {st : MS} {N : Int} {j : Nat} (h : st.Ok N j) (hN : 1 ≤ N) (e : En) : rAddC N st.all e = addE st.X e := rAddC_eq h.g.wf h.g.ln hN h.g.pm e
/-- The order of the parts behind the reference's Add. -/
theorem h8p {w0 w : World} {A B C D E F : Asn} {R : List Asn} (h : SW w0 (A :: B :: C :: D :: E :: F :: R) w) : SW w0 (D :: A :: B :: E :: F :: R) w :=
  ((h.pick (i := 3) rfl)).sub (.cons_cons _ (.cons_cons _ (.cons_cons _ (.cons _ (List.Sublist.refl _)))))
set_option maxRecDepth 40000 in
set_option maxHeartbeats 8000000 in
theorem mAdd {w0 w : World} {b rb mb : Nat} {N : Int} {v1 v2 : Value} {S : Nat → Prop} {st : MS} {R : List Asn} {j : Nat} {e : En} (h : SW w0 (mL b rb mb N v1 v2 S st R) w) (hst : st.Ok N j) (hj : j ≤ 101) (hN : 1 ≤ N) (ha : AddM st N e) :
    Calls Tryz.prog 39 #[.pointer (some ⟨mb, 0, none⟩), enV e] w (MdP w0 b rb mb N (addM st e) R) := by
  obtain ⟨i0, hi, hz0, hz1, hz2⟩ := info_parts infoIten
  have H := Lib.hid h
  have hn : st.all.length ≤ 101 := Nat.le_trans hst.n hj
  have HOK := Lib.hid (addM_ok hst hj ha)
  have HB := Lib.hid hst.rows
  have HRX := Lib.hid (hst.rix hN (atM st e))
  have hlo := endL_nn st.all e.slot
  have hhi : endL st.all e.slot ≤ 7878 := HOK.out.2.2.2.2.2.2.2
  have HAM : Hid (addM st e = if dupM st e = true then st else ⟨addX st.X (atM st e), st.all ++ [atM st e], st.nx⟩) := Lib.hid rfl
  have HDV : Hid ((dupM st e = true → addE st.X (atM st e) = 6) ∧ (dupM st e = false → addE st.X (atM st e) = 0)) := Lib.hid ⟨HOK.out.1, HOK.out.2.1⟩
  have HLO : Hid (Low (atM st e).key ∧ En64 (atM st e)) := Lib.hid ⟨HOK.out.2.2.2.1, HOK.out.2.2.2.2.1⟩
  obtain ⟨am, ham⟩ : ∃ am, am = addM st e := ⟨_, rfl⟩
  obtain ⟨dv, hdv⟩ : ∃ dv, dv = dupM st e := ⟨_, rfl⟩
  obtain ⟨f, hf⟩ : ∃ f, f = atM st e := ⟨_, rfl⟩
  rw [← ham] at HAM ⊢
  rw [← hdv] at HAM HDV
  rw [← hf] at HAM HDV HLO HRX
  have HF : Hid (f = ⟨e.seq, e.key, e.del, e.slot, endL st.all e.slot, e.size⟩) := Lib.hid hf
  clear h hst ha HOK ham hdv hf
  obtain ⟨e0, e1, e2, e3, e4, e5⟩ := e
  obtain ⟨X, all, nx⟩ := st
  simp only [enV] at *
  go_enter Tryz.func39, Tryz.ntmps39
  go_upto_region 1 with fail
  obtain ⟨b3, hb3⟩ : ∃ q, q = w.heap.size := ⟨_, rfl⟩
  obtain ⟨w1, hw1⟩ : ∃ y, y = w.alloc (boxF ⟨e0, e1, e2, e3, e4, e5⟩) := ⟨_, rfl⟩
  have H1 : Hid (SW w0 (blkA b3 (boxF ⟨e0, e1, e2, e3, e4, e5⟩) :: mL b rb mb N v1 v2 S ⟨X, all, nx⟩ R) w1) := Lib.hid (by rw [hw1, hb3]; exact H.out.alloc _)
  simp only [boxF] at hw1
  rw [← hb3, ← hw1]
  clear hw1 hb3 H
  have d3 := (cellsOf (show w1.heap[b3]? = _ from H1.out.get (i := 0) rfl)).1
  have l3 := blkLt (show w1.heap[b3]? = _ from H1.out.get (i := 0) rfl)
  simp only [boxF] at d3
  have d33 : w1.cell? ⟨b3, 3, none⟩ = some (.int .i64 e3) := d3 3
  clear d3
  go_wp2_with fail
  refine (mEnd (H1.out.get (i := 4) rfl) (H1.out.get (i := 5) rfl) (show all.length ≤ 200 by omega) HB.out e3).mono ?_
  rintro r w2 ⟨rfl, hg⟩
  have H2 := Lib.hid (H1.out.gr hg)
  clear hg d33 l3 H1
  obtain ⟨_, f3⟩ := cellsOf (show w2.heap[b3]? = _ from H2.out.get (i := 0) rfl)
  have l3 := blkLt (show w2.heap[b3]? = _ from H2.out.get (i := 0) rfl)
  go_upto_region 2 with fail
  obtain ⟨w3, hw3⟩ : ∃ y, y = w2.setCell ⟨b3, 4, none⟩ (.int .i64 (endL all e3)) := ⟨_, rfl⟩
  have H3 : Hid (SW w0 (blkA b3 (boxF f) :: mL b rb mb N v1 v2 S ⟨X, all, nx⟩ R) w3) := Lib.hid (by
    rw [hw3, HF.out]
    exact H2.out.at (i := 0) rfl ((Mdh.refl (fun k => k = b3) w2).setCell (p := ⟨b3, 4, none⟩) rfl _) (fun k hk => .inl hk) (B := blkA b3 (boxF ⟨e0, e1, e2, e3, endL all e3, e5⟩)) (blkSet (j := 4) (H2.out.get (i := 0) rfl)) (fun k hk => .inl hk))
  rw [← hw3]
  clear hw3 l3 f3 H2 HF
  have H3p : Hid (SW w0 (rIx rb N v1 all (blkA b3 (boxF f) :: ixA b X S :: blkA mb (mdO b rb v2 nx) :: rowA 89 6 v2 all.length (rowE all) :: R)) w3) := Lib.hid ((H3.out.pick (i := 3) rfl).pick (i := 3) rfl)
  have d3 := (cellsOf (show w3.heap[b3]? = _ from H3.out.get (i := 0) rfl)).1
  (try simp only [boxF] at d3)
  have dm := (cellsOf (show w3.heap[mb]? = _ from H3.out.get (i := 4) rfl)).1
  have dm1 := (dm 1).trans (show _ = some (Value.pointer (some ⟨rb, 0, none⟩)) from rfl)
  have lrb := blkLt (show w3.heap[rb]? = _ from H3.out.get (i := 2) rfl)
  have hN1 : ¬ mb = rb := fun h => (H3.out.get_ne (i := 4) (j := 2) rfl rfl (by decide)) mb rfl h
  have hN2 : ¬ b3 = rb := fun h => (H3.out.get_ne (i := 0) (j := 2) rfl rfl (by decide)) b3 rfl h
  clear dm
  have HRA : Hid (Calls Tryz.prog 72 #[.pointer (some ⟨rb, 0, none⟩), enV f] w3.drew (RAddP w0 w3.drew rb N all (blkA b3 (boxF f) :: ixA b X S :: blkA mb (mdO b rb v2 nx) :: rowA 89 6 v2 all.length (rowE all) :: R) f)) := Lib.hid (rAdd f (H3p.out.gr (Gr.refl w3).drew) hN HB.out HLO.out.2.2.2 (by omega))
  have HRL : Hid (rAddL N all f = if rAddC N all f = 0 then all ++ [f] else all) := Lib.hid rfl
  obtain ⟨f0, f1, f2, f3, f4, f5⟩ := f
  simp only [enV] at HRA
  (try simp only at d3)
  clear H3 H3p
  refine wp_region_flo (fun k => k = rb) [] [] (by kernel_rfl) (by kernel_rfl) (fun k hk => by subst hk; exact lrb) ?_
  refine flo_seg 5 rfl ?_
  simp only [List.take_succ_cons, List.take_zero, List.drop_succ_cons, List.drop_zero]
  repeat (go_big_quiet_step (fail))
  refine wpQuiet_nil ?_
  refine flo_eff rfl rfl rfl rfl (fun K hK => ?_)
  go_wp2_with ((go_at_call 72; refine Calls.mono HRA.out ?_; rintro e' w4 ⟨rfl, hm, v1', hs⟩; have H4 := Lib.hid hs; have HM4 := Lib.hid hm; clear hs hm))
  refine ⟨by exact HM4.out.mono (fun k hk => .inl hk), ?_⟩
  refine flo_seg 1 rfl ?_
  simp only [List.take_succ_cons, List.take_zero, List.drop_succ_cons, List.drop_zero]
  repeat (go_big_quiet_step (fail))
  refine wpQuiet_nil ?_
  refine flo_nil ?_
  clear d3 dm1 hN1 hN2 lrb HRA HM4
  have HAD : ∀ {w' : World} {S' : Nat → Prop}, IXR w' b X S' → Calls Tryz.prog 36 #[.pointer (some ⟨b, 0, none⟩), enV ⟨f0, f1, f2, f3, f4, f5⟩] w' fun e' w'' => e' = .returned (.int .i64 (addE X ⟨f0, f1, f2, f3, f4, f5⟩)) ∧ IXPost b (addX X ⟨f0, f1, f2, f3, f4, f5⟩) S' w' w'' := fun h => Add_any h _ HLO.out.1 HLO.out.2
  cases dv with
  | true =>
    have hc6 := HDV.out.1 rfl
    have hc6' := HRX.out.trans hc6
    have HL6 : Hid (rAddL N all ⟨f0, f1, f2, f3, f4, f5⟩ = all) := Lib.hid (by rw [HRL.out, hc6', if_neg (by decide)])
    have HX6 : Hid (addX X ⟨f0, f1, f2, f3, f4, f5⟩ = X) := Lib.hid (addX_no (by rw [hc6]; decide))
    have HA6 : Hid (am = ⟨X, all, nx⟩) := Lib.hid (by rw [HAM.out, if_pos rfl])
    rw [HL6.out] at H4
    have HIX : IXR w4 b X S := H4.out.get (i := 3) rfl
    have HA := Lib.hid (HAD (HIX.gr (Gr.refl w4).drew))
    rw [hc6] at HA
    simp only [enV] at HA
    rw [hc6']
    have d3 := (cellsOf (show w4.heap[b3]? = _ from H4.out.get (i := 2) rfl)).1
    (try simp only [boxF] at d3)
    have dm0 := ((cellsOf (show w4.heap[mb]? = _ from H4.out.get (i := 4) rfl)).1 0).trans (show _ = some (Value.pointer (some ⟨b, 0, none⟩)) from rfl)
    have hN1 : ¬ S mb := fun h => (H4.out.get_ne (i := 3) (j := 4) rfl rfl (by decide)) mb h rfl
    have hN2 : ¬ S b3 := fun h => (H4.out.get_ne (i := 3) (j := 2) rfl rfl (by decide)) b3 h rfl
    have HSL := Lib.hid (fun k (hk : S k) => HIX.lt k hk)
    clear HIX hc6 hc6' HAD
    go_wp2_with fail
    refine wp_region_flo (S) [] [] (by kernel_rfl) (by kernel_rfl) (HSL.out) ?_
    refine flo_seg 5 rfl ?_
    simp only [List.take_succ_cons, List.take_zero, List.drop_succ_cons, List.drop_zero]
    repeat (go_big_quiet_step (fail))
    refine wpQuiet_nil ?_
    refine flo_eff rfl rfl rfl rfl (fun K hK => ?_)
    go_wp2_with ((go_at_call 36; refine Calls.mono HA.out ?_; rintro e' w8 ⟨rfl, S8, hI8, hm8, hn8⟩; rw [HX6.out] at hI8; have HI8 := Lib.hid hI8; have HM8 := Lib.hid hm8; have HN8 := Lib.hid hn8; clear hI8 hm8 hn8))
    refine ⟨by exact HM8.out.mono (fun k hk => .inl hk), ?_⟩
    refine flo_seg 2 rfl ?_
    simp only [List.take_succ_cons, List.take_zero, List.drop_succ_cons, List.drop_zero]
    repeat (go_big_quiet_step (fail))
    refine wpQuiet_nil ?_
    refine flo_nil ?_
    have H8 := (H4.out.gr (Gr.refl w4).drew).at (i := 3) rfl HM8.out (fun k hk => .inl hk) (B := ixA b X S8) HI8.out HN8.out
    have HE : Hid (SW w0 (mL b rb mb N v1' v2 S8 ⟨X, all, nx⟩ R) w8) := Lib.hid ((h8p H8))
    go_wp2_with fail
    go_ret
    exact ⟨rfl, v1', v2, S8, by rw [HA6.out]; exact HE.out⟩
  | false =>
    have hc0 := HDV.out.2 rfl
    have hc0' := HRX.out.trans hc0
    have HL6 : Hid (rAddL N all ⟨f0, f1, f2, f3, f4, f5⟩ = all ++ [⟨f0, f1, f2, f3, f4, f5⟩]) := Lib.hid (by rw [HRL.out, hc0', if_pos rfl])
    have HA6 : Hid (am = ⟨addX X ⟨f0, f1, f2, f3, f4, f5⟩, all ++ [⟨f0, f1, f2, f3, f4, f5⟩], nx⟩) := Lib.hid (by rw [HAM.out, if_neg (by decide)])
    rw [HL6.out] at H4
    rw [hc0'] 
    have HC0 := Lib.hid hc0
    have HAD2 := Lib.hid (fun (w' : World) (S' : Nat → Prop) (h : IXR w' b X S') => HAD h)
    have HO : Hid (Own w4 89 6 v2 all.length (rowE all)) := Lib.hid (show Own w4 89 6 v2 all.length (rowE all) from H4.out.get (i := 5) rfl)
    obtain ⟨a2, c2, rfl, hc2, hm2, _⟩ := ownE_at HO.out
    unfold maxLen at hm2
    have d3 := (cellsOf (show w4.heap[b3]? = _ from H4.out.get (i := 2) rfl)).1
    (try simp only [boxF] at d3)
    have dm2 := ((cellsOf (show w4.heap[mb]? = _ from H4.out.get (i := 4) rfl)).1 2).trans (show _ = some (Value.slice a2 all.length c2) from rfl)
    have hN1 : ¬ (Value.slice a2 all.length c2).ownBlock = some mb := fun h => (H4.out.get_ne (i := 5) (j := 4) rfl rfl (by decide)) mb h rfl
    have hN2 : ¬ (Value.slice a2 all.length c2).ownBlock = some b3 := fun h => (H4.out.get_ne (i := 5) (j := 2) rfl rfl (by decide)) b3 h rfl
    clear hc0 hc0' HAD
    go_wp2_with fail
    have HG := Gr.refl w4.drew
    refine wp_region_flt 8 (fun q => (Value.slice a2 all.length c2).ownBlock = some q) [] [] (by kernel_rfl) (by kernel_rfl) (by decide) (by kernel_rfl) (fun q hq => HO.out.lt hq) ?_
    simp only [List.take_succ_cons, List.take_zero, List.drop_succ_cons, List.drop_zero]
    refine flo_seg 6 rfl ?_
    simp only [List.take_succ_cons, List.take_zero, List.drop_succ_cons, List.drop_zero]
    repeat (go_big_quiet_step (fail))
    refine wpQuiet_nil ?_
    refine flo_eff rfl rfl rfl rfl (fun K hK => ?_)
    go_wp2
    refine ⟨by (first | (refine Gr.mdh ?_ _; (repeat (first | (with_reducible exact Gr.refl _) | assumption | (with_reducible apply Gr.from_drew) | (with_reducible apply Gr.alloc) | (with_reducible apply Gr.drew) | (with_reducible refine Gr.trans ?_ (by assumption)) | (with_reducible refine Gr.setCell ?_ (by omega) _))); done) | (repeat (first | (with_reducible exact Mdh.refl _ _) | (with_reducible refine Mdh.setCell ?_ (by simp) _) | (with_reducible refine Mdh.setNew ?_ (by simp) _) | (with_reducible apply Mdh.alloc) | (with_reducible apply Mdh.from_drew) | (with_reducible apply Mdh.drew) | (with_reducible refine Mdh.gr ?_ (by assumption))))), ?_⟩
    refine flo_eff rfl rfl rfl rfl (fun K hK => ?_)
    refine wp_appv _ (.tmp 28) (.tmp 30) 37 rfl 89 i0 _ 6 56 Tryz.underlying37 hi hz0 hz1 hz2 rfl (by decide) (Value.slice a2 all.length c2) all.length (rowE all) rfl (HO.out.gr (by (repeat (first | (with_reducible exact Gr.refl _) | assumption | (with_reducible apply Gr.from_drew) | (with_reducible apply Gr.alloc) | (with_reducible apply Gr.drew) | (with_reducible refine Gr.trans ?_ (by assumption)) | (with_reducible refine Gr.setCell ?_ (by omega) _))))) (some ⟨w4.heap.size, 0, none⟩) 1 1 (enC ⟨f0, f1, f2, f3, f4, f5⟩) rfl ((show SrcAt (w4.alloc (.cells #[.int .i64 f0, .string f1, .bool f2, .int .i64 f3, .int .i64 f4, .int .i64 f5] 89)) 6 (some ⟨w4.heap.size, 0, none⟩) 1 (enC ⟨f0, f1, f2, f3, f4, f5⟩) from src_newK w4 (enC ⟨f0, f1, f2, f3, f4, f5⟩) _ 6 rfl (enC_one ⟨f0, f1, f2, f3, f4, f5⟩)).gr (by (repeat (first | (with_reducible exact Gr.refl _) | assumption | (with_reducible apply Gr.from_drew) | (with_reducible apply Gr.alloc) | (with_reducible apply Gr.drew) | (with_reducible refine Gr.trans ?_ (by assumption)) | (with_reducible refine Gr.setCell ?_ (by omega) _))))) (by simp only [maxLen]; omega) (by omega) (fun v3 xa hk3 => ?_); obtain ⟨a3, c3, rfl⟩ := hk3.val; refine hK _ _ ⟨hk3.mdh (fun q hq => .inl hq), ?_⟩; simp only [Act.put, List.setIfInBounds_toArray, List.set_cons_succ, List.set_cons_zero]
    refine flo_nil ?_
    have H5 : Hid (SW w0 (rIx rb N v1' (all ++ [⟨f0, f1, f2, f3, f4, f5⟩]) (blkA b3 (boxF ⟨f0, f1, f2, f3, f4, f5⟩) :: ixA b X S :: blkA mb (mdO b rb (.slice a2 all.length c2) nx) :: rowA 89 6 (.slice a3 (all.length + 1) c3) (all ++ [(⟨f0, f1, f2, f3, f4, f5⟩ : En)]).length (rowE (all ++ [(⟨f0, f1, f2, f3, f4, f5⟩ : En)])) :: R)) xa) := Lib.hid ((H4.out.gr (((Gr.refl w4).alloc _).drew)).at (i := 5) rfl (hk3.mdh (fun g h => h)) (fun k hk => .inl hk) (B := rowA 89 6 (.slice a3 (all.length + 1) c3) (all ++ [(⟨f0, f1, f2, f3, f4, f5⟩ : En)]).length (rowE (all ++ [(⟨f0, f1, f2, f3, f4, f5⟩ : En)]))) (by
      show Own _ _ _ _ _ _
      rw [rowE_snoc, List.length_append]
      exact hk3.1) (fun k hq => hk3.2.1 k hq))
    have hbm : xa.heap[mb]? = some (mdO b rb (.slice a2 all.length c2) nx) := H5.out.get (i := 4) rfl
    have H6 : Hid (SW w0 (rIx rb N v1' (all ++ [⟨f0, f1, f2, f3, f4, f5⟩]) (blkA b3 (boxF ⟨f0, f1, f2, f3, f4, f5⟩) :: ixA b X S :: blkA mb (mdO b rb (.slice a3 (all.length + 1) c3) nx) :: rowA 89 6 (.slice a3 (all.length + 1) c3) (all ++ [(⟨f0, f1, f2, f3, f4, f5⟩ : En)]).length (rowE (all ++ [(⟨f0, f1, f2, f3, f4, f5⟩ : En)])) :: R)) (xa.setCell ⟨mb, 2, none⟩ (.slice a3 (all.length + 1) c3))) := Lib.hid (H5.out.at (i := 4) rfl ((Mdh.refl (fun k => k = mb) xa).setCell (p := ⟨mb, 2, none⟩) rfl _) (fun k hk => .inl hk) (B := blkA mb (mdO b rb (.slice a3 (all.length + 1) c3) nx)) (blkSet (j := 2) hbm) (fun k hk => .inl hk))
    obtain ⟨_, fm⟩ := cellsOf hbm
    have lm := blkLt hbm
    obtain ⟨w6, hw6⟩ : ∃ y, y = xa.setCell ⟨mb, 2, none⟩ (.slice a3 (all.length + 1) c3) := ⟨_, rfl⟩
    rw [← hw6] at H6
    clear hbm hk3 HG d3 dm2 hN1 hN2 hc2 hm2
    go_upto_region 5 with fail
    rw [← hw6]
    clear hw6 fm lm H5 H4 HO
    have HIX : IXR w6 b X S := H6.out.get (i := 3) rfl
    have HA := Lib.hid (HAD2.out _ _ (HIX.gr (Gr.refl w6).drew))
    rw [HC0.out] at HA
    simp only [enV] at HA
    have d3 := (cellsOf (show w6.heap[b3]? = _ from H6.out.get (i := 2) rfl)).1
    (try simp only [boxF] at d3)
    have dm0 := ((cellsOf (show w6.heap[mb]? = _ from H6.out.get (i := 4) rfl)).1 0).trans (show _ = some (Value.pointer (some ⟨b, 0, none⟩)) from rfl)
    have hN1 : ¬ S mb := fun h => (H6.out.get_ne (i := 3) (j := 4) rfl rfl (by decide)) mb h rfl
    have hN2 : ¬ S b3 := fun h => (H6.out.get_ne (i := 3) (j := 2) rfl rfl (by decide)) b3 h rfl
    have HSL := Lib.hid (fun k (hk : S k) => HIX.lt k hk)
    clear HIX
    refine wp_region_flo (S) [] [] (by kernel_rfl) (by kernel_rfl) (HSL.out) ?_
    refine flo_seg 5 rfl ?_
    simp only [List.take_succ_cons, List.take_zero, List.drop_succ_cons, List.drop_zero]
    repeat (go_big_quiet_step (fail))
    refine wpQuiet_nil ?_
    refine flo_eff rfl rfl rfl rfl (fun K hK => ?_)
    go_wp2_with ((go_at_call 36; refine Calls.mono HA.out ?_; rintro e' w8 ⟨rfl, S8, hI8, hm8, hn8⟩; have HI8 := Lib.hid hI8; have HM8 := Lib.hid hm8; have HN8 := Lib.hid hn8; clear hI8 hm8 hn8))
    refine ⟨by exact HM8.out.mono (fun k hk => .inl hk), ?_⟩
    refine flo_seg 2 rfl ?_
    simp only [List.take_succ_cons, List.take_zero, List.drop_succ_cons, List.drop_zero]
    repeat (go_big_quiet_step (fail))
    refine wpQuiet_nil ?_
    refine flo_nil ?_
    have H8 := (H6.out.gr (Gr.refl w6).drew).at (i := 3) rfl HM8.out (fun k hk => .inl hk) (B := ixA b (addX X ⟨f0, f1, f2, f3, f4, f5⟩) S8) HI8.out HN8.out
    have HE : Hid (SW w0 (mL b rb mb N v1' (.slice a3 (all.length + 1) c3) S8 ⟨addX X ⟨f0, f1, f2, f3, f4, f5⟩, all ++ [⟨f0, f1, f2, f3, f4, f5⟩], nx⟩ R) w8) := Lib.hid (h8p H8)
    go_wp2_with fail
    go_ret
    exact ⟨rfl, v1', .slice a3 (all.length + 1) c3, S8, by rw [HA6.out]; exact HE.out⟩
end Go.Proofs.YtemjnppplmankaaGreat

/- drumlinlaw22's Made: Names, Begin. -/
set_option linter.unusedVariables false
set_option linter.unusedSimpArgs false
namespace Go.Proofs.YtemjnppplmankaaGreat
open Go.RowKit Go.Shelf
attribute [local go_sem] OvM cell_ovm obj_ovm
attribute [local go_sem] Oper.semAt_some

abbrev nmO : Obj := .cells #[.string ⟨#[97]⟩, .string ⟨#[98]⟩, .string ⟨#[97, 98]⟩, .string ⟨#[107, 49]⟩, .string ⟨#[120, 46, 121]⟩, .string ⟨#[122, 122]⟩] 9
theorem nm_get (n : Int) (κ : Nat) (h : n % 6 = (κ : Int)) (hk : κ < 6) : (#[.string ⟨#[97]⟩, .string ⟨#[98]⟩, .string ⟨#[97, 98]⟩, .string ⟨#[107, 49]⟩, .string ⟨#[120, 46, 121]⟩, .string ⟨#[122, 122]⟩] : Array Value)[κ]? = some (.string (tnKey n)) := by
  unfold tnKey
  rw [h]
  have h' : κ = 0 ∨ κ = 1 ∨ κ = 2 ∨ κ = 3 ∨ κ = 4 ∨ κ = 5 := by omega
  rcases h' with rfl | rfl | rfl | rfl | rfl | rfl <;> rfl
set_option maxRecDepth 40000 in
theorem Names_any (w : World) : Calls Tryz.prog 38 #[] w fun e w' => e = .returned (.slice (some ⟨w.heap.size, 0, none⟩) 6 6) ∧ w' = w.alloc nmO := by
  go_enter Tryz.func38, Tryz.ntmps38
  go_wp2
  go_ret
  exact ⟨rfl, rfl⟩
def BegP (w0 : World) (n : Nat) (R : List Asn) (r : Ending) (w' : World) : Prop := ∃ b rb mb v1 v2 S, r = .returned (.tuple #[.pointer (some ⟨mb, 0, none⟩), .bool true]) ∧ SW w0 (mL b rb mb n v1 v2 S (foldM n []) R) w'
set_option maxRecDepth 40000 in
set_option maxHeartbeats 4000000 in
theorem Begin_any {w0 w : World} {R : List Asn} (h : SW w0 R w) (n : Nat) (h1 : 1 ≤ n) (h2 : n ≤ 32) : Calls Tryz.prog 5 #[.int .i64 n] w (BegP w0 n R) := by
  have H := Lib.hid h
  clear h
  go_enter Tryz.func5, Tryz.ntmps5
  go_wp2_with fail
  refine (New_any n w h1 h2).mono ?_
  rintro e w1 ⟨b, S, rfl, i1, i2, i3⟩
  have H1 : Hid (SW w0 (ixA b (ixNew n) S :: R) w1) := Lib.hid (H.out.ixnew i1 i2 i3)
  clear i1 i2 i3
  go_wp2_with fail
  refine (rNew n h1 h2 w1).mono ?_
  rintro e w2 ⟨rfl, rfl⟩
  obtain ⟨rb, hrb⟩ : ∃ q, q = w1.heap.size := ⟨_, rfl⟩
  obtain ⟨w2, hw2⟩ : ∃ y, y = w1.alloc (rmO n (.slice none 0 0)) := ⟨_, rfl⟩
  have H2 : Hid (SW w0 (blkA rb (rmO n (.slice none 0 0)) :: ixA b (ixNew n) S :: R) w2) := Lib.hid (by rw [hrb, hw2]; exact H1.out.alloc _)
  rw [← hrb, ← hw2]
  clear hrb hw2 H1
  go_wp2
  have H3 := H2.out.alloc (mdO b rb (.slice none 0 0) 1)
  have n1 : Own (w2.alloc (mdO b rb (.slice none 0 0) 1)) 89 6 (.slice none 0 0) 0 [] := nilRow _ _ _
  have H4 := (H3.new (Gr.refl _) (A := rowA 89 6 (.slice none 0 0) 0 []) n1 (fun k hk => by cases hk)).new (Gr.refl _) (A := rowA 89 6 (.slice none 0 0) 0 []) n1 (fun k hk => by cases hk)
  go_ret2
  refine ⟨b, rb, w2.heap.size, .slice none 0 0, .slice none 0 0, S, rfl, ?_⟩
  exact (((H4.pick (i := 2) rfl).pick (i := 2) rfl).pick (i := 3) rfl).pick (i := 4) rfl
end Go.Proofs.YtemjnppplmankaaGreat

/- drumlinlaw22's Made: Do. -/
set_option linter.unusedVariables false
set_option linter.unusedSimpArgs false
namespace Go.Proofs.YtemjnppplmankaaGreat
open Go.RowKit Go.Shelf
attribute [local go_sem] OvM cell_ovm obj_ovm
attribute [local go_sem] Oper.semAt_some

abbrev tnO (t : Tn) : Obj := .cells #[.int .u8 t.kind, .int .u8 t.slot, .int .u8 t.n, .int .u8 t.size] 63
abbrev tnV (t : Tn) : Value := .agg #[.int .u8 t.kind, .int .u8 t.slot, .int .u8 t.n, .int .u8 t.size]
theorem kl6 {κ : Nat} (h : κ < 6) : (κ : Int) < 6 := by omega
theorem nextM_st {st : MS} {N : Int} {j : Nat} (h : st.Ok N j) : (nextM st).Ok N (j + 1) := by
  refine ⟨h.g, Nat.le_succ_of_le h.n, by have := h.q0; show 1 ≤ st.nx + 1; omega, by have := h.q1; show st.nx + 1 ≤ ((j + 1 : Nat) : Int) + 1; omega, fun s => by have := h.u s; show endL st.all s ≤ _; omega, fun e he => ?_⟩
  obtain ⟨h1, h2, h3⟩ := h.e e he
  exact ⟨h1, by show e.seq < st.nx + 1; omega, h3⟩
set_option maxRecDepth 40000 in
set_option maxHeartbeats 8000000 in
theorem mDo {w0 w : World} {b rb mb : Nat} {N : Nat} {v1 v2 : Value} {S : Nat → Prop} {st : MS} {R : List Asn} {j : Nat} {t : Tn} (h : SW w0 (mL b rb mb N v1 v2 S st R) w) (hst : st.Ok N j) (hj : j < 100) (hN : 1 ≤ N) (ht : t.Ok) :
    Calls Tryz.prog 20 #[.pointer (some ⟨mb, 0, none⟩), tnV t] w (MdP w0 b rb mb N (stepM N st t) R) := by
  obtain ⟨i0, hi, hz0, hz1, hz2⟩ := info_parts infoIten
  have H := Lib.hid h
  have hn : st.all.length ≤ 100 := by have := hst.n; omega
  have HST := Lib.hid hst
  have HT := Lib.hid ht
  have HQ := Lib.hid (And.intro hst.q0 hst.q1)
  have hNI : (1 : Int) ≤ N := by omega
  have HSM : Hid (stepM N st t = if t.kind % 8 < 5 then addM (nextM st) (newM N st t) else if t.kind % 8 < 7 then (if st.all = [] then st else addM st (cpM N st t)) else dropM st (t.slot % N)) := Lib.hid rfl
  obtain ⟨sm, hsm⟩ : ∃ sm, sm = stepM N st t := ⟨_, rfl⟩
  rw [← hsm] at HSM ⊢
  clear h hst hsm
  obtain ⟨t0, t1, t2, t3⟩ := t
  obtain ⟨k0, k0'⟩ := ht.kind
  obtain ⟨k1, k1'⟩ := ht.slot
  obtain ⟨k2, k2'⟩ := ht.n
  obtain ⟨k3, k3'⟩ := ht.size
  clear ht
  simp only at k0 k0' k1 k1' k2 k2' k3 k3' HSM
  obtain ⟨X, all, nx⟩ := st
  obtain ⟨q0, q1⟩ := HQ.out
  simp only at q0 q1 hn HSM
  obtain ⟨μ, hμ⟩ : ∃ μ : Nat, t0 % 8 = (μ : Int) := ⟨(t0 % 8).toNat, by omega⟩
  have hμ8 : μ < 8 := by omega
  simp only [tnV]
  go_enter Tryz.func20, Tryz.ntmps20
  go_upto_region 1 with fail
  obtain ⟨b3, hb3⟩ : ∃ q, q = w.heap.size := ⟨_, rfl⟩
  obtain ⟨w1, hw1⟩ : ∃ y, y = w.alloc (tnO ⟨t0, t1, t2, t3⟩) := ⟨_, rfl⟩
  have H1 : Hid (SW w0 (blkA b3 (tnO ⟨t0, t1, t2, t3⟩) :: mL b rb mb N v1 v2 S ⟨X, all, nx⟩ R) w1) := Lib.hid (by rw [hw1, hb3]; exact H.out.alloc _)
  simp only [tnO] at hw1
  rw [← hb3, ← hw1]
  clear hw1 hb3 H
  have d3 := (cellsOf (show w1.heap[b3]? = _ from H1.out.get (i := 0) rfl)).1
  (try simp only [tnO] at d3)
  have dm1 := ((cellsOf (show w1.heap[mb]? = _ from H1.out.get (i := 4) rfl)).1 1).trans (show _ = some (Value.pointer (some ⟨rb, 0, none⟩)) from rfl)
  refine wp_region_flo (fun _ => False) [] [] (by kernel_rfl) (by kernel_rfl) (fun _ h => h.elim) ?_
  refine flo_seg 7 rfl ?_
  simp only [List.take_succ_cons, List.take_zero, List.drop_succ_cons, List.drop_zero]
  repeat (go_big_quiet_step (fail))
  refine wpQuiet_nil ?_
  refine flo_eff rfl rfl rfl rfl (fun K hK => ?_)
  go_wp2_with ((go_at_call 23; refine (rSlots ((Gr.refl w1).drew.blk (H1.out.get (i := 2) rfl)) (by omega)).mono ?_; rintro e' w4 ⟨rfl, rfl⟩))
  refine ⟨by (first | (refine Gr.mdh ?_ _; (repeat (first | (with_reducible exact Gr.refl _) | assumption | (with_reducible apply Gr.from_drew) | (with_reducible apply Gr.alloc) | (with_reducible apply Gr.drew) | (with_reducible refine Gr.trans ?_ (by assumption)) | (with_reducible refine Gr.setCell ?_ (by omega) _))); done) | (repeat (first | (with_reducible exact Mdh.refl _ _) | (with_reducible refine Mdh.setCell ?_ (by simp) _) | (with_reducible refine Mdh.setNew ?_ (by simp) _) | (with_reducible apply Mdh.alloc) | (with_reducible apply Mdh.from_drew) | (with_reducible apply Mdh.drew) | (with_reducible refine Mdh.gr ?_ (by assumption))))), ?_⟩
  refine flo_seg 2 rfl ?_
  simp only [List.take_succ_cons, List.take_zero, List.drop_succ_cons, List.drop_zero]
  repeat (go_big_quiet_step (fail))
  refine wpQuiet_nil ?_
  refine flo_nil ?_
  have H2 := Lib.hid (H1.out.gr (Gr.refl w1).drew)
  clear H1
  by_cases h5 : t0 % 8 < 5
  · have HSM5 : Hid (sm = addM ⟨X, all, nx + 1⟩ (newM N ⟨X, all, nx⟩ ⟨t0, t1, t2, t3⟩)) := Lib.hid (by rw [HSM.out, if_pos h5]; rfl)
    have HNM := Lib.hid (newM_ok HST.out hNI HT.out).1
    have HNO := Lib.hid (nextM_st HST.out)
    obtain ⟨κ, hκ⟩ : ∃ κ : Nat, t2 % 6 = (κ : Int) := ⟨(t2 % 6).toNat, by omega⟩
    have hκ6 : κ < 6 := by omega
    have HKG := Lib.hid (nm_get t2 κ hκ hκ6)
    have hz6 : 0 ≤ t3 % 60 := by omega
    have hz7 : t3 % 60 < 60 := by omega
    have HNE : Hid (newM N ⟨X, all, nx⟩ ⟨t0, t1, t2, t3⟩ = ⟨nx, tnKey t2, decide (t0 % 8 = 4), t1 % N, 0, 16 + ((tnKey t2).size : Int) + if t0 % 8 = 4 then 0 else t3 % 60⟩) := Lib.hid rfl
    have hks : (tnKey t2).size ≤ 3 := (tnKey_ok t2).2.2.1
    have d3 := (cellsOf (show (w1.drew).heap[b3]? = _ from H2.out.get (i := 0) rfl)).1
    (try simp only [tnO] at d3)
    have dm3 := ((cellsOf (show (w1.drew).heap[mb]? = _ from H2.out.get (i := 4) rfl)).1 3).trans (show _ = some (Value.int .i64 nx) from rfl)
    obtain ⟨w2, hw2⟩ : ∃ y, y = w1.drew := ⟨_, rfl⟩
    go_wp2_with fail
    rw [← hw2] at H2 d3 dm3 ⊢
    clear hw2 dm1
    have HG := Gr.refl w2.drew
    generalize tnKey t2 = ky at *
    clear hμ
    refine wp_region_flo (fun _ => False) [6] [37] (by kernel_rfl) (by kernel_rfl) (fun _ h => h.elim) ?_
    refine flo_seg 4 rfl ?_
    simp only [List.take_succ_cons, List.take_zero, List.drop_succ_cons, List.drop_zero]
    repeat (go_big_quiet_step (fail))
    refine wpQuiet_nil ?_
    refine flo_effg rfl rfl rfl (fun wg1 hgg1 K hK => ?_)
    (try replace HG := Gr.trans (Gr.trans HG (by (repeat (first | (with_reducible exact Gr.refl _) | assumption | (with_reducible apply Gr.from_drew) | (with_reducible apply Gr.alloc) | (with_reducible apply Gr.drew) | (with_reducible refine Gr.trans ?_ (by assumption)) | (with_reducible refine Gr.setCell ?_ (by omega) _))))) hgg1)
    go_wp2_with ((go_at_call 38; refine (Names_any _).mono ?_; rintro e' w4 ⟨rfl, rfl⟩))
    refine ⟨by (first | (refine Gr.mdh ?_ _; (repeat (first | (with_reducible exact Gr.refl _) | assumption | (with_reducible apply Gr.from_drew) | (with_reducible apply Gr.alloc) | (with_reducible apply Gr.drew) | (with_reducible refine Gr.trans ?_ (by assumption)) | (with_reducible refine Gr.setCell ?_ (by omega) _))); done) | (repeat (first | (with_reducible exact Mdh.refl _ _) | (with_reducible refine Mdh.setCell ?_ (by simp) _) | (with_reducible refine Mdh.setNew ?_ (by simp) _) | (with_reducible apply Mdh.alloc) | (with_reducible apply Mdh.from_drew) | (with_reducible apply Mdh.drew) | (with_reducible refine Mdh.gr ?_ (by assumption))))), ?_⟩
    refine flo_seg 4 rfl ?_
    simp only [List.take_succ_cons, List.take_zero, List.drop_succ_cons, List.drop_zero]
    repeat (go_big_quiet_step (fail))
    refine wpQuiet_nil ?_
    refine flo_effg rfl rfl rfl (fun wg2 hgg2 K hK => ?_)
    (try replace HG := Gr.trans (Gr.trans HG (by (repeat (first | (with_reducible exact Gr.refl _) | assumption | (with_reducible apply Gr.from_drew) | (with_reducible apply Gr.alloc) | (with_reducible apply Gr.drew) | (with_reducible refine Gr.trans ?_ (by assumption)) | (with_reducible refine Gr.setCell ?_ (by omega) _))))) hgg2)
    have hnm := hgg2.keep (((cellsOf (blkNew wg1 nmO)).1 κ).trans HKG.out)
    go_wp2
    refine ⟨by (first | (refine Gr.mdh ?_ _; (repeat (first | (with_reducible exact Gr.refl _) | assumption | (with_reducible apply Gr.from_drew) | (with_reducible apply Gr.alloc) | (with_reducible apply Gr.drew) | (with_reducible refine Gr.trans ?_ (by assumption)) | (with_reducible refine Gr.setCell ?_ (by omega) _))); done) | (repeat (first | (with_reducible exact Mdh.refl _ _) | (with_reducible refine Mdh.setCell ?_ (by simp) _) | (with_reducible refine Mdh.setNew ?_ (by simp) _) | (with_reducible apply Mdh.alloc) | (with_reducible apply Mdh.from_drew) | (with_reducible apply Mdh.drew) | (with_reducible refine Mdh.gr ?_ (by assumption))))), ?_⟩
    refine flo_seg 6 rfl ?_
    simp only [List.take_succ_cons, List.take_zero, List.drop_succ_cons, List.drop_zero]
    repeat (go_big_quiet_step (fail))
    refine wpQuiet_nil ?_
    refine flo_float (fun b => .pointer (some ⟨b, 0, none⟩)) (.cells #[.int .i64 0, .string ⟨#[]⟩, .bool false, .int .i64 0, .int .i64 0, .int .i64 0] 89) rfl rfl (fun w => by kernel_rfl) (fun wf1 fb1 hgf1 fl1 fh1 ft1 fo1 => ?_)
    (try replace HG := Gr.trans (Gr.trans HG (by (repeat (first | (with_reducible exact Gr.refl _) | assumption | (with_reducible apply Gr.from_drew) | (with_reducible apply Gr.alloc) | (with_reducible apply Gr.drew) | (with_reducible refine Gr.trans ?_ (by assumption)) | (with_reducible refine Gr.setCell ?_ (by omega) _))))) hgf1)
    (try have fc1 := (cellsOf fo1).1)
    (try have ff1 := (cellsOf fo1).2)
    refine flo_eff rfl rfl rfl rfl (fun K hK => ?_)
    go_wp2
    refine ⟨by (first | (refine Gr.mdh ?_ _; (repeat (first | (with_reducible exact Gr.refl _) | assumption | (with_reducible apply Gr.from_drew) | (with_reducible apply Gr.alloc) | (with_reducible apply Gr.drew) | (with_reducible refine Gr.trans ?_ (by assumption)) | (with_reducible refine Gr.setCell ?_ (by omega) _))); done) | (repeat (first | (with_reducible exact Mdh.refl _ _) | (with_reducible refine Mdh.setCell ?_ (by simp) _) | (with_reducible refine Mdh.setNew ?_ (by simp) _) | (with_reducible apply Mdh.alloc) | (with_reducible apply Mdh.from_drew) | (with_reducible apply Mdh.drew) | (with_reducible refine Mdh.gr ?_ (by assumption))))), ?_⟩
    refine flo_nil ?_
    obtain ⟨dl, hdl⟩ : ∃ dl, dl = (t0 % 8 == 4) := ⟨_, rfl⟩
    have HDL : Hid (dl = decide (t0 % 8 = 4)) := Lib.hid (by rw [hdl]; by_cases h : t0 % 8 = 4 <;> simp [h])
    rw [← hdl]
    clear hdl
    obtain ⟨W4, hW4⟩ : ∃ y, y = ((((((wf1.setCell ⟨fb1, 0, none⟩ (.int .i64 nx)).setCell ⟨fb1, 1, none⟩ (.string ky)).setCell ⟨fb1, 2, none⟩ (.bool dl)).setCell ⟨fb1, 3, none⟩ (.int .i64 (t1 % (N : Int)))).setCell ⟨fb1, 4, none⟩ (.int .i64 0)).setCell ⟨fb1, 5, none⟩ (.int .i64 0)) := ⟨_, rfl⟩
    have H4 : Hid (SW w0 (blkA fb1 (boxF ⟨nx, ky, dl, t1 % (N : Int), 0, 0⟩) :: blkA b3 (tnO ⟨t0, t1, t2, t3⟩) :: mL b rb mb N v1 v2 S ⟨X, all, nx⟩ R) W4) := Lib.hid (by
      have h1 := H2.out.new (Gr.of_drew HG) (A := blkA fb1 (boxF ⟨0, ⟨#[]⟩, false, 0, 0, 0⟩)) fo1 (fun k hk => by rw [show k = fb1 from hk]; exact fl1)
      rw [hW4]
      exact h1.step (B := blkA fb1 (boxF ⟨nx, ky, dl, t1 % (N : Int), 0, 0⟩)) (T := fun k => k = fb1) ((((((((Mdh.refl (fun k => k = fb1) wf1).setCell (p := ⟨fb1, 0, none⟩) rfl _).setCell (p := ⟨fb1, 1, none⟩) rfl _).setCell (p := ⟨fb1, 2, none⟩) rfl _).setCell (p := ⟨fb1, 3, none⟩) rfl _).setCell (p := ⟨fb1, 4, none⟩) rfl _).setCell (p := ⟨fb1, 5, none⟩) rfl _)) (fun k hk => .inl hk) (blk6 fo1) (fun k hk => .inl hk))
    rw [← hW4]
    clear hW4 fl1 fh1 ft1 fo1 fc1 ff1 HG hgf1 hgg1 hgg2 hnm d3 dm3 H2 HKG hκ hκ6
    generalize fb1 = b6 at *
    obtain ⟨d6, f6⟩ := cellsOf (show W4.heap[b6]? = _ from H4.out.get (i := 0) rfl)
    (try simp only [boxF] at d6)
    have l6 := blkLt (show W4.heap[b6]? = _ from H4.out.get (i := 0) rfl)
    have H5 : Hid (SW w0 (blkA b6 (boxF ⟨nx, ky, dl, t1 % (N : Int), 0, 16 + (ky.size : Int)⟩) :: blkA b3 (tnO ⟨t0, t1, t2, t3⟩) :: mL b rb mb N v1 v2 S ⟨X, all, nx⟩ R) (W4.setCell ⟨b6, 5, none⟩ (.int .i64 (16 + (ky.size : Int))))) := Lib.hid (H4.out.at (i := 0) rfl ((Mdh.refl (fun k => k = b6) W4).setCell (p := ⟨b6, 5, none⟩) rfl _) (fun k hk => .inl hk) (B := blkA b6 (boxF ⟨nx, ky, dl, t1 % (N : Int), 0, 16 + (ky.size : Int)⟩)) (blkSet (j := 5) (H4.out.get (i := 0) rfl)) (fun k hk => .inl hk))
    obtain ⟨w5, hw5⟩ : ∃ y, y = W4.setCell ⟨b6, 5, none⟩ (.int .i64 (16 + (ky.size : Int))) := ⟨_, rfl⟩
    rw [← hw5] at H5
    go_upto_region 5 with fail
    rw [← hw5]
    clear hw5 d6 f6 l6 H4
    obtain ⟨d6, f6⟩ := cellsOf (show w5.heap[b6]? = _ from H5.out.get (i := 0) rfl)
    (try simp only [boxF] at d6)
    have l6 := blkLt (show w5.heap[b6]? = _ from H5.out.get (i := 0) rfl)
    have d3 := (cellsOf (show w5.heap[b3]? = _ from H5.out.get (i := 1) rfl)).1
    (try simp only [tnO] at d3)
    cases dl with
    | true =>
      have h4 : t0 % 8 = 4 := of_decide_eq_true HDL.out.symm
      have HNF : Hid (newM N ⟨X, all, nx⟩ ⟨t0, t1, t2, t3⟩ = ⟨nx, ky, true, t1 % (N : Int), 0, 16 + (ky.size : Int)⟩) := Lib.hid (by rw [HNE.out, decide_eq_true h4, if_pos h4, Int.add_zero])
      have H6 := H5
      clear h4 H5 HNE HDL d3
      go_upto_region 7 with fail
      have hbm : w5.heap[mb]? = some (mdO b rb v2 nx) := H6.out.get (i := 5) rfl
      obtain ⟨dm, fm⟩ := cellsOf hbm
      have lm := blkLt hbm
      have H7 : Hid (SW w0 (blkA b6 _ :: blkA b3 (tnO ⟨t0, t1, t2, t3⟩) :: mL b rb mb N v1 v2 S ⟨X, all, nx + 1⟩ R) (w5.setCell ⟨mb, 3, none⟩ (.int .i64 (nx + 1)))) := Lib.hid (H6.out.at (i := 5) rfl ((Mdh.refl (fun k => k = mb) w5).setCell (p := ⟨mb, 3, none⟩) rfl _) (fun k hk => .inl hk) (B := blkA mb (mdO b rb v2 (nx + 1))) (blkSet (j := 3) hbm) (fun k hk => .inl hk))
      obtain ⟨w7, hw7⟩ : ∃ y, y = w5.setCell ⟨mb, 3, none⟩ (.int .i64 (nx + 1)) := ⟨_, rfl⟩
      rw [← hw7] at H7
      have hnx : nx ≤ 101 := by omega
      clear hbm
      go_upto_region 8 with fail
      rw [← hw7]
      clear hw7 dm fm lm d6 f6 H6
      have d6 := (cellsOf (show w7.heap[b6]? = _ from H7.out.get (i := 0) rfl)).1
      (try simp only [boxF] at d6)
      have HAD := Lib.hid (mAdd (H7.out.sub (.cons _ (.cons _ (List.Sublist.refl _)))) HNO.out (by omega) hNI HNM.out)
      rw [HNF.out] at HAD HSM5
      simp only [enV] at HAD
      go_wp2_with fail
      refine Calls.mono HAD.out ?_
      rintro r w8 ⟨rfl, v1', v2', S', hs⟩
      have H8 := Lib.hid hs
      clear hs HAD H7 d6
      go_wp2
      go_ret
      exact ⟨rfl, v1', v2', S', by rw [HSM5.out]; exact H8.out⟩
    | false =>
      have h4 : ¬ t0 % 8 = 4 := of_decide_eq_false HDL.out.symm
      have HNF : Hid (newM N ⟨X, all, nx⟩ ⟨t0, t1, t2, t3⟩ = ⟨nx, ky, false, t1 % (N : Int), 0, 16 + (ky.size : Int) + t3 % 60⟩) := Lib.hid (by rw [HNE.out, decide_eq_false h4, if_neg h4])
      have H6 : Hid (SW w0 (blkA b6 (boxF ⟨nx, ky, false, t1 % (N : Int), 0, 16 + (ky.size : Int) + t3 % 60⟩) :: blkA b3 (tnO ⟨t0, t1, t2, t3⟩) :: mL b rb mb N v1 v2 S ⟨X, all, nx⟩ R) (w5.setCell ⟨b6, 5, none⟩ (.int .i64 (16 + (ky.size : Int) + t3 % 60)))) := Lib.hid (H5.out.at (i := 0) rfl ((Mdh.refl (fun k => k = b6) w5).setCell (p := ⟨b6, 5, none⟩) rfl _) (fun k hk => .inl hk) (B := blkA b6 (boxF ⟨nx, ky, false, t1 % (N : Int), 0, 16 + (ky.size : Int) + t3 % 60⟩)) (blkSet (j := 5) (H5.out.get (i := 0) rfl)) (fun k hk => .inl hk))
      obtain ⟨w6, hw6⟩ : ∃ y, y = w5.setCell ⟨b6, 5, none⟩ (.int .i64 (16 + (ky.size : Int) + t3 % 60)) := ⟨_, rfl⟩
      rw [← hw6] at H6
      clear h4 H5 HNE HDL
      go_upto_region 7 with fail
      rw [← hw6]
      clear hw6 d3 d6 f6 l6
      obtain ⟨d6, f6⟩ := cellsOf (show w6.heap[b6]? = _ from H6.out.get (i := 0) rfl)
      (try simp only [boxF] at d6)
      have hbm : w6.heap[mb]? = some (mdO b rb v2 nx) := H6.out.get (i := 5) rfl
      obtain ⟨dm, fm⟩ := cellsOf hbm
      have lm := blkLt hbm
      have H7 : Hid (SW w0 (blkA b6 _ :: blkA b3 (tnO ⟨t0, t1, t2, t3⟩) :: mL b rb mb N v1 v2 S ⟨X, all, nx + 1⟩ R) (w6.setCell ⟨mb, 3, none⟩ (.int .i64 (nx + 1)))) := Lib.hid (H6.out.at (i := 5) rfl ((Mdh.refl (fun k => k = mb) w6).setCell (p := ⟨mb, 3, none⟩) rfl _) (fun k hk => .inl hk) (B := blkA mb (mdO b rb v2 (nx + 1))) (blkSet (j := 3) hbm) (fun k hk => .inl hk))
      obtain ⟨w7, hw7⟩ : ∃ y, y = w6.setCell ⟨mb, 3, none⟩ (.int .i64 (nx + 1)) := ⟨_, rfl⟩
      rw [← hw7] at H7
      have hnx : nx ≤ 101 := by omega
      clear hbm
      go_upto_region 8 with fail
      rw [← hw7]
      clear hw7 dm fm lm d6 f6 H6
      have d6 := (cellsOf (show w7.heap[b6]? = _ from H7.out.get (i := 0) rfl)).1
      (try simp only [boxF] at d6)
      have HAD := Lib.hid (mAdd (H7.out.sub (.cons _ (.cons _ (List.Sublist.refl _)))) HNO.out (by omega) hNI HNM.out)
      rw [HNF.out] at HAD HSM5
      simp only [enV] at HAD
      go_wp2_with fail
      refine Calls.mono HAD.out ?_
      rintro r w8 ⟨rfl, v1', v2', S', hs⟩
      have H8 := Lib.hid hs
      clear hs HAD H7 d6
      go_wp2
      go_ret
      exact ⟨rfl, v1', v2', S', by rw [HSM5.out]; exact H8.out⟩
  by_cases h7 : t0 % 8 < 7
  · have HSM7 : Hid (sm = if all = [] then ⟨X, all, nx⟩ else addM ⟨X, all, nx⟩ (cpM N ⟨X, all, nx⟩ ⟨t0, t1, t2, t3⟩)) := Lib.hid (by rw [HSM.out, if_neg h5, if_pos h7])
    obtain ⟨a2, c2, rfl, hc2, hm2, hat⟩ := ownE_at (show Own w1.drew 89 6 v2 all.length (rowE all) from H2.out.get (i := 5) rfl)
    unfold maxLen at hm2
    have HAT := Lib.hid hat
    have d3 := (cellsOf (show (w1.drew).heap[b3]? = _ from H2.out.get (i := 0) rfl)).1
    (try simp only [tnO] at d3)
    have dm2 := ((cellsOf (show (w1.drew).heap[mb]? = _ from H2.out.get (i := 4) rfl)).1 2).trans (show _ = some (Value.slice a2 all.length c2) from rfl)
    obtain ⟨w2, hw2⟩ : ∃ y, y = w1.drew := ⟨_, rfl⟩
    clear hat
    by_cases hne : all = []
    · have hl0 : all.length = 0 := by rw [hne]; rfl
      have HSM8 : Hid (sm = ⟨X, all, nx⟩) := Lib.hid (by rw [HSM7.out, if_pos hne])
      clear hne
      go_wp2_with fail
      go_ret
      exact ⟨rfl, v1, .slice a2 all.length c2, S, by rw [HSM8.out]; exact H2.out.sub (.cons _ (List.Sublist.refl _))⟩
    · have hl0 : 0 < all.length := List.length_pos_iff.2 hne
      have HSM8 : Hid (sm = addM ⟨X, all, nx⟩ (cpM N ⟨X, all, nx⟩ ⟨t0, t1, t2, t3⟩)) := Lib.hid (by rw [HSM7.out, if_neg hne])
      have HCP := Lib.hid (cpM_ok HST.out hNI hne HT.out)
      have g1 := Int.emod_lt_of_pos t2 (show (0 : Int) < all.length by omega)
      have g2 := Int.emod_nonneg t2 (show (all.length : Int) ≠ 0 by omega)
      obtain ⟨ι, hι⟩ : ∃ ι : Nat, t2 % (all.length : Int) = (ι : Int) := ⟨(t2 % (all.length : Int)).toNat, by omega⟩
      have hιn : ι < all.length := by omega
      obtain ⟨x, hx⟩ : ∃ x, all[ι]? = some x := ⟨_, List.getElem?_eq_getElem hιn⟩
      obtain ⟨g0, rfl, hg0, _, hc⟩ := HAT.out ι x hx
      have HCE : Hid (cpM N ⟨X, all, nx⟩ ⟨t0, t1, t2, t3⟩ = ⟨x.seq, x.key, x.del, t1 % (N : Int), x.off, x.size⟩) := Lib.hid (by
        unfold cpM
        simp only
        rw [hι, Int.toNat_natCast, List.getD_eq_getElem?_getD, hx]
        rfl)
      have y0 := hc 0 _ rfl
      have y1 := hc 1 _ rfl
      have y2 := hc 2 _ rfl
      have y3 := hc 3 _ rfl
      have y4 := hc 4 _ rfl
      have y5 := hc 5 _ rfl
      simp only [Nat.add_zero] at y0 y1 y2 y3 y4 y5
      have hl0b : ((all.length : Int) == 0) = false := beq_false_of_ne (by omega)
      have hιn' : (ι : Int) < all.length := by omega
      clear hne hx hc g1 g2 HSM7
      obtain ⟨x0, x1, x2, x3, x4, x5⟩ := x
      simp only at y0 y1 y2 y3 y4 y5 HCE
      go_wp2_with fail
      rw [← hw2] at H2 d3 dm2 hg0 y0 y1 y2 y3 y4 y5 ⊢
      clear hw2
      have HG := Gr.refl w2.drew
      refine wp_region_flo (fun _ => False) [7] [] (by kernel_rfl) (by kernel_rfl) (fun _ h => h.elim) ?_
      refine flo_seg 15 rfl ?_
      simp only [List.take_succ_cons, List.take_zero, List.drop_succ_cons, List.drop_zero]
      repeat (go_big_quiet_step (fail))
      refine wpQuiet_nil ?_
      refine flo_float (fun b => .pointer (some ⟨b, 0, none⟩)) (.cells #[.int .i64 0, .string ⟨#[]⟩, .bool false, .int .i64 0, .int .i64 0, .int .i64 0] 89) rfl rfl (fun w => by kernel_rfl) (fun wf1 fb1 hgf1 fl1 fh1 ft1 fo1 => ?_)
      (try replace HG := Gr.trans (Gr.trans HG (by (repeat (first | (with_reducible exact Gr.refl _) | assumption | (with_reducible apply Gr.from_drew) | (with_reducible apply Gr.alloc) | (with_reducible apply Gr.drew) | (with_reducible refine Gr.trans ?_ (by assumption)) | (with_reducible refine Gr.setCell ?_ (by omega) _))))) hgf1)
      (try have fc1 := (cellsOf fo1).1)
      (try have ff1 := (cellsOf fo1).2)
      refine flo_eff rfl rfl rfl rfl (fun K hK => ?_)
      go_wp2
      refine ⟨by (first | (refine Gr.mdh ?_ _; (repeat (first | (with_reducible exact Gr.refl _) | assumption | (with_reducible apply Gr.from_drew) | (with_reducible apply Gr.alloc) | (with_reducible apply Gr.drew) | (with_reducible refine Gr.trans ?_ (by assumption)) | (with_reducible refine Gr.setCell ?_ (by omega) _))); done) | (repeat (first | (with_reducible exact Mdh.refl _ _) | (with_reducible refine Mdh.setCell ?_ (by simp) _) | (with_reducible refine Mdh.setNew ?_ (by simp) _) | (with_reducible apply Mdh.alloc) | (with_reducible apply Mdh.from_drew) | (with_reducible apply Mdh.drew) | (with_reducible refine Mdh.gr ?_ (by assumption))))), ?_⟩
      refine flo_nil ?_
      obtain ⟨W4, hW4⟩ : ∃ y, y = ((((((wf1.setCell ⟨fb1, 0, none⟩ (.int .i64 x0)).setCell ⟨fb1, 1, none⟩ (.string x1)).setCell ⟨fb1, 2, none⟩ (.bool x2)).setCell ⟨fb1, 3, none⟩ (.int .i64 x3)).setCell ⟨fb1, 4, none⟩ (.int .i64 x4)).setCell ⟨fb1, 5, none⟩ (.int .i64 x5)) := ⟨_, rfl⟩
      have H4 : Hid (SW w0 (blkA fb1 (boxF ⟨x0, x1, x2, x3, x4, x5⟩) :: blkA b3 (tnO ⟨t0, t1, t2, t3⟩) :: mL b rb mb N v1 (.slice (some ⟨g0, 0, none⟩) all.length c2) S ⟨X, all, nx⟩ R) W4) := Lib.hid (by
        have h1 := H2.out.new (Gr.of_drew HG) (A := blkA fb1 (boxF ⟨0, ⟨#[]⟩, false, 0, 0, 0⟩)) fo1 (fun k hk => by rw [show k = fb1 from hk]; exact fl1)
        rw [hW4]
        exact h1.step (B := blkA fb1 (boxF ⟨x0, x1, x2, x3, x4, x5⟩)) (T := fun k => k = fb1) ((((((((Mdh.refl (fun k => k = fb1) wf1).setCell (p := ⟨fb1, 0, none⟩) rfl _).setCell (p := ⟨fb1, 1, none⟩) rfl _).setCell (p := ⟨fb1, 2, none⟩) rfl _).setCell (p := ⟨fb1, 3, none⟩) rfl _).setCell (p := ⟨fb1, 4, none⟩) rfl _).setCell (p := ⟨fb1, 5, none⟩) rfl _)) (fun k hk => .inl hk) (blk6 fo1) (fun k hk => .inl hk))
      rw [← hW4]
      clear hW4 fl1 fh1 ft1 fo1 fc1 ff1 HG hgf1 d3 dm2 H2 y0 y1 y2 y3 y4 y5 hg0 hι
      generalize fb1 = b6 at *
      obtain ⟨d6, f6⟩ := cellsOf (show W4.heap[b6]? = _ from H4.out.get (i := 0) rfl)
      (try simp only [boxF] at d6)
      have l6 := blkLt (show W4.heap[b6]? = _ from H4.out.get (i := 0) rfl)
      have H5 : Hid (SW w0 (blkA b6 (boxF ⟨x0, x1, x2, t1 % (N : Int), x4, x5⟩) :: blkA b3 (tnO ⟨t0, t1, t2, t3⟩) :: mL b rb mb N v1 (.slice (some ⟨g0, 0, none⟩) all.length c2) S ⟨X, all, nx⟩ R) (W4.setCell ⟨b6, 3, none⟩ (.int .i64 (t1 % (N : Int))))) := Lib.hid (H4.out.at (i := 0) rfl ((Mdh.refl (fun k => k = b6) W4).setCell (p := ⟨b6, 3, none⟩) rfl _) (fun k hk => .inl hk) (B := blkA b6 (boxF ⟨x0, x1, x2, t1 % (N : Int), x4, x5⟩)) (blkSet (j := 3) (H4.out.get (i := 0) rfl)) (fun k hk => .inl hk))
      obtain ⟨w5, hw5⟩ : ∃ y, y = W4.setCell ⟨b6, 3, none⟩ (.int .i64 (t1 % (N : Int))) := ⟨_, rfl⟩
      rw [← hw5] at H5
      go_upto_region 14 with fail
      rw [← hw5]
      clear hw5 d6 f6 l6 H4
      have d6 := (cellsOf (show w5.heap[b6]? = _ from H5.out.get (i := 0) rfl)).1
      (try simp only [boxF] at d6)
      have HAD := Lib.hid (mAdd (H5.out.sub (.cons _ (.cons _ (List.Sublist.refl _)))) HST.out (by omega) hNI HCP.out)
      rw [HCE.out] at HAD HSM8
      simp only [enV] at HAD
      go_wp2_with fail
      refine Calls.mono HAD.out ?_
      rintro r w8 ⟨rfl, v1', v2', S', hs⟩
      have H8 := Lib.hid hs
      clear hs HAD H5 d6
      go_wp2
      go_ret
      exact ⟨rfl, v1', v2', S', by rw [HSM8.out]; exact H8.out⟩
  · have HSM7 : Hid (sm = dropM ⟨X, all, nx⟩ (t1 % (N : Int))) := Lib.hid (by rw [HSM.out, if_neg h5, if_neg h7])
    have hs0 : 0 ≤ t1 % (N : Int) := Int.emod_nonneg _ (by omega)
    have hs1 : t1 % (N : Int) < N := Int.emod_lt_of_pos _ (by omega)
    have HDM := Lib.hid (dropM_ok HST.out hs0 hs1)
    have dm0 := ((cellsOf (show (w1.drew).heap[mb]? = _ from H2.out.get (i := 4) rfl)).1 0).trans (show _ = some (Value.pointer (some ⟨b, 0, none⟩)) from rfl)
    have d3 := (cellsOf (show (w1.drew).heap[b3]? = _ from H2.out.get (i := 0) rfl)).1
    (try simp only [tnO] at d3)
    obtain ⟨w2, hw2⟩ : ∃ y, y = w1.drew := ⟨_, rfl⟩
    generalize t1 % (N : Int) = s at *
    go_wp2_with fail
    rw [← hw2] at H2 ⊢
    clear hw2 dm0 d3 dm1
    refine (Drop_any (show IXR w2 b X S from H2.out.get (i := 1) rfl) s).mono ?_
    rintro r w3 ⟨rfl, hp⟩
    obtain ⟨S3, hI3, hm3, hn3⟩ := hp
    have H3 : Hid (SW w0 (blkA b3 (tnO ⟨t0, t1, t2, t3⟩) :: mL b rb mb N v1 v2 S3 ⟨dropX X s, all, nx⟩ R) w3) := Lib.hid (H2.out.at (i := 1) rfl hm3 (fun k hk => .inl hk) hI3 hn3)
    rw [show dropC X s = 0 from HDM.out.2.1]
    have hbe : (((X.slot s).length : Int) == (all.length : Int) - ((all.filter (nsP s)).length : Int)) = true := beq_iff_eq.2 (by
      have h1 := HDM.out.2.2
      have h2 : (X.slot s).length + (all.filter (nsP s)).length = all.length := h1
      omega)
    clear hI3 hm3 hn3 H2
    have dm1 := ((cellsOf (show w3.heap[mb]? = _ from H3.out.get (i := 4) rfl)).1 1).trans (show _ = some (Value.pointer (some ⟨rb, 0, none⟩)) from rfl)
    have H3p : Hid (SW w0 (rIx rb N v1 all (blkA b3 (tnO ⟨t0, t1, t2, t3⟩) :: ixA b (dropX X s) S3 :: blkA mb (mdO b rb v2 nx) :: rowA 89 6 v2 all.length (rowE all) :: R)) w3) := Lib.hid ((H3.out.pick (i := 3) rfl).pick (i := 3) rfl)
    go_wp2_with fail
    refine (rDrop H3p.out s hs0 hs1 (by omega)).mono ?_
    rintro r w4 ⟨rfl, v1', hs⟩
    have H4 := Lib.hid hs
    clear hs H3 H3p dm1
    obtain ⟨av, cv, rfl, hcv, hmv, hat⟩ := ownE_at (show Own w4 89 6 v2 all.length (rowE all) from H4.out.get (i := 5) rfl)
    have HAT := Lib.hid hat
    unfold maxLen at hmv
    clear hat
    go_wp2_with fail
    go_loopw [12, 13] (fun t12 t13 wx => ∃ i : Nat, i ≤ all.length ∧ t13 = .int .i64 i ∧ Hid (Nw w4 wx 89 6 t12 ((all.take i).filter (nsP s)).length (rowE ((all.take i).filter (nsP s))) ∧ Gr w4 wx)) (fun _ t13 _ => all.length - (intOf t13).toNat)
    case atStart => exact ⟨0, by omega, rfl, Lib.hid ⟨⟨nilRow _ _ _, fun q hq => by cases hq⟩, Gr.refl _⟩⟩
    case round =>
      obtain ⟨i, hil, rfl, HI⟩ := hrel
      have hrb : wr.heap[mb]? = _ := HI.out.2.blk (H4.out.get (i := 4) rfl)
      have dr2 := ((cellsOf hrb).1 2).trans (show _ = some (Value.slice av all.length cv) from rfl)
      have HRB := Lib.hid hrb
      clear hrb
      by_cases hli : i < all.length
      · have hli' : (i : Int) < all.length := by omega
        obtain ⟨x, hx⟩ : ∃ x, all[i]? = some x := ⟨_, List.getElem?_eq_getElem hli⟩
        obtain ⟨g0, rfl, _, _, hc⟩ := HAT.out i x hx
        have hr : ∀ i' u, (enC x)[i']? = some u → wr.cell? ⟨g0, i * 6 + i', none⟩ = some u := fun i' u hu => HI.out.2.keep (hc i' u hu)
        have d0 := hr 0 _ rfl
        have d1 := hr 1 _ rfl
        have d2 := hr 2 _ rfl
        have d3 := hr 3 _ rfl
        have d4 := hr 4 _ rfl
        have d5 := hr 5 _ rfl
        simp only [Nat.add_zero] at d0 d1 d2 d3 d4 d5
        have HTF := Lib.hid (tfs (p := nsP s) hx)
        have hfl : ((all.take i).filter (nsP s)).length ≤ 1000 := by
          have h1 := List.length_filter_le (nsP s) (all.take i)
          rw [List.length_take] at h1
          omega
        clear hr hc hx
        by_cases hxs : x.slot = s
        · have hb : (x.slot == s) = true := beq_iff_eq.2 hxs
          have hb2 : (x.slot != s) = false := by simp [bne, hb]
          have HTG : Hid ((all.take (i + 1)).filter (nsP s) = (all.take i).filter (nsP s)) := Lib.hid (by rw [HTF.out, show nsP s x = false by unfold nsP; rw [decide_eq_true hxs]; rfl, if_neg (by decide), List.append_nil])
          clear hxs
          go_wp2_with fail
          exact ⟨⟨i + 1, by omega, by simp, Lib.hid ⟨by rw [HTG.out]; exact HI.out.1, HI.out.2⟩⟩, by simp [intOf]; omega⟩
        · have hb : (x.slot == s) = false := beq_false_of_ne hxs
          have hb2 : (x.slot != s) = true := by simp [bne, hb]
          have HTG : Hid ((all.take (i + 1)).filter (nsP s) = (all.take i).filter (nsP s) ++ [x]) := Lib.hid (by rw [HTF.out, show nsP s x = true by unfold nsP; rw [decide_eq_false hxs]; rfl, if_pos rfl])
          clear hxs
          go_wp2_with (first
            | (at_builtin; go_must (refine wpList_appv _ rfl (.tmp 138) (.tmp 146) 37 rfl 89 i0 _ 6 56 Tryz.underlying37 hi hz0 hz1 hz2 rfl (by decide) u12 ((all.take i).filter (nsP s)).length (rowE ((all.take i).filter (nsP s))) rfl (HI.out.1.own.gr (by (repeat (first | (with_reducible exact Gr.refl _) | assumption | (with_reducible apply Gr.from_drew) | (with_reducible apply Gr.alloc) | (with_reducible apply Gr.drew) | (with_reducible refine Gr.trans ?_ (by assumption)) | (with_reducible refine Gr.setCell ?_ (by omega) _))))) (some ⟨wr.heap.size, 0, none⟩) 1 1 (enC x) rfl (src_newK wr (enC x) _ 6 rfl (enC_one x)) (by simp only [maxLen]; omega) (by omega) ?_); intro v2 w2 hA; have N2 := Lib.hid (hA.nw (HI.out.1.gr ((Gr.refl wr).alloc _)) (by have := HI.out.2.sz; simp; omega)); have HG2 := Lib.hid (hA.gw (HI.out.1.gr ((Gr.refl wr).alloc _)) (HI.out.2.alloc _)); clear hA)
            | fail)
          exact ⟨⟨i + 1, by omega, by simp, Lib.hid ⟨by rw [HTG.out, rowE_snoc, List.length_append]; exact N2.out, HG2.out⟩⟩, by simp [intOf]; omega⟩
      · have hli' : ¬ (i : Int) < all.length := by omega
        obtain rfl : i = all.length := by omega
        rw [List.take_length] at HI
        obtain ⟨a6, c6, rfl, _, _, _⟩ := ownE_at HI.out.1.own
        obtain ⟨_, fr⟩ := cellsOf HRB.out
        have lr := blkLt HRB.out
        have h1 := H4.out.new HI.out.2 (A := rowA 89 6 (.slice a6 (all.filter (nsP s)).length c6) (all.filter (nsP s)).length (rowE (all.filter (nsP s)))) HI.out.1.own (fun k hk => HI.out.1.new k hk)
        have h2 := h1.at (i := 5) rfl ((Mdh.refl (fun k => k = mb) wr).setCell (p := ⟨mb, 2, none⟩) rfl (.slice a6 (all.filter (nsP s)).length c6)) (fun k hk => .inl hk) (B := blkA mb (mdO b rb (.slice a6 (all.filter (nsP s)).length c6) nx)) (blkSet (j := 2) HRB.out) (fun k hk => .inl hk)
        have HE : Hid (SW w0 (mL b rb mb N v1' (.slice a6 (all.filter (nsP s)).length c6) S3 ⟨dropX X s, all.filter (nsP s), nx⟩ R) (wr.setCell ⟨mb, 2, none⟩ (.slice a6 (all.filter (nsP s)).length c6))) := Lib.hid (((((h2.pick (i := 5) rfl).pick (i := 3) rfl).pick (i := 3) rfl).pick (i := 5) rfl).sub (.cons_cons _ (.cons_cons _ (.cons_cons _ (.cons_cons _ (.cons_cons _ (.cons _ (.cons _ (List.Sublist.refl _)))))))))
        clear h1 h2 HI
        go_wp2_with fail
        go_ret
        exact ⟨rfl, v1', .slice a6 (all.filter (nsP s)).length c6, S3, by rw [HSM7.out]; exact HE.out⟩
end Go.Proofs.YtemjnppplmankaaGreat

/- For rows: slices of structs, and bytes. -/
set_option linter.unusedVariables false
set_option linter.unusedSimpArgs false
namespace Go.Proofs.YtemjnppplmankaaGreat
open Go.ChangeShapes Go.WideShapes Go.Deep
section
variable {H : Type} {enc : TypeId × Value → H} {P : Program} {w : World} {base : Nat} {spare : Nat → Bool} {held : Bool}
theorem open_slice_fields {t e : TypeId} {fs : Array Field} {fuel : Nat} {cs : List Value} {x : DataW H × List MemPlace} (ht : P.underlying t = some (.slice e)) (he : P.underlying e = some (.struct fs))
    (hone : oneCellFields P fs = true) (hC : P.cellsOf e = fs.size) (h : DataW.trod enc P w base spare held fuel t cs = some x) :
    (cs = [.slice none 0 0] ∧ x = (.nil, [])) ∨
    ∃ (a : Addr) (len cap m : Nat) (D : Nat → DataW H) (Pl : Nat → List MemPlace), cs = [.slice (some a) len cap] ∧ base ≤ a.block ∧ len ≤ cap ∧ cap ≤ maxLen ∧ m = (if spare a.block then cap else len) ∧
      x = (.slice ((List.range len).map D) ((List.range (m - len)).map fun j => D (len + j)), MemPlace.row a (m * fs.size) ++ (List.range m).flatMap Pl) ∧
      ∀ i, i < m → ∃ (ys : List (DataW H × List MemPlace)) (n : Nat), D i = .agg (ys.map (·.1)) ∧ Pl i = ys.flatMap (·.2) ∧ ys.length = fs.size ∧
        ∀ (j : Nat) (f : Field), fs[j]? = some f → ∃ (v : Value) (y : DataW H × List MemPlace), w.cell? (a.add (i * fs.size + j)) = some v ∧ ys[j]? = some y ∧ DataW.trod enc P w base spare held n f.type [v] = some y := by
  rcases open_slice ht h with h0 | ⟨a, len, cap, m, n, D, Pl, hcs, hb, hl, hm, hmm, hx, hi⟩
  · exact .inl h0
  · refine .inr ⟨a, len, cap, m, D, Pl, hcs, hb, hl, hm, hmm, by rw [hC] at hx; exact hx, fun i him => ?_⟩
    obtain ⟨cs', hc, ht'⟩ := hi i him
    rw [hC] at hc
    obtain ⟨ys, n', hn', hy, hlen, hyl, hf⟩ := DataW.trod_struct he ht'
    obtain ⟨_, hcl, hat⟩ := World.cells?_some hc
    simp only [Prod.mk.injEq] at hy
    refine ⟨ys, n', hy.1, hy.2, hyl, fun j f hj => ?_⟩
    obtain ⟨ho, hk⟩ := hone_of hone j f hj
    have hjl : j < fs.size := (Array.getElem?_eq_some_iff.1 hj).1
    have hcell := hat j hjl
    have hv : cs'[j]? = some (cs'[j]'(by omega)) := List.getElem?_eq_getElem (by omega)
    have h1 := hf j f hj
    rw [ho, hk] at h1
    have hone' : (cs'.drop j).take 1 = [cs'[j]'(by omega)] := by
      rw [List.drop_eq_getElem_cons (by omega)]
      rfl
    rw [hone'] at h1
    have hys : ys[j]? = some (ys[j]'(by omega)) := List.getElem?_eq_getElem (by omega)
    refine ⟨_, _, ?_, hys, h1.trans hys⟩
    rw [← Go.Deep.add_add, hcell, hv]
end

open Go.RowKit
theorem list_of {α : Type} (len : Nat) (d : α) (R : Nat → α → Prop) (h : ∀ i, i < len → ∃ x, R i x) : ∃ l : List α, l.length = len ∧ ∀ i, i < l.length → R i (l[i]?.getD d) := by
  classical
  refine ⟨(List.range len).map (fun i => if hi : i < len then Classical.choose (h i hi) else d), by simp, fun i hi => ?_⟩
  have hi' : i < len := by simpa using hi
  simp only [List.getElem?_map, List.getElem?_range hi', Option.map_some, Option.getD_some, dif_pos hi']
  exact Classical.choose_spec (h i hi')
theorem u8_of {a : Int} (h : (Lit.int .u8 a).wf = true) : ∃ c : UInt8, a = (c.toNat : Int) := by
  have h' : (decide (IntKind.u8.min ≤ a) && decide (a ≤ IntKind.u8.max)) = true := h
  have : 0 ≤ a ∧ a ≤ 255 := by simpa [IntKind.min, IntKind.max, IntKind.signed, IntKind.bits] using h'
  refine ⟨UInt8.ofNat a.toNat, ?_⟩
  rw [UInt8.toNat_ofNat_of_lt' (by have : UInt8.size = 256 := rfl; omega)]
  omega
theorem at_add {w : World} {a : Addr} {k : Nat} {v : Value} (h : w.cell? (a.add k) = some v) (hs : a.spot = none) : a.block < w.heap.size ∧ w.cell? ⟨a.block, a.off + k, none⟩ = some v := by
  have e : a.add k = ⟨a.block, a.off + k, none⟩ := by
    unfold Addr.add
    obtain ⟨b, o, s⟩ := a
    split
    · simp_all
    · rfl
  rw [e] at h
  refine ⟨?_, h⟩
  unfold World.cell? at h
  refine Classical.byContradiction fun hc => ?_
  rw [Array.getElem?_eq_none (by simpa using hc)] at h
  cases h
theorem spot_add {w : World} {a : Addr} {v : Value} (h : w.cell? (a.add 0) = some v) : a.spot = none := by
  simpa [Addr.add] using World.cell?_spot h
end Go.Proofs.YtemjnppplmankaaGreat

/- Rows of chapter 22: turns. -/
set_option linter.unusedVariables false
set_option linter.unusedSimpArgs false
namespace Go.Proofs.YtemjnppplmankaaGreat
open Go.ChangeShapes Go.WideShapes Go.Deep Go.RowKit
theorem u8m {a : Int} (h : (Lit.int .u8 a).wf = true) : 0 ≤ a ∧ a ≤ 255 := by
  simp only [Lit.wf, Bool.and_eq_true, decide_eq_true_eq] at h
  exact h
/-- The turns of a list lie at a. -/
def TurnAt (w : World) (a : Option Addr) (l : List Tn) : Prop :=
  ∀ i x, l[i]? = some x → ∃ b off, a = some ⟨b, off, none⟩ ∧ b < w.heap.size ∧ w.cell? ⟨b, off + i * 4, none⟩ = some (.int .u8 x.kind) ∧ w.cell? ⟨b, off + i * 4 + 1, none⟩ = some (.int .u8 x.slot) ∧ w.cell? ⟨b, off + i * 4 + 2, none⟩ = some (.int .u8 x.n) ∧ w.cell? ⟨b, off + i * 4 + 3, none⟩ = some (.int .u8 x.size) ∧ x.Ok
theorem turnOk {w : World} {a : Option Addr} {L : List Tn} (h : TurnAt w a L) : ∀ t ∈ L, t.Ok := fun m hm => by
  obtain ⟨i, hi⟩ := List.mem_iff_getElem?.1 hm
  obtain ⟨_, _, _, _, _, _, _, _, h⟩ := h i m hi
  exact h
theorem open_turns22 {H : Type} {enc : TypeId × Value → H} {w : World} {base : Nat} {spare : Nat → Bool} {held : Bool} {fuel : Nat} {a : Option Addr} {len cap : Nat} {x : DataW H × List MemPlace}
    (h : DataW.trod enc Tryz.prog w base spare held fuel 22 (Value.slice a len cap).cells.toList = some x) : len ≤ cap ∧ cap ≤ maxLen ∧ ∃ l : List Tn, l.length = len ∧ TurnAt w a l := by
  rcases open_slice_fields Tryz.underlying22 Tryz.underlying63 (by kernel_rfl) (show Tryz.prog.cellsOf 63 = 4 by kernel_rfl) h with ⟨hcs, _⟩ | ⟨a', l, c, m, D, Pl, hcs, _, hl, hm, hmm, _, hi⟩
  · simp [Value.cells] at hcs
    obtain ⟨rfl, rfl, rfl⟩ := hcs
    exact ⟨by omega, by simp [maxLen], [], rfl, fun i x hx => by simp at hx⟩
  · simp [Value.cells] at hcs
    obtain ⟨rfl, rfl, rfl⟩ := hcs
    refine ⟨hl, hm, ?_⟩
    by_cases h0 : 0 < len
    · have hml : len ≤ m := by rw [hmm]; split <;> omega
      have hsp : a'.spot = none := by
        obtain ⟨ys, n, _, _, _, hf⟩ := hi 0 (by omega)
        obtain ⟨v, y, hc, _, _⟩ := hf 0 _ rfl
        exact spot_add (by simpa using hc)
      obtain ⟨l, hl1, hl2⟩ := list_of len (⟨0, 0, 0, 0⟩ : Tn) (fun i t => w.cell? ⟨a'.block, a'.off + i * 4, none⟩ = some (.int .u8 t.kind) ∧ w.cell? ⟨a'.block, a'.off + i * 4 + 1, none⟩ = some (.int .u8 t.slot) ∧ w.cell? ⟨a'.block, a'.off + i * 4 + 2, none⟩ = some (.int .u8 t.n) ∧ w.cell? ⟨a'.block, a'.off + i * 4 + 3, none⟩ = some (.int .u8 t.size) ∧ a'.block < w.heap.size ∧ t.Ok) (fun i hil => by
        obtain ⟨ys, n, _, _, _, hf⟩ := hi i (by omega)
        obtain ⟨v0, y0, c0, _, t0⟩ := hf 0 _ rfl
        obtain ⟨v1, y1, c1, _, t1⟩ := hf 1 _ rfl
        obtain ⟨v2, y2, c2, _, t2⟩ := hf 2 _ rfl
        obtain ⟨v3, y3, c3, _, t3⟩ := hf 3 _ rfl
        obtain ⟨x0, e0, _, w0⟩ := DataW.trod_int Tryz.underlying5 t0
        obtain ⟨x1, e1, _, w1⟩ := DataW.trod_int Tryz.underlying5 t1
        obtain ⟨x2, e2, _, w2⟩ := DataW.trod_int Tryz.underlying5 t2
        obtain ⟨x3, e3, _, w3⟩ := DataW.trod_int Tryz.underlying5 t3
        obtain rfl := List.cons.inj e0 |>.1
        obtain rfl := List.cons.inj e1 |>.1
        obtain rfl := List.cons.inj e2 |>.1
        obtain rfl := List.cons.inj e3 |>.1
        obtain ⟨hb, d0⟩ := at_add c0 hsp
        exact ⟨⟨x0, x1, x2, x3⟩, d0, (at_add c1 hsp).2, (at_add c2 hsp).2, (at_add c3 hsp).2, hb, u8m w0, u8m w1, u8m w2, u8m w3⟩)
      refine ⟨l, hl1, fun i x hx => ?_⟩
      obtain ⟨hlt, rfl⟩ := List.getElem?_eq_some_iff.1 hx
      obtain ⟨c0, c1, c2, c3, hb, h4⟩ := hl2 i (by omega)
      rw [hx] at c0 c1 c2 c3 h4
      exact ⟨_, _, by obtain ⟨b, o, s⟩ := a'; simp_all, hb, c0, c1, c2, c3, h4⟩
    · obtain rfl : len = 0 := by omega
      exact ⟨[], rfl, fun i x hx => by simp at hx⟩
end Go.Proofs.YtemjnppplmankaaGreat

/- drumlinlaw22's Made: Play. -/
set_option linter.unusedVariables false
set_option linter.unusedSimpArgs false
namespace Go.Proofs.YtemjnppplmankaaGreat
open Go.RowKit Go.Shelf
attribute [local go_sem] OvM cell_ovm obj_ovm
attribute [local go_sem] Oper.semAt_some

theorem turnTake {w : World} {a : Option Addr} {L : List Tn} (h : TurnAt w a L) (j : Nat) : ∀ t ∈ L.take j, t.Ok := fun m hm => turnOk h m (List.mem_of_mem_take hm)
theorem foldM_take (n : Nat) {L : List Tn} {j : Nat} {x : Tn} (h : L[j]? = some x) : foldM n (L.take (j + 1)) = stepM n (foldM n (L.take j)) x := by
  rw [List.take_add_one, h]
  exact foldM_snoc n _ _
set_option maxRecDepth 40000 in
set_option maxHeartbeats 8000000 in
theorem Play_any {w0 w : World} {b rb mb : Nat} {N : Nat} {v1 v2 : Value} {S : Nat → Prop} {R : List Asn} {a : Option Addr} {len cap : Nat} {L : List Tn} (h : SW w0 (mL b rb mb N v1 v2 S (foldM N []) R) w) (h1 : 1 ≤ N) (h2 : N ≤ 32) (hl : L.length = len) (h100 : len ≤ 100) (hle : len ≤ cap) (hcap : cap ≤ maxLen) (hs : TurnAt w0 a L) :
    Calls Tryz.prog 6 #[.pointer (some ⟨mb, 0, none⟩), .slice a len cap] w (MdP w0 b rb mb N (foldM N L) R) := by
  have H := Lib.hid h
  have HS := Lib.hid hs
  have HL := Lib.hid hl
  unfold maxLen at hcap
  clear h hs hl
  go_enter Tryz.func6, Tryz.ntmps6
  go_wp2_with fail
  go_loopw [5] (fun t5 wx => ∃ (j : Nat) (v1 v2 : Value) (S : Nat → Prop), j ≤ len ∧ t5 = .int .i64 j ∧ Hid (SW w0 (mL b rb mb N v1 v2 S (foldM N (L.take j)) R) wx)) (fun t5 _ => len - (intOf t5).toNat)
  case atStart => exact ⟨0, v1, v2, S, by omega, rfl, H⟩
  case round =>
    obtain ⟨j, v1, v2, S, hj, rfl, HI⟩ := hrel
    clear H
    by_cases hlt : j < len
    · have hlt' : (j : Int) < len := by omega
      obtain ⟨x, hx⟩ : ∃ x, L[j]? = some x := ⟨_, List.getElem?_eq_getElem (by have := HL.out; omega)⟩
      obtain ⟨bm, off, rfl, hbm, m0, m1, m2, m3, hok⟩ := HS.out j x hx
      have hst := foldM_ok N h1 h2 j (L.take j) (by rw [List.length_take]; have := HL.out; omega) (by omega) (turnTake HS.out j)
      have HD := Lib.hid (mDo HI.out hst (by omega) h1 hok)
      have HNX := Lib.hid (foldM_take N hx)
      rw [← HNX.out] at HD
      have e0 := HI.out.g.keep m0
      have e1 := HI.out.g.keep m1
      have e2 := HI.out.g.keep m2
      have e3 := HI.out.g.keep m3
      have lm : bm < wr.heap.size := Nat.lt_of_lt_of_le hbm HI.out.g.sz
      clear m0 m1 m2 m3 hx hst hbm hok HNX
      obtain ⟨x0, x1, x2, x3⟩ := x
      simp only [tnV] at HD e0 e1 e2 e3
      go_wp2_with fail
      refine Calls.mono HD.out ?_
      rintro r w8 ⟨rfl, v1', v2', S', hs⟩
      have H8 := Lib.hid hs
      clear hs HD HI e0 e1 e2 e3
      go_wp2_with fail
      exact ⟨⟨j + 1, v1', v2', S', by omega, by simp, H8⟩, by simp [intOf]; omega⟩
    · have hlt' : ¬ (j : Int) < len := by omega
      obtain rfl : j = len := by omega
      rw [List.take_of_length_le (show L.length ≤ j by have := HL.out; omega)] at HI
      go_wp2
      go_ret
      exact ⟨rfl, v1, v2, S, HI.out⟩
end Go.Proofs.YtemjnppplmankaaGreat
