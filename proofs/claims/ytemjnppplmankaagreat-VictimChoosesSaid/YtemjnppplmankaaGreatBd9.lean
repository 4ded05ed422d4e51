/- Contract of Add. -/
import Derived.Test.YtemjnppplmankaaGreatBd7
import Derived.Test.YtemjnppplmankaaGreatBd8
set_option linter.unusedVariables false
set_option linter.unusedSimpArgs false
namespace Go.Proofs.YtemjnppplmankaaGreat
open Go.RowKit Go.Shelf
attribute [local go_sem] OvM cell_ovm obj_ovm
attribute [local go_sem] Oper.semAt_some

/-- What an index's change leaves. -/
def IXPost (b : Nat) (X' : IX) (S : Nat → Prop) (w w' : World) : Prop := ∃ S', IXR w' b X' S' ∧ Mdh S w w' ∧ ∀ k, S' k → S k ∨ w.heap.size ≤ k
theorem IXPost.same {w w' : World} {b : Nat} {X : IX} {S : Nat → Prop} (h : IXR w b X S) (g : Gr w w') : IXPost b X S w w' := ⟨S, h.gr g, g.mdh _, fun _ hk => .inl hk⟩
def En64 (e : En) : Prop := e.size ≤ 9223372036854775807 ∧ -9223372036854775808 ≤ e.size ∧ e.key.size ≤ 140737488351232
def copyE (e x : En) : En := { x with slot := e.slot, off := e.off }
theorem badE_yes {e x : En} (h1 : x.seq = e.seq) (h2 : copyE e x ≠ e) : badE e x = true := by unfold badE; simp only [decide_eq_true_eq]; exact ⟨h1, h2⟩
theorem badE_no {e x : En} (h : x.seq = e.seq → copyE e x = e) : badE e x = false := by
  unfold badE; simp only [decide_eq_false_iff_not, not_and, Decidable.not_not]; exact h
theorem any_snoc (e x : En) (pre : List En) : (pre ++ [x]).any (sameE e) = (pre.any (sameE e) || (decide (x.seq = e.seq) && decide (x.slot = e.slot))) := by
  rw [List.any_append]
  simp [sameE, Bool.decide_and]
theorem addX_no {X : IX} {e : En} (h : addE X e ≠ 0) : addX X e = X := if_neg h
theorem add_3 {X : IX} {e : En} (h1 : X.slots ≠ []) (h2 : X.has e.slot = false) : addE X e = 3 := by unfold addE; rw [if_neg h1, if_pos h2]
theorem add_2 {X : IX} {e : En} (h1 : X.slots ≠ []) (h2 : X.has e.slot = true) (h3 : validE e = false) : addE X e = 2 := by unfold addE; rw [if_neg h1, if_neg (by rw [h2]; simp), if_pos h3]
theorem add_bad {X : IX} {e o : En} (h1 : X.slots ≠ []) (h2 : X.has e.slot = true) (h3 : validE e = true) (ho : o ∈ X.of e.key) (hb : badE e o = true) : addE X e = 2 := by
  unfold addE; rw [if_neg h1, if_neg (by rw [h2]; simp), if_neg (by rw [h3]; simp), if_pos (List.any_eq_true.2 ⟨o, ho, hb⟩)]
theorem add_6 {X : IX} {e : En} (h1 : X.slots ≠ []) (h2 : X.has e.slot = true) (h3 : validE e = true) (hb : ∀ o ∈ X.of e.key, badE e o = false) (hc : ((X.of e.key).any (sameE e) || clash (X.slot e.slot) e) = true) : addE X e = 6 := by
  unfold addE; rw [if_neg h1, if_neg (by rw [h2]; simp), if_neg (by rw [h3]; simp), if_neg (by simp only [Bool.not_eq_true]; exact List.any_eq_false.2 (fun o ho => by simp [hb o ho])), if_pos hc]
/-- Behind a refusal. -/
theorem add_out {w w' w0 : World} {b b4 : Nat} {X : IX} {S : Nat → Prop} {e : En} (h : IXR w b X S) (hne : addE X e ≠ 0) (g : Gr w w') : IXPost b (addX X e) S w w' := by
  rw [addX_no hne]; exact IXPost.same h g
set_option maxRecDepth 40000 in
set_option maxHeartbeats 4000000 in
theorem Add_any {w : World} {b : Nat} {X : IX} {S : Nat → Prop} (h : IXR w b X S) (e : En) (hA : Low e.key) (hB : En64 e) :
    Calls Tryz.prog 36 #[.pointer (some ⟨b, 0, none⟩), enV e] w fun e' w' => e' = .returned (.int .i64 (addE X e)) ∧ IXPost b (addX X e) S w w' := by
  have H := Lib.hid h
  have HLOW := Lib.hid hA
  have H64 := Lib.hid hB
  have HNE := Lib.hid h.pos
  clear h hA hB
  simp only [enV]
  refine calls_of_wp_marks Tryz.func36 rfl ?_
  simp only [Tryz.ntmps36, List.size_toArray, List.length_cons, List.length_nil, Nat.reduceAdd, Nat.reduceSub, Array.replicate_succ, Array.replicate_zero, List.push_toArray, List.append_toArray, List.nil_append, List.cons_append]
  go_wp2_with fail
  obtain ⟨w0, hw0⟩ : ∃ y, y = (w.alloc (.cells #[.int .i64 e.seq, .string e.key, .bool e.del, .int .i64 e.slot, .int .i64 e.off, .int .i64 e.size] 89)).alloc (.cells #[.int .i64 0] 32) := ⟨_, rfl⟩
  obtain ⟨b3, hb3⟩ : ∃ q, q = w.heap.size := ⟨_, rfl⟩
  rw [← hw0, ← hb3]
  have x3 : w0.heap[b3]? = some (.cells #[.int .i64 e.seq, .string e.key, .bool e.del, .int .i64 e.slot, .int .i64 e.off, .int .i64 e.size] 89) := by rw [hw0, hb3]; exact blkOld (blkNew _ _)
  have x4 : w0.heap[b3 + 1]? = some (.cells #[.int .i64 0] 32) := by rw [hw0, hb3]; have := blkNew (w.alloc (.cells #[.int .i64 e.seq, .string e.key, .bool e.del, .int .i64 e.slot, .int .i64 e.off, .int .i64 e.size] 89)) (.cells #[.int .i64 0] 32); rwa [World.size_alloc] at this
  have HW0 : Hid (Gr w w0 ∧ b3 = w.heap.size ∧ w0.heap.size = w.heap.size + 2) := Lib.hid ⟨by rw [hw0]; exact ((Gr.refl w).alloc _).alloc _, hb3, by rw [hw0]; simp⟩
  have H0 := Lib.hid (H.out.gr HW0.out.1)
  have HX := Lib.hid (And.intro x3 x4)
  have c3 := (cellsOf x3).1
  obtain ⟨c4, f4⟩ := cellsOf x4
  have m4 : b3 + 1 ≠ b3 := by omega
  clear hw0 hb3 x3 x4
  refine (made_yes H0.out).mono ?_
  rintro e' w1 ⟨rfl, rfl⟩
  cases hh : X.has e.slot with
  | false =>
    have HE := Lib.hid (add_3 HNE.out hh)
    have HH := Lib.hid hh
    clear hh
    go_wp2_with (go_at_call 59; refine (has_yes H0.out _).mono ?_; rintro e' w1 ⟨rfl, rfl⟩; rw [HH.out])
    have d4 := (cellsOf (blkSet (j := 0) (u := .int .i64 3) HX.out.2)).1
    refine retM0 (v := .int .i64 3) ?_ rfl ⟨by rw [HE.out], add_out (w0 := w) (b4 := 0) H.out (by rw [HE.out]; decide) (HW0.out.1.setCell (by have := HW0.out; simp; omega) _)⟩
    simp [results, Tryz.results36, go_sem, d4]
  | true =>
    have HH := Lib.hid hh
    clear hh
    go_wp2_with fail
    refine (has_yes H0.out _).mono ?_
    rintro e' w1 ⟨rfl, rfl⟩
    rw [HH.out]
    cases hv : validE e with
    | false =>
      have HE := Lib.hid (add_2 HNE.out HH.out hv)
      have HV := Lib.hid hv
      clear hv
      go_wp2_with fail
      refine (valid_low e HLOW.out H64.out.2.2 _ H64.out.1 H64.out.2.1).mono ?_
      rintro e' w1 ⟨rfl, hg⟩
      rw [HV.out]
      have HG1 := Lib.hid hg
      have y4 := hg.blk HX.out.2
      obtain ⟨d4, g4⟩ := cellsOf y4
      have HY := Lib.hid y4
      clear hg y4 c3 c4 f4
      go_wp2_with fail
      have d4' := (cellsOf (blkSet (j := 0) (u := .int .i64 2) HY.out)).1
      refine retM0 (v := .int .i64 2) ?_ rfl ⟨by rw [HE.out], add_out (w0 := w) (b4 := 0) H.out (by rw [HE.out]; decide) ((HW0.out.1.trans HG1.out).setCell (by have := HW0.out; simp; omega) _)⟩
      simp [results, Tryz.results36, go_sem, d4']
    | true =>
      have HV := Lib.hid hv
      clear hv
      go_wp2_with fail
      refine (valid_low e HLOW.out H64.out.2.2 _ H64.out.1 H64.out.2.1).mono ?_
      rintro e' w1 ⟨rfl, hg⟩
      rw [HV.out]
      have HG1 := Lib.hid (HW0.out.1.trans hg)
      have H1 := Lib.hid (H0.out.gr hg)
      have HX1 := Lib.hid (And.intro (hg.blk HX.out.1) (hg.blk HX.out.2))
      obtain ⟨hwf, hpos, Y, hsep, hfit, hSk⟩ := H1.out
      have HLY := Lib.hid (And.intro hsep (And.intro hfit (And.intro hSk hwf)))
      have hbm := ((cellsOf (Lay.blk hsep)).1 0).trans (show _ = some (Value.pointer (some ⟨Y.bm, 0, none⟩)) from rfl)
      have HGET := Lib.hid (fun k w2 g => Get_lay hwf hsep hfit k w2 g)
      clear hg c3 c4 f4 H0 hwf hpos hsep hfit hSk
      have c3 := (cellsOf HX1.out.1).1
      go_wp2_with fail
      have HG := Gr.refl w1.drew
      refine wp_region_flo (fun _ => False) [] [] (by kernel_rfl) (by kernel_rfl) (fun _ h => h.elim) ?_
      refine flo_seg 6 rfl ?_
      simp only [List.take_succ_cons, List.take_zero, List.drop_succ_cons, List.drop_zero]
      repeat (go_big_quiet_step (fail))
      refine wpQuiet_nil ?_
      refine flo_eff rfl rfl rfl rfl (fun K hK => ?_)
      go_wp2_with fail; refine (HGET.out e.key _ (Gr.of_drew HG)).mono ?_; rintro e' w2 ⟨s, rfl, hs, hg⟩; have HS := Lib.hid hs; have HG2 := Lib.hid (Gr.of_drew hg); clear hs hg; go_wp2_with fail; refine ⟨by (first | (refine Gr.mdh ?_ _; (repeat (first | (with_reducible exact Gr.refl _) | assumption | (with_reducible apply Gr.from_drew) | (with_reducible apply Gr.alloc) | (with_reducible apply Gr.drew) | (with_reducible refine Gr.trans ?_ (by assumption)) | (with_reducible refine Gr.setCell ?_ (by omega) _))); done) | (repeat (first | (with_reducible exact Mdh.refl _ _) | (with_reducible refine Mdh.setCell ?_ (by simp) _) | (with_reducible refine Mdh.setNew ?_ (by simp) _) | (with_reducible apply Mdh.alloc) | (with_reducible apply Mdh.from_drew) | (with_reducible apply Mdh.drew) | (with_reducible refine Mdh.gr ?_ (by assumption))))), ?_⟩
      refine flo_seg 5 rfl ?_
      simp only [List.take_succ_cons, List.take_zero, List.drop_succ_cons, List.drop_zero]
      repeat (go_big_quiet_step (fail))
      refine wpQuiet_nil ?_
      refine flo_nil ?_
      clear c3 HG
      obtain ⟨s1, s2, s3⟩ := s
      simp only [slV] at *
      have HG3 := Lib.hid (HG1.out.trans HG2.out)
      have H2 := Lib.hid (H1.out.gr HG2.out)
      have HX2 := Lib.hid (And.intro (HG2.out.blk HX1.out.1) (HG2.out.blk HX1.out.2))
      have c3 := (cellsOf HX2.out.1).1
      have l3 := blkLt HX2.out.1
      obtain ⟨b7, hb7⟩ : ∃ q, q = w2.heap.size := ⟨_, rfl⟩
      have HB7 : Hid (b3 + 1 < b7 ∧ b3 < b7 ∧ w.heap.size ≤ b7 ∧ b7 = w2.heap.size) := Lib.hid (by have := blkLt HX2.out.1; have := blkLt HX2.out.2; have := HG3.out.sz; omega)
      go_wp2_with fail
      refine (Of_any (some ⟨b, 0, none⟩) e.key _).mono ?_
      rintro e' w3 ⟨bb, bk, rfl, h1, h2, h3, h4, hg⟩
      rw [← hb7]
      have HG4 := Lib.hid (((Gr.refl w2).alloc _).trans hg)
      have H3 := Lib.hid (H2.out.gr HG4.out)
      have x7 : w3.heap[b7]? = some (.cells #[.bool false] 4) := hg.blk (by rw [hb7]; exact blkNew w2 _)
      have HX3 := Lib.hid (And.intro (HG4.out.blk HX2.out.1) (And.intro (HG4.out.blk HX2.out.2) x7))
      have HSEQ := Lib.hid (SeqOfP (.inl ⟨b, rfl, H3.out⟩) e.key bb bk h1 h2)
      simp only [World.size_alloc] at h3 h4
      have HA : Hid (∀ q, (q = bb ∨ q = bk ∨ S q) → q < w3.heap.size ∧ q ≠ b3 ∧ q ≠ b3 + 1 ∧ q ≠ b7) := Lib.hid (by
        have l1 := World.block_lt_of_cell? w3 ⟨bb, 0, none⟩ h1
        have l2 := World.block_lt_of_cell? w3 ⟨bk, 0, none⟩ h2
        obtain ⟨m1, m2, m3, m4⟩ := HB7.out
        have m5 := HW0.out
        simp only at l1 l2
        rintro q (rfl | rfl | hq)
        · exact ⟨l1, by omega, by omega, by omega⟩
        · exact ⟨l2, by omega, by omega, by omega⟩
        · have := H.out.lt q hq
          have := H3.out.lt q hq
          exact ⟨by omega, by omega, by omega, by omega⟩)
      clear h1 h2 h3 h4 hg x7 hb7 c3 l3
      go_wp2_with fail
      apply wp_rangeFunc_zx (gf := 104) (lb := #[.pointer (some ⟨bb, 0, none⟩), .pointer (some ⟨bk, 0, none⟩)]) rfl (enters_of Tryz.func104 (by kernel_rfl) rfl) HSEQ.out (Mdh.refl _ w3) (fun q hq => (HA.out q hq).1) (fun _ => rfl)
        (fun Z pre X' => (∀ o ∈ pre, badE e o = false) ∧ (X'.heap[b7]? = some (.cells #[.bool (pre.any (sameE e))] 4) ∧ ¬ Z b7) ∧ (X'.heap[b3 + 1]? = some (.cells #[.int .i64 0] 32) ∧ ¬ Z (b3 + 1)) ∧ Frm w3 (fun q => q = b7 ∨ q = b3 + 1) Z X')
        (fun _ _ _ => False)
        (fun Z pre X' => (∃ o ∈ pre, badE e o = true) ∧ (X'.heap[b3 + 1]? = some (.cells #[.int .i64 2] 32) ∧ ¬ Z (b3 + 1)) ∧ Frm w3 (fun q => q = b7 ∨ q = b3 + 1) Z X')
        ((Apart.pure _).and ((Apart.block b7 (fun (pre : List En) => Obj.cells #[.bool (pre.any (sameE e))] 4 (0, 0))).and ((Apart.block (b3 + 1) (fun _ => _)).and (Frm.apart _ _)))) apart_no
        ((Apart.pure _).and ((Apart.block (b3 + 1) (fun _ => _)).and (Frm.apart _ _)))
        ⟨(fun o ho => by cases ho), ⟨HX3.out.2.2, fun h => h⟩, ⟨HX3.out.2.1, fun h => h⟩, Frm.refl _ _⟩
        (fun Z pre X' h => ⟨_, h.2.2.2⟩) (fun x => .cells #[.int .i64 x.seq, .string x.key, .bool x.del, .int .i64 x.slot, .int .i64 x.off, .int .i64 x.size] 89)
        _ ?assign ?body ?hend ?hret
      case assign =>
        intro l x bx X' K hbx hK
        dsimp only [encE, enV]
        gi_wp2
        rw [← hbx]
        exact hK
      case body =>
        intro l Z pre x bx X' hI hbx hx hzx hzl hlr hsp
        obtain ⟨hbad, ⟨h7, hz7⟩, ⟨h4, hz4⟩, hF⟩ := hI
        have H7 := Lib.hid h7
        have H4 := Lib.hid h4
        have HF := Lib.hid hF
        have HBX := Lib.hid (And.intro hbx hx)
        have HBAD := Lib.hid hbad
        have c8 := (cellsOf hx).1
        obtain ⟨c7, f7⟩ := cellsOf h7
        obtain ⟨c4, f4⟩ := cellsOf h4
        have HX3' : Hid (X'.heap[b3]? = _) := Lib.hid (hF.m.blk HX3.out.1 (by have := HB7.out; omega))
        have c3 := (cellsOf HX3'.out).1
        clear hx h7 h4 hF hsp hbad
        gi_wp2
        obtain ⟨b9, hb9⟩ : ∃ q, q = X'.heap.size := ⟨_, rfl⟩
        obtain ⟨X1, hX1⟩ : ∃ y, y = X'.alloc (.cells #[.int .i64 x.seq, .string x.key, .bool x.del, .int .i64 x.slot, .int .i64 x.off, .int .i64 x.size] 89) := ⟨_, rfl⟩
        have H9 : Hid (X1.heap[b9]? = some (.cells #[.int .i64 x.seq, .string x.key, .bool x.del, .int .i64 x.slot, .int .i64 x.off, .int .i64 x.size] 89) ∧ Gr X' X1 ∧ b9 = X'.heap.size ∧ b3 ≠ b9 ∧ b3 + 1 ≠ b9 ∧ b7 ≠ b9 ∧ bx ≠ b9) := Lib.hid (by
          have l3 := blkLt HX3'.out
          have l4 := blkLt H4.out
          have l7 := blkLt H7.out
          have l8 := blkLt HBX.out.2
          exact ⟨by rw [hX1, hb9]; exact blkNew _ _, by rw [hX1]; exact (Gr.refl _).alloc _, hb9, by omega, by omega, by omega, by omega⟩)
        rw [← hX1, ← hb9]
        have d3 := (cellsOf (H9.out.2.1.blk HX3'.out)).1
        have d9 := (cellsOf H9.out.1).1
        have g9 := (cellsOf H9.out.1).2
        have n3 := H9.out.2.2.2.1
        have n9 := H9.out.2.2.2.1.symm
        clear hX1 hb9 c3 c4 f4 c7 f7 c8
        have hlt9 : b9 < X1.heap.size := blkLt H9.out.1
        refine wpIn_region_flo (fun _ => trivial) rfl (fun k => k = b9) [] [] (by kernel_rfl) (by kernel_rfl) (fun k hk => by subst hk; exact hlt9) ?_
        refine flo_seg 5 rfl ?_
        simp only [List.take_succ_cons, List.take_zero, List.drop_succ_cons, List.drop_zero]
        repeat (go_big_quiet_step (fail))
        refine wpQuiet_nil ?_
        refine flo_eff rfl rfl rfl rfl (fun K hK => ?_)
        gi_wp2
        refine ⟨by (first | (refine Gr.mdh ?_ _; (repeat (first | (with_reducible exact Gr.refl _) | assumption | (with_reducible apply Gr.from_drew) | (with_reducible apply Gr.alloc) | (with_reducible apply Gr.drew) | (with_reducible refine Gr.trans ?_ (by assumption)) | (with_reducible refine Gr.setCell ?_ (by omega) _))); done) | (repeat (first | (with_reducible exact Mdh.refl _ _) | (with_reducible refine Mdh.setCell ?_ (by simp) _) | (with_reducible refine Mdh.setNew ?_ (by simp) _) | (with_reducible apply Mdh.alloc) | (with_reducible apply Mdh.from_drew) | (with_reducible apply Mdh.drew) | (with_reducible refine Mdh.gr ?_ (by assumption))))), ?_⟩
        refine flo_seg 1 rfl ?_
        simp only [List.take_succ_cons, List.take_zero, List.drop_succ_cons, List.drop_zero]
        repeat (go_big_quiet_step (fail))
        refine wpQuiet_nil ?_
        refine flo_eff rfl rfl rfl rfl (fun K hK => ?_)
        gi_wp2
        refine ⟨by (first | (refine Gr.mdh ?_ _; (repeat (first | (with_reducible exact Gr.refl _) | assumption | (with_reducible apply Gr.from_drew) | (with_reducible apply Gr.alloc) | (with_reducible apply Gr.drew) | (with_reducible refine Gr.trans ?_ (by assumption)) | (with_reducible refine Gr.setCell ?_ (by omega) _))); done) | (repeat (first | (with_reducible exact Mdh.refl _ _) | (with_reducible refine Mdh.setCell ?_ (by simp) _) | (with_reducible refine Mdh.setNew ?_ (by simp) _) | (with_reducible apply Mdh.alloc) | (with_reducible apply Mdh.from_drew) | (with_reducible apply Mdh.drew) | (with_reducible refine Mdh.gr ?_ (by assumption))))), ?_⟩
        refine flo_nil ?_
        obtain ⟨X2, hX2⟩ : ∃ y, y = ((X1.setCell ⟨b9, 3, none⟩ (.int .i64 e.slot)).setCell ⟨b9, 4, none⟩ (.int .i64 e.off)).drew := ⟨_, rfl⟩
        rw [← hX2]
        have HM2 : Hid (Gr X' X2 ∧ X2.heap[b9]? = some (.cells #[.int .i64 x.seq, .string x.key, .bool x.del, .int .i64 e.slot, .int .i64 e.off, .int .i64 x.size] 89)) := Lib.hid (by
          rw [hX2]
          have hb := H9.out.2.2.1
          exact ⟨((H9.out.2.1.setCell (p := ⟨b9, 3, none⟩) (by simp; omega) _).setCell (p := ⟨b9, 4, none⟩) (by simp; omega) _).drew, blkSet (j := 4) (u := .int .i64 e.off) (blkSet (j := 3) (u := .int .i64 e.slot) H9.out.1)⟩)
        clear hX2 d3 d9 g9 n3 n9 hlt9
        have d3 := (cellsOf (HM2.out.1.blk HX3'.out)).1
        have d8 := (cellsOf (HM2.out.1.blk HBX.out.2)).1
        have d9 := (cellsOf HM2.out.2).1
        obtain ⟨d7, g7⟩ := cellsOf (HM2.out.1.blk H7.out)
        obtain ⟨d4, g4⟩ := cellsOf (HM2.out.1.blk H4.out)
        have HNQ := Lib.hid (neqE_run (copyE e x) e)
        by_cases hq : x.seq = e.seq
        · by_cases hc : copyE e x = e
          · have HBD := Lib.hid (badE_no (e := e) (x := x) (fun _ => hc))
            have hnq : ∀ w, (binOp .neq 89 (.agg #[.int .i64 x.seq, .string x.key, .bool x.del, .int .i64 e.slot, .int .i64 e.off, .int .i64 x.size]) (.agg #[.int .i64 e.seq, .string e.key, .bool e.del, .int .i64 e.slot, .int .i64 e.off, .int .i64 e.size])).run Tryz.prog w = .ok (.bool false) w := fun w => (HNQ.out w).trans (by simp [hc])
            have HANY := Lib.hid (any_snoc e x pre)
            have HQ := Lib.hid hq
            have hqb : (x.seq == e.seq) = true := by simp [hq]
            clear hq hc
            cases hav : pre.any (sameE e) with
            | true =>
              have HL : Hid ((pre ++ [x]).any (sameE e) = true) := Lib.hid (by rw [HANY.out, hav]; rfl)
              rw [hav] at d7
              clear hav
              gi_wp2
              exact ⟨(HM2.out.1.mdh (fun k => ¬ (k = bb ∨ k = bk ∨ S k) ∧ ¬ Z k)).setCell (p := ⟨b7, 0, none⟩) ⟨fun h => (HA.out _ h).2.2.2 rfl, hz7⟩ _, fun o ho => (List.mem_append.1 ho).elim (HBAD.out o) (fun h => by rw [List.mem_singleton.1 h]; exact HBD.out),
                ⟨by rw [HL.out]; exact blkSet (j := 0) (u := .bool true) (HM2.out.1.blk H7.out), hz7⟩, ⟨blkSetO (HM2.out.1.blk H4.out) (by have := HB7.out; simp; omega), hz4⟩, HF.out.step ((HM2.out.1.mdh (fun q => q = b7)).setCell (p := ⟨b7, 0, none⟩) rfl _) (fun q hq => .inl (.inl hq))⟩
            | false =>
              by_cases hs : x.slot = e.slot
              · have HL : Hid ((pre ++ [x]).any (sameE e) = true) := Lib.hid (by rw [HANY.out, hav]; simp [HQ.out, hs])
                have hsb : (x.slot == e.slot) = true := by simp [hs]
                rw [hav] at d7
                clear hav hs
                gi_wp2
                exact ⟨(HM2.out.1.mdh (fun k => ¬ (k = bb ∨ k = bk ∨ S k) ∧ ¬ Z k)).setCell (p := ⟨b7, 0, none⟩) ⟨fun h => (HA.out _ h).2.2.2 rfl, hz7⟩ _, fun o ho => (List.mem_append.1 ho).elim (HBAD.out o) (fun h => by rw [List.mem_singleton.1 h]; exact HBD.out),
                  ⟨by rw [HL.out]; exact blkSet (j := 0) (u := .bool true) (HM2.out.1.blk H7.out), hz7⟩, ⟨blkSetO (HM2.out.1.blk H4.out) (by have := HB7.out; simp; omega), hz4⟩, HF.out.step ((HM2.out.1.mdh (fun q => q = b7)).setCell (p := ⟨b7, 0, none⟩) rfl _) (fun q hq => .inl (.inl hq))⟩
              · have HL : Hid ((pre ++ [x]).any (sameE e) = false) := Lib.hid (by rw [HANY.out, hav]; simp [HQ.out, hs])
                have hsb : (x.slot == e.slot) = false := by simp [hs]
                rw [hav] at d7
                clear hav hs
                gi_wp2
                exact ⟨(HM2.out.1.mdh (fun k => ¬ (k = bb ∨ k = bk ∨ S k) ∧ ¬ Z k)).setCell (p := ⟨b7, 0, none⟩) ⟨fun h => (HA.out _ h).2.2.2 rfl, hz7⟩ _, fun o ho => (List.mem_append.1 ho).elim (HBAD.out o) (fun h => by rw [List.mem_singleton.1 h]; exact HBD.out),
                  ⟨by rw [HL.out]; exact blkSet (j := 0) (u := .bool false) (HM2.out.1.blk H7.out), hz7⟩, ⟨blkSetO (HM2.out.1.blk H4.out) (by have := HB7.out; simp; omega), hz4⟩, HF.out.step ((HM2.out.1.mdh (fun q => q = b7)).setCell (p := ⟨b7, 0, none⟩) rfl _) (fun q hq => .inl (.inl hq))⟩
          · have HBD := Lib.hid (badE_yes (e := e) (x := x) hq hc)
            have hnq : ∀ w, (binOp .neq 89 (.agg #[.int .i64 x.seq, .string x.key, .bool x.del, .int .i64 e.slot, .int .i64 e.off, .int .i64 x.size]) (.agg #[.int .i64 e.seq, .string e.key, .bool e.del, .int .i64 e.slot, .int .i64 e.off, .int .i64 e.size])).run Tryz.prog w = .ok (.bool true) w := fun w => (HNQ.out w).trans (by simp [hc])
            have hqb : (x.seq == e.seq) = true := by simp [hq]
            clear hq hc
            gi_wp2
            exact ⟨(HM2.out.1.mdh (fun k => ¬ Z k)).setCell (p := ⟨b3 + 1, 0, none⟩) hz4 _, ⟨x, by simp, HBD.out⟩, ⟨blkSet (j := 0) (u := .int .i64 2) (HM2.out.1.blk H4.out), hz4⟩, HF.out.step ((HM2.out.1.mdh (fun q => q = b3 + 1)).setCell (p := ⟨b3 + 1, 0, none⟩) rfl _) (fun q hq => .inl (.inr hq))⟩
        · have HBD := Lib.hid (badE_no (e := e) (x := x) (fun h => absurd h hq))
          have HANY : Hid ((pre ++ [x]).any (sameE e) = pre.any (sameE e)) := Lib.hid (by rw [any_snoc]; simp [hq])
          have hqb : (x.seq == e.seq) = false := by simp [hq]
          clear hq
          cases hav : pre.any (sameE e) with
          | true =>
            have HAV := Lib.hid hav
            rw [hav] at d7
            clear hav
            gi_wp2
            exact ⟨(HM2.out.1.mdh (fun k => ¬ (k = bb ∨ k = bk ∨ S k) ∧ ¬ Z k)).setCell (p := ⟨b7, 0, none⟩) ⟨fun h => (HA.out _ h).2.2.2 rfl, hz7⟩ _, fun o ho => (List.mem_append.1 ho).elim (HBAD.out o) (fun h => by rw [List.mem_singleton.1 h]; exact HBD.out),
              ⟨by rw [HANY.out, HAV.out]; exact blkSet (j := 0) (u := .bool true) (HM2.out.1.blk H7.out), hz7⟩, ⟨blkSetO (HM2.out.1.blk H4.out) (by have := HB7.out; simp; omega), hz4⟩, HF.out.step ((HM2.out.1.mdh (fun q => q = b7)).setCell (p := ⟨b7, 0, none⟩) rfl _) (fun q hq => .inl (.inl hq))⟩
          | false =>
            have HAV := Lib.hid hav
            rw [hav] at d7
            clear hav
            gi_wp2
            exact ⟨(HM2.out.1.mdh (fun k => ¬ (k = bb ∨ k = bk ∨ S k) ∧ ¬ Z k)).setCell (p := ⟨b7, 0, none⟩) ⟨fun h => (HA.out _ h).2.2.2 rfl, hz7⟩ _, fun o ho => (List.mem_append.1 ho).elim (HBAD.out o) (fun h => by rw [List.mem_singleton.1 h]; exact HBD.out),
              ⟨by rw [HANY.out, HAV.out]; exact blkSet (j := 0) (u := .bool false) (HM2.out.1.blk H7.out), hz7⟩, ⟨blkSetO (HM2.out.1.blk H4.out) (by have := HB7.out; simp; omega), hz4⟩, HF.out.step ((HM2.out.1.mdh (fun q => q = b7)).setCell (p := ⟨b7, 0, none⟩) rfl _) (fun q hq => .inl (.inl hq))⟩
      case hret =>
        intro Z D pre X' hD hZD hsp hIr hdef
        obtain ⟨⟨o, ho, hb⟩, ⟨h4, hz4⟩, hF⟩ := hIr
        have HE := Lib.hid (add_bad HNE.out HH.out HV.out (hsp.subset ho) hb)
        have n4 : D ≠ b3 + 1 := by have := blkLt HX3.out.2.1; omega
        have h4' : (X'.putObj D (.deferred none)).heap[b3 + 1]? = _ := (World.putObj_heap_other n4.symm).trans h4
        obtain ⟨c4, _⟩ := cellsOf h4'
        clear hsp ho hb
        dsimp only
        go_wp2_with fail
        refine retM1 (D := D) (v := .int .i64 2) rfl hdef ?_ ⟨by rw [HE.out], add_out (w0 := w) (b4 := 0) H.out (by rw [HE.out]; decide) ?_⟩
        · simp [results, Tryz.results36, go_sem, c4]
        · have g := HG3.out.trans HG4.out
          obtain ⟨e1, e2, e3, e4⟩ := HB7.out
          obtain ⟨e5, e6, e7⟩ := HW0.out
          exact (g.md hF.m (fun q hq => by omega)).putObj (by have := g.sz; omega) _
      case hend =>
        intro Z D xs W hD hZD hcase hdef
        obtain ⟨hxs, hbad, ⟨h7, hz7⟩, ⟨h4, hz4⟩, hF⟩ := hcase.elim (fun h => h) (fun h => h.2.elim)
        have hxs' : xs = X.of e.key := hxs
        subst hxs'
        have g3 := HG3.out.trans HG4.out
        have HGW : Hid (Gr w W) := Lib.hid (g3.md hF.m (fun q hq => by obtain ⟨e1, e2, e3, e4⟩ := HB7.out; obtain ⟨e5, e6, e7⟩ := HW0.out; omega))
        have HI := Lib.hid (H3.out.mdh hF.m (fun q hq h => by have := HA.out q (.inr (.inr hq)); omega))
        have HXW : Hid (W.heap[b3]? = _ ∧ W.heap[b3 + 1]? = some (.cells #[.int .i64 0] 32) ∧ W.heap[b7]? = some (.cells #[.bool ((X.of e.key).any (sameE e))] 4)) := Lib.hid ⟨hF.m.blk HX3.out.1 (by have := HB7.out; omega), h4, h7⟩
        have HD : Hid (w3.heap.size ≤ D ∧ W.heap[D]? = some (.deferred (some []))) := Lib.hid ⟨hD, hdef⟩
        have HSS : Hid (∀ q, (Value.slice s1 s2 s3).ownBlock = some q → S q) := Lib.hid (fun q hq => (HLY.out.2.2.1 q).2 ⟨_, List.mem_append_right _ (List.mem_append_left _ (HS.out.2 q hq)), hq⟩)
        have HOW : Hid (Own W 89 6 (.slice s1 s2 s3) (X.of e.key).length (rowE (X.of e.key)) ∧ ∀ q, (Value.slice s1 s2 s3).ownBlock = some q → enA (s1, s2, s3) (X.of e.key) ∈ keyRows Y.KL X.keys) := Lib.hid ⟨((HS.out.1.gr (Gr.from_drew (HG2.out.trans HG4.out))).mdh hF.m (fun q hq h => by have := HA.out q (.inr (.inr (HSS.out q hq))); omega)), HS.out.2⟩
        have HYW : Hid (Sep (Y.list b X) W) := Lib.hid ((HLY.out.1.gr (HG2.out.trans HG4.out)).mdh hF.m (fun A hA q hq h => by have := HA.out q (.inr (.inr ((HLY.out.2.2.1 q).2 ⟨A, hA, hq⟩))); omega))
        have HXW3 : Hid (w3.heap[b3 + 1]? = some (.cells #[.int .i64 0] 32)) := Lib.hid HX3.out.2.1
        have HGS : Hid (w.heap.size ≤ w3.heap.size) := Lib.hid g3.sz
        have HBAD := Lib.hid hbad
        have HSK : Hid (∀ q, S q → q < w.heap.size) := Lib.hid H.out.lt
        clear hxs hbad h7 h4 hF hcase hdef g3 HSEQ HX3 HX2 HX1 HX HG1 HG2 H1 H2 H3 HGET HS
        have hsep := HYW.out
        obtain ⟨_, hfit, hSk, hwf⟩ := HLY.out
        obtain ⟨i, sl, g, cap, hie, hlt, hsl, hsx, hsv, k1, k2, hcg, hso, hmem⟩ := Lay.slotE hsep hfit HH.out
        have hb := Lay.blk hsep
        have HL := Lib.hid (And.intro hsep (And.intro hfit (And.intro hSk (And.intro hsl (And.intro hsx (And.intro hso (And.intro hmem hsv)))))))
        have l2 := own_slV hso
        obtain ⟨a1, a2, a3⟩ := sl
        simp only at l2
        subst l2
        rw [hsv] at hb
        have e0 := ((cellsOf hb).1 0).trans (show _ = some (Value.pointer (some ⟨Y.bm, 0, none⟩)) from rfl)
        have e1 := ((cellsOf hb).1 1).trans (show _ = some (Value.slice (some ⟨g, 0, none⟩) X.slots.length cap) from rfl)
        have c3 := (cellsOf HXW.out.1).1
        have c7 := (cellsOf HXW.out.2.2).1
        have HWF := Lib.hid hwf
        obtain rfl : i = e.slot.toNat := by omega
        have hs0 : 0 ≤ e.slot := by omega
        have hlt' : e.slot < X.slots.length := by omega
        unfold maxLen at k2
        simp only [slV] at hcg
        have HM := Lib.hid (cnt_off (hwf.slotOk e.slot) e.off)
        have HLE := Lib.hid (hwf.slot_le e.slot)
        clear hsep hfit hSk hsl hsx hso hmem hb hwf hsv hie
        have HG := Gr.refl W.drew
        dsimp only
        go_wp2_with fail
        refine wp_region_flo (fun _ => False) [] [] (by kernel_rfl) (by kernel_rfl) (fun _ h => h.elim) ?_
        refine flo_seg 10 rfl ?_
        simp only [List.take_succ_cons, List.take_zero, List.drop_succ_cons, List.drop_zero]
        repeat (go_big_quiet_step (fail))
        refine wpQuiet_nil ?_
        refine flo_eff rfl rfl rfl rfl (fun K hK => ?_)
        go_wp2_with fail; refine (BsfOff (X.slot e.slot) e.off a1 a3 _ (HL.out.2.2.2.2.2.1.gr (by (repeat (first | (with_reducible exact Gr.refl _) | assumption | (with_reducible apply Gr.from_drew) | (with_reducible apply Gr.alloc) | (with_reducible apply Gr.drew) | (with_reducible refine Gr.trans ?_ (by assumption)) | (with_reducible refine Gr.setCell ?_ (by omega) _))))) (by have := HLE.out; omega) HM.out).mono ?_; rintro e' w4 ⟨rfl, hg⟩; have HG4 := Lib.hid (Gr.of_drew hg); clear hg; go_wp2_with fail; refine ⟨by (first | (refine Gr.mdh ?_ _; (repeat (first | (with_reducible exact Gr.refl _) | assumption | (with_reducible apply Gr.from_drew) | (with_reducible apply Gr.alloc) | (with_reducible apply Gr.drew) | (with_reducible refine Gr.trans ?_ (by assumption)) | (with_reducible refine Gr.setCell ?_ (by omega) _))); done) | (repeat (first | (with_reducible exact Mdh.refl _ _) | (with_reducible refine Mdh.setCell ?_ (by simp) _) | (with_reducible refine Mdh.setNew ?_ (by simp) _) | (with_reducible apply Mdh.alloc) | (with_reducible apply Mdh.from_drew) | (with_reducible apply Mdh.drew) | (with_reducible refine Mdh.gr ?_ (by assumption))))), ?_⟩
        refine flo_seg 5 rfl ?_
        simp only [List.take_succ_cons, List.take_zero, List.drop_succ_cons, List.drop_zero]
        repeat (go_big_quiet_step (fail))
        refine wpQuiet_nil ?_
        refine flo_nil ?_
        --TAIL
        clear e0 e1 c3 c7 hcg HG
        have HGW4 := Lib.hid (HGW.out.trans HG4.out)
        have H4L : Hid (Sep (Y.list b X) w4) := Lib.hid (HL.out.1.gr HG4.out)
        have HI4 := Lib.hid (HI.out.gr HG4.out)
        have HX4 : Hid (w4.heap[b3]? = some (.cells #[.int .i64 e.seq, .string e.key, .bool e.del, .int .i64 e.slot, .int .i64 e.off, .int .i64 e.size] 89) ∧ w4.heap[b3 + 1]? = some (.cells #[.int .i64 0] 32) ∧ w4.heap[b7]? = some (.cells #[.bool ((X.of e.key).any (sameE e))] 4)) := Lib.hid ⟨HG4.out.blk HXW.out.1, HG4.out.blk HXW.out.2.1, HG4.out.blk HXW.out.2.2⟩
        have HD4 : Hid (w3.heap.size ≤ D ∧ w4.heap[D]? = some (.deferred (some []))) := Lib.hid ⟨HD.out.1, HG4.out.blk HD.out.2⟩
        have hsv := HL.out.2.2.2.2.2.2.2
        have HCG : Hid (w4.cell? ⟨g, e.slot.toNat, none⟩ = some (.slice a1 (X.slot e.slot).length a3)) := Lib.hid (by
          obtain ⟨i', sl', g', cap', hi', _, hsl', _, hsv', _, _, hc', _, _⟩ := Lay.slotE H4L.out HL.out.2.1 HH.out
          obtain rfl : e.slot.toNat = i' := by omega
          rw [HL.out.2.2.2.1] at hsl'
          cases hsl'
          rw [hsv] at hsv'
          cases hsv'
          exact hc')
        have hb4 := Lay.blk H4L.out
        rw [hsv] at hb4
        have HB4 := Lib.hid hb4
        have e0 := ((cellsOf hb4).1 0).trans (show _ = some (Value.pointer (some ⟨Y.bm, 0, none⟩)) from rfl)
        have e1 := ((cellsOf hb4).1 1).trans (show _ = some (Value.slice (some ⟨g, 0, none⟩) X.slots.length cap) from rfl)
        have c3 := (cellsOf HX4.out.1).1
        have c7 := (cellsOf HX4.out.2.2).1
        have hcg := HCG.out
        have HO4 := Lib.hid (HL.out.2.2.2.2.2.1.gr HG4.out)
        clear hb4 hsv
        go_wp2_with fail
        refine wp_region_flo (fun _ => False) [] [] (by kernel_rfl) (by kernel_rfl) (fun _ h => h.elim) ?_
        refine flo_seg 9 rfl ?_
        simp only [List.take_succ_cons, List.take_zero, List.drop_succ_cons, List.drop_zero]
        repeat (go_big_quiet_step (fail))
        refine wpQuiet_nil ?_
        refine flo_nil ?_
        obtain ⟨w5, hw5⟩ : ∃ y, y = w4.drew := ⟨_, rfl⟩
        have HG5 : Hid (Gr w4 w5) := Lib.hid (by rw [hw5]; exact (Gr.refl w4).drew)
        rw [← hw5]
        clear hw5 e0 e1 c3 c7 hcg
        obtain ⟨k, hk⟩ : ∃ k, k = cnt (offP e.off) (X.slot e.slot) := ⟨_, rfl⟩
        have hkl : k ≤ (X.slot e.slot).length := by rw [hk]; exact cnt_le _ _
        have HCL : Hid (clash (X.slot e.slot) e = ((match (X.slot e.slot)[k]? with | some o => decide (o.off = e.off) || decide (o.off < e.off + e.size) | none => false) || (decide (0 < k) && (match (X.slot e.slot)[k - 1]? with | some o => decide (e.off < o.off + o.size) | none => false))) ∧ foundO (X.slot e.slot) e.off = (match (X.slot e.slot)[k]? with | some o => decide (o.off = e.off) | none => false) ∧ k = cnt (offP e.off) (X.slot e.slot)) := Lib.hid ⟨by rw [hk]; rfl, by rw [hk]; rfl, hk⟩
        rw [← hk]
        clear hk
        obtain ⟨C, hC⟩ : ∃ C, C = ((X.of e.key).any (sameE e) || clash (X.slot e.slot) e) := ⟨_, rfl⟩
        have HC := Lib.hid hC
        clear hC
        have HV2 := Lib.hid ((valid_iff e).1 HV.out)
        have HEV : Hid (∀ (j : Nat) (o : En), (X.slot e.slot)[j]? = some o → 0 ≤ o.off ∧ 0 ≤ o.size ∧ o.size ≤ 8192 ∧ o.off ≤ 8192) := Lib.hid (fun j o ho => by have := (valid_iff o).1 ((HWF.out.slotOk e.slot).e o (List.mem_of_getElem? ho)).2; omega)
        have HG4' : Hid (b3 + 1 < w3.heap.size ∧ w.heap.size ≤ w3.heap.size) := Lib.hid (by have := HG3.out.sz; have := HB7.out; have h3 := blkLt HXW3.out; exact ⟨h3, by have := HGS.out; omega⟩)
        obtain ⟨v0, v1, v2, v3, v4, v5, v6, v7⟩ := HV2.out
        have v8 : 0 ≤ e.size := by omega
        have HCELL : Hid (∀ (j : Nat) (o : En), (X.slot e.slot)[j]? = some o → ∃ q, a1 = some ⟨q, 0, none⟩ ∧ w5.cell? ⟨q, j * 6 + 4, none⟩ = some (.int .i64 o.off) ∧ w5.cell? ⟨q, j * 6 + 5, none⟩ = some (.int .i64 o.size)) := Lib.hid (fun j o ho => by
          obtain ⟨a', cap', hv, _, _, hat⟩ := ownE_at (HO4.out.gr HG5.out)
          obtain ⟨q, hq, _, _, hc⟩ := hat j o ho
          cases hv
          exact ⟨q, hq, hc 4 _ rfl, hc 5 _ rfl⟩)
        obtain ⟨fo, hfo⟩ : ∃ fo, fo = foundO (X.slot e.slot) e.off := ⟨_, rfl⟩
        have HFO : Hid (fo = match (X.slot e.slot)[k]? with | some o => decide (o.off = e.off) | none => false) := Lib.hid (hfo.trans HCL.out.2.1)
        rw [← hfo]
        clear hfo
        clear v0 v5
        go_upto_region 18 with fail
        go_cut [142] from 98 to 142 (fun t142 wx => t142 = .bool C ∧ Hid (Gr w5 wx))
        case first =>
          obtain ⟨c7, _⟩ := cellsOf (HG5.out.blk HX4.out.2.2)
          have c3 := (cellsOf (HG5.out.blk HX4.out.1)).1
          cases hav : (X.of e.key).any (sameE e) with
          | true =>
            have HR : Hid (C = true) := Lib.hid (by rw [HC.out, hav]; rfl)
            rw [hav] at c7
            clear hav v1 v2
            go_wp2_with fail
            refine wp_region_flo (fun _ => False) [] [] (by kernel_rfl) (by kernel_rfl) (fun _ h => h.elim) ?_
            (try simp only [List.append_eq, List.cons_append, List.nil_append])
            refine flo_seg 45 rfl ?_
            simp only [List.take_succ_cons, List.take_zero, List.drop_succ_cons, List.drop_zero]
            repeat (go_big_quiet_step (fail))
            refine wpQuiet_nil ?_
            refine flo_nil ?_
            go_wp2_with fail
            go_meet
            exact ⟨by rw [HR.out], Lib.hid (Gr.drew (Gr.refl _))⟩
          | false =>
            rw [hav] at c7
            have HAV := Lib.hid hav
            clear hav
            cases fo with
            | true =>
              have HR : Hid (C = true) := Lib.hid (by
                rw [HC.out, HCL.out.1, HAV.out]
                have h1 := HFO.out
                cases hx : (X.slot e.slot)[k]? with
                | none => rw [hx] at h1; cases h1
                | some o => rw [hx] at h1; simp only at h1; simp [← h1])
              clear v1 v2
              go_wp2_with fail
              refine wp_region_flo (fun _ => False) [] [] (by kernel_rfl) (by kernel_rfl) (fun _ h => h.elim) ?_
              (try simp only [List.append_eq, List.cons_append, List.nil_append])
              refine flo_seg 45 rfl ?_
              simp only [List.take_succ_cons, List.take_zero, List.drop_succ_cons, List.drop_zero]
              repeat (go_big_quiet_step (fail))
              refine wpQuiet_nil ?_
              refine flo_nil ?_
              go_wp2_with fail
              go_meet
              exact ⟨by rw [HR.out], Lib.hid (Gr.drew (Gr.refl _))⟩
            | false =>
              have HFN : Hid (∀ o, (X.slot e.slot)[k]? = some o → ¬ o.off = e.off) := Lib.hid (fun o ho => by
                have h1 := HFO.out
                rw [ho] at h1
                simpa using h1.symm)
              by_cases hk0 : 0 < k
              · obtain ⟨p, hp⟩ : ∃ p, (X.slot e.slot)[k - 1]? = some p := ⟨_, List.getElem?_eq_getElem (by omega)⟩
                obtain ⟨q, hq, d4, d5⟩ := HCELL.out (k - 1) p hp
                cases hq
                have w0 := HEV.out (k - 1) p hp
                obtain ⟨k1, hk1⟩ : ∃ k1, k1 = k - 1 := ⟨_, rfl⟩
                rw [← hk1] at d4 d5
                have hkk : (k : Int) - 1 = (k1 : Int) := by omega
                have hk1l : (k1 : Int) < (X.slot e.slot).length := by omega
                have hk0' : (0 : Int) < k := by omega
                have hk5 : (k : Int) ≤ 512 := by have := HLE.out; omega
                have hk6 : (k1 : Int) ≤ 512 := by omega
                clear hk1
                by_cases hgt : e.off < p.off + p.size
                · have HR : Hid (C = true) := Lib.hid (by rw [HC.out, HCL.out.1, HAV.out, hp]; simp [hgt, hk0])
                  clear hp v1 v2 hkl
                  go_wp2_with fail
                  refine wp_region_flo (fun _ => False) [] [] (by kernel_rfl) (by kernel_rfl) (fun _ h => h.elim) ?_
                  (try simp only [List.append_eq, List.cons_append, List.nil_append])
                  refine flo_seg 45 rfl ?_
                  simp only [List.take_succ_cons, List.take_zero, List.drop_succ_cons, List.drop_zero]
                  repeat (go_big_quiet_step (fail))
                  refine wpQuiet_nil ?_
                  refine flo_nil ?_
                  go_wp2_with fail
                  go_meet
                  exact ⟨by rw [HR.out], Lib.hid (Gr.drew (Gr.refl _))⟩
                · have HA : Hid ((decide (0 < k) && (match (X.slot e.slot)[k - 1]? with | some o => decide (e.off < o.off + o.size) | none => false)) = false) := Lib.hid (by rw [hp]; simp [hgt])
                  have hgd : decide (e.off < p.off + p.size) = false := decide_eq_false hgt
                  clear hp
                  by_cases hkn : k < (X.slot e.slot).length
                  · obtain ⟨o, ho⟩ : ∃ o, (X.slot e.slot)[k]? = some o := ⟨_, List.getElem?_eq_getElem hkn⟩
                    have hkn' : (k : Int) < (X.slot e.slot).length := by omega
                    obtain ⟨q2, hq2, f4, f5⟩ := HCELL.out k o ho
                    obtain rfl : q = q2 := by simpa using hq2
                    clear hq2
                    have w1 := HEV.out k o ho
                    have HO := Lib.hid ho
                    clear ho f5
                    by_cases hb : o.off < e.off + e.size
                    · have HR : Hid (C = true) := Lib.hid (by rw [HC.out, HCL.out.1, HAV.out, HO.out]; simp [hb])
                      clear v1 v2
                      go_wp2_with fail
                      refine wp_region_flo (fun _ => False) [] [] (by kernel_rfl) (by kernel_rfl) (fun _ h => h.elim) ?_
                      (try simp only [List.append_eq, List.cons_append, List.nil_append])
                      refine flo_seg 45 rfl ?_
                      simp only [List.take_succ_cons, List.take_zero, List.drop_succ_cons, List.drop_zero]
                      repeat (go_big_quiet_step (fail))
                      refine wpQuiet_nil ?_
                      refine flo_nil ?_
                      go_wp2_with fail
                      go_meet
                      exact ⟨by rw [HR.out], Lib.hid (Gr.drew (Gr.refl _))⟩
                    · have HR : Hid (C = false) := Lib.hid (by rw [HC.out, HCL.out.1, HAV.out, HO.out]; simp only [HA.out]; have := HFN.out o HO.out; simp [hb, this])
                      have hbd : decide (o.off < e.off + e.size) = false := decide_eq_false hb
                      clear v1 v2
                      go_wp2_with fail
                      refine wp_region_flo (fun _ => False) [] [] (by kernel_rfl) (by kernel_rfl) (fun _ h => h.elim) ?_
                      (try simp only [List.append_eq, List.cons_append, List.nil_append])
                      refine flo_seg 45 rfl ?_
                      simp only [List.take_succ_cons, List.take_zero, List.drop_succ_cons, List.drop_zero]
                      repeat (go_big_quiet_step (fail))
                      refine wpQuiet_nil ?_
                      refine flo_nil ?_
                      go_wp2_with fail
                      go_meet
                      exact ⟨by rw [HR.out], Lib.hid (Gr.drew (Gr.refl _))⟩
                  · have hkn' : ¬ (k : Int) < (X.slot e.slot).length := by omega
                    have hknd : decide (k < (X.slot e.slot).length) = false := decide_eq_false hkn
                    have HR : Hid (C = false) := Lib.hid (by rw [HC.out, HCL.out.1, HAV.out, List.getElem?_eq_none (by omega)]; simp only [HA.out]; rfl)
                    clear v1 v2
                    go_wp2_with fail
                    refine wp_region_flo (fun _ => False) [] [] (by kernel_rfl) (by kernel_rfl) (fun _ h => h.elim) ?_
                    (try simp only [List.append_eq, List.cons_append, List.nil_append])
                    refine flo_seg 45 rfl ?_
                    simp only [List.take_succ_cons, List.take_zero, List.drop_succ_cons, List.drop_zero]
                    repeat (go_big_quiet_step (fail))
                    refine wpQuiet_nil ?_
                    refine flo_nil ?_
                    go_wp2_with fail
                    go_meet
                    exact ⟨by rw [HR.out], Lib.hid (Gr.drew (Gr.refl _))⟩
              · obtain rfl : k = 0 := by omega
                have HA : Hid ((decide (0 < 0) && (match (X.slot e.slot)[0 - 1]? with | some o => decide (e.off < o.off + o.size) | none => false)) = false) := Lib.hid (rfl)
                by_cases hkn : 0 < (X.slot e.slot).length
                · obtain ⟨o, ho⟩ : ∃ o, (X.slot e.slot)[0]? = some o := ⟨_, List.getElem?_eq_getElem hkn⟩
                  have hkn' : (0 : Int) < (X.slot e.slot).length := by omega
                  obtain ⟨q2, hq2, f4, f5⟩ := HCELL.out 0 o ho
                  cases hq2
                  have w1 := HEV.out 0 o ho
                  have HO := Lib.hid ho
                  clear ho f5
                  by_cases hb : o.off < e.off + e.size
                  · have HR : Hid (C = true) := Lib.hid (by rw [HC.out, HCL.out.1, HAV.out, HO.out]; simp [hb])
                    clear v1 v2
                    go_wp2_with fail
                    refine wp_region_flo (fun _ => False) [] [] (by kernel_rfl) (by kernel_rfl) (fun _ h => h.elim) ?_
                    (try simp only [List.append_eq, List.cons_append, List.nil_append])
                    refine flo_seg 45 rfl ?_
                    simp only [List.take_succ_cons, List.take_zero, List.drop_succ_cons, List.drop_zero]
                    repeat (go_big_quiet_step (fail))
                    refine wpQuiet_nil ?_
                    refine flo_nil ?_
                    go_wp2_with fail
                    go_meet
                    exact ⟨by rw [HR.out], Lib.hid (Gr.drew (Gr.refl _))⟩
                  · have HR : Hid (C = false) := Lib.hid (by rw [HC.out, HCL.out.1, HAV.out, HO.out]; simp only [HA.out]; have := HFN.out o HO.out; simp [hb, this])
                    have hbd : decide (o.off < e.off + e.size) = false := decide_eq_false hb
                    clear v1 v2
                    go_wp2_with fail
                    refine wp_region_flo (fun _ => False) [] [] (by kernel_rfl) (by kernel_rfl) (fun _ h => h.elim) ?_
                    (try simp only [List.append_eq, List.cons_append, List.nil_append])
                    refine flo_seg 45 rfl ?_
                    simp only [List.take_succ_cons, List.take_zero, List.drop_succ_cons, List.drop_zero]
                    repeat (go_big_quiet_step (fail))
                    refine wpQuiet_nil ?_
                    refine flo_nil ?_
                    go_wp2_with fail
                    go_meet
                    exact ⟨by rw [HR.out], Lib.hid (Gr.drew (Gr.refl _))⟩
                · have hkn' : ¬ (0 : Int) < (X.slot e.slot).length := by omega
                  have HR : Hid (C = false) := Lib.hid (by rw [HC.out, HCL.out.1, HAV.out, List.getElem?_eq_none (by omega)]; simp only [HA.out]; rfl)
                  clear v1 v2
                  go_wp2_with fail
                  refine wp_region_flo (fun _ => False) [] [] (by kernel_rfl) (by kernel_rfl) (fun _ h => h.elim) ?_
                  (try simp only [List.append_eq, List.cons_append, List.nil_append])
                  refine flo_seg 45 rfl ?_
                  simp only [List.take_succ_cons, List.take_zero, List.drop_succ_cons, List.drop_zero]
                  repeat (go_big_quiet_step (fail))
                  refine wpQuiet_nil ?_
                  refine flo_nil ?_
                  go_wp2_with fail
                  go_meet
                  exact ⟨by rw [HR.out], Lib.hid (Gr.drew (Gr.refl _))⟩
        case rest =>
          obtain ⟨rfl, HG6⟩ := hcut
          revert HG6
          generalize wc = w6
          intro HG6
          have HGW6 : Hid (Gr w w6) := Lib.hid ((HGW4.out.trans HG5.out).trans HG6.out)
          have G46 : Hid (Gr w4 w6) := Lib.hid (HG5.out.trans HG6.out)
          have HX6 : Hid (w6.heap[b3]? = some (.cells #[.int .i64 e.seq, .string e.key, .bool e.del, .int .i64 e.slot, .int .i64 e.off, .int .i64 e.size] 89) ∧ w6.heap[b3 + 1]? = some (.cells #[.int .i64 0] 32)) := Lib.hid ⟨G46.out.blk HX4.out.1, G46.out.blk HX4.out.2.1⟩
          have HD6 : Hid (w3.heap.size ≤ D ∧ w6.heap[D]? = some (.deferred (some []))) := Lib.hid ⟨HD.out.1, G46.out.blk HD4.out.2⟩
          cases C with
          | true =>
            have HE := Lib.hid (add_6 HNE.out HH.out HV.out HBAD.out HC.out.symm)
            obtain ⟨c4, f4⟩ := cellsOf HX6.out.2
            go_wp2_with fail
            have n4 : D ≠ b3 + 1 := by have := HD6.out.1; have := HX4.out; have h1 := HB7.out; have h2 := HG4'.out; omega
            have h4' : ((w6.setCell ⟨b3 + 1, 0, none⟩ (.int .i64 6)).putObj D (.deferred none)).heap[b3 + 1]? = _ := (World.putObj_heap_other n4.symm).trans (blkSet (j := 0) (u := .int .i64 6) HX6.out.2)
            obtain ⟨d4, _⟩ := cellsOf h4'
            refine retM1 (D := D) (v := .int .i64 6) rfl (blkSetO HD6.out.2 n4) ?_ ⟨by rw [HE.out], add_out (w0 := w) (b4 := 0) H.out (by rw [HE.out]; decide) ?_⟩
            · simp [results, Tryz.results36, go_sem, d4]
            · have h1 := HW0.out
              have h2 := HG4'.out
              exact (HGW6.out.setCell (p := ⟨b3 + 1, 0, none⟩) (by simp; omega) _).putObj (by have := HD6.out.1; omega) _
          | false =>
            have HOK : Hid (AddOk X e) := Lib.hid (by
              have h1 := HC.out.symm
              simp only [Bool.or_eq_false_iff] at h1
              exact ⟨HNE.out, HH.out, HV.out, HBAD.out, fun o ho => by simpa using (List.any_eq_false.1 h1.1) o ho, h1.2⟩)
            have HS6 : Hid (Sep (Y.list b X) w6) := Lib.hid (H4L.out.gr G46.out)
            obtain ⟨hb6, _⟩ := And.intro (G46.out.blk HB4.out) trivial
            have e0 := ((cellsOf hb6).1 0).trans (show _ = some (Value.pointer (some ⟨Y.bm, 0, none⟩)) from rfl)
            have e1 := ((cellsOf hb6).1 1).trans (show _ = some (Value.slice (some ⟨g, 0, none⟩) X.slots.length cap) from rfl)
            have c3 := (cellsOf HX6.out.1).1
            have HB6 := Lib.hid hb6
            have HO6 : Hid (Own w6 89 6 (.slice a1 (X.slot e.slot).length a3) (X.slot e.slot).length (rowE (X.slot e.slot))) := Lib.hid (HO4.out.gr G46.out)
            have HSV := Lib.hid HL.out.2.2.2.2.2.2.2
            have HR6 : Hid (Own w6 85 1 (.slice (some ⟨g, 0, none⟩) X.slots.length cap) X.slots.length (Y.SL.map slV)) := Lib.hid (by have := Lay.srow HS6.out; rwa [HSV.out] at this)
            have HNEW : Hid (X.slot e.slot ≠ X.slot e.slot → False) := Lib.hid (fun h => h rfl)
            have HDIS : Hid ((Value.slice a1 (X.slot e.slot).length a3).ownBlock ≠ some g ∧ (Value.slice a1 (X.slot e.slot).length a3).ownBlock ≠ some b ∧ g ≠ b ∧ (Value.slice a1 (X.slot e.slot).length a3).ownBlock ≠ some b3 ∧ g ≠ b3 ∧ b ≠ b3 ∧ ∀ q, (Value.slice s1 s2 s3).ownBlock = some q → (Value.slice a1 (X.slot e.slot).length a3).ownBlock ≠ some q ∧ q ≠ g ∧ q ≠ b3) := Lib.hid (by
              have hq := slotRows_split HL.out.2.2.2.1 HL.out.2.2.2.2.1 (none, 0, 0) []
              obtain ⟨R, p1, _⟩ := hq
              have h1 := HS6.out.perm (((p1.append_left (keyRows Y.KL X.keys)).append_left _).trans (show (Y.hd b X.slots.length ++ (keyRows Y.KL X.keys ++ enA (a1, _, a3) (X.slot e.slot) :: R)).Perm (enA (a1, _, a3) (X.slot e.slot) :: (Y.hd b X.slots.length ++ (keyRows Y.KL X.keys ++ R))) from by
                refine List.Perm.trans ?_ List.perm_middle
                exact List.Perm.append_left _ List.perm_middle))
              have h2 := HS6.out.dis
              have hb3 : ∀ q, S q → q ≠ b3 := fun q hq => by have := HSK.out q hq; have := HW0.out; omega
              have hSg : S g := (HL.out.2.2.1 g).2 ⟨rowA 85 1 Y.sv X.slots.length (Y.SL.map slV), by simp [Lay.list, Lay.hd], by rw [HSV.out]; rfl⟩
              have hSb : S b := HI4.out.self
              refine ⟨fun h => ?_, fun h => ?_, fun h => ?_, fun h => ?_, hb3 g hSg, hb3 b hSb, fun q hq => ⟨fun h => ?_, fun h => ?_, fun h => ?_⟩⟩
              · exact h1.dis (rowA 85 1 Y.sv X.slots.length (Y.SL.map slV)) (by simp [Lay.hd]) g h (by rw [HSV.out]; rfl)
              · exact h1.dis (blkA b (.cells #[.pointer (some ⟨Y.bm, 0, none⟩), Y.sv] 84)) (by simp [Lay.hd]) b h rfl
              · exact h2 (rowA 85 1 Y.sv X.slots.length (Y.SL.map slV)) (by simp [Lay.hd]) b rfl (by rw [HSV.out, h]; rfl)
              · exact hb3 b3 ((HL.out.2.2.1 b3).2 ⟨_, HL.out.2.2.2.2.2.2.1, h⟩) rfl
              · exact h1.dis (enA (s1, s2, s3) (X.of e.key)) (List.mem_append_right _ (List.mem_append_left _ (HOW.out.2 q hq))) q h hq
              · have h3 : Sep (rowA 85 1 Y.sv X.slots.length (Y.SL.map slV) :: (keyRows Y.KL X.keys ++ R)) w6 := h1.tail.tail.tail
                exact h3.dis (enA (s1, s2, s3) (X.of e.key)) (List.mem_append_left _ (HOW.out.2 q hq)) g (by rw [HSV.out]; rfl) (by rw [← h]; exact hq)
              · exact hb3 q (HSS.out q hq) h)
            obtain ⟨n1, n2, n3, n4, n5, n6, _⟩ := HDIS.out
            have hgl : g < w6.heap.size := HR6.out.lt rfl
            obtain ⟨cur, hgr, _, _, _, hctk⟩ := HR6.out.parts
            have HGR := Lib.hid hgr
            have HCU : Hid (cur[e.slot.toNat]? = some (slV (a1, (X.slot e.slot).length, a3))) := Lib.hid (by
              have h1 : (Y.SL.map slV)[e.slot.toNat]? = some (slV (a1, (X.slot e.slot).length, a3)) := by rw [List.getElem?_map, HL.out.2.2.2.1]; rfl
              rw [← hctk, List.getElem?_take_of_lt (by omega)] at h1
              simpa using h1)
            clear hgr hctk
            have hkc : cnt (offP e.off) (X.slot e.slot) = k := HCL.out.2.2.symm
            have HKC := Lib.hid hkc
            clear hb6 hkc
            go_wp2_with fail
            have hcl := HO6.out
            refine wp_region_flo (fun q => (Value.slice a1 (X.slot e.slot).length a3).ownBlock = some q ∨ q = g) [] [] (by kernel_rfl) (by kernel_rfl) (fun q hq => hq.elim (fun h => HO6.out.lt h) (fun h => h ▸ hgl)) ?_
            refine flo_seg 9 rfl ?_
            simp only [List.take_succ_cons, List.take_zero, List.drop_succ_cons, List.drop_zero]
            repeat (go_big_quiet_step (fail))
            refine wpQuiet_nil ?_
            refine flo_eff rfl rfl rfl rfl (fun K hK => ?_)
            go_wp2
            refine ⟨by (first | (refine Gr.mdh ?_ _; (repeat (first | (with_reducible exact Gr.refl _) | assumption | (with_reducible apply Gr.from_drew) | (with_reducible apply Gr.alloc) | (with_reducible apply Gr.drew) | (with_reducible refine Gr.trans ?_ (by assumption)) | (with_reducible refine Gr.setCell ?_ (by omega) _))); done) | (repeat (first | (with_reducible exact Mdh.refl _ _) | (with_reducible refine Mdh.setCell ?_ (by simp) _) | (with_reducible refine Mdh.setNew ?_ (by simp) _) | (with_reducible apply Mdh.alloc) | (with_reducible apply Mdh.from_drew) | (with_reducible apply Mdh.drew) | (with_reducible refine Mdh.gr ?_ (by assumption))))), ?_⟩
            refine flo_eff rfl rfl rfl rfl (fun K hK => ?_)
            go_wp2_with fail; refine (Inserten (.slice a1 (X.slot e.slot).length a3) (X.slot e.slot).length k (rowE (X.slot e.slot)) (enC e) w6.heap.size _ (HO6.out.gr (by (repeat (first | (with_reducible exact Gr.refl _) | assumption | (with_reducible apply Gr.from_drew) | (with_reducible apply Gr.alloc) | (with_reducible apply Gr.drew) | (with_reducible refine Gr.trans ?_ (by assumption)) | (with_reducible refine Gr.setCell ?_ (by omega) _))))) (rowE_one _) hkl (by have := HLE.out; omega) (by exact blkNew _ _) rfl (fun u hu => rowE_one [e] u (by simpa [rowE] using hu)) (fun h => by have := HO6.out.lt h; omega)).mono ?_; rintro e' w7 ⟨g', cap', rfl, ho, hgw, hm⟩; have HI7 : Hid (Mdh (fun q => (Value.slice a1 (X.slot e.slot).length a3).ownBlock = some q) w6 w7) := Lib.hid ((((Mdh.refl _ w6).alloc _).drew).trans (show Mdh _ _ w7 from hm)); have HM7 := Lib.hid hm; have HO7 := Lib.hid (And.intro ho hgw); have hg7 := HI7.out.blk HGR.out n1; obtain ⟨r7, f7⟩ := cellsOf hg7; have r8 := (r7 e.slot.toNat).trans HCU.out; clear ho hgw hm r7 hg7; go_wp2_with fail; refine ⟨HM7.out.mono (fun q hq => .inl (.inl hq)), ?_⟩
            refine flo_seg 1 rfl ?_
            simp only [List.take_succ_cons, List.take_zero, List.drop_succ_cons, List.drop_zero]
            repeat (go_big_quiet_step (fail))
            refine wpQuiet_nil ?_
            refine flo_eff rfl rfl rfl rfl (fun K hK => ?_)
            go_wp2_with fail; refine ⟨(Mdh.refl _ w7).setCell (p := ⟨g, e.slot.toNat, none⟩) (.inl (.inr rfl)) _, ?_⟩
            refine flo_nil ?_
            obtain ⟨w8, hw8⟩ : ∃ y, y = w7.setCell ⟨g, e.slot.toNat, none⟩ (.slice (some ⟨g', 0, none⟩) ((X.slot e.slot).length + 1) cap') := ⟨_, rfl⟩
            rw [← hw8]
            have HT8 : Hid (Mdh (fun q => (Value.slice a1 (X.slot e.slot).length a3).ownBlock = some q ∨ q = g) w6 w8) := Lib.hid (by rw [hw8]; exact (HI7.out.mono (fun q hq => .inl hq)).setCell (p := ⟨g, e.slot.toNat, none⟩) (.inr rfl) _)
            have hgg : g' ≠ g := by
              rcases HO7.out.2 with h | h
              · exact fun e' => n1 (by rw [h, e'])
              · have := hgl; simp at h; omega
            have HS8 := Lib.hid (Lay.setSlot (sl' := (some ⟨g', 0, none⟩, (X.slot e.slot).length + 1, cap')) (l' := insP (offP e.off) (X.slot e.slot) e) HS6.out HL.out.2.1 HL.out.2.2.2.1 HL.out.2.2.2.2.1 HT8.out
              (fun q hq => hq.elim .inl (fun h => .inr (.inl (by rw [h, HSV.out]; rfl))))
              (by
                rw [insP_len, insP_eq, HKC.out, rowE_app, rowE_app, ← rowE_take, ← rowE_drop, hw8]
                exact HO7.out.1.other (p := ⟨g, e.slot.toNat, none⟩) (fun h => hgg (Option.some.inj h)) _)
              (fun q hq => by
                have e1 : g' = q := Option.some.inj hq
                subst e1
                exact HO7.out.2.imp (fun h => h) (fun h => by simp at h; omega))
              (by
                rw [List.map_set, HSV.out, hw8]
                exact (HR6.out.mdh HI7.out (fun q hq h => by have e1 : g = q := Option.some.inj hq; subst e1; exact n1 h)).set (by simp; have := (List.getElem?_eq_some_iff.1 HL.out.2.2.2.1).1; omega) _))
            have HX8 : Hid (w8.heap[b3]? = some (.cells #[.int .i64 e.seq, .string e.key, .bool e.del, .int .i64 e.slot, .int .i64 e.off, .int .i64 e.size] 89) ∧ w8.heap[b3 + 1]? = some (.cells #[.int .i64 0] 32)) := Lib.hid ⟨HT8.out.blk HX6.out.1 (fun h => h.elim n4 (fun h => n5 h.symm)), HT8.out.blk HX6.out.2 (fun h => by
              have h5 : S (b3 + 1) := h.elim (fun h => (HL.out.2.2.1 _).2 ⟨_, HL.out.2.2.2.2.2.2.1, h⟩) (fun h => by rw [h]; exact (HL.out.2.2.1 g).2 ⟨rowA 85 1 Y.sv X.slots.length (Y.SL.map slV), by simp [Lay.list, Lay.hd], by rw [HSV.out]; rfl⟩)
              have := HSK.out _ h5; have := HW0.out; omega)⟩
            have HO8 : Hid (Own w8 89 6 (.slice s1 s2 s3) (X.of e.key).length (rowE (X.of e.key))) := Lib.hid (((HOW.out.1.gr HG4.out).gr G46.out).mdh HT8.out (fun q hq h => by have h1 := HDIS.out.2.2.2.2.2.2 q hq; exact h.elim h1.1 h1.2.1))
            have HD8 : Hid (w3.heap.size ≤ D ∧ w8.heap[D]? = some (.deferred (some []))) := Lib.hid ⟨HD6.out.1, HT8.out.blk HD6.out.2 (fun h => by
              have h5 : S D := h.elim (fun h => (HL.out.2.2.1 _).2 ⟨_, HL.out.2.2.2.2.2.2.1, h⟩) (fun h => by rw [h]; exact (HL.out.2.2.1 g).2 ⟨rowA 85 1 Y.sv X.slots.length (Y.SL.map slV), by simp [Lay.list, Lay.hd], by rw [HSV.out]; rfl⟩)
              have := HSK.out _ h5; have := HD6.out.1; have := HG4'.out; omega)⟩
            have hs2 : s2 = (X.of e.key).length := own_slV (s := (s1, s2, s3)) HO8.out
            subst hs2
            have HMN : Hid (∀ j x, cnt (fun o => ltE o e) (X.of e.key) ≤ j → (X.of e.key)[j]? = some x → ltE x e = false) := Lib.hid (cnt_hi _ (HWF.out.ofPair e.key) (fun p q hpq hp => by
              cases hq : ltE q e with
              | false => rfl
              | true => rw [ltE_trn hpq hq] at hp; cases hp))
            have HLO := Lib.hid (HWF.out.of_le e.key)
            clear hw8 e0 e1 c3 r8 f7 hcl
            have c3 := (cellsOf HX8.out.1).1
            have hb8 := Lay.blk HS8.out.1
            have e0 := ((cellsOf hb8).1 0).trans (show _ = some (Value.pointer (some ⟨Y.bm, 0, none⟩)) from rfl)
            clear hb8
            go_wp2_with (first
              | (go_at_call 67; refine (BsfNew (X.of e.key) e s1 s3 _ HO8.out (by have := HLO.out; omega) HMN.out).mono ?_; rintro e' w9 ⟨rfl, hg⟩; have HG9 := Lib.hid hg; have HX9 := Lib.hid (And.intro (hg.blk HX8.out.1) (hg.blk HX8.out.2)); have HS9 := Lib.hid (HS8.out.1.gr hg); have HO9 := Lib.hid (HO8.out.gr hg); have d3 := (cellsOf HX9.out.1).1; have d0 := hg.keep e0; clear hg e0 c3))
            have HLK : Hid (Y.KL.length ≤ 100000) := Lib.hid (by
              have h1 := congrArg List.length HL.out.2.1.k
              simp only [List.length_map] at h1
              have := HWF.out.keys_le
              omega)
            have HOM : Hid (OMsl w9 Y.bm Y.v Y.KL) := Lib.hid (HS9.out.get (A := omA Y.bm Y.v Y.KL) (by simp [Lay.list, Lay.hd]))
            have HKN : Hid (cnt (fun o => ltE o e) (X.of e.key) ≤ (X.of e.key).length) := Lib.hid (cnt_le _ _)
            have hbml : Y.bm < w9.heap.size := blkLt HOM.out.blk
            have HDM : Hid (¬ (b = Y.bm ∨ Y.v.ownBlock = some b) ∧ ∀ q, (q = Y.bm ∨ Y.v.ownBlock = some q) → q < b3) := Lib.hid ⟨HS9.out.dis (omA Y.bm Y.v Y.KL) (by simp [Lay.hd]) b rfl, fun q hq => by
              have := HSK.out q ((HL.out.2.2.1 q).2 ⟨omA Y.bm Y.v Y.KL, by simp [Lay.list, Lay.hd], hq⟩); have := HW0.out; omega⟩
            have o1 : b ≠ Y.bm := fun h => HDM.out.1 (.inl h)
            have o2 : Y.v.ownBlock ≠ some b := fun h => HDM.out.1 (.inr h)
            have o3 : b3 ≠ Y.bm := fun h => by have := HDM.out.2 _ (.inl rfl); omega
            have o4 : Y.v.ownBlock ≠ some b3 := fun h => by have := HDM.out.2 _ (.inr h); omega
            have HG := Gr.refl w9.drew
            refine wp_region_flo (fun q => q = Y.bm ∨ Y.v.ownBlock = some q) [171] [] (by kernel_rfl) (by kernel_rfl) (fun q hq => hq.elim (fun h => h ▸ hbml) (fun h => HOM.out.own.lt h)) ?_
            refine flo_seg 7 rfl ?_
            simp only [List.take_succ_cons, List.take_zero, List.drop_succ_cons, List.drop_zero]
            repeat (go_big_quiet_step (fail))
            refine wpQuiet_nil ?_
            refine flo_effg rfl rfl rfl (fun wg1 hgg1 K hK => ?_)
            (try replace HG := Gr.trans (Gr.trans HG (by (repeat (first | (with_reducible exact Gr.refl _) | assumption | (with_reducible apply Gr.from_drew) | (with_reducible apply Gr.alloc) | (with_reducible apply Gr.drew) | (with_reducible refine Gr.trans ?_ (by assumption)) | (with_reducible refine Gr.setCell ?_ (by omega) _))))) hgg1)
            go_wp2_with fail; refine (CloneE (X.of e.key) (by have := HLO.out; omega) (s1, (X.of e.key).length, s3) _ (HO9.out.gr (Gr.of_drew HG))).mono ?_; rintro e' wa1 ⟨⟨c1, c2, cc3⟩, rfl, ho, hnw, hg⟩; have HC1 := Lib.hid (And.intro ho (And.intro (fun q hq => Nat.le_trans HG.sz (hnw q hq)) hnw)); have HGa := Lib.hid (HG.trans hg); replace HG := HG.trans hg; have h2c := own_slV ho; simp only at h2c; subst h2c; have HMg := Lib.hid hg; clear ho hnw hg; simp only [slV]; go_wp2_with fail; refine ⟨HMg.out.mdh _, ?_⟩
            refine flo_seg 2 rfl ?_
            simp only [List.take_succ_cons, List.take_zero, List.drop_succ_cons, List.drop_zero]
            repeat (go_big_quiet_step (fail))
            refine wpQuiet_nil ?_
            refine flo_float (fun b => .slice (some ⟨b, 0, none⟩) 1 1) (_) rfl rfl (fun w => by simp [go_sem]; rfl) (fun wf1 fb1 hgf1 fl1 fh1 ft1 fo1 => ?_)
            (try replace HG := Gr.trans (Gr.trans HG (by (repeat (first | (with_reducible exact Gr.refl _) | assumption | (with_reducible apply Gr.from_drew) | (with_reducible apply Gr.alloc) | (with_reducible apply Gr.drew) | (with_reducible refine Gr.trans ?_ (by assumption)) | (with_reducible refine Gr.setCell ?_ (by omega) _))))) hgf1)
            (try have fc1 := (cellsOf fo1).1)
            (try have ff1 := (cellsOf fo1).2)
            refine flo_eff rfl rfl rfl rfl (fun K hK => ?_)
            go_wp2_with fail; refine (Inserten (.slice c1 (X.of e.key).length cc3) (X.of e.key).length (cnt (fun o => ltE o e) (X.of e.key)) (rowE (X.of e.key)) (enC e) fb1 wf1 (HC1.out.1.gr hgf1) (rowE_one _) HKN.out (by have := HLO.out; omega) fo1 rfl (fun u hu => rowE_one [e] u (by simpa [rowE] using hu)) (fun h => ft1 (.inr ⟨HC1.out.2.2 _ h, HC1.out.1.lt h⟩))).mono ?_; rintro e' wa2 ⟨g2, cap2, rfl, ho, hgw, hm⟩; have HN2 := Lib.hid ho; have HG2' := Lib.hid (HG.md hm (fun q hq => HC1.out.2.1 q hq)); have HNW2 : Hid (w9.heap.size ≤ g2) := Lib.hid (hgw.elim (fun h => HC1.out.2.1 _ h) (fun h => Nat.le_trans HG.sz h)); have HM2 := Lib.hid hm; clear ho hgw hm; go_wp2_with fail; refine ⟨HM2.out.mono (fun q hq => .inr (.inl (.inr ⟨HC1.out.2.2 _ hq, HC1.out.1.lt hq⟩))), ?_⟩
            refine flo_eff rfl rfl rfl rfl (fun K hK => ?_)
            go_wp2_with fail; refine (Setsl Y.bm Y.v Y.KL e.key (some ⟨g2, 0, none⟩, (X.of e.key).length + 1, cap2) wa2 (HOM.out.gr (Gr.of_drew HG2'.out)) HLK.out).mono ?_; rintro e' wa3 ⟨rfl, v3, hom3, hv3, hm3⟩; have HM3 := Lib.hid (And.intro hom3 (And.intro hv3 hm3)); clear hom3 hv3 hm3; go_wp2_with fail; refine ⟨HM3.out.2.2.mono (fun q hq => .inl hq), ?_⟩
            refine flo_nil ?_
            have HP := Lib.hid (Lay.putKey (s' := (some ⟨g2, 0, none⟩, (X.of e.key).length + 1, cap2)) (l' := insP (fun o => ltE o e) (X.of e.key) e) HS9.out HS8.out.2.1 (Gr.of_drew HG2'.out) e.key
              (by
                rw [insP_len, insP_eq, rowE_app, rowE_app, ← rowE_take, ← rowE_drop]
                exact HN2.out)
              (fun q hq => by have e1 : g2 = q := Option.some.inj hq; subst e1; exact HNW2.out) HM3.out.1 HM3.out.2.1 HM3.out.2.2)
            have hb4 : wa3.heap[b3 + 1]? = some (.cells #[.int .i64 0] 32) := HM3.out.2.2.blk ((Gr.of_drew HG2'.out).blk HX9.out.2) (fun h => by have := HDM.out.2 _ h; omega)
            have hdD : wa3.heap[D]? = some (.deferred (some [])) := HM3.out.2.2.blk ((Gr.of_drew HG2'.out).blk (HG9.out.blk HD8.out.2)) (fun h => by have := HDM.out.2 _ h; have := HD6.out.1; have := HG4'.out; omega)
            have HB := Lib.hid (And.intro hb4 hdD)
            obtain ⟨c4, f4⟩ := cellsOf hb4
            clear hb4 hdD
            go_wp2_with fail
            have n9 : D ≠ b3 + 1 := by have := HD6.out.1; have := HG4'.out; omega
            have h4' : ((wa3.setCell ⟨b3 + 1, 0, none⟩ (.int .i64 0)).putObj D (.deferred none)).heap[b3 + 1]? = _ := (World.putObj_heap_other n9.symm).trans (blkSet (j := 0) (u := .int .i64 0) HB.out.1)
            obtain ⟨d4, _⟩ := cellsOf h4'
            have hlD := blkLt HD6.out.2
            have hl4 := blkLt HX6.out.2
            have g68 := HT8.out.size
            have g89 := HG9.out.sz
            have hw3 := HW0.out
            have hD3 := HD6.out.1
            have hw33 := HG4'.out
            obtain ⟨Y2, hY2⟩ : ∃ Y2 : Lay, Y2 = { bm := Y.bm, v := v3, sv := Y.sv, KL := putL ltS Y.KL e.key (some ⟨g2, 0, none⟩, (X.of e.key).length + 1, cap2), SL := Y.SL.set e.slot.toNat (some ⟨g', 0, none⟩, (X.slot e.slot).length + 1, cap') } := ⟨_, rfl⟩
            have HP2 : Sep (Y2.list b (addX X e)) wa3 ∧ Y2.Fit (addX X e) := by rw [hY2, addX_eq HOK.out]; exact ⟨HP.out.1, HP.out.2.1⟩
            have hfoot : ∀ q, (∃ A ∈ Y2.list b (addX X e), A.S q) → S q ∨ w6.heap.size ≤ q := fun q hq => by
              rw [hY2, addX_eq HOK.out] at hq
              rcases HP.out.2.2 q hq with h | h
              · rcases HS8.out.2.2 q h with h | h
                · exact .inl ((HL.out.2.2.1 q).2 h)
                · exact .inr h
              · exact .inr (by omega)
            have hnD : ∀ q, (S q ∨ w6.heap.size ≤ q) → q ≠ b3 + 1 ∧ q ≠ D := fun q hq => by
              rcases hq with h | h
              · have := HSK.out q h; omega
              · omega
            have hm4 : Mdh (fun q => q = b3 + 1 ∨ q = D) wa3 ((wa3.setCell ⟨b3 + 1, 0, none⟩ (.int .i64 0)).putObj D (.deferred none)) := ((Mdh.refl _ wa3).setCell (p := ⟨b3 + 1, 0, none⟩) (.inl rfl) _).putObj (.inr rfl) _
            refine retM1 (D := D) (v := .int .i64 0) rfl (blkSetO HB.out.2 n9) ?_ ⟨by rw [ok_add HOK.out], fun q => ∃ A ∈ Y2.list b (addX X e), A.S q, ⟨add_wf HWF.out HOK.out, ?_, Y2, ?_, HP2.2, fun q => Iff.rfl⟩, ?_, fun q hq => ?_⟩
            · simp [results, Tryz.results36, go_sem, d4]
            · rw [addX_eq HOK.out]; intro h0; have := congrArg List.length h0; simp at this; exact HOK.out.ne this
            · exact HP2.1.mdh hm4 (fun A hA q hq h => by have := hnD q (hfoot q ⟨A, hA, hq⟩); omega)
            · have m1 : Mdh S w w8 := (HGW6.out.mdh S).trans (HT8.out.mono (fun q hq => hq.elim (fun h => (HL.out.2.2.1 q).2 ⟨_, HL.out.2.2.2.2.2.2.1, h⟩) (fun h => by rw [h]; exact (HL.out.2.2.1 g).2 ⟨rowA 85 1 Y.sv X.slots.length (Y.SL.map slV), by simp [Lay.list, Lay.hd], by rw [HSV.out]; rfl⟩)))
              have m2 : Mdh S w wa3 := ((m1.gr HG9.out).gr (Gr.of_drew HG2'.out)).trans (HM3.out.2.2.mono (fun q hq => (HL.out.2.2.1 q).2 ⟨omA Y.bm Y.v Y.KL, by simp [Lay.list, Lay.hd], hq⟩))
              exact m2.then hm4 (fun q hq => .inr (by rcases hq with h | h <;> omega))
            · exact (hfoot q hq).imp (fun h => h) (fun h => Nat.le_trans HGW6.out.sz h)
end Go.Proofs.YtemjnppplmankaaGreat
