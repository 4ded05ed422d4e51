/- Dropping a slot. -/
import Derived.Test.YtndknnhgdlgbgaaBd8
import Derived.Test.YtndknnhgdlgbgaaBd9
import Derived.Test.YtndknnhgdlgbgaaBd3
set_option linter.unusedVariables false
set_option linter.unusedSimpArgs false
namespace Go.Proofs.Ytndknnhgdlgbgaa
open Go.RowKit Go.Shelf
attribute [local go_sem] OvM cell_ovm obj_ovm
attribute [local go_sem] Oper.semAt_some

set_option maxRecDepth 40000 in
set_option maxHeartbeats 8000000 in
theorem Drop_any {w : World} {b : Nat} {X : IX} {S : Nat → Prop} (h : IXR w b X S) (s : Int) : Calls Try.prog 43 #[.pointer (some ⟨b, 0, none⟩), .int .i64 s] w fun e w' => e = .returned (.tuple #[.int .i64 (X.slot s).length, .int .i64 (dropC X s)]) ∧ IXPost b (dropX X s) S w w' := by
  have HI := Lib.hid h
  have HSL := Lib.hid h.lt
  refine calls_of_wp_marks Try.func43 rfl ?_
  simp only [Try.ntmps43, List.size_toArray, List.length_cons, List.length_nil, Nat.reduceAdd, Nat.reduceSub, Array.replicate_succ, Array.replicate_zero, List.push_toArray, List.append_toArray, List.nil_append, List.cons_append]
  cases hs : X.has s with
  | false =>
    have HS := Lib.hid hs
    have HE := Lib.hid (slot_out hs)
    clear hs h
    go_wp2_with (first
      | (go_at_call 78; refine (made_yes (HI.out.gr ((Gr.refl _).alloc _))).mono ?_; rintro e w1 ⟨rfl, rfl⟩)
      | (go_at_call 84; refine (has_yes (HI.out.gr ((Gr.refl _).alloc _)) s).mono ?_; rintro e w1 ⟨rfl, rfl⟩; rw [HS.out]))
    refine retM0 (v := .tuple #[.int .i64 0, .int .i64 3]) ?_ rfl ⟨by rw [HE.out]; simp [dropC, HS.out], S, by rw [drop_no HS.out]; exact HI.out.gr ((Gr.refl _).alloc _), ((Gr.refl _).alloc _).mdh _, fun k hk => .inl hk⟩
    simp [results, Try.results43, go_sem]
  | true =>
    have HS := Lib.hid hs
    obtain ⟨h1, h2, Y, h3, h4, h5⟩ := h
    obtain ⟨i, sl, g, cap, rfl, hlt, hsl, hsx, hsv, c1, c2, hc, ho, hm⟩ := Lay.slotE h3 h4 hs
    have hb := Lay.blk h3
    rw [hsv] at hb
    obtain ⟨b2, hb2⟩ : ∃ q, q = w.heap.size := ⟨_, rfl⟩
    have HB0 := Lib.hid hb2
    have HF := Lib.hid (show _ from And.intro h1 (And.intro h3 (And.intro h4 h5)))
    have HY := Lib.hid (And.intro hlt (And.intro hsl (And.intro hsx (And.intro hsv (And.intro c1 (And.intro c2 (And.intro hc (And.intro ho (And.intro hm hb)))))))))
    clear hs h1 h2 h3 h4 h5 hlt hsl hsx hsv c1 c2 hc ho hm hb hb2
    go_wp2_with (first
      | (go_at_call 78; refine (made_yes (HI.out.gr ((Gr.refl _).alloc _))).mono ?_; rintro e w1 ⟨rfl, rfl⟩)
      | (go_at_call 84; refine (has_yes (HI.out.gr ((Gr.refl _).alloc _)) i).mono ?_; rintro e w1 ⟨rfl, rfl⟩; rw [HS.out]))
    refine (Slot_any _ _ _).mono ?_
    rintro e w1 ⟨bb, bs, rfl, k1, k2, l1, l2, hg⟩
    have HG1 := Lib.hid (((Gr.refl w).alloc (.cells #[.pointer (some ⟨b, 0, none⟩)] 32)).trans hg)
    have HB2 : Hid (w1.heap[b2]? = some (.cells #[.pointer (some ⟨b, 0, none⟩)] 32)) := Lib.hid (by rw [HB0.out]; exact hg.blk (blkNew w _))
    have HBB : Hid (w.heap.size < bb ∧ w.heap.size < bs ∧ b2 = w.heap.size ∧ bb < w1.heap.size ∧ bs < w1.heap.size) := Lib.hid (by
      rw [World.size_alloc] at l1 l2
      exact ⟨by omega, by omega, HB0.out, World.block_lt_of_cell? w1 _ k1, World.block_lt_of_cell? w1 _ k2⟩)
    obtain ⟨A, hA⟩ : ∃ A : Nat → Prop, A = fun q => q = bb ∨ q = bs ∨ q = b2 ∨ q = b ∨ q = g ∨ ∃ B ∈ slotRows Y.SL X.slots, B.S q := ⟨_, rfl⟩
    have HA := Lib.hid hA
    have hAlt : ∀ q, A q → q < w1.heap.size := fun q hq => by
      rw [hA] at hq
      have hz := HG1.out.sz
      obtain ⟨m1, m2, m3, m4, m5⟩ := HBB.out
      have mb := blkLt HB2.out
      rcases hq with rfl | rfl | rfl | rfl | rfl | ⟨B, hB, hq⟩
      · exact m4
      · exact m5
      · exact mb
      · have := blkLt HY.out.2.2.2.2.2.2.2.2.2; omega
      · have := World.block_lt_of_cell? w _ HY.out.2.2.2.2.2.2.1; simp only at this; omega
      · have := HF.out.2.1.lt (List.mem_append_right _ (List.mem_append_right _ hB)) q hq; omega
    have HSEQ := Lib.hid (SeqSlotA (A := A) (HG1.out.blk HY.out.2.2.2.2.2.2.2.2.2) HY.out.1 HY.out.2.2.2.2.1 HY.out.2.2.2.2.2.1 (HG1.out.keep HY.out.2.2.2.2.2.2.1) (HY.out.2.2.2.2.2.2.2.1.gr HG1.out) (by have := HF.out.1.slot_le i; omega)
      (by rw [hA]; exact .inr (.inr (.inr (.inl rfl)))) (by rw [hA]; exact .inr (.inr (.inr (.inr (.inl rfl))))) (fun q hq => by rw [hA]; exact .inr (.inr (.inr (.inr (.inr ⟨_, List.mem_of_getElem? (zip_at enA HY.out.2.1 HY.out.2.2.1), hq⟩))))) bb bs (by rw [hA]; exact .inl rfl) (by rw [hA]; exact .inr (.inl rfl)) k1 k2)
    have HAL := Lib.hid hAlt
    have HI0 : Hid (DrI w1 b X Y A S [] Y.v Y.KL (fun _ => False) w1) := Lib.hid ⟨HF.out.2.1.gr HG1.out, HF.out.2.2.1, fun k _ h => h, fun k hk ha => by
      have hd := Lay.om_disj HF.out.2.1 k hk
      have hkl : k < w.heap.size := HF.out.2.1.lt (A := omA Y.bm Y.v Y.KL) (by simp [Lay.list, Lay.hd]) k hk
      obtain ⟨m1, m2, m3, m4, m5⟩ := HBB.out
      rw [hA] at ha
      rcases ha with rfl | rfl | rfl | rfl | rfl | ⟨B, hB, hq⟩
      · omega
      · omega
      · omega
      · exact hd _ (List.mem_cons_self ..) rfl
      · exact hd (rowA 141 1 Y.sv X.slots.length (Y.SL.map slV)) (by simp) (by show Y.sv.ownBlock = _; rw [HY.out.2.2.2.1]; rfl)
      · exact hd B (by simp [hB]) hq, fun k hk => .inl ((HF.out.2.2.2 k).2 hk), Frm.refl _ _⟩
    have HAB : Hid (A bb ∧ A bs ∧ A b2 ∧ A b ∧ A g) := Lib.hid (by rw [hA]; exact ⟨.inl rfl, .inr (.inl rfl), .inr (.inr (.inl rfl)), .inr (.inr (.inr (.inl rfl))), .inr (.inr (.inr (.inr (.inl rfl))))⟩)
    rw [← HB0.out]
    clear k1 k2 l1 l2 hg hA hAlt
    go_wp2_with fail
    apply wp_rangeFunc_zx (gf := 106) (lb := #[.pointer (some ⟨bb, 0, none⟩), .pointer (some ⟨bs, 0, none⟩)]) rfl (enters_of Try.func106 (by kernel_rfl) rfl) HSEQ.out (Mdh.refl _ w1) HAL.out (fun _ => rfl)
      (fun Z pre X' => ∃ v KL, DrI w1 b X Y A S pre v KL Z X')
      (fun _ _ _ => False) (fun _ _ _ => False)
      DrI.apart apart_no apart_no
      ⟨_, _, HI0.out⟩ (fun Z pre X' ⟨v, KL, h⟩ => ⟨_, h.m⟩) (fun x => .cells #[.int .i64 x.seq, .string x.key, .bool x.del, .int .i64 x.slot, .int .i64 x.off, .int .i64 x.size] 43)
      _ ?assign ?body ?hend ?hret
    case hret => intro _ _ _ _ _ _ _ h; exact h.elim
    case assign =>
      intro l x bx X' K hbx hK
      dsimp only [encE, enV]
      gi_wp2
      rw [← hbx]
      exact hK
    case body =>
      intro l Z pre x bx X' hI hbx hx hzx hzl hlr hsp
      obtain ⟨v, KL, hI⟩ := hI
      have HDI := Lib.hid hI
      have HX := Lib.hid hx
      have HNX := Lib.hid (And.intro hbx hzx)
      have HSN := Lib.hid (dropK_snoc X pre x)
      have HBP : Hid (X'.heap[b2]? = some (.cells #[.pointer (some ⟨b, 0, none⟩)] 32) ∧ X'.heap[b]? = some (.cells #[.pointer (some ⟨Y.bm, 0, none⟩), .slice (some ⟨g, 0, none⟩) X.slots.length cap] 146)) := Lib.hid ⟨hI.m.m.blk HB2.out (fun h => h.2 HAB.out.2.2.1), hI.m.m.blk (HG1.out.blk HY.out.2.2.2.2.2.2.2.2.2) (fun h => h.2 HAB.out.2.2.2.1)⟩
      have hKL : KL.length ≤ 16384 := by
        have e1 := congrArg List.length hI.f.k
        simp only [List.length_map] at e1
        have e2 := dropK_le HF.out.1.mid pre
        have e3 := HF.out.1.keys_le
        have e4 : KL.length = (dropK X pre).keys.length := e1
        omega
      have HKL := Lib.hid hKL
      have HOF := Lib.hid (Lay.ofE hI.s hI.f x.key)
      have hol : ((dropK X pre).of x.key).length ≤ 16384 := by
        rw [dropK_of pre HF.out.1.mid]
        have := List.length_filter_le (fun o => decide (o ∉ pre)) (X.of x.key)
        have := HF.out.1.of_le x.key
        omega
      have HOL := Lib.hid hol
      obtain ⟨sk, hsk, _, _, hbk⟩ := HOF.out
      have hom : Hid (VWsl X' (some ⟨Y.bm, 0, none⟩) v KL) := Lib.hid (.inl ⟨_, rfl, Lay.om hI.s⟩)
      have d2 := (cellsOf HBP.out.1).1
      have db := (cellsOf HBP.out.2).1
      have dx := (cellsOf HX.out).1
      obtain ⟨b', hb'⟩ : ∃ q : Bool, q = hasBsl KL x.key := ⟨_, rfl⟩
      have HGK : Hid (Calls Try.prog 79 #[.pointer (some ⟨Y.bm, 0, none⟩), .string x.key] X'.drew fun e w' => e = .returned (.tuple #[slV sk, .bool b']) ∧ Gr X'.drew w') := Lib.hid (by
        have := Getsl (some ⟨Y.bm, 0, none⟩) v KL x.key X'.drew (hom.out.gr (Gr.refl _).drew) (by have := HKL.out; omega)
        rw [hsk, ← hb'] at this
        exact this)
      have HSK := Lib.hid (show Own X' 43 6 (slV sk) _ _ from by assumption)
      obtain ⟨s1, s2, s3⟩ := sk
      simp only [slV] at *
      clear hI hbx hx hzx hzl hlr hsp hKL hol hsk hbk hb'
      gi_wp2_with fail
      refine wpIn_region_flo (fun _ => trivial) rfl (fun _ => False) [] [] (by kernel_rfl) (by kernel_rfl) (fun _ h => h.elim) ?_
      refine flo_seg 6 rfl ?_
      simp only [List.take_succ_cons, List.take_zero, List.drop_succ_cons, List.drop_zero]
      repeat (go_big_quiet_step (fail))
      refine wpQuiet_nil ?_
      refine flo_eff rfl rfl rfl rfl (fun K hK => ?_)
      gi_wp2_with ((refine ⟨trivial, ?_⟩; gi_at_call 79; refine (CallsIn.inRound l (callsIn_wide.2 HGK.out)).mono ?_; rintro e w3 ⟨rfl, hg3⟩; have HGD := Lib.hid hg3; have HG3 := Lib.hid (((Gr.refl _).drew).trans hg3); clear hg3))
      refine ⟨by first | exact HGD.out.mdh _ | exact HG3.out.mdh _, ?_⟩
      refine flo_seg 5 rfl ?_
      simp only [List.take_succ_cons, List.take_zero, List.drop_succ_cons, List.drop_zero]
      repeat (go_big_quiet_step (fail))
      refine wpQuiet_nil ?_
      refine flo_nil ?_
      clear d2 db dx
      gi_wp2_with fail
      refine ⟨trivial, (CallsIn.inRound l (callsIn_wide.2 (CloneE ((dropK X pre).of x.key) (by have := HOL.out; omega) (s1, s2, s3) w3 (HSK.out.gr HG3.out)))).mono ?_⟩
      rintro e w4 ⟨⟨q1, q2, q3⟩, rfl, ho4, hn4, hg4⟩
      simp only [slV] at ho4 hn4
      have HO4 := Lib.hid ho4
      have HN4 := Lib.hid hn4
      have HG4 := Lib.hid (HG3.out.trans hg4)
      have HSZ := Lib.hid HG3.out.sz
      clear ho4 hn4 hg4
      simp only [slV]
      gi_wp2_with fail
      refine ⟨trivial, (CallsIn.inRound l (callsIn_wide.2 (DeleteFL ((dropK X pre).of x.key) (by have := HOL.out; omega) (q1, q2, q3) w4 HO4.out (DropP x bx w4 _ (fun hk => by have := HN4.out bx hk; have := HSZ.out; have := blkLt HX.out; omega) (HG4.out.blk HX.out))))).mono ?_⟩
      rintro e w5 ⟨⟨r1, r2, r3⟩, rfl, ho5, hn5, hm5⟩
      simp only [slV] at ho5 hn5
      rw [show ((dropK X pre).of x.key).filter (fun y => !decide (y = x)) = leftE (dropK X pre) x from rfl] at ho5
      have hr2 := own_slV (s := (r1, r2, r3)) ho5
      simp only at hr2
      have HR2 := Lib.hid hr2
      have HO5 := Lib.hid ho5
      have HG5 : Hid (Gr X' w5) := Lib.hid (HG4.out.md hm5 (fun k hk => by have := HN4.out k hk; have := HSZ.out; omega))
      have HN5 : Hid (∀ k, (Value.slice r1 r2 r3).ownBlock = some k → X'.heap.size ≤ k) := Lib.hid (fun k hk => by have := HN4.out k (hn5 k hk); have := HSZ.out; omega)
      clear ho5 hn5 hm5 hr2
      have HBP5 := Lib.hid (And.intro (HG5.out.blk HBP.out.1) (HG5.out.blk HBP.out.2))
      have HX5 := Lib.hid (HG5.out.blk HX.out)
      have d2 := (cellsOf HBP5.out.1).1
      have db := (cellsOf HBP5.out.2).1
      have dx := (cellsOf HX5.out).1
      have HS5 := Lib.hid (HDI.out.s.gr HG5.out)
      have HOML : Hid (∀ k, (k = Y.bm ∨ v.ownBlock = some k) → k < w5.heap.size) := Lib.hid (fun k hk => HS5.out.lt (A := omA Y.bm v KL) (by simp [Lay.list, Lay.hd]) k hk)
      have HNO : Hid ((¬ b2 = Y.bm ∧ ¬ v.ownBlock = some b2) ∧ (¬ b = Y.bm ∧ ¬ v.ownBlock = some b) ∧ (¬ bx = Y.bm ∧ ¬ v.ownBlock = some bx)) := Lib.hid (by
        have hA2 : ∀ k, A k → ¬ k = Y.bm ∧ ¬ v.ownBlock = some k := fun k hk => ⟨fun e => HDI.out.d k (.inl e) hk, fun e => HDI.out.d k (.inr e) hk⟩
        refine ⟨hA2 _ HAB.out.2.2.1, hA2 _ HAB.out.2.2.2.1, fun e => ?_, fun e => ?_⟩
        · have h1 := (Lay.om HS5.out).blk
          rw [← show bx = _ from e, HX5.out] at h1
          injection h1 with h1
          injection h1 with _ h1
          exact absurd h1 (by decide)
        · have h1 := (Lay.om HS5.out).own
          rcases h1.2 with ⟨hv, _⟩ | ⟨g', cap', cur', hv, _, hg', _⟩
          · rw [show v = _ from hv] at e; cases e
          · rw [show v = _ from hv] at e
            have e1 : g' = bx := Option.some.inj e
            rw [e1, HX5.out] at hg'
            injection hg' with h1
            injection h1 with _ h1
            exact absurd h1 (by decide))
      obtain ⟨⟨m1, m2⟩, ⟨m3, m4⟩, m5, m6⟩ := HNO.out
      simp only [slV]
      by_cases h0 : r2 = 0
      · have HL0 : Hid (leftE (dropK X pre) x = []) := Lib.hid (List.eq_nil_of_length_eq_zero (by rw [← HR2.out, h0]))
        subst h0
        have HDL : Hid (Calls Try.prog 113 #[.pointer (some ⟨Y.bm, 0, none⟩), .string x.key] w5.drew fun e w' => (∃ u, e = .returned u) ∧ OMPostsl Y.bm v (delL ltS KL x.key) w5.drew w') := Lib.hid ((DeleteOsl Y.bm v KL x.key w5.drew ((Lay.om HS5.out).gr (Gr.refl _).drew) (by have := HKL.out; omega)).mono (fun e w' h => ⟨⟨_, h.1⟩, h.2⟩))
        gi_wp2_with fail
        refine wpIn_region_flo (fun _ => trivial) rfl (fun k => k = Y.bm ∨ v.ownBlock = some k) [] [] (by kernel_rfl) (by kernel_rfl) (HOML.out) ?_
        refine flo_seg 6 rfl ?_
        simp only [List.take_succ_cons, List.take_zero, List.drop_succ_cons, List.drop_zero]
        repeat (go_big_quiet_step (fail))
        refine wpQuiet_nil ?_
        refine flo_eff rfl rfl rfl rfl (fun K hK => ?_)
        gi_wp2_with ((refine ⟨trivial, ?_⟩; gi_at_call 113; refine (CallsIn.inRound l (callsIn_wide.2 HDL.out)).mono ?_; rintro e w6 ⟨⟨u, rfl⟩, v', hm6, ho6, hd6⟩; have HM6 := Lib.hid hm6; have HO6 := Lib.hid ho6; have HD6 := Lib.hid hd6; clear hm6 ho6 hd6))
        refine ⟨by exact HD6.out.mono (fun k hk => .inl hk), ?_⟩
        refine flo_nil ?_
        gi_wp2_with fail
        have e1 : dropK X (pre ++ [x]) = ⟨(dropK X pre).slots, delL ltS (dropK X pre).keys x.key⟩ := HSN.out.trans (remE_del HL0.out)
        have m56 : Mdh (fun q => q = Y.bm ∨ v.ownBlock = some q) w5 w6 := ((Gr.refl w5).drew.mdh _).trans HD6.out
        have hdk := Lay.delKey HS5.out HDI.out.f x.key HM6.out HO6.out m56
        rw [← e1] at hdk
        have hnx := HDI.out.next ((HG5.out.mdh _).trans m56) hdk.1 hdk.2.1 (fun q hq => (hdk.2.2 q hq).imp (fun h => h) (fun h => Nat.le_trans HG5.out.sz h)) (fun q hq => (HO6.out q hq).imp (fun h => h) (fun h => Nat.le_trans HG5.out.sz h)) HAL.out
        exact ⟨hnx.2, _, _, hnx.1⟩
      · have HL0 : Hid (leftE (dropK X pre) x ≠ []) := Lib.hid (fun h => h0 (by rw [HR2.out, h]; rfl))
        have hb0 : ((r2 : Int) == 0) = false := beq_false_of_ne (by omega)
        have HST : Hid (Calls Try.prog 92 #[.pointer (some ⟨Y.bm, 0, none⟩), .string x.key, .slice r1 r2 r3] w5.drew fun e w' => (∃ u, e = .returned u) ∧ OMPostsl Y.bm v (putL ltS KL x.key (r1, r2, r3)) w5.drew w') := Lib.hid ((Setsl Y.bm v KL x.key (r1, r2, r3) w5.drew ((Lay.om HS5.out).gr (Gr.refl _).drew) (by have := HKL.out; omega)).mono (fun e w' h => ⟨⟨_, h.1⟩, h.2⟩))
        gi_wp2_with fail
        refine wpIn_region_flo (fun _ => trivial) rfl (fun k => k = Y.bm ∨ v.ownBlock = some k) [] [] (by kernel_rfl) (by kernel_rfl) (HOML.out) ?_
        refine flo_seg 7 rfl ?_
        simp only [List.take_succ_cons, List.take_zero, List.drop_succ_cons, List.drop_zero]
        repeat (go_big_quiet_step (fail))
        refine wpQuiet_nil ?_
        refine flo_eff rfl rfl rfl rfl (fun K hK => ?_)
        gi_wp2_with ((refine ⟨trivial, ?_⟩; gi_at_call 92; refine (CallsIn.inRound l (callsIn_wide.2 HST.out)).mono ?_; rintro e w6 ⟨⟨u, rfl⟩, v', hm6, ho6, hd6⟩; have HM6 := Lib.hid hm6; have HO6 := Lib.hid ho6; have HD6 := Lib.hid hd6; clear hm6 ho6 hd6))
        refine ⟨by exact HD6.out.mono (fun k hk => .inl hk), ?_⟩
        refine flo_nil ?_
        gi_wp2_with fail
        have e1 : dropK X (pre ++ [x]) = ⟨(dropK X pre).slots, putL ltS (dropK X pre).keys x.key (leftE (dropK X pre) x)⟩ := HSN.out.trans (remE_put HL0.out)
        have m56 : Mdh (fun q => q = Y.bm ∨ v.ownBlock = some q) w5 w6 := ((Gr.refl w5).drew.mdh _).trans HD6.out
        have hdk := Lay.putKey HDI.out.s HDI.out.f HG5.out x.key (s' := (r1, r2, r3)) HO5.out HN5.out HM6.out HO6.out m56
        rw [← e1] at hdk
        have hnx := HDI.out.next ((HG5.out.mdh _).trans m56) hdk.1 hdk.2.1 hdk.2.2 (fun q hq => (HO6.out q hq).imp (fun h => h) (fun h => Nat.le_trans HG5.out.sz h)) HAL.out
        exact ⟨hnx.2, _, _, hnx.1⟩
    case hend =>
      intro Z D xs W hD hZD hcase hdef
      obtain ⟨hxs, v, KL, hI⟩ := hcase.elim (fun h => h) (fun h => h.2.elim)
      have hxs' : xs = X.slot i := hxs
      subst hxs'
      have HDI := Lib.hid hI
      have HD := Lib.hid (And.intro hD (And.intro hZD hdef))
      have hAk : ∀ k, A k → ¬ (S k ∧ ¬ A k) := fun k hk h => h.2 hk
      have HBP : Hid (W.heap[b2]? = some (.cells #[.pointer (some ⟨b, 0, none⟩)] 32) ∧ W.heap[b]? = some (.cells #[.pointer (some ⟨Y.bm, 0, none⟩), .slice (some ⟨g, 0, none⟩) X.slots.length cap] 146)) := Lib.hid ⟨hI.m.m.blk HB2.out (hAk _ HAB.out.2.2.1), hI.m.m.blk (HG1.out.blk HY.out.2.2.2.2.2.2.2.2.2) (hAk _ HAB.out.2.2.2.1)⟩
      have d2 := (cellsOf HBP.out.1).1
      have db := (cellsOf HBP.out.2).1
      have dg : W.cell? ⟨g, i, none⟩ = some (slV sl) := hI.m.m.keep (HG1.out.keep HY.out.2.2.2.2.2.2.1) (hAk _ HAB.out.2.2.2.2)
      have HSR := Lib.hid (Lay.srow hI.s)
      have hgr := HSR.out
      rw [show ({ Y with v := v, KL := KL } : Lay).sv = Y.sv from rfl, HY.out.2.2.2.1, show (dropK X (X.slot i)).slots = X.slots from dropK_slots _ _] at hgr
      have HGR := Lib.hid hgr
      obtain ⟨cur, hg0, _, _, _, _⟩ := hgr.parts
      have fg := (cellsOf hg0).2
      have hlt : (i : Int) < X.slots.length := by have := HY.out.1; omega
      have hs2 := own_slV HY.out.2.2.2.2.2.2.2.1
      have hmx : cap ≤ 9223372036854775807 := HY.out.2.2.2.2.2.1
      have hlc := HY.out.2.2.2.2.1
      obtain ⟨s1, s2, s3⟩ := sl
      simp only [slV] at *
      clear hI hxs hcase hD hZD hdef hg0 hgr hAk
      go_wp2_with fail
      have hbs : (X.slot i).length = (X.slot i).length := rfl
      obtain ⟨hd1, hd2, hd3⟩ := HD.out
      have hsl : Y.SL.length = X.slots.length := HF.out.2.2.1.s
      have hnD : D ≠ g := fun e => by have := HAL.out g HAB.out.2.2.2.2; omega
      have hdk := Lay.setSlot (w' := W.setCell ⟨g, i, none⟩ (.slice none 0 0)) (Y := { Y with v := v, KL := KL }) (i := i) (sl := (s1, s2, s3)) (l := X.slot i) (sl' := (none, 0, 0)) (l' := []) HDI.out.s HDI.out.f HY.out.2.1 (by rw [dropK_slots]; exact HY.out.2.2.1) (T := fun k => k = g) ((Mdh.refl (fun k => k = g) W).setCell (p := ⟨g, i, none⟩) rfl _)
        (fun k hk => .inr (.inl (by show Y.sv.ownBlock = _; rw [HY.out.2.2.2.1, hk]; rfl))) (nilRow _ _ _) (fun k hk => by cases hk)
        (by
          rw [dropK_slots, List.map_set]
          show Own _ _ _ Y.sv _ _
          rw [HY.out.2.2.2.1]
          exact HGR.out.set (by rw [List.length_map]; show i < Y.SL.length; rw [hsl]; exact HY.out.1) _)
      have e1 : dropX X i = ⟨(dropK X (X.slot i)).slots.set i [], (dropK X (X.slot i)).keys⟩ := by rw [drop_yes HS.out, dropK_slots, Int.toNat_natCast]
      rw [← e1] at hdk
      have hD : (W.setCell ⟨g, i, none⟩ (.slice none 0 0)).heap[D]? = some (.deferred (some [])) := blkSetO hd3 hnD
      have hDW := blkLt hd3
      have hFm := HDI.out.m.m
      refine retM1 (D := D) (v := .tuple #[.int .i64 (X.slot i).length, .int .i64 0]) rfl hD ?_ ⟨by unfold dropC; rw [if_pos HS.out], fun k => ∃ B ∈ ({ Y with v := v, KL := KL, SL := Y.SL.set i (none, 0, 0) } : Lay).list b (dropX X i), B.S k, ⟨drop_wf HF.out.1 _, ?_, ?_⟩, ?_, ?_⟩
      · simp [results, Try.results43, go_sem]
      · rw [e1]
        intro h0
        have := congrArg List.length h0
        simp only [List.length_set, dropK_slots, List.length_nil] at this
        have := HY.out.1
        omega
      · refine ⟨_, hdk.1.mdh (T := fun k => k = D) ((Mdh.refl (fun k => k = D) _).putObj rfl _) (fun B hB k hk hkD => ?_), hdk.2.1, fun k => Iff.rfl⟩
        rcases hdk.2.2 k ⟨B, hB, hk⟩ with h1 | h1
        · exact HDI.out.z k h1 (hkD ▸ hd2)
        · omega
      · have m1 : Mdh S w w1 := HG1.out.mdh _
        have m2 := m1.trans (hFm.mono (fun k hk => hk.1))
        have hSg : S g := (HF.out.2.2.2 g).2 ⟨rowA 141 1 Y.sv X.slots.length (Y.SL.map slV), by simp [Lay.list, Lay.hd], by show Y.sv.ownBlock = _; rw [HY.out.2.2.2.1]; rfl⟩
        have m3 := m2.setCell (p := ⟨g, i, none⟩) hSg (.slice none 0 0)
        exact m3.then ((Mdh.refl (fun k => k = D) _).putObj rfl _) (fun k hk => .inr (by have := HG1.out.sz; omega))
      · intro k hk
        have hz := HG1.out.sz
        have hz2 := hFm.size
        rcases hdk.2.2 k hk with h1 | h1
        · exact (HDI.out.n k h1).imp (fun h => h) (fun h => by omega)
        · exact .inr (by omega)
end Go.Proofs.Ytndknnhgdlgbgaa

/- What a builder of chapters 21, 23, 24, 28 keeps: an index filled by moves. No walk. -/
set_option linter.unusedVariables false
set_option linter.unusedSimpArgs false
namespace Go.Proofs.Ytndknnhgdlgbgaa

/-- An index behind moves: its entries in the order in which they were added, where each slot ends, the next number, how many moves. -/
structure FI (X : IX) (all : List En) (en : Int → Int) (nx j n : Int) : Prop where
  wf : X.Wf
  ln : (X.slots.length : Int) = n
  n0 : 1 ≤ n
  pm : all.Perm X.ents
  en0 : ∀ s, 0 ≤ en s ∧ en s ≤ 68 * j
  up : ∀ e ∈ all, e.off + e.size ≤ en e.slot
  j0 : 0 ≤ j
  nx0 : 1 ≤ nx
  nx1 : nx ≤ j + 1
  sq : ∀ e ∈ all, e.seq < nx
  cp : ∀ a ∈ all, ∀ b ∈ all, a.seq = b.seq → a.key = b.key ∧ a.del = b.del ∧ a.size = b.size
  sm : ∀ e ∈ all, e.size ≤ 68 ∧ e.key.size ≤ 3 ∧ Low e.key
def upd (en : Int → Int) (s v : Int) : Int → Int := fun t => if t = s then v else en t
theorem upd_same (en : Int → Int) (s v : Int) : upd en s v s = v := if_pos rfl
theorem upd_other (en : Int → Int) {s t : Int} (v : Int) (h : t ≠ s) : upd en s v t = en t := if_neg h
section
variable {X : IX} {all : List En} {en : Int → Int} {nx j n : Int}
theorem clash_end {l : List En} {e : En} (h : ∀ o ∈ l, o.off + o.size ≤ e.off) (hp : ∀ o ∈ l, 0 < o.size) : clash l e = false := by
  have hc : cnt (offP e.off) l = l.length := by
    refine (cnt_uniq (offP e.off) l l.length (Nat.le_refl _) (fun i x _ hx => ?_) (fun i x hi hx => ?_)).symm
    · have hm := List.mem_of_getElem? hx
      have := h x hm
      have := hp x hm
      unfold offP
      exact decide_eq_true (by omega)
    · have := (List.getElem?_eq_some_iff.1 hx).1; omega
  unfold clash
  rw [hc, List.getElem?_eq_none (Nat.le_refl _)]
  simp only [Bool.false_or]
  cases hl : l[l.length - 1]? with
  | none => simp
  | some o =>
    have := h o (List.mem_of_getElem? hl)
    simp only [Bool.and_eq_false_iff]
    exact .inr (decide_eq_false (by omega))
theorem FI.mem (h : FI X all en nx j n) (e : En) : e ∈ all ↔ e ∈ X.ents := h.pm.mem_iff
theorem FI.slot (h : FI X all en nx j n) (s : Int) (e : En) : e ∈ X.slot s ↔ e ∈ all ∧ e.slot = s := by rw [h.mem]; exact h.wf.slot_mem s e
theorem FI.of (h : FI X all en nx j n) (k : ByteArray) (e : En) : e ∈ X.of k ↔ e ∈ all ∧ e.key = k := by rw [h.mem]; exact h.wf.of_mem k e
theorem FI.ne (h : FI X all en nx j n) : X.slots ≠ [] := fun h0 => by have := h.ln; have := h.n0; rw [h0] at *; simp at *; omega
theorem FI.has (h : FI X all en nx j n) {s : Int} (h0 : 0 ≤ s) (h1 : s < n) : X.has s = true := by
  unfold IX.has
  exact decide_eq_true ⟨h0, by have := h.ln; omega⟩
theorem FI.clash (h : FI X all en nx j n) {e : En} (ho : e.off = en e.slot) : clash (X.slot e.slot) e = false := by
  refine clash_end (fun o hm => ?_) (fun o hm => ?_)
  · obtain ⟨h1, h2⟩ := (h.slot _ o).1 hm
    have := h.up o h1
    rw [h2] at this
    omega
  · obtain ⟨h1, h2⟩ := (h.slot _ o).1 hm
    have := (valid_iff o).1 (h.wf.valid ((h.mem o).1 h1)).1
    omega
theorem FI.later (h : FI X all en nx j n) {j' : Int} (hj : j ≤ j') : FI X all en nx j' n :=
  ⟨h.wf, h.ln, h.n0, h.pm, fun s => ⟨(h.en0 s).1, by have := (h.en0 s).2; omega⟩, h.up, by have := h.j0; omega, h.nx0, by have := h.nx1; omega, h.sq, h.cp, h.sm⟩
/-- An entry that goes behind those of its slot. -/
theorem FI.push (h : FI X all en nx j n) {e : En} {nx' : Int} (a : AddOk X e) (ho : e.off = en e.slot) (hs : e.size ≤ 68 ∧ e.key.size ≤ 3 ∧ Low e.key) (h1 : nx ≤ nx') (h2 : nx' ≤ j + 2) (h3 : e.seq < nx')
    (hc : ∀ o ∈ all, o.seq = e.seq → o.key = e.key ∧ o.del = e.del ∧ o.size = e.size) : FI (addX X e) (all ++ [e]) (upd en e.slot (e.off + e.size)) nx' (j + 1) n := by
  have hv := (valid_iff e).1 a.valid
  have he := h.en0 e.slot
  have hle : ∀ s, en s ≤ upd en e.slot (e.off + e.size) s := fun s => by
    unfold upd
    split
    · rename_i h0; subst h0; omega
    · exact Int.le_refl _
  refine ⟨add_wf h.wf a, ?_, h.n0, ?_, fun s => ?_, fun o hm => ?_, by have := h.j0; omega, by have := h.nx0; omega, by omega, fun o hm => ?_, fun x hx y hy hq => ?_, fun o hm => ?_⟩
  · rw [addX_eq a]; simp only [List.length_set]; exact h.ln
  · exact (List.perm_append_singleton e all).trans ((h.pm.cons e).trans (add_ents h.wf a).symm)
  · have := h.en0 s
    unfold upd
    split
    · omega
    · omega
  · rcases List.mem_append.1 hm with hm | hm
    · exact Int.le_trans (h.up o hm) (hle _)
    · rw [List.mem_singleton.1 hm, upd_same]
      exact Int.le_refl _
  · rcases List.mem_append.1 hm with hm | hm
    · have := h.sq o hm; omega
    · rw [List.mem_singleton.1 hm]; exact h3
  · rcases List.mem_append.1 hx with hx1 | hx1 <;> rcases List.mem_append.1 hy with hy1 | hy1
    · exact h.cp x hx1 y hy1 hq
    · obtain rfl := List.mem_singleton.1 hy1
      exact hc x hx1 hq
    · obtain rfl := List.mem_singleton.1 hx1
      obtain ⟨q1, q2, q3⟩ := hc y hy1 hq.symm
      exact ⟨q1.symm, q2.symm, q3.symm⟩
    · obtain rfl := List.mem_singleton.1 hx1
      obtain rfl := List.mem_singleton.1 hy1
      exact ⟨rfl, rfl, rfl⟩
  · rcases List.mem_append.1 hm with hm | hm
    · exact h.sm o hm
    · rw [List.mem_singleton.1 hm]; exact hs
/-- A new entry. -/
theorem FI.newOk (h : FI X all en nx j n) {e : En} (hj : j < 100) (hq : e.seq = nx) (h0 : 0 ≤ e.slot) (h1 : e.slot < n) (ho : e.off = en e.slot) (hk : keyChk e.key = 0) (hz : 16 + (e.key.size : Int) ≤ e.size) (hz2 : e.size = 16 + (e.key.size : Int) ∨ e.del = false) (hs : e.size ≤ 68) : AddOk X e := by
  have he := h.en0 e.slot
  have hx := h.nx0
  have hx1 := h.nx1
  refine ⟨h.ne, h.has h0 h1, (valid_iff e).2 ⟨hk, by omega, by omega, by omega, hz, hz2, by omega, by omega⟩, fun o hm => ?_, fun o hm => ?_, h.clash ho⟩
  · have := h.sq o ((h.of _ o).1 hm).1
    exact badE_no (fun hh => by omega)
  · have := h.sq o ((h.of _ o).1 hm).1
    unfold sameE
    exact decide_eq_false (fun hh => by omega)
theorem FI.new (h : FI X all en nx j n) {e : En} (hj : j < 100) (hq : e.seq = nx) (h0 : 0 ≤ e.slot) (h1 : e.slot < n) (ho : e.off = en e.slot) (hk : keyChk e.key = 0) (hz : 16 + (e.key.size : Int) ≤ e.size) (hz2 : e.size = 16 + (e.key.size : Int) ∨ e.del = false) (hs : e.size ≤ 68) (hkz : e.key.size ≤ 3) (hl : Low e.key) :
    addE X e = 0 ∧ FI (addX X e) (all ++ [e]) (upd en e.slot (e.off + e.size)) (nx + 1) (j + 1) n :=
  have a := h.newOk hj hq h0 h1 ho hk hz hz2 hs
  ⟨ok_add a, h.push a ho ⟨hs, hkz, hl⟩ (by omega) (by have := h.nx1; omega) (by omega) (fun o hm hh => by have := h.sq o hm; omega)⟩
/-- A copy: refused where the slot has one. -/
theorem FI.copyBad (h : FI X all en nx j n) {x e : En} (hx : x ∈ all) (he : e = { x with slot := e.slot, off := e.off }) : ∀ o ∈ X.of e.key, badE e o = false := by
  intro o hm
  obtain ⟨h1, h2⟩ := (h.of _ o).1 hm
  refine badE_no (fun hh => ?_)
  have e1 : e.seq = x.seq := by rw [he]
  have e3 : e.del = x.del := by rw [he]
  have e4 : e.size = x.size := by rw [he]
  obtain ⟨q1, q2, q3⟩ := h.cp o h1 x hx (by rw [hh, e1])
  exact En.ext' hh h2 (by rw [e3]; exact q2) rfl rfl (by rw [e4]; exact q3)
theorem FI.copyValid (h : FI X all en nx j n) {x e : En} (hj : j < 100) (hx : x ∈ all) (he : e = { x with slot := e.slot, off := e.off }) (ho : e.off = en e.slot) : validE e = true := by
  have hv := (valid_iff x).1 (h.wf.valid ((h.mem x).1 hx)).1
  have hs := h.sm x hx
  have he0 := h.en0 e.slot
  have e1 : e.seq = x.seq := by rw [he]
  have e2 : e.key = x.key := by rw [he]
  have e3 : e.del = x.del := by rw [he]
  have e4 : e.size = x.size := by rw [he]
  refine (valid_iff e).2 ⟨by rw [e2]; exact hv.1, by omega, by omega, by omega, by rw [e2]; omega, ?_, by omega, by omega⟩
  rw [e2, e3, e4]
  exact hv.2.2.2.2.2.1
theorem FI.copyNo (h : FI X all en nx j n) {x e : En} (hj : j < 100) (hx : x ∈ all) (he : e = { x with slot := e.slot, off := e.off }) (h0 : 0 ≤ e.slot) (h1 : e.slot < n) (ho : e.off = en e.slot) (hd : all.any (fun o => decide (o.slot = e.slot) && decide (o.seq = e.seq)) = true) :
    addE X e = 6 ∧ FI (addX X e) all en nx (j + 1) n := by
  have h6 : addE X e = 6 := by
    refine add_6 h.ne (h.has h0 h1) (h.copyValid hj hx he ho) (h.copyBad hx he) ?_
    rw [Bool.or_eq_true]
    refine .inl ?_
    obtain ⟨o, hm, hh⟩ := List.any_eq_true.1 hd
    simp only [Bool.and_eq_true, decide_eq_true_eq] at hh
    have e1 : e.seq = x.seq := by rw [he]
    have e2 : e.key = x.key := by rw [he]
    obtain ⟨q1, _, _⟩ := h.cp o hm x hx (by rw [hh.2, e1])
    exact List.any_eq_true.2 ⟨o, (h.of _ o).2 ⟨hm, by rw [q1, e2]⟩, decide_eq_true ⟨hh.2, hh.1⟩⟩
  refine ⟨h6, ?_⟩
  rw [addX_no (by rw [h6]; decide)]
  exact h.later (by omega)
theorem FI.copyYes (h : FI X all en nx j n) {x e : En} (hj : j < 100) (hx : x ∈ all) (he : e = { x with slot := e.slot, off := e.off }) (h0 : 0 ≤ e.slot) (h1 : e.slot < n) (ho : e.off = en e.slot) (hd : all.any (fun o => decide (o.slot = e.slot) && decide (o.seq = e.seq)) = false) :
    addE X e = 0 ∧ FI (addX X e) (all ++ [e]) (upd en e.slot (e.off + e.size)) nx (j + 1) n := by
  have e1 : e.seq = x.seq := by rw [he]
  have e2 : e.key = x.key := by rw [he]
  have e3 : e.del = x.del := by rw [he]
  have e4 : e.size = x.size := by rw [he]
  have a : AddOk X e := ⟨h.ne, h.has h0 h1, h.copyValid hj hx he ho, h.copyBad hx he, fun o hm => by
    have h2 := (h.of _ o).1 hm
    have h3 := List.any_eq_false.1 hd o h2.1
    unfold sameE
    refine decide_eq_false (fun hh => ?_)
    simp [hh.1, hh.2] at h3, h.clash ho⟩
  have hs := h.sm x hx
  refine ⟨ok_add a, h.push a ho (by rw [e4, e2]; exact hs) (Int.le_refl _) (by have := h.nx1; omega) (by rw [e1]; exact h.sq x hx) (fun o hm hh => ?_)⟩
  rw [e2, e3, e4]
  exact h.cp o hm x hx (by rw [hh, e1])
/-- A slot is emptied. -/
theorem FI.drop (h : FI X all en nx j n) {s : Int} (h0 : 0 ≤ s) (h1 : s < n) :
    dropC X s = 0 ∧ (X.slot s).length + (all.filter (fun o => !decide (o.slot = s))).length = all.length ∧ FI (dropX X s) (all.filter (fun o => !decide (o.slot = s))) (upd en s 0) nx (j + 1) n := by
  have hh := h.has h0 h1
  have hp := drop_ents h.wf hh
  have hw := drop_wf h.wf s
  have hne : ∀ o ∈ (dropX X s).ents, (!decide (o.slot = s)) = true := fun o ho => by
    simp only [Bool.not_eq_true', decide_eq_false_iff_not]
    intro e
    have h2 := (hw.slot_mem s o).2 ⟨ho, e⟩
    rw [drop_slot h.wf, if_pos rfl] at h2
    cases h2
  have hs : ∀ o ∈ X.slot s, ¬ (!decide (o.slot = s)) = true := fun o ho => by simp [((h.wf.slot_mem s o).1 ho).2]
  have hpm : (all.filter (fun o => !decide (o.slot = s))).Perm (dropX X s).ents := by
    have h2 := (h.pm.trans hp).filter (fun o => !decide (o.slot = s))
    rw [List.filter_append, List.filter_eq_nil_iff.2 hs, List.nil_append, List.filter_eq_self.2 hne] at h2
    exact h2
  refine ⟨if_pos hh, ?_, hw, ?_, h.n0, hpm, fun t => ?_, fun o ho => ?_, by have := h.j0; omega, h.nx0, by have := h.nx1; omega, fun o ho => h.sq o (List.mem_filter.1 ho).1, fun a ha b hb => h.cp a (List.mem_filter.1 ha).1 b (List.mem_filter.1 hb).1, fun o ho => h.sm o (List.mem_filter.1 ho).1⟩
  · have h2 := (h.pm.trans hp).length_eq
    have h3 := hpm.length_eq
    rw [List.length_append] at h2
    omega
  · rw [drop_yes hh]; simp only [List.length_set]; exact h.ln
  · have := h.en0 t
    have := h.j0
    unfold upd
    split <;> omega
  · obtain ⟨h2, h3⟩ := List.mem_filter.1 ho
    simp only [Bool.not_eq_true', decide_eq_false_iff_not] at h3
    rw [upd_other _ _ h3]
    exact h.up o h2
end
theorem FI.start (n : Nat) (h1 : 1 ≤ n) (h2 : n ≤ 32) : FI (ixNew n) [] (fun _ => 0) 1 0 n :=
  ⟨new_wf h2, by simp [ixNew], by omega, by simp [ixNew, IX.ents], fun _ => ⟨by omega, by omega⟩, (fun _ h => by cases h), by omega, by omega, by omega, (fun _ h => by cases h), (fun _ h => by cases h), (fun _ h => by cases h)⟩
end Go.Proofs.Ytndknnhgdlgbgaa

/- An append of however many elements to a row of the call's own; what a slice of a row is made of. No program in sight. -/
set_option linter.unusedVariables false
set_option linter.unusedSimpArgs false
namespace Go.Proofs.Ytndknnhgdlgbgaa
open Go.RowKit

/-- What is appended: m elements; they lie at xa, where there are any. -/
def SrcAt (w : World) (size : Nat) (xa : Option Addr) (m : Nat) (news : List Value) : Prop :=
  news.length = m * size ∧ (∀ u ∈ news, u.oneCell' = true) ∧ (m = 0 ∨ ∃ ad, xa = some ad ∧ ∀ j u, news[j]? = some u → w.cell? (ad.add j) = some u)
/-- What an append leaves. -/
def AppV (w : World) (e : TypeId) (size : Nat) (v : Value) (n : Nat) (xs : List Value) (v' : Value) (w' : World) : Prop :=
  Own w' e size v' n xs ∧ (∀ g, v'.ownBlock = some g → v.ownBlock = some g ∨ w.heap.size ≤ g) ∧ w.grownBy w' v.ownBlock
theorem addr_add (b o j : Nat) : (⟨b, o, none⟩ : Addr).add j = ⟨b, o + j, none⟩ := by unfold Addr.add; split <;> simp_all
theorem keepAdd {w w' : World} {S : Nat → Prop} (m : Mdh S w w') {b o j : Nat} {u : Value} (h : w.cell? ((⟨b, o, none⟩ : Addr).add j) = some u) (hs : ¬ S b) : w'.cell? ((⟨b, o, none⟩ : Addr).add j) = some u := by
  rw [addr_add] at h ⊢
  exact m.keep h hs
theorem SrcAt.gr {w w' : World} {K m : Nat} {xa : Option Addr} {news : List Value} (h : SrcAt w K xa m news) (g : Gr w w') : SrcAt w' K xa m news :=
  ⟨h.1, h.2.1, h.2.2.imp id (fun ⟨ad, e, hc⟩ => ⟨ad, e, fun j u hj => (World.cell?_of_block (Below.block g _ (World.block_lt_of_cell? w _ (hc j u hj)))).trans (hc j u hj)⟩)⟩
theorem SrcAt.mdh {w w' : World} {S : Nat → Prop} {K m : Nat} {xa : Option Addr} {news : List Value} (h : SrcAt w K xa m news) (g : Mdh S w w') (hs : ∀ ad, xa = some ad → ¬ S ad.block) : SrcAt w' K xa m news :=
  ⟨h.1, h.2.1, h.2.2.imp id (fun ⟨ad, e, hc⟩ => ⟨ad, e, fun j u hj => by
    have h0 : (ad.add j).block = ad.block := by unfold Addr.add; split <;> rfl
    have h1 := World.block_lt_of_cell? w _ (hc j u hj)
    exact (World.cell?_of_block (g.blocks _ h1 (by rw [h0]; exact hs ad e))).trans (hc j u hj)⟩)⟩
/-- A whole row, as a source. -/
theorem src_all {w : World} {e : TypeId} {K n cap : Nat} {a : Option Addr} {xs : List Value} (h : Own w e K (.slice a n cap) n xs) (h1 : ∀ u ∈ xs, u.oneCell' = true) : SrcAt w K a n xs := by
  refine ⟨h.1, h1, ?_⟩
  rcases h.2 with ⟨_, h0⟩ | ⟨g, cap', cur, hv, _⟩
  · exact .inl h0
  · simp only [Value.slice.injEq] at hv
    obtain ⟨rfl, _, _⟩ := hv
    exact .inr ⟨_, rfl, h.cells rfl⟩
/-- Its first elements. -/
theorem src_take {w : World} {e : TypeId} {K n cap i : Nat} {a : Option Addr} {xs : List Value} (h : Own w e K (.slice a n cap) n xs) (h1 : ∀ u ∈ xs, u.oneCell' = true) (hi : i ≤ n) : SrcAt w K a i (xs.take (i * K)) := by
  have hl := h.1
  have hm := Nat.mul_le_mul_right K hi
  refine ⟨by rw [List.length_take]; omega, fun u hu => h1 u (List.mem_of_mem_take hu), ?_⟩
  rcases (src_all h h1).2.2 with h0 | ⟨ad, rfl, hc⟩
  · exact .inl (by omega)
  · exact .inr ⟨ad, rfl, fun j u hj => hc j u (by
      rw [List.getElem?_take] at hj
      split at hj
      · exact hj
      · cases hj)⟩
/-- Its last ones. -/
theorem src_drop {w : World} {e : TypeId} {K n cap i : Nat} {a : Option Addr} {xs : List Value} (h : Own w e K (.slice a n cap) n xs) (h1 : ∀ u ∈ xs, u.oneCell' = true) (hi : i ≤ n) (xa : Option Addr) (hxa : ∀ g, a = some ⟨g, 0, none⟩ → i < n → xa = some ⟨g, i * K, none⟩) : SrcAt w K xa (n - i) (xs.drop (i * K)) := by
  have hl := h.1
  refine ⟨by rw [List.length_drop, hl, Nat.sub_mul], fun u hu => h1 u (List.mem_of_mem_drop hu), ?_⟩
  by_cases e0 : i = n
  · exact .inl (by omega)
  · rcases h.2 with ⟨_, h0⟩ | ⟨g, cap', cur, hv, _⟩
    · omega
    · simp only [Value.slice.injEq] at hv
      obtain ⟨rfl, _, _⟩ := hv
      refine .inr ⟨_, hxa g rfl (by omega), fun j u hj => ?_⟩
      rw [List.getElem?_drop] at hj
      have := h.cells (g := g) rfl _ u hj
      rw [addr_add] at this ⊢
      rwa [Nat.zero_add] at this
section
variable {P : Program} (w : World)
theorem run_app_none (t ty e : TypeId) (i : TypeInfo) (size : Nat) (ht : P.underlying t = some (.slice e)) (hi : P.info? e = some i) (_hsize : i.size = size)
    (v : Value) (n : Nat) (xs : List Value) (hown : Own w e size v n xs) (xa : Option Addr) (c : Nat) : (Builtin.append_ #[t, t] ty #[v, .slice xa 0 c]).run P w = .ok v w := by
  rcases hown.2 with ⟨rfl, rfl⟩ | ⟨g, cap, cur, rfl, _, _, hnc, _⟩
  · cases xa <;> simp [Builtin.append_, run_underlying ht, sizeOf, typeInfo, hi, Builtin.firstCells, Builtin.lenOf, loadCells, loadCellsFrom]
  · cases xa <;> simp [Builtin.append_, run_underlying ht, sizeOf, typeInfo, hi, Builtin.firstCells, Builtin.lenOf, storeCells, loadCells, loadCellsFrom, hnc]
theorem run_appv (t ty e : TypeId) (i : TypeInfo) (z : Value) (size bytes : Nat) (ht : P.underlying t = some (.slice e)) (hi : P.info? e = some i) (hz : i.zero = some z)
    (hsize : i.size = size) (hby : i.bytes = bytes) (hzs : z.cells.size = size) (hsz : 0 < size)
    (v : Value) (n : Nat) (xs : List Value) (hown : Own w e size v n xs) (xa : Option Addr) (m c : Nat) (news : List Value) (hsrc : SrcAt w size xa m news) (h63 : n + m ≤ maxLen) (hbytes : (n + m) * bytes ≤ 140737488355328) :
    ∃ v' w', (Builtin.append_ #[t, t] ty #[v, .slice xa m c]).run P w = .ok v' w' ∧ AppV w e size v (n + m) (xs ++ news) v' w' := by
  obtain ⟨hl, h1, hs⟩ := hsrc
  by_cases hm : m = 0
  · subst hm
    obtain rfl : news = [] := List.eq_nil_of_length_eq_zero (by omega)
    exact ⟨v, w, run_app_none w t ty e i size ht hi hsize v n xs hown xa c, by simpa using hown, fun g hg => .inl hg, ⟨rfl, rfl, rfl, Nat.le_refl _, fun _ _ _ => rfl⟩⟩
  · obtain ⟨ad, rfl, hc⟩ := hs.resolve_left hm
    obtain ⟨g, cap, w', hr, h2, h3, h4⟩ := run_app w t ty e i z size bytes ht hi hz hsize hby hzs hsz v n xs hown ad m c news hl hc h1 (by omega) h63 hbytes
    exact ⟨_, w', hr, h2, fun k hk => (by simpa [Value.ownBlock] using hk : g = k) ▸ h3, h4⟩
theorem wp_appv {o : Oper} {a : Act} {K : Act → World → Prop} {Q : Exit → Act → World → Prop} (s x : Operand) (t : TypeId)
    (ho : o.op = .call { callee := .builtin .append, args := #[s, x], argTypes := #[t, t] })
    (e : TypeId) (i : TypeInfo) (z : Value) (size bytes : Nat) (ht : P.underlying t = some (.slice e)) (hi : P.info? e = some i) (hz : i.zero = some z)
    (hsize : i.size = size) (hby : i.bytes = bytes) (hzs : z.cells.size = size) (hsz : 0 < size)
    (v : Value) (n : Nat) (xs : List Value) (hs : a.eval s = v) (hown : Own w e size v n xs)
    (xa : Option Addr) (m c : Nat) (news : List Value) (hx : a.eval x = .slice xa m c) (hsrc : SrcAt w size xa m news) (h63 : n + m ≤ maxLen) (hbytes : (n + m) * bytes ≤ 140737488355328)
    (h : ∀ v' w', AppV w e size v (n + m) (xs ++ news) v' w' → K (a.put o.dst v') w') : o.wp P a w K Q := by
  obtain ⟨v', w', hr, h2⟩ := run_appv (P := P) w t o.type e i z size bytes ht hi hz hsize hby hzs hsz v n xs hown xa m c news hsrc h63 hbytes
  unfold Oper.wp execOp
  simp only [ho, resolve, invoke, builtin, Sem.run_bind, Sem.run_pure, Result.andThen_ok, List.map_toArray, List.map_cons, List.map_nil, hs, hx, hr]
  exact h v' w' h2
theorem wpList_appv {ops : Array Oper} {rest : List Oper} {o : Oper} {a : Act} {Q : Exit → Act → World → Prop} (hgd : o.guard = none) (s x : Operand) (t : TypeId)
    (ho : o.op = .call { callee := .builtin .append, args := #[s, x], argTypes := #[t, t] })
    (e : TypeId) (i : TypeInfo) (z : Value) (size bytes : Nat) (ht : P.underlying t = some (.slice e)) (hi : P.info? e = some i) (hz : i.zero = some z)
    (hsize : i.size = size) (hby : i.bytes = bytes) (hzs : z.cells.size = size) (hsz : 0 < size)
    (v : Value) (n : Nat) (xs : List Value) (hs : a.eval s = v) (hown : Own w e size v n xs)
    (xa : Option Addr) (m c : Nat) (news : List Value) (hx : a.eval x = .slice xa m c) (hsrc : SrcAt w size xa m news) (h63 : n + m ≤ maxLen) (hbytes : (n + m) * bytes ≤ 140737488355328)
    (h : ∀ v' w', AppV w e size v (n + m) (xs ++ news) v' w' → wpList P ops Q rest (a.put o.dst v') w') : wpList P ops Q (o :: rest) a w :=
  wpList_plain hgd fun _ hK => wp_appv w s x t ho e i z size bytes ht hi hz hsize hby hzs hsz v n xs hs hown xa m c news hx hsrc h63 hbytes fun v' w' h2 => hK _ _ (h v' w' h2)
theorem wpIn_appv {F : Fence} {f : Nat} {o : Oper} {a : Act} {K : Act → World → Prop} {Q : Exit → Act → World → Prop} (s x : Operand) (t : TypeId)
    (ho : o.op = .call { callee := .builtin .append, args := #[s, x], argTypes := #[t, t] })
    (e : TypeId) (i : TypeInfo) (z : Value) (size bytes : Nat) (ht : P.underlying t = some (.slice e)) (hi : P.info? e = some i) (hz : i.zero = some z)
    (hsize : i.size = size) (hby : i.bytes = bytes) (hzs : z.cells.size = size) (hsz : 0 < size)
    (v : Value) (n : Nat) (xs : List Value) (hs : a.eval s = v) (hown : Own w e size v n xs)
    (xa : Option Addr) (m c : Nat) (news : List Value) (hx : a.eval x = .slice xa m c) (hsrc : SrcAt w size xa m news) (h63 : n + m ≤ maxLen) (hbytes : (n + m) * bytes ≤ 140737488355328)
    (h : ∀ v' w', AppV w e size v (n + m) (xs ++ news) v' w' → K (a.put o.dst v') w') : o.wpIn F f P a w K Q := by
  obtain ⟨v', w', hr, h2⟩ := run_appv (P := P) w t o.type e i z size bytes ht hi hz hsize hby hzs hsz v n xs hown xa m c news hsrc h63 hbytes
  unfold Oper.wpIn
  refine ⟨?_, ?_⟩
  · simp [Oper.about, ho, resolve, Target.leads, Sem.run_pure]
  · rw [Oper.semAt_plain F _ _ (by rw [ho]; intro c hc'; cases hc')]
    simp only [execOp, ho, resolve, invoke, builtin, Sem.run_bind, Sem.run_pure, Result.andThen_ok, List.map_toArray, List.map_cons, List.map_nil, hs, hx, hr]
    exact h v' w' h2
theorem wpListIn_appv {F : Fence} {f : Nat} {ops : Array Oper} {rest : List Oper} {o : Oper} {a : Act} {Q : Exit → Act → World → Prop} (hgd : o.guard = none) (s x : Operand) (t : TypeId)
    (ho : o.op = .call { callee := .builtin .append, args := #[s, x], argTypes := #[t, t] })
    (e : TypeId) (i : TypeInfo) (z : Value) (size bytes : Nat) (ht : P.underlying t = some (.slice e)) (hi : P.info? e = some i) (hz : i.zero = some z)
    (hsize : i.size = size) (hby : i.bytes = bytes) (hzs : z.cells.size = size) (hsz : 0 < size)
    (v : Value) (n : Nat) (xs : List Value) (hs : a.eval s = v) (hown : Own w e size v n xs)
    (xa : Option Addr) (m c : Nat) (news : List Value) (hx : a.eval x = .slice xa m c) (hsrc : SrcAt w size xa m news) (h63 : n + m ≤ maxLen) (hbytes : (n + m) * bytes ≤ 140737488355328)
    (h : ∀ v' w', AppV w e size v (n + m) (xs ++ news) v' w' → wpListIn F f P ops Q rest (a.put o.dst v') w') : wpListIn F f P ops Q (o :: rest) a w :=
  wpListIn_plain hgd fun _ hK => wpIn_appv w s x t ho e i z size bytes ht hi hz hsize hby hzs hsz v n xs hs hown xa m c news hx hsrc h63 hbytes fun v' w' h2 => hK _ _ (h v' w' h2)
end
/-- Slices of a row of the call's own, whatever its value looks like. -/
theorem slice_take {P : Program} {w : World} {t e : TypeId} {i0 : TypeInfo} (ht : P.underlying t = some (.slice e)) (hi : P.info? e = some i0) {K : Nat} (hs : i0.size = K) {v : Value} {n : Nat} {xs : List Value} (h : Own w e K v n xs) (h1 : ∀ u ∈ xs, u.oneCell' = true) {i : Nat} (hin : i ≤ n) :
    ∃ xa c, (∀ w', (Instr.slice t v none (some (.int .i64 (i : Int))) none).run P w' = .ok (.slice xa i c) w') ∧ SrcAt w K xa i (xs.take (i * K)) ∧ ∀ ad, xa = some ad → v.ownBlock = some ad.block := by
  have he : P.elem t = e := by simp [Program.elem, ht]
  have ht' : P.underlying t = some (.slice (P.elem t)) := by rw [he]; exact ht
  have hz : ∀ w', (sizeOf (P.elem t)).run P w' = .ok K w' := fun w' => by rw [he]; simp [sizeOf, typeInfo, hi, hs]
  rcases h.2 with ⟨rfl, h0⟩ | ⟨g, cap, cur, rfl, _, _, hnc, _⟩
  · obtain rfl : i = 0 := by omega
    refine ⟨none, 0, fun w' => ?_, by simpa using (show SrcAt w K none 0 [] from ⟨by simp, by simp, .inl rfl⟩), fun ad e => by cases e⟩
    rw [run_slice_h w' t none 0 0 ht' .i64 _ (by omega) (by simp), hz]
    simp [Result.andThen, sliced]
  · refine ⟨some ⟨g, 0, none⟩, cap, fun w' => ?_, src_take h h1 hin, fun ad e => by obtain rfl := Option.some.inj e; rfl⟩
    rw [run_slice_h w' t _ n cap ht' .i64 _ (by omega) (by omega), hz]
    simp [Result.andThen, sliced, addr_add]
theorem slice_drop {P : Program} {w : World} {t e : TypeId} {i0 : TypeInfo} (ht : P.underlying t = some (.slice e)) (hi : P.info? e = some i0) {K : Nat} (hs : i0.size = K) {v : Value} {n : Nat} {xs : List Value} (h : Own w e K v n xs) (h1 : ∀ u ∈ xs, u.oneCell' = true) {i : Nat} (hin : i ≤ n) :
    ∃ xa c, (∀ w', (Instr.slice t v (some (.int .i64 (i : Int))) none none).run P w' = .ok (.slice xa (n - i) c) w') ∧ SrcAt w K xa (n - i) (xs.drop (i * K)) ∧ ∀ ad, xa = some ad → v.ownBlock = some ad.block := by
  have he : P.elem t = e := by simp [Program.elem, ht]
  have ht' : P.underlying t = some (.slice (P.elem t)) := by rw [he]; exact ht
  have hz : ∀ w', (sizeOf (P.elem t)).run P w' = .ok K w' := fun w' => by rw [he]; simp [sizeOf, typeInfo, hi, hs]
  rcases h.2 with ⟨rfl, h0⟩ | ⟨g, cap, cur, rfl, _, _, hnc, _⟩
  · obtain rfl : i = 0 := by omega
    have hx : xs = [] := List.eq_nil_of_length_eq_zero (by rw [h.1, h0]; simp)
    refine ⟨none, 0, fun w' => ?_, by subst h0 hx; simpa using (show SrcAt w K none 0 [] from ⟨by simp, by simp, .inl rfl⟩), fun ad e => by cases e⟩
    subst h0
    rw [run_slice_l w' t none 0 0 ht' .i64 _ (by omega) (by simp), hz]
    simp [Result.andThen, sliced]
  · refine ⟨if cap = i then some ⟨g, 0, none⟩ else some ⟨g, i * K, none⟩, cap - i, fun w' => ?_, src_drop h h1 hin _ (fun g' hg' hlt => ?_), fun ad e => ?_⟩
    · rw [run_slice_l w' t _ n cap ht' .i64 _ (by omega) (by omega), hz]
      simp [Result.andThen, sliced, addr_add]
    · obtain rfl : g = g' := by simpa using hg'
      rw [if_neg (by omega)]
    · split at e <;> (obtain rfl := Option.some.inj e; rfl)
theorem src_new (w : World) (x : Value) (t : TypeId) (hx : x.oneCell' = true) : SrcAt (w.alloc (.cells #[x] t)) 1 (some ⟨w.heap.size, 0, none⟩) 1 [x] := by
  refine ⟨rfl, fun u hu => by obtain rfl := List.mem_singleton.1 hu; exact hx, .inr ⟨_, rfl, fun j u hj => ?_⟩⟩
  match j with
  | 0 => simp at hj; subst hj; simp [go_sem, Addr.add]
  | j + 1 => simp at hj
theorem src_newK (w : World) (cs : List Value) (t : TypeId) (K : Nat) (hK : cs.length = K) (hx : ∀ u ∈ cs, u.oneCell' = true) : SrcAt (w.alloc (.cells cs.toArray t)) K (some ⟨w.heap.size, 0, none⟩) 1 cs := by
  refine ⟨by omega, hx, .inr ⟨_, rfl, fun j u hj => ?_⟩⟩
  rw [addr_add, Nat.zero_add, (cellsOf (blkNew w (.cells cs.toArray t))).1 j]
  simpa using hj
theorem own_ne {w : World} {e t : TypeId} {K n b : Nat} {v : Value} {xs : List Value} {cs : Array Value} (h : Own w e K v n xs) (hb : w.heap[b]? = some (.cells cs t)) (hte : t ≠ e) : v.ownBlock ≠ some b := by
  rcases h.2 with ⟨rfl, _⟩ | ⟨g, cap, cur, rfl, _, hg, _⟩
  · intro h; cases h
  · intro h
    obtain rfl : g = b := by simpa [Value.ownBlock] using h
    rw [hg] at hb
    simp only [Option.some.injEq, Obj.cells.injEq] at hb
    exact hte hb.2.1.symm
theorem own_ne2 {w : World} {e e' : TypeId} {K K' n n' : Nat} {v v' : Value} {xs xs' : List Value} (h : Own w e K v n xs) (h' : Own w e' K' v' n' xs') (hte : e ≠ e') : ∀ g, v.ownBlock = some g → v'.ownBlock ≠ some g := by
  intro g hg
  rcases h.2 with ⟨rfl, _⟩ | ⟨g1, cap, cur, rfl, _, hc, _⟩
  · cases hg
  · obtain rfl : g1 = g := Option.some.inj hg
    exact own_ne h' hc hte
theorem own_blk {w : World} {e : TypeId} {K n g : Nat} {v : Value} {xs : List Value} (h : Own w e K v n xs) (hg : v.ownBlock = some g) : ∃ cs, w.heap[g]? = some (.cells cs e) := by
  rcases h.2 with ⟨rfl, _⟩ | ⟨g1, cap, cur, rfl, _, hc, _⟩
  · cases hg
  · obtain rfl : g1 = g := Option.some.inj hg
    exact ⟨cur, hc⟩
theorem ownB {b n c q : Nat} (h : Value.ownBlock (.slice (some ⟨b, 0, none⟩) n c) = some q) : q = b := (Option.some.inj h).symm
/-- A row whose block is new since w0. -/
structure Nw (w0 w : World) (e : TypeId) (K : Nat) (v : Value) (n : Nat) (xs : List Value) : Prop where
  own : Own w e K v n xs
  new : ∀ q, v.ownBlock = some q → w0.heap.size ≤ q
theorem Nw.gr {w0 w w' : World} {e : TypeId} {K n : Nat} {v : Value} {xs : List Value} (h : Nw w0 w e K v n xs) (g : Gr w w') : Nw w0 w' e K v n xs := ⟨h.own.gr g, h.new⟩
theorem Nw.mdh {S : Nat → Prop} {w0 w w' : World} {e : TypeId} {K n : Nat} {v : Value} {xs : List Value} (h : Nw w0 w e K v n xs) (m : Mdh S w w') (hs : ∀ q, v.ownBlock = some q → ¬ S q) : Nw w0 w' e K v n xs := ⟨h.own.mdh m hs, h.new⟩
theorem Nw.made {w0 w : World} {e : TypeId} {K : Nat} (hz : w0.heap.size ≤ w.heap.size) : Nw w0 (w.alloc (.cells #[] e)) e K (.slice (some ⟨w.heap.size, 0, none⟩) 0 0) 0 [] :=
  ⟨Own.ofParts (blkNew w _) (Nat.le_refl _) (by simp [maxLen]) (by simp) (by simp), fun q hq => (by simpa [Value.ownBlock] using hq : w.heap.size = q) ▸ hz⟩
/-- What an append to such a row leaves. -/
theorem AppV.nw {w0 w w' : World} {e : TypeId} {K n m : Nat} {v v' : Value} {xs ys : List Value} (h : AppV w e K v n xs v' w') (hv : Nw w0 w e K v m ys) (hz : w0.heap.size ≤ w.heap.size) : Nw w0 w' e K v' n xs :=
  ⟨h.1, fun q hq => (h.2.1 q hq).elim (hv.new q) (Nat.le_trans hz)⟩
theorem AppV.gw {w0 w w' : World} {e : TypeId} {K n m : Nat} {v v' : Value} {xs ys : List Value} (h : AppV w e K v n xs v' w') (hv : Nw w0 w e K v m ys) (g : Gr w0 w) : Gr w0 w' :=
  g.md ((Mdh.refl _ w).grown h.2.2 (fun _ hr => hr)) hv.new
theorem AppV.mw {S : Nat → Prop} {w0 w w' : World} {e : TypeId} {K n m : Nat} {v v' : Value} {xs ys : List Value} (h : AppV w e K v n xs v' w') (hv : Nw w0 w e K v m ys) (g : Mdh S w0 w) : Mdh S w0 w' :=
  g.then ((Mdh.refl _ w).grown h.2.2 (fun _ hr => hr)) (fun q hq => .inr (hv.new q hq))
theorem AppV.val {w w' : World} {e : TypeId} {K n : Nat} {v v' : Value} {xs : List Value} (h : AppV w e K v n xs v' w') : ∃ a c, v' = .slice a n c := by
  rcases h.1.2 with ⟨rfl, rfl⟩ | ⟨g, cap, cur, rfl, _⟩
  · exact ⟨none, 0, rfl⟩
  · exact ⟨_, cap, rfl⟩
theorem AppV.mdh {w w' : World} {e : TypeId} {size n : Nat} {v v' : Value} {xs : List Value} (h : AppV w e size v n xs v' w') {S : Nat → Prop} (hS : ∀ g, v.ownBlock = some g → S g) : Mdh S w w' :=
  (Mdh.refl _ w).grown h.2.2 hS
end Go.Proofs.Ytndknnhgdlgbgaa
