/- Dropping a slot. -/
import Derived.Test.YtemjnppplmankaaGreatBd8
import Derived.Test.YtemjnppplmankaaGreatBd9
import Derived.Test.YtemjnppplmankaaGreatBd7
set_option linter.unusedVariables false
set_option linter.unusedSimpArgs false
namespace Go.Proofs.YtemjnppplmankaaGreat
open Go.RowKit Go.Shelf
attribute [local go_sem] OvM cell_ovm obj_ovm
attribute [local go_sem] Oper.semAt_some

set_option maxRecDepth 40000 in
set_option maxHeartbeats 8000000 in
theorem Drop_any {w : World} {b : Nat} {X : IX} {S : Nat → Prop} (h : IXR w b X S) (s : Int) : Calls Tryz.prog 40 #[.pointer (some ⟨b, 0, none⟩), .int .i64 s] w fun e w' => e = .returned (.tuple #[.int .i64 (X.slot s).length, .int .i64 (dropC X s)]) ∧ IXPost b (dropX X s) S w w' := by
  have HI := Lib.hid h
  have HSL := Lib.hid h.lt
  refine calls_of_wp_marks Tryz.func40 rfl ?_
  simp only [Tryz.ntmps40, List.size_toArray, List.length_cons, List.length_nil, Nat.reduceAdd, Nat.reduceSub, Array.replicate_succ, Array.replicate_zero, List.push_toArray, List.append_toArray, List.nil_append, List.cons_append]
  cases hs : X.has s with
  | false =>
    have HS := Lib.hid hs
    have HE := Lib.hid (slot_out hs)
    clear hs h
    go_wp2_with (first
      | (go_at_call 34; refine (made_yes (HI.out.gr ((Gr.refl _).alloc _))).mono ?_; rintro e w1 ⟨rfl, rfl⟩)
      | (go_at_call 59; refine (has_yes (HI.out.gr ((Gr.refl _).alloc _)) s).mono ?_; rintro e w1 ⟨rfl, rfl⟩; rw [HS.out]))
    refine retM0 (v := .tuple #[.int .i64 0, .int .i64 3]) ?_ rfl ⟨by rw [HE.out]; simp [dropC, HS.out], S, by rw [drop_no HS.out]; exact HI.out.gr ((Gr.refl _).alloc _), ((Gr.refl _).alloc _).mdh _, fun k hk => .inl hk⟩
    simp [results, Tryz.results40, go_sem]
  | true =>
    have HS := Lib.hid hs
    obtain ⟨h1, h2, Y, h3, h4, h5⟩ := h
    obtain ⟨i, sl, g, cap, rfl, hlt, hsl, hsx, hsv, c1, c2, hc, ho, hm⟩ := Lay.slotE h3 h4 hs
    have hb := Lay.blk h3
    rw [hsv] at hb
    obtain ⟨b2, hb2⟩ : ∃ q, q = w.heap.size := ⟨_, rfl⟩
    have HB0 := Lib.hid hb2
    have HF := Lib.hid (show _ from And.intro h1 (And.intro h3 (And.intro h4 h5)))
    have HY := Lib.hid (And.intro hlt (And.intro hsl (And.intro hsx (And.intro hsv (And.intro c1 (And.intro c2 (And.intro hc (And.intro ho (And.intro hm hb)))))))))
    clear hs h1 h2 h3 h4 h5 hlt hsl hsx hsv c1 c2 hc ho hm hb hb2
    go_wp2_with (first
      | (go_at_call 34; refine (made_yes (HI.out.gr ((Gr.refl _).alloc _))).mono ?_; rintro e w1 ⟨rfl, rfl⟩)
      | (go_at_call 59; refine (has_yes (HI.out.gr ((Gr.refl _).alloc _)) i).mono ?_; rintro e w1 ⟨rfl, rfl⟩; rw [HS.out]))
    refine (Slot_any _ _ _).mono ?_
    rintro e w1 ⟨bb, bs, rfl, k1, k2, l1, l2, hg⟩
    have HG1 := Lib.hid (((Gr.refl w).alloc (.cells #[.pointer (some ⟨b, 0, none⟩)] 35)).trans hg)
    have HB2 : Hid (w1.heap[b2]? = some (.cells #[.pointer (some ⟨b, 0, none⟩)] 35)) := Lib.hid (by rw [HB0.out]; exact hg.blk (blkNew w _))
    have HBB : Hid (w.heap.size < bb ∧ w.heap.size < bs ∧ b2 = w.heap.size ∧ bb < w1.heap.size ∧ bs < w1.heap.size) := Lib.hid (by
      rw [World.size_alloc] at l1 l2
      exact ⟨by omega, by omega, HB0.out, World.block_lt_of_cell? w1 _ k1, World.block_lt_of_cell? w1 _ k2⟩)
    obtain ⟨A, hA⟩ : ∃ A : Nat → Prop, A = fun q => q = bb ∨ q = bs ∨ q = b2 ∨ q = b ∨ q = g ∨ ∃ B ∈ slotRows Y.SL X.slots, B.S q := ⟨_, rfl⟩
    have HA := Lib.hid hA
    have hAlt : ∀ q, A q → q < w1.heap.size := fun q hq => by
      rw [hA] at hq
      have hz := HG1.out.sz
      obtain ⟨m1, m2, m3, m4, m5⟩ := HBB.out
      have mb := blkLt HB2.out
      rcases hq with rfl | rfl | rfl | rfl | rfl | ⟨B, hB, hq⟩
      · exact m4
      · exact m5
      · exact mb
      · have := blkLt HY.out.2.2.2.2.2.2.2.2.2; omega
      · have := World.block_lt_of_cell? w _ HY.out.2.2.2.2.2.2.1; simp only at this; omega
      · have := HF.out.2.1.lt (List.mem_append_right _ (List.mem_append_right _ hB)) q hq; omega
    have HSEQ := Lib.hid (SeqSlotA (A := A) (HG1.out.blk HY.out.2.2.2.2.2.2.2.2.2) HY.out.1 HY.out.2.2.2.2.1 HY.out.2.2.2.2.2.1 (HG1.out.keep HY.out.2.2.2.2.2.2.1) (HY.out.2.2.2.2.2.2.2.1.gr HG1.out) (by have := HF.out.1.slot_le i; omega)
      (by rw [hA]; exact .inr (.inr (.inr (.inl rfl)))) (by rw [hA]; exact .inr (.inr (.inr (.inr (.inl rfl))))) (fun q hq => by rw [hA]; exact .inr (.inr (.inr (.inr (.inr ⟨_, List.mem_of_getElem? (zip_at enA HY.out.2.1 HY.out.2.2.1), hq⟩))))) bb bs (by rw [hA]; exact .inl rfl) (by rw [hA]; exact .inr (.inl rfl)) k1 k2)
    have HAL := Lib.hid hAlt
    have HI0 : Hid (DrI w1 b X Y A S [] Y.v Y.KL (fun _ => False) w1) := Lib.hid ⟨HF.out.2.1.gr HG1.out, HF.out.2.2.1, fun k _ h => h, fun k hk ha => by
      have hd := Lay.om_disj HF.out.2.1 k hk
      have hkl : k < w.heap.size := HF.out.2.1.lt (A := omA Y.bm Y.v Y.KL) (by simp [Lay.list, Lay.hd]) k hk
      obtain ⟨m1, m2, m3, m4, m5⟩ := HBB.out
      rw [hA] at ha
      rcases ha with rfl | rfl | rfl | rfl | rfl | ⟨B, hB, hq⟩
      · omega
      · omega
      · omega
      · exact hd _ (List.mem_cons_self ..) rfl
      · exact hd (rowA 85 1 Y.sv X.slots.length (Y.SL.map slV)) (by simp) (by show Y.sv.ownBlock = _; rw [HY.out.2.2.2.1]; rfl)
      · exact hd B (by simp [hB]) hq, fun k hk => .inl ((HF.out.2.2.2 k).2 hk), Frm.refl _ _⟩
    have HAB : Hid (A bb ∧ A bs ∧ A b2 ∧ A b ∧ A g) := Lib.hid (by rw [hA]; exact ⟨.inl rfl, .inr (.inl rfl), .inr (.inr (.inl rfl)), .inr (.inr (.inr (.inl rfl))), .inr (.inr (.inr (.inr (.inl rfl))))⟩)
    rw [← HB0.out]
    clear k1 k2 l1 l2 hg hA hAlt
    go_wp2_with fail
    apply wp_rangeFunc_zx (gf := 113) (lb := #[.pointer (some ⟨bb, 0, none⟩), .pointer (some ⟨bs, 0, none⟩)]) rfl (enters_of Tryz.func113 (by kernel_rfl) rfl) HSEQ.out (Mdh.refl _ w1) HAL.out (fun _ => rfl)
      (fun Z pre X' => ∃ v KL, DrI w1 b X Y A S pre v KL Z X')
      (fun _ _ _ => False) (fun _ _ _ => False)
      DrI.apart apart_no apart_no
      ⟨_, _, HI0.out⟩ (fun Z pre X' ⟨v, KL, h⟩ => ⟨_, h.m⟩) (fun x => .cells #[.int .i64 x.seq, .string x.key, .bool x.del, .int .i64 x.slot, .int .i64 x.off, .int .i64 x.size] 89)
      _ ?assign ?body ?hend ?hret
    case hret => intro _ _ _ _ _ _ _ h; exact h.elim
    case assign =>
      intro l x bx X' K hbx hK
      dsimp only [encE, enV]
      gi_wp2
      rw [← hbx]
      exact hK
    case body =>
      intro l Z pre x bx X' hI hbx hx hzx hzl hlr hsp
      obtain ⟨v, KL, hI⟩ := hI
      have HDI := Lib.hid hI
      have HX := Lib.hid hx
      have HNX := Lib.hid (And.intro hbx hzx)
      have HSN := Lib.hid (dropK_snoc X pre x)
      have HBP : Hid (X'.heap[b2]? = some (.cells #[.pointer (some ⟨b, 0, none⟩)] 35) ∧ X'.heap[b]? = some (.cells #[.pointer (some ⟨Y.bm, 0, none⟩), .slice (some ⟨g, 0, none⟩) X.slots.length cap] 84)) := Lib.hid ⟨hI.m.m.blk HB2.out (fun h => h.2 HAB.out.2.2.1), hI.m.m.blk (HG1.out.blk HY.out.2.2.2.2.2.2.2.2.2) (fun h => h.2 HAB.out.2.2.2.1)⟩
      have hKL : KL.length ≤ 16384 := by
        have e1 := congrArg List.length hI.f.k
        simp only [List.length_map] at e1
        have e2 := dropK_le HF.out.1.mid pre
        have e3 := HF.out.1.keys_le
        have e4 : KL.length = (dropK X pre).keys.length := e1
        omega
      have HKL := Lib.hid hKL
      have HOF := Lib.hid (Lay.ofE hI.s hI.f x.key)
      have hol : ((dropK X pre).of x.key).length ≤ 16384 := by
        rw [dropK_of pre HF.out.1.mid]
        have := List.length_filter_le (fun o => decide (o ∉ pre)) (X.of x.key)
        have := HF.out.1.of_le x.key
        omega
      have HOL := Lib.hid hol
      obtain ⟨sk, hsk, _, _, hbk⟩ := HOF.out
      have hom : Hid (VWsl X' (some ⟨Y.bm, 0, none⟩) v KL) := Lib.hid (.inl ⟨_, rfl, Lay.om hI.s⟩)
      have d2 := (cellsOf HBP.out.1).1
      have db := (cellsOf HBP.out.2).1
      have dx := (cellsOf HX.out).1
      obtain ⟨b', hb'⟩ : ∃ q : Bool, q = hasBsl KL x.key := ⟨_, rfl⟩
      have HGK : Hid (Calls Tryz.prog 61 #[.pointer (some ⟨Y.bm, 0, none⟩), .string x.key] X'.drew fun e w' => e = .returned (.tuple #[slV sk, .bool b']) ∧ Gr X'.drew w') := Lib.hid (by
        have := Getsl (some ⟨Y.bm, 0, none⟩) v KL x.key X'.drew (hom.out.gr (Gr.refl _).drew) (by have := HKL.out; omega)
        rw [hsk, ← hb'] at this
        exact this)
      have HSK := Lib.hid (show Own X' 89 6 (slV sk) _ _ from by assumption)
      obtain ⟨s1, s2, s3⟩ := sk
      simp only [slV] at *
      clear hI hbx hx hzx hzl hlr hsp hKL hol hsk hbk hb'
      gi_wp2_with fail
      refine wpIn_region_flo (fun _ => trivial) rfl (fun _ => False) [] [] (by kernel_rfl) (by kernel_rfl) (fun _ h => h.elim) ?_
      refine flo_seg 6 rfl ?_
      simp only [List.take_succ_cons, List.take_zero, List.drop_succ_cons, List.drop_zero]
      repeat (go_big_quiet_step (fail))
      refine wpQuiet_nil ?_
      refine flo_eff rfl rfl rfl rfl (fun K hK => ?_)
      gi_wp2_with ((refine ⟨trivial, ?_⟩; gi_at_call 61; refine (CallsIn.inRound l (callsIn_wide.2 HGK.out)).mono ?_; rintro e w3 ⟨rfl, hg3⟩; have HGD := Lib.hid hg3; have HG3 := Lib.hid (((Gr.refl _).drew).trans hg3); clear hg3))
      refine ⟨by first | exact HGD.out.mdh _ | exact HG3.out.mdh _, ?_⟩
      refine flo_seg 5 rfl ?_
      simp only [List.take_succ_cons, List.take_zero, List.drop_succ_cons, List.drop_zero]
      repeat (go_big_quiet_step (fail))
      refine wpQuiet_nil ?_
      refine flo_nil ?_
      clear d2 db dx
      gi_wp2_with fail
      refine ⟨trivial, (CallsIn.inRound l (callsIn_wide.2 (CloneE ((dropK X pre).of x.key) (by have := HOL.out; omega) (s1, s2, s3) w3 (HSK.out.gr HG3.out)))).mono ?_⟩
      rintro e w4 ⟨⟨q1, q2, q3⟩, rfl, ho4, hn4, hg4⟩
      simp only [slV] at ho4 hn4
      have HO4 := Lib.hid ho4
      have HN4 := Lib.hid hn4
      have HG4 := Lib.hid (HG3.out.trans hg4)
      have HSZ := Lib.hid HG3.out.sz
      clear ho4 hn4 hg4
      simp only [slV]
      gi_wp2_with fail
      refine ⟨trivial, (CallsIn.inRound l (callsIn_wide.2 (DeleteFL ((dropK X pre).of x.key) (by have := HOL.out; omega) (q1, q2, q3) w4 HO4.out (DropP x bx w4 _ (fun hk => by have := HN4.out bx hk; have := HSZ.out; have := blkLt HX.out; omega) (HG4.out.blk HX.out))))).mono ?_⟩
      rintro e w5 ⟨⟨r1, r2, r3⟩, rfl, ho5, hn5, hm5⟩
      simp only [slV] at ho5 hn5
      rw [show ((dropK X pre).of x.key).filter (fun y => !decide (y = x)) = leftE (dropK X pre) x from rfl] at ho5
      have hr2 := own_slV (s := (r1, r2, r3)) ho5
      simp only at hr2
      have HR2 := Lib.hid hr2
      have HO5 := Lib.hid ho5
      have HG5 : Hid (Gr X' w5) := Lib.hid (HG4.out.md hm5 (fun k hk => by have := HN4.out k hk; have := HSZ.out; omega))
      have HN5 : Hid (∀ k, (Value.slice r1 r2 r3).ownBlock = some k → X'.heap.size ≤ k) := Lib.hid (fun k hk => by have := HN4.out k (hn5 k hk); have := HSZ.out; omega)
      clear ho5 hn5 hm5 hr2
      have HBP5 := Lib.hid (And.intro (HG5.out.blk HBP.out.1) (HG5.out.blk HBP.out.2))
      have HX5 := Lib.hid (HG5.out.blk HX.out)
      have d2 := (cellsOf HBP5.out.1).1
      have db := (cellsOf HBP5.out.2).1
      have dx := (cellsOf HX5.out).1
      have HS5 := Lib.hid (HDI.out.s.gr HG5.out)
      have HOML : Hid (∀ k, (k = Y.bm ∨ v.ownBlock = some k) → k < w5.heap.size) := Lib.hid (fun k hk => HS5.out.lt (A := omA Y.bm v KL) (by simp [Lay.list, Lay.hd]) k hk)
      have HNO : Hid ((¬ b2 = Y.bm ∧ ¬ v.ownBlock = some b2) ∧ (¬ b = Y.bm ∧ ¬ v.ownBlock = some b) ∧ (¬ bx = Y.bm ∧ ¬ v.ownBlock = some bx)) := Lib.hid (by
        have hA2 : ∀ k, A k → ¬ k = Y.bm ∧ ¬ v.ownBlock = some k := fun k hk => ⟨fun e => HDI.out.d k (.inl e) hk, fun e => HDI.out.d k (.inr e) hk⟩
        refine ⟨hA2 _ HAB.out.2.2.1, hA2 _ HAB.out.2.2.2.1, fun e => ?_, fun e => ?_⟩
        · have h1 := (Lay.om HS5.out).blk
          rw [← show bx = _ from e, HX5.out] at h1
          injection h1 with h1
          injection h1 with _ h1
          exact absurd h1 (by decide)
        · have h1 := (Lay.om HS5.out).own
          rcases h1.2 with ⟨hv, _⟩ | ⟨g', cap', cur', hv, _, hg', _⟩
          · rw [show v = _ from hv] at e; cases e
          · rw [show v = _ from hv] at e
            have e1 : g' = bx := Option.some.inj e
            rw [e1, HX5.out] at hg'
            injection hg' with h1
            injection h1 with _ h1
            exact absurd h1 (by decide))
      obtain ⟨⟨m1, m2⟩, ⟨m3, m4⟩, m5, m6⟩ := HNO.out
      simp only [slV]
      by_cases h0 : r2 = 0
      · have HL0 : Hid (leftE (dropK X pre) x = []) := Lib.hid (List.eq_nil_of_length_eq_zero (by rw [← HR2.out, h0]))
        subst h0
        have HDL : Hid (Calls Tryz.prog 76 #[.pointer (some ⟨Y.bm, 0, none⟩), .string x.key] w5.drew fun e w' => (∃ u, e = .returned u) ∧ OMPostsl Y.bm v (delL ltS KL x.key) w5.drew w') := Lib.hid ((DeleteOsl Y.bm v KL x.key w5.drew ((Lay.om HS5.out).gr (Gr.refl _).drew) (by have := HKL.out; omega)).mono (fun e w' h => ⟨⟨_, h.1⟩, h.2⟩))
        gi_wp2_with fail
        refine wpIn_region_flo (fun _ => trivial) rfl (fun k => k = Y.bm ∨ v.ownBlock = some k) [] [] (by kernel_rfl) (by kernel_rfl) (HOML.out) ?_
        refine flo_seg 6 rfl ?_
        simp only [List.take_succ_cons, List.take_zero, List.drop_succ_cons, List.drop_zero]
        repeat (go_big_quiet_step (fail))
        refine wpQuiet_nil ?_
        refine flo_eff rfl rfl rfl rfl (fun K hK => ?_)
        gi_wp2_with ((refine ⟨trivial, ?_⟩; gi_at_call 76; refine (CallsIn.inRound l (callsIn_wide.2 HDL.out)).mono ?_; rintro e w6 ⟨⟨u, rfl⟩, v', hm6, ho6, hd6⟩; have HM6 := Lib.hid hm6; have HO6 := Lib.hid ho6; have HD6 := Lib.hid hd6; clear hm6 ho6 hd6))
        refine ⟨by exact HD6.out.mono (fun k hk => .inl hk), ?_⟩
        refine flo_nil ?_
        gi_wp2_with fail
        have e1 : dropK X (pre ++ [x]) = ⟨(dropK X pre).slots, delL ltS (dropK X pre).keys x.key⟩ := HSN.out.trans (remE_del HL0.out)
        have m56 : Mdh (fun q => q = Y.bm ∨ v.ownBlock = some q) w5 w6 := ((Gr.refl w5).drew.mdh _).trans HD6.out
        have hdk := Lay.delKey HS5.out HDI.out.f x.key HM6.out HO6.out m56
        rw [← e1] at hdk
        have hnx := HDI.out.next ((HG5.out.mdh _).trans m56) hdk.1 hdk.2.1 (fun q hq => (hdk.2.2 q hq).imp (fun h => h) (fun h => Nat.le_trans HG5.out.sz h)) (fun q hq => (HO6.out q hq).imp (fun h => h) (fun h => Nat.le_trans HG5.out.sz h)) HAL.out
        exact ⟨hnx.2, _, _, hnx.1⟩
      · have HL0 : Hid (leftE (dropK X pre) x ≠ []) := Lib.hid (fun h => h0 (by rw [HR2.out, h]; rfl))
        have hb0 : ((r2 : Int) == 0) = false := beq_false_of_ne (by omega)
        have HST : Hid (Calls Tryz.prog 69 #[.pointer (some ⟨Y.bm, 0, none⟩), .string x.key, .slice r1 r2 r3] w5.drew fun e w' => (∃ u, e = .returned u) ∧ OMPostsl Y.bm v (putL ltS KL x.key (r1, r2, r3)) w5.drew w') := Lib.hid ((Setsl Y.bm v KL x.key (r1, r2, r3) w5.drew ((Lay.om HS5.out).gr (Gr.refl _).drew) (by have := HKL.out; omega)).mono (fun e w' h => ⟨⟨_, h.1⟩, h.2⟩))
        gi_wp2_with fail
        refine wpIn_region_flo (fun _ => trivial) rfl (fun k => k = Y.bm ∨ v.ownBlock = some k) [] [] (by kernel_rfl) (by kernel_rfl) (HOML.out) ?_
        refine flo_seg 7 rfl ?_
        simp only [List.take_succ_cons, List.take_zero, List.drop_succ_cons, List.drop_zero]
        repeat (go_big_quiet_step (fail))
        refine wpQuiet_nil ?_
        refine flo_eff rfl rfl rfl rfl (fun K hK => ?_)
        gi_wp2_with ((refine ⟨trivial, ?_⟩; gi_at_call 69; refine (CallsIn.inRound l (callsIn_wide.2 HST.out)).mono ?_; rintro e w6 ⟨⟨u, rfl⟩, v', hm6, ho6, hd6⟩; have HM6 := Lib.hid hm6; have HO6 := Lib.hid ho6; have HD6 := Lib.hid hd6; clear hm6 ho6 hd6))
        refine ⟨by exact HD6.out.mono (fun k hk => .inl hk), ?_⟩
        refine flo_nil ?_
        gi_wp2_with fail
        have e1 : dropK X (pre ++ [x]) = ⟨(dropK X pre).slots, putL ltS (dropK X pre).keys x.key (leftE (dropK X pre) x)⟩ := HSN.out.trans (remE_put HL0.out)
        have m56 : Mdh (fun q => q = Y.bm ∨ v.ownBlock = some q) w5 w6 := ((Gr.refl w5).drew.mdh _).trans HD6.out
        have hdk := Lay.putKey HDI.out.s HDI.out.f HG5.out x.key (s' := (r1, r2, r3)) HO5.out HN5.out HM6.out HO6.out m56
        rw [← e1] at hdk
        have hnx := HDI.out.next ((HG5.out.mdh _).trans m56) hdk.1 hdk.2.1 hdk.2.2 (fun q hq => (HO6.out q hq).imp (fun h => h) (fun h => Nat.le_trans HG5.out.sz h)) HAL.out
        exact ⟨hnx.2, _, _, hnx.1⟩
    case hend =>
      intro Z D xs W hD hZD hcase hdef
      obtain ⟨hxs, v, KL, hI⟩ := hcase.elim (fun h => h) (fun h => h.2.elim)
      have hxs' : xs = X.slot i := hxs
      subst hxs'
      have HDI := Lib.hid hI
      have HD := Lib.hid (And.intro hD (And.intro hZD hdef))
      have hAk : ∀ k, A k → ¬ (S k ∧ ¬ A k) := fun k hk h => h.2 hk
      have HBP : Hid (W.heap[b2]? = some (.cells #[.pointer (some ⟨b, 0, none⟩)] 35) ∧ W.heap[b]? = some (.cells #[.pointer (some ⟨Y.bm, 0, none⟩), .slice (some ⟨g, 0, none⟩) X.slots.length cap] 84)) := Lib.hid ⟨hI.m.m.blk HB2.out (hAk _ HAB.out.2.2.1), hI.m.m.blk (HG1.out.blk HY.out.2.2.2.2.2.2.2.2.2) (hAk _ HAB.out.2.2.2.1)⟩
      have d2 := (cellsOf HBP.out.1).1
      have db := (cellsOf HBP.out.2).1
      have dg : W.cell? ⟨g, i, none⟩ = some (slV sl) := hI.m.m.keep (HG1.out.keep HY.out.2.2.2.2.2.2.1) (hAk _ HAB.out.2.2.2.2)
      have HSR := Lib.hid (Lay.srow hI.s)
      have hgr := HSR.out
      rw [show ({ Y with v := v, KL := KL } : Lay).sv = Y.sv from rfl, HY.out.2.2.2.1, show (dropK X (X.slot i)).slots = X.slots from dropK_slots _ _] at hgr
      have HGR := Lib.hid hgr
      obtain ⟨cur, hg0, _, _, _, _⟩ := hgr.parts
      have fg := (cellsOf hg0).2
      have hlt : (i : Int) < X.slots.length := by have := HY.out.1; omega
      have hs2 := own_slV HY.out.2.2.2.2.2.2.2.1
      have hmx : cap ≤ 9223372036854775807 := HY.out.2.2.2.2.2.1
      have hlc := HY.out.2.2.2.2.1
      obtain ⟨s1, s2, s3⟩ := sl
      simp only [slV] at *
      clear hI hxs hcase hD hZD hdef hg0 hgr hAk
      go_wp2_with fail
      have hbs : (X.slot i).length = (X.slot i).length := rfl
      obtain ⟨hd1, hd2, hd3⟩ := HD.out
      have hsl : Y.SL.length = X.slots.length := HF.out.2.2.1.s
      have hnD : D ≠ g := fun e => by have := HAL.out g HAB.out.2.2.2.2; omega
      have hdk := Lay.setSlot (w' := W.setCell ⟨g, i, none⟩ (.slice none 0 0)) (Y := { Y with v := v, KL := KL }) (i := i) (sl := (s1, s2, s3)) (l := X.slot i) (sl' := (none, 0, 0)) (l' := []) HDI.out.s HDI.out.f HY.out.2.1 (by rw [dropK_slots]; exact HY.out.2.2.1) (T := fun k => k = g) ((Mdh.refl (fun k => k = g) W).setCell (p := ⟨g, i, none⟩) rfl _)
        (fun k hk => .inr (.inl (by show Y.sv.ownBlock = _; rw [HY.out.2.2.2.1, hk]; rfl))) (nilRow _ _ _) (fun k hk => by cases hk)
        (by
          rw [dropK_slots, List.map_set]
          show Own _ _ _ Y.sv _ _
          rw [HY.out.2.2.2.1]
          exact HGR.out.set (by rw [List.length_map]; show i < Y.SL.length; rw [hsl]; exact HY.out.1) _)
      have e1 : dropX X i = ⟨(dropK X (X.slot i)).slots.set i [], (dropK X (X.slot i)).keys⟩ := by rw [drop_yes HS.out, dropK_slots, Int.toNat_natCast]
      rw [← e1] at hdk
      have hD : (W.setCell ⟨g, i, none⟩ (.slice none 0 0)).heap[D]? = some (.deferred (some [])) := blkSetO hd3 hnD
      have hDW := blkLt hd3
      have hFm := HDI.out.m.m
      refine retM1 (D := D) (v := .tuple #[.int .i64 (X.slot i).length, .int .i64 0]) rfl hD ?_ ⟨by unfold dropC; rw [if_pos HS.out], fun k => ∃ B ∈ ({ Y with v := v, KL := KL, SL := Y.SL.set i (none, 0, 0) } : Lay).list b (dropX X i), B.S k, ⟨drop_wf HF.out.1 _, ?_, ?_⟩, ?_, ?_⟩
      · simp [results, Tryz.results40, go_sem]
      · rw [e1]
        intro h0
        have := congrArg List.length h0
        simp only [List.length_set, dropK_slots, List.length_nil] at this
        have := HY.out.1
        omega
      · refine ⟨_, hdk.1.mdh (T := fun k => k = D) ((Mdh.refl (fun k => k = D) _).putObj rfl _) (fun B hB k hk hkD => ?_), hdk.2.1, fun k => Iff.rfl⟩
        rcases hdk.2.2 k ⟨B, hB, hk⟩ with h1 | h1
        · exact HDI.out.z k h1 (hkD ▸ hd2)
        · omega
      · have m1 : Mdh S w w1 := HG1.out.mdh _
        have m2 := m1.trans (hFm.mono (fun k hk => hk.1))
        have hSg : S g := (HF.out.2.2.2 g).2 ⟨rowA 85 1 Y.sv X.slots.length (Y.SL.map slV), by simp [Lay.list, Lay.hd], by show Y.sv.ownBlock = _; rw [HY.out.2.2.2.1]; rfl⟩
        have m3 := m2.setCell (p := ⟨g, i, none⟩) hSg (.slice none 0 0)
        exact m3.then ((Mdh.refl (fun k => k = D) _).putObj rfl _) (fun k hk => .inr (by have := HG1.out.sz; omega))
      · intro k hk
        have hz := HG1.out.sz
        have hz2 := hFm.size
        rcases hdk.2.2 k hk with h1 | h1
        · exact (HDI.out.n k h1).imp (fun h => h) (fun h => by omega)
        · exact .inr (by omega)
end Go.Proofs.YtemjnppplmankaaGreat

/- How many an index can have of a key, in a slot, and keys. No walk. -/
set_option linter.unusedVariables false
set_option linter.unusedSimpArgs false
namespace Go.Proofs.YtemjnppplmankaaGreat

theorem of_len {X : IX} (h : X.Wf) (k : ByteArray) : (X.of k).length ≤ X.ents.length := by
  rw [show X.ents.length = (X.keys.flatMap Prod.snd).length from h.v.length_eq.symm]
  unfold IX.of
  cases hl : look ltS X.keys k with
  | none => simp
  | some l =>
    have hx := look_some hl
    have h1 : l ∈ X.keys.map Prod.snd := List.mem_map.2 ⟨_, List.mem_of_getElem? hx, rfl⟩
    exact (List.sublist_flatten_of_mem h1).length_le
theorem slot_len_le (X : IX) (s : Int) : (X.slot s).length ≤ X.ents.length := by
  unfold IX.slot
  split
  · rw [List.getD_eq_getElem?_getD]
    cases hl : X.slots[s.toNat]? with
    | none => simp
    | some l => exact (List.sublist_flatten_of_mem (List.mem_of_getElem? hl)).length_le
  · simp
theorem pairs_len : ∀ (L : List (ByteArray × List En)), (∀ x ∈ L, x.2 ≠ []) → L.length ≤ (L.flatMap Prod.snd).length
  | [], _ => by simp
  | x :: L, h => by
    have h1 := pairs_len L (fun y hy => h y (List.mem_cons_of_mem _ hy))
    have h2 := List.length_pos_iff.2 (h x (by simp))
    simp only [List.flatMap_cons, List.length_append, List.length_cons]
    omega
theorem ks_len {X : IX} (h : X.Wf) : X.ks.length ≤ X.ents.length := by
  rw [show X.ents.length = (X.keys.flatMap Prod.snd).length from h.v.length_eq.symm]
  unfold IX.ks
  rw [List.length_map]
  exact pairs_len _ (fun x hx => (h.k x hx).ne)
end Go.Proofs.YtemjnppplmankaaGreat
