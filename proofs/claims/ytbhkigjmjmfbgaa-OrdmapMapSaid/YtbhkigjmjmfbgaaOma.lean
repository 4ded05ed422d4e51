/- OrdmapMap answers true: the stage's theorem. -/
import Derived.Test.YtbhkigjmjmfbgaaOcs
import Derived.Test.YtbhkigjmjmfbgaaOsk
import Derived.RangeFuncCalls
set_option linter.unusedVariables false
set_option linter.unusedSimpArgs false
namespace Go.Proofs.Ytbhkigjmjmfbgaa
open Go.RowKit Go.Shelf Go.Maps
attribute [local go_sem] OvM cell_ovm obj_ovm
attribute [local go_sem] Oper.semAt_some
set_option maxRecDepth 40000 in
theorem gm_at_run {w : World} {b n : Nat} {L : List Itii} (h : GM w b n L) (k : Int) (hk : (Lit.int .i64 k).wf = true) : (Instr.lookup 24 (.map (some b)) (.int .i64 k) false).run Try.prog w = .ok (.int .i64 ((look ltZ L k).getD 0)) w := by
  obtain ⟨D, h1, h2⟩ := h
  obtain ⟨c, hrun, hat, _⟩ := h1.lookup_int lawI Try.underlying24 Try.underlying3 (zeroI w) (keyOf_int_mk Try.underlying3 hk)
  rw [h2.at0] at hat
  injection hat with hat
  injection hat with _ hat
  subst hat
  exact hrun
theorem own_cellM {w : World} {e : TypeId} {a : Option Addr} {k cap j : Nat} {xs : List Value} (h : Own w e 1 (.slice a k cap) k xs) (hj : j < k) : ∃ g, a = some ⟨g, 0, none⟩ ∧ w.cell? ⟨g, j, none⟩ = xs[j]? := by
  rcases h.2 with ⟨h0, _⟩ | ⟨g, cap', cur, hv, _, hb, hle, _, hs, ht⟩
  · cases h0; omega
  · simp only [Value.slice.injEq, true_and] at hv
    refine ⟨g, hv.1, ?_⟩
    rw [(cellsOf hb).1, ← ht, List.getElem?_take_of_lt (by omega)]
    simp
set_option maxRecDepth 100000 in
set_option maxHeartbeats 16000000 in
theorem Map_any (a : Option Addr) (len cap : Nat) (l : List Cl) (w : World) (hl : l.length = len) (hle : len ≤ cap) (hcap : cap ≤ maxLen) (hs : CallsAt w a l) :
    Calls Try.prog 8 #[.slice a len cap] w fun e w' => e = .returned (.bool true) ∧ Gr w w' := by
  refine calls_of_wp_marks Try.func8 rfl ?_
  simp only [Try.ntmps8, List.size_toArray, List.length_cons, List.length_nil, Nat.reduceAdd, Nat.reduceSub, Array.replicate_succ, Array.replicate_zero, List.push_toArray, List.append_toArray, List.nil_append, List.cons_append]
  obtain ⟨wa, hwa⟩ : ∃ wa, wa = w.alloc (.cells #[.bool false] 4) := ⟨_, rfl⟩
  obtain ⟨br, hbr⟩ : ∃ b, b = w.heap.size := ⟨_, rfl⟩
  have HWA : Hid (Gr w wa ∧ wa.heap[br]? = some (.cells #[.bool false] 4) ∧ br < wa.heap.size ∧ w.heap.size ≤ br ∧ wa = w.alloc (.cells #[.bool false] 4) ∧ br = w.heap.size) := Lib.hid ⟨by rw [hwa]; exact (Gr.refl w).alloc _, by rw [hwa, hbr]; exact blkNew _ _, by rw [hwa, hbr]; simp, by omega, hwa, hbr⟩
  clear hwa hbr
  have HS := Lib.hid hs
  have HL := Lib.hid hl
  have HCAP := Lib.hid (And.intro hle hcap)
  clear hs hl hle hcap
  go_wp2_with fail
  rw [← HWA.out.2.2.2.2.1, ← HWA.out.2.2.2.2.2]
  refine (filled_any a len cap l wa HL.out HCAP.out.1 HCAP.out.2 (HS.out.grc HWA.out.1)).mono ?_
  rintro e w1 ⟨b, v, bw, n, L, rfl, hF, hn⟩
  have hLn := hF.gm.len_le
  have HF := Lib.hid hF
  clear hF
  go_wp2_with fail

  obtain ⟨w2, hw2⟩ : ∃ y, y = (w1.alloc (.cells #[.pointer (some ⟨b, 0, none⟩)] 23)).alloc (.cells #[.map (some bw)] 24) := ⟨_, rfl⟩
  obtain ⟨b3, hb3⟩ : ∃ k, k = w1.heap.size := ⟨_, rfl⟩
  obtain ⟨b4, hb4⟩ : ∃ k, k = b3 + 1 := ⟨_, rfl⟩
  have H2 : Hid (FS wa w2 b v bw n L ∧ w2.heap[b3]? = some (.cells #[.pointer (some ⟨b, 0, none⟩)] 23) ∧ w2.heap[b4]? = some (.cells #[.map (some bw)] 24)) := Lib.hid ⟨by rw [hw2]; exact HF.out.gr (((Gr.refl _).alloc _).alloc _), by rw [hw2, hb3]; exact blkOld (blkNew _ _), by
    rw [hw2, hb4, hb3]
    have := blkNew (w1.alloc (.cells #[.pointer (some ⟨b, 0, none⟩)] 23)) (.cells #[.map (some bw)] 24)
    rwa [World.size_alloc] at this⟩
  rw [← hw2]
  rw [← hb3, ← hb4]
  clear hw2 HF
  have LH : Hid (b3 < b4) := Lib.hid (by omega)
  clear hb3 hb4
  have HG := Gr.refl w2.drew
  have c3 := (box1 H2.out.2.1).1
  have c4 := (box1 H2.out.2.2).1
  have hml : ∀ g ty, (Builtin.len_ #[24] ty #[.map (some bw)]).run Try.prog (ovm (fun _ => False) w2 g) = .ok (.int .i64 L.length) (ovm (fun _ => False) w2 g) := fun g ty => gm_len_run (H2.out.1.gm.mdh (ovm_md _ w2 g) (fun h => h)) ty
  refine wp_region_flo (fun _ => False) [] [] (by kernel_rfl) (by kernel_rfl) (fun _ h => h.elim) ?_
  refine flo_seg 4 rfl ?_
  simp only [List.take_succ_cons, List.take_zero, List.drop_succ_cons, List.drop_zero]
  repeat (go_big_quiet_step (fail))
  refine wpQuiet_nil ?_
  refine flo_eff rfl rfl rfl rfl (fun K hK => ?_)
  go_wp2_with ((go_at_call 16; refine (Lenii _ v L _ (.inl ⟨b, rfl, H2.out.1.om.gr (by (repeat (first | (with_reducible exact Gr.refl _) | assumption | (with_reducible apply Gr.from_drew) | (with_reducible apply Gr.alloc) | (with_reducible apply Gr.drew) | (with_reducible refine Gr.trans ?_ (by assumption)) | (with_reducible refine Gr.setCell ?_ (by omega) _))))⟩)).mono ?_; rintro e wz ⟨rfl, rfl⟩))
  refine ⟨by (first | (refine Gr.mdh ?_ _; (repeat (first | (with_reducible exact Gr.refl _) | assumption | (with_reducible apply Gr.from_drew) | (with_reducible apply Gr.alloc) | (with_reducible apply Gr.drew) | (with_reducible refine Gr.trans ?_ (by assumption)) | (with_reducible refine Gr.setCell ?_ (by omega) _))); done) | (repeat (first | (with_reducible exact Mdh.refl _ _) | (with_reducible refine Mdh.setCell ?_ (by simp) _) | (with_reducible refine Mdh.setNew ?_ (by simp) _) | (with_reducible apply Mdh.alloc) | (with_reducible apply Mdh.drew) | (with_reducible refine Mdh.gr ?_ (by assumption))))), ?_⟩
  refine flo_seg 4 rfl ?_
  simp only [List.take_succ_cons, List.take_zero, List.drop_succ_cons, List.drop_zero]
  repeat (go_big_quiet_step (fail))
  refine wpQuiet_nil ?_
  refine flo_nil ?_

  have H2d : Hid (FS wa w2.drew b v bw n L ∧ w2.drew.heap[b3]? = some (.cells #[.pointer (some ⟨b, 0, none⟩)] 23) ∧ w2.drew.heap[b4]? = some (.cells #[.map (some bw)] 24)) := Lib.hid ⟨H2.out.1.gr (Gr.drew (Gr.refl w2)), Gr.blk (Gr.drew (Gr.refl w2)) H2.out.2.1, Gr.blk (Gr.drew (Gr.refl w2)) H2.out.2.2⟩
  clear HG hml c3 c4 H2
  generalize w2.drew = w3 at *
  have c4 := (box1 H2d.out.2.2).1
  go_wp2_with fail
  refine (KeysC bw _).mono ?_
  rintro e w4 ⟨rfl, hw4⟩
  have H4 : Hid (FS wa w4 b v bw n L ∧ w4.heap[b3]? = some (.cells #[.pointer (some ⟨b, 0, none⟩)] 23) ∧ w4.heap[b4]? = some (.cells #[.map (some bw)] 24) ∧ w4.cell? ⟨w3.heap.size, 0, none⟩ = some (.map (some bw))) := Lib.hid (by
    have g4 : Gr w3 w4 := by rw [hw4]; exact (Gr.refl w3).alloc _
    exact ⟨H2d.out.1.gr g4, g4.blk H2d.out.2.1, g4.blk H2d.out.2.2, by rw [hw4]; exact (box1 (blkNew w3 _)).1⟩)
  clear hw4 c4 H2d
  generalize w3.heap.size = Bm at *
  go_wp2_with fail
  refine (SortedC bw n L Bm w4 H4.out.1.gm (by omega) H4.out.2.2.2).mono ?_
  rintro e w5 ⟨sv, rfl, hown, hnew, hg5⟩
  obtain ⟨sa, sc, rfl, hsc, hsm⟩ := own_val hown
  have H5 : Hid (FS wa w5 b v bw n L ∧ w5.heap[b3]? = some (.cells #[.pointer (some ⟨b, 0, none⟩)] 23) ∧ w5.heap[b4]? = some (.cells #[.map (some bw)] 24) ∧ Own w5 3 1 (.slice sa L.length sc) L.length ((L.map Prod.fst).map iv)) := Lib.hid ⟨H4.out.1.gr hg5, hg5.blk H4.out.2.1, hg5.blk H4.out.2.2.1, hown⟩
  unfold maxLen at hsm
  clear hown hnew hg5 H4
  have c3 := (box1 H5.out.2.1).1
  have h3l := blkLt H5.out.2.1
  go_wp2_with fail
  refine (AllOii _ _).mono ?_
  rintro e w6 ⟨bb, rfl, hbb, hlb, hg6⟩
  obtain ⟨b6, hb6⟩ : ∃ k, k = w5.heap.size := ⟨_, rfl⟩
  obtain ⟨b7, hb7⟩ : ∃ k, k = b6 + 1 := ⟨_, rfl⟩
  have x6 : w6.heap[b6]? = some (.cells #[.slice sa L.length sc] 30) := by rw [hb6]; exact hg6.blk (blkOld (blkNew w5 _))
  have x7 : w6.heap[b7]? = some (.cells #[.int .i64 0] 3) := by
    rw [hb7, hb6]
    have := hg6.blk (blkNew (w5.alloc (.cells #[.slice sa L.length sc] 30)) (.cells #[.int .i64 0] 3))
    rwa [World.size_alloc] at this
  have g6 : Gr w5 w6 := (((Gr.refl w5).alloc _).alloc _).trans hg6
  simp only [World.size_alloc] at hlb
  rw [← hb6, ← hb7]
  have HLL : Hid (w5.heap.size ≤ b6 ∧ b6 < b7 ∧ b7 < bb) := Lib.hid (by omega)
  have H6 : Hid (FS wa w6 b v bw n L ∧ w6.heap[b3]? = some (.cells #[.pointer (some ⟨b, 0, none⟩)] 23) ∧ w6.heap[b4]? = some (.cells #[.map (some bw)] 24) ∧ Own w6 3 1 (.slice sa L.length sc) L.length ((L.map Prod.fst).map iv)) := Lib.hid ⟨H5.out.1.gr g6, g6.blk H5.out.2.1, g6.blk H5.out.2.2.1, H5.out.2.2.2.gr g6⟩
  have HLT : Hid (b < w5.heap.size ∧ (∀ k, v.ownBlock = some k → k < w5.heap.size) ∧ bw < w5.heap.size ∧ b3 < w5.heap.size ∧ b4 < w5.heap.size ∧ (∀ k, (Value.slice sa L.length sc).ownBlock = some k → k < w5.heap.size)) := Lib.hid ⟨H5.out.1.low.1, H5.out.1.low.2.1, H5.out.1.low.2.2, blkLt H5.out.2.1, blkLt H5.out.2.2.1, fun k hk => H5.out.2.2.2.lt hk⟩
  have X6 := Lib.hid x6
  have X7 := Lib.hid x7
  have HBB := Lib.hid hbb
  have HS56 := Lib.hid g6.sz
  clear hb6 hb7 x6 x7 g6 hg6 hlb hbb H5 c3 h3l
  go_wp2_with fail
  refine (yieldsTwoii _ _ _).mono ?_
  rintro e w7 ⟨rfl, rfl⟩
  have HA : Hid (∀ k, (k = bb ∨ OMB (some ⟨b, 0, none⟩) v k) → k < w6.heap.size ∧ k ≠ b7) := Lib.hid (by
    obtain ⟨m1, m2, m3⟩ := HLL.out
    obtain ⟨l1, l2, _⟩ := HLT.out
    have l8 := HS56.out
    have l9 := World.block_lt_of_cell? w6 ⟨bb, 0, none⟩ HBB.out
    simp only at l9
    rintro k (rfl | ⟨ax, ha, hk⟩ | hk)
    · exact ⟨l9, by omega⟩
    · obtain rfl := Option.some.inj ha
      replace hk : k = b := hk
      exact ⟨by omega, by omega⟩
    · have := l2 k hk
      exact ⟨by omega, by omega⟩)
  go_wp2_with fail
  apply wp_rangeFunc_zb (gf := 55) (lb := #[.pointer (some ⟨bb, 0, none⟩)]) rfl (enters_of Try.func55 (by kernel_rfl) rfl) (SeqAii (some ⟨b, 0, none⟩) v L (by omega) bb w6 (.inl ⟨b, rfl, H6.out.1.om⟩) HBB.out) (Mdh.refl _ w6) (fun k hk => (HA.out k hk).1) (fun _ => rfl)
    (fun Z pre X => (X.heap[b7]? = some (.cells #[.int .i64 pre.length] 3) ∧ ¬ Z b7) ∧ Frm w6 (fun k => k = b7) Z X)
    (fun _ _ _ => False) (fun _ _ _ => False)
    ((Apart.block _ _).and (Frm.apart _ _)) apart_no apart_no ⟨⟨X7.out, fun h => h⟩, Frm.refl _ _⟩
    _ ?assign ?body ?hend ?hret
  case assign =>
    intro l x X K hK
    dsimp only [encOii]
    gi_wp2
    exact hK
  case hret => intro _ _ _ _ _ _ _ h; exact h.elim
  case body =>
    intro l Z pre x X hI hsp
    obtain ⟨⟨hb, hz⟩, hF⟩ := hI
    obtain ⟨m1, m2, m3⟩ := HLL.out
    obtain ⟨l1, l2, l3, l4, l5, l6⟩ := HLT.out
    obtain ⟨c7, f7⟩ := box1 hb
    obtain ⟨c3, _⟩ := box1 (hF.m.blk H6.out.2.1 (by omega))
    obtain ⟨c4, _⟩ := box1 (hF.m.blk H6.out.2.2.1 (by omega))
    obtain ⟨c6, _⟩ := box1 (hF.m.blk X6.out (by omega))
    obtain ⟨x1, x2⟩ := x
    have hpl : pre.length < L.length := by have := hsp.length_le; simp at this; omega
    have hpl2 : ¬ (L.length : Int) ≤ (pre.length : Int) := by omega
    have hpl3 : (pre.length : Int) < L.length := by omega
    have hat : L[pre.length]? = some (x1, x2) := by
      obtain ⟨tl, ht⟩ := hsp
      rw [← ht]; simp
    have hmem : (x1, x2) ∈ L := hsp.subset (by simp)
    obtain ⟨⟨i1, i2⟩, ⟨i3, i4⟩⟩ := H6.out.1.bnd _ hmem
    have hlook := (look_mem ordZ H6.out.1.om.srt x1 x2).2 hmem
    have F1 : Hid ((look ltZ L x1).getD 0 = x2) := Lib.hid (by rw [hlook]; rfl)
    have F2 : Hid (lookVii L x1 = .int .i64 x2) := Lib.hid (by rw [lookV_getD, hlook]; rfl)
    have F3 : Hid (hasBii L x1 = true) := Lib.hid (by unfold hasBii; rw [hlook]; rfl)
    have o1 := H6.out.2.2.2.mdh hF.m (fun k hk e => by have := l6 k hk; omega)
    obtain ⟨g1, hg1, d1⟩ := own_cellM o1 hpl
    rw [List.getElem?_map, List.getElem?_map, hat, Option.map_some, Option.map_some] at d1
    obtain rfl := hg1
    have HF := Lib.hid hF
    have HZ := Lib.hid hz
    have HB := Lib.hid hb
    have HGM : Hid (GM X bw n L) := Lib.hid (H6.out.1.gm.mdh hF.m (by omega))
    have HOM : Hid (OMii X b v L) := Lib.hid (H6.out.1.om.mdh hF.m (fun k hk e => by rcases hk with rfl | hk; · omega
                                                                                     · have := l2 k hk; omega))
    have hlk := gm_at_run HGM.out x1 (WalkArith.wf_i64 (by omega))
    rw [F1.out] at hlk
    clear hF hz hb o1 hsp hmem hat hlook
    gi_wp2_with (first
      | (refine ⟨trivial, ?_⟩; gi_at_call 17; refine (CallsIn.inRound l (callsIn_wide.2 (Getii (some ⟨b, 0, none⟩) v L x1 X (.inl ⟨b, rfl, HOM.out⟩) (by omega)))).mono ?_; rintro e w9 ⟨rfl, hg9⟩; rw [F2.out, F3.out]; have HG9 := Lib.hid hg9; have d7 := hg9.keep c7; have e7 := (box1 (hg9.blk HB.out)).2; clear hg9)
      | fail)
    have b9 := HG9.out.blk HB.out
    have hm : Mdh (fun k => k = b7 ∨ X.heap.size ≤ k) X (w9.setCell ⟨b7, 0, none⟩ (.int .i64 ((pre.length : Int) + 1))) := ((HG9.out.mdh (fun k => k = b7 ∨ X.heap.size ≤ k))).setCell (p := ⟨b7, 0, none⟩) (.inl rfl) _
    have hm' : Mdh (fun k => k = b7) X (w9.setCell ⟨b7, 0, none⟩ (.int .i64 ((pre.length : Int) + 1))) := (HG9.out.mdh (fun k => k = b7)).setCell (p := ⟨b7, 0, none⟩) rfl _
    refine ⟨hm'.mono (fun k hk => by subst hk; exact ⟨fun h => (HA.out _ h).2 rfl, HZ.out⟩), ⟨?_, HZ.out⟩, HF.out.step hm' (fun k hk => .inl hk)⟩
    have := blkSet (j := 0) (u := .int .i64 ((pre.length : Int) + 1)) b9
    simpa using this
  case hend =>
    intro Z D xs X hD hZD hcase hdef
    obtain ⟨hxs, ⟨hb, _⟩, hF⟩ := hcase.elim (fun h => h) (fun h => h.2.elim)
    have hxs' : xs = L := hxs
    subst hxs'
    have hbX : X.heap[b6]? = some (.cells #[.slice sa xs.length sc] 30) := hF.m.blk X6.out (by have := HLL.out; omega)
    have HB := Lib.hid (And.intro hb hbX)
    have hGX : Gr wa X := H6.out.1.g.md hF.m (fun k hk => by have := HLL.out; have := HLT.out; have := H6.out.1.nb; omega)
    have HGX := Lib.hid hGX
    have HD : Hid (w6.heap.size ≤ D ∧ X.heap[D]? = some (.deferred (some []))) := Lib.hid ⟨hD, hdef⟩
    clear hF hcase hdef hD hZD hxs hb hbX hGX
    have c6 := (box1 HB.out.2).1
    have c7 := (box1 HB.out.1).1
    dsimp only
    go_wp2_with fail
    refine (works_any _).mono ?_
    rintro e w8 ⟨rfl, hg8⟩
    have HG8 := Lib.hid hg8
    have b9 := (HGX.out.trans hg8).blk HWA.out.2.1
    obtain ⟨c9, f9⟩ := box1 b9
    have HB9 := Lib.hid b9
    clear b9 hg8
    go_wp2_with fail
    have e3 := HWA.out.2.2.1
    have e4 := HWA.out.2.2.2.1
    have e5 := H6.out.1.g.sz
    have e6 := HD.out.1
    have n0 : D ≠ br := by omega
    refine retM1 (D := D) (v := .bool true) rfl (blkSetO (HG8.out.blk HD.out.2) (by simp; omega)) ?_ ⟨rfl, ?_⟩
    · have h6 := blkSet (j := 0) (u := .bool true) HB9.out
      have h6' : ((w8.setCell ⟨br, 0, none⟩ (.bool true)).putObj D (.deferred none)).heap[br]? = some (.cells #[.bool true] 4) :=
        (World.putObj_heap_other n0.symm).trans (by simpa using h6)
      have := (box1 h6').1
      simp [results, Try.results8, go_sem, this]
    · exact (((HWA.out.1.trans HGX.out).trans HG8.out).setCell (by simp; omega) _).putObj (by omega) _
end Go.Proofs.Ytbhkigjmjmfbgaa
