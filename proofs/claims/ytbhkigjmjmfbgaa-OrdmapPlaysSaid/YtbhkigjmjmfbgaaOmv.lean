/- Contracts of the reference's map: New, Set, Delete, Copy. -/
import Derived.Test.YtbhkigjmjmfbgaaOmt
import Derived.Test.YtbhkigjmjmfbgaaTl
import Derived.Test.YtbhkigjmjmfbgaaAppv
import Derived.Deep.DeepMust
set_option linter.unusedVariables false
set_option linter.unusedSimpArgs false
namespace Go.Proofs.Ytbhkigjmjmfbgaa
open Go.RowKit
attribute [local go_sem] OvM cell_ovm obj_ovm

theorem ksL_one (L : List Itss) : ∀ u ∈ ksL L, u.oneCell' = true := fun u hu => by simp only [ksL, List.mem_map] at hu; obtain ⟨x, _, rfl⟩ := hu; rfl
theorem vsL_one (L : List Itss) : ∀ u ∈ vsL L, u.oneCell' = true := fun u hu => by simp only [vsL, List.mem_map] at hu; obtain ⟨x, _, rfl⟩ := hu; rfl
/-- What Set and Delete of the reference leave. -/
def RMPost (b : Nat) (kv vv : Value) (L' : List Itss) (w w' : World) : Prop := ∃ kv' vv', RM w' b kv' vv' L' ∧ (∀ g, kv'.ownBlock = some g → vv'.ownBlock ≠ some g) ∧
  (∀ g, kv'.ownBlock = some g → kv.ownBlock = some g ∨ w.heap.size ≤ g) ∧ (∀ g, vv'.ownBlock = some g → vv.ownBlock = some g ∨ w.heap.size ≤ g) ∧ Mdh (fun k => k = b ∨ vv.ownBlock = some k) w w'
theorem rNew (w : World) : Calls Try.prog 29 #[] w fun e w' => e = .returned (.pointer (some ⟨w.heap.size, 0, none⟩)) ∧ RM w' w.heap.size (.slice none 0 0) (.slice none 0 0) [] ∧ Gr w w' := by
  go_enter Try.func29, Try.ntmps29
  go_wp2
  go_ret
  exact ⟨rfl, ⟨blkNew _ _, ⟨rfl, .inl ⟨rfl, rfl⟩⟩, ⟨rfl, .inl ⟨rfl, rfl⟩⟩, List.Pairwise.nil⟩, by (repeat (first | (with_reducible exact Gr.refl _) | assumption | (with_reducible apply Gr.from_drew) | (with_reducible apply Gr.alloc) | (with_reducible apply Gr.drew) | (with_reducible refine Gr.trans ?_ (by assumption)) | (with_reducible refine Gr.setCell ?_ (by omega) _)))⟩

set_option maxRecDepth 40000 in
set_option maxHeartbeats 4000000 in
theorem rSet (b : Nat) (kv vv : Value) (L : List Itss) (k u : ByteArray) (w : World) (h : RM w b kv vv L) (hap : ∀ g, kv.ownBlock = some g → vv.ownBlock ≠ some g) (hn : L.length ≤ 100000) :
    Calls Try.prog 31 #[.pointer (some ⟨b, 0, none⟩), .string k, .string u] w fun e w' => e = .returned (.tuple #[lookVss L k, .bool (hasBss L k), .int .i64 0]) ∧ RMPost b kv vv (putL ltS L k u) w w' := by
  have H := Lib.hid h
  have HV : Hid (RV w (some ⟨b, 0, none⟩) L) := Lib.hid (.inl ⟨b, kv, vv, rfl, h⟩)
  have HAP := Lib.hid hap
  have hr := rk_le (lt := ltS) L k
  obtain ⟨r, hrd⟩ : ∃ r, r = rk ltS L k := ⟨_, rfl⟩
  have HRK := Lib.hid hrd
  rw [← hrd] at hr
  have HSRT := Lib.hid (put_srt ordS h.srt k u)
  obtain ⟨i0, hi, hz0, hz1, hz2⟩ := info_parts Try.infoStr
  have hbl := blkLt h.blk
  clear hap
  cases hl : look ltS L k with
  | some u0 =>
    have HB := Lib.hid (show hasBss L k = true by unfold hasBss; rw [hl]; rfl)
    have HL := Lib.hid (show lookVss L k = .string u0 by unfold lookVss; rw [hl])
    have HP := Lib.hid (show putL ltS L k u = L.set r (k, u) by unfold putL; rw [hl, HRK.out])
    have hx : L[r]? = some (k, u0) := by rw [HRK.out]; exact look_some hl
    have hlt : r < L.length := (List.getElem?_eq_some_iff.1 hx).1
    rw [HB.out, HL.out]
    obtain ⟨a', cap', rfl, hc', hm', hat'⟩ := own_at h.ov
    obtain ⟨g, rfl, d1⟩ := hat' r _ (by rw [vsL, List.getElem?_map, hx]; rfl)
    have c2 := ((cellsOf h.blk).1 2).trans (show _ = some (Value.slice (some ⟨g, 0, none⟩) L.length cap') from rfl)
    obtain ⟨cur, hgc, _⟩ := h.ov.parts
    have jf := (cellsOf hgc).2
    have HNE := Lib.hid (own_ne h.ov h.blk (by decide))
    have hlt' : (r : Int) < L.length := by omega
    have HX := Lib.hid hx
    have HLT := Lib.hid hlt
    unfold maxLen at hm'
    clear hl hat' hgc h hrd hx
    go_enter Try.func31, Try.ntmps31
    go_wp2_with (first | (go_at_call 81; refine (rvalid _ L _ HV.out).mono ?_; rintro e w1 ⟨rfl, rfl⟩) | (go_at_call 37; refine (rRank _ L k _ HV.out).mono ?_; rintro e w1 ⟨rfl, rfl⟩; rw [← HRK.out]) | (go_at_call 82; refine (rhas _ L k _ HV.out).mono ?_; rintro e w1 ⟨rfl, rfl⟩; rw [HB.out]))
    go_ret3
    have hgb : g ≠ b := fun e => HNE.out (by rw [e]; rfl)
    have hL : (L.set r (k, u)).length = L.length := by simp
    refine ⟨rfl, kv, .slice (some ⟨g, 0, none⟩) L.length cap', ⟨?_, ?_, ?_, HSRT.out⟩, HAP.out, fun g hg => .inl hg, fun g hg => .inl hg, ?_⟩
    · exact blkSetO H.out.blk (fun e => hgb e.symm)
    · rw [HP.out, hL, show ksL (L.set r (k, u)) = ksL L by
        rw [ksL, ksL, List.map_set]
        have := HX.out
        refine List.ext_getElem? fun j => ?_
        rw [List.getElem?_set]
        split
        · rename_i e; subst e; rw [List.getElem?_map, this]; simp [HLT.out]
        · rfl]
      exact H.out.ok.other (p := ⟨g, r, none⟩) (fun h => HAP.out g h rfl) _
    · rw [HP.out, hL, show vsL (L.set r (k, u)) = (vsL L).set r (.string u) by rw [vsL, vsL, List.map_set]]
      exact H.out.ov.set (by simpa [vsL] using HLT.out) _
    · exact (Mdh.refl _ w).setCell (p := ⟨g, r, none⟩) (.inr rfl) _
  | none =>
    have HB := Lib.hid (show hasBss L k = false by unfold hasBss; rw [hl]; rfl)
    have HL := Lib.hid (show lookVss L k = .string ⟨#[]⟩ by unfold lookVss; rw [hl])
    have HP := Lib.hid (show putL ltS L k u = L.take r ++ [(k, u)] ++ L.drop r by unfold putL; rw [hl, HRK.out])
    rw [HB.out, HL.out]
    obtain ⟨x1, n1, s1, src1, _⟩ := slice_take Try.underlying143 hi hz1 h.ok (ksL_one L) hr
    obtain ⟨x2, n2, s2, src2, _⟩ := slice_take Try.underlying143 hi hz1 h.ov (vsL_one L) hr
    obtain ⟨x3, n3, s3, src3, z3⟩ := slice_drop Try.underlying143 hi hz1 h.ok (ksL_one L) hr
    obtain ⟨x4, n4, s4, src4, z4⟩ := slice_drop Try.underlying143 hi hz1 h.ov (vsL_one L) hr
    have y3 : ∀ ad, x3 = some ad → ¬ ad.block = b := fun ad e hb => own_ne h.ok h.blk (by decide) (by rw [← hb]; exact z3 ad e)
    have y4 : ∀ ad, x4 = some ad → ¬ ad.block = b := fun ad e hb => own_ne h.ov h.blk (by decide) (by rw [← hb]; exact z4 ad e)
    rw [Nat.mul_one] at src1 src2 src3 src4
    have HS := Lib.hid (And.intro src1 (And.intro src2 (And.intro src3 src4)))
    have HSB : Hid ((∀ ad, x3 = some ad → ¬ ad.block = b) ∧ ∀ ad, x4 = some ad → ¬ ad.block = b) := Lib.hid ⟨y3, y4⟩
    have c1 := ((cellsOf h.blk).1 1).trans (show _ = some kv from rfl)
    have c2 := ((cellsOf h.blk).1 2).trans (show _ = some vv from rfl)
    have hrL : (r : Int) ≤ L.length := by omega
    have hnL : (L.length : Int) ≤ 100000 := by omega
    clear hl h hrd src1 src2 src3 src4 y3 y4 z3 z4
    go_enter Try.func31, Try.ntmps31
    go_wp2_with (first
      | (go_at_call 81; refine (rvalid _ L _ HV.out).mono ?_; rintro e w1 ⟨rfl, rfl⟩)
      | (go_at_call 37; refine (rRank _ L k _ HV.out).mono ?_; rintro e w1 ⟨rfl, rfl⟩; rw [← HRK.out])
      | (go_at_call 82; refine (rhas _ L k _ HV.out).mono ?_; rintro e w1 ⟨rfl, rfl⟩; rw [HB.out])
      | (at_builtin; refine wpList_appv _ rfl (.tmp 37) (.tmp 43) 143 rfl 9 i0 _ 1 16 Try.underlying143 hi hz0 hz1 hz2 rfl (by decide) (.slice (some ⟨w.heap.size, 0, none⟩) 0 0) 0 [] rfl (Nw.made (Nat.le_refl w.heap.size)).own x1 r n1 ((ksL L).take r) rfl (HS.out.1.gr ((Gr.refl w).alloc _)) (by simp only [maxLen]; omega) (by omega) ?_; intro k1 w1 hA1; have g1 := hA1.gw (Nw.made (Nat.le_refl _)) ((Gr.refl w).alloc _); have N1 := Lib.hid (hA1.nw (Nw.made (Nat.le_refl w.heap.size)) (by simp)); have HG1 := Lib.hid g1; have d2 := g1.keep c2; have hb1 : b < w1.heap.size := (by have := g1.sz; omega); clear hA1 g1)
      | (at_builtin; refine wpList_appv _ rfl (.tmp 45) (.tmp 51) 143 rfl 9 i0 _ 1 16 Try.underlying143 hi hz0 hz1 hz2 rfl (by decide) (.slice (some ⟨w1.heap.size, 0, none⟩) 0 0) 0 [] rfl (Nw.made HG1.out.sz).own x2 r n2 ((vsL L).take r) rfl (HS.out.2.1.gr (HG1.out.alloc _)) (by simp only [maxLen]; omega) (by omega) ?_; intro k2 w2 hA2; have g2 := hA2.gw (Nw.made HG1.out.sz) (HG1.out.alloc _); have N2 := Lib.hid (hA2.nw (Nw.made HG1.out.sz) (by have := HG1.out.sz; simp; omega)); have N1' := Lib.hid ((N1.out.gr ((Gr.refl _).alloc _)).mdh (hA2.mdh (fun g h => h)) (fun q hq hr => by have := N1.out.own.lt hq; simp [Value.ownBlock] at hr; omega)); have HG2 := Lib.hid g2; have D2 := Lib.hid (hA2.nw (w0 := w1) (Nw.made (Nat.le_refl _)) (by simp)).new; have e1 := g2.keep c1; have hb2 : b < w2.heap.size := (by have := g2.sz; omega); clear hA2 g2 d2 hb1))
    replace N1' : Hid (Nw w w2 9 1 k1 r ((ksL L).take r)) := Lib.hid (by have := N1'.out; rwa [Nat.zero_add, List.nil_append] at this)
    replace N2 : Hid (Nw w w2 9 1 k2 r ((vsL L).take r)) := Lib.hid (by have := N2.out; rwa [Nat.zero_add, List.nil_append] at this)
    have HM2 : Hid (Mdh (fun q => q = b) w w2) := Lib.hid (HG2.out.mdh _)
    have SRC : Hid (∀ x, Mdh (fun q => q = b) w x → SrcAt x 1 x3 (L.length - r) ((ksL L).drop r)) := Lib.hid (fun x m => HS.out.2.2.1.mdh m (HSB.out.1))
    have nk1 : ¬ k1.ownBlock = some b := fun h => by have := N1'.out.new _ h; omega
    refine wp_region_flt 12 (fun q => k1.ownBlock = some q) [] [] (by kernel_rfl) (by kernel_rfl) (by decide) (by kernel_rfl) (fun q hq => N1'.out.own.lt hq) ?_
    simp only [List.take_succ_cons, List.take_zero, List.drop_succ_cons, List.drop_zero]
    refine flo_seg 3 rfl ?_
    simp only [List.take_succ_cons, List.take_zero, List.drop_succ_cons, List.drop_zero]
    repeat (go_big_quiet_step (fail))
    refine wpQuiet_nil ?_
    refine flo_eff rfl rfl rfl rfl (fun K hK => ?_)
    go_wp2
    refine ⟨by (first | (refine Gr.mdh ?_ _; (repeat (first | (with_reducible exact Gr.refl _) | assumption | (with_reducible apply Gr.from_drew) | (with_reducible apply Gr.alloc) | (with_reducible apply Gr.drew) | (with_reducible refine Gr.trans ?_ (by assumption)) | (with_reducible refine Gr.setCell ?_ (by omega) _))); done) | (repeat (first | (with_reducible exact Mdh.refl _ _) | (with_reducible refine Mdh.setCell ?_ (by simp) _) | (with_reducible refine Mdh.setNew ?_ (by simp) _) | (with_reducible apply Mdh.alloc) | (with_reducible apply Mdh.drew) | (with_reducible refine Mdh.gr ?_ (by assumption))))), ?_⟩
    refine flo_eff rfl rfl rfl rfl (fun K hK => ?_)
    refine wp_appv _ (.tmp 54) (.tmp 56) 143 rfl 9 i0 _ 1 16 Try.underlying143 hi hz0 hz1 hz2 rfl (by decide) k1 r ((ksL L).take r) rfl (N1'.out.own.gr (by (repeat (first | (with_reducible exact Gr.refl _) | assumption | (with_reducible apply Gr.from_drew) | (with_reducible apply Gr.alloc) | (with_reducible apply Gr.drew) | (with_reducible refine Gr.trans ?_ (by assumption)) | (with_reducible refine Gr.setCell ?_ (by omega) _))))) (some ⟨w2.heap.size, 0, none⟩) 1 1 [.string k] rfl ((src_new w2 _ _ rfl).gr (by (repeat (first | (with_reducible exact Gr.refl _) | assumption | (with_reducible apply Gr.from_drew) | (with_reducible apply Gr.alloc) | (with_reducible apply Gr.drew) | (with_reducible refine Gr.trans ?_ (by assumption)) | (with_reducible refine Gr.setCell ?_ (by omega) _))))) (by simp only [maxLen]; omega) (by omega) (fun k3 xa hk3 => ?_); refine hK _ _ ⟨hk3.mdh (fun q hq => .inl hq), ?_⟩; simp only [Act.put, List.setIfInBounds_toArray, List.set_cons_succ, List.set_cons_zero]
    refine flo_seg 6 rfl ?_
    simp only [List.take_succ_cons, List.take_zero, List.drop_succ_cons, List.drop_zero]
    repeat (go_big_quiet_step (fail))
    refine wpQuiet_nil ?_
    refine flo_eff rfl rfl rfl rfl (fun K hK => ?_)
    refine wp_appv _ (.tmp 57) (.tmp 63) 143 rfl 9 i0 _ 1 16 Try.underlying143 hi hz0 hz1 hz2 rfl (by decide) k3 (r + 1) ((ksL L).take r ++ [.string k]) rfl hk3.1 x3 (L.length - r) _ ((ksL L).drop r) rfl (SRC.out _ (hk3.mw (N1'.out.gr (by (repeat (first | (with_reducible exact Gr.refl _) | assumption | (with_reducible apply Gr.from_drew) | (with_reducible apply Gr.alloc) | (with_reducible apply Gr.drew) | (with_reducible refine Gr.trans ?_ (by assumption)) | (with_reducible refine Gr.setCell ?_ (by omega) _))))) (HM2.out.gr (by (repeat (first | (with_reducible exact Gr.refl _) | assumption | (with_reducible apply Gr.from_drew) | (with_reducible apply Gr.alloc) | (with_reducible apply Gr.drew) | (with_reducible refine Gr.trans ?_ (by assumption)) | (with_reducible refine Gr.setCell ?_ (by omega) _))))))) (by simp only [maxLen]; omega) (by omega) (fun k5 xb hk5 => ?_); obtain ⟨a5, c5, rfl⟩ := hk5.val; refine hK _ _ ⟨hk5.mdh (fun q hq => (hk3.2.1 q hq).elim .inl (fun h => .inr (.inr ⟨h, hk3.1.lt hq⟩))), ?_⟩; simp only [Act.put, List.setIfInBounds_toArray, List.set_cons_succ, List.set_cons_zero]
    refine flo_nil ?_
    have n3 := hk3.nw (N1'.out.gr (by (repeat (first | (with_reducible exact Gr.refl _) | assumption | (with_reducible apply Gr.from_drew) | (with_reducible apply Gr.alloc) | (with_reducible apply Gr.drew) | (with_reducible refine Gr.trans ?_ (by assumption)) | (with_reducible refine Gr.setCell ?_ (by omega) _))))) (HG2.out.trans (by (repeat (first | (with_reducible exact Gr.refl _) | assumption | (with_reducible apply Gr.from_drew) | (with_reducible apply Gr.alloc) | (with_reducible apply Gr.drew) | (with_reducible refine Gr.trans ?_ (by assumption)) | (with_reducible refine Gr.setCell ?_ (by omega) _))))).sz
    have m3 := hk3.mw (N1'.out.gr (by (repeat (first | (with_reducible exact Gr.refl _) | assumption | (with_reducible apply Gr.from_drew) | (with_reducible apply Gr.alloc) | (with_reducible apply Gr.drew) | (with_reducible refine Gr.trans ?_ (by assumption)) | (with_reducible refine Gr.setCell ?_ (by omega) _))))) (HM2.out.gr (by (repeat (first | (with_reducible exact Gr.refl _) | assumption | (with_reducible apply Gr.from_drew) | (with_reducible apply Gr.alloc) | (with_reducible apply Gr.drew) | (with_reducible refine Gr.trans ?_ (by assumption)) | (with_reducible refine Gr.setCell ?_ (by omega) _)))))
    have n5 := hk5.nw n3 m3.size
    have m5 := hk5.mw n3 m3
    have b5 : xb.heap[b]? = some (.cells #[.bool true, kv, vv] 145 (0, 0)) := (hk5.mdh (fun g h => h)).blk ((hk3.mdh (fun g h => h)).blk ((HG2.out.trans (by (repeat (first | (with_reducible exact Gr.refl _) | assumption | (with_reducible apply Gr.from_drew) | (with_reducible apply Gr.alloc) | (with_reducible apply Gr.drew) | (with_reducible refine Gr.trans ?_ (by assumption)) | (with_reducible refine Gr.setCell ?_ (by omega) _))))).blk H.out.blk) (fun h => by have := N1'.out.new _ h; omega)) (fun h => by have := n3.new _ h; omega)
    have f1 := ((cellsOf b5).1 1).trans (show _ = some kv from rfl)
    have ff := (cellsOf b5).2
    have D5 : Hid (∀ q, Value.ownBlock (.slice a5 (r + 1 + (L.length - r)) c5) = some q → (k1.ownBlock = some q ∨ w2.heap.size ≤ q) ∧ q < xb.heap.size) := Lib.hid (fun q hq => ⟨(hk5.2.1 q hq).elim (fun h => (hk3.2.1 q h).imp id (fun h => Nat.le_trans (show w2.heap.size ≤ _ by simp) h)) (fun h => .inr (by have := (hk3.mdh (fun g h => h)).size; simp at this; omega)), hk5.1.lt hq⟩)
    have m2b : Mdh (fun q => k1.ownBlock = some q ∨ w2.heap.size ≤ q) w2 xb := (((Mdh.refl _ w2).gr (by (repeat (first | (with_reducible exact Gr.refl _) | assumption | (with_reducible apply Gr.from_drew) | (with_reducible apply Gr.alloc) | (with_reducible apply Gr.drew) | (with_reducible refine Gr.trans ?_ (by assumption)) | (with_reducible refine Gr.setCell ?_ (by omega) _))))).trans (hk3.mdh (fun g h => .inl h))).trans (hk5.mdh (fun g h => (hk3.2.1 g h).imp id (fun h => by simp at h; omega)))
    have n2b := N2.out.mdh m2b (fun q hq h => by have := D2.out q hq; have h1 := N1.out.own.lt (k := q); have := N2.out.own.lt hq; rcases h with h | h; have := h1 h; omega; omega)
    have HY : Hid (∃ y, y = xb.setCell ⟨b, 1, none⟩ (.slice a5 (r + 1 + (L.length - r)) c5) ∧ y.heap[b]? = some (.cells #[.bool true, (.slice a5 (r + 1 + (L.length - r)) c5), vv] 145 (0, 0)) ∧ Mdh (fun q => q = b) w y ∧ Nw w y 9 1 (.slice a5 (r + 1 + (L.length - r)) c5) (r + 1 + (L.length - r)) ((ksL L).take r ++ [.string k] ++ (ksL L).drop r) ∧ Nw w y 9 1 k2 r ((vsL L).take r) ∧ xb.heap.size = y.heap.size) := Lib.hid
      ⟨_, rfl, blkSet (j := 1) b5, m5.setCell (p := ⟨b, 1, none⟩) rfl _, n5.mdh ((Mdh.refl (fun q => q = b) xb).setCell (p := ⟨b, 1, none⟩) rfl _) (fun q hq e => by have := n5.new q hq; omega), n2b.mdh ((Mdh.refl (fun q => q = b) xb).setCell (p := ⟨b, 1, none⟩) rfl _) (fun q hq e => by have := N2.out.new q hq; omega), by simp⟩
    clear n3 m3 n5 m5 b5 hk3 hk5 SRC nk1 e1 n2b m2b
    go_wp2_with fail
    obtain ⟨y, hy, by0, my, ny5, ny2, hys⟩ := HY.out
    rw [← hy]
    clear hy f1 ff HY
    have BY := Lib.hid by0
    have MY := Lib.hid my
    have N5 := Lib.hid ny5
    have NY2 := Lib.hid ny2
    have e2 := ((cellsOf by0).1 2).trans (show _ = some vv from rfl)
    have hby : b < y.heap.size := blkLt by0
    have HYS := Lib.hid hys
    have SRC : Hid (∀ x, Mdh (fun q => q = b) w x → SrcAt x 1 x4 (L.length - r) ((vsL L).drop r)) := Lib.hid (fun x m => HS.out.2.2.2.mdh m (HSB.out.2))
    clear by0 my ny5 ny2 hys
    have nk2 : ¬ k2.ownBlock = some b := fun h => by have := NY2.out.new _ h; omega
    refine wp_region_flt 12 (fun q => k2.ownBlock = some q) [] [] (by kernel_rfl) (by kernel_rfl) (by decide) (by kernel_rfl) (fun q hq => NY2.out.own.lt hq) ?_
    simp only [List.take_succ_cons, List.take_zero, List.drop_succ_cons, List.drop_zero]
    refine flo_seg 3 rfl ?_
    simp only [List.take_succ_cons, List.take_zero, List.drop_succ_cons, List.drop_zero]
    repeat (go_big_quiet_step (fail))
    refine wpQuiet_nil ?_
    refine flo_eff rfl rfl rfl rfl (fun K hK => ?_)
    go_wp2
    refine ⟨by (first | (refine Gr.mdh ?_ _; (repeat (first | (with_reducible exact Gr.refl _) | assumption | (with_reducible apply Gr.from_drew) | (with_reducible apply Gr.alloc) | (with_reducible apply Gr.drew) | (with_reducible refine Gr.trans ?_ (by assumption)) | (with_reducible refine Gr.setCell ?_ (by omega) _))); done) | (repeat (first | (with_reducible exact Mdh.refl _ _) | (with_reducible refine Mdh.setCell ?_ (by simp) _) | (with_reducible refine Mdh.setNew ?_ (by simp) _) | (with_reducible apply Mdh.alloc) | (with_reducible apply Mdh.drew) | (with_reducible refine Mdh.gr ?_ (by assumption))))), ?_⟩
    refine flo_eff rfl rfl rfl rfl (fun K hK => ?_)
    refine wp_appv _ (.tmp 68) (.tmp 70) 143 rfl 9 i0 _ 1 16 Try.underlying143 hi hz0 hz1 hz2 rfl (by decide) k2 r ((vsL L).take r) rfl (NY2.out.own.gr (by (repeat (first | (with_reducible exact Gr.refl _) | assumption | (with_reducible apply Gr.from_drew) | (with_reducible apply Gr.alloc) | (with_reducible apply Gr.drew) | (with_reducible refine Gr.trans ?_ (by assumption)) | (with_reducible refine Gr.setCell ?_ (by omega) _))))) (some ⟨y.heap.size, 0, none⟩) 1 1 [.string u] rfl ((src_new y _ _ rfl).gr (by (repeat (first | (with_reducible exact Gr.refl _) | assumption | (with_reducible apply Gr.from_drew) | (with_reducible apply Gr.alloc) | (with_reducible apply Gr.drew) | (with_reducible refine Gr.trans ?_ (by assumption)) | (with_reducible refine Gr.setCell ?_ (by omega) _))))) (by simp only [maxLen]; omega) (by omega) (fun k6 xc hk6 => ?_); refine hK _ _ ⟨hk6.mdh (fun q hq => .inl hq), ?_⟩; simp only [Act.put, List.setIfInBounds_toArray, List.set_cons_succ, List.set_cons_zero]
    refine flo_seg 6 rfl ?_
    simp only [List.take_succ_cons, List.take_zero, List.drop_succ_cons, List.drop_zero]
    repeat (go_big_quiet_step (fail))
    refine wpQuiet_nil ?_
    refine flo_eff rfl rfl rfl rfl (fun K hK => ?_)
    refine wp_appv _ (.tmp 71) (.tmp 77) 143 rfl 9 i0 _ 1 16 Try.underlying143 hi hz0 hz1 hz2 rfl (by decide) k6 (r + 1) ((vsL L).take r ++ [.string u]) rfl hk6.1 x4 (L.length - r) _ ((vsL L).drop r) rfl (SRC.out _ (hk6.mw (NY2.out.gr (by (repeat (first | (with_reducible exact Gr.refl _) | assumption | (with_reducible apply Gr.from_drew) | (with_reducible apply Gr.alloc) | (with_reducible apply Gr.drew) | (with_reducible refine Gr.trans ?_ (by assumption)) | (with_reducible refine Gr.setCell ?_ (by omega) _))))) (MY.out.gr (by (repeat (first | (with_reducible exact Gr.refl _) | assumption | (with_reducible apply Gr.from_drew) | (with_reducible apply Gr.alloc) | (with_reducible apply Gr.drew) | (with_reducible refine Gr.trans ?_ (by assumption)) | (with_reducible refine Gr.setCell ?_ (by omega) _))))))) (by simp only [maxLen]; omega) (by omega) (fun k8 xd hk8 => ?_); obtain ⟨a8, c8, rfl⟩ := hk8.val; refine hK _ _ ⟨hk8.mdh (fun q hq => (hk6.2.1 q hq).elim .inl (fun h => .inr (.inr ⟨h, hk6.1.lt hq⟩))), ?_⟩; simp only [Act.put, List.setIfInBounds_toArray, List.set_cons_succ, List.set_cons_zero]
    refine flo_nil ?_
    have n6 := hk6.nw (NY2.out.gr (by (repeat (first | (with_reducible exact Gr.refl _) | assumption | (with_reducible apply Gr.from_drew) | (with_reducible apply Gr.alloc) | (with_reducible apply Gr.drew) | (with_reducible refine Gr.trans ?_ (by assumption)) | (with_reducible refine Gr.setCell ?_ (by omega) _))))) (MY.out.gr (by (repeat (first | (with_reducible exact Gr.refl _) | assumption | (with_reducible apply Gr.from_drew) | (with_reducible apply Gr.alloc) | (with_reducible apply Gr.drew) | (with_reducible refine Gr.trans ?_ (by assumption)) | (with_reducible refine Gr.setCell ?_ (by omega) _))))).size
    have m6 := hk6.mw (NY2.out.gr (by (repeat (first | (with_reducible exact Gr.refl _) | assumption | (with_reducible apply Gr.from_drew) | (with_reducible apply Gr.alloc) | (with_reducible apply Gr.drew) | (with_reducible refine Gr.trans ?_ (by assumption)) | (with_reducible refine Gr.setCell ?_ (by omega) _))))) (MY.out.gr (by (repeat (first | (with_reducible exact Gr.refl _) | assumption | (with_reducible apply Gr.from_drew) | (with_reducible apply Gr.alloc) | (with_reducible apply Gr.drew) | (with_reducible refine Gr.trans ?_ (by assumption)) | (with_reducible refine Gr.setCell ?_ (by omega) _)))))
    have n8 := hk8.nw n6 m6.size
    have m8 := hk8.mw n6 m6
    have b8 : xd.heap[b]? = some (.cells #[.bool true, (.slice a5 (r + 1 + (L.length - r)) c5), vv] 145 (0, 0)) := (hk8.mdh (fun g h => h)).blk ((hk6.mdh (fun g h => h)).blk (Gr.blk (by (repeat (first | (with_reducible exact Gr.refl _) | assumption | (with_reducible apply Gr.from_drew) | (with_reducible apply Gr.alloc) | (with_reducible apply Gr.drew) | (with_reducible refine Gr.trans ?_ (by assumption)) | (with_reducible refine Gr.setCell ?_ (by omega) _)))) BY.out) (fun h => by have := NY2.out.new _ h; omega)) (fun h => by have := n6.new _ h; omega)
    have f2 := ((cellsOf b8).1 2).trans (show _ = some vv from rfl)
    have ff := (cellsOf b8).2
    have D8 : Hid (∀ q, Value.ownBlock (.slice a8 (r + 1 + (L.length - r)) c8) = some q → k2.ownBlock = some q ∨ y.heap.size ≤ q) := Lib.hid (fun q hq => (hk8.2.1 q hq).elim (fun h => (hk6.2.1 q h).imp id (fun h => Nat.le_trans (show y.heap.size ≤ _ by simp) h)) (fun h => .inr (by have := (hk6.mdh (fun g h => h)).size; simp at this; omega)))
    have m2b : Mdh (fun q => k2.ownBlock = some q ∨ y.heap.size ≤ q) y xd := (((Mdh.refl _ y).gr (by (repeat (first | (with_reducible exact Gr.refl _) | assumption | (with_reducible apply Gr.from_drew) | (with_reducible apply Gr.alloc) | (with_reducible apply Gr.drew) | (with_reducible refine Gr.trans ?_ (by assumption)) | (with_reducible refine Gr.setCell ?_ (by omega) _))))).trans (hk6.mdh (fun g h => .inl h))).trans (hk8.mdh (fun g h => (hk6.2.1 g h).imp id (fun h => by simp at h; omega)))
    have DJ : Hid (∀ q, Value.ownBlock (.slice a5 (r + 1 + (L.length - r)) c5) = some q → ¬ (k2.ownBlock = some q ∨ y.heap.size ≤ q)) := Lib.hid (fun q hq h => by
      have h5 := D5.out q hq
      have h6 := HYS.out
      have h7 := N2.out.own.lt (k := q)
      rcases h with h | h
      · have h8 := D2.out q h
        have h9 := N1.out.own.lt (k := q)
        rcases h5.1 with h10 | h10
        · have := h9 h10; omega
        · have := h7 h; omega
      · omega)
    have n5d := N5.out.mdh m2b (fun q hq => DJ.out q hq)
    have N5D := Lib.hid n5d
    have N8 := Lib.hid n8
    have M8 := Lib.hid m8
    have B8 := Lib.hid b8
    clear n6 m6 n8 m8 b8 hk6 hk8 SRC nk2 e2 n5d m2b
    go_wp2_with fail
    go_ret3
    have el : (putL ltS L k u).length = r + 1 + (L.length - r) := by rw [HP.out]; simp; omega
    refine ⟨rfl, (.slice a5 (r + 1 + (L.length - r)) c5), (.slice a8 (r + 1 + (L.length - r)) c8), ⟨blkSet (j := 2) B8.out, ?_, ?_, HSRT.out⟩, fun g hg h8 => DJ.out g hg (D8.out g h8), fun g hg => .inr (N5.out.new g hg), fun g hg => .inr (N8.out.new g hg), ((M8.out.mono (fun q hq => .inl hq)).setCell (p := ⟨b, 2, none⟩) (.inl rfl) _)⟩
    · rw [el, show ksL (putL ltS L k u) = (ksL L).take r ++ [.string k] ++ (ksL L).drop r by rw [HP.out]; simp [ksL, List.map_take, List.map_drop]]
      exact N5D.out.own.other (p := ⟨b, 2, none⟩) (fun h => by have := N5D.out.new _ h; simp at this; omega) _
    · rw [el, show vsL (putL ltS L k u) = (vsL L).take r ++ [.string u] ++ (vsL L).drop r by rw [HP.out]; simp [vsL, List.map_take, List.map_drop]]
      exact N8.out.own.other (p := ⟨b, 2, none⟩) (fun h => by have := N8.out.new _ h; simp at this; omega) _
end Go.Proofs.Ytbhkigjmjmfbgaa
