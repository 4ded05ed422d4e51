/- Contracts of the reference's map: Delete, Copy. -/
import Derived.Test.YtbhkigjmjmfbgaaOmv
set_option linter.unusedVariables false
set_option linter.unusedSimpArgs false
namespace Go.Proofs.Ytbhkigjmjmfbgaa
open Go.RowKit
attribute [local go_sem] OvM cell_ovm obj_ovm

theorem rmp_gr {b : Nat} {kv vv : Value} {L' : List Itss} {w w0 w' : World} (g : Gr w w0) (h : RMPost b kv vv L' w0 w') : RMPost b kv vv L' w w' := by
  obtain ⟨kv', vv', h1, h2, h3, h4, h5⟩ := h
  exact ⟨kv', vv', h1, h2, fun q hq => (h3 q hq).imp id (Nat.le_trans g.sz), fun q hq => (h4 q hq).imp id (Nat.le_trans g.sz), (g.mdh _).trans h5⟩

set_option maxRecDepth 40000 in
set_option maxHeartbeats 4000000 in
theorem rDelete (b : Nat) (kv vv : Value) (L : List Itss) (k : ByteArray) (wz : World) (h : RM wz b kv vv L) (hap : ∀ g, kv.ownBlock = some g → vv.ownBlock ≠ some g) (hn : L.length ≤ 100000) :
    Calls Try.prog 33 #[.pointer (some ⟨b, 0, none⟩), .string k] wz fun e w' => e = .returned (.tuple #[lookVss L k, .bool (hasBss L k)]) ∧ RMPost b kv vv (delL ltS L k) wz w' := by
  have H := Lib.hid h
  have HV : Hid (RV wz (some ⟨b, 0, none⟩) L) := Lib.hid (.inl ⟨b, kv, vv, rfl, h⟩)
  have HAP := Lib.hid hap
  obtain ⟨r, hrd⟩ : ∃ r, r = rk ltS L k := ⟨_, rfl⟩
  have HRK := Lib.hid hrd
  have HSRT := Lib.hid (del_srt h.srt k)
  obtain ⟨i0, hi, hz0, hz1, hz2⟩ := info_parts Try.infoStr
  have hbl := blkLt h.blk
  clear hap
  cases hl : look ltS L k with
  | none =>
    have HB := Lib.hid (show hasBss L k = false by unfold hasBss; rw [hl]; rfl)
    have HL := Lib.hid (show lookVss L k = .string ⟨#[]⟩ by unfold lookVss; rw [hl])
    have HP := Lib.hid (show delL ltS L k = L by unfold delL; rw [hl])
    clear hl h hrd
    rw [HB.out, HL.out]
    go_enter Try.func33, Try.ntmps33
    go_wp2_with (go_at_call 86; refine (rGet _ L k _ HV.out).mono ?_; rintro e w1 ⟨rfl, hg⟩; rw [HB.out, HL.out])
    go_ret2
    exact ⟨rfl, kv, vv, by rw [HP.out]; exact H.out.gr hg, HAP.out, fun g hg => .inl hg, fun g hg => .inl hg, hg.mdh _⟩
  | some u0 =>
    have HB := Lib.hid (show hasBss L k = true by unfold hasBss; rw [hl]; rfl)
    have HL := Lib.hid (show lookVss L k = .string u0 by unfold lookVss; rw [hl])
    have HP := Lib.hid (show delL ltS L k = L.take r ++ L.drop (r + 1) by unfold delL; rw [hl, HRK.out])
    have hx : L[r]? = some (k, u0) := by rw [HRK.out]; exact look_some hl
    have hlt : r < L.length := (List.getElem?_eq_some_iff.1 hx).1
    have HLT := Lib.hid hlt
    rw [HB.out, HL.out]
    clear hrd hl
    go_enter Try.func33, Try.ntmps33
    go_wp2_with fail
    refine (rGet _ L k _ HV.out).mono ?_
    rintro e w ⟨rfl, hg0⟩
    rw [HB.out, HL.out]
    replace h := h.gr hg0
    replace HV := Lib.hid (HV.out.gr hg0)
    replace H := Lib.hid (H.out.gr hg0)
    replace hbl := blkLt h.blk
    have HG0 := Lib.hid hg0
    clear hg0
    obtain ⟨x1, n1, s1, src1, z1⟩ := slice_take Try.underlying143 hi hz1 h.ok (ksL_one L) (i := r) (by omega)
    obtain ⟨x2, n2, s2, src2, z2⟩ := slice_take Try.underlying143 hi hz1 h.ov (vsL_one L) (i := r) (by omega)
    obtain ⟨x3, n3, s3', src3, z3⟩ := slice_drop Try.underlying143 hi hz1 h.ok (ksL_one L) (i := r + 1) (by omega)
    obtain ⟨x4, n4, s4', src4, z4⟩ := slice_drop Try.underlying143 hi hz1 h.ov (vsL_one L) (i := r + 1) (by omega)
    have y3 : ∀ ad, x3 = some ad → ¬ ad.block = b := fun ad e hb => own_ne h.ok h.blk (by decide) (by rw [← hb]; exact z3 ad e)
    have y4 : ∀ ad, x4 = some ad → ¬ ad.block = b := fun ad e hb => own_ne h.ov h.blk (by decide) (by rw [← hb]; exact z4 ad e)
    have s3 : ∀ w' : World, (Instr.slice 143 kv (some (.int .i64 ((r : Int) + 1))) none none).run Try.prog w' = .ok (.slice x3 (L.length - (r + 1)) n3) w' := fun w' => by rw [show ((r : Int) + 1) = ((r + 1 : Nat) : Int) by omega]; exact s3' w'
    have s4 : ∀ w' : World, (Instr.slice 143 vv (some (.int .i64 ((r : Int) + 1))) none none).run Try.prog w' = .ok (.slice x4 (L.length - (r + 1)) n4) w' := fun w' => by rw [show ((r : Int) + 1) = ((r + 1 : Nat) : Int) by omega]; exact s4' w'
    rw [Nat.mul_one] at src1 src2 src3 src4
    have y1 : ∀ ad, x1 = some ad → ¬ ad.block = b := fun ad e hb => own_ne h.ok h.blk (by decide) (by rw [← hb]; exact z1 ad e)
    have HSB1 := Lib.hid y1
    have y2 : ∀ ad, x2 = some ad → ¬ ad.block = b := fun ad e hb => own_ne h.ov h.blk (by decide) (by rw [← hb]; exact z2 ad e)
    have HS := Lib.hid (And.intro src1 (And.intro src2 (And.intro src3 src4)))
    have HSB : Hid ((∀ ad, x3 = some ad → ¬ ad.block = b) ∧ (∀ ad, x4 = some ad → ¬ ad.block = b) ∧ ∀ ad, x2 = some ad → ¬ ad.block = b) := Lib.hid ⟨y3, y4, y2⟩
    have c1 := ((cellsOf h.blk).1 1).trans (show _ = some kv from rfl)
    have c2 := ((cellsOf h.blk).1 2).trans (show _ = some vv from rfl)
    have hrL : (r : Int) < 100000 := by omega
    have hrn : r + 1 ≤ L.length := by omega
    clear h src1 src2 src3 src4 y1 z1 y2 y3 y4 z2 z3 z4 s3' s4' hx hlt
    go_wp2_with (go_at_call 37; refine (rRank _ L k _ HV.out).mono ?_; rintro e w1 ⟨rfl, rfl⟩; rw [← HRK.out])
    have HM : Hid (Mdh (fun q => q = b) w w) := Lib.hid (Mdh.refl _ _)
    have SRC : Hid ((∀ x, Mdh (fun q => q = b) w x → SrcAt x 1 x1 r ((ksL L).take r)) ∧ ∀ x, Mdh (fun q => q = b) w x → SrcAt x 1 x3 (L.length - (r + 1)) ((ksL L).drop (r + 1))) := Lib.hid ⟨fun x m => HS.out.1.mdh m HSB1.out, fun x m => HS.out.2.2.1.mdh m HSB.out.1⟩
    refine wp_region_flt 17 (fun _ => False) [] [] (by kernel_rfl) (by kernel_rfl) (by decide) (by kernel_rfl) (fun _ h => h.elim) ?_
    simp only [List.take_succ_cons, List.take_zero, List.drop_succ_cons, List.drop_zero]
    refine flo_seg 1 rfl ?_
    simp only [List.take_succ_cons, List.take_zero, List.drop_succ_cons, List.drop_zero]
    repeat (go_big_quiet_step (fail))
    refine wpQuiet_nil ?_
    refine flo_eff rfl rfl rfl rfl (fun K hK => ?_)
    go_wp2
    refine ⟨by (first | (refine Gr.mdh ?_ _; (repeat (first | (with_reducible exact Gr.refl _) | assumption | (with_reducible apply Gr.from_drew) | (with_reducible apply Gr.alloc) | (with_reducible apply Gr.drew) | (with_reducible refine Gr.trans ?_ (by assumption)) | (with_reducible refine Gr.setCell ?_ (by omega) _))); done) | (repeat (first | (with_reducible exact Mdh.refl _ _) | (with_reducible refine Mdh.setCell ?_ (by simp) _) | (with_reducible refine Mdh.setNew ?_ (by simp) _) | (with_reducible apply Mdh.alloc) | (with_reducible apply Mdh.drew) | (with_reducible refine Mdh.gr ?_ (by assumption))))), ?_⟩
    refine flo_seg 6 rfl ?_
    simp only [List.take_succ_cons, List.take_zero, List.drop_succ_cons, List.drop_zero]
    repeat (go_big_quiet_step (fail))
    refine wpQuiet_nil ?_
    refine flo_eff rfl rfl rfl rfl (fun K hK => ?_)
    refine wp_appv _ (.tmp 20) (.tmp 26) 143 rfl 9 i0 _ 1 16 Try.underlying143 hi hz0 hz1 hz2 rfl (by decide) (.slice (some ⟨w.heap.size, 0, none⟩) 0 0) 0 [] rfl ((Nw.made (w0 := w) (w := w) (Nat.le_refl _)).own.gr (by (repeat (first | (with_reducible exact Gr.refl _) | assumption | (with_reducible apply Gr.from_drew) | (with_reducible apply Gr.alloc) | (with_reducible apply Gr.drew) | (with_reducible refine Gr.trans ?_ (by assumption)) | (with_reducible refine Gr.setCell ?_ (by omega) _))))) x1 r _ ((ksL L).take r) rfl (SRC.out.1 _ (HM.out.gr (by (repeat (first | (with_reducible exact Gr.refl _) | assumption | (with_reducible apply Gr.from_drew) | (with_reducible apply Gr.alloc) | (with_reducible apply Gr.drew) | (with_reducible refine Gr.trans ?_ (by assumption)) | (with_reducible refine Gr.setCell ?_ (by omega) _)))))) (by simp only [maxLen]; omega) (by omega) (fun k3 xa hk3 => ?_); rw [Nat.zero_add, List.nil_append] at hk3; (have n3 := hk3.nw (w0 := w) ((Nw.made (w0 := w) (w := w) (e := 9) (K := 1) (Nat.le_refl _)).gr (by (repeat (first | (with_reducible exact Gr.refl _) | assumption | (with_reducible apply Gr.from_drew) | (with_reducible apply Gr.alloc) | (with_reducible apply Gr.drew) | (with_reducible refine Gr.trans ?_ (by assumption)) | (with_reducible refine Gr.setCell ?_ (by omega) _))))) (Gr.sz (by (repeat (first | (with_reducible exact Gr.refl _) | assumption | (with_reducible apply Gr.from_drew) | (with_reducible apply Gr.alloc) | (with_reducible apply Gr.drew) | (with_reducible refine Gr.trans ?_ (by assumption)) | (with_reducible refine Gr.setCell ?_ (by omega) _)))))); (have m3 := hk3.gw (w0 := w) ((Nw.made (w0 := w) (w := w) (e := 9) (K := 1) (Nat.le_refl _)).gr (by (repeat (first | (with_reducible exact Gr.refl _) | assumption | (with_reducible apply Gr.from_drew) | (with_reducible apply Gr.alloc) | (with_reducible apply Gr.drew) | (with_reducible refine Gr.trans ?_ (by assumption)) | (with_reducible refine Gr.setCell ?_ (by omega) _))))) (by (repeat (first | (with_reducible exact Gr.refl _) | assumption | (with_reducible apply Gr.from_drew) | (with_reducible apply Gr.alloc) | (with_reducible apply Gr.drew) | (with_reducible refine Gr.trans ?_ (by assumption)) | (with_reducible refine Gr.setCell ?_ (by omega) _))))); refine hK _ _ ⟨hk3.mdh (fun q hq => by rw [ownB hq]; right; right; exact ⟨Nat.le_refl _, by simp⟩), ?_⟩; simp only [Act.put, List.setIfInBounds_toArray, List.set_cons_succ, List.set_cons_zero]
    refine flo_seg 7 rfl ?_
    simp only [List.take_succ_cons, List.take_zero, List.drop_succ_cons, List.drop_zero]
    repeat (go_big_quiet_step (fail))
    refine wpQuiet_nil ?_
    refine flo_eff rfl rfl rfl rfl (fun K hK => ?_)
    refine wp_appv _ (.tmp 27) (.tmp 34) 143 rfl 9 i0 _ 1 16 Try.underlying143 hi hz0 hz1 hz2 rfl (by decide) k3 r ((ksL L).take r) rfl hk3.1 x3 (L.length - (r + 1)) _ ((ksL L).drop (r + 1)) rfl (SRC.out.2 _ (HM.out.gr m3)) (by simp only [maxLen]; omega) (by omega) (fun k5 xb hk5 => ?_); obtain ⟨a5, c5, rfl⟩ := hk5.val; refine hK _ _ ⟨hk5.mdh (fun q hq => (hk3.2.1 q hq).elim (fun h => by rw [ownB h]; exact .inr (.inl (.inr ⟨Nat.le_refl _, by simp⟩))) (fun h => .inr (.inr ⟨h, hk3.1.lt hq⟩))), ?_⟩; simp only [Act.put, List.setIfInBounds_toArray, List.set_cons_succ, List.set_cons_zero]
    refine flo_nil ?_
    have n5 := hk5.nw n3 m3.sz
    have m5 := hk5.gw n3 m3
    have b5 : xb.heap[b]? = some (.cells #[.bool true, kv, vv] 145 (0, 0)) := m5.blk H.out.blk
    have f1 := ((cellsOf b5).1 1).trans (show _ = some kv from rfl)
    have ff := (cellsOf b5).2
    have HY : Hid (∃ y, y = xb.setCell ⟨b, 1, none⟩ (.slice a5 (r + (L.length - (r + 1))) c5) ∧ y.heap[b]? = some (.cells #[.bool true, (.slice a5 (r + (L.length - (r + 1))) c5), vv] 145 (0, 0)) ∧ Mdh (fun q => q = b) w y ∧ Nw w y 9 1 (.slice a5 (r + (L.length - (r + 1))) c5) (r + (L.length - (r + 1))) ((ksL L).take r ++ (ksL L).drop (r + 1))) := Lib.hid
      ⟨_, rfl, blkSet (j := 1) b5, (m5.mdh (fun q => q = b)).setCell (p := ⟨b, 1, none⟩) rfl _, n5.mdh ((Mdh.refl (fun q => q = b) xb).setCell (p := ⟨b, 1, none⟩) rfl _) (fun q hq e => by have := n5.new q hq; omega)⟩
    clear n3 m3 n5 m5 b5 hk3 hk5 SRC
    go_wp2_with fail
    obtain ⟨y, hy, by0, my, ny5⟩ := HY.out
    rw [← hy]
    clear hy f1 ff HY
    have BY := Lib.hid by0
    have MY := Lib.hid my
    have N5 := Lib.hid ny5
    have e2 := ((cellsOf by0).1 2).trans (show _ = some vv from rfl)
    have hby : b < y.heap.size := blkLt by0
    have SRC : Hid ((∀ x, Mdh (fun q => q = b) w x → SrcAt x 1 x2 r ((vsL L).take r)) ∧ ∀ x, Mdh (fun q => q = b) w x → SrcAt x 1 x4 (L.length - (r + 1)) ((vsL L).drop (r + 1))) := Lib.hid ⟨fun x m => HS.out.2.1.mdh m HSB.out.2.2, fun x m => HS.out.2.2.2.mdh m HSB.out.2.1⟩
    clear by0 my ny5
    refine wp_region_flt 17 (fun _ => False) [] [] (by kernel_rfl) (by kernel_rfl) (by decide) (by kernel_rfl) (fun _ h => h.elim) ?_
    simp only [List.take_succ_cons, List.take_zero, List.drop_succ_cons, List.drop_zero]
    refine flo_seg 1 rfl ?_
    simp only [List.take_succ_cons, List.take_zero, List.drop_succ_cons, List.drop_zero]
    repeat (go_big_quiet_step (fail))
    refine wpQuiet_nil ?_
    refine flo_eff rfl rfl rfl rfl (fun K hK => ?_)
    go_wp2
    refine ⟨by (first | (refine Gr.mdh ?_ _; (repeat (first | (with_reducible exact Gr.refl _) | assumption | (with_reducible apply Gr.from_drew) | (with_reducible apply Gr.alloc) | (with_reducible apply Gr.drew) | (with_reducible refine Gr.trans ?_ (by assumption)) | (with_reducible refine Gr.setCell ?_ (by omega) _))); done) | (repeat (first | (with_reducible exact Mdh.refl _ _) | (with_reducible refine Mdh.setCell ?_ (by simp) _) | (with_reducible refine Mdh.setNew ?_ (by simp) _) | (with_reducible apply Mdh.alloc) | (with_reducible apply Mdh.drew) | (with_reducible refine Mdh.gr ?_ (by assumption))))), ?_⟩
    refine flo_seg 6 rfl ?_
    simp only [List.take_succ_cons, List.take_zero, List.drop_succ_cons, List.drop_zero]
    repeat (go_big_quiet_step (fail))
    refine wpQuiet_nil ?_
    refine flo_eff rfl rfl rfl rfl (fun K hK => ?_)
    refine wp_appv _ (.tmp 39) (.tmp 45) 143 rfl 9 i0 _ 1 16 Try.underlying143 hi hz0 hz1 hz2 rfl (by decide) (.slice (some ⟨y.heap.size, 0, none⟩) 0 0) 0 [] rfl ((Nw.made (w0 := y) (w := y) (Nat.le_refl _)).own.gr (by (repeat (first | (with_reducible exact Gr.refl _) | assumption | (with_reducible apply Gr.from_drew) | (with_reducible apply Gr.alloc) | (with_reducible apply Gr.drew) | (with_reducible refine Gr.trans ?_ (by assumption)) | (with_reducible refine Gr.setCell ?_ (by omega) _))))) x2 r _ ((vsL L).take r) rfl (SRC.out.1 _ (MY.out.gr (by (repeat (first | (with_reducible exact Gr.refl _) | assumption | (with_reducible apply Gr.from_drew) | (with_reducible apply Gr.alloc) | (with_reducible apply Gr.drew) | (with_reducible refine Gr.trans ?_ (by assumption)) | (with_reducible refine Gr.setCell ?_ (by omega) _)))))) (by simp only [maxLen]; omega) (by omega) (fun k6 xc hk6 => ?_); rw [Nat.zero_add, List.nil_append] at hk6; (have n3 := hk6.nw (w0 := y) ((Nw.made (w0 := y) (w := y) (e := 9) (K := 1) (Nat.le_refl _)).gr (by (repeat (first | (with_reducible exact Gr.refl _) | assumption | (with_reducible apply Gr.from_drew) | (with_reducible apply Gr.alloc) | (with_reducible apply Gr.drew) | (with_reducible refine Gr.trans ?_ (by assumption)) | (with_reducible refine Gr.setCell ?_ (by omega) _))))) (Gr.sz (by (repeat (first | (with_reducible exact Gr.refl _) | assumption | (with_reducible apply Gr.from_drew) | (with_reducible apply Gr.alloc) | (with_reducible apply Gr.drew) | (with_reducible refine Gr.trans ?_ (by assumption)) | (with_reducible refine Gr.setCell ?_ (by omega) _)))))); (have m3 := hk6.gw (w0 := y) ((Nw.made (w0 := y) (w := y) (e := 9) (K := 1) (Nat.le_refl _)).gr (by (repeat (first | (with_reducible exact Gr.refl _) | assumption | (with_reducible apply Gr.from_drew) | (with_reducible apply Gr.alloc) | (with_reducible apply Gr.drew) | (with_reducible refine Gr.trans ?_ (by assumption)) | (with_reducible refine Gr.setCell ?_ (by omega) _))))) (by (repeat (first | (with_reducible exact Gr.refl _) | assumption | (with_reducible apply Gr.from_drew) | (with_reducible apply Gr.alloc) | (with_reducible apply Gr.drew) | (with_reducible refine Gr.trans ?_ (by assumption)) | (with_reducible refine Gr.setCell ?_ (by omega) _))))); refine hK _ _ ⟨hk6.mdh (fun q hq => by rw [ownB hq]; right; right; exact ⟨Nat.le_refl _, by simp⟩), ?_⟩; simp only [Act.put, List.setIfInBounds_toArray, List.set_cons_succ, List.set_cons_zero]
    refine flo_seg 7 rfl ?_
    simp only [List.take_succ_cons, List.take_zero, List.drop_succ_cons, List.drop_zero]
    repeat (go_big_quiet_step (fail))
    refine wpQuiet_nil ?_
    refine flo_eff rfl rfl rfl rfl (fun K hK => ?_)
    refine wp_appv _ (.tmp 46) (.tmp 53) 143 rfl 9 i0 _ 1 16 Try.underlying143 hi hz0 hz1 hz2 rfl (by decide) k6 r ((vsL L).take r) rfl hk6.1 x4 (L.length - (r + 1)) _ ((vsL L).drop (r + 1)) rfl (SRC.out.2 _ (MY.out.gr m3)) (by simp only [maxLen]; omega) (by omega) (fun k8 xd hk8 => ?_); obtain ⟨a8, c8, rfl⟩ := hk8.val; refine hK _ _ ⟨hk8.mdh (fun q hq => (hk6.2.1 q hq).elim (fun h => by rw [ownB h]; exact .inr (.inl (.inr ⟨Nat.le_refl _, by simp⟩))) (fun h => .inr (.inr ⟨h, hk6.1.lt hq⟩))), ?_⟩; simp only [Act.put, List.setIfInBounds_toArray, List.set_cons_succ, List.set_cons_zero]
    refine flo_nil ?_
    have n8 := hk8.nw n3 m3.sz
    have m8 := hk8.gw n3 m3
    have b8 : xd.heap[b]? = some (.cells #[.bool true, (.slice a5 (r + (L.length - (r + 1))) c5), vv] 145 (0, 0)) := m8.blk BY.out
    have f2 := ((cellsOf b8).1 2).trans (show _ = some vv from rfl)
    have ff := (cellsOf b8).2
    have N5D := Lib.hid (N5.out.gr m8)
    have N8 := Lib.hid n8
    have M8 := Lib.hid (MY.out.gr m8)
    have B8 := Lib.hid b8
    have LT5 := Lib.hid (fun q hq => N5.out.own.lt (k := q) hq)
    clear n3 m3 n8 m8 b8 hk6 hk8 SRC e2
    go_wp2_with fail
    go_ret2
    have el : (delL ltS L k).length = r + (L.length - (r + 1)) := by rw [HP.out]; have := HLT.out; simp; omega
    refine ⟨rfl, rmp_gr HG0.out ⟨(.slice a5 (r + (L.length - (r + 1))) c5), (.slice a8 (r + (L.length - (r + 1))) c8), ⟨blkSet (j := 2) B8.out, ?_, ?_, HSRT.out⟩, fun g hg h8 => by have := LT5.out g hg; have := N8.out.new g h8; omega, fun g hg => .inr (N5.out.new g hg), fun g hg => .inr (Nat.le_trans MY.out.size (N8.out.new g hg)), ((M8.out.mono (fun q hq => .inl hq)).setCell (p := ⟨b, 2, none⟩) (.inl rfl) _)⟩⟩
    · rw [el, show ksL (delL ltS L k) = (ksL L).take r ++ (ksL L).drop (r + 1) by rw [HP.out]; simp [ksL, List.map_take, List.map_drop]]
      exact N5D.out.own.other (p := ⟨b, 2, none⟩) (fun h => by have := N5D.out.new _ h; simp at this; omega) _
    · rw [el, show vsL (delL ltS L k) = (vsL L).take r ++ (vsL L).drop (r + 1) by rw [HP.out]; simp [vsL, List.map_take, List.map_drop]]
      exact N8.out.own.other (p := ⟨b, 2, none⟩) (fun h => by have := N8.out.new _ h; simp at this; omega) _

set_option maxRecDepth 40000 in
set_option maxHeartbeats 2000000 in
theorem rCopy (b : Nat) (kv vv : Value) (L : List Itss) (w : World) (h : RM w b kv vv L) (hn : L.length ≤ 100000) :
    Calls Try.prog 35 #[.pointer (some ⟨b, 0, none⟩)] w fun e w' => ∃ b' kv' vv', e = .returned (.pointer (some ⟨b', 0, none⟩)) ∧ RM w' b' kv' vv' L ∧ (∀ g, kv'.ownBlock = some g → vv'.ownBlock ≠ some g) ∧ w.heap.size ≤ b' ∧ (∀ g, vv'.ownBlock = some g → w.heap.size ≤ g) ∧ Gr w w' := by
  have H := Lib.hid h
  have HV : Hid (RV w (some ⟨b, 0, none⟩) L) := Lib.hid (.inl ⟨b, kv, vv, rfl, h⟩)
  obtain ⟨i0, hi, hz0, hz1, hz2⟩ := info_parts Try.infoStr
  have hbl := blkLt h.blk
  obtain ⟨a, cap, rfl, hc, hm, _⟩ := own_at h.ok
  obtain ⟨a', cap', rfl, hc', hm', _⟩ := own_at h.ov
  have c1 := ((cellsOf h.blk).1 1).trans (show _ = some (Value.slice a L.length cap) from rfl)
  have c2 := ((cellsOf h.blk).1 2).trans (show _ = some (Value.slice a' L.length cap') from rfl)
  have SRC := Lib.hid (And.intro (src_all h.ok (ksL_one L)) (src_all h.ov (vsL_one L)))
  have hnL : (L.length : Int) ≤ 100000 := by omega
  clear h hm hm'
  go_enter Try.func35, Try.ntmps35
  go_wp2_with (go_at_call 81; refine (rvalid _ L _ HV.out).mono ?_; rintro e w1 ⟨rfl, rfl⟩)
  have HG := Gr.refl w.drew
  refine wp_region_flo (fun _ => False) [6, 12] [] (by kernel_rfl) (by kernel_rfl) (fun _ h => h.elim) ?_
  refine flo_float (fun b ↦ .slice (some ⟨b, 0, none⟩) 0 0) (_ ) rfl rfl ( fun w ↦ by simp [go_sem]; rfl ) (fun wf1 fb1 hgf1 fl1 fh1 ft1 fo1 => ?_)
  (try replace HG := Gr.trans (Gr.trans HG (by (repeat (first | (with_reducible exact Gr.refl _) | assumption | (with_reducible apply Gr.from_drew) | (with_reducible apply Gr.alloc) | (with_reducible apply Gr.drew) | (with_reducible refine Gr.trans ?_ (by assumption)) | (with_reducible refine Gr.setCell ?_ (by omega) _))))) hgf1)
  simp only [Act.put, List.setIfInBounds_toArray, List.set_cons_succ, List.set_cons_zero]
  refine flo_seg 4 rfl ?_
  simp only [List.take_succ_cons, List.take_zero, List.drop_succ_cons, List.drop_zero]
  repeat (go_big_quiet_step (fail))
  refine wpQuiet_nil ?_
  refine flo_effg rfl rfl rfl (fun wg2 hgg2 K hK => ?_)
  (try replace HG := Gr.trans (Gr.trans HG (by (repeat (first | (with_reducible exact Gr.refl _) | assumption | (with_reducible apply Gr.from_drew) | (with_reducible apply Gr.alloc) | (with_reducible apply Gr.drew) | (with_reducible refine Gr.trans ?_ (by assumption)) | (with_reducible refine Gr.setCell ?_ (by omega) _))))) hgg2)
  (try replace fo1 := Gr.blk hgg2 (Gr.blk (by (repeat (first | (with_reducible exact Gr.refl _) | assumption | (with_reducible apply Gr.from_drew) | (with_reducible apply Gr.alloc) | (with_reducible apply Gr.drew) | (with_reducible refine Gr.trans ?_ (by assumption)) | (with_reducible refine Gr.setCell ?_ (by omega) _)))) fo1))
  refine wp_appv _ (.tmp 6) (.tmp 10) 143 rfl 9 i0 _ 1 16 Try.underlying143 hi hz0 hz1 hz2 rfl (by decide) (.slice (some ⟨fb1, 0, none⟩) 0 0) 0 [] rfl (own_made fo1) a L.length cap (ksL L) rfl (SRC.out.1.gr (Gr.of_drew HG)) (by simp only [maxLen]; omega) (by omega) (fun k1 x1 hk1 => ?_); rw [Nat.zero_add, List.nil_append] at hk1; (replace HG := Gr.md HG (hk1.mdh (fun g h => h)) (fun q hq => by rw [ownB hq]; exact fl1)); obtain ⟨a1, n1, rfl⟩ := hk1.val; refine hK _ _ ⟨hk1.mdh (fun q hq => by rw [ownB hq]; simp), ?_⟩; simp only [Act.put, List.setIfInBounds_toArray, List.set_cons_succ, List.set_cons_zero]
  refine flo_float (fun b ↦ .slice (some ⟨b, 0, none⟩) 0 0) (_ ) rfl rfl ( fun w ↦ by simp [go_sem]; rfl ) (fun wf2 fb2 hgf2 fl2 fh2 ft2 fo2 => ?_)
  (try replace HG := Gr.trans (Gr.trans HG (by (repeat (first | (with_reducible exact Gr.refl _) | assumption | (with_reducible apply Gr.from_drew) | (with_reducible apply Gr.alloc) | (with_reducible apply Gr.drew) | (with_reducible refine Gr.trans ?_ (by assumption)) | (with_reducible refine Gr.setCell ?_ (by omega) _))))) hgf2)
  (try replace fo1 := Gr.blk hgf2 fo1)
  (try have fc1 := (cellsOf fo1).1)
  (try have ff1 := (cellsOf fo1).2)
  (try have fc2 := (cellsOf fo2).1)
  (try have ff2 := (cellsOf fo2).2)
  simp only [Act.put, List.setIfInBounds_toArray, List.set_cons_succ, List.set_cons_zero]
  refine flo_seg 4 rfl ?_
  simp only [List.take_succ_cons, List.take_zero, List.drop_succ_cons, List.drop_zero]
  repeat (go_big_quiet_step (fail))
  refine wpQuiet_nil ?_
  refine flo_eff rfl rfl rfl rfl (fun K hK => ?_)
  refine wp_appv _ (.tmp 12) (.tmp 16) 143 rfl 9 i0 _ 1 16 Try.underlying143 hi hz0 hz1 hz2 rfl (by decide) (.slice (some ⟨fb2, 0, none⟩) 0 0) 0 [] rfl (own_made fo2) a' L.length cap' (vsL L) rfl (SRC.out.2.gr (Gr.of_drew HG)) (by simp only [maxLen]; omega) (by omega) (fun k2 x2 hk2 => ?_); rw [Nat.zero_add, List.nil_append] at hk2; (replace HG := Gr.md HG (hk2.mdh (fun g h => h)) (fun q hq => by rw [ownB hq]; exact fl2)); obtain ⟨a2, n2, rfl⟩ := hk2.val; refine hK _ _ ⟨hk2.mdh (fun q hq => by rw [ownB hq]; simp), ?_⟩; simp only [Act.put, List.setIfInBounds_toArray, List.set_cons_succ, List.set_cons_zero]
  refine flo_seg 1 rfl ?_
  simp only [List.take_succ_cons, List.take_zero, List.drop_succ_cons, List.drop_zero]
  repeat (go_big_quiet_step (fail))
  refine wpQuiet_nil ?_
  refine flo_eff rfl rfl rfl rfl (fun K hK => ?_)
  go_wp2
  refine ⟨by (first | (refine Gr.mdh ?_ _; (repeat (first | (with_reducible exact Gr.refl _) | assumption | (with_reducible apply Gr.from_drew) | (with_reducible apply Gr.alloc) | (with_reducible apply Gr.drew) | (with_reducible refine Gr.trans ?_ (by assumption)) | (with_reducible refine Gr.setCell ?_ (by omega) _))); done) | (repeat (first | (with_reducible exact Mdh.refl _ _) | (with_reducible refine Mdh.setCell ?_ (by simp) _) | (with_reducible refine Mdh.setNew ?_ (by simp) _) | (with_reducible apply Mdh.alloc) | (with_reducible apply Mdh.drew) | (with_reducible refine Mdh.gr ?_ (by assumption))))), ?_⟩
  refine flo_seg 1 rfl ?_
  simp only [List.take_succ_cons, List.take_zero, List.drop_succ_cons, List.drop_zero]
  repeat (go_big_quiet_step (fail))
  refine wpQuiet_nil ?_
  refine flo_nil ?_
  have o1 : Own x2 9 1 (.slice a1 L.length n1) L.length (ksL L) := (hk1.1.gr hgf2).mdh (hk2.mdh (fun g h => h)) (fun q hq h => by
    rw [ownB h] at hq
    refine ft2 ((hk1.2.1 _ hq).elim (fun h => .inl (.inr (ownB h))) (fun h => .inr ⟨h, hk1.1.lt hq⟩)))
  have ap : ∀ q, (Value.slice a1 L.length n1).ownBlock = some q → (Value.slice a2 L.length n2).ownBlock ≠ some q := fun q hq h => by
    have l1 := hk1.1.lt hq
    rcases hk2.2.1 q h with h | h
    · rw [ownB h] at hq
      exact ft2 ((hk1.2.1 _ hq).elim (fun h => .inl (.inr (ownB h))) (fun h => .inr ⟨h, hk1.1.lt hq⟩))
    · have := hgf2.sz; omega
  have nw2 : ∀ q, (Value.slice a2 L.length n2).ownBlock = some q → w.heap.size ≤ q := fun q hq => (hk2.2.1 q hq).elim (fun h => by rw [ownB h]; exact fl2) (fun h => Nat.le_trans (Nat.le_trans fl2 (Nat.le_of_lt fh2)) h)
  have HE := Lib.hid (And.intro o1 (And.intro hk2.1 (And.intro ap (And.intro nw2 HG))))
  clear o1 ap nw2 hk1 hk2 HG hgf1 hgf2 fl1 fl2 fh1 fh2 ft1 ft2 fo1 fo2 fc1 fc2 ff1 ff2
  go_wp2
  go_ret
  exact ⟨_, _, _, rfl, ⟨blkNew _ _, HE.out.1.gr ((Gr.refl _).alloc _), HE.out.2.1.gr ((Gr.refl _).alloc _), H.out.srt⟩, HE.out.2.2.1, HE.out.2.2.2.2.sz, HE.out.2.2.2.1, (Gr.of_drew HE.out.2.2.2.2).alloc _⟩
end Go.Proofs.Ytbhkigjmjmfbgaa
