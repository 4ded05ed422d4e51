/- Copy of an ordered map, at keys int and values int. Written from YOmq.base by inst.py. -/
import Derived.Test.YtbhkigjmjmfbgaaOmdii
import Derived.Test.YtbhkigjmjmfbgaaAppv
import Derived.Test.YtbhkigjmjmfbgaaTl
import Derived.Test.YtbhkigjmjmfbgaaBox
set_option linter.unusedVariables false
set_option linter.unusedSimpArgs false
namespace Go.Proofs.Ytbhkigjmjmfbgaa
open Go.RowKit Go.Shelf
attribute [local go_sem] OvM cell_ovm obj_ovm
attribute [local go_sem] Oper.semAt_some

/-- A map under way, in the block bc; the pointer to it lies in the block bx. None of them is Z's. -/
structure CpRii (W : World) (Z : Nat → Prop) (bx bc : Nat) (v : Value) (L : List Itii) : Prop where
  box : W.heap[bx]? = some (.cells #[.pointer (some ⟨bc, 0, none⟩)] 23)
  blk : W.heap[bc]? = some (.cells #[.bool true, v] 107 (0, 0))
  own : Own W 110 2 v L.length (rowii L)
  zx : ¬ Z bx
  zc : ¬ Z bc
  zg : ∀ g, v.ownBlock = some g → ¬ Z g
theorem CpRii.apart {β : Type} (bx bc : Nat) (v : Value) (L : β → List Itii) : Apart (fun Z s W => CpRii W Z bx bc v (L s)) := fun Z Z' s X Y h hm hz =>
  ⟨hm.blk h.box h.zx, hm.blk h.blk h.zc, h.own.mdh hm h.zg, fun hk => (hz _ hk).elim h.zx (fun y => by have := blkLt h.box; omega), fun hk => (hz _ hk).elim h.zc (fun y => by have := blkLt h.blk; omega),
    fun g hg hk => (hz _ hk).elim (h.zg g hg) (fun y => by have := h.own.lt hg; omega)⟩

set_option maxRecDepth 40000 in
set_option maxHeartbeats 4000000 in
theorem CopyOii (b : Nat) (v : Value) (L : List Itii) (w : World) (h : OMii w b v L) (hn : L.length ≤ 100000) :
    Calls Try.prog 39 #[.pointer (some ⟨b, 0, none⟩)] w fun e w' => ∃ b' v', e = .returned (.pointer (some ⟨b', 0, none⟩)) ∧ OMii w' b' v' L ∧ w.heap.size ≤ b' ∧ (∀ g, v'.ownBlock = some g → w.heap.size ≤ g) ∧ Gr w w' := by
  obtain ⟨i0, hi, hz0, hz1, hz2⟩ := info_parts infoItii
  have c0 := ((cellsOf h.blk).1 0).trans (show _ = some (Value.bool true) from rfl)
  have HV : Hid (VWii w (some ⟨b, 0, none⟩) v L) := Lib.hid (.inl ⟨b, rfl, h⟩)
  have HSRT := Lib.hid h.srt
  clear h
  refine calls_of_wp_marks Try.func39 rfl ?_
  simp only [Try.ntmps39, List.size_toArray, List.length_cons, List.length_nil, Nat.reduceAdd, Nat.reduceSub, Array.replicate_succ, Array.replicate_zero, List.push_toArray, List.append_toArray, List.nil_append, List.cons_append]
  go_wp2_with fail
  refine (AllOii _ _).mono ?_
  rintro e u ⟨bb, rfl, hbb, hlt, hg⟩
  obtain ⟨bc, hbc⟩ : ∃ n, n = w.heap.size := ⟨_, rfl⟩
  have xc : u.heap[bc]? = some (.cells #[.bool true, .slice none 0 0] 107 (0, 0)) := by rw [hbc]; exact hg.blk (blkOld (blkNew _ _))
  have xx : u.heap[bc + 1]? = some (.cells #[.pointer (some ⟨bc, 0, none⟩)] 23) := by
    rw [hbc]
    have := hg.blk (blkNew (w.alloc (.cells #[.bool true, .slice none 0 0] 107 (0, 0))) (.cells #[.pointer (some ⟨w.heap.size, 0, none⟩)] 23))
    rwa [World.size_alloc] at this
  have gu : Gr w u := (((Gr.refl w).alloc _).alloc _).trans hg
  rw [← hbc]
  have HGU := Lib.hid gu
  have HBC := Lib.hid hbc
  have HAU : Hid (∀ k, (k = bb ∨ OMB (some ⟨b, 0, none⟩) v k) → k < u.heap.size) := Lib.hid (by
    rintro k (rfl | h)
    · exact World.block_lt_of_cell? u ⟨k, 0, none⟩ hbb
    · exact (HV.out.gr gu).lt k h)
  have HA0 : Hid (∀ k, (k = bb ∨ OMB (some ⟨b, 0, none⟩) v k) → k ≠ bc) := Lib.hid (by
    rintro k (rfl | h) e
    · simp only [World.size_alloc] at hlt; omega
    · have := HV.out.lt k h; omega)
  have hseq := SeqAii (some ⟨b, 0, none⟩) v L (by omega) bb u (HV.out.gr gu) hbb
  clear hg hbc hbb hlt gu
  go_wp2_with fail
  apply wp_rangeFunc_zb (gf := 55) (lb := #[.pointer (some ⟨bb, 0, none⟩)]) rfl (enters_of Try.func55 (by kernel_rfl) rfl) hseq (Mdh.refl _ u) HAU.out (fun _ => rfl)
    (fun Z pre W => (∃ vv, CpRii W Z (bc + 1) bc vv pre ∧ ∀ g, vv.ownBlock = some g → u.heap.size ≤ g) ∧ Frm u (fun k => k = bc) Z W)
    (fun _ _ _ => False) (fun _ _ _ => False)
    ((Apart.ex fun vv => (CpRii.apart _ _ vv _).and (Apart.pure _)).and (Frm.apart _ _)) apart_no apart_no
    ⟨⟨_, ⟨xx, xc, ⟨rfl, .inl ⟨rfl, rfl⟩⟩, fun h => h, fun h => h, fun g hg => (by cases hg)⟩, fun g hg => (by cases hg)⟩, Frm.refl _ _⟩
    _ ?assign ?body ?hend ?hret
  case assign =>
    intro l x W K hK
    dsimp only [encOii]
    gi_wp2
    exact hK
  case hret => intro _ _ _ _ _ _ _ h; exact h.elim
  case body =>
    intro l Z pre x W hI hsp
    obtain ⟨⟨vv, hC, hgn⟩, hF⟩ := hI
    have hpl : pre.length < L.length := by have := hsp.length_le; simp at this; omega
    have d0 := ((cellsOf hC.box).1 0).trans (show _ = some (Value.pointer (some ⟨bc, 0, none⟩)) from rfl)
    have d1 := ((cellsOf hC.blk).1 1).trans (show _ = some vv from rfl)
    have nS1 : ¬ vv.ownBlock = some (bc + 1) := own_ne hC.own hC.box (by decide)
    have nS2 : ¬ vv.ownBlock = some bc := own_ne hC.own hC.blk (by decide)
    have hSlt : ∀ k, vv.ownBlock = some k → k < W.heap.size := fun k hk => hC.own.lt hk
    have HC := Lib.hid hC
    have HF := Lib.hid hF
    have HN := Lib.hid hgn
    have HSP := Lib.hid hsp
    have mixed : Try.prog.follows .mixedOrders = true := by kernel_rfl
    clear hC hF hgn hsp hseq xx xc
    obtain ⟨y1, y2⟩ := x
    gi_wp2_with fail
    refine wpIn_region_flt 10 (fun _ => trivial) rfl (fun q => vv.ownBlock = some q) [] [] (by kernel_rfl) (by kernel_rfl) (by decide) (by kernel_rfl) (hSlt) ?_
    simp only [List.take_succ_cons, List.take_zero, List.drop_succ_cons, List.drop_zero]
    refine flo_seg 8 rfl ?_
    simp only [List.take_succ_cons, List.take_zero, List.drop_succ_cons, List.drop_zero]
    repeat (go_big_quiet_step (fail))
    refine wpQuiet_nil ?_
    refine flo_eff rfl rfl rfl rfl (fun K hK => ?_)
    gi_wp2
    refine ⟨by (first | (refine Gr.mdh ?_ _; (repeat (first | (with_reducible exact Gr.refl _) | assumption | (with_reducible apply Gr.from_drew) | (with_reducible apply Gr.alloc) | (with_reducible apply Gr.drew) | (with_reducible refine Gr.trans ?_ (by assumption)) | (with_reducible refine Gr.setCell ?_ (by omega) _))); done) | (repeat (first | (with_reducible exact Mdh.refl _ _) | (with_reducible refine Mdh.setCell ?_ (by simp) _) | (with_reducible refine Mdh.setNew ?_ (by simp) _) | (with_reducible apply Mdh.alloc) | (with_reducible apply Mdh.drew) | (with_reducible refine Mdh.gr ?_ (by assumption))))), ?_⟩
    refine flo_eff rfl rfl rfl rfl (fun K hK => ?_)
    refine wpIn_appv _ (.tmp 25) (.tmp 29) 105 rfl 110 i0 _ 2 16 Try.underlying105 hi hz0 hz1 hz2 rfl (by decide) vv pre.length (rowii pre) rfl (HC.out.own.gr (by (repeat (first | (with_reducible exact Gr.refl _) | assumption | (with_reducible apply Gr.from_drew) | (with_reducible apply Gr.alloc) | (with_reducible apply Gr.drew) | (with_reducible refine Gr.trans ?_ (by assumption)) | (with_reducible refine Gr.setCell ?_ (by omega) _))))) (some ⟨W.heap.size, 0, none⟩) 1 1 [.int .i64 (y1), .int .i64 (y2)] rfl ((src_newK W [.int .i64 (y1), .int .i64 (y2)] _ 2 rfl (by simp [Value.oneCell'])).gr (by (repeat (first | (with_reducible exact Gr.refl _) | assumption | (with_reducible apply Gr.from_drew) | (with_reducible apply Gr.alloc) | (with_reducible apply Gr.drew) | (with_reducible refine Gr.trans ?_ (by assumption)) | (with_reducible refine Gr.setCell ?_ (by omega) _))))) (by simp only [maxLen]; omega) (by omega) (fun v' xa hk => ?_); obtain ⟨a', c', rfl⟩ := hk.val; refine hK _ _ ⟨hk.mdh (fun q hq => .inl hq), ?_⟩; simp only [Act.put, List.setIfInBounds_toArray, List.set_cons_succ, List.set_cons_zero]
    refine flo_nil ?_
    have b1 : xa.heap[bc]? = some (.cells #[.bool true, vv] 107 (0, 0)) := (hk.mdh (fun g h => h)).blk (Gr.blk (by (repeat (first | (with_reducible exact Gr.refl _) | assumption | (with_reducible apply Gr.from_drew) | (with_reducible apply Gr.alloc) | (with_reducible apply Gr.drew) | (with_reducible refine Gr.trans ?_ (by assumption)) | (with_reducible refine Gr.setCell ?_ (by omega) _)))) HC.out.blk) nS2
    have b2 : xa.heap[bc + 1]? = some (.cells #[.pointer (some ⟨bc, 0, none⟩)] 23) := (hk.mdh (fun g h => h)).blk (Gr.blk (by (repeat (first | (with_reducible exact Gr.refl _) | assumption | (with_reducible apply Gr.from_drew) | (with_reducible apply Gr.alloc) | (with_reducible apply Gr.drew) | (with_reducible refine Gr.trans ?_ (by assumption)) | (with_reducible refine Gr.setCell ?_ (by omega) _)))) HC.out.box) nS1
    have f1 := ((cellsOf b1).1 1).trans (show _ = some vv from rfl)
    have ff := (cellsOf b1).2
    have hMD : Mdh (fun q => vv.ownBlock = some q) W xa := Mdh.trans (Gr.mdh (by (repeat (first | (with_reducible exact Gr.refl _) | assumption | (with_reducible apply Gr.from_drew) | (with_reducible apply Gr.alloc) | (with_reducible apply Gr.drew) | (with_reducible refine Gr.trans ?_ (by assumption)) | (with_reducible refine Gr.setCell ?_ (by omega) _)))) _) (hk.mdh (fun g h => h))
    have hsz : ∀ g, (Value.slice a' (pre.length + 1) c').ownBlock = some g → vv.ownBlock = some g ∨ W.heap.size ≤ g := fun g hg => (hk.2.1 g hg).imp id (fun h => by simp at h; omega)
    have HB1 := Lib.hid b1
    have HB2 := Lib.hid b2
    have HM := Lib.hid hMD
    have HO := Lib.hid hk.1
    have HSZ := Lib.hid hsz
    have NS := Lib.hid (And.intro nS1 nS2)
    clear b1 b2 hMD hk hsz d0 d1 nS1 nS2 hSlt
    gi_wp2_with fail
    have m2 : Mdh (fun k => k = bc ∨ vv.ownBlock = some k) W (xa.setCell ⟨bc, 1, none⟩ (.slice a' (pre.length + 1) c')) := (HM.out.mono (fun k h => .inr h)).setCell (p := ⟨bc, 1, none⟩) (.inl rfl) _
    have hrow : rowii (pre ++ [(y1, y2)]) = rowii pre ++ [.int .i64 (y1), .int .i64 (y2)] := by rw [row_appii]; rfl
    have hnb : ∀ g, (Value.slice a' (pre.length + 1) c').ownBlock = some g → g ≠ bc := fun g hg e => by
      subst e
      exact own_ne HO.out HB1.out (by decide) hg
    refine ⟨m2.mono (fun k hk => ?_), ⟨_, ⟨blkSetO HB2.out (by simp), blkSet (j := 1) HB1.out, ?_, HC.out.zx, HC.out.zc, fun g hg => ?_⟩, fun g hg => ?_⟩, HF.out.step m2 (fun k hk => ?_)⟩
    · rcases hk with rfl | hk
      · exact ⟨fun h => HA0.out _ h rfl, HC.out.zc⟩
      · exact ⟨fun h => by have := HAU.out _ h; have := HN.out k hk; omega, HC.out.zg k hk⟩
    · rw [hrow, List.length_append]
      exact HO.out.other (p := ⟨bc, 1, none⟩) (fun h => hnb _ h rfl) _
    · rcases HSZ.out g hg with h | h
      · exact HC.out.zg g h
      · exact fun hz => by have := HF.out.t g hz; omega
    · exact (HSZ.out g hg).elim (HN.out g) (fun h => Nat.le_trans HF.out.m.size h)
    · rcases hk with rfl | hk
      · exact .inl rfl
      · exact .inr (HN.out k hk)
  case hend =>
    intro Z D xs W hD hZD hcase hdef
    obtain ⟨hxs, ⟨vv, hC, hgn⟩, hF⟩ := hcase.elim (fun h => h) (fun h => h.2.elim)
    have hxs' : xs = L := hxs
    subst hxs'
    have d0 := ((cellsOf hC.box).1 0).trans (show _ = some (Value.pointer (some ⟨bc, 0, none⟩)) from rfl)
    have HGW := Lib.hid (Gr.md HGU.out hF.m (fun k hk => by have := HBC.out; omega))
    have HC := Lib.hid hC
    have HN := Lib.hid hgn
    have HDEF := Lib.hid hdef
    have HZD := Lib.hid hZD
    clear hC hF hcase hxs hseq xx xc hgn
    go_wp2_with fail
    have hwD : w.heap.size ≤ D := Nat.le_trans HGU.out.sz hD
    have hm : Mdh (fun k => k = D) W (W.putObj D (.deferred none)) := Mdh.putObj (S := fun k => k = D) (Mdh.refl _ W) rfl _
    refine retM1 (D := D) rfl HDEF.out (results_tmp rfl _ _ _) ⟨bc, vv, rfl, ⟨hm.blk HC.out.blk (fun e => HC.out.zc (e ▸ HZD.out)), HC.out.own.mdh hm (fun k hk e => HC.out.zg k hk (e ▸ HZD.out)), own_ne HC.out.own HC.out.blk (by decide), HSRT.out⟩, by rw [HBC.out]; exact Nat.le_refl _, fun g hg => Nat.le_trans HGU.out.sz (HN.out g hg), HGW.out.putObj hwD _⟩
end Go.Proofs.Ytbhkigjmjmfbgaa
