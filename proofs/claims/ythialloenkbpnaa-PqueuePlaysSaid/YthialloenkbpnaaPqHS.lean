/- Contracts of a queue's Copy, at the priorities string. Written from YPqH.base by inst.py. -/
import Derived.Test.YthialloenkbpnaaPqNS
import Derived.Deep.DeepMust
set_option linter.unusedVariables false
set_option linter.unusedSimpArgs false
namespace Go.Proofs.Ythialloenkbpnaa
open Go.RowKit
attribute [local go_sem] OvM cell_ovm obj_ovm

set_option maxRecDepth 40000 in
set_option maxHeartbeats 1000000 in
theorem Clone_nilS (w : World) :
    Calls Try.prog 69 #[.slice none 0 0] w fun e w' => e = .returned (.slice none 0 0) ∧ w = w' := by
  have k3 := @Lib.run_eql_slice_nil
  go_enter Try.func69, Try.ntmps69
  go_wp2
  go_ret
  exact ⟨rfl, rfl⟩

set_option maxRecDepth 40000 in
set_option maxHeartbeats 1000000 in
theorem CloneS (g len cap : Nat) (xs : List Value) (w : World) (hown : Own w 106 2 (.slice (some ⟨g, 0, none⟩) len cap) len xs) (h1 : ∀ u ∈ xs, u.oneCell' = true) (hlen : len ≤ 1024) :
    Calls Try.prog 69 #[.slice (some ⟨g, 0, none⟩) len cap] w fun e w' => ∃ g' cap', e = .returned (.slice (some ⟨g', 0, none⟩) len cap') ∧
      Own w' 106 2 (.slice (some ⟨g', 0, none⟩) len cap') len xs ∧ w.heap.size ≤ g' ∧ Gr w w' := by
  obtain ⟨i0, hi, hz0, hz1, hz2⟩ := info_parts Try.infoEntS
  have hgl : g < w.heap.size := hown.lt rfl
  have k3 : ∀ w : World, (binOp .eql 101 (.slice (some ⟨g, 0, none⟩) len cap) (.slice none 0 0)).run Try.prog w = .ok (.bool false) w := fun w => Lib.run_eql_slice_nil w _ _ (some ⟨g, 0, none⟩) len cap 0 0 Try.underlying101
  have HO := Lib.hid hown
  have H1 := Lib.hid h1
  clear hown h1
  go_enter Try.func69, Try.ntmps69
  go_wp2_with (at_builtin; go_must (refine wpList_append_own _ rfl (.tmp 5) (.tmp 6) 101 rfl w.heap.size 106 i0 _ 2 24 Try.underlying101 hi hz0 hz1 hz2 rfl (by decide) (.slice (some ⟨w.heap.size, 0, none⟩) 0 0) 0 [] rfl (World.ownsRow_made _ #[] 0 (Nat.le_refl _) (by simp only [maxLen]; omega) rfl) ⟨g, 0, none⟩ len cap xs rfl HO.out.1 (World.ownsRow.cells (HO.out.gr (by (repeat (first | (with_reducible exact Gr.refl _) | assumption | (with_reducible apply Gr.from_drew) | (with_reducible apply Gr.alloc) | (with_reducible apply Gr.drew) | (with_reducible refine Gr.trans ?_ (by assumption)) | (with_reducible refine Gr.setCell ?_ (by omega) _))))) rfl) H1.out (by simp only [maxLen]; omega) (by omega) (by simp) ?_); intro v' w2 hown2 hgrow hnil; have HO2 := Lib.hid hown2; have HG2 := Lib.hid hgrow; have HN := Lib.hid hnil; clear hown2 hgrow hnil)
  go_ret
  have hne : v' ≠ .slice none 0 0 := fun e => by have := (HN.out.1 e).1; cases this
  have ho := HO2.out
  simp only [Nat.zero_add, List.nil_append] at ho
  rcases ho.2 with ⟨e, _⟩ | ⟨g', cap', cur, rfl, hb, r⟩
  · exact absurd e hne
  · refine ⟨g', cap', rfl, Own.lift ho, hb, ?_⟩
    have hg := HG2.out
    refine ⟨hg.os, hg.tape, hg.output, Nat.le_trans (by simp) hg.size, fun k hk => ?_⟩
    exact (hg.block k (by simp; omega) (by simp [Value.ownBlock]; omega)).trans (Below.heap_alloc w _ k hk)

set_option maxRecDepth 40000 in
set_option maxHeartbeats 1000000 in
theorem CopyS (b n len : Nat) (M : Nat → Option UInt8) (S : Nat → Prop) (w : World) (q : QRS w b n len M S) :
    Calls Try.prog 29 #[.pointer (some ⟨b, 0, none⟩)] w fun e w' => ∃ b' S', e = .returned (.pointer (some ⟨b', 0, none⟩)) ∧ QRS w' b' n len M S' ∧ (∀ k, S' k → w.heap.size ≤ k) ∧ Gr w w' := by
  have hn := q.1
  have hd : decide (0 < n) = true := by simp [hn]
  obtain ⟨hv, pl, qb, hcase⟩ : ∃ hv pl, QB w 103 b n hv pl ∧ ((hv = .slice none 0 0 ∧ len = 0 ∧ (∀ i, i < 1024 → pl i = 0) ∧ (∀ m, M m = none)) ∨
      ∃ cap g h, hv = .slice (some ⟨g, 0, none⟩) len cap ∧ RG w 106 encS len cap g h ∧ PI n len h pl ∧ HeapOK ltS len h ∧ ∀ m, m < 1024 → M m = Mo h pl m) := by
    obtain ⟨h1, h2, h3, ⟨rfl, ⟨pl, q, h4⟩, h5, rfl⟩ | ⟨cap, g, pl, h, k, h4, rfl⟩⟩ := q
    · exact ⟨_, pl, q, .inl ⟨rfl, rfl, h4, h5⟩⟩
    · exact ⟨_, pl, k.c.q, .inr ⟨cap, g, h, rfl, k.c.r, k.p, k.k, h4⟩⟩
  obtain ⟨cs, hb, hs, hc0, hc1, hc2⟩ := qb.blk
  have HONE : Hid (cs.all (·.oneCell') = true) := Lib.hid (by
    rw [Array.all_eq_true]
    intro i hi
    have hx : cs[i]? = some cs[i] := Array.getElem?_eq_getElem hi
    rcases (show i = 0 ∨ i = 1 ∨ 2 ≤ i by omega) with rfl | rfl | h2
    · rw [hc0] at hx; rw [← Option.some.inj hx]; rfl
    · rw [hc1] at hx; rw [← Option.some.inj hx]
      rcases hcase with ⟨rfl, _⟩ | ⟨_, _, _, rfl, _⟩ <;> rfl
    · obtain ⟨j, rfl⟩ : ∃ j, i = j + 2 := ⟨i - 2, by omega⟩
      rw [hc2 j (by omega)] at hx; rw [← Option.some.inj hx]; rfl)
  have HB := Lib.hid hb
  have HS := Lib.hid hs
  have HQ := Lib.hid q
  have HQB := Lib.hid qb
  have HC0 := Lib.hid hc0
  have HC1 := Lib.hid hc1
  have HC2 := Lib.hid hc2
  have HCASE := Lib.hid hcase
  have hsz : (Try.prog.info? 103).map (·.size) = some 1026 := by kernel_rfl
  have hbl := qb.lt
  clear hb hs hc0 hc1 hc2 hcase q
  go_enter Try.func29, Try.ntmps29
  go_upto_region 4 with (first
    | (go_at_call 59; refine (validS _ _ _ _ _ HQB.out).mono ?_; rintro e w1 ⟨rfl, rfl⟩)
    | (refine wpList_load_row rfl 103 (.tmp 8) rfl b rfl 103 cs (0, 0) _ HB.out Try.underlying103 rfl (by rw [HS.out]; exact hsz) ?_)
    | (refine wpList_store_row rfl 103 (.tmp 3) (.tmp 9) rfl w.heap.size cs rfl rfl 103 _ (blkNew _ _) (by rw [HS.out]; exact hsz) (by rw [HS.out]; exact zc1S) HONE.out ?_))
  have hb1 : Hid (((w.alloc (.cells Try.zeroCells103 103)).setRow w.heap.size cs).heap[w.heap.size]? = some (.cells cs 103)) := Lib.hid (setRow_heap _ _ _ _ _ _ (blkNew _ _))
  have hg1 : Gr w ((w.alloc (.cells Try.zeroCells103 103)).setRow w.heap.size cs) := by
    have h0 := Gr.alloc (Gr.refl w) (.cells Try.zeroCells103 103)
    exact ⟨h0.os, h0.tape, h0.output, by simp, fun k hk => (setRow_other _ _ _ _ (by omega)).trans (Below.block h0 k hk)⟩
  have hsz1 : w.heap.size < ((w.alloc (.cells Try.zeroCells103 103)).setRow w.heap.size cs).heap.size := by simp
  revert hb1 hg1 hsz1
  generalize (w.alloc (.cells Try.zeroCells103 103)).setRow w.heap.size cs = w1
  generalize hB : w.heap.size = B
  intro hb1 hg1 hsz1
  have HB' := Lib.hid hB
  clear hB
  have HQB1 : Hid (QB w1 103 B n hv pl) := Lib.hid ⟨cs, hb1.out, HS.out, HC0.out, HC1.out, HC2.out⟩
  have q1 := (HQB.out.gr hg1).c1
  have hbB : b < B := by rw [← HB'.out]; exact hbl
  rcases HCASE.out with ⟨rfl, rfl, hp0, hm0⟩ | ⟨cap, g, h, rfl, r, P, K, hM⟩
  · have hp0' := Lib.hid hp0
    have hm0' := Lib.hid hm0
    have q2 := HQB1.out.c1
    have q3 := HQB1.out.fr
    have H123 := Lib.hid (And.intro HQ.out.1 (And.intro HQ.out.2.1 HQ.out.2.2.1))
    clear hp0 hm0
    go_wp2_with (go_at_call 69; refine (Clone_nilS _).mono ?_; rintro e w2 ⟨rfl, rfl⟩)
    go_ret
    exact ⟨B, _, rfl, ⟨H123.out.1, H123.out.2.1, H123.out.2.2, .inl ⟨rfl, ⟨pl, HQB1.out.setHv _, hp0'.out⟩, hm0'.out, rfl⟩⟩, fun k hk => by rw [hk, HB'.out]; exact Nat.le_refl _, hg1.setCell (by rw [HB'.out]; exact Nat.le_refl _) _⟩
  · have HR := Lib.hid r
    have HP := Lib.hid P
    have HK := Lib.hid K
    have HM := Lib.hid hM
    have hfew := P.few
    have hmost := P.most
    have H123 := Lib.hid (And.intro HQ.out.1 (And.intro HQ.out.2.1 HQ.out.2.2.1))
    clear r P K hM
    go_wp2_with fail
    refine (CloneS g len cap _ _ (HR.out.gr hg1).own (rowL_one encS (fun x => rfl) h len) (by omega)).mono ?_
    rintro e w2 ⟨g', cap', rfl, hown, hle, hg2⟩
    have HO2 := Lib.hid hown
    have HQB2 := Lib.hid (HQB1.out.gr hg2)
    have q2 := HQB2.out.c1
    have q3 := HQB2.out.fr
    have hne : B ≠ g' := by omega
    clear hown
    go_wp2
    go_ret
    refine ⟨B, _, rfl, ⟨H123.out.1, H123.out.2.1, H123.out.2.2, .inr ⟨cap', g', pl, h, ⟨⟨HQB2.out.setHv _, ((RG.ofOwn HO2.out).other (fun e => hne e.symm) _), hne⟩, HP.out, HK.out⟩, HM.out, rfl⟩⟩, fun k hk => ?_, (hg1.trans hg2).setCell (by rw [HB'.out]; exact Nat.le_refl _) _⟩
    rw [HB'.out]
    rcases hk with rfl | rfl
    · exact Nat.le_refl _
    · omega
end Go.Proofs.Ythialloenkbpnaa
