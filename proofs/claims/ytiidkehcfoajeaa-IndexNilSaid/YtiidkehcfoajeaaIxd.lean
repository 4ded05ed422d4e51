/- slices.Clone at rows of entries. -/
import Derived.Test.YtiidkehcfoajeaaIxc
import Derived.WalkSpells
import Derived.Deep.DeepMust
set_option linter.unusedVariables false
set_option linter.unusedSimpArgs false
namespace Go.Proofs.Ytiidkehcfoajeaa
open Go.RowKit
attribute [local go_sem] OvM cell_ovm obj_ovm

set_option maxRecDepth 40000 in
set_option maxHeartbeats 1000000 in
theorem CloneE (l : List En) (hlen : l.length ≤ 100000) (s : Sl) (w : World) (h : Own w 23 6 (slV s) l.length (rowE l)) :
    Calls Try.prog 112 #[slV s] w fun e w' => ∃ s' : Sl, e = .returned (slV s') ∧ Own w' 23 6 (slV s') l.length (rowE l) ∧ (∀ k, (slV s').ownBlock = some k → w.heap.size ≤ k) ∧ Gr w w' := by
  obtain ⟨i0, hi, hz0, hz1, hz2⟩ := info_parts infoIten
  obtain ⟨s1, s2, s3⟩ := s
  simp only [slV] at *
  rcases h.2 with ⟨hv, h0⟩ | ⟨g, cap, cur, hv, _, hg, h1, h2, h3, h4⟩
  · have k3 := @Lib.run_eql_slice_nil
    obtain rfl : l = [] := List.eq_nil_of_length_eq_zero h0
    injection hv with e1 e2 e3
    subst e1 e2 e3
    clear h
    go_enter Try.func112, Try.ntmps112
    go_wp2
    go_ret
    exact ⟨(none, 0, 0), rfl, nilRow _ _ _, fun k hk => by simp [Value.ownBlock] at hk, Gr.refl _⟩
  · injection hv with e1 e2 e3
    subst e1 e2 e3
    have k3 : ∀ w : World, (binOp .eql 127 (.slice (some ⟨g, 0, none⟩) l.length s3) (.slice none 0 0)).run Try.prog w = .ok (.bool false) w := fun w => Lib.run_eql_slice_nil w _ _ (some ⟨g, 0, none⟩) l.length s3 0 0 Try.underlying127
    have HC : Hid (∀ w1, Gr w w1 → ∀ j u, (rowE l)[j]? = some u → w1.cell? ((⟨g, 0, none⟩ : Addr).add j) = some u) := Lib.hid (fun w1 g1 j u hj => (h.gr g1).cells (g := g) rfl j u hj)
    have HR : Hid ((rowE l).length = l.length * 6) := Lib.hid (rowE_len l)
    have H1 := Lib.hid (rowE_one l)
    clear h hg h4
    go_enter Try.func112, Try.ntmps112
    go_wp2_with (at_builtin; go_must (refine wpList_append_own _ rfl (.tmp 5) (.tmp 6) 127 rfl w.heap.size 23 i0 _ 6 56 Try.underlying127 hi hz0 hz1 hz2 rfl (by decide) (.slice (some ⟨w.heap.size, 0, none⟩) 0 0) 0 [] rfl (World.ownsRow_made _ #[] 0 (Nat.le_refl _) (by simp only [maxLen]; omega) rfl) ⟨g, 0, none⟩ l.length s3 (rowE l) rfl HR.out (HC.out _ (by (repeat (first | (with_reducible exact Gr.refl _) | assumption | (with_reducible apply Gr.from_drew) | (with_reducible apply Gr.alloc) | (with_reducible apply Gr.drew) | (with_reducible refine Gr.trans ?_ (by assumption)) | (with_reducible refine Gr.setCell ?_ (by omega) _))))) H1.out (by simp only [maxLen]; omega) (by omega) (by simp) ?_); intro v' w2 hown2 hgrow hnil; have HO2 := Lib.hid hown2; have HG2 := Lib.hid hgrow; have HN := Lib.hid hnil; clear hown2 hgrow hnil)
    go_ret
    have ho := HO2.out
    simp only [Nat.zero_add, List.nil_append] at ho
    have hg := HG2.out
    have hv : ∃ s' : Sl, v' = slV s' := by
      rcases ho.2 with ⟨hv, _⟩ | ⟨g', cap', cur', hv, _⟩
      · exact ⟨(none, 0, 0), hv⟩
      · exact ⟨(_, _, _), hv⟩
    obtain ⟨s', rfl⟩ := hv
    refine ⟨s', rfl, Own.lift ho, fun k hk => (World.ownsRow.lt ho k hk).1, hg.os, hg.tape, hg.output, Nat.le_trans (by simp) hg.size, fun k hk => ?_⟩
    exact (hg.block k (by simp; omega) (by simp [Value.ownBlock]; omega)).trans (Below.heap_alloc w _ k hk)
end Go.Proofs.Ytiidkehcfoajeaa
