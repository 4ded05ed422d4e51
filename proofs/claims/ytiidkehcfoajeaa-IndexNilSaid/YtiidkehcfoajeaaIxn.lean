/- Contract of index.New. -/
import Derived.Test.YtiidkehcfoajeaaIxj
import Derived.Laws.MakeOwn
set_option linter.unusedVariables false
set_option linter.unusedSimpArgs false
namespace Go.Proofs.Ytiidkehcfoajeaa
open Go.RowKit
attribute [local go_sem] OvM cell_ovm obj_ovm

theorem infoList : (Try.prog.info? 127).map (fun i => (i.zero, i.size, i.bytes)) = some (some (.slice none 0 0), 1, 24) := by kernel_rfl
theorem new_bad (n : Int) (h : n < 1 ∨ 32 < n) (w : World) : Calls Try.prog 55 #[.int .i64 n] w fun e w' => e = .returned (.tuple #[.pointer none, .int .i64 2]) ∧ w = w' := by
  rcases h with h | h
  · go_enter Try.func55, Try.ntmps55
    go_wp2
    go_ret2
    exact ⟨rfl, rfl⟩
  · have h1 : ¬ n < 1 := by omega
    go_enter Try.func55, Try.ntmps55
    go_wp2
    go_ret2
    exact ⟨rfl, rfl⟩
theorem ixNew_pos {n : Nat} (h : 1 ≤ n) : (ixNew n).slots ≠ [] := by
  intro h0
  have := congrArg List.length h0
  simp [ixNew] at this
  omega
/-- The rows of empty slots. -/
theorem new_sep {w : World} {b bm g n : Nat} (hn : 1 ≤ n) (h1 : n ≤ 32) (hb : w.heap[b]? = some (.cells #[.pointer (some ⟨bm, 0, none⟩), .slice (some ⟨g, 0, none⟩) n n] 29)) (ho : OMsl w bm (.slice none 0 0) []) (hg : w.heap[g]? = some (.cells (madeCells #[.slice none 0 0] (n * 1)) 127))
    (n1 : b ≠ bm) (n2 : b ≠ g) (n3 : bm ≠ g) : IXR w b (ixNew n) (fun k => k = b ∨ k = bm ∨ k = g) := by
  have hrep : (List.replicate n ((none, 0, 0) : Sl)).map slV = List.replicate n (Value.slice none 0 0) := by simp [slV]
  have hrow : Own w 127 1 (.slice (some ⟨g, 0, none⟩) n n) n ((List.replicate n ((none, 0, 0) : Sl)).map slV) := by
    refine Own.ofParts hg (Nat.le_refl _) (by simp only [maxLen]; omega) (by rw [size_madeCells]) ?_
    rw [hrep]
    apply List.ext_getElem?
    intro i
    by_cases hi : i < n
    · rw [List.getElem?_take_of_lt (by omega), made_get _ n i hi]
      simp [hi]
    · rw [List.getElem?_eq_none (by simp [size_madeCells]; omega), List.getElem?_eq_none (by simp; omega)]
  have hemp : ∀ (m : Nat), ∀ A ∈ slotRows (List.replicate m ((none, 0, 0) : Sl)) (List.replicate m []), A = enA (none, 0, 0) [] := fun m A hA => by
    unfold slotRows at hA
    rw [List.zipWith_replicate] at hA
    exact (List.mem_replicate.1 hA).2
  have hno : ∀ k, ¬ (enA (none, 0, 0) []).S k := fun k h => by cases h
  refine ⟨new_wf h1, ixNew_pos hn, ⟨bm, .slice none 0 0, .slice (some ⟨g, 0, none⟩) n n, [], List.replicate n (none, 0, 0)⟩, ⟨fun A hA => ?_, ?_⟩, ⟨rfl, by simp [ixNew]⟩, fun k => ⟨fun hk => ?_, fun ⟨A, hA, hk⟩ => ?_⟩⟩
  · simp only [Lay.list, Lay.hd, List.mem_append, List.mem_cons, List.not_mem_nil, or_false, ixNew, List.length_replicate] at hA
    rcases hA with (rfl | rfl | rfl) | hA | hA
    · exact hb
    · exact ho
    · exact hrow
    · cases hA
    · rw [hemp n A hA]; exact nilRow w _ _
  · simp only [Lay.list, Lay.hd, ixNew, keyRows, List.zipWith_nil_left, List.nil_append, List.cons_append, List.length_replicate]
    refine List.pairwise_cons.2 ⟨fun A hA k h1 h2 => ?_, List.pairwise_cons.2 ⟨fun A hA k h1 h2 => ?_, List.pairwise_cons.2 ⟨fun A hA k h1 h2 => ?_, ?_⟩⟩⟩
    · have h1' : k = b := h1
      subst h1'
      simp only [List.mem_cons] at hA
      rcases hA with rfl | rfl | hA
      · rcases h2 with h | h
        · exact n1 h
        · cases h
      · exact n2 (Option.some.inj h2).symm
      · rw [hemp n A hA] at h2; exact hno _ h2
    · have h1' : k = bm := h1.elim (fun h => h) (fun h => by cases h)
      subst h1'
      simp only [List.mem_cons] at hA
      rcases hA with rfl | hA
      · exact n3 (Option.some.inj h2).symm
      · rw [hemp n A hA] at h2; exact hno _ h2
    · rw [hemp n A hA] at h2; exact hno _ h2
    · refine List.pairwise_of_forall_mem_list (fun A hA B hB k h1 h2 => ?_)
      rw [hemp n A hA] at h1; exact hno _ h1
  · rcases hk with rfl | rfl | rfl
    · exact ⟨blkA k _, by simp [Lay.list, Lay.hd]; exact .inl rfl, rfl⟩
    · exact ⟨omA k (.slice none 0 0) [], by simp [Lay.list, Lay.hd], .inl rfl⟩
    · exact ⟨rowA 127 1 (.slice (some ⟨k, 0, none⟩) n n) n ((List.replicate n ((none, 0, 0) : Sl)).map slV), by simp [Lay.list, Lay.hd, ixNew], rfl⟩
  · simp only [Lay.list, Lay.hd, List.mem_append, List.mem_cons, List.not_mem_nil, or_false, ixNew, List.length_replicate] at hA
    rcases hA with (rfl | rfl | rfl) | hA | hA
    · exact .inl hk
    · exact .inr (.inl (hk.elim (fun h => h) (fun h => by cases h)))
    · exact .inr (.inr (Option.some.inj hk).symm)
    · cases hA
    · rw [hemp n A hA] at hk; exact (hno _ hk).elim
set_option maxRecDepth 40000 in
set_option maxHeartbeats 1000000 in
theorem New_any (n : Nat) (w : World) (h1 : 1 ≤ n) (h2 : n ≤ 32) : Calls Try.prog 55 #[.int .i64 n] w fun e w' => ∃ b S, e = .returned (.tuple #[.pointer (some ⟨b, 0, none⟩), .int .i64 0]) ∧ IXR w' b (ixNew n) S ∧ (∀ k, S k → w.heap.size ≤ k) ∧ Gr w w' := by
  obtain ⟨i0, hi, hz0, hz1, hz2⟩ := info_parts infoList
  have hn1 : ¬ (n : Int) < 1 := by omega
  have hn2 : ¬ (32 : Int) < n := by omega
  have hm1 : ∀ w : World, (Instr.makeSlice 27 (.int .i64 (n : Int)) (.int .i64 (n : Int))).run Try.prog w = .ok (.slice (some ⟨w.heap.size, 0, none⟩) n n) (w.alloc (.cells (madeCells #[.slice none 0 0] (n * 1)) 127)) := fun w => by
    have := run_make (P := Try.prog) w 27 127 i0 _ Try.underlying27 hi hz0 .i64 .i64 n n (by omega) (by omega) (by rw [hz2]; omega) (by omega)
    rw [hz1] at this
    simp only [Int.toNat_natCast] at this
    exact this
  have HM1 := Lib.hid hm1
  clear hm1 hi hz0 hz1 hz2
  go_enter Try.func55, Try.ntmps55
  go_wp2
  have HG := Gr.refl w.drew
  refine wp_region_flo (fun _ => False) [12] [] (by kernel_rfl) (by kernel_rfl) (fun _ h => h.elim) ?_
  refine flo_effg rfl rfl rfl (fun wg1 hgg1 K hK => ?_)
  (try replace HG := Gr.trans (Gr.trans HG (by (repeat (first | (with_reducible exact Gr.refl _) | assumption | (with_reducible apply Gr.from_drew) | (with_reducible apply Gr.alloc) | (with_reducible apply Gr.drew) | (with_reducible refine Gr.trans ?_ (by assumption)) | (with_reducible refine Gr.setCell ?_ (by omega) _))))) hgg1)
  go_wp2_with fail; refine (NewOsl _).mono ?_; rintro e' wa1 ⟨rfl, hom, hg⟩; have HOM := Lib.hid hom; have HGA := Lib.hid (HG.trans hg); have HSZ := Lib.hid HG.sz; have HGW := Lib.hid hg; replace HG := HG.trans hg; clear hom hg; go_wp2_with fail; refine ⟨HGW.out.mdh _, ?_⟩
  refine flo_seg 1 rfl ?_
  simp only [List.take_succ_cons, List.take_zero, List.drop_succ_cons, List.drop_zero]
  repeat (go_big_quiet_step (fail))
  refine wpQuiet_nil ?_
  refine flo_float (fun b ↦ .slice (some ⟨b, 0, none⟩) n n) (.cells (madeCells #[.slice none 0 0] (n * 1)) 127 ) rfl rfl ( fun w ↦ by simp [go_sem, HM1.out w] ) (fun wf1 fb1 hgf1 fl1 fh1 ft1 fo1 => ?_)
  (try replace HG := Gr.trans (Gr.trans HG (by (repeat (first | (with_reducible exact Gr.refl _) | assumption | (with_reducible apply Gr.from_drew) | (with_reducible apply Gr.alloc) | (with_reducible apply Gr.drew) | (with_reducible refine Gr.trans ?_ (by assumption)) | (with_reducible refine Gr.setCell ?_ (by omega) _))))) hgf1)
  (try have fc1 := (cellsOf fo1).1)
  (try have ff1 := (cellsOf fo1).2)
  simp only [Act.put, List.setIfInBounds_toArray, List.set_cons_succ, List.set_cons_zero]
  refine flo_seg 1 rfl ?_
  simp only [List.take_succ_cons, List.take_zero, List.drop_succ_cons, List.drop_zero]
  repeat (go_big_quiet_step (fail))
  refine wpQuiet_nil ?_
  refine flo_eff rfl rfl rfl rfl (fun K hK => ?_)
  go_wp2
  refine ⟨by (first | (refine Gr.mdh ?_ _; (repeat (first | (with_reducible exact Gr.refl _) | assumption | (with_reducible apply Gr.from_drew) | (with_reducible apply Gr.alloc) | (with_reducible apply Gr.drew) | (with_reducible refine Gr.trans ?_ (by assumption)) | (with_reducible refine Gr.setCell ?_ (by omega) _))); done) | (repeat (first | (with_reducible exact Mdh.refl _ _) | (with_reducible refine Mdh.setCell ?_ (by simp) _) | (with_reducible refine Mdh.setNew ?_ (by simp) _) | (with_reducible apply Mdh.alloc) | (with_reducible apply Mdh.from_drew) | (with_reducible apply Mdh.drew) | (with_reducible refine Mdh.gr ?_ (by assumption))))), ?_⟩
  refine flo_seg 2 rfl ?_
  simp only [List.take_succ_cons, List.take_zero, List.drop_succ_cons, List.drop_zero]
  repeat (go_big_quiet_step (fail))
  refine wpQuiet_nil ?_
  refine flo_nil ?_
  have hf := Lib.hid (And.intro fo1 (And.intro HG (And.intro fl1 (And.intro fh1 (And.intro ft1 hgf1)))))
  clear fo1 HG fl1 fh1 ft1 hgf1 hgg1
  (try clear fc1 ff1)
  go_wp2
  go_ret2
  obtain ⟨fo1, HG, fl1, fh1, ft1, hgf1⟩ := hf.out
  have l1 := blkLt HOM.out.blk
  have l2 := hgf1.sz
  have l3 : w.heap.size ≤ wg1.heap.size := HSZ.out
  have l4 : w.heap.size ≤ wf1.heap.size := HG.sz
  refine ⟨wf1.heap.size, _, rfl, new_sep h1 h2 (blkNew wf1 _) ((HOM.out.gr hgf1).gr ((Gr.refl _).alloc _)) (blkOld fo1) (by omega) (by omega) (fun h => ft1 (.inr (by omega))), fun k hk => ?_, (Gr.of_drew HG).alloc _⟩
  rcases hk with rfl | rfl | rfl <;> omega
end Go.Proofs.Ytiidkehcfoajeaa
