/- PqueueNil answers true: queues that are nil, or were not made by New. -/
import Derived.Test.YthialloenkbpnaaPqX
import Derived.Test.YthialloenkbpnaaPqL5
import Derived.LoopN
namespace Go.Proofs.Ythialloenkbpnaa
open Go.RowKit Go.Shelf
attribute [local go_sem] OvM cell_ovm obj_ovm
attribute [local go_sem] Oper.semAt_some

theorem QB_zero (w : World) : QB (w.alloc (.cells Try.zeroCells86 86)) 86 w.heap.size 0 (.slice none 0 0) (fun _ => 0) := by
  refine ⟨_, blkNew _ _, zc1L, ?_, zc2L, fun i hi => zc4L i hi⟩
  kernel_rfl

set_option maxRecDepth 40000 in
set_option maxHeartbeats 4000000 in
theorem PqueueNil_any (id p : Int) (w : World) : Calls Try.prog 8 #[.int .i64 id, .int .i64 p] w fun e w' => e = .returned (.bool true) ∧ Gr w w' := by
  refine calls_of_wp_marks Try.func8 rfl ?_
  simp only [Try.ntmps8, List.size_toArray, List.length_cons, List.length_nil, Nat.reduceAdd, Nat.reduceSub, Array.replicate_succ, Array.replicate_zero, List.push_toArray, List.append_toArray, List.nil_append, List.cons_append]
  go_upto_block 0 with fail
  have b4 := blkOld (o' := .cells #[.pointer none, .pointer (some ⟨w.heap.size + 1, 0, none⟩)] 59) (blkOld (o' := .cells Try.zeroCells86 86) (blkNew w (.cells #[.bool false] 4)))
  have qb := (QB_zero (w.alloc (.cells #[.bool false] 4))).gr (Gr.alloc (Gr.refl _) (.cells #[.pointer none, .pointer (some ⟨w.heap.size + 1, 0, none⟩)] 59))
  have bs := blkNew ((w.alloc (.cells #[.bool false] 4)).alloc (.cells Try.zeroCells86 86)) (.cells #[.pointer none, .pointer (some ⟨w.heap.size + 1, 0, none⟩)] 59)
  have hG : Gr w (((w.alloc (.cells #[.bool false] 4)).alloc (.cells Try.zeroCells86 86)).alloc (.cells #[.pointer none, .pointer (some ⟨w.heap.size + 1, 0, none⟩)] 59)) := by (repeat (first | (with_reducible exact Gr.refl _) | assumption | (with_reducible apply Gr.from_drew) | (with_reducible apply Gr.alloc) | (with_reducible apply Gr.drew) | (with_reducible refine Gr.trans ?_ (by assumption)) | (with_reducible refine Gr.setCell ?_ (by omega) _)))
  simp only [World.size_alloc] at b4 qb bs
  generalize ((w.alloc (.cells #[.bool false] 4)).alloc (.cells Try.zeroCells86 86)).alloc (.cells #[.pointer none, .pointer (some ⟨w.heap.size + 1, 0, none⟩)] 59) = w0 at *
  have H0 : Hid (w0.heap[w.heap.size]? = some (.cells #[.bool false] 4) ∧ QB w0 86 (w.heap.size + 1) 0 (.slice none 0 0) (fun _ => 0) ∧ w0.heap[w.heap.size + 1 + 1]? = some (.cells #[.pointer none, .pointer (some ⟨w.heap.size + 1, 0, none⟩)] 59) ∧ Gr w w0) := Lib.hid ⟨b4, qb, bs, hG⟩
  clear b4 qb bs hG
  go_wp2_with fail
  refine wp_loop_rounds 3 ?_
  rw [rounds_succ]
  have cs := (cellsOf H0.out.2.2.1).1 0
  have HB : Hid (BadQ w0 (none)) := Lib.hid (.inl rfl)
  go_wp2_with (first
    | (go_at_call 36; refine (RemoveX _ _ _ HB.out).mono ?_; rintro e w1 ⟨rfl, rfl⟩)
    | (go_at_call 46; refine (PriorityX _ _ _ HB.out).mono ?_; rintro e w1 ⟨rfl, rfl⟩)
    | (go_at_call 47; refine (PeekX _ _ HB.out).mono ?_; rintro e w1 ⟨rfl, rfl⟩)
    | (go_at_call 38; refine (PopX _ _ HB.out).mono ?_; rintro e w1 ⟨rfl, rfl⟩)
    | (go_at_call 32; refine (PushX _ _ _ _ HB.out).mono ?_; rintro e w1 ⟨rfl, rfl⟩)
    | (go_at_call 34; refine (ChangeX _ _ _ _ HB.out).mono ?_; rintro e w1 ⟨rfl, rfl⟩)
    | (go_at_call 48; refine (LenX _ _ HB.out).mono ?_; rintro e w1 ⟨rfl, rfl⟩)
    | (go_at_call 40; refine (CopyX _ _ HB.out).mono ?_; rintro e w1 ⟨rfl, rfl⟩))
  refine (AllL _ _).mono ?_
  rintro e w0a ⟨bb, rfl, hbb, hbb2, hg⟩
  have HB2 := Lib.hid (HB.out.gr hg)
  have hblt := World.block_lt_of_cell? w0a ⟨bb, 0, none⟩ hbb
  have HG0a := Lib.hid hg
  clear hg cs
  go_wp2_with fail
  apply wp_rangeFunc_zb (gf := 81) (lb := #[.pointer (some ⟨bb, 0, none⟩)]) rfl (enters_of Try.func81 (by kernel_rfl) rfl)
    (SeqX _ bb w0a HB2.out hbb) (Mdh.refl _ w0a) (fun k hk => hk.elim (fun e => e ▸ hblt) (fun ⟨_, h, _⟩ => by cases h)) (fun _ => rfl)
    (fun Z pre X => Frm w0a (fun _ => False) Z X) (fun _ _ _ => False) (fun _ _ _ => False)
    (Frm.apart _ _) apart_no apart_no (Frm.refl _ _) _ ?assign0 ?body0 ?hend0 ?hret0
  case assign0 =>
    intro l x X K hK
    dsimp only [encIL]
    gi_wp2
    exact hK
  case body0 => intro _ _ _ _ _ _ h; exact h.elim
  case hret0 => intro _ _ _ _ _ _ h; exact h.elim
  case hend0 =>
  intro Z D0 xs w1 hD hZD hcase hdef
  obtain ⟨_, hF⟩ : xs = [] ∧ Frm w0a (fun _ => False) Z w1 := hcase.elim (fun h => h) (fun h => h.1.elim)
  have hg : Gr w0 w1 := HG0a.out.trans (Gr.md (Gr.refl _) hF.m (fun _ h => h.elim))
  have H1 := Lib.hid (And.intro (hg.blk H0.out.1) (And.intro (H0.out.2.1.gr hg) (And.intro (hg.blk H0.out.2.2.1) (H0.out.2.2.2.trans hg))))
  have HD0 : Hid (w1.heap[D0]? = some (.deferred (some [])) ∧ w.heap.size < D0 ∧ w0.heap.size ≤ D0) := Lib.hid ⟨hdef, by have := HG0a.out.sz; have := blkLt H0.out.1; omega, by have := HG0a.out.sz; omega⟩
  clear HB HB2 hbb hbb2 hblt hF hg hD hZD hcase hdef
  dsimp only
  go_wp2_with fail
  rw [rounds_succ]
  have cs := (cellsOf H1.out.2.2.1).1 1
  have HB : Hid (BadQ w1 (some ⟨w.heap.size + 1, 0, none⟩)) := Lib.hid (.inr ⟨_, _, rfl, H1.out.2.1⟩)
  go_wp2_with (first
    | (go_at_call 36; refine (RemoveX _ _ _ HB.out).mono ?_; rintro e w1 ⟨rfl, rfl⟩)
    | (go_at_call 46; refine (PriorityX _ _ _ HB.out).mono ?_; rintro e w1 ⟨rfl, rfl⟩)
    | (go_at_call 47; refine (PeekX _ _ HB.out).mono ?_; rintro e w1 ⟨rfl, rfl⟩)
    | (go_at_call 38; refine (PopX _ _ HB.out).mono ?_; rintro e w1 ⟨rfl, rfl⟩)
    | (go_at_call 32; refine (PushX _ _ _ _ HB.out).mono ?_; rintro e w1 ⟨rfl, rfl⟩)
    | (go_at_call 34; refine (ChangeX _ _ _ _ HB.out).mono ?_; rintro e w1 ⟨rfl, rfl⟩)
    | (go_at_call 48; refine (LenX _ _ HB.out).mono ?_; rintro e w1 ⟨rfl, rfl⟩)
    | (go_at_call 40; refine (CopyX _ _ HB.out).mono ?_; rintro e w1 ⟨rfl, rfl⟩))
  refine (AllL _ _).mono ?_
  rintro e w1a ⟨bb, rfl, hbb, hbb2, hg⟩
  have HB2 := Lib.hid (HB.out.gr hg)
  have hblt := World.block_lt_of_cell? w1a ⟨bb, 0, none⟩ hbb
  have HG1a := Lib.hid hg
  clear hg cs
  go_wp2_with fail
  apply wp_rangeFunc_zb (gf := 81) (lb := #[.pointer (some ⟨bb, 0, none⟩)]) rfl (enters_of Try.func81 (by kernel_rfl) rfl)
    (SeqX _ bb w1a HB2.out hbb) (Mdh.refl _ w1a) (fun k hk => hk.elim (fun e => e ▸ hblt) (fun ⟨_, h, e⟩ => by obtain rfl := Option.some.inj h; rw [e]; exact (H1.out.2.1.gr HG1a.out).lt)) (fun _ => rfl)
    (fun Z pre X => Frm w1a (fun _ => False) Z X) (fun _ _ _ => False) (fun _ _ _ => False)
    (Frm.apart _ _) apart_no apart_no (Frm.refl _ _) _ ?assign1 ?body1 ?hend1 ?hret1
  case assign1 =>
    intro l x X K hK
    dsimp only [encIL]
    gi_wp2
    exact hK
  case body1 => intro _ _ _ _ _ _ h; exact h.elim
  case hret1 => intro _ _ _ _ _ _ h; exact h.elim
  case hend1 =>
  intro Z D1 xs w2 hD hZD hcase hdef
  obtain ⟨_, hF⟩ : xs = [] ∧ Frm w1a (fun _ => False) Z w2 := hcase.elim (fun h => h) (fun h => h.1.elim)
  have hg : Gr w1 w2 := HG1a.out.trans (Gr.md (Gr.refl _) hF.m (fun _ h => h.elim))
  have HW12 : Hid (Mdh (fun _ => False) w1 w2) := Lib.hid (((HG1a.out).mdh _).trans hF.m)
  have H2 := Lib.hid (And.intro (hg.blk H1.out.1) (And.intro (H1.out.2.1.gr hg) (And.intro (hg.blk H1.out.2.2.1) (H1.out.2.2.2.trans hg))))
  have HD1 : Hid (w2.heap[D1]? = some (.deferred (some [])) ∧ w.heap.size < D1 ∧ w1.heap.size ≤ D1) := Lib.hid ⟨hdef, by have := HG1a.out.sz; have := blkLt H1.out.1; omega, by have := HG1a.out.sz; omega⟩
  clear HB HB2 hbb hbb2 hblt hF hg hD hZD hcase hdef
  dsimp only
  go_wp2_with fail
  rw [rounds_succ]
  go_wp2_with fail
  refine (works_any _).mono ?_
  rintro e w3 ⟨rfl, hg3⟩
  have HD : Hid (w3.heap[D0]? = some (.deferred (some [])) ∧ w3.heap[D1]? = some (.deferred (some [])) ∧ D0 ≠ D1) := Lib.hid (by
    have h0 := (Array.getElem?_eq_some_iff.1 HD0.out.1).1
    have h1 := HD1.out.2.2
    have hz1 := (Array.getElem?_eq_some_iff.1 HD1.out.1).1
    have hk : w2.heap[D0]? = w1.heap[D0]? := HW12.out.2 D0 h0 (fun h => h)
    exact ⟨hg3.blk (hk.trans HD0.out.1), hg3.blk HD1.out.1, by omega⟩)
  have b4 := hg3.blk H2.out.1
  obtain ⟨c4, f4⟩ := box1 b4
  have HB4 := Lib.hid b4
  have HG3 := Lib.hid (H2.out.2.2.2.trans hg3)
  clear b4 hg3
  go_wp2_with fail
  refine retM2 (D := D0) (E := D1) (v := .bool true) rfl HD.out.2.2 (blkSetO HD.out.2.1 (by have := HD1.out.2.1; simp; omega)) (blkSetO HD.out.1 (by have := HD0.out.2.1; simp; omega)) ?_ ⟨rfl, ?_⟩
  · have h6 := blkSet (j := 0) (u := .bool true) HB4.out
    have h6' : (((w3.setCell ⟨w.heap.size, 0, none⟩ (.bool true)).putObj D1 (.deferred none)).putObj D0 (.deferred none)).heap[w.heap.size]? = some (.cells #[.bool true] 4) :=
      (World.putObj_heap_other (by have := HD0.out.2.1; omega)).trans ((World.putObj_heap_other (by have := HD1.out.2.1; omega)).trans (by simpa using h6))
    have := (box1 h6').1
    simp [results, Try.results8, go_sem, this]
  · exact (((HG3.out.setCell (by simp) _).putObj (by have := HD1.out.2.1; omega) _).putObj (by have := HD0.out.2.1; omega) _)
end Go.Proofs.Ythialloenkbpnaa
