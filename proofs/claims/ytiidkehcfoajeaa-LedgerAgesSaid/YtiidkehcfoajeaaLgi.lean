/- drumlinlaw23: works. -/
import Derived.Test.YtiidkehcfoajeaaLgh
set_option linter.unusedVariables false
set_option linter.unusedSimpArgs false
namespace Go.Proofs.Ytiidkehcfoajeaa
open Go.RowKit Go.Shelf
attribute [local go_sem] OvM cell_ovm obj_ovm
attribute [local go_sem] Oper.semAt_some

theorem IXW.p {w W : World} {b : Nat} {X : IX} {S : Nat → Prop} (h : IXW w W b X S) : IXP W (some ⟨b, 0, none⟩) X S := .inl ⟨b, rfl, h.ix⟩
theorem lg_low5 : Low lgE5.key := low_one rfl (by decide)
theorem lg_64 : En64 lgE5 := by unfold En64; decide
theorem lg_g5 : ageBy ⟨70, 40, 0, 30, 3⟩ 5 = .tuple #[.int .i64 2, .int .i64 0] := by kernel_rfl
theorem lg_g2 : ageBy ⟨70, 40, 0, 30, 3⟩ 2 = .tuple #[.int .i64 0, .int .i64 2] := by kernel_rfl
set_option maxRecDepth 40000 in
set_option maxHeartbeats 4000000 in
theorem lg_works (w : World) : Calls Try.prog 25 #[] w fun e w' => e = .returned (.bool true) ∧ Gr w w' := by
  go_enter Try.func25, Try.ntmps25
  go_wp2_with fail
  refine (lg_example w).mono ?_
  rintro e w1 ⟨b, S, rfl, h1⟩
  have H1 := Lib.hid h1
  clear h1
  go_wp2_with fail
  refine (OfL_any H1.out.p 0).mono ?_
  rintro e w2 ⟨rfl, hg2⟩
  rw [lg_o0]
  simp only [byV]
  have H2 := Lib.hid (H1.out.gr hg2)
  clear hg2
  go_wp2_with fail
  refine (OfL_any (H2.out.gr ((Gr.refl _).alloc _)).p 1).mono ?_
  rintro e w3 ⟨rfl, hg3⟩
  rw [lg_o1]
  simp only [byV]
  have H3 := Lib.hid ((H2.out.gr ((Gr.refl _).alloc _)).gr hg3)
  obtain ⟨b2, hb2⟩ : ∃ q, q = w2.heap.size := ⟨_, rfl⟩
  have HB2 : Hid (w3.heap[b2]? = some (.cells #[.int .i64 37, .int .i64 0, .int .i64 17, .int .i64 20, .int .i64 4] 44)) := Lib.hid (by rw [hb2]; exact hg3.blk (blkNew w2 _))
  rw [← hb2]
  clear hg3 hb2
  go_wp2_with fail
  refine (OfL_any (H3.out.gr ((Gr.refl _).alloc _)).p 3).mono ?_
  rintro e w4 ⟨rfl, hg4⟩
  rw [lg_o3]
  simp only [byV, zBy]
  have H4 := Lib.hid ((H3.out.gr ((Gr.refl _).alloc _)).gr hg4)
  obtain ⟨b3, hb3⟩ : ∃ q, q = w3.heap.size := ⟨_, rfl⟩
  have HB3 : Hid (w4.heap[b2]? = some (.cells #[.int .i64 37, .int .i64 0, .int .i64 17, .int .i64 20, .int .i64 4] 44) ∧ w4.heap[b3]? = some (.cells #[.int .i64 70, .int .i64 40, .int .i64 0, .int .i64 30, .int .i64 3] 44)) := Lib.hid ⟨hg4.blk (((Gr.refl _).alloc _).blk HB2.out), by rw [hb3]; exact hg4.blk (blkNew w3 _)⟩
  rw [← hb3]
  clear hg4 hb3
  go_wp2_with fail
  refine (Sum_any (H4.out.gr ((Gr.refl _).alloc _)).p).mono ?_
  rintro e w5 ⟨rfl, hg5⟩
  rw [lg_s]
  simp only [byV]
  have H5 := Lib.hid ((H4.out.gr ((Gr.refl _).alloc _)).gr hg5)
  obtain ⟨c2, _⟩ := cellsOf (hg5.blk (((Gr.refl _).alloc _).blk HB3.out.1))
  obtain ⟨c3, _⟩ := cellsOf (hg5.blk (((Gr.refl _).alloc _).blk HB3.out.2))
  have HB5 := Lib.hid (And.intro (hg5.blk (((Gr.refl _).alloc _).blk HB3.out.1)) (hg5.blk (((Gr.refl _).alloc _).blk HB3.out.2)))
  have l2 := blkLt HB5.out.1
  have l3 := blkLt HB5.out.2
  clear hg5
  go_wp2_with fail
  have H5' := Lib.hid (H5.out.gr ((Gr.refl _).alloc (.cells #[.int .i64 107, .int .i64 40, .int .i64 17, .int .i64 50, .int .i64 4] 44)))
  obtain ⟨b8, hb8⟩ : ∃ q, q = w5.heap.size := ⟨_, rfl⟩
  have HB5' : Hid ((w5.alloc (.cells #[.int .i64 107, .int .i64 40, .int .i64 17, .int .i64 50, .int .i64 4] 44)).heap[b8]? = some (.cells #[.int .i64 107, .int .i64 40, .int .i64 17, .int .i64 50, .int .i64 4] 44) ∧ (w5.alloc (.cells #[.int .i64 107, .int .i64 40, .int .i64 17, .int .i64 50, .int .i64 4] 44)).heap[b3]? = some (.cells #[.int .i64 70, .int .i64 40, .int .i64 0, .int .i64 30, .int .i64 3] 44)) := Lib.hid ⟨by rw [hb8]; exact blkNew w5 _, ((Gr.refl _).alloc _).blk HB5.out.2⟩
  have HN8 : Hid (¬ S b8 ∧ w.heap.size ≤ b8) := Lib.hid ⟨fun h => by have := H5.out.ix.lt _ h; omega, by have := H5.out.g.sz; omega⟩
  rw [← hb8]
  clear hb8 c2 c3 l2 l3
  generalize w5.alloc (.cells #[.int .i64 107, .int .i64 40, .int .i64 17, .int .i64 50, .int .i64 4] 44) = w5' at *
  refine (Age_by ⟨70, 40, 0, 30, 3⟩ 5 _).mono ?_
  rintro e w6 ⟨rfl, hg6⟩
  rw [lg_g5]
  have H6 := Lib.hid (H5'.out.gr hg6)
  have HB6 := Lib.hid (And.intro (hg6.blk HB5'.out.1) (hg6.blk HB5'.out.2))
  obtain ⟨c3, _⟩ := cellsOf HB6.out.2
  have l3 := blkLt HB6.out.2
  clear hg6
  go_wp2_with fail
  refine (Age_by ⟨70, 40, 0, 30, 3⟩ 2 _).mono ?_
  rintro e w7 ⟨rfl, hg7⟩
  rw [lg_g2]
  have H7 := Lib.hid (H6.out.gr hg7)
  have HB7 := Lib.hid (hg7.blk HB6.out.1)
  clear hg7 c3 l3
  go_wp2_with (go_at_call 40; refine (Add_any H7.out.ix lgE5 lg_low5 lg_64).mono ?_; rintro e w8 ⟨rfl, hp⟩; rw [lg_a5]; have HP := Lib.hid hp; clear hp)
  obtain ⟨S8, hI8, hm8, hs8⟩ := H7.out.post HP.out
  have H8 : Hid (IXW w w8 b lgX5 S8) := Lib.hid hI8
  have HB8 := Lib.hid (hm8.blk HB7.out HN8.out.1)
  clear hI8 hm8 hs8
  refine (OfL_any H8.out.p 2).mono ?_
  rintro e w9 ⟨rfl, hg9⟩
  rw [lg_o2]
  simp only [byV]
  have H9 := Lib.hid (H8.out.gr hg9)
  have HB9 := Lib.hid (hg9.blk HB8.out)
  clear hg9
  go_wp2_with fail
  refine (Sum_any (H9.out.gr ((Gr.refl _).alloc _)).p).mono ?_
  rintro e w10 ⟨rfl, hg10⟩
  rw [lg_s5]
  simp only [byV]
  have H10 := Lib.hid ((H9.out.gr ((Gr.refl _).alloc _)).gr hg10)
  obtain ⟨b11, hb11⟩ : ∃ q, q = w9.heap.size := ⟨_, rfl⟩
  have HB11 : Hid (w10.heap[b11]? = some (.cells #[.int .i64 40, .int .i64 40, .int .i64 0, .int .i64 0, .int .i64 3] 44)) := Lib.hid (by rw [hb11]; exact hg10.blk (blkNew w9 _))
  have HB10 := Lib.hid (hg10.blk (((Gr.refl _).alloc _).blk HB9.out))
  have hne : b11 ≠ b8 := by have := blkLt HB9.out; omega
  rw [← hb11]
  obtain ⟨c11, _⟩ := cellsOf HB11.out
  obtain ⟨c8, f8⟩ := cellsOf HB10.out
  clear hg10 hb11
  go_wp2_with fail
  go_ret
  exact ⟨rfl, Gr.cell5 H10.out.g HN8.out.2 _ _ _ _ _⟩
end Go.Proofs.Ytiidkehcfoajeaa
