/- drumlinlaw23: the example in plain Lean. -/
import Derived.Test.YtiidkehcfoajeaaBd8
import Derived.Test.YtiidkehcfoajeaaBd10
set_option linter.unusedVariables false
set_option linter.unusedSimpArgs false
namespace Go.Proofs.Ytiidkehcfoajeaa
open Go.RowKit Go.Shelf
attribute [local go_sem] OvM cell_ovm obj_ovm
attribute [local go_sem] Oper.semAt_some

def lgE1 : En := ⟨1, ⟨#[97]⟩, false, 0, 0, 20⟩
def lgE2 : En := ⟨4, ⟨#[98]⟩, true, 0, 20, 17⟩
def lgE3 : En := ⟨2, ⟨#[98]⟩, false, 1, 0, 30⟩
def lgE4 : En := ⟨3, ⟨#[97]⟩, false, 1, 30, 40⟩
def lgE5 : En := ⟨3, ⟨#[97]⟩, false, 2, 0, 40⟩
def lgX1 : IX := addX (ixNew 3) lgE1
def lgX2 : IX := addX lgX1 lgE2
def lgX3 : IX := addX lgX2 lgE3
def lgX4 : IX := addX lgX3 lgE4
def lgX5 : IX := addX lgX4 lgE5
theorem lg_a1 : addE (ixNew 3) lgE1 = 0 := by kernel_rfl
theorem lg_a2 : addE lgX1 lgE2 = 0 := by kernel_rfl
theorem lg_a3 : addE lgX2 lgE3 = 0 := by kernel_rfl
theorem lg_a4 : addE lgX3 lgE4 = 0 := by kernel_rfl
theorem lg_a5 : addE lgX4 lgE5 = 0 := by kernel_rfl
theorem lg_o0 : ofL lgX4 0 = (⟨37, 0, 17, 20, 4⟩, 0) := by kernel_rfl
theorem lg_o1 : ofL lgX4 1 = (⟨70, 40, 0, 30, 3⟩, 0) := by kernel_rfl
theorem lg_o3 : ofL lgX4 3 = (zBy, 3) := by kernel_rfl
theorem lg_s : sumBy lgX4 = (⟨107, 40, 17, 50, 4⟩, 0) := by kernel_rfl
theorem lg_o2 : ofL lgX5 2 = (⟨40, 40, 0, 0, 3⟩, 0) := by kernel_rfl
theorem lg_s5 : sumBy lgX5 = (⟨147, 80, 17, 50, 4⟩, 0) := by kernel_rfl
def lgL : List En := [lgE1, lgE2, lgE3, lgE4]
def lgSt : Nat → IX | 0 => ixNew 3 | 1 => lgX1 | 2 => lgX2 | 3 => lgX3 | _ => lgX4
theorem low_one {k : ByteArray} {c : UInt8} (h : k = ⟨#[c]⟩) (hc : c.toNat < 128) : Low k := by
  subst h
  intro j hj
  have h1 : j < 1 := hj
  have h0 : j = 0 := by omega
  subst h0
  exact hc
theorem lg_step : ∀ j x, lgL[j]? = some x → addE (lgSt j) x = 0 ∧ addX (lgSt j) x = lgSt (j + 1) ∧ Low x.key ∧ En64 x := by
  intro j x h
  match j, h with
  | 0, h => cases h; exact ⟨lg_a1, rfl, low_one rfl (by decide), by unfold En64; decide⟩
  | 1, h => cases h; exact ⟨lg_a2, rfl, low_one rfl (by decide), by unfold En64; decide⟩
  | 2, h => cases h; exact ⟨lg_a3, rfl, low_one rfl (by decide), by unfold En64; decide⟩
  | 3, h => cases h; exact ⟨lg_a4, rfl, low_one rfl (by decide), by unfold En64; decide⟩
  | _ + 4, h => cases h
/-- An index made since w. -/
structure IXW (w W : World) (b : Nat) (X : IX) (S : Nat → Prop) : Prop where
  ix : IXR W b X S
  g : Gr w W
  n : ∀ k, S k → w.heap.size ≤ k
theorem IXW.gr {w W W' : World} {b : Nat} {X : IX} {S : Nat → Prop} (h : IXW w W b X S) (g : Gr W W') : IXW w W' b X S := ⟨h.ix.gr g, h.g.trans g, h.n⟩
theorem IXW.post {w W W' : World} {b : Nat} {X X' : IX} {S : Nat → Prop} (h : IXW w W b X S) (p : IXPost b X' S W W') : ∃ S', IXW w W' b X' S' ∧ Mdh S W W' ∧ ∀ k, S' k → S k ∨ W.heap.size ≤ k := by
  obtain ⟨S', h1, h2, h3⟩ := p
  exact ⟨S', ⟨h1, h.g.md h2 h.n, fun k hk => (h3 k hk).elim (h.n k) (fun h4 => Nat.le_trans h.g.sz h4)⟩, h2, h3⟩
set_option maxRecDepth 40000 in
set_option maxHeartbeats 4000000 in
theorem lg_example (w : World) : Calls Try.prog 87 #[] w fun e w' => ∃ b S, e = .returned (.pointer (some ⟨b, 0, none⟩)) ∧ IXW w w' b lgX4 S := by
  have HST := Lib.hid lg_step
  go_enter Try.func87, Try.ntmps87
  go_wp2_with fail
  refine (New_any 3 w (by decide) (by decide)).mono ?_
  rintro e w1 ⟨b, S, rfl, h1, h2, h3⟩
  have H1 : Hid (IXW w w1 b (lgSt 0) S) := Lib.hid ⟨h1, h3, h2⟩
  have HLT : Hid (∀ k, S k → k < w1.heap.size) := Lib.hid (fun k hk => h1.lt k hk)
  clear h1 h2 h3
  go_wp2_with fail
  obtain ⟨g, hg⟩ : ∃ q, q = w1.heap.size := ⟨_, rfl⟩
  obtain ⟨w2, hw2⟩ : ∃ y, y = w1.alloc (.cells #[.int .i64 1, .string { data := #[97] }, .bool false, .int .i64 0, .int .i64 0, .int .i64 20, .int .i64 4, .string { data := #[98] }, .bool true, .int .i64 0, .int .i64 20, .int .i64 17, .int .i64 2, .string { data := #[98] }, .bool false, .int .i64 1, .int .i64 0, .int .i64 30, .int .i64 3, .string { data := #[97] }, .bool false, .int .i64 1, .int .i64 30, .int .i64 40] 23) := ⟨_, rfl⟩
  have H2 : Hid (IXW w w2 b (lgSt 0) S ∧ w2.heap[g]? = some (.cells (rowE lgL).toArray 23) ∧ ¬ S g) := Lib.hid ⟨by rw [hw2]; exact H1.out.gr ((Gr.refl _).alloc _), by rw [hw2, hg]; exact blkNew _ _, fun h => by have := HLT.out _ h; omega⟩
  rw [← hw2, ← hg]
  clear hw2 hg
  go_loopw [17] (fun t17 wx => ∃ (j : Nat) (S : Nat → Prop), j ≤ 4 ∧ t17 = .int .i64 j ∧ Hid (IXW w wx b (lgSt j) S ∧ wx.heap[g]? = some (.cells (rowE lgL).toArray 23) ∧ ¬ S g)) (fun t17 _ => 4 - (intOf t17).toNat)
  case atStart => exact ⟨0, S, by omega, rfl, H2⟩
  case round =>
    obtain ⟨j, S, hj, rfl, HR⟩ := hrel
    by_cases hlt : j < 4
    · have hlt' : (j : Int) < 4 := by omega
      have hx : lgL[j]? = some (lgL[j]'(show j < 4 from hlt)) := List.getElem?_eq_getElem _
      obtain ⟨x, hxx⟩ : ∃ y, lgL[j]? = some y := ⟨_, hx⟩
      have HX := Lib.hid (HST.out j x hxx)
      have cc := (cellsOf HR.out.2.1).1
      have hr : ∀ c u, (enC x)[c]? = some u → wr.cell? ⟨g, j * 6 + c, none⟩ = some u := fun c u hu => (cc _).trans (by rw [List.getElem?_toArray]; exact rowE_get lgL j x hxx c u hu)
      have d0 := hr 0 _ rfl
      have d1 := hr 1 _ rfl
      have d2 := hr 2 _ rfl
      have d3 := hr 3 _ rfl
      have d4 := hr 4 _ rfl
      have d5 := hr 5 _ rfl
      simp only [Nat.add_zero] at d0 d1 d2 d3 d4 d5
      clear hr cc hxx hx
      generalize hst : lgSt (j + 1) = Y1 at HX
      have HY := Lib.hid hst
      clear hst
      go_wp2_with (go_at_call 40; refine (Add_any (HR.out.1.ix.gr ((Gr.refl _).alloc _)) x HX.out.2.2.1 HX.out.2.2.2).mono ?_; rintro e w3 ⟨rfl, hp⟩; rw [HX.out.1]; have HP := Lib.hid hp; clear hp)
      obtain ⟨S', hI, hm, hs⟩ := (HR.out.1.gr ((Gr.refl _).alloc _)).post HP.out
      refine ⟨⟨j + 1, S', by omega, by go_num, Lib.hid ⟨by rw [HY.out, ← HX.out.2.1]; exact hI, hm.blk (((Gr.refl _).alloc _).blk HR.out.2.1) HR.out.2.2, fun h => (hs g h).elim HR.out.2.2 (fun h4 => by have := blkLt HR.out.2.1; rw [World.size_alloc] at h4; omega)⟩⟩, by simp [intOf]; omega⟩
    · have hlt' : ¬ (j : Int) < 4 := by omega
      have hj4 : j = 4 := by omega
      subst hj4
      go_wp2
      go_ret
      exact ⟨b, rfl, S, HR.out.1⟩
end Go.Proofs.Ytiidkehcfoajeaa

/- drumlinlaw23: works. -/
set_option linter.unusedVariables false
set_option linter.unusedSimpArgs false
namespace Go.Proofs.Ytiidkehcfoajeaa
open Go.RowKit Go.Shelf
attribute [local go_sem] OvM cell_ovm obj_ovm
attribute [local go_sem] Oper.semAt_some

theorem IXW.p {w W : World} {b : Nat} {X : IX} {S : Nat → Prop} (h : IXW w W b X S) : IXP W (some ⟨b, 0, none⟩) X S := .inl ⟨b, rfl, h.ix⟩
theorem lg_low5 : Low lgE5.key := low_one rfl (by decide)
theorem lg_64 : En64 lgE5 := by unfold En64; decide
theorem lg_g5 : ageBy ⟨70, 40, 0, 30, 3⟩ 5 = .tuple #[.int .i64 2, .int .i64 0] := by kernel_rfl
theorem lg_g2 : ageBy ⟨70, 40, 0, 30, 3⟩ 2 = .tuple #[.int .i64 0, .int .i64 2] := by kernel_rfl
set_option maxRecDepth 40000 in
set_option maxHeartbeats 4000000 in
theorem lg_works (w : World) : Calls Try.prog 25 #[] w fun e w' => e = .returned (.bool true) ∧ Gr w w' := by
  go_enter Try.func25, Try.ntmps25
  go_wp2_with fail
  refine (lg_example w).mono ?_
  rintro e w1 ⟨b, S, rfl, h1⟩
  have H1 := Lib.hid h1
  clear h1
  go_wp2_with fail
  refine (OfL_any H1.out.p 0).mono ?_
  rintro e w2 ⟨rfl, hg2⟩
  rw [lg_o0]
  simp only [byV]
  have H2 := Lib.hid (H1.out.gr hg2)
  clear hg2
  go_wp2_with fail
  refine (OfL_any (H2.out.gr ((Gr.refl _).alloc _)).p 1).mono ?_
  rintro e w3 ⟨rfl, hg3⟩
  rw [lg_o1]
  simp only [byV]
  have H3 := Lib.hid ((H2.out.gr ((Gr.refl _).alloc _)).gr hg3)
  obtain ⟨b2, hb2⟩ : ∃ q, q = w2.heap.size := ⟨_, rfl⟩
  have HB2 : Hid (w3.heap[b2]? = some (.cells #[.int .i64 37, .int .i64 0, .int .i64 17, .int .i64 20, .int .i64 4] 44)) := Lib.hid (by rw [hb2]; exact hg3.blk (blkNew w2 _))
  rw [← hb2]
  clear hg3 hb2
  go_wp2_with fail
  refine (OfL_any (H3.out.gr ((Gr.refl _).alloc _)).p 3).mono ?_
  rintro e w4 ⟨rfl, hg4⟩
  rw [lg_o3]
  simp only [byV, zBy]
  have H4 := Lib.hid ((H3.out.gr ((Gr.refl _).alloc _)).gr hg4)
  obtain ⟨b3, hb3⟩ : ∃ q, q = w3.heap.size := ⟨_, rfl⟩
  have HB3 : Hid (w4.heap[b2]? = some (.cells #[.int .i64 37, .int .i64 0, .int .i64 17, .int .i64 20, .int .i64 4] 44) ∧ w4.heap[b3]? = some (.cells #[.int .i64 70, .int .i64 40, .int .i64 0, .int .i64 30, .int .i64 3] 44)) := Lib.hid ⟨hg4.blk (((Gr.refl _).alloc _).blk HB2.out), by rw [hb3]; exact hg4.blk (blkNew w3 _)⟩
  rw [← hb3]
  clear hg4 hb3
  go_wp2_with fail
  refine (Sum_any (H4.out.gr ((Gr.refl _).alloc _)).p).mono ?_
  rintro e w5 ⟨rfl, hg5⟩
  rw [lg_s]
  simp only [byV]
  have H5 := Lib.hid ((H4.out.gr ((Gr.refl _).alloc _)).gr hg5)
  obtain ⟨c2, _⟩ := cellsOf (hg5.blk (((Gr.refl _).alloc _).blk HB3.out.1))
  obtain ⟨c3, _⟩ := cellsOf (hg5.blk (((Gr.refl _).alloc _).blk HB3.out.2))
  have HB5 := Lib.hid (And.intro (hg5.blk (((Gr.refl _).alloc _).blk HB3.out.1)) (hg5.blk (((Gr.refl _).alloc _).blk HB3.out.2)))
  have l2 := blkLt HB5.out.1
  have l3 := blkLt HB5.out.2
  clear hg5
  go_wp2_with fail
  have H5' := Lib.hid (H5.out.gr ((Gr.refl _).alloc (.cells #[.int .i64 107, .int .i64 40, .int .i64 17, .int .i64 50, .int .i64 4] 44)))
  obtain ⟨b8, hb8⟩ : ∃ q, q = w5.heap.size := ⟨_, rfl⟩
  have HB5' : Hid ((w5.alloc (.cells #[.int .i64 107, .int .i64 40, .int .i64 17, .int .i64 50, .int .i64 4] 44)).heap[b8]? = some (.cells #[.int .i64 107, .int .i64 40, .int .i64 17, .int .i64 50, .int .i64 4] 44) ∧ (w5.alloc (.cells #[.int .i64 107, .int .i64 40, .int .i64 17, .int .i64 50, .int .i64 4] 44)).heap[b3]? = some (.cells #[.int .i64 70, .int .i64 40, .int .i64 0, .int .i64 30, .int .i64 3] 44)) := Lib.hid ⟨by rw [hb8]; exact blkNew w5 _, ((Gr.refl _).alloc _).blk HB5.out.2⟩
  have HN8 : Hid (¬ S b8 ∧ w.heap.size ≤ b8) := Lib.hid ⟨fun h => by have := H5.out.ix.lt _ h; omega, by have := H5.out.g.sz; omega⟩
  rw [← hb8]
  clear hb8 c2 c3 l2 l3
  generalize w5.alloc (.cells #[.int .i64 107, .int .i64 40, .int .i64 17, .int .i64 50, .int .i64 4] 44) = w5' at *
  refine (Age_by ⟨70, 40, 0, 30, 3⟩ 5 _).mono ?_
  rintro e w6 ⟨rfl, hg6⟩
  rw [lg_g5]
  have H6 := Lib.hid (H5'.out.gr hg6)
  have HB6 := Lib.hid (And.intro (hg6.blk HB5'.out.1) (hg6.blk HB5'.out.2))
  obtain ⟨c3, _⟩ := cellsOf HB6.out.2
  have l3 := blkLt HB6.out.2
  clear hg6
  go_wp2_with fail
  refine (Age_by ⟨70, 40, 0, 30, 3⟩ 2 _).mono ?_
  rintro e w7 ⟨rfl, hg7⟩
  rw [lg_g2]
  have H7 := Lib.hid (H6.out.gr hg7)
  have HB7 := Lib.hid (hg7.blk HB6.out.1)
  clear hg7 c3 l3
  go_wp2_with (go_at_call 40; refine (Add_any H7.out.ix lgE5 lg_low5 lg_64).mono ?_; rintro e w8 ⟨rfl, hp⟩; rw [lg_a5]; have HP := Lib.hid hp; clear hp)
  obtain ⟨S8, hI8, hm8, hs8⟩ := H7.out.post HP.out
  have H8 : Hid (IXW w w8 b lgX5 S8) := Lib.hid hI8
  have HB8 := Lib.hid (hm8.blk HB7.out HN8.out.1)
  clear hI8 hm8 hs8
  refine (OfL_any H8.out.p 2).mono ?_
  rintro e w9 ⟨rfl, hg9⟩
  rw [lg_o2]
  simp only [byV]
  have H9 := Lib.hid (H8.out.gr hg9)
  have HB9 := Lib.hid (hg9.blk HB8.out)
  clear hg9
  go_wp2_with fail
  refine (Sum_any (H9.out.gr ((Gr.refl _).alloc _)).p).mono ?_
  rintro e w10 ⟨rfl, hg10⟩
  rw [lg_s5]
  simp only [byV]
  have H10 := Lib.hid ((H9.out.gr ((Gr.refl _).alloc _)).gr hg10)
  obtain ⟨b11, hb11⟩ : ∃ q, q = w9.heap.size := ⟨_, rfl⟩
  have HB11 : Hid (w10.heap[b11]? = some (.cells #[.int .i64 40, .int .i64 40, .int .i64 0, .int .i64 0, .int .i64 3] 44)) := Lib.hid (by rw [hb11]; exact hg10.blk (blkNew w9 _))
  have HB10 := Lib.hid (hg10.blk (((Gr.refl _).alloc _).blk HB9.out))
  have hne : b11 ≠ b8 := by have := blkLt HB9.out; omega
  rw [← hb11]
  obtain ⟨c11, _⟩ := cellsOf HB11.out
  obtain ⟨c8, f8⟩ := cellsOf HB10.out
  clear hg10 hb11
  go_wp2_with fail
  go_ret
  exact ⟨rfl, Gr.cell5 H10.out.g HN8.out.2 _ _ _ _ _⟩
end Go.Proofs.Ytiidkehcfoajeaa
