/- The law's examples (works): every run of them answers true. -/
import Derived.Test.YtgpecjnnepocmaaScD
import Derived.Deep.RegionWith
import Derived.Deep.DeepCutAuto
namespace Go.Proofs.Ytgpecjnnepocmaa
open Go.RowKit
attribute [local go_sem] Ovs cell_ov obj_ov shape_ov

theorem side_any (s k a : Int) (w : World) : Calls Try.prog 36 #[.int .i64 s, .int .i64 k, .int .i64 a] w fun e w' => e = .returned (.agg #[.int .i64 s, .int .i64 k, .int .i64 a]) ∧ Gr w w' := by
  go_enter Try.func36, Try.ntmps36
  go_wp2
  refine bodyPost_ret (v := .agg #[.int .i64 s, .int .i64 k, .int .i64 a]) ?_ rfl ⟨rfl, by (repeat (first | (with_reducible exact Gr.refl _) | assumption | (with_reducible apply Gr.from_drew) | (with_reducible apply Gr.alloc) | (with_reducible apply Gr.drew) | (with_reducible refine Gr.trans ?_ (by assumption)) | (with_reducible refine Gr.setCell ?_ (by omega) _)))⟩
  simp [results, Try.results36, go_sem]

/-- Best with what is refused ahead of any side. -/
theorem Best_bad (policy room : Int) (s : Value) (h : (policy = 1 ∨ policy = 2) → inB room 1 8192 = false) (w : World) :
    Calls Try.prog 21 #[.int .i64 policy, s, .int .i64 room] w fun e w' => e = .returned (bestV zSd false 2) ∧ Gr w w' := by
  have k1 := eqF1
  have k2 := eqF2
  have k3 := eqF3
  go_enter Try.func21, Try.ntmps21
  by_cases hp : policy = 1
  · have h1 := h (.inl hp)
    subst hp
    go_wp2_with (first
      | (go_at_call 26; refine (by_any _ _ _).mono ?_; rintro e w1 ⟨rfl, rfl⟩; simp only [byV, if_true])
      | (go_at_call 28; refine (in_int _ _ _ _).mono ?_; rintro e w1 ⟨rfl, rfl⟩))
    refine bodyPost_ret (v := bestV zSd false 2) ?_ rfl ⟨rfl, by (repeat (first | (with_reducible exact Gr.refl _) | assumption | (with_reducible apply Gr.from_drew) | (with_reducible apply Gr.alloc) | (with_reducible apply Gr.drew) | (with_reducible refine Gr.trans ?_ (by assumption)) | (with_reducible refine Gr.setCell ?_ (by omega) _)))⟩
    simp [results, Try.results21, go_sem, bestV, zSd]
  · by_cases hp2 : policy = 2
    · have h1 := h (.inr hp2)
      subst hp2
      go_wp2_with (first
        | (go_at_call 26; refine (by_any _ _ _).mono ?_; rintro e w1 ⟨rfl, rfl⟩; simp only [byV, if_true, if_neg (show ¬ (2 : Int) = 1 by decide)])
        | (go_at_call 28; refine (in_int _ _ _ _).mono ?_; rintro e w1 ⟨rfl, rfl⟩))
      refine bodyPost_ret (v := bestV zSd false 2) ?_ rfl ⟨rfl, by (repeat (first | (with_reducible exact Gr.refl _) | assumption | (with_reducible apply Gr.from_drew) | (with_reducible apply Gr.alloc) | (with_reducible apply Gr.drew) | (with_reducible refine Gr.trans ?_ (by assumption)) | (with_reducible refine Gr.setCell ?_ (by omega) _)))⟩
      simp [results, Try.results21, go_sem, bestV, zSd]
    · go_wp2_with (first
        | (go_at_call 26; refine (by_any _ _ _).mono ?_; rintro e w1 ⟨rfl, rfl⟩; simp only [byV, if_neg hp, if_neg hp2])
        | (go_at_call 28; refine (in_int _ _ _ _).mono ?_; rintro e w1 ⟨rfl, rfl⟩))
      all_goals
        refine bodyPost_ret (v := bestV zSd false 2) ?_ rfl ⟨rfl, by (repeat (first | (with_reducible exact Gr.refl _) | assumption | (with_reducible apply Gr.from_drew) | (with_reducible apply Gr.alloc) | (with_reducible apply Gr.drew) | (with_reducible refine Gr.trans ?_ (by assumption)) | (with_reducible refine Gr.setCell ?_ (by omega) _)))⟩
        simp [results, Try.results21, go_sem, bestV, zSd]

/-- Best of the nil slice. -/
theorem Best_nil_1 (room : Int) (hr : inB room 1 8192 = true) (w : World) :
    Calls Try.prog 21 #[.int .i64 1, .slice none 0 0, .int .i64 room] w fun e w' => e = .returned (bestV zSd false 0) ∧ Gr w w' := by
  have k1 := eqF1
  have k2 := eqF2
  have k3 := eqF3
  go_enter Try.func21, Try.ntmps21
  go_wp2_with (first
    | (go_at_call 26; refine (by_any _ _ _).mono ?_; rintro e w1 ⟨rfl, rfl⟩; simp only [byV, if_true])
    | (go_at_call 28; refine (in_int _ _ _ _).mono ?_; rintro e w1 ⟨rfl, rfl⟩))
  go_loopw [11, 30] (fun tw i wr => i = .int .i64 0 ∧ tw = .bool false ∧ BI w w.heap.size room (fun _ => 0) wr) (fun _ _ _ => 0)
  case atStart =>
    refine ⟨rfl, rfl, ?_⟩
    refine ⟨by (repeat (first | (with_reducible exact Gr.refl _) | assumption | (with_reducible apply Gr.from_drew) | (with_reducible apply Gr.alloc) | (with_reducible apply Gr.drew) | (with_reducible refine Gr.trans ?_ (by assumption)) | (with_reducible refine Gr.setCell ?_ (by omega) _))), by simp, by simp [go_sem], fun j hj => ?_, fun j => by simp [go_sem], fun j hj => ?_, fun j => by simp [go_sem]⟩
    · exact zerosN 32 ((w.alloc (.cells #[.int .i64 0, .int .i64 0, .int .i64 0] 23)).alloc (.cells #[.int .i64 room] 3)) _ _ j (by simp) hj
    · match j, hj with
      | 0, _ => exact ⟨.int .i64 0, by simp [go_sem]⟩
      | 1, _ => exact ⟨.int .i64 0, by simp [go_sem]⟩
      | 2, _ => exact ⟨.int .i64 0, by simp [go_sem]⟩
  case round =>
    obtain ⟨rfl, rfl, hBI⟩ := hrel
    have HB := Lib.hid hBI
    have ⟨r0, hr0⟩ := hBI.res 0 (by decide)
    have ⟨r1, hr1⟩ := hBI.res 1 (by decide)
    have ⟨r2, hr2⟩ := hBI.res 2 (by decide)
    have rf := hBI.rfree
    have hz := hBI.sz
    clear hBI
    go_wp2
    refine bodyPost_ret (v := bestV zSd false 0) ?_ rfl ⟨rfl, ?_⟩
    · simp [results, Try.results21, go_sem, hr0, hr1, hr2, bestV, zSd]
    · exact ((HB.out.gr.setCell (by simp) _).setCell (by simp) _).setCell (by simp) _
/-- Best of the nil slice. -/
theorem Best_nil_2 (room : Int) (hr : inB room 1 8192 = true) (w : World) :
    Calls Try.prog 21 #[.int .i64 2, .slice none 0 0, .int .i64 room] w fun e w' => e = .returned (bestV zSd false 0) ∧ Gr w w' := by
  have k1 := eqF1
  have k2 := eqF2
  have k3 := eqF3
  go_enter Try.func21, Try.ntmps21
  go_wp2_with (first
    | (go_at_call 26; refine (by_any _ _ _).mono ?_; rintro e w1 ⟨rfl, rfl⟩; simp only [byV, if_true, if_neg (show ¬ (2 : Int) = 1 by decide)])
    | (go_at_call 28; refine (in_int _ _ _ _).mono ?_; rintro e w1 ⟨rfl, rfl⟩))
  go_loopw [11, 30] (fun tw i wr => i = .int .i64 0 ∧ tw = .bool false ∧ BI w w.heap.size room (fun _ => 0) wr) (fun _ _ _ => 0)
  case atStart =>
    refine ⟨rfl, rfl, ?_⟩
    refine ⟨by (repeat (first | (with_reducible exact Gr.refl _) | assumption | (with_reducible apply Gr.from_drew) | (with_reducible apply Gr.alloc) | (with_reducible apply Gr.drew) | (with_reducible refine Gr.trans ?_ (by assumption)) | (with_reducible refine Gr.setCell ?_ (by omega) _))), by simp, by simp [go_sem], fun j hj => ?_, fun j => by simp [go_sem], fun j hj => ?_, fun j => by simp [go_sem]⟩
    · exact zerosN 32 ((w.alloc (.cells #[.int .i64 0, .int .i64 0, .int .i64 0] 23)).alloc (.cells #[.int .i64 room] 3)) _ _ j (by simp) hj
    · match j, hj with
      | 0, _ => exact ⟨.int .i64 0, by simp [go_sem]⟩
      | 1, _ => exact ⟨.int .i64 0, by simp [go_sem]⟩
      | 2, _ => exact ⟨.int .i64 0, by simp [go_sem]⟩
  case round =>
    obtain ⟨rfl, rfl, hBI⟩ := hrel
    have HB := Lib.hid hBI
    have ⟨r0, hr0⟩ := hBI.res 0 (by decide)
    have ⟨r1, hr1⟩ := hBI.res 1 (by decide)
    have ⟨r2, hr2⟩ := hBI.res 2 (by decide)
    have rf := hBI.rfree
    have hz := hBI.sz
    clear hBI
    go_wp2
    refine bodyPost_ret (v := bestV zSd false 0) ?_ rfl ⟨rfl, ?_⟩
    · simp [results, Try.results21, go_sem, hr0, hr1, hr2, bestV, zSd]
    · exact ((HB.out.gr.setCell (by simp) _).setCell (by simp) _).setCell (by simp) _

theorem SidesAt.grow {w w1 : World} {b off : Nat} {l : List Sd} (h : SidesAt w b off l) (hb : b < w.heap.size) (g : Gr w w1) : SidesAt w1 b off l := fun i hi => by
  obtain ⟨h1, h2, h3⟩ := h i hi
  exact ⟨(g.cell _ _ hb).trans h1, (g.cell _ _ hb).trans h2, (g.cell _ _ hb).trans h3⟩

def lw : List Sd := [(3, 20, 1), (1, 30, 9), (2, 20, 5)]
theorem Best_w1 (b : Nat) (w : World) (hs : SidesAt w b 0 lw) (hb : b < w.heap.size) : Calls Try.prog 21 #[.int .i64 1, .slice (some ⟨b, 0, none⟩) 3 3, .int .i64 100] w fun e w' => e = .returned (bestV (2, 20, 5) true 0) ∧ Gr w w' := by
  refine (Best_1 100 rfl b 0 3 3 lw rfl (by omega) (by omega) (by decide) w hs hb).mono ?_
  rintro e w' ⟨rfl, h⟩
  exact ⟨by rw [best_some (by decide) (by decide) (by decide)]; rfl, h⟩
theorem Best_w2 (b : Nat) (w : World) (hs : SidesAt w b 0 lw) (hb : b < w.heap.size) : Calls Try.prog 21 #[.int .i64 2, .slice (some ⟨b, 0, none⟩) 3 3, .int .i64 100] w fun e w' => e = .returned (bestV (1, 30, 9) true 0) ∧ Gr w w' := by
  refine (Best_2 100 rfl b 0 3 3 lw rfl (by omega) (by omega) (by decide) w hs hb).mono ?_
  rintro e w' ⟨rfl, h⟩
  exact ⟨by rw [best_some (by decide) (by decide) (by decide)]; rfl, h⟩
theorem Best_w3 (b : Nat) (w : World) (hs : SidesAt w b 0 [(3, 20, 1), (3, 20, 1)]) (hb : b < w.heap.size) : Calls Try.prog 21 #[.int .i64 1, .slice (some ⟨b, 0, none⟩) 2 2, .int .i64 100] w fun e w' => e = .returned (bestV zSd false 6) ∧ Gr w w' := by
  refine (Best_1 100 rfl b 0 2 2 _ rfl (by omega) (by omega) (by decide) w hs hb).mono ?_
  rintro e w' ⟨rfl, h⟩
  exact ⟨by rw [best_twice (by decide) (by decide)], h⟩

/-- What the examples' blocks hold. -/
structure WF (w : World) (b b5 b6 : Nat) : Prop where
  hb : b < w.heap.size
  hb5 : b5 < w.heap.size
  hb6 : b6 < w.heap.size
  l0 : w.cell? ⟨b5, 0, none⟩ = some (.int .i64 2)
  l1 : w.cell? ⟨b5, 1, none⟩ = some (.int .i64 20)
  l2 : w.cell? ⟨b5, 2, none⟩ = some (.int .i64 5)
  m0 : w.cell? ⟨b6, 0, none⟩ = some (.int .i64 1)
  m1 : w.cell? ⟨b6, 1, none⟩ = some (.int .i64 30)
  m2 : w.cell? ⟨b6, 2, none⟩ = some (.int .i64 9)
  n0 : w.cell? ⟨b, 0, none⟩ = some (.int .i64 3)
  n1 : w.cell? ⟨b, 1, none⟩ = some (.int .i64 20)
  n2 : w.cell? ⟨b, 2, none⟩ = some (.int .i64 1)
  n3 : w.cell? ⟨b, 3, none⟩ = some (.int .i64 1)
  n4 : w.cell? ⟨b, 4, none⟩ = some (.int .i64 30)
  n5 : w.cell? ⟨b, 5, none⟩ = some (.int .i64 9)
  n6 : w.cell? ⟨b, 6, none⟩ = some (.int .i64 2)
  n7 : w.cell? ⟨b, 7, none⟩ = some (.int .i64 20)
  n8 : w.cell? ⟨b, 8, none⟩ = some (.int .i64 5)
theorem WF.grow {w w1 : World} {b b5 b6 : Nat} (h : WF w b b5 b6) (g : Gr w w1) : WF w1 b b5 b6 := by
  obtain ⟨h0, h1, h2, l0, l1, l2, m0, m1, m2, n0, n1, n2, n3, n4, n5, n6, n7, n8⟩ := h
  exact ⟨Nat.lt_of_lt_of_le h0 g.sz, Nat.lt_of_lt_of_le h1 g.sz, Nat.lt_of_lt_of_le h2 g.sz, (g.cell _ _ h1).trans l0, (g.cell _ _ h1).trans l1, (g.cell _ _ h1).trans l2, (g.cell _ _ h2).trans m0, (g.cell _ _ h2).trans m1, (g.cell _ _ h2).trans m2,
    (g.cell _ _ h0).trans n0, (g.cell _ _ h0).trans n1, (g.cell _ _ h0).trans n2, (g.cell _ _ h0).trans n3, (g.cell _ _ h0).trans n4, (g.cell _ _ h0).trans n5, (g.cell _ _ h0).trans n6, (g.cell _ _ h0).trans n7, (g.cell _ _ h0).trans n8⟩

set_option maxRecDepth 40000 in
set_option maxHeartbeats 4000000 in
theorem works_any (w : World) : Calls Try.prog 17 #[] w fun e w' => e = .returned (.bool true) ∧ Gr w w' := by
  go_enter Try.func17, Try.ntmps17
  go_wp2_with fail
  refine (side_any _ _ _ _).mono ?_
  rintro e w1 ⟨rfl, h1⟩
  go_wp2_with fail
  refine (side_any _ _ _ _).mono ?_
  rintro e w2 ⟨rfl, h2⟩
  go_wp2_with fail
  refine (side_any _ _ _ _).mono ?_
  rintro e w3 ⟨rfl, h3⟩
  have g3 : Gr w w3 := h1.trans (h2.trans h3)
  clear h1 h2 h3
  go_wp2_with fail
  have SB : SidesAt (w3.alloc (.cells #[.int .i64 3, .int .i64 20, .int .i64 1, .int .i64 1, .int .i64 30, .int .i64 9, .int .i64 2, .int .i64 20, .int .i64 5] 23)) w3.heap.size 0 lw := by
    intro i hi
    match i, hi with
    | 0, _ => simp [lw, go_sem]
    | 1, _ => simp [lw, go_sem]
    | 2, _ => simp [lw, go_sem]
  have hsz : w3.heap.size < (w3.alloc (.cells #[.int .i64 3, .int .i64 20, .int .i64 1, .int .i64 1, .int .i64 30, .int .i64 9, .int .i64 2, .int .i64 20, .int .i64 5] 23)).heap.size := by simp
  have g4 := g3.alloc (.cells #[.int .i64 3, .int .i64 20, .int .i64 1, .int .i64 1, .int .i64 30, .int .i64 9, .int .i64 2, .int .i64 20, .int .i64 5] 23)
  generalize w3.heap.size = b at *
  generalize w3.alloc (.cells #[.int .i64 3, .int .i64 20, .int .i64 1, .int .i64 1, .int .i64 30, .int .i64 9, .int .i64 2, .int .i64 20, .int .i64 5] 23) = w4 at *
  clear g3
  refine (Best_w1 b w4 SB hsz).mono ?_
  rintro e w5 ⟨rfl, h5⟩
  simp only [bestV]
  go_wp2_with fail
  have z5 : w5.heap.size < (w5.alloc (.cells #[.int .i64 2, .int .i64 20, .int .i64 5] 23)).heap.size := by simp
  have c5 : ∀ j, j < 3 → (w5.alloc (.cells #[.int .i64 2, .int .i64 20, .int .i64 5] 23)).cell? ⟨w5.heap.size, j, none⟩ = [Value.int .i64 2, .int .i64 20, .int .i64 5][j]? := fun j hj => by simp [go_sem]
  have g5 := h5.alloc (.cells #[.int .i64 2, .int .i64 20, .int .i64 5] 23)
  generalize w5.heap.size = b5 at *
  generalize w5.alloc (.cells #[.int .i64 2, .int .i64 20, .int .i64 5] 23) = w5a at *
  clear h5
  refine (Best_w2 b w5a (SB.grow hsz g5) (Nat.lt_of_lt_of_le hsz g5.sz)).mono ?_
  rintro e w6 ⟨rfl, h6⟩
  simp only [bestV]
  go_wp2_with fail
  have z6 : w6.heap.size < (w6.alloc (.cells #[.int .i64 1, .int .i64 30, .int .i64 9] 23)).heap.size := by simp
  have c6 : ∀ j, j < 3 → (w6.alloc (.cells #[.int .i64 1, .int .i64 30, .int .i64 9] 23)).cell? ⟨w6.heap.size, j, none⟩ = [Value.int .i64 1, .int .i64 30, .int .i64 9][j]? := fun j hj => by simp [go_sem]
  have g6 := h6.alloc (.cells #[.int .i64 1, .int .i64 30, .int .i64 9] 23)
  generalize w6.heap.size = b6 at *
  generalize w6.alloc (.cells #[.int .i64 1, .int .i64 30, .int .i64 9] 23) = w6a at *
  clear h6
  refine (Best_nil_1 100 rfl w6a).mono ?_
  rintro e w7 ⟨rfl, h7⟩
  simp only [bestV, zSd]
  go_upto_region 5 with fail
  have g7 := h7.alloc (.cells #[.int .i64 0, .int .i64 0, .int .i64 0] 23)
  generalize w7.heap.size = b7 at *
  generalize w7.alloc (.cells #[.int .i64 0, .int .i64 0, .int .i64 0] 23) = w8 at *
  clear h7
  have gb := g5.trans (g6.trans g7)
  have S8 := SB.grow hsz gb
  have hb8 : b < w8.heap.size := Nat.lt_of_lt_of_le hsz gb.sz
  have d5 : ∀ j, j < 3 → w8.cell? ⟨b5, j, none⟩ = [Value.int .i64 2, .int .i64 20, .int .i64 5][j]? := fun j hj => ((g6.trans g7).cell _ _ z5).trans (c5 j hj)
  have d6 : ∀ j, j < 3 → w8.cell? ⟨b6, j, none⟩ = [Value.int .i64 1, .int .i64 30, .int .i64 9][j]? := fun j hj => (g7.cell _ _ z6).trans (c6 j hj)
  have hb5 : b5 < w8.heap.size := Nat.lt_of_lt_of_le z5 (g6.trans g7).sz
  have hb6 : b6 < w8.heap.size := Nat.lt_of_lt_of_le z6 g7.sz
  have g8 := g4.trans gb
  clear c5 c6 z5 z6 g5 g6 g7 gb SB hsz g4
  have l0 := d5 0 (by decide)
  have l1 := d5 1 (by decide)
  have l2 := d5 2 (by decide)
  have m0 := d6 0 (by decide)
  have m1 := d6 1 (by decide)
  have m2 := d6 2 (by decide)
  obtain ⟨n0, n1, n2⟩ := S8 0 (by decide)
  obtain ⟨n3, n4, n5⟩ := S8 1 (by decide)
  obtain ⟨n6, n7, n8⟩ := S8 2 (by decide)
  simp [lw] at l0 l1 l2 m0 m1 m2 n0 n1 n2 n3 n4 n5 n6 n7 n8
  clear d5 d6 S8
  go_cut [13] (fun e wx => e = .int .i64 6 ∧ Gr w8 wx)
  case first =>
    go_region_with (go_at_call 21; refine (Best_w3 _ _ ?hs ?hb).mono ?_; (case hs => intro i hi; match i, hi with
      | 0, _ => simp [go_sem]
      | 1, _ => simp [go_sem]); (case hb => simp [go_sem]); rintro e w9 ⟨rfl, h9⟩; (try have q0 : w9.cell? ⟨w8.heap.size, 0, none⟩ = some (.int .i64 0) := by (refine (h9.cell _ _ ?_).trans ?_ <;> (simp [go_sem]; done))); (try have r0 : w9.frozen? ⟨w8.heap.size, 0, none⟩ = false := by (refine (h9.frozen _ _ ?_).trans ?_ <;> (simp [go_sem]; done))); (try have q1 : w9.cell? ⟨w8.heap.size, 1, none⟩ = some (.int .i64 0) := by (refine (h9.cell _ _ ?_).trans ?_ <;> (simp [go_sem]; done))); (try have r1 : w9.frozen? ⟨w8.heap.size, 1, none⟩ = false := by (refine (h9.frozen _ _ ?_).trans ?_ <;> (simp [go_sem]; done))); (try have q2 : w9.cell? ⟨w8.heap.size, 2, none⟩ = some (.int .i64 0) := by (refine (h9.cell _ _ ?_).trans ?_ <;> (simp [go_sem]; done))); (try have r2 : w9.frozen? ⟨w8.heap.size, 2, none⟩ = false := by (refine (h9.frozen _ _ ?_).trans ?_ <;> (simp [go_sem]; done))); (try have q3 : w9.cell? ⟨w8.heap.size + 1, 0, none⟩ = some (.int .i64 0) := by (refine (h9.cell _ _ ?_).trans ?_ <;> (simp [go_sem]; done))); (try have r3 : w9.frozen? ⟨w8.heap.size + 1, 0, none⟩ = false := by (refine (h9.frozen _ _ ?_).trans ?_ <;> (simp [go_sem]; done))); (try have q4 : w9.cell? ⟨w8.heap.size + 1, 1, none⟩ = some (.int .i64 0) := by (refine (h9.cell _ _ ?_).trans ?_ <;> (simp [go_sem]; done))); (try have r4 : w9.frozen? ⟨w8.heap.size + 1, 1, none⟩ = false := by (refine (h9.frozen _ _ ?_).trans ?_ <;> (simp [go_sem]; done))); (try have q5 : w9.cell? ⟨w8.heap.size + 1, 2, none⟩ = some (.int .i64 0) := by (refine (h9.cell _ _ ?_).trans ?_ <;> (simp [go_sem]; done))); (try have r5 : w9.frozen? ⟨w8.heap.size + 1, 2, none⟩ = false := by (refine (h9.frozen _ _ ?_).trans ?_ <;> (simp [go_sem]; done))); simp only [bestV, zSd])
    all_goals
      go_wp2_with fail
      go_meet
      refine ⟨rfl, ?_⟩
      (repeat (first | (with_reducible exact Gr.refl _) | assumption | (with_reducible apply Gr.from_drew) | (with_reducible apply Gr.alloc) | (with_reducible apply Gr.drew) | (with_reducible refine Gr.setCell ?_ (by simp) _) | (with_reducible refine Gr.trans (Gr.of_drew ?_) (by assumption)) | (with_reducible refine Gr.trans ?_ (by assumption))))
  case rest =>
    obtain ⟨rfl, h9⟩ := hcut
    have F := WF.grow ⟨hb8, hb5, hb6, l0, l1, l2, m0, m1, m2, n0, n1, n2, n3, n4, n5, n6, n7, n8⟩ h9
    have g9 := g8.trans h9
    clear l0 l1 l2 m0 m1 m2 n0 n1 n2 n3 n4 n5 n6 n7 n8 hb8 hb5 hb6 h9 g8
    generalize w8.heap.size = bx at *
    (try clear w8)
    obtain ⟨hb8, hb5, hb6, l0, l1, l2, m0, m1, m2, n0, n1, n2, n3, n4, n5, n6, n7, n8⟩ := id F
    have FH := Lib.hid F
    clear F
    have e5 : errOf (okC 3 3 20 1 1 30 9 100) = 2 := by decide
    have HG := Gr.refl wc.drew
    go_wp2
    refine wp_region_flow (by kernel_rfl) (by kernel_rfl) ?_
    refine flow_seg 6 rfl ?_
    simp only [List.take_succ_cons, List.take_zero, List.drop_succ_cons, List.drop_zero]
    repeat (go_big_quiet_step (fail))
    refine wpQuiet_nil ?_
    refine flow_eff rfl rfl (fun K hK => ?_)
    go_wp2_with ((go_at_call 9; refine (Compare_any _ _ _ _ _ _ _ _ _).mono ?_; rintro e w1 ⟨rfl, hg⟩; replace HG := HG.trans hg; (try clear hc); have hc := HG.cell; (try simp only [World.size_alloc] at hc)))
    refine ⟨Gr.ovs (by (repeat (first | (with_reducible exact Gr.refl _) | assumption | (with_reducible apply Gr.from_drew) | (with_reducible apply Gr.alloc) | (with_reducible apply Gr.drew) | (with_reducible refine Gr.trans ?_ (by assumption)) | (with_reducible refine Gr.setCell ?_ (by omega) _)))), ?_⟩
    refine flow_seg 5 rfl ?_
    simp only [List.take_succ_cons, List.take_zero, List.drop_succ_cons, List.drop_zero]
    repeat (go_big_quiet_step (fail))
    refine wpQuiet_nil ?_
    refine flow_nil ?_
    have F2 := FH.out.grow (Gr.of_drew HG)
    clear l0 l1 l2 m0 m1 m2 n0 n1 n2 n3 n4 n5 n6 n7 n8 hb8 hb5 hb6
    have g10 := g9.trans (Gr.of_drew HG)
    obtain ⟨hb8, hb5, hb6, l0, l1, l2, m0, m1, m2, n0, n1, n2, n3, n4, n5, n6, n7, n8⟩ := id F2
    replace HG := Gr.refl w1.drew
    have e1 : errOf (okC 1 0 101 1 1 30 9 100) = 2 := by decide
    have e2 : greedy 3 20 1 30 = -1 := by decide
    have e3 : greedy 3 20 1 20 = 1 := by decide
    have e4 : benefit 3 20 1 1 30 9 100 = 1 := by decide
    have e6 : benefit 3 50 3 1 0 1 100 = 1 := by decide
    clear hc
    go_wp2
    refine wp_region_flow (by kernel_rfl) (by kernel_rfl) ?_
    refine flow_eff rfl rfl (fun K hK => ?_)
    go_wp2_with ((go_at_call 36; refine (side_any _ _ _ _).mono ?_; rintro e w1 ⟨rfl, hg⟩; replace HG := HG.trans hg; (try clear hc); have hc := HG.cell; (try simp only [World.size_alloc] at hc)))
    refine ⟨Gr.ovs (by (repeat (first | (with_reducible exact Gr.refl _) | assumption | (with_reducible apply Gr.from_drew) | (with_reducible apply Gr.alloc) | (with_reducible apply Gr.drew) | (with_reducible refine Gr.trans ?_ (by assumption)) | (with_reducible refine Gr.setCell ?_ (by omega) _)))), ?_⟩
    refine flow_seg 3 rfl ?_
    simp only [List.take_succ_cons, List.take_zero, List.drop_succ_cons, List.drop_zero]
    repeat (go_big_quiet_step (fail))
    refine wpQuiet_nil ?_
    refine flow_eff rfl rfl (fun K hK => ?_)
    go_wp2_with ((go_at_call 9; refine (Compare_any _ _ _ _ _ _ _ _ _).mono ?_; rintro e w1 ⟨rfl, hg⟩; replace HG := HG.trans hg; (try clear hc); have hc := HG.cell; (try simp only [World.size_alloc] at hc)))
    refine ⟨Gr.ovs (by (repeat (first | (with_reducible exact Gr.refl _) | assumption | (with_reducible apply Gr.from_drew) | (with_reducible apply Gr.alloc) | (with_reducible apply Gr.drew) | (with_reducible refine Gr.trans ?_ (by assumption)) | (with_reducible refine Gr.setCell ?_ (by omega) _)))), ?_⟩
    refine flow_seg 5 rfl ?_
    simp only [List.take_succ_cons, List.take_zero, List.drop_succ_cons, List.drop_zero]
    repeat (go_big_quiet_step (fail))
    refine wpQuiet_nil ?_
    refine flow_nil ?_
    have F3 := F2.grow (Gr.of_drew HG)
    replace g10 := g10.trans (Gr.of_drew HG)
    clear l0 l1 l2 m0 m1 m2 n0 n1 n2 n3 n4 n5 n6 n7 n8 hb8 hb5 hb6 hc F2
    obtain ⟨hb8, hb5, hb6, l0, l1, l2, m0, m1, m2, n0, n1, n2, n3, n4, n5, n6, n7, n8⟩ := F3
    replace HG := Gr.refl w1.drew
    go_wp2
    refine wp_region_flow (by kernel_rfl) (by kernel_rfl) ?_
    (try simp only [List.append_eq, List.cons_append, List.nil_append])
    refine flow_seg 6 rfl ?_
    simp only [List.take_succ_cons, List.take_zero, List.drop_succ_cons, List.drop_zero]
    repeat (go_big_quiet_step (fail))
    refine wpQuiet_nil ?_
    refine flow_eff rfl rfl (fun K hK => ?_)
    go_wp2_with ((go_at_call 13; refine (Greedy_any _ _ _ _ _ _ _).mono ?_; rintro e w1 ⟨rfl, hg⟩; replace HG := HG.trans hg; (try clear hc); have hc := HG.cell; (try simp only [World.size_alloc] at hc)))
    refine ⟨Gr.ovs (by (repeat (first | (with_reducible exact Gr.refl _) | assumption | (with_reducible apply Gr.from_drew) | (with_reducible apply Gr.alloc) | (with_reducible apply Gr.drew) | (with_reducible refine Gr.trans ?_ (by assumption)) | (with_reducible refine Gr.setCell ?_ (by omega) _)))), ?_⟩
    refine flow_seg 5 rfl ?_
    simp only [List.take_succ_cons, List.take_zero, List.drop_succ_cons, List.drop_zero]
    repeat (go_big_quiet_step (fail))
    refine wpQuiet_nil ?_
    refine flow_eff rfl rfl (fun K hK => ?_)
    go_wp2_with ((go_at_call 36; refine (side_any _ _ _ _).mono ?_; rintro e w1 ⟨rfl, hg⟩; replace HG := HG.trans hg; (try clear hc); have hc := HG.cell; (try simp only [World.size_alloc] at hc)))
    refine ⟨Gr.ovs (by (repeat (first | (with_reducible exact Gr.refl _) | assumption | (with_reducible apply Gr.from_drew) | (with_reducible apply Gr.alloc) | (with_reducible apply Gr.drew) | (with_reducible refine Gr.trans ?_ (by assumption)) | (with_reducible refine Gr.setCell ?_ (by omega) _)))), ?_⟩
    refine flow_eff rfl rfl (fun K hK => ?_)
    go_wp2_with ((go_at_call 13; refine (Greedy_any _ _ _ _ _ _ _).mono ?_; rintro e w1 ⟨rfl, hg⟩; replace HG := HG.trans hg; (try clear hc); have hc := HG.cell; (try simp only [World.size_alloc] at hc)))
    refine ⟨Gr.ovs (by (repeat (first | (with_reducible exact Gr.refl _) | assumption | (with_reducible apply Gr.from_drew) | (with_reducible apply Gr.alloc) | (with_reducible apply Gr.drew) | (with_reducible refine Gr.trans ?_ (by assumption)) | (with_reducible refine Gr.setCell ?_ (by omega) _)))), ?_⟩
    refine flow_seg 9 rfl ?_
    simp only [List.take_succ_cons, List.take_zero, List.drop_succ_cons, List.drop_zero]
    repeat (go_big_quiet_step (fail))
    refine wpQuiet_nil ?_
    refine flow_eff rfl rfl (fun K hK => ?_)
    go_wp2_with ((go_at_call 15; refine (Benefit_any _ _ _ _ _ _ _ _).mono ?_; rintro e w1 ⟨rfl, hg⟩; replace HG := HG.trans hg; (try clear hc); have hc := HG.cell; (try simp only [World.size_alloc] at hc)))
    refine ⟨Gr.ovs (by (repeat (first | (with_reducible exact Gr.refl _) | assumption | (with_reducible apply Gr.from_drew) | (with_reducible apply Gr.alloc) | (with_reducible apply Gr.drew) | (with_reducible refine Gr.trans ?_ (by assumption)) | (with_reducible refine Gr.setCell ?_ (by omega) _)))), ?_⟩
    refine flow_seg 3 rfl ?_
    simp only [List.take_succ_cons, List.take_zero, List.drop_succ_cons, List.drop_zero]
    repeat (go_big_quiet_step (fail))
    refine wpQuiet_nil ?_
    refine flow_eff rfl rfl (fun K hK => ?_)
    go_wp2_with ((go_at_call 36; refine (side_any _ _ _ _).mono ?_; rintro e w1 ⟨rfl, hg⟩; replace HG := HG.trans hg; (try clear hc); have hc := HG.cell; (try simp only [World.size_alloc] at hc)))
    refine ⟨Gr.ovs (by (repeat (first | (with_reducible exact Gr.refl _) | assumption | (with_reducible apply Gr.from_drew) | (with_reducible apply Gr.alloc) | (with_reducible apply Gr.drew) | (with_reducible refine Gr.trans ?_ (by assumption)) | (with_reducible refine Gr.setCell ?_ (by omega) _)))), ?_⟩
    refine flow_eff rfl rfl (fun K hK => ?_)
    go_wp2_with ((go_at_call 36; refine (side_any _ _ _ _).mono ?_; rintro e w1 ⟨rfl, hg⟩; replace HG := HG.trans hg; (try clear hc); have hc := HG.cell; (try simp only [World.size_alloc] at hc)))
    refine ⟨Gr.ovs (by (repeat (first | (with_reducible exact Gr.refl _) | assumption | (with_reducible apply Gr.from_drew) | (with_reducible apply Gr.alloc) | (with_reducible apply Gr.drew) | (with_reducible refine Gr.trans ?_ (by assumption)) | (with_reducible refine Gr.setCell ?_ (by omega) _)))), ?_⟩
    refine flow_eff rfl rfl (fun K hK => ?_)
    go_wp2_with ((go_at_call 15; refine (Benefit_any _ _ _ _ _ _ _ _).mono ?_; rintro e w1 ⟨rfl, hg⟩; replace HG := HG.trans hg; (try clear hc); have hc := HG.cell; (try simp only [World.size_alloc] at hc)))
    refine ⟨Gr.ovs (by (repeat (first | (with_reducible exact Gr.refl _) | assumption | (with_reducible apply Gr.from_drew) | (with_reducible apply Gr.alloc) | (with_reducible apply Gr.drew) | (with_reducible refine Gr.trans ?_ (by assumption)) | (with_reducible refine Gr.setCell ?_ (by omega) _)))), ?_⟩
    refine flow_seg 51 rfl ?_
    simp only [List.take_succ_cons, List.take_zero, List.drop_succ_cons, List.drop_zero]
    repeat (go_big_quiet_step (fail))
    refine wpQuiet_nil ?_
    refine flow_nil ?_
    go_wp2
    go_ret
    exact ⟨rfl, g10.trans (Gr.of_drew HG)⟩
end Go.Proofs.Ytgpecjnnepocmaa
