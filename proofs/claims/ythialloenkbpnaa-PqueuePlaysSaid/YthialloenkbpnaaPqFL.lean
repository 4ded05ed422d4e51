/- Contracts of a queue's other methods, at the priorities int64. Written from YPqF.base by inst.py. -/
import Derived.Test.YthialloenkbpnaaPqEL
set_option linter.unusedVariables false
set_option linter.unusedSimpArgs false
namespace Go.Proofs.Ythialloenkbpnaa
open Go.RowKit
attribute [local go_sem] OvM cell_ovm obj_ovm

/-- Where an id that is there stands. -/
theorem QRL.find {w : World} {b n len : Nat} {M : Nat → Option Int} {S : Nat → Prop} (q : QRL w b n len M S) {id : Nat} {p : Int} (hid : id < n) (h : M id = some p) :
    ∃ cap g pl h i, QKL w b n len cap g pl h ∧ (∀ m, m < 1024 → M m = Mo h pl m) ∧ S = QS b g ∧ i < len ∧ h i = (id, p) ∧ pl id = i + 1 := by
  obtain ⟨h1, h2, h3, ⟨rfl, _, h5, rfl⟩ | ⟨cap, g, pl, h', k, h4, rfl⟩⟩ := q
  · rw [h5] at h; cases h
  · have e := h4 id (by omega)
    rw [h] at e
    unfold Mo at e
    split at e
    · cases e
    · rename_i hp
      obtain ⟨b1, b2⟩ := k.p.bwd id (by omega) hp
      refine ⟨cap, g, pl, h', pl id - 1, k, h4, rfl, by omega, ?_, by omega⟩
      have e' := Option.some.inj e
      exact Prod.ext b2 e'.symm


set_option maxRecDepth 40000 in
set_option maxHeartbeats 1000000 in
theorem Priority_badL (b n len : Nat) (M : Nat → Option Int) (S : Nat → Prop) (id : Int) (w : World) (q : QRL w b n len M S) (h : id < 0 ∨ (n : Int) ≤ id) :
    Calls Try.prog 46 #[.pointer (some ⟨b, 0, none⟩), .int .i64 id] w fun e w' => e = .returned (.tuple #[.int .i64 0, .bool false]) ∧ w = w' := by
  obtain ⟨hv, pl, qb, _⟩ := q.open
  have hn := q.1
  have hc : chkQ n id = 3 := by unfold chkQ; rw [if_neg (by omega), if_pos h]
  go_enter Try.func46, Try.ntmps46
  go_wp2_with (go_at_call 70; refine (checkL _ _ _ _ _ _ qb).mono ?_; rintro e w1 ⟨rfl, rfl⟩)
  go_ret2
  exact ⟨rfl, rfl⟩

set_option maxRecDepth 40000 in
set_option maxHeartbeats 1000000 in
theorem Priority_noneL (b n len : Nat) (M : Nat → Option Int) (S : Nat → Prop) (id : Nat) (w : World) (q : QRL w b n len M S) (h : id < n) (h' : M id = none) :
    Calls Try.prog 46 #[.pointer (some ⟨b, 0, none⟩), .int .i64 id] w fun e w' => e = .returned (.tuple #[.int .i64 0, .bool false]) ∧ w = w' := by
  obtain ⟨hv, pl, qb, hM, _⟩ := q.open
  have hn := q.1
  have hn2 := q.2.1
  have hc : chkQ n id = 0 := by unfold chkQ; rw [if_neg (by omega), if_neg (by omega)]
  have hp := qb.cp id (by omega)
  rw [(hM id (by omega)).2 h'] at hp
  have hidb : (id : Int) < 1024 := by omega
  go_enter Try.func46, Try.ntmps46
  go_wp2_with (go_at_call 70; refine (checkL _ _ _ _ _ _ qb).mono ?_; rintro e w1 ⟨rfl, rfl⟩)
  go_ret2
  exact ⟨rfl, rfl⟩

set_option maxRecDepth 40000 in
set_option maxHeartbeats 1000000 in
theorem Priority_someL (b n len : Nat) (M : Nat → Option Int) (S : Nat → Prop) (id : Nat) (p : Int) (w : World) (q : QRL w b n len M S) (hid : id < n) (h' : M id = some p) :
    Calls Try.prog 46 #[.pointer (some ⟨b, 0, none⟩), .int .i64 id] w fun e w' => e = .returned (.tuple #[.int .i64 (p), .bool true]) ∧ Gr w w' := by
  obtain ⟨cap, g, pl, h, i, k, hM, rfl, hi, hhi, hpl⟩ := q.find hid h'
  have hn := q.1
  have hn2 := q.2.1
  have hc : chkQ n id = 0 := by unfold chkQ; rw [if_neg (by omega), if_neg (by omega)]
  have hp := k.c.q.cp id (by omega)
  rw [hpl] at hp
  have hp' : w.cell? ⟨b, 2 + id, none⟩ = some (.int .i64 ((i : Int) + 1)) := by rw [hp]; rfl
  have hidb : (id : Int) < 1024 := by omega
  have hi' : (i : Int) < len := by omega
  have hne : (((i : Int) + 1) == 0) = false := by simp; omega
  have q1 := k.c.q.c1
  have r1 := k.c.r.c1 i hi
  rw [hhi] at r1
  simp only [encL] at r1
  have hle := k.c.r.le
  have hmx := k.c.r.most
  unfold maxLen at hmx
  have hfew := k.p.few
  have HQ := Lib.hid k.c.q
  have e1 : IntKind.i64.wrap ((i : Int) + 1 - 1) = i := by rw [IntKind.wrap_i64]; omega
  clear hp hpl k hM q h' hhi
  go_enter Try.func46, Try.ntmps46
  go_wp2_with (go_at_call 70; refine (checkL _ _ _ _ _ _ HQ.out).mono ?_; rintro e w1 ⟨rfl, rfl⟩)
  refine wp_region_flo (fun _ => False) [] [] (by kernel_rfl) (by kernel_rfl) (fun _ h => h.elim) ?_
  refine flo_seg 16 rfl ?_
  simp only [List.take_succ_cons, List.take_zero, List.drop_succ_cons, List.drop_zero]
  repeat (go_big_quiet_step (fail))
  refine wpQuiet_nil ?_
  refine flo_nil ?_
  go_wp2
  go_ret2
  exact ⟨rfl, Gr.drew (Gr.refl _)⟩

/-- The least entry. -/
def IsMinL (M : Nat → Option Int) (i : Nat) (p : Int) : Prop := M i = some p ∧ ∀ j q, M j = some q → ¬ ltL (j, q) (i, p)
theorem IsMinL.uniq {M : Nat → Option Int} {i j : Nat} {p q : Int} (h : IsMinL M i p) (h' : IsMinL M j q) : i = j ∧ p = q := by
  have := ordrL.tri (h'.2 _ _ h.1) (h.2 _ _ h'.1)
  simpa using this

set_option maxRecDepth 40000 in
set_option maxHeartbeats 1000000 in
theorem Peek_noneL (b n : Nat) (M : Nat → Option Int) (S : Nat → Prop) (w : World) (q : QRL w b n 0 M S) :
    Calls Try.prog 47 #[.pointer (some ⟨b, 0, none⟩)] w fun e w' => e = .returned (.tuple #[.int .i64 0, .int .i64 0, .bool false]) ∧ w = w' := by
  obtain ⟨hv, pl, qb, hM, a, cap, rfl⟩ := q.open
  have hn := q.1
  have q1 := qb.c1
  have hd : decide (0 < n) = true := by simp [hn]
  go_enter Try.func47, Try.ntmps47
  go_wp2_with (go_at_call 76; refine (validL _ _ _ _ _ qb).mono ?_; rintro e w1 ⟨rfl, rfl⟩)
  go_ret3
  exact ⟨rfl, rfl⟩

set_option maxRecDepth 40000 in
set_option maxHeartbeats 1000000 in
theorem Peek_someL (b n len : Nat) (M : Nat → Option Int) (S : Nat → Prop) (w : World) (q : QRL w b n len M S) (hl : 0 < len) :
    Calls Try.prog 47 #[.pointer (some ⟨b, 0, none⟩)] w fun e w' => ∃ (i : Nat) (p : Int), e = .returned (.tuple #[.int .i64 i, .int .i64 (p), .bool true]) ∧ i < n ∧ IsMinL M i p ∧ Gr w w' := by
  obtain ⟨h1, h2, h3, ⟨rfl, _, h5, rfl⟩ | ⟨cap, g, pl, h, k, h4, rfl⟩⟩ := q
  · omega
  have HMIN : Hid ((h 0).1 < n ∧ IsMinL M (h 0).1 (h 0).2) := by
    have i0 := k.p.inr 0 hl
    have f0 := k.p.fwd 0 hl
    refine Lib.hid ⟨i0, ?_, fun j q hj => ?_⟩
    · rw [h4 _ (by omega)]; unfold Mo; rw [f0]; rfl
    · have hjn : j < n := Classical.byContradiction fun hc => by rw [h3 j (by omega)] at hj; cases hj
      rw [h4 j (by omega)] at hj
      unfold Mo at hj
      split at hj
      · cases hj
      · rename_i hp
        obtain ⟨b1, b2⟩ := k.p.bwd j (by omega) hp
        have := k.k.root ordrL (pl j - 1) (by omega)
        have e' := Option.some.inj hj
        have e2 : (j, q) = h (pl j - 1) := Prod.ext b2.symm e'.symm
        rw [e2]
        exact this
  have q1 := k.c.q.c1
  have r0 := k.c.r.c0 0 hl
  have r1 := k.c.r.c1 0 hl
  simp only [encL, Nat.zero_mul, Nat.zero_add] at r0 r1
  have hle := k.c.r.le
  have hmx := k.c.r.most
  unfold maxLen at hmx
  have HQ := Lib.hid k.c.q
  have hd : decide (0 < n) = true := by simp [h1]
  have hl0 : ((len : Int) == 0) = false := by simp; omega
  have hl1 : (0 : Int) < len := by omega
  clear k h4 h3
  go_enter Try.func47, Try.ntmps47
  go_wp2_with (go_at_call 76; refine (validL _ _ _ _ _ HQ.out).mono ?_; rintro e w1 ⟨rfl, rfl⟩)
  refine wp_region_flo (fun _ => False) [] [] (by kernel_rfl) (by kernel_rfl) (fun _ h => h.elim) ?_
  refine flo_seg 17 rfl ?_
  simp only [List.take_succ_cons, List.take_zero, List.drop_succ_cons, List.drop_zero]
  repeat (go_big_quiet_step (fail))
  refine wpQuiet_nil ?_
  refine flo_nil ?_
  go_wp2
  go_ret3
  exact ⟨_, _, rfl, HMIN.out.1, HMIN.out.2, Gr.drew (Gr.refl _)⟩
end Go.Proofs.Ythialloenkbpnaa
