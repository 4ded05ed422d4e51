/- A queue and the reference's queue, side by side: what each call returns, and what is left. -/
import Derived.Test.YthialloenkbpnaaPqQ2
import Derived.Test.YthialloenkbpnaaPqX
set_option linter.unusedVariables false
set_option linter.unusedSimpArgs false
namespace Go.Proofs.Ythialloenkbpnaa
open Go.RowKit
attribute [local go_sem] OvM cell_ovm obj_ovm

/-! ### Plain: what the calls come to -/
def pushC (z : Bool) (n : Nat) (M : Nat → Option Int) (id : Int) : Int := if z = false then 1 else if 0 ≤ id ∧ id < n then (if (M id.toNat).isSome then 6 else 0) else 3
def pushM (z : Bool) (n : Nat) (M : Nat → Option Int) (id p : Int) : Nat → Option Int := if z = true ∧ (0 ≤ id ∧ id < n) ∧ (M id.toNat).isSome = false then upd M id.toNat (some p) else M
def chgC (z : Bool) (n : Nat) (M : Nat → Option Int) (id : Int) : Int := if z = false then 1 else if 0 ≤ id ∧ id < n then (if (M id.toNat).isSome then 0 else 5) else 3
def chgM (z : Bool) (n : Nat) (M : Nat → Option Int) (id p : Int) : Nat → Option Int := if z = true ∧ (0 ≤ id ∧ id < n) ∧ (M id.toNat).isSome = true then upd M id.toNat (some p) else M
def prV (z : Bool) (n : Nat) (M : Nat → Option Int) (id : Int) : Option Int := if z = true ∧ (0 ≤ id ∧ id < n) then M id.toNat else none
def prT (o : Option Int) : Value := .tuple #[.int .i64 (o.getD 0), .bool o.isSome]
def remM (z : Bool) (n : Nat) (M : Nat → Option Int) (id : Int) : Nat → Option Int := if z = true ∧ (0 ≤ id ∧ id < n) ∧ (M id.toNat).isSome = true then upd M id.toNat none else M
def PK (n : Nat) (M : Nat → Option Int) (a p : Int) (ok : Bool) : Prop := (ok = false ∧ a = 0 ∧ p = 0 ∧ ∀ j, M j = none) ∨ (ok = true ∧ ∃ i : Nat, a = i ∧ i < n ∧ IsMinL M i p)
def popM (M : Nat → Option Int) (a : Int) (ok : Bool) : Nat → Option Int := if ok = true then upd M a.toNat none else M
theorem best_ex (M : Nat → Option Int) : ∀ k, ∃ best, BestTo M k best
  | 0 => ⟨-1, .inl ⟨rfl, fun j hj => by omega⟩⟩
  | k + 1 => by
    obtain ⟨best, h⟩ := best_ex M k
    have hk : ∀ j, j < k + 1 → j < k ∨ j = k := fun j hj => by omega
    cases hm : M k with
    | none =>
      refine ⟨best, ?_⟩
      rcases h with ⟨h1, h2⟩ | ⟨B, p, h1, h2, h3, h4⟩
      · exact .inl ⟨h1, fun j hj => (hk j hj).elim (h2 j) (fun e => e ▸ hm)⟩
      · exact .inr ⟨B, p, h1, by omega, h3, fun j q hj hq => (hk j hj).elim (fun h => h4 j q h hq) (fun e => by subst e; rw [hm] at hq; cases hq)⟩
    | some q =>
      rcases h with ⟨h1, h2⟩ | ⟨B, p, h1, h2, h3, h4⟩
      · refine ⟨k, .inr ⟨k, q, rfl, by omega, hm, fun j q' hj hq => ?_⟩⟩
        rcases hk j hj with h | rfl
        · rw [h2 j h] at hq; cases hq
        · rw [hm] at hq; rw [ltL_iff]; simp only [Option.some.injEq] at hq ⊢; omega
      · by_cases hqp : q < p
        · refine ⟨k, .inr ⟨k, q, rfl, by omega, hm, fun j q' hj hq => ?_⟩⟩
          rcases hk j hj with h | rfl
          · have := h4 j q' h hq
            rw [ltL_iff] at this ⊢
            simp only at this ⊢
            omega
          · rw [hm] at hq; rw [ltL_iff]; simp only [Option.some.injEq] at hq ⊢; omega
        · refine ⟨B, .inr ⟨B, p, rfl, by omega, h3, fun j q' hj hq => ?_⟩⟩
          rcases hk j hj with h | rfl
          · exact h4 j q' h hq
          · rw [hm] at hq; rw [ltL_iff]; simp only [Option.some.injEq] at hq ⊢; omega
theorem pk_ex (n : Nat) (M : Nat → Option Int) (ho : ∀ m, n ≤ m → M m = none) : ∃ a p ok, PK n M a p ok := by
  obtain ⟨best, h⟩ := best_ex M n
  have hl : ∀ j, j < n ∨ n ≤ j := fun j => by omega
  rcases h with ⟨_, h2⟩ | ⟨B, p, _, h2, h3, h4⟩
  · exact ⟨0, 0, false, .inl ⟨rfl, rfl, rfl, fun j => (hl j).elim (h2 j) (ho j)⟩⟩
  · exact ⟨B, p, true, .inr ⟨rfl, B, rfl, h2, h3, fun j q hq => (hl j).elim (fun h => h4 j q h hq) (fun h => by rw [ho j h] at hq; cases hq)⟩⟩
theorem cnt_in {β : Type} {M : Nat → Option β} {n i : Nat} {x : β} (hi : i < n) (h : M i = none) : cnt (upd M i (some x)) n = cnt M n + 1 := by
  rw [cnt_out hi (upd_same M i (some x)), cnt_congr (M := upd (upd M i (some x)) i none) (M' := M) (fun m _ => by
    by_cases e : m = i
    · subst e; rw [upd_same, h]
    · rw [upd_ne _ _ _ e, upd_ne _ _ _ e])]
theorem cnt_chg {β : Type} {M : Nat → Option β} {n i : Nat} {x y : β} (hi : i < n) (h : M i = some y) : cnt (upd M i (some x)) n = cnt M n := by
  rw [cnt_out hi (upd_same M i (some x)), cnt_out hi h, cnt_congr (M := upd (upd M i (some x)) i none) (M' := upd M i none) (fun m _ => by
    by_cases e : m = i
    · subst e; rw [upd_same, upd_same]
    · rw [upd_ne _ _ _ e, upd_ne _ _ _ e, upd_ne _ _ _ e])]
theorem isSome_ex {o : Option Int} (h : o.isSome = true) : ∃ p, o = some p := Option.isSome_iff_exists.1 h
theorem isSome_no {o : Option Int} (h : ¬ o.isSome = true) : o = none := by cases o; rfl; exact absurd rfl h

/-! ### Both in memory -/
/-- The queue holds M, the reference's N; they write the blocks W alone; or there is neither. -/
def BX (w0 w : World) (pq pr : Option Addr) (z : Bool) (n : Nat) (M N : Nat → Option Int) (W : Nat → Prop) : Prop :=
  (z = true ∧ ∃ b S b' gi ci gp cp P, pq = some ⟨b, 0, none⟩ ∧ pr = some ⟨b', 0, none⟩ ∧ QRL w b n (cnt M n) M S ∧ RQ w b' n gi ci gp cp N P ∧ (∀ k, S k → k ≠ b' ∧ k ≠ gi ∧ k ≠ gp) ∧ (∀ k, W k ↔ (S k ∨ k = gi ∨ k = gp)) ∧ (∀ k, W k → w0.heap.size ≤ k)) ∨
  (z = false ∧ pq = none ∧ pr = none ∧ M = (fun _ => none) ∧ N = (fun _ => none) ∧ ∀ k, ¬ W k)
section
variable {w0 w w' : World} {pq pr : Option Addr} {z : Bool} {n : Nat} {M N : Nat → Option Int} {W : Nat → Prop}
theorem BX.out (h : BX w0 w pq pr z n M N W) : ∀ m, n ≤ m → M m = none := by
  rcases h with ⟨_, b, S, b', gi, ci, gp, cp, P, _, _, hq, _⟩ | ⟨_, _, _, rfl, _⟩
  · exact hq.2.2.1
  · exact fun _ _ => rfl
theorem BX.gr (h : BX w0 w pq pr z n M N W) (g : Gr w w') : BX w0 w' pq pr z n M N W := by
  rcases h with ⟨e, b, S, b', gi, ci, gp, cp, P, e1, e2, hq, hr, h1⟩ | h
  · exact .inl ⟨e, b, S, b', gi, ci, gp, cp, P, e1, e2, hq.gr g, hr.gr g, h1⟩
  · exact .inr h
theorem BX.lt (h : BX w0 w pq pr z n M N W) : ∀ k, W k → k < w.heap.size := by
  rcases h with ⟨e, b, S, b', gi, ci, gp, cp, P, e1, e2, hq, hr, h1, h2, h3⟩ | h
  · intro k hk
    rcases (h2 k).1 hk with h | rfl | rfl
    · exact hq.sub k h
    · exact hr.ri.lt
    · exact hr.rp.lt
  · exact fun k hk => absurd hk (h.2.2.2.2.2 k)
/-- What turns other blocks leaves them. -/
theorem BX.mdh {F : Nat → Prop} (h : BX w0 w pq pr z n M N W) (m : Mdh F w w') (hF : ∀ k, F k → w.heap.size ≤ k) : BX w0 w' pq pr z n M N W := by
  rcases h with ⟨e, b, S, b', gi, ci, gp, cp, P, e1, e2, hq, hr, h1⟩ | h
  · refine .inl ⟨e, b, S, b', gi, ci, gp, cp, P, e1, e2, hq.mdh m (fun k hk hf => by have := hF k hf; have := hq.sub k hk; omega), hr.mdh m (fun k hk hf => ?_), h1⟩
    have h2 := hF k hf
    rcases hk with rfl | rfl | rfl
    · have := blkLt hr.blk; omega
    · have := hr.ri.lt; omega
    · have := hr.rp.lt; omega
  · exact .inr h
/-- Behind a call on the queue. -/
theorem BX.callQ {b b' gi ci gp cp : Nat} {S S' : Nat → Prop} {P : Nat → Int} {M' : Nat → Option Int} (hr : RQ w b' n gi ci gp cp N P) (h1 : ∀ k, S k → k ≠ b' ∧ k ≠ gi ∧ k ≠ gp) (h2 : ∀ k, W k ↔ (S k ∨ k = gi ∨ k = gp)) (h3 : ∀ k, W k → w0.heap.size ≤ k) (hw : w0.heap.size ≤ w.heap.size)
    (hq' : QRL w' b n (cnt M' n) M' S') (m : Mdh S w w') (hs : ∀ k, S' k → S k ∨ w.heap.size ≤ k) :
    ∃ W', BX w0 w' (some ⟨b, 0, none⟩) (some ⟨b', 0, none⟩) true n M' N W' ∧ Mdh W w w' ∧ (∀ k, W' k → W k ∨ w.heap.size ≤ k) := by
  have l1 := blkLt hr.blk
  have l2 := hr.ri.lt
  have l3 := hr.rp.lt
  refine ⟨fun k => S' k ∨ k = gi ∨ k = gp, .inl ⟨rfl, b, S', b', gi, ci, gp, cp, P, rfl, rfl, hq', hr.mdh m (fun k hk hS => ?_), fun k hk => ?_, fun k => Iff.rfl, fun k hk => ?_⟩, m.mono (fun k hk => (h2 k).2 (.inl hk)), fun k hk => ?_⟩
  · obtain ⟨a1, a2, a3⟩ := h1 k hS
    rcases hk with rfl | rfl | rfl
    · exact a1 rfl
    · exact a2 rfl
    · exact a3 rfl
  · rcases hs k hk with h | h
    · exact h1 k h
    · exact ⟨by omega, by omega, by omega⟩
  · rcases hk with hk | hk
    · rcases hs k hk with h | h
      · exact h3 k ((h2 k).2 (.inl h))
      · omega
    · exact h3 k ((h2 k).2 (.inr hk))
  · rcases hk with hk | hk
    · exact (hs k hk).imp (fun h => (h2 k).2 (.inl h)) id
    · exact .inl ((h2 k).2 (.inr hk))
/-- Behind a call on the reference's. -/
theorem BX.callR {b b' gi ci gp cp : Nat} {S : Nat → Prop} {N' : Nat → Option Int} (hq : QRL w b n (cnt M n) M S) (h1 : ∀ k, S k → k ≠ b' ∧ k ≠ gi ∧ k ≠ gp) (h2 : ∀ k, W k ↔ (S k ∨ k = gi ∨ k = gp)) (h3 : ∀ k, W k → w0.heap.size ≤ k)
    (hp : RQPost b' n gi ci gp cp N' w w') : BX w0 w' (some ⟨b, 0, none⟩) (some ⟨b', 0, none⟩) true n M N' W ∧ Mdh W w w' := by
  obtain ⟨⟨P', hr'⟩, m⟩ := hp
  exact ⟨.inl ⟨rfl, b, S, b', gi, ci, gp, cp, P', rfl, rfl, hq.mdh m (fun k hk hF => by obtain ⟨_, a2, a3⟩ := h1 k hk; exact hF.elim a2 a3), hr', h1, h2, h3⟩, m.mono (fun k hk => (h2 k).2 (.inr hk))⟩
end

def QPost (w0 : World) (pq pr : Option Addr) (z : Bool) (n : Nat) (M' N : Nat → Option Int) (W : Nat → Prop) (w w' : World) : Prop := ∃ W', BX w0 w' pq pr z n M' N W' ∧ Mdh W w w' ∧ (∀ k, W' k → W k ∨ w.heap.size ≤ k)
def RPost (w0 : World) (pq pr : Option Addr) (z : Bool) (n : Nat) (M N' : Nat → Option Int) (W : Nat → Prop) (w w' : World) : Prop := BX w0 w' pq pr z n M N' W ∧ Mdh W w w'
theorem badQ (w : World) : BadQ w none := .inl rfl
section
variable (w0 w : World) (pq pr : Option Addr) (z : Bool) (n : Nat) (M N : Nat → Option Int) (W : Nat → Prop) (hw : w0.heap.size ≤ w.heap.size)
theorem qsame (h : BX w0 w pq pr z n M N W) : QPost w0 pq pr z n M N W w w := ⟨W, h, Mdh.refl _ _, fun _ hk => .inl hk⟩
theorem rsame (h : BX w0 w pq pr z n M N W) : RPost w0 pq pr z n M N W w w := ⟨h, Mdh.refl _ _⟩
include hw
theorem pushQ (id p : Int) (h : BX w0 w pq pr z n M N W) : Calls Try.prog 32 #[.pointer pq, .int .i64 id, .int .i64 p] w fun e w' => e = .returned (.int .i64 (pushC z n M id)) ∧ QPost w0 pq pr z n (pushM z n M id p) N W w w' := by
  have h0 := h
  rcases h with ⟨rfl, b, S, b', gi, ci, gp, cp, P, rfl, rfl, hq, hr, h1, h2, h3⟩ | ⟨rfl, rfl, rfl, rfl, rfl, _⟩
  · by_cases ho : 0 ≤ id ∧ id < n
    · obtain ⟨i, rfl⟩ := Int.eq_ofNat_of_zero_le ho.1
      by_cases hs : (M i).isSome = true
      · obtain ⟨u, hu⟩ := isSome_ex hs
        refine (Push_haveL b n _ M S i _ w hq (by omega) (by rw [hu]; simp)).mono ?_
        rintro e w' ⟨rfl, rfl⟩
        simp only [pushC, pushM, ho, Int.toNat_natCast, hs]
        exact ⟨by simp, qsame _ _ _ _ _ _ _ _ _ (by simpa using h0)⟩
      · have hno := isSome_no hs
        refine (Push_okL b n _ M S i p w hq (by omega) hno).mono ?_
        rintro e w' ⟨rfl, S', hq', m, hS'⟩
        simp only [pushC, pushM, ho, Int.toNat_natCast, hno]
        refine ⟨by simp, ?_⟩
        exact BX.callQ hr h1 h2 h3 hw (by rw [if_pos (by simp), cnt_in (by omega) hno]; exact hq') m hS'
    · refine (Push_badL b n _ M S id _ w hq (by omega)).mono ?_
      rintro e w' ⟨rfl, rfl⟩
      simp only [pushC, pushM, ho]
      exact ⟨by simp, qsame _ _ _ _ _ _ _ _ _ (by simpa using h0)⟩
  · refine (PushX none id _ w (badQ w)).mono ?_
    rintro e w' ⟨rfl, rfl⟩
    exact ⟨by simp [pushC], qsame _ _ _ _ _ _ _ _ _ (by simpa [pushM] using h0)⟩
theorem chgQ (id p : Int) (h : BX w0 w pq pr z n M N W) : Calls Try.prog 34 #[.pointer pq, .int .i64 id, .int .i64 p] w fun e w' => e = .returned (.int .i64 (chgC z n M id)) ∧ QPost w0 pq pr z n (chgM z n M id p) N W w w' := by
  have h0 := h
  rcases h with ⟨rfl, b, S, b', gi, ci, gp, cp, P, rfl, rfl, hq, hr, h1, h2, h3⟩ | ⟨rfl, rfl, rfl, rfl, rfl, _⟩
  · by_cases ho : 0 ≤ id ∧ id < n
    · obtain ⟨i, rfl⟩ := Int.eq_ofNat_of_zero_le ho.1
      by_cases hs : (M i).isSome = true
      · obtain ⟨u, hu⟩ := isSome_ex hs
        refine (Change_okL b n _ M S i p w hq (by omega) (by rw [hu]; simp)).mono ?_
        rintro e w' ⟨rfl, hq', m⟩
        simp only [chgC, chgM, ho, Int.toNat_natCast, hs]
        refine ⟨by simp, ?_⟩
        exact BX.callQ hr h1 h2 h3 hw (by rw [if_pos (by simp), cnt_chg (by omega) hu]; exact hq') m (fun k hk => .inl hk)
      · have hno := isSome_no hs
        refine (Change_noneL b n _ M S i _ w hq (by omega) hno).mono ?_
        rintro e w' ⟨rfl, rfl⟩
        simp only [chgC, chgM, ho, Int.toNat_natCast, hno]
        exact ⟨by simp, qsame _ _ _ _ _ _ _ _ _ (by simpa using h0)⟩
    · refine (Change_badL b n _ M S id _ w hq (by omega)).mono ?_
      rintro e w' ⟨rfl, rfl⟩
      simp only [chgC, chgM, ho]
      exact ⟨by simp, qsame _ _ _ _ _ _ _ _ _ (by simpa using h0)⟩
  · refine (ChangeX none id _ w (badQ w)).mono ?_
    rintro e w' ⟨rfl, rfl⟩
    exact ⟨by simp [chgC], qsame _ _ _ _ _ _ _ _ _ (by simpa [chgM] using h0)⟩
theorem remQ (id : Int) (h : BX w0 w pq pr z n M N W) : Calls Try.prog 36 #[.pointer pq, .int .i64 id] w fun e w' => e = .returned (prT (prV z n M id)) ∧ QPost w0 pq pr z n (remM z n M id) N W w w' := by
  have h0 := h
  rcases h with ⟨rfl, b, S, b', gi, ci, gp, cp, P, rfl, rfl, hq, hr, h1, h2, h3⟩ | ⟨rfl, rfl, rfl, rfl, rfl, _⟩
  · by_cases ho : 0 ≤ id ∧ id < n
    · obtain ⟨i, rfl⟩ := Int.eq_ofNat_of_zero_le ho.1
      by_cases hs : (M i).isSome = true
      · obtain ⟨u, hu⟩ := isSome_ex hs
        refine (Remove_okL b n _ M S i u w hq (by omega) hu).mono ?_
        rintro e w' ⟨rfl, hq', m⟩
        simp only [prV, prT, remM, ho, Int.toNat_natCast, hu]
        refine ⟨by simp, ?_⟩
        have hc := cnt_out (n := n) (by omega : i < n) hu
        exact BX.callQ hr h1 h2 h3 hw (by simp only [Option.isSome_some, and_self, if_true]; rw [show cnt (upd M i none) n = cnt M n - 1 by omega]; simpa using hq') m (fun k hk => .inl hk)
      · have hno := isSome_no hs
        refine (Remove_noneL b n _ M S i w hq (by omega) hno).mono ?_
        rintro e w' ⟨rfl, rfl⟩
        simp only [prV, prT, remM, ho, Int.toNat_natCast, hno]
        exact ⟨by simp, qsame _ _ _ _ _ _ _ _ _ (by simpa using h0)⟩
    · refine (Remove_badL b n _ M S id w hq (by omega)).mono ?_
      rintro e w' ⟨rfl, rfl⟩
      simp only [prV, prT, remM, ho]
      exact ⟨by simp, qsame _ _ _ _ _ _ _ _ _ (by simpa using h0)⟩
  · refine (RemoveX none id w (badQ w)).mono ?_
    rintro e w' ⟨rfl, rfl⟩
    exact ⟨by simp [prV, prT], qsame _ _ _ _ _ _ _ _ _ (by simpa [remM] using h0)⟩
theorem popQ (a p : Int) (ok : Bool) (hk : PK n M a p ok) (h : BX w0 w pq pr z n M N W) : Calls Try.prog 38 #[.pointer pq] w fun e w' => e = .returned (.tuple #[.int .i64 a, .int .i64 p, .bool ok]) ∧ QPost w0 pq pr z n (popM M a ok) N W w w' := by
  have h0 := h
  rcases h with ⟨rfl, b, S, b', gi, ci, gp, cp, P, rfl, rfl, hq, hr, h1, h2, h3⟩ | ⟨rfl, rfl, rfl, rfl, rfl, _⟩
  · rcases hk with ⟨rfl, rfl, rfl, hno⟩ | ⟨rfl, i, rfl, hi, hmin⟩
    · have hq0 := hq
      rw [cnt_none (fun m _ => hno m)] at hq0
      refine (Pop_noneL b n M S w hq0).mono ?_
      rintro e w' ⟨rfl, rfl⟩
      exact ⟨rfl, qsame _ _ _ _ _ _ _ _ _ (by simpa [popM] using h0)⟩
    · have hc := cnt_out (n := n) hi hmin.1
      refine (Pop_someL b n _ M S w hq (by omega)).mono ?_
      rintro e w' ⟨j, q, rfl, hj, hmin', hq', m⟩
      obtain ⟨rfl, rfl⟩ := hmin'.uniq hmin
      refine ⟨rfl, ?_⟩
      simp only [popM, if_true, Int.toNat_natCast]
      exact BX.callQ hr h1 h2 h3 hw (by rw [show cnt (upd M j none) n = cnt M n - 1 by omega]; exact hq') m (fun k hk => .inl hk)
  · rcases hk with ⟨rfl, rfl, rfl, _⟩ | ⟨_, i, _, _, hmin⟩
    · refine (PopX none w (badQ w)).mono ?_
      rintro e w' ⟨rfl, rfl⟩
      exact ⟨rfl, qsame _ _ _ _ _ _ _ _ _ (by simpa [popM] using h0)⟩
    · cases hmin.1
omit hw
theorem peekQ (a p : Int) (ok : Bool) (hk : PK n M a p ok) (h : BX w0 w pq pr z n M N W) : Calls Try.prog 47 #[.pointer pq] w fun e w' => e = .returned (.tuple #[.int .i64 a, .int .i64 p, .bool ok]) ∧ Gr w w' := by
  rcases h with ⟨rfl, b, S, b', gi, ci, gp, cp, P, rfl, rfl, hq, hr, h1, h2, h3⟩ | ⟨rfl, rfl, rfl, rfl, rfl, _⟩
  · rcases hk with ⟨rfl, rfl, rfl, hno⟩ | ⟨rfl, i, rfl, hi, hmin⟩
    · rw [cnt_none (fun m _ => hno m)] at hq
      refine (Peek_noneL b n M S w hq).mono ?_
      rintro e w' ⟨rfl, rfl⟩
      exact ⟨rfl, Gr.refl _⟩
    · have hc := cnt_out (n := n) hi hmin.1
      refine (Peek_someL b n _ M S w hq (by omega)).mono ?_
      rintro e w' ⟨j, q, rfl, hj, hmin', hg⟩
      obtain ⟨rfl, rfl⟩ := hmin'.uniq hmin
      exact ⟨rfl, hg⟩
  · rcases hk with ⟨rfl, rfl, rfl, _⟩ | ⟨_, i, _, _, hmin⟩
    · refine (PeekX none w (badQ w)).mono ?_
      rintro e w' ⟨rfl, rfl⟩
      exact ⟨rfl, Gr.refl _⟩
    · cases hmin.1
theorem prQ (id : Int) (h : BX w0 w pq pr z n M N W) : Calls Try.prog 46 #[.pointer pq, .int .i64 id] w fun e w' => e = .returned (prT (prV z n M id)) ∧ Gr w w' := by
  rcases h with ⟨rfl, b, S, b', gi, ci, gp, cp, P, rfl, rfl, hq, hr, h1, h2, h3⟩ | ⟨rfl, rfl, rfl, rfl, rfl, _⟩
  · by_cases ho : 0 ≤ id ∧ id < n
    · obtain ⟨i, rfl⟩ := Int.eq_ofNat_of_zero_le ho.1
      by_cases hs : (M i).isSome = true
      · obtain ⟨u, hu⟩ := isSome_ex hs
        refine (Priority_someL b n _ M S i u w hq (by omega) hu).mono ?_
        rintro e w' ⟨rfl, hg⟩
        simp only [prV, prT, ho, Int.toNat_natCast, hu]
        exact ⟨by simp, hg⟩
      · have hno := isSome_no hs
        refine (Priority_noneL b n _ M S i w hq (by omega) hno).mono ?_
        rintro e w' ⟨rfl, rfl⟩
        simp only [prV, prT, ho, Int.toNat_natCast, hno]
        exact ⟨by simp, Gr.refl _⟩
    · refine (Priority_badL b n _ M S id w hq (by omega)).mono ?_
      rintro e w' ⟨rfl, rfl⟩
      simp only [prV, prT, ho]
      exact ⟨by simp, Gr.refl _⟩
  · refine (PriorityX none id w (badQ w)).mono ?_
    rintro e w' ⟨rfl, rfl⟩
    exact ⟨by simp [prV, prT], Gr.refl _⟩
theorem lenQ (h : BX w0 w pq pr z n M N W) : Calls Try.prog 48 #[.pointer pq] w fun e w' => e = .returned (.int .i64 (cnt M n : Nat)) ∧ w = w' := by
  rcases h with ⟨rfl, b, S, b', gi, ci, gp, cp, P, rfl, rfl, hq, hr, h1, h2, h3⟩ | ⟨rfl, rfl, rfl, rfl, rfl, _⟩
  · exact LenL b n _ M S w hq
  · rw [cnt_none (fun _ _ => rfl)]
    exact LenX none w (badQ w)
theorem pushR (id p : Int) (h : BX w0 w pq pr z n M N W) : Calls Try.prog 33 #[.pointer pr, .int .i64 id, .int .i64 p] w fun e w' => e = .returned (.int .i64 (pushC z n N id)) ∧ RPost w0 pq pr z n M (pushM z n N id p) W w w' := by
  have h0 := h
  rcases h with ⟨rfl, b, S, b', gi, ci, gp, cp, P, rfl, rfl, hq, hr, h1, h2, h3⟩ | ⟨rfl, rfl, rfl, rfl, rfl, _⟩
  · by_cases ho : 0 ≤ id ∧ id < n
    · obtain ⟨i, rfl⟩ := Int.eq_ofNat_of_zero_le ho.1
      by_cases hs : (N i).isSome = true
      · obtain ⟨u, hu⟩ := isSome_ex hs
        refine (Push_haveR b' n gi ci gp cp N P w hr i p (by omega) (by rw [hu]; simp)).mono ?_
        rintro e w' ⟨rfl, rfl⟩
        simp only [pushC, pushM, ho, Int.toNat_natCast, hs]
        exact ⟨by simp, rsame _ _ _ _ _ _ _ _ _ (by simpa using h0)⟩
      · have hno := isSome_no hs
        refine (Push_okR b' n gi ci gp cp N P w hr i p (by omega) hno).mono ?_
        rintro e w' ⟨rfl, hp⟩
        simp only [pushC, pushM, ho, Int.toNat_natCast, hno]
        exact ⟨by simp, BX.callR hq h1 h2 h3 (by simpa using hp)⟩
    · refine (Push_badR b' n gi ci gp cp N P w hr id p (by omega)).mono ?_
      rintro e w' ⟨rfl, rfl⟩
      simp only [pushC, pushM, ho]
      exact ⟨by simp, rsame _ _ _ _ _ _ _ _ _ (by simpa using h0)⟩
  · refine (PushN id p w).mono ?_
    rintro e w' ⟨rfl, rfl⟩
    exact ⟨by simp [pushC], rsame _ _ _ _ _ _ _ _ _ (by simpa [pushM] using h0)⟩
theorem chgR (id p : Int) (h : BX w0 w pq pr z n M N W) : Calls Try.prog 35 #[.pointer pr, .int .i64 id, .int .i64 p] w fun e w' => e = .returned (.int .i64 (chgC z n N id)) ∧ RPost w0 pq pr z n M (chgM z n N id p) W w w' := by
  have h0 := h
  rcases h with ⟨rfl, b, S, b', gi, ci, gp, cp, P, rfl, rfl, hq, hr, h1, h2, h3⟩ | ⟨rfl, rfl, rfl, rfl, rfl, _⟩
  · by_cases ho : 0 ≤ id ∧ id < n
    · obtain ⟨i, rfl⟩ := Int.eq_ofNat_of_zero_le ho.1
      by_cases hs : (N i).isSome = true
      · obtain ⟨u, hu⟩ := isSome_ex hs
        refine (Change_okR b' n gi ci gp cp N P w hr i p (by omega) (by rw [hu]; simp)).mono ?_
        rintro e w' ⟨rfl, hp⟩
        simp only [chgC, chgM, ho, Int.toNat_natCast, hs]
        exact ⟨by simp, BX.callR hq h1 h2 h3 (by simpa using hp)⟩
      · have hno := isSome_no hs
        refine (Change_noneR b' n gi ci gp cp N P w hr i p (by omega) hno).mono ?_
        rintro e w' ⟨rfl, rfl⟩
        simp only [chgC, chgM, ho, Int.toNat_natCast, hno]
        exact ⟨by simp, rsame _ _ _ _ _ _ _ _ _ (by simpa using h0)⟩
    · refine (Change_badR b' n gi ci gp cp N P w hr id p (by omega)).mono ?_
      rintro e w' ⟨rfl, rfl⟩
      simp only [chgC, chgM, ho]
      exact ⟨by simp, rsame _ _ _ _ _ _ _ _ _ (by simpa using h0)⟩
  · refine (ChangeN id p w).mono ?_
    rintro e w' ⟨rfl, rfl⟩
    exact ⟨by simp [chgC], rsame _ _ _ _ _ _ _ _ _ (by simpa [chgM] using h0)⟩
theorem remR (id : Int) (h : BX w0 w pq pr z n M N W) : Calls Try.prog 37 #[.pointer pr, .int .i64 id] w fun e w' => e = .returned (prT (prV z n N id)) ∧ RPost w0 pq pr z n M (remM z n N id) W w w' := by
  have h0 := h
  rcases h with ⟨rfl, b, S, b', gi, ci, gp, cp, P, rfl, rfl, hq, hr, h1, h2, h3⟩ | ⟨rfl, rfl, rfl, rfl, rfl, _⟩
  · by_cases ho : 0 ≤ id ∧ id < n
    · obtain ⟨i, rfl⟩ := Int.eq_ofNat_of_zero_le ho.1
      by_cases hs : (N i).isSome = true
      · obtain ⟨u, hu⟩ := isSome_ex hs
        refine (Remove_okR b' n gi ci gp cp N P w hr i u (by omega) hu).mono ?_
        rintro e w' ⟨rfl, hp⟩
        simp only [prV, prT, remM, ho, Int.toNat_natCast, hu]
        exact ⟨by simp, BX.callR hq h1 h2 h3 (by simpa using hp)⟩
      · have hno := isSome_no hs
        refine (Remove_noneR b' n gi ci gp cp N P w hr i (by omega) hno).mono ?_
        rintro e w' ⟨rfl, rfl⟩
        simp only [prV, prT, remM, ho, Int.toNat_natCast, hno]
        exact ⟨by simp, rsame _ _ _ _ _ _ _ _ _ (by simpa using h0)⟩
    · refine (Remove_badR b' n gi ci gp cp N P w hr id (by omega)).mono ?_
      rintro e w' ⟨rfl, rfl⟩
      simp only [prV, prT, remM, ho]
      exact ⟨by simp, rsame _ _ _ _ _ _ _ _ _ (by simpa using h0)⟩
  · refine (RemoveN id w).mono ?_
    rintro e w' ⟨rfl, rfl⟩
    exact ⟨by simp [prV, prT], rsame _ _ _ _ _ _ _ _ _ (by simpa [remM] using h0)⟩
theorem popR (a p : Int) (ok : Bool) (hk : PK n N a p ok) (h : BX w0 w pq pr z n M N W) : Calls Try.prog 39 #[.pointer pr] w fun e w' => e = .returned (.tuple #[.int .i64 a, .int .i64 p, .bool ok]) ∧ RPost w0 pq pr z n M (popM N a ok) W w w' := by
  have h0 := h
  rcases h with ⟨rfl, b, S, b', gi, ci, gp, cp, P, rfl, rfl, hq, hr, h1, h2, h3⟩ | ⟨rfl, rfl, rfl, rfl, rfl, _⟩
  · refine (PopR b' n gi ci gp cp N P w hr).mono ?_
    rintro e w' (⟨rfl, hno, hp⟩ | ⟨j, q, rfl, hj, hmin', hp⟩)
    · rcases hk with ⟨rfl, rfl, rfl, _⟩ | ⟨rfl, i, rfl, hi, hmin⟩
      · exact ⟨rfl, BX.callR hq h1 h2 h3 (by simpa [popM] using hp)⟩
      · have h5 := hmin.1; rw [hno i] at h5; cases h5
    · rcases hk with ⟨rfl, rfl, rfl, hno⟩ | ⟨rfl, i, rfl, hi, hmin⟩
      · have h5 := hmin'.1; rw [hno j] at h5; cases h5
      · obtain ⟨rfl, rfl⟩ := hmin'.uniq hmin
        exact ⟨rfl, BX.callR hq h1 h2 h3 (by simpa [popM] using hp)⟩
  · rcases hk with ⟨rfl, rfl, rfl, _⟩ | ⟨_, i, _, _, hmin⟩
    · refine (PopN w).mono ?_
      rintro e w' ⟨rfl, rfl⟩
      exact ⟨rfl, rsame _ _ _ _ _ _ _ _ _ (by simpa [popM] using h0)⟩
    · cases hmin.1
theorem peekR (a p : Int) (ok : Bool) (hk : PK n N a p ok) (h : BX w0 w pq pr z n M N W) : Calls Try.prog 75 #[.pointer pr] w fun e w' => e = .returned (.tuple #[.int .i64 a, .int .i64 p, .bool ok]) ∧ Gr w w' := by
  rcases h with ⟨rfl, b, S, b', gi, ci, gp, cp, P, rfl, rfl, hq, hr, h1, h2, h3⟩ | ⟨rfl, rfl, rfl, rfl, rfl, _⟩
  · refine (PeekR b' n gi ci gp cp N P w hr).mono ?_
    rintro e w' ⟨⟨rfl, hno⟩ | ⟨j, q, rfl, hj, hmin'⟩, hg⟩
    · rcases hk with ⟨rfl, rfl, rfl, _⟩ | ⟨rfl, i, rfl, hi, hmin⟩
      · exact ⟨rfl, hg⟩
      · have h5 := hmin.1; rw [hno i] at h5; cases h5
    · rcases hk with ⟨rfl, rfl, rfl, hno⟩ | ⟨rfl, i, rfl, hi, hmin⟩
      · have h5 := hmin'.1; rw [hno j] at h5; cases h5
      · obtain ⟨rfl, rfl⟩ := hmin'.uniq hmin
        exact ⟨rfl, hg⟩
  · rcases hk with ⟨rfl, rfl, rfl, _⟩ | ⟨_, i, _, _, hmin⟩
    · refine (PeekN w).mono ?_
      rintro e w' ⟨rfl, rfl⟩
      exact ⟨rfl, Gr.refl _⟩
    · cases hmin.1
theorem prR (id : Int) (h : BX w0 w pq pr z n M N W) : Calls Try.prog 74 #[.pointer pr, .int .i64 id] w fun e w' => e = .returned (prT (prV z n N id)) ∧ w = w' := by
  rcases h with ⟨rfl, b, S, b', gi, ci, gp, cp, P, rfl, rfl, hq, hr, h1, h2, h3⟩ | ⟨rfl, rfl, rfl, rfl, rfl, _⟩
  · by_cases ho : 0 ≤ id ∧ id < n
    · obtain ⟨i, rfl⟩ := Int.eq_ofNat_of_zero_le ho.1
      by_cases hs : (N i).isSome = true
      · obtain ⟨u, hu⟩ := isSome_ex hs
        refine (Priority_someR b' n gi ci gp cp N P w hr i u (by omega) hu).mono ?_
        rintro e w' ⟨rfl, rfl⟩
        simp only [prV, prT, ho, Int.toNat_natCast, hu]
        exact ⟨by simp, by trivial⟩
      · have hno := isSome_no hs
        refine (Priority_noneR b' n gi ci gp cp N P w hr i (by omega) hno).mono ?_
        rintro e w' ⟨rfl, rfl⟩
        simp only [prV, prT, ho, Int.toNat_natCast, hno]
        exact ⟨by simp, by trivial⟩
    · refine (Priority_badR b' n gi ci gp cp N P w hr id (by omega)).mono ?_
      rintro e w' ⟨rfl, rfl⟩
      simp only [prV, prT, ho]
      exact ⟨by simp, by trivial⟩
  · refine (PriorityN id w).mono ?_
    rintro e w' ⟨rfl, rfl⟩
    exact ⟨by simp [prV, prT], rfl⟩
theorem lenR (h : BX w0 w pq pr z n M N W) : Calls Try.prog 79 #[.pointer pr] w fun e w' => e = .returned (.int .i64 (cnt N n : Nat)) ∧ w = w' := by
  rcases h with ⟨rfl, b, S, b', gi, ci, gp, cp, P, rfl, rfl, hq, hr, h1, h2, h3⟩ | ⟨rfl, rfl, rfl, rfl, rfl, _⟩
  · exact LenR b' n gi ci gp cp N P w hr
  · rw [cnt_none (fun _ _ => rfl)]
    exact LenN w

/-- A copy of the queue alone. -/
def CH (w w1 : World) (pq' : Option Addr) (z : Bool) (n : Nat) (M : Nat → Option Int) : Prop :=
  (z = true ∧ ∃ b S, pq' = some ⟨b, 0, none⟩ ∧ QRL w1 b n (cnt M n) M S ∧ ∀ k, S k → w.heap.size ≤ k) ∨ (z = false ∧ pq' = none)
theorem copyQ (h : BX w0 w pq pr z n M N W) : Calls Try.prog 40 #[.pointer pq] w fun e w' => ∃ pq', e = .returned (.pointer pq') ∧ CH w w' pq' z n M ∧ Gr w w' := by
  rcases h with ⟨rfl, b, S, b', gi, ci, gp, cp, P, rfl, rfl, hq, hr, h1, h2, h3⟩ | ⟨rfl, rfl, rfl, rfl, rfl, _⟩
  · refine (CopyL b n _ M S w hq).mono ?_
    rintro e w' ⟨b1, S1, rfl, hq1, hS1, hg⟩
    exact ⟨_, rfl, .inl ⟨rfl, b1, S1, rfl, hq1, hS1⟩, hg⟩
  · refine (CopyX none w (badQ w)).mono ?_
    rintro e w' ⟨rfl, rfl⟩
    exact ⟨none, rfl, .inr ⟨rfl, rfl⟩, Gr.refl _⟩
theorem copyR (w1 : World) (pq' : Option Addr) (h : BX w0 w1 pq pr z n M M W) (hc : CH w w1 pq' z n M) (hw : w0.heap.size ≤ w.heap.size) (hw1 : w.heap.size ≤ w1.heap.size) :
    Calls Try.prog 41 #[.pointer pr] w1 fun e w' => ∃ pr' W', e = .returned (.pointer pr') ∧ BX w0 w' pq' pr' z n M M W' ∧ Gr w1 w' := by
  rcases h with ⟨rfl, b, S, b', gi, ci, gp, cp, P, rfl, rfl, hq, hr, h1, h2, h3⟩ | ⟨rfl, rfl, rfl, rfl, hN, hno⟩
  · rcases hc with ⟨_, b1, S1, rfl, hq1, hS1⟩ | ⟨h, _⟩
    · refine (CopyR b' n gi ci gp cp M P w1 hr).mono ?_
      rintro e w' ⟨b2, gi2, ci2, gp2, cp2, rfl, hr2, l1, l2, l3, hg⟩
      refine ⟨_, fun k => S1 k ∨ k = gi2 ∨ k = gp2, rfl, .inl ⟨rfl, b1, S1, b2, gi2, ci2, gp2, cp2, P, rfl, rfl, hq1.gr hg, hr2, fun k hk => ?_, fun k => Iff.rfl, fun k hk => ?_⟩, hg⟩
      · have := hq1.sub k hk
        exact ⟨by omega, by omega, by omega⟩
      · rcases hk with hk | rfl | rfl
        · exact Nat.le_trans hw (hS1 k hk)
        · omega
        · omega
    · cases h
  · rcases hc with ⟨h, _⟩ | ⟨_, rfl⟩
    · cases h
    · refine (CopyN w1).mono ?_
      rintro e w' ⟨rfl, rfl⟩
      exact ⟨none, W, rfl, .inr ⟨rfl, rfl, rfl, rfl, hN, hno⟩, Gr.refl _⟩

set_option maxRecDepth 40000 in
set_option maxHeartbeats 2000000 in
theorem alike_any (id : Int) (h : BX w0 w pq pr z n M M W) : Calls Try.prog 42 #[.pointer pq, .pointer pr, .int .i64 id] w fun e w' => e = .returned (.bool true) ∧ Gr w w' := by
  obtain ⟨a, p, ok, hk⟩ := pk_ex n M h.out
  have HK := Lib.hid hk
  have HB := Lib.hid h
  obtain ⟨x, hx⟩ : ∃ x, (prV z n M id).getD 0 = x := ⟨_, rfl⟩
  obtain ⟨y, hy⟩ : ∃ y, (prV z n M id).isSome = y := ⟨_, rfl⟩
  obtain ⟨c, hc⟩ : ∃ c : Nat, cnt M n = c := ⟨_, rfl⟩
  have F1 : Hid (prT (prV z n M id) = .tuple #[.int .i64 x, .bool y]) := Lib.hid (by rw [prT, hx, hy])
  have F2 := Lib.hid hc
  clear h hk hx hy hc
  have HG := Gr.refl w
  go_enter Try.func42, Try.ntmps42
  go_wp2_with (first
    | (go_at_call 47; refine (peekQ w0 _ pq pr z n M M W a p ok HK.out (HB.out.gr HG)).mono ?_; rintro e w1 ⟨rfl, hg1⟩; replace HG := HG.trans hg1; clear hg1)
    | (go_at_call 75; refine (peekR w0 _ pq pr z n M M W a p ok HK.out (HB.out.gr HG)).mono ?_; rintro e w1 ⟨rfl, hg1⟩; replace HG := HG.trans hg1; clear hg1)
    | (go_at_call 46; refine (prQ w0 _ pq pr z n M M W id (HB.out.gr HG)).mono ?_; rintro e w1 ⟨rfl, hg1⟩; rw [F1.out]; replace HG := HG.trans hg1; clear hg1)
    | (go_at_call 74; refine (prR w0 _ pq pr z n M M W id (HB.out.gr HG)).mono ?_; rintro e w1 ⟨rfl, rfl⟩; rw [F1.out])
    | (go_at_call 48; refine (lenQ w0 _ pq pr z n M M W (HB.out.gr HG)).mono ?_; rintro e w1 ⟨rfl, rfl⟩; rw [F2.out])
    | (go_at_call 79; refine (lenR w0 _ pq pr z n M M W (HB.out.gr HG)).mono ?_; rintro e w1 ⟨rfl, rfl⟩; rw [F2.out])
    | fail)
  go_ret
  exact ⟨rfl, HG⟩
end
end Go.Proofs.Ythialloenkbpnaa
