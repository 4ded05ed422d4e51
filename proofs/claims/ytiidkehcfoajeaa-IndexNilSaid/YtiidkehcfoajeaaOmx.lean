/- What the iterators of all map types share. -/
import Derived.Test.YtiidkehcfoajeaaRgf
set_option linter.unusedVariables false
set_option linter.unusedSimpArgs false
namespace Go.Proofs.Ytiidkehcfoajeaa
open Go.RowKit

theorem room_none {F : Fence} (hd : F.depth = none) (k : Nat) : F.room k := fun d h => by rw [hd] at h; cases h
/-- Where no depth is asked the figures are all one. -/
theorem yield_any {m : Nat} (m' : Nat) {P : Program} {l : Nat} {args : Array Value} {W : World} {R : Ending → World → Prop} (h : YieldAt Fence.wide m P l args W R) : YieldAt Fence.wide m' P l args W R := by
  obtain ⟨fn, tmps, assign, body, hy, hR⟩ := h
  exact ⟨fn, tmps, assign, body, hy, hR.1, fun c cs _ => hR.2 c cs (room_none rfl _)⟩
def SinPost {α : Type} (D : List α) (J Jx : (Nat → Prop) → List α → World → Prop) (e : Ending) (W' : World) : Prop := (∃ u, e = .returned u) ∧ ((∃ Z xs, xs = D ∧ J Z xs W') ∨ (∃ Z pre, pre <+: D ∧ Jx Z pre W'))
/-- The blocks of a map. -/
def OMB (p : Option Addr) (v : Value) : Nat → Prop := fun k => (∃ a, p = some a ∧ k = a.block) ∨ v.ownBlock = some k
end Go.Proofs.Ytiidkehcfoajeaa
