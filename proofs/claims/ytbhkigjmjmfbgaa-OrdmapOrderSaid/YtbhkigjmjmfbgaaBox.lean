/- A row of the caller's own in a box, beside an iterator. -/
import Derived.Test.YtbhkigjmjmfbgaaApp
import Derived.Test.YtbhkigjmjmfbgaaRgf
set_option linter.unusedVariables false
set_option linter.unusedSimpArgs false
namespace Go.Proofs.Ytbhkigjmjmfbgaa
open Go.RowKit

/-- The block B holds the slice v; its row holds xs. None of them is Z's. -/
structure BoxRow (W : World) (Z : Nat → Prop) (B : Nat) (t e : TypeId) (v : Value) (xs : List Value) : Prop where
  box : W.heap[B]? = some (.cells #[v] t)
  nz : ¬ Z B
  own : Own W e 1 v xs.length xs
  rz : ∀ g, v.ownBlock = some g → ¬ Z g ∧ B < g
section
variable {W W' : World} {Z Z' : Nat → Prop} {B : Nat} {t e : TypeId} {v : Value} {xs : List Value}
theorem BoxRow.lt (h : BoxRow W Z B t e v xs) : B < W.heap.size := blkLt h.box
theorem BoxRow.cell (h : BoxRow W Z B t e v xs) : W.cell? ⟨B, 0, none⟩ = some v := by rw [(cellsOf h.box).1]; rfl
theorem BoxRow.fr (h : BoxRow W Z B t e v xs) (i : Nat) : W.frozen? ⟨B, i, none⟩ = false := (cellsOf h.box).2 i
/-- What turns other blocks leaves it. -/
theorem BoxRow.mdh {S : Nat → Prop} (h : BoxRow W Z B t e v xs) (m : Mdh S W W') (hB : ¬ S B) (hr : ∀ g, v.ownBlock = some g → ¬ S g) : BoxRow W' Z B t e v xs :=
  ⟨m.blk h.box hB, h.nz, h.own.mdh m hr, h.rz⟩
theorem BoxRow.z (h : BoxRow W Z B t e v xs) (m : Mdh Z W W') (hz : ∀ k, Z' k → Z k ∨ (W.heap.size ≤ k ∧ k < W'.heap.size)) : BoxRow W' Z' B t e v xs :=
  ⟨m.blk h.box h.nz, fun hk => (hz _ hk).elim h.nz (fun y => by have := h.lt; omega), h.own.mdh m (fun g hg => (h.rz g hg).1),
    fun g hg => ⟨fun hk => (hz _ hk).elim (h.rz g hg).1 (fun y => by have := h.own.lt hg; omega), (h.rz g hg).2⟩⟩
theorem BoxRow.apart {β : Type} (B : Nat) (t e : TypeId) (v : Value) (xs : β → List Value) : Apart (fun Z s W => BoxRow W Z B t e v (xs s)) := fun _ _ _ _ _ h hm hz => h.z hm hz
theorem BoxRow.at2 {W1 w2 : World} (h : BoxRow W Z B t e v xs) (g1 : Gr W W1) (hg : W1.grownBy w2 v.ownBlock) : w2.heap[B]? = some (.cells #[v] t) :=
  (hg.block B (by have := h.lt; have := g1.sz; omega) (fun e => by have := (h.rz B e.symm).2; omega)).trans (g1.blk h.box)
/-- Behind an append and the store of its slice. -/
theorem BoxRow.app {W1 w2 : World} {g cap : Nat} {x : Value} (h : BoxRow W Z B t e v xs) (hZ : ∀ k, Z k → k < W.heap.size) (g1 : Gr W W1)
    (hown : Own w2 e 1 (.slice (some ⟨g, 0, none⟩) (xs.length + 1) cap) (xs.length + 1) (xs ++ [x])) (hw : v.ownBlock = some g ∨ W1.heap.size ≤ g) (hg : W1.grownBy w2 v.ownBlock) :
    BoxRow (w2.setCell ⟨B, 0, none⟩ (.slice (some ⟨g, 0, none⟩) (xs.length + 1) cap)) Z B t e (.slice (some ⟨g, 0, none⟩) (xs.length + 1) cap) (xs ++ [x]) ∧
      Mdh (fun k => k = B ∨ v.ownBlock = some k) W (w2.setCell ⟨B, 0, none⟩ (.slice (some ⟨g, 0, none⟩) (xs.length + 1) cap)) := by
  have hBg : B < g := hw.elim (fun e => (h.rz g e).2) (fun y => by have := h.lt; have := g1.sz; omega)
  have hzg : ¬ Z g := hw.elim (fun e => (h.rz g e).1) (fun y hk => by have := hZ g hk; have := g1.sz; omega)
  have hb2 : w2.heap[B]? = some (.cells #[v] t) := (hg.block B (by have := h.lt; have := g1.sz; omega) (fun e => by have := (h.rz B e.symm).2; omega)).trans (g1.blk h.box)
  refine ⟨⟨?_, h.nz, ?_, fun k hk => ?_⟩, ?_⟩
  · have := blkSet (j := 0) (u := .slice (some ⟨g, 0, none⟩) (xs.length + 1) cap) hb2
    simpa using this
  · have := hown.other (p := ⟨B, 0, none⟩) (by simp [Value.ownBlock]; omega) (.slice (some ⟨g, 0, none⟩) (xs.length + 1) cap)
    simpa using this
  · simp [Value.ownBlock] at hk; subst hk; exact ⟨hzg, hBg⟩
  · exact ((((Mdh.refl _ W).gr g1).grown hg (fun r hr => .inr hr)).setCell (.inl rfl) _)
end
end Go.Proofs.Ytbhkigjmjmfbgaa
