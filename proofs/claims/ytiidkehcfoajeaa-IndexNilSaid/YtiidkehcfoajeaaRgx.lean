/- A range over a function whose loop variable is laid in a box of its own. No program in sight. -/
import Derived.Test.YtiidkehcfoajeaaRgf
set_option linter.unusedVariables false
set_option linter.unusedSimpArgs false
namespace Go.Proofs.Ytiidkehcfoajeaa
open Go.RowKit
variable {F : Fence} {n : Nat} {P : Program}
theorem wp_rangeFunc_zx {α : Type} {id : Nat} {g : Operand} {ps : Array Tmp} {assign body : Code} {Q : Exit → Act → World → Prop} {a : Act} {w : World}
    {gf : Nat} {lb : Array Value} (hg : a.eval g = .func (.func gf) #[] lb) (eg : ∀ args w, (callFunc gf args).run P w = .ok (.enter gf args) w)
    {encs : α → Array Value} {A : Nat → Prop} {S Sp : List α → Prop} {w0 : World} (hseq : SeqZ Fence.wide 2 P gf lb encs A S Sp w0)
    (hw0 : Mdh (fun k => ¬ A k) w0 w) (hAlt : ∀ k, A k → k < w.heap.size) (hps : ∀ x, (encs x).size = ps.size)
    (I Ie Ir : (Nat → Prop) → List α → World → Prop) (hI : Apart I) (hIe : Apart Ie) (hIr : Apart Ir) (h0 : I (fun _ => False) [] w)
    (hF : ∀ Z pre W, I Z pre W → ∃ T, Frm w T Z W) (o : α → Obj) (a₁ : α → Nat → Act)
    (hassign : ∀ (l : Nat) (x : α) (bx : Nat) (W : World) (K : Act → World → Prop), bx = W.heap.size → K (a₁ x bx) (W.alloc (o x)) →
      assign.wpIn (Fence.wide.inRound l) 1 P (Exit.then K (fun _ _ _ => False)) { tmps := (ps.zip (encs x)).foldl (fun t (p, v) => t.setIfInBounds p v) a.tmps, defers := [] } W)
    (hbody : ∀ (l : Nat) (Z : Nat → Prop) (pre : List α) (x : α) (bx : Nat) (W : World), I Z pre W → w.heap.size ≤ bx → W.heap[bx]? = some (o x) → ¬ Z bx → Z l → (∃ r, W.heap[l]? = some (.loop r)) → Sp (pre ++ [x]) → body.wpIn (Fence.wide.inRound l) 1 P (zPost A Z I (jmp id Ie Ir) (pre ++ [x]) W) (a₁ x bx) W)
    (hend : ∀ (Z : Nat → Prop) (D : Nat) (xs : List α) (W : World), w.heap.size ≤ D → Z D → ((S xs ∧ I Z xs W) ∨ (Sp xs ∧ Ie Z xs W)) → W.heap[D]? = some (.deferred (some [])) → Q .normal { a with defers := { target := .collected D, args := #[] } :: a.defers } W)
    (hret : ∀ (Z : Nat → Prop) (D : Nat) (pre : List α) (W : World), w.heap.size ≤ D → Z D → Sp pre → Ir Z pre W → W.heap[D]? = some (.deferred (some [])) → Q .ret { a with defers := { target := .collected D, args := #[] } :: a.defers } W) :
    (Code.rangeFunc g ps assign body).wp P (Exit.inBlock id Q) a w := by
  refine wpIn_wide.1 (wpIn_rangeFunc_z (F := Fence.wide) (n := 3) rfl (by omega) hg trivial eg hseq hw0 hAlt hps I (jmp id Ie Ir) hI (jmp_apart hIe hIr) h0
    (fun x a' Z W => ∃ bx, a' = a₁ x bx ∧ w.heap.size ≤ bx ∧ W.heap[bx]? = some (o x) ∧ ¬ Z bx)
    (fun x a' Z Z' _ X Y hs hm hz => by
      obtain ⟨bx, e, h1, h2, h3⟩ := hs
      exact ⟨bx, e, h1, hm.blk h2 h3, fun h => (hz bx h).elim h3 (fun y => by have := blkLt h2; omega)⟩)
    (fun l Z pre x W K hi hK => hassign l x _ W K rfl (by
      obtain ⟨T, hT⟩ := hF Z pre W hi
      refine hK _ _ ((Mdh.refl _ W).alloc _) (hI Z Z pre W _ hi ((Mdh.refl _ W).alloc _) (fun k hk => .inl hk)) ⟨W.heap.size, rfl, hT.m.size, blkNew W _, fun h => by have := hT.t _ h; omega⟩))
    (fun l Z pre x a' W hl hr hi ha hlen => by
      obtain ⟨bx, rfl, h1, h2, h3⟩ := ha
      exact hbody l Z pre x bx W hi h1 h2 h3 hl hr hlen)
    (fun Z D xs W h1 h2 h3 h4 h5 => hend Z D xs W h1 h2 (.inl ⟨h3, h4⟩) h5) ?_)
  intro Z D c pre W h1 h2 h3 h4 h5
  refine wpIn_wide.2 ?_
  unfold jmp at h4
  split at h4
  · obtain ⟨rfl, h4⟩ := h4
    refine wp_exit ?_
    show (if _ then _ else _)
    rw [if_pos rfl]
    exact hend Z D pre W h1 h2 (.inr ⟨h3, h4⟩) h5
  · exact wp_ret (hret Z D pre W h1 h2 h3 h4 h5)
  · exact h4.elim
end Go.Proofs.Ytiidkehcfoajeaa
