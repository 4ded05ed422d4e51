/- Things side by side through a range over a function. No program in sight. -/
import Derived.Test.YtiidkehcfoajeaaSep
import Derived.Test.YtiidkehcfoajeaaRgx
set_option linter.unusedVariables false
set_option linter.unusedSimpArgs false
namespace Go.Proofs.Ytiidkehcfoajeaa
open Go.RowKit

/-- Things side by side since w0, in a loop that began in wl, beside an iterator that reads A and has Z. -/
structure SWz (w0 wl : World) (A : Nat → Prop) (R : List Asn) (Z : Nat → Prop) (W : World) : Prop where
  s : SW w0 R W
  z : ∀ B ∈ R, ∀ k, B.S k → ¬ Z k
  a : ∀ B ∈ R, ∀ k, B.S k → ¬ A k
  zn : ∀ k, Z k → wl.heap.size ≤ k
  zl : ∀ k, Z k → k < W.heap.size
  sz : wl.heap.size ≤ W.heap.size
section
variable {w0 wl W W' : World} {A Z : Nat → Prop} {R : List Asn} {B B' : Asn}
theorem SWz.start (h : SW w0 R wl) (ha : ∀ B ∈ R, ∀ k, B.S k → ¬ A k) : SWz w0 wl A R (fun _ => False) wl := ⟨h, fun _ _ _ _ h => h, ha, fun _ h => h.elim, fun _ h => h.elim, Nat.le_refl _⟩
theorem SWz.apart {β : Type} (hwl : w0.heap.size ≤ wl.heap.size) (R : β → List Asn) : Apart (fun Z s W => SWz w0 wl A (R s) Z W) := fun Z Z' s X Y h hm hz =>
  ⟨⟨h.s.g.md hm (fun k hk => Nat.le_trans hwl (h.zn k hk)), h.s.s.mdh hm h.z, h.s.n⟩, fun B hB k hk hz' => (hz k hz').elim (h.z B hB k hk) (fun y => by have := h.s.s.lt hB k hk; omega), h.a,
    fun k hk => (hz k hk).elim (h.zn k) (fun y => Nat.le_trans h.sz y.1), fun k hk => (hz k hk).elim (fun y => Nat.lt_of_lt_of_le (h.zl k y) hm.size) (fun y => y.2), Nat.le_trans h.sz hm.size⟩
theorem SWz.frm (g : Gr w0 wl) (h : SWz w0 wl A R Z W) : ∃ T, Frm wl T Z W := ⟨fun _ => True, ⟨h.sz, fun _ _ hn => absurd trivial hn, (Below.os h.s.g).trans (Below.os g).symm, (Below.tape h.s.g).trans (Below.tape g).symm, (Below.output h.s.g).trans (Below.output g).symm⟩, h.zn, h.zl⟩
/-- The i-th turns. -/
theorem SWz.step {i : Nat} {T : Nat → Prop} (h : SWz w0 wl A R Z W) (hi : R[i]? = some B) (hA : ∀ k, A k → k < wl.heap.size) (m : Mdh T W W') (hT : ∀ k, T k → B.S k ∨ W.heap.size ≤ k) (hB : B'.P W') (hS : ∀ k, B'.S k → B.S k ∨ W.heap.size ≤ k) :
    SWz w0 wl A (R.set i B') Z W' ∧ Mdh (fun k => ¬ A k ∧ ¬ Z k) W W' := by
  have hBm := List.mem_of_getElem? hi
  have hnew : ∀ k, (B.S k ∨ W.heap.size ≤ k) → ¬ A k ∧ ¬ Z k := fun k hk => by
    rcases hk with hk | hk
    · exact ⟨h.a B hBm k hk, h.z B hBm k hk⟩
    · exact ⟨fun h1 => by have := hA k h1; have := h.sz; omega, fun h1 => by have := h.zl k h1; omega⟩
  refine ⟨⟨h.s.at hi m hT hB hS, fun C hC k hk => ?_, fun C hC k hk => ?_, h.zn, fun k hk => Nat.lt_of_lt_of_le (h.zl k hk) m.size, Nat.le_trans h.sz m.size⟩, m.mono (fun k hk => hnew k (hT k hk))⟩
  · rcases List.mem_or_eq_of_mem_set hC with hC | rfl
    · exact h.z C hC k hk
    · exact (hnew k (hS k hk)).2
  · rcases List.mem_or_eq_of_mem_set hC with hC | rfl
    · exact h.a C hC k hk
    · exact (hnew k (hS k hk)).1
theorem SWz.gr (h : SWz w0 wl A R Z W) (g : Gr W W') : SWz w0 wl A R Z W' ∧ Mdh (fun k => ¬ A k ∧ ¬ Z k) W W' :=
  ⟨⟨h.s.gr g, h.z, h.a, h.zn, fun k hk => Nat.lt_of_lt_of_le (h.zl k hk) g.sz, Nat.le_trans h.sz g.sz⟩, g.mdh _⟩
/-- The i-th box is stored into. -/
theorem SWz.box {i b : Nat} {t : TypeId} {cs cs' : Array Value} (h : SWz w0 wl A R Z W) (hi : R[i]? = some (blkA b (.cells cs t))) (hA : ∀ k, A k → k < wl.heap.size) (m : Mdh (fun k => k = b) W W') (hB : W'.heap[b]? = some (.cells cs' t)) :
    SWz w0 wl A (R.set i (blkA b (.cells cs' t))) Z W' ∧ Mdh (fun k => ¬ A k ∧ ¬ Z k) W W' := h.step hi hA m (fun k hk => .inl hk) hB (fun k hk => .inl hk)
end
end Go.Proofs.Ytiidkehcfoajeaa
