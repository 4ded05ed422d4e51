/- Things that lie in blocks of their own, side by side: a thing is a footprint with what is said of the world; a list of things lies in a world where each holds and no two share a block. No program in sight. -/
import Derived.Test.YtiidkehcfoajeaaIns
set_option linter.unusedVariables false
set_option linter.unusedSimpArgs false
namespace Go.Proofs.Ytiidkehcfoajeaa
open Go.RowKit

theorem erase_perm {α : Type} {R : List α} {i : Nat} (h : i < R.length) : (R[i] :: R.eraseIdx i).Perm R := by
  induction R generalizing i with
  | nil => simp at h
  | cons y R ih =>
    cases i with
    | zero => exact List.Perm.refl _
    | succ i => exact (List.Perm.swap _ _ _).trans ((ih (by simpa using h)).cons y)
theorem erase_set {α : Type} (R : List α) (i : Nat) (b : α) : (R.set i b).eraseIdx i = R.eraseIdx i := by
  induction R generalizing i with
  | nil => rfl
  | cons y R ih =>
    cases i with
    | zero => rfl
    | succ i => simp [ih]
/-- A thing: the blocks that it takes, and what it says. -/
structure Asn where
  S : Nat → Prop
  P : World → Prop
  fr : ∀ {w w' : World} {T : Nat → Prop}, P w → Mdh T w w' → (∀ k, S k → ¬ T k) → P w'
  lt : ∀ {w : World}, P w → ∀ k, S k → k < w.heap.size
def Dis (A B : Asn) : Prop := ∀ k, A.S k → ¬ B.S k
theorem Dis.symm {A B : Asn} (h : Dis A B) : Dis B A := fun k hb ha => h k ha hb
/-- They lie side by side. -/
def Sep (R : List Asn) (w : World) : Prop := (∀ A ∈ R, A.P w) ∧ R.Pairwise Dis
section
variable {R R' : List Asn} {A B : Asn} {w w' : World}
theorem Sep.nil (w : World) : Sep [] w := ⟨(fun _ h => by cases h), List.Pairwise.nil⟩
theorem Sep.get (h : Sep R w) (hA : A ∈ R) : A.P w := h.1 A hA
theorem Sep.head (h : Sep (A :: R) w) : A.P w := h.1 A (by simp)
theorem Sep.tail (h : Sep (A :: R) w) : Sep R w := ⟨fun B hB => h.1 B (List.mem_cons_of_mem _ hB), (List.pairwise_cons.1 h.2).2⟩
theorem Sep.dis (h : Sep (A :: R) w) : ∀ B ∈ R, Dis A B := (List.pairwise_cons.1 h.2).1
theorem Sep.perm (h : Sep R w) (p : R.Perm R') : Sep R' w := ⟨fun A hA => h.1 A (p.mem_iff.2 hA), (p.pairwise_iff (fun {a b} hab => hab.symm)).1 h.2⟩
theorem Sep.sub (h : Sep R w) (p : R'.Sublist R) : Sep R' w := ⟨fun A hA => h.1 A (p.subset hA), h.2.sublist p⟩
/-- Where none of their blocks turns. -/
theorem Sep.mdh {T : Nat → Prop} (h : Sep R w) (m : Mdh T w w') (ht : ∀ A ∈ R, ∀ k, A.S k → ¬ T k) : Sep R w' := ⟨fun A hA => A.fr (h.1 A hA) m (ht A hA), h.2⟩
theorem Sep.gr (h : Sep R w) (g : Gr w w') : Sep R w' := h.mdh (g.mdh fun _ => False) (fun _ _ _ _ h => h)
theorem Sep.lt (h : Sep R w) (hA : A ∈ R) : ∀ k, A.S k → k < w.heap.size := A.lt (h.1 A hA)
/-- One more, in new blocks. -/
theorem Sep.new (h : Sep R w) (g : Gr w w') (hA : A.P w') (hn : ∀ k, A.S k → w.heap.size ≤ k) : Sep (A :: R) w' :=
  ⟨fun B hB => (List.mem_cons.1 hB).elim (fun e => e ▸ hA) (fun e => (h.gr g).1 B e), List.pairwise_cons.2 ⟨fun B hB k ka kb => by have := h.lt hB k kb; have := hn k ka; omega, h.2⟩⟩
/-- One of them turns, within its own blocks and new ones. -/
theorem Sep.step {T : Nat → Prop} (h : Sep (A :: R) w) (m : Mdh T w w') (hT : ∀ k, T k → A.S k ∨ w.heap.size ≤ k) (hB : B.P w') (hS : ∀ k, B.S k → A.S k ∨ w.heap.size ≤ k) : Sep (B :: R) w' := by
  have hd := h.dis
  refine ⟨fun C hC => ?_, List.pairwise_cons.2 ⟨fun C hC k kb kc => ?_, (List.pairwise_cons.1 h.2).2⟩⟩
  · rcases List.mem_cons.1 hC with rfl | hC
    · exact hB
    · refine C.fr (h.1 C (List.mem_cons_of_mem _ hC)) m (fun k hk ht => ?_)
      rcases hT k ht with ha | hn
      · exact hd C hC k ha hk
      · have := h.lt (List.mem_cons_of_mem _ hC) k hk; omega
  · rcases hS k kb with ha | hn
    · exact hd C hC k ha kc
    · have := h.lt (List.mem_cons_of_mem _ hC) k kc; omega
/-- Several of them turn, within their blocks and new ones. -/
theorem Sep.steps {As Bs : List Asn} {T : Nat → Prop} (h : Sep (As ++ R) w) (m : Mdh T w w') (hT : ∀ k, T k → (∃ A ∈ As, A.S k) ∨ w.heap.size ≤ k) (hB : Sep Bs w') (hS : ∀ B ∈ Bs, ∀ k, B.S k → (∃ A ∈ As, A.S k) ∨ w.heap.size ≤ k) : Sep (Bs ++ R) w' := by
  have hd := List.pairwise_append.1 h.2
  refine ⟨fun C hC => ?_, List.pairwise_append.2 ⟨hB.2, hd.2.1, fun B hB C hC k kb kc => ?_⟩⟩
  · rcases List.mem_append.1 hC with hC | hC
    · exact hB.1 C hC
    · refine C.fr (h.1 C (List.mem_append_right _ hC)) m (fun k hk ht => ?_)
      rcases hT k ht with ⟨A, hA, ha⟩ | hn
      · exact hd.2.2 A hA C hC k ha hk
      · have := h.lt (List.mem_append_right _ hC) k hk; omega
  · rcases hS B hB k kb with ⟨A, hA, ha⟩ | hn
    · exact hd.2.2 A hA C hC k ha kc
    · have := h.lt (List.mem_append_right _ hC) k kc; omega
theorem Sep.append {Q : List Asn} (h : Sep R w) (g : Sep Q w) (hd : ∀ A ∈ R, ∀ B ∈ Q, Dis A B) : Sep (R ++ Q) w :=
  ⟨fun A hA => (List.mem_append.1 hA).elim (h.1 A) (g.1 A), List.pairwise_append.2 ⟨h.2, g.2, hd⟩⟩
theorem Sep.left {Q : List Asn} (h : Sep (R ++ Q) w) : Sep R w := h.sub (List.sublist_append_left _ _)
theorem Sep.right {Q : List Asn} (h : Sep (R ++ Q) w) : Sep Q w := h.sub (List.sublist_append_right _ _)
/-- The i-th to the front. -/
theorem Sep.pick (h : Sep R w) {i : Nat} (hi : R[i]? = some A) : Sep (A :: R.eraseIdx i) w := by
  obtain ⟨hlt, rfl⟩ := List.getElem?_eq_some_iff.1 hi
  exact h.perm (erase_perm hlt).symm
theorem Sep.unpick {i : Nat} (hi : i < R.length) (h : Sep (B :: R.eraseIdx i) w) : Sep (R.set i B) w :=
  h.perm (by
    have h1 : i < (R.set i B).length := by simpa using hi
    have := erase_perm h1
    rwa [List.getElem_set_self, erase_set] at this)
end

/-! ### Some things -/
/-- A block that is known whole. -/
def blkA (b : Nat) (o : Obj) : Asn := ⟨fun k => k = b, fun w => w.heap[b]? = some o, fun h m hs => m.blk h (hs b rfl), fun h k hk => by subst hk; exact blkLt h⟩
/-- A row of the owner's own. -/
def rowA (t : TypeId) (K : Nat) (v : Value) (n : Nat) (xs : List Value) : Asn := ⟨fun k => v.ownBlock = some k, fun w => Own w t K v n xs, fun h m hs => h.mdh m hs, fun h k hk => h.lt hk⟩

/-- What lies side by side in blocks that are new since w0. -/
structure SW (w0 : World) (R : List Asn) (w : World) : Prop where
  g : Gr w0 w
  s : Sep R w
  n : ∀ A ∈ R, ∀ k, A.S k → w0.heap.size ≤ k
section
variable {w0 w w' : World} {R R' : List Asn} {A B : Asn}
theorem SW.start (w : World) : SW w [] w := ⟨Gr.refl w, Sep.nil w, (fun _ h => by cases h)⟩
theorem SW.gr (h : SW w0 R w) (g : Gr w w') : SW w0 R w' := ⟨h.g.trans g, h.s.gr g, h.n⟩
theorem SW.new (h : SW w0 R w) (g : Gr w w') (hA : A.P w') (hn : ∀ k, A.S k → w.heap.size ≤ k) : SW w0 (A :: R) w' :=
  ⟨h.g.trans g, h.s.new g hA hn, fun B hB => (List.mem_cons.1 hB).elim (fun e k hk => Nat.le_trans h.g.sz (hn k (e ▸ hk))) (h.n B)⟩
theorem SW.alloc (h : SW w0 R w) (o : Obj) : SW w0 (blkA w.heap.size o :: R) (w.alloc o) := h.new ((Gr.refl w).alloc o) (blkNew w o) (fun k hk => by rw [show k = w.heap.size from hk]; exact Nat.le_refl _)
theorem SW.perm (h : SW w0 R w) (p : R.Perm R') : SW w0 R' w := ⟨h.g, h.s.perm p, fun A hA => h.n A (p.mem_iff.2 hA)⟩
theorem SW.sub (h : SW w0 R w) (p : R'.Sublist R) : SW w0 R' w := ⟨h.g, h.s.sub p, fun A hA => h.n A (p.subset hA)⟩
theorem SW.step {T : Nat → Prop} (h : SW w0 (A :: R) w) (m : Mdh T w w') (hT : ∀ k, T k → A.S k ∨ w.heap.size ≤ k) (hB : B.P w') (hS : ∀ k, B.S k → A.S k ∨ w.heap.size ≤ k) : SW w0 (B :: R) w' := by
  have hz := h.g.sz
  have nA := h.n A (by simp)
  refine ⟨h.g.md m (fun k hk => (hT k hk).elim (nA k) (fun y => by omega)), h.s.step m hT hB hS, fun C hC k hk => ?_⟩
  rcases List.mem_cons.1 hC with rfl | hC
  · exact (hS k hk).elim (nA k) (fun y => by omega)
  · exact h.n C (List.mem_cons_of_mem _ hC) k hk
theorem SW.pick (h : SW w0 R w) {i : Nat} (hi : R[i]? = some A) : SW w0 (A :: R.eraseIdx i) w := by
  obtain ⟨hlt, rfl⟩ := List.getElem?_eq_some_iff.1 hi
  exact h.perm (erase_perm hlt).symm
theorem SW.unpick {i : Nat} (hi : i < R.length) (h : SW w0 (B :: R.eraseIdx i) w) : SW w0 (R.set i B) w :=
  h.perm (by
    have h1 : i < (R.set i B).length := by simpa using hi
    have := erase_perm h1
    rwa [List.getElem_set_self, erase_set] at this)
/-- The i-th turns. -/
theorem SW.at {i : Nat} {T : Nat → Prop} (h : SW w0 R w) (hi : R[i]? = some A) (m : Mdh T w w') (hT : ∀ k, T k → A.S k ∨ w.heap.size ≤ k) (hB : B.P w') (hS : ∀ k, B.S k → A.S k ∨ w.heap.size ≤ k) : SW w0 (R.set i B) w' :=
  SW.unpick (List.getElem?_eq_some_iff.1 hi).1 ((h.pick hi).step m hT hB hS)
theorem SW.get (h : SW w0 R w) {i : Nat} (hi : R[i]? = some A) : A.P w := h.s.1 A (List.mem_of_getElem? hi)
theorem SW.get_ne (h : SW w0 R w) {i j : Nat} (hi : R[i]? = some A) (hj : R[j]? = some B) (hij : i ≠ j) : Dis A B := by
  obtain ⟨h1, rfl⟩ := List.getElem?_eq_some_iff.1 hi
  obtain ⟨h2, rfl⟩ := List.getElem?_eq_some_iff.1 hj
  rcases Nat.lt_or_gt_of_ne hij with h3 | h3
  · exact List.pairwise_iff_getElem.1 h.s.2 i j h1 h2 h3
  · exact (List.pairwise_iff_getElem.1 h.s.2 j i h2 h1 h3).symm
/-- The i-th box is stored into. -/
theorem SW.box {i b : Nat} {t : TypeId} {u : Value} (h : SW w0 R w) (hi : R[i]? = some (blkA b (.cells #[u] t))) (v : Value) : SW w0 (R.set i (blkA b (.cells #[v] t))) (w.setCell ⟨b, 0, none⟩ v) := by
  have hb : w.heap[b]? = some (.cells #[u] t) := h.get hi
  exact h.at hi ((Mdh.refl (fun k => k = b) w).setCell (p := ⟨b, 0, none⟩) rfl v) (fun k hk => .inl hk) (blk1 hb) (fun k hk => .inl hk)
end
end Go.Proofs.Ytiidkehcfoajeaa
