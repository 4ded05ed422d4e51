/- A range over a function whose iterator writes blocks of its own: contract and law in footprints. -/
import Derived.Test.YtiidkehcfoajeaaFlo
import Derived.RangeFuncNested
import Derived.RangeFuncBound
import Derived.RangeFuncCalls
import Derived.RangeFuncLeaves
import Derived.ControlIn
set_option linter.unusedVariables false
set_option linter.unusedSimpArgs false
namespace Go.Proofs.Ytiidkehcfoajeaa
open Go.RowKit
variable {F : Fence} {n : Nat} {P : Program}

/-- What is said of a world, but of the blocks Z. -/
def Apart {β : Type} (I : (Nat → Prop) → β → World → Prop) : Prop :=
  ∀ Z Z' s X Y, I Z s X → Mdh Z X Y → (∀ k, Z' k → Z k ∨ (X.heap.size ≤ k ∧ k < Y.heap.size)) → I Z' s Y

theorem Apart.and {β : Type} {I I' : (Nat → Prop) → β → World → Prop} (h : Apart I) (h' : Apart I') : Apart (fun Z s W => I Z s W ∧ I' Z s W) :=
  fun Z Z' s X Y hs hm hz => ⟨h Z Z' s X Y hs.1 hm hz, h' Z Z' s X Y hs.2 hm hz⟩
theorem Apart.pure {β : Type} (p : β → Prop) : Apart (fun _ s (_ : World) => p s) := fun _ _ _ _ _ hs _ _ => hs
theorem Apart.ex {β γ : Type} {I : γ → (Nat → Prop) → β → World → Prop} (h : ∀ c, Apart (I c)) : Apart (fun Z s W => ∃ c, I c Z s W) :=
  fun Z Z' s X Y ⟨c, hs⟩ hm hz => ⟨c, h c Z Z' s X Y hs hm hz⟩
/-- New blocks alone since w0, those of Z among them. -/
theorem Apart.since {β : Type} (w0 : World) : Apart (fun Z (_ : β) W => Gr w0 W ∧ ∀ k, Z k → w0.heap.size ≤ k) :=
  fun Z Z' _ X Y ⟨g, hk⟩ hm hz => ⟨Gr.md g hm hk, fun k h => (hz k h).elim (hk k) (fun y => Nat.le_trans g.sz y.1)⟩
/-- A block that is none of Z's. -/
theorem Apart.block {β : Type} (b : Nat) (o : β → Obj) : Apart (fun Z s W => W.heap[b]? = some (o s) ∧ ¬ Z b) :=
  fun Z Z' _ X Y ⟨h, hz⟩ hm hz' => ⟨hm.blk h hz, fun h' => (hz' b h').elim hz (fun y => by have := (Array.getElem?_eq_some_iff.1 h).1; omega)⟩
/-- All of Z is there. -/
theorem Apart.there {β : Type} : Apart (fun Z (_ : β) W => ∀ k, Z k → k < W.heap.size) := fun _ _ _ _ _ h hm hz k hk => (hz k hk).elim (fun y => Nat.lt_of_lt_of_le (h k y) hm.size) (fun y => y.2)

/-- An iterator. A: what it reads, and the rounds keep; Z: what is its own by then. -/
def SeqZ {α : Type} (F : Fence) (n : Nat) (P : Program) (g : Nat) (lb : Array Value) (encs : α → Array Value) (A : Nat → Prop) (S Sp : List α → Prop) (w : World) : Prop :=
  ∀ (l : Nat) (J Jx : (Nat → Prop) → List α → World → Prop) (W : World),
    Mdh (fun k => ¬ A k) w W → Apart J → Apart Jx →
    (∀ Z pre x X, J Z pre X → Sp (pre ++ [x]) → YieldAt F (n - 1) P l (encs x) X fun e Y =>
      (e = .returned (.bool true) ∧ J Z (pre ++ [x]) Y ∧ Mdh (fun k => ¬ A k ∧ ¬ Z k) X Y) ∨ (e = .returned (.bool false) ∧ Jx Z (pre ++ [x]) Y ∧ Mdh (fun k => ¬ Z k) X Y)) →
    J (fun _ => False) [] W →
    CallsIn F n P g (#[.func (.yield l) #[] #[]] ++ lb) W fun e W' => (∃ v, e = .returned v) ∧ ((∃ Z xs, S xs ∧ J Z xs W') ∨ (∃ Z pre, Sp pre ∧ Jx Z pre W'))

/-- How a round's body may be left. -/
def zPost {α : Type} (A Z : Nat → Prop) (I : (Nat → Prop) → List α → World → Prop) (Ix : Code → (Nat → Prop) → List α → World → Prop) (xs : List α) (W : World) : Exit → Act → World → Prop
  | .normal, _, W' => Mdh (fun k => ¬ A k ∧ ¬ Z k) W W' ∧ I Z xs W'
  | .ret, _, W' => Mdh (fun k => ¬ Z k) W W' ∧ Ix .ret Z xs W'
  | .exit id, _, W' => Mdh (fun k => ¬ Z k) W W' ∧ Ix (.exit id) Z xs W'
  | .goto t, _, W' => Mdh (fun k => ¬ Z k) W W' ∧ Ix (.goto t) Z xs W'
  | .panic _, _, _ => False
  | .outgrown, _, _ => False

theorem Mdh.putObj {S : Nat → Prop} {a b : World} (h : Mdh S a b) {l : Nat} (hl : S l) (o : Obj) : Mdh S a (b.putObj l o) :=
  Mdh.trans h (Mdh.mk (by simp) (fun k _ hn => World.putObj_heap_other (fun e => hn (by rw [e]; exact hl))) rfl rfl rfl)

theorem wpIn_rangeFunc_z {α : Type} {g : Operand} {ps : Array Tmp} {assign body : Code} {Q : Exit → Act → World → Prop} {a : Act} {w : World}
    (hro : F.round = none) (h1 : 1 ≤ n) {gf : Nat} {lb : Array Value} (hg : a.eval g = .func (.func gf) #[] lb) (hFg : F.fn gf) (eg : ∀ args w, (callFunc gf args).run P w = .ok (.enter gf args) w)
    {encs : α → Array Value} {A : Nat → Prop} {S Sp : List α → Prop} {w0 : World} (hseq : SeqZ F (n - 1) P gf lb encs A S Sp w0)
    (hw0 : Mdh (fun k => ¬ A k) w0 w) (hAlt : ∀ k, A k → k < w.heap.size) (hps : ∀ x, (encs x).size = ps.size)
    (I : (Nat → Prop) → List α → World → Prop) (Ix : Code → (Nat → Prop) → List α → World → Prop) (hI : Apart I) (hIx : ∀ c, Apart (Ix c)) (h0 : I (fun _ => False) [] w)
    (Ax : α → Act → (Nat → Prop) → World → Prop) (hAx : ∀ x a', Apart (fun Z (_ : Unit) W => Ax x a' Z W))
    (hassign : ∀ (l : Nat) (Z : Nat → Prop) (pre : List α) (x : α) (W : World) (K : Act → World → Prop), I Z pre W → (∀ a' W', Mdh (fun k => ¬ A k ∧ ¬ Z k) W W' → I Z pre W' → Ax x a' Z W' → K a' W') →
      assign.wpIn (F.inRound l) (n - 1 - 1) P (Exit.then K (fun _ _ _ => False)) { tmps := (ps.zip (encs x)).foldl (fun t (p, v) => t.setIfInBounds p v) a.tmps, defers := [] } W)
    (hbody : ∀ (l : Nat) (Z : Nat → Prop) (pre : List α) (x : α) (a' : Act) (W : World), Z l → (∃ r, W.heap[l]? = some (.loop r)) → I Z pre W → Ax x a' Z W → Sp (pre ++ [x]) →
      body.wpIn (F.inRound l) (n - 1 - 1) P (zPost A Z I Ix (pre ++ [x]) W) a' W)
    (hdone : ∀ (Z : Nat → Prop) (D : Nat) (xs : List α) (W : World), w.heap.size ≤ D → Z D → S xs → I Z xs W → W.heap[D]? = some (.deferred (some [])) → Q .normal { a with defers := { target := .collected D, args := #[] } :: a.defers } W)
    (hstop : ∀ (Z : Nat → Prop) (D : Nat) (c : Code) (pre : List α) (W : World), w.heap.size ≤ D → Z D → Sp pre → Ix c Z pre W → W.heap[D]? = some (.deferred (some [])) → c.wpIn F n P Q { a with defers := { target := .collected D, args := #[] } :: a.defers } W) :
    (Code.rangeFunc g ps assign body).wpIn F n P Q a w := by
  refine wpIn_rangeFunc ?_
  intro fn hfn
  rw [hro]
  obtain ⟨rec, hrec⟩ : ∃ rec : LoopState → Option Code → Loop, rec = fun st pe => { state := st, pending := pe, fn, tmps := a.tmps, params := ps, assign, body, defers := w.heap.size } := ⟨_, rfl⟩
  obtain ⟨W1, hW1⟩ : ∃ W1, (w.alloc (.deferred (some []))).alloc (.loop (rec .ready none)) = W1 := ⟨_, rfl⟩
  have hL1 : W1.heap[w.heap.size + 1]? = some (.loop (rec .ready none)) := by
    rw [← hW1]; have := World.alloc_heap_new (w.alloc (.deferred (some []))) (.loop (rec .ready none)); rwa [World.size_alloc] at this
  have hK1 : W1.heap[w.heap.size]? = some (.deferred (some [])) := by
    rw [← hW1]; exact (Below.heap_alloc _ _ _ (by simp)).trans (World.alloc_heap_new w _)
  have hgr : Gr w W1 := by rw [← hW1]; exact ((Gr.refl w).alloc _).alloc _
  -- the book-keeping's two blocks
  obtain ⟨B, hB⟩ : ∃ B : Nat → Prop, B = fun k => k = w.heap.size ∨ k = w.heap.size + 1 := ⟨_, rfl⟩
  have hBl : B (w.heap.size + 1) := by rw [hB]; exact .inr rfl
  have hBD : B w.heap.size := by rw [hB]; exact .inl rfl
  have hBA : ∀ k, B k → ¬ A k := fun k hk ha => by rw [hB] at hk; have := hAlt k ha; omega
  have hI1 : I (fun k => False ∨ B k) [] W1 := hI _ _ _ _ _ h0 (hgr.mdh _) (fun k hk => by
    rcases hk with hk | hk
    · exact hk.elim
    · rw [hB] at hk; right; have : w.heap.size + 1 < W1.heap.size := (Array.getElem?_eq_some_iff.1 hL1).1; omega)
  refine ⟨w.heap.size + 1, [{ target := .collected w.heap.size, args := #[] }], W1, { target := .fn (.func gf) lb, args := #[.func (.yield (w.heap.size + 1)) #[] #[]] }, W1, gf,
    #[.func (.yield (w.heap.size + 1)) #[] #[]] ++ lb, W1, ?_, ?_, ?_, ?_, fun _ => h1, ?_⟩
  · rw [← hW1, hrec]; exact run_enterLoop_outer _ _ _ _ _
  · simp only [resolve, hg]
    simp [go_sem]
  · intro f' hf'; simp [Target.leads] at hf'; subst hf'; exact hFg
  · simp [invoke, go_sem, eg]
  · have hsz : w.heap.size + 1 < W1.heap.size := (Array.getElem?_eq_some_iff.1 hL1).1
    refine (hseq (w.heap.size + 1)
      (fun Z pre W => I (fun k => Z k ∨ B k) pre W ∧ (W.heap[w.heap.size + 1]? = some (.loop (rec .ready none)) ∧ ¬ Z (w.heap.size + 1)) ∧ (W.heap[w.heap.size]? = some (.deferred (some [])) ∧ ¬ Z w.heap.size))
      (fun Z pre W => ∃ c, Ix c (fun k => Z k ∨ B k) pre W ∧ (W.heap[w.heap.size + 1]? = some (.loop (rec .done (some c))) ∧ ¬ Z (w.heap.size + 1)) ∧ (W.heap[w.heap.size]? = some (.deferred (some [])) ∧ ¬ Z w.heap.size))
      W1 (hw0.gr hgr)
      (fun Z Z' s X Y hs hm hz => ⟨hI _ _ s X Y hs.1 (hm.mono (fun k hk => .inl hk)) (fun k hk => hk.elim (fun h => (hz k h).elim (fun h => .inl (.inl h)) .inr) (fun h => .inl (.inr h))),
        Apart.block (β := Unit) _ (fun _ => .loop (rec .ready none)) Z Z' () X Y hs.2.1 hm hz, Apart.block (β := Unit) _ (fun _ => .deferred (some [])) Z Z' () X Y hs.2.2 hm hz⟩)
      (fun Z Z' s X Y hs hm hz => by
        obtain ⟨c, hc, hl, hk⟩ := hs
        exact ⟨c, hIx c _ _ s X Y hc (hm.mono (fun k hk => .inl hk)) (fun k hk => hk.elim (fun h => (hz k h).elim (fun h => .inl (.inl h)) .inr) (fun h => .inl (.inr h))),
          Apart.block (β := Unit) _ (fun _ => .loop (rec .done (some c))) Z Z' () X Y hl hm hz, Apart.block (β := Unit) _ (fun _ => .deferred (some [])) Z Z' () X Y hk hm hz⟩)
      ?_ ⟨hI1, ⟨hL1, fun h => h⟩, ⟨hK1, fun h => h⟩⟩).mono ?_
    · -- one round
      rintro Z pre x W ⟨hi, ⟨hl, hzl⟩, ⟨hk, hzk⟩⟩ hlen
      have hy := run_yield (P := P) (args := encs x) hl (by rw [hrec]; exact hps x)
      rw [hrec] at hy
      refine ⟨fn, _, assign, body, hy, roundIn_of_wpIn hfn (hassign _ (fun k => Z k ∨ B k) pre x W _ hi ?_)⟩
      clear hy
      intro a' Wa hma hia hax
      have hl' := hma.blk hl (fun h => h.2 (.inr hBl))
      have hk' := hma.blk hk (fun h => h.2 (.inr hBD))
      have hlt : w.heap.size + 1 < Wa.heap.size := (Array.getElem?_eq_some_iff.1 hl').1
      refine ⟨_, run_beginRound hl' (by rw [hrec]), ?_⟩
      have mB : ∀ (X : World) (o : Obj), Mdh (fun k => Z k ∨ B k) X (X.putObj (w.heap.size + 1) o) := fun X o => (Mdh.refl _ X).putObj (.inr hBl) o
      have mA : ∀ (X : World) (o : Obj), Mdh (fun k => ¬ A k ∧ ¬ Z k) X (X.putObj (w.heap.size + 1) o) := fun X o => (Mdh.refl _ X).putObj ⟨hBA _ hBl, hzl⟩ o
      have hl2 : (Wa.putObj (w.heap.size + 1) (.loop { rec .ready none with state := .busy })).heap[w.heap.size + 1]? = some (.loop { rec .ready none with state := .busy }) := World.putObj_heap_same hlt
      have hk2 : (Wa.putObj (w.heap.size + 1) (.loop { rec .ready none with state := .busy })).heap[w.heap.size]? = some (.deferred (some [])) := (World.putObj_heap_other (by omega)).trans hk'
      refine wpIn_mono (hbody _ (fun k => Z k ∨ B k) pre x a' _ (.inr hBl) ⟨_, hl2⟩ (hI _ _ _ _ _ hia (mB _ _) (fun k hk => .inl hk)) (hAx x a' _ _ () _ _ hax (mB _ _) (fun k hk => .inl hk)) hlen) ?_
      have fin : ∀ (jump : Option Code) (W3 : World), Mdh (fun k => ¬ (Z k ∨ B k)) (Wa.putObj (w.heap.size + 1) (.loop { rec .ready none with state := .busy })) W3 →
          (Instr.endRound (w.heap.size + 1) jump).run P W3 = .ok (.bool jump.isNone) (W3.putObj (w.heap.size + 1) (.loop (rec (if jump.isNone then .ready else .done) jump))) ∧
          (W3.putObj (w.heap.size + 1) (.loop (rec (if jump.isNone then .ready else .done) jump))).heap[w.heap.size + 1]? = some (.loop (rec (if jump.isNone then .ready else .done) jump)) ∧
          (W3.putObj (w.heap.size + 1) (.loop (rec (if jump.isNone then .ready else .done) jump))).heap[w.heap.size]? = some (.deferred (some [])) := fun jump W3 hm3 => by
        have hl3 := hm3.blk hl2 (fun h => h (.inr hBl))
        have hk3 := hm3.blk hk2 (fun h => h (.inr hBD))
        have := run_endRound (P := P) jump hl3
        rw [hrec] at this ⊢
        exact ⟨this, World.putObj_heap_same (Array.getElem?_eq_some_iff.1 hl3).1, (World.putObj_heap_other (by omega)).trans hk3⟩
      have outM : ∀ (W3 : World), Mdh (fun k => ¬ (Z k ∨ B k)) (Wa.putObj (w.heap.size + 1) (.loop { rec .ready none with state := .busy })) W3 → ∀ o : Obj, Mdh (fun k => ¬ Z k) W (W3.putObj (w.heap.size + 1) o) := fun W3 hm3 o =>
        (((hma.mono (fun k h hz => h.2 (.inl hz))).trans ((mA Wa _).mono (fun k h => h.2))).trans (hm3.mono (fun k h hz => h (.inl hz)))).trans ((mA W3 o).mono (fun k h => h.2))
      rintro e a3 W3 hp
      cases e with
      | normal =>
        obtain ⟨hm3, hi3⟩ := hp
        obtain ⟨hr, hl4, hk4⟩ := fin none W3 (hm3.mono (fun k h => h.2))
        refine ⟨_, _, hr, .inl ⟨rfl, ⟨hI _ _ _ _ _ hi3 (mB _ _) (fun k hk => .inl hk), ⟨hl4, hzl⟩, ⟨hk4, hzk⟩⟩, ?_⟩⟩
        have h1 : Mdh (fun k => ¬ A k ∧ ¬ Z k) W Wa := hma.mono (fun k h => ⟨h.1, fun hz => h.2 (.inl hz)⟩)
        have h2 : Mdh (fun k => ¬ A k ∧ ¬ Z k) (Wa.putObj (w.heap.size + 1) (.loop { rec .ready none with state := .busy })) W3 := hm3.mono (fun k h => ⟨h.1, fun hz => h.2 (.inl hz)⟩)
        exact ((h1.trans (mA _ _)).trans h2).trans (mA _ _)
      | ret =>
        obtain ⟨hm3, hi3⟩ := hp
        obtain ⟨hr, hl4, hk4⟩ := fin (some .ret) W3 hm3
        exact ⟨_, _, hr, .inr ⟨rfl, ⟨.ret, hIx _ _ _ _ _ _ hi3 (mB _ _) (fun k hk => .inl hk), ⟨hl4, hzl⟩, ⟨hk4, hzk⟩⟩, outM W3 hm3 _⟩⟩
      | exit id =>
        obtain ⟨hm3, hi3⟩ := hp
        obtain ⟨hr, hl4, hk4⟩ := fin (some (.exit id)) W3 hm3
        exact ⟨_, _, hr, .inr ⟨rfl, ⟨.exit id, hIx _ _ _ _ _ _ hi3 (mB _ _) (fun k hk => .inl hk), ⟨hl4, hzl⟩, ⟨hk4, hzk⟩⟩, outM W3 hm3 _⟩⟩
      | goto t =>
        obtain ⟨hm3, hi3⟩ := hp
        obtain ⟨hr, hl4, hk4⟩ := fin (some (.goto t)) W3 hm3
        exact ⟨_, _, hr, .inr ⟨rfl, ⟨.goto t, hIx _ _ _ _ _ _ hi3 (mB _ _) (fun k hk => .inl hk), ⟨hl4, hzl⟩, ⟨hk4, hzk⟩⟩, outM W3 hm3 _⟩⟩
      | panic ch => exact hp.elim
      | outgrown => exact hp.elim
    · -- behind the iterator
      have mB : ∀ (Z : Nat → Prop) (X : World) (o : Obj), Mdh (fun k => Z k ∨ B k) X (X.putObj (w.heap.size + 1) o) := fun Z X o => (Mdh.refl _ X).putObj (.inr hBl) o
      rintro e W2 ⟨⟨v, rfl⟩, (⟨Z, xs, hS, hi, ⟨hl, _⟩, ⟨hk, _⟩⟩ | ⟨Z, pre, hSp, c, hi, ⟨hl, _⟩, ⟨hk, _⟩⟩)⟩
      · exact ⟨none, _, by have := run_endLoop (P := P) hl (by rw [hrec]; simp); rw [hrec] at this; exact this, hdone (fun k => Z k ∨ B k) _ xs _ (Nat.le_refl _) (.inr hBD) hS (hI _ _ _ _ _ hi (mB _ _ _) (fun k hk => .inl hk)) ((World.putObj_heap_other (by omega)).trans hk)⟩
      · exact ⟨some c, _, by have := run_endLoop (P := P) hl (by rw [hrec]; simp); rw [hrec] at this; exact this, hstop (fun k => Z k ∨ B k) _ c pre _ (Nat.le_refl _) (.inr hBD) hSp (hIx c _ _ _ _ _ hi (mB _ _ _) (fun k hk => .inl hk)) ((World.putObj_heap_other (by omega)).trans hk)⟩

/-- The same in a plain walk, where the assignment lays no block. -/
theorem wp_rangeFunc_z {α : Type} {g : Operand} {ps : Array Tmp} {assign body : Code} {Q : Exit → Act → World → Prop} {a : Act} {w : World}
    {gf : Nat} {lb : Array Value} (hg : a.eval g = .func (.func gf) #[] lb) (eg : ∀ args w, (callFunc gf args).run P w = .ok (.enter gf args) w)
    {encs : α → Array Value} {A : Nat → Prop} {S Sp : List α → Prop} {w0 : World} (hseq : SeqZ Fence.wide 2 P gf lb encs A S Sp w0)
    (hw0 : Mdh (fun k => ¬ A k) w0 w) (hAlt : ∀ k, A k → k < w.heap.size) (hps : ∀ x, (encs x).size = ps.size)
    (I : (Nat → Prop) → List α → World → Prop) (Ix : Code → (Nat → Prop) → List α → World → Prop) (hI : Apart I) (hIx : ∀ c, Apart (Ix c)) (h0 : I (fun _ => False) [] w) (a₁ : α → Act)
    (hassign : ∀ (l : Nat) (x : α) (W : World) (K : Act → World → Prop), K (a₁ x) W →
      assign.wpIn (Fence.wide.inRound l) 1 P (Exit.then K (fun _ _ _ => False)) { tmps := (ps.zip (encs x)).foldl (fun t (p, v) => t.setIfInBounds p v) a.tmps, defers := [] } W)
    (hbody : ∀ (l : Nat) (Z : Nat → Prop) (pre : List α) (x : α) (W : World), I Z pre W → Sp (pre ++ [x]) → body.wpIn (Fence.wide.inRound l) 1 P (zPost A Z I Ix (pre ++ [x]) W) (a₁ x) W)
    (hdone : ∀ (Z : Nat → Prop) (D : Nat) (xs : List α) (W : World), w.heap.size ≤ D → Z D → S xs → I Z xs W → W.heap[D]? = some (.deferred (some [])) → Q .normal { a with defers := { target := .collected D, args := #[] } :: a.defers } W)
    (hstop : ∀ (Z : Nat → Prop) (D : Nat) (c : Code) (pre : List α) (W : World), w.heap.size ≤ D → Z D → Sp pre → Ix c Z pre W → W.heap[D]? = some (.deferred (some [])) → c.wp P Q { a with defers := { target := .collected D, args := #[] } :: a.defers } W) :
    (Code.rangeFunc g ps assign body).wp P Q a w :=
  wpIn_wide.1 (wpIn_rangeFunc_z (F := Fence.wide) (n := 3) rfl (by omega) hg trivial eg hseq hw0 hAlt hps I Ix hI hIx h0 (fun x a' _ _ => a' = a₁ x) (fun _ _ _ _ _ _ _ h _ _ => h)
    (fun l _ pre x W K hi hK => hassign l x W K (hK _ W (Mdh.refl _ _) hi rfl))
    (fun l Z pre x a' W _ _ hi ha hlen => by subst ha; exact hbody l Z pre x W hi hlen)
    hdone (fun Z D c pre W h1 h2 h3 h4 h5 => wpIn_wide.2 (hstop Z D c pre W h1 h2 h3 h4 h5)))

/-- The jumps out of a loop in block id. -/
def jmp {α : Type} (id : Nat) (Ie Ir : (Nat → Prop) → List α → World → Prop) : Code → (Nat → Prop) → List α → World → Prop
  | .exit i, Z, s, W => i = id ∧ Ie Z s W
  | .ret, Z, s, W => Ir Z s W
  | _, _, _, _ => False
theorem jmp_apart {α : Type} {id : Nat} {Ie Ir : (Nat → Prop) → List α → World → Prop} (h : Apart Ie) (h' : Apart Ir) (c : Code) : Apart (jmp id Ie Ir c) := by
  intro Z Z' s X Y hs hm hz
  unfold jmp at hs ⊢
  split at hs
  · exact ⟨hs.1, h Z Z' s X Y hs.2 hm hz⟩
  · exact h' Z Z' s X Y hs hm hz
  · exact hs.elim
/-- Where the loop is a block's last: a break ends like the loop's own end. -/
theorem wp_rangeFunc_zb {α : Type} {id : Nat} {g : Operand} {ps : Array Tmp} {assign body : Code} {Q : Exit → Act → World → Prop} {a : Act} {w : World}
    {gf : Nat} {lb : Array Value} (hg : a.eval g = .func (.func gf) #[] lb) (eg : ∀ args w, (callFunc gf args).run P w = .ok (.enter gf args) w)
    {encs : α → Array Value} {A : Nat → Prop} {S Sp : List α → Prop} {w0 : World} (hseq : SeqZ Fence.wide 2 P gf lb encs A S Sp w0)
    (hw0 : Mdh (fun k => ¬ A k) w0 w) (hAlt : ∀ k, A k → k < w.heap.size) (hps : ∀ x, (encs x).size = ps.size)
    (I Ie Ir : (Nat → Prop) → List α → World → Prop) (hI : Apart I) (hIe : Apart Ie) (hIr : Apart Ir) (h0 : I (fun _ => False) [] w) (a₁ : α → Act)
    (hassign : ∀ (l : Nat) (x : α) (W : World) (K : Act → World → Prop), K (a₁ x) W →
      assign.wpIn (Fence.wide.inRound l) 1 P (Exit.then K (fun _ _ _ => False)) { tmps := (ps.zip (encs x)).foldl (fun t (p, v) => t.setIfInBounds p v) a.tmps, defers := [] } W)
    (hbody : ∀ (l : Nat) (Z : Nat → Prop) (pre : List α) (x : α) (W : World), I Z pre W → Sp (pre ++ [x]) → body.wpIn (Fence.wide.inRound l) 1 P (zPost A Z I (jmp id Ie Ir) (pre ++ [x]) W) (a₁ x) W)
    (hend : ∀ (Z : Nat → Prop) (D : Nat) (xs : List α) (W : World), w.heap.size ≤ D → Z D → ((S xs ∧ I Z xs W) ∨ (Sp xs ∧ Ie Z xs W)) → W.heap[D]? = some (.deferred (some [])) → Q .normal { a with defers := { target := .collected D, args := #[] } :: a.defers } W)
    (hret : ∀ (Z : Nat → Prop) (D : Nat) (pre : List α) (W : World), w.heap.size ≤ D → Z D → Sp pre → Ir Z pre W → W.heap[D]? = some (.deferred (some [])) → Q .ret { a with defers := { target := .collected D, args := #[] } :: a.defers } W) :
    (Code.rangeFunc g ps assign body).wp P (Exit.inBlock id Q) a w := by
  refine wp_rangeFunc_z hg eg hseq hw0 hAlt hps I (jmp id Ie Ir) hI (jmp_apart hIe hIr) h0 a₁ hassign hbody (fun Z D xs W h1 h2 h3 h4 h5 => hend Z D xs W h1 h2 (.inl ⟨h3, h4⟩) h5) ?_
  intro Z D c pre W h1 h2 h3 h4 h5
  unfold jmp at h4
  split at h4
  · obtain ⟨rfl, h4⟩ := h4
    refine wp_exit ?_
    show (if _ then _ else _)
    rw [if_pos rfl]
    exact hend Z D pre W h1 h2 (.inr ⟨h3, h4⟩) h5
  · exact wp_ret (hret Z D pre W h1 h2 h3 h4 h5)
  · exact h4.elim
theorem apart_no {α : Type} : Apart (fun (_ : Nat → Prop) (_ : α) (_ : World) => False) := fun _ _ _ _ _ h _ _ => h

/-- What a loop has left: below its start T alone has turned; Z is new and there. -/
structure Frm (w0 : World) (T Z : Nat → Prop) (W : World) : Prop where
  m : Mdh T w0 W
  n : ∀ k, Z k → w0.heap.size ≤ k
  t : ∀ k, Z k → k < W.heap.size
theorem Frm.refl (w : World) (T : Nat → Prop) : Frm w T (fun _ => False) w := ⟨Mdh.refl _ _, fun _ h => h.elim, fun _ h => h.elim⟩
theorem Frm.apart {β : Type} (w0 : World) (T : Nat → Prop) : Apart (fun Z (_ : β) W => Frm w0 T Z W) := fun Z Z' _ X Y h hm hz =>
  ⟨h.m.then hm (fun k hk => .inr (h.n k hk)), fun k hk => (hz k hk).elim (h.n k) (fun y => Nat.le_trans h.m.size y.1), fun k hk => (hz k hk).elim (fun y => Nat.lt_of_lt_of_le (h.t k y) hm.size) (fun y => y.2)⟩
/-- A round's own step. -/
theorem Frm.step {w0 W W' : World} {T Z S : Nat → Prop} (h : Frm w0 T Z W) (m : Mdh S W W') (hs : ∀ k, S k → T k ∨ w0.heap.size ≤ k) : Frm w0 T Z W' :=
  ⟨h.m.then m hs, h.n, fun k hk => Nat.lt_of_lt_of_le (h.t k hk) m.size⟩

/-! ### The return of a function that holds such loops -/
section
variable {fn : Func} {R : Ending → World → Prop} {a : Act} {w : World} {v : Value}
theorem retM0 (hr : (results fn a.tmps).run P w = .ok v w) (hd : a.defers = []) (hR : R (.returned v) w) : bodyPostM Fence.wide 3 P fn R .ret a w := by
  show LeavesInM _ _ _ _ _ _ _ _ _
  rw [hd]
  exact ⟨v, hr, hR⟩
theorem retM1 {D : Nat} (hd : a.defers = [{ target := .collected D, args := #[] }]) (hk : w.heap[D]? = some (.deferred (some []))) (hr : (results fn a.tmps).run P (w.putObj D (.deferred none)) = .ok v (w.putObj D (.deferred none)))
    (hR : R (.returned v) (w.putObj D (.deferred none))) : bodyPostM Fence.wide 3 P fn R .ret a w := by
  show LeavesInM _ _ _ _ _ _ _ _ _
  rw [hd]
  exact ⟨by simp, .inl ⟨_, _, rfl, run_takeDeferred hk, v, hr, hR⟩⟩
theorem retM2 {D E : Nat} (hd : a.defers = [{ target := .collected E, args := #[] }, { target := .collected D, args := #[] }]) (hne : D ≠ E) (he : w.heap[E]? = some (.deferred (some []))) (hk : w.heap[D]? = some (.deferred (some [])))
    (hr : (results fn a.tmps).run P ((w.putObj E (.deferred none)).putObj D (.deferred none)) = .ok v ((w.putObj E (.deferred none)).putObj D (.deferred none)))
    (hR : R (.returned v) ((w.putObj E (.deferred none)).putObj D (.deferred none))) : bodyPostM Fence.wide 3 P fn R .ret a w := by
  show LeavesInM _ _ _ _ _ _ _ _ _
  rw [hd]
  exact ⟨by simp, .inl ⟨_, _, rfl, run_takeDeferred he, by simp, .inl ⟨_, _, rfl, run_takeDeferred ((World.putObj_heap_other hne).trans hk), v, hr, hR⟩⟩⟩
theorem Gr.putObj {w0 : World} (h : Gr w0 w) {D : Nat} (hD : w0.heap.size ≤ D) (o : Obj) : Gr w0 (w.putObj D o) :=
  Gr.md h (Mdh.putObj (S := fun k => k = D) (Mdh.refl _ w) rfl o) (fun k hk => by omega)
end

/-- A contract from a body that holds such loops. -/
theorem calls_of_wp_marks {f : FuncId} {fn : Func} {c : Code} {args : Array Value} {w : World} {R : Ending → World → Prop}
    (hf : P.funcs[f]? = some fn) (hb : fn.body = some c)
    (h : c.wp P (bodyPostM Fence.wide 3 P fn R) { tmps := args ++ Array.replicate (fn.ntmps - args.size) undef, defers := [] } w) : Calls P f args w R :=
  callsIn_wide.1 (callsIn_of_wp_marks (F := Fence.wide) (n := 3) hf hb trivial (wpIn_wide.2 h) rfl)
end Go.Proofs.Ytiidkehcfoajeaa
