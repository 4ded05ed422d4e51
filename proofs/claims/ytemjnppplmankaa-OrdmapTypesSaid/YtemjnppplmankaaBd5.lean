/- A range over a function whose iterator writes blocks of its own: contract and law in footprints. -/
import Derived.Test.YtemjnppplmankaaBd2
import Derived.RangeFuncNested
import Derived.RangeFuncBound
import Derived.RangeFuncCalls
import Derived.RangeFuncLeaves
import Derived.ControlIn
import Derived.Test.YtemjnppplmankaaBd4
import Derived.Shelf.Abstract
import Derived.Shelf.RegionOpen
import Derived.OwnWalkIn
import Derived.TacticsInMore
import Derived.LoopIn
import Derived.Sort.LoopGhostIn
import Derived.Test.YtemjnppplmankaaBd3
import Derived.LoopN
set_option linter.unusedVariables false
set_option linter.unusedSimpArgs false
namespace Go.Proofs.Ytemjnppplmankaa
open Go.RowKit
variable {F : Fence} {n : Nat} {P : Program}

/-- What is said of a world, but of the blocks Z. -/
def Apart {β : Type} (I : (Nat → Prop) → β → World → Prop) : Prop :=
  ∀ Z Z' s X Y, I Z s X → Mdh Z X Y → (∀ k, Z' k → Z k ∨ (X.heap.size ≤ k ∧ k < Y.heap.size)) → I Z' s Y

theorem Apart.and {β : Type} {I I' : (Nat → Prop) → β → World → Prop} (h : Apart I) (h' : Apart I') : Apart (fun Z s W => I Z s W ∧ I' Z s W) :=
  fun Z Z' s X Y hs hm hz => ⟨h Z Z' s X Y hs.1 hm hz, h' Z Z' s X Y hs.2 hm hz⟩
theorem Apart.pure {β : Type} (p : β → Prop) : Apart (fun _ s (_ : World) => p s) := fun _ _ _ _ _ hs _ _ => hs
theorem Apart.ex {β γ : Type} {I : γ → (Nat → Prop) → β → World → Prop} (h : ∀ c, Apart (I c)) : Apart (fun Z s W => ∃ c, I c Z s W) :=
  fun Z Z' s X Y ⟨c, hs⟩ hm hz => ⟨c, h c Z Z' s X Y hs hm hz⟩
/-- New blocks alone since w0, those of Z among them. -/
theorem Apart.since {β : Type} (w0 : World) : Apart (fun Z (_ : β) W => Gr w0 W ∧ ∀ k, Z k → w0.heap.size ≤ k) :=
  fun Z Z' _ X Y ⟨g, hk⟩ hm hz => ⟨Gr.md g hm hk, fun k h => (hz k h).elim (hk k) (fun y => Nat.le_trans g.sz y.1)⟩
/-- A block that is none of Z's. -/
theorem Apart.block {β : Type} (b : Nat) (o : β → Obj) : Apart (fun Z s W => W.heap[b]? = some (o s) ∧ ¬ Z b) :=
  fun Z Z' _ X Y ⟨h, hz⟩ hm hz' => ⟨hm.blk h hz, fun h' => (hz' b h').elim hz (fun y => by have := (Array.getElem?_eq_some_iff.1 h).1; omega)⟩
/-- All of Z is there. -/
theorem Apart.there {β : Type} : Apart (fun Z (_ : β) W => ∀ k, Z k → k < W.heap.size) := fun _ _ _ _ _ h hm hz k hk => (hz k hk).elim (fun y => Nat.lt_of_lt_of_le (h k y) hm.size) (fun y => y.2)

/-- An iterator. A: what it reads, and the rounds keep; Z: what is its own by then. -/
def SeqZ {α : Type} (F : Fence) (n : Nat) (P : Program) (g : Nat) (lb : Array Value) (encs : α → Array Value) (A : Nat → Prop) (S Sp : List α → Prop) (w : World) : Prop :=
  ∀ (l : Nat) (J Jx : (Nat → Prop) → List α → World → Prop) (W : World),
    Mdh (fun k => ¬ A k) w W → Apart J → Apart Jx →
    (∀ Z pre x X, J Z pre X → Sp (pre ++ [x]) → YieldAt F (n - 1) P l (encs x) X fun e Y =>
      (e = .returned (.bool true) ∧ J Z (pre ++ [x]) Y ∧ Mdh (fun k => ¬ A k ∧ ¬ Z k) X Y) ∨ (e = .returned (.bool false) ∧ Jx Z (pre ++ [x]) Y ∧ Mdh (fun k => ¬ Z k) X Y)) →
    J (fun _ => False) [] W →
    CallsIn F n P g (#[.func (.yield l) #[] #[]] ++ lb) W fun e W' => (∃ v, e = .returned v) ∧ ((∃ Z xs, S xs ∧ J Z xs W') ∨ (∃ Z pre, Sp pre ∧ Jx Z pre W'))

/-- How a round's body may be left. -/
def zPost {α : Type} (A Z : Nat → Prop) (I : (Nat → Prop) → List α → World → Prop) (Ix : Code → (Nat → Prop) → List α → World → Prop) (xs : List α) (W : World) : Exit → Act → World → Prop
  | .normal, _, W' => Mdh (fun k => ¬ A k ∧ ¬ Z k) W W' ∧ I Z xs W'
  | .ret, _, W' => Mdh (fun k => ¬ Z k) W W' ∧ Ix .ret Z xs W'
  | .exit id, _, W' => Mdh (fun k => ¬ Z k) W W' ∧ Ix (.exit id) Z xs W'
  | .goto t, _, W' => Mdh (fun k => ¬ Z k) W W' ∧ Ix (.goto t) Z xs W'
  | .panic _, _, _ => False
  | .outgrown, _, _ => False

theorem Mdh.putObj {S : Nat → Prop} {a b : World} (h : Mdh S a b) {l : Nat} (hl : S l) (o : Obj) : Mdh S a (b.putObj l o) :=
  Mdh.trans h (Mdh.mk (by simp) (fun k _ hn => World.putObj_heap_other (fun e => hn (by rw [e]; exact hl))) rfl rfl rfl)

theorem wpIn_rangeFunc_z {α : Type} {g : Operand} {ps : Array Tmp} {assign body : Code} {Q : Exit → Act → World → Prop} {a : Act} {w : World}
    (hro : F.round = none) (h1 : 1 ≤ n) {gf : Nat} {lb : Array Value} (hg : a.eval g = .func (.func gf) #[] lb) (hFg : F.fn gf) (eg : ∀ args w, (callFunc gf args).run P w = .ok (.enter gf args) w)
    {encs : α → Array Value} {A : Nat → Prop} {S Sp : List α → Prop} {w0 : World} (hseq : SeqZ F (n - 1) P gf lb encs A S Sp w0)
    (hw0 : Mdh (fun k => ¬ A k) w0 w) (hAlt : ∀ k, A k → k < w.heap.size) (hps : ∀ x, (encs x).size = ps.size)
    (I : (Nat → Prop) → List α → World → Prop) (Ix : Code → (Nat → Prop) → List α → World → Prop) (hI : Apart I) (hIx : ∀ c, Apart (Ix c)) (h0 : I (fun _ => False) [] w)
    (Ax : α → Act → (Nat → Prop) → World → Prop) (hAx : ∀ x a', Apart (fun Z (_ : Unit) W => Ax x a' Z W))
    (hassign : ∀ (l : Nat) (Z : Nat → Prop) (pre : List α) (x : α) (W : World) (K : Act → World → Prop), I Z pre W → (∀ a' W', Mdh (fun k => ¬ A k ∧ ¬ Z k) W W' → I Z pre W' → Ax x a' Z W' → K a' W') →
      assign.wpIn (F.inRound l) (n - 1 - 1) P (Exit.then K (fun _ _ _ => False)) { tmps := (ps.zip (encs x)).foldl (fun t (p, v) => t.setIfInBounds p v) a.tmps, defers := [] } W)
    (hbody : ∀ (l : Nat) (Z : Nat → Prop) (pre : List α) (x : α) (a' : Act) (W : World), Z l → (∃ r, W.heap[l]? = some (.loop r)) → I Z pre W → Ax x a' Z W → Sp (pre ++ [x]) →
      body.wpIn (F.inRound l) (n - 1 - 1) P (zPost A Z I Ix (pre ++ [x]) W) a' W)
    (hdone : ∀ (Z : Nat → Prop) (D : Nat) (xs : List α) (W : World), w.heap.size ≤ D → Z D → S xs → I Z xs W → W.heap[D]? = some (.deferred (some [])) → Q .normal { a with defers := { target := .collected D, args := #[] } :: a.defers } W)
    (hstop : ∀ (Z : Nat → Prop) (D : Nat) (c : Code) (pre : List α) (W : World), w.heap.size ≤ D → Z D → Sp pre → Ix c Z pre W → W.heap[D]? = some (.deferred (some [])) → c.wpIn F n P Q { a with defers := { target := .collected D, args := #[] } :: a.defers } W) :
    (Code.rangeFunc g ps assign body).wpIn F n P Q a w := by
  refine wpIn_rangeFunc ?_
  intro fn hfn
  rw [hro]
  obtain ⟨rec, hrec⟩ : ∃ rec : LoopState → Option Code → Loop, rec = fun st pe => { state := st, pending := pe, fn, tmps := a.tmps, params := ps, assign, body, defers := w.heap.size } := ⟨_, rfl⟩
  obtain ⟨W1, hW1⟩ : ∃ W1, (w.alloc (.deferred (some []))).alloc (.loop (rec .ready none)) = W1 := ⟨_, rfl⟩
  have hL1 : W1.heap[w.heap.size + 1]? = some (.loop (rec .ready none)) := by
    rw [← hW1]; have := World.alloc_heap_new (w.alloc (.deferred (some []))) (.loop (rec .ready none)); rwa [World.size_alloc] at this
  have hK1 : W1.heap[w.heap.size]? = some (.deferred (some [])) := by
    rw [← hW1]; exact (Below.heap_alloc _ _ _ (by simp)).trans (World.alloc_heap_new w _)
  have hgr : Gr w W1 := by rw [← hW1]; exact ((Gr.refl w).alloc _).alloc _
  -- the book-keeping's two blocks
  obtain ⟨B, hB⟩ : ∃ B : Nat → Prop, B = fun k => k = w.heap.size ∨ k = w.heap.size + 1 := ⟨_, rfl⟩
  have hBl : B (w.heap.size + 1) := by rw [hB]; exact .inr rfl
  have hBD : B w.heap.size := by rw [hB]; exact .inl rfl
  have hBA : ∀ k, B k → ¬ A k := fun k hk ha => by rw [hB] at hk; have := hAlt k ha; omega
  have hI1 : I (fun k => False ∨ B k) [] W1 := hI _ _ _ _ _ h0 (hgr.mdh _) (fun k hk => by
    rcases hk with hk | hk
    · exact hk.elim
    · rw [hB] at hk; right; have : w.heap.size + 1 < W1.heap.size := (Array.getElem?_eq_some_iff.1 hL1).1; omega)
  refine ⟨w.heap.size + 1, [{ target := .collected w.heap.size, args := #[] }], W1, { target := .fn (.func gf) lb, args := #[.func (.yield (w.heap.size + 1)) #[] #[]] }, W1, gf,
    #[.func (.yield (w.heap.size + 1)) #[] #[]] ++ lb, W1, ?_, ?_, ?_, ?_, fun _ => h1, ?_⟩
  · rw [← hW1, hrec]; exact run_enterLoop_outer _ _ _ _ _
  · simp only [resolve, hg]
    simp [go_sem]
  · intro f' hf'; simp [Target.leads] at hf'; subst hf'; exact hFg
  · simp [invoke, go_sem, eg]
  · have hsz : w.heap.size + 1 < W1.heap.size := (Array.getElem?_eq_some_iff.1 hL1).1
    refine (hseq (w.heap.size + 1)
      (fun Z pre W => I (fun k => Z k ∨ B k) pre W ∧ (W.heap[w.heap.size + 1]? = some (.loop (rec .ready none)) ∧ ¬ Z (w.heap.size + 1)) ∧ (W.heap[w.heap.size]? = some (.deferred (some [])) ∧ ¬ Z w.heap.size))
      (fun Z pre W => ∃ c, Ix c (fun k => Z k ∨ B k) pre W ∧ (W.heap[w.heap.size + 1]? = some (.loop (rec .done (some c))) ∧ ¬ Z (w.heap.size + 1)) ∧ (W.heap[w.heap.size]? = some (.deferred (some [])) ∧ ¬ Z w.heap.size))
      W1 (hw0.gr hgr)
      (fun Z Z' s X Y hs hm hz => ⟨hI _ _ s X Y hs.1 (hm.mono (fun k hk => .inl hk)) (fun k hk => hk.elim (fun h => (hz k h).elim (fun h => .inl (.inl h)) .inr) (fun h => .inl (.inr h))),
        Apart.block (β := Unit) _ (fun _ => .loop (rec .ready none)) Z Z' () X Y hs.2.1 hm hz, Apart.block (β := Unit) _ (fun _ => .deferred (some [])) Z Z' () X Y hs.2.2 hm hz⟩)
      (fun Z Z' s X Y hs hm hz => by
        obtain ⟨c, hc, hl, hk⟩ := hs
        exact ⟨c, hIx c _ _ s X Y hc (hm.mono (fun k hk => .inl hk)) (fun k hk => hk.elim (fun h => (hz k h).elim (fun h => .inl (.inl h)) .inr) (fun h => .inl (.inr h))),
          Apart.block (β := Unit) _ (fun _ => .loop (rec .done (some c))) Z Z' () X Y hl hm hz, Apart.block (β := Unit) _ (fun _ => .deferred (some [])) Z Z' () X Y hk hm hz⟩)
      ?_ ⟨hI1, ⟨hL1, fun h => h⟩, ⟨hK1, fun h => h⟩⟩).mono ?_
    · -- one round
      rintro Z pre x W ⟨hi, ⟨hl, hzl⟩, ⟨hk, hzk⟩⟩ hlen
      have hy := run_yield (P := P) (args := encs x) hl (by rw [hrec]; exact hps x)
      rw [hrec] at hy
      refine ⟨fn, _, assign, body, hy, roundIn_of_wpIn hfn (hassign _ (fun k => Z k ∨ B k) pre x W _ hi ?_)⟩
      clear hy
      intro a' Wa hma hia hax
      have hl' := hma.blk hl (fun h => h.2 (.inr hBl))
      have hk' := hma.blk hk (fun h => h.2 (.inr hBD))
      have hlt : w.heap.size + 1 < Wa.heap.size := (Array.getElem?_eq_some_iff.1 hl').1
      refine ⟨_, run_beginRound hl' (by rw [hrec]), ?_⟩
      have mB : ∀ (X : World) (o : Obj), Mdh (fun k => Z k ∨ B k) X (X.putObj (w.heap.size + 1) o) := fun X o => (Mdh.refl _ X).putObj (.inr hBl) o
      have mA : ∀ (X : World) (o : Obj), Mdh (fun k => ¬ A k ∧ ¬ Z k) X (X.putObj (w.heap.size + 1) o) := fun X o => (Mdh.refl _ X).putObj ⟨hBA _ hBl, hzl⟩ o
      have hl2 : (Wa.putObj (w.heap.size + 1) (.loop { rec .ready none with state := .busy })).heap[w.heap.size + 1]? = some (.loop { rec .ready none with state := .busy }) := World.putObj_heap_same hlt
      have hk2 : (Wa.putObj (w.heap.size + 1) (.loop { rec .ready none with state := .busy })).heap[w.heap.size]? = some (.deferred (some [])) := (World.putObj_heap_other (by omega)).trans hk'
      refine wpIn_mono (hbody _ (fun k => Z k ∨ B k) pre x a' _ (.inr hBl) ⟨_, hl2⟩ (hI _ _ _ _ _ hia (mB _ _) (fun k hk => .inl hk)) (hAx x a' _ _ () _ _ hax (mB _ _) (fun k hk => .inl hk)) hlen) ?_
      have fin : ∀ (jump : Option Code) (W3 : World), Mdh (fun k => ¬ (Z k ∨ B k)) (Wa.putObj (w.heap.size + 1) (.loop { rec .ready none with state := .busy })) W3 →
          (Instr.endRound (w.heap.size + 1) jump).run P W3 = .ok (.bool jump.isNone) (W3.putObj (w.heap.size + 1) (.loop (rec (if jump.isNone then .ready else .done) jump))) ∧
          (W3.putObj (w.heap.size + 1) (.loop (rec (if jump.isNone then .ready else .done) jump))).heap[w.heap.size + 1]? = some (.loop (rec (if jump.isNone then .ready else .done) jump)) ∧
          (W3.putObj (w.heap.size + 1) (.loop (rec (if jump.isNone then .ready else .done) jump))).heap[w.heap.size]? = some (.deferred (some [])) := fun jump W3 hm3 => by
        have hl3 := hm3.blk hl2 (fun h => h (.inr hBl))
        have hk3 := hm3.blk hk2 (fun h => h (.inr hBD))
        have := run_endRound (P := P) jump hl3
        rw [hrec] at this ⊢
        exact ⟨this, World.putObj_heap_same (Array.getElem?_eq_some_iff.1 hl3).1, (World.putObj_heap_other (by omega)).trans hk3⟩
      have outM : ∀ (W3 : World), Mdh (fun k => ¬ (Z k ∨ B k)) (Wa.putObj (w.heap.size + 1) (.loop { rec .ready none with state := .busy })) W3 → ∀ o : Obj, Mdh (fun k => ¬ Z k) W (W3.putObj (w.heap.size + 1) o) := fun W3 hm3 o =>
        (((hma.mono (fun k h hz => h.2 (.inl hz))).trans ((mA Wa _).mono (fun k h => h.2))).trans (hm3.mono (fun k h hz => h (.inl hz)))).trans ((mA W3 o).mono (fun k h => h.2))
      rintro e a3 W3 hp
      cases e with
      | normal =>
        obtain ⟨hm3, hi3⟩ := hp
        obtain ⟨hr, hl4, hk4⟩ := fin none W3 (hm3.mono (fun k h => h.2))
        refine ⟨_, _, hr, .inl ⟨rfl, ⟨hI _ _ _ _ _ hi3 (mB _ _) (fun k hk => .inl hk), ⟨hl4, hzl⟩, ⟨hk4, hzk⟩⟩, ?_⟩⟩
        have h1 : Mdh (fun k => ¬ A k ∧ ¬ Z k) W Wa := hma.mono (fun k h => ⟨h.1, fun hz => h.2 (.inl hz)⟩)
        have h2 : Mdh (fun k => ¬ A k ∧ ¬ Z k) (Wa.putObj (w.heap.size + 1) (.loop { rec .ready none with state := .busy })) W3 := hm3.mono (fun k h => ⟨h.1, fun hz => h.2 (.inl hz)⟩)
        exact ((h1.trans (mA _ _)).trans h2).trans (mA _ _)
      | ret =>
        obtain ⟨hm3, hi3⟩ := hp
        obtain ⟨hr, hl4, hk4⟩ := fin (some .ret) W3 hm3
        exact ⟨_, _, hr, .inr ⟨rfl, ⟨.ret, hIx _ _ _ _ _ _ hi3 (mB _ _) (fun k hk => .inl hk), ⟨hl4, hzl⟩, ⟨hk4, hzk⟩⟩, outM W3 hm3 _⟩⟩
      | exit id =>
        obtain ⟨hm3, hi3⟩ := hp
        obtain ⟨hr, hl4, hk4⟩ := fin (some (.exit id)) W3 hm3
        exact ⟨_, _, hr, .inr ⟨rfl, ⟨.exit id, hIx _ _ _ _ _ _ hi3 (mB _ _) (fun k hk => .inl hk), ⟨hl4, hzl⟩, ⟨hk4, hzk⟩⟩, outM W3 hm3 _⟩⟩
      | goto t =>
        obtain ⟨hm3, hi3⟩ := hp
        obtain ⟨hr, hl4, hk4⟩ := fin (some (.goto t)) W3 hm3
        exact ⟨_, _, hr, .inr ⟨rfl, ⟨.goto t, hIx _ _ _ _ _ _ hi3 (mB _ _) (fun k hk => .inl hk), ⟨hl4, hzl⟩, ⟨hk4, hzk⟩⟩, outM W3 hm3 _⟩⟩
      | panic ch => exact hp.elim
      | outgrown => exact hp.elim
    · -- behind the iterator
      have mB : ∀ (Z : Nat → Prop) (X : World) (o : Obj), Mdh (fun k => Z k ∨ B k) X (X.putObj (w.heap.size + 1) o) := fun Z X o => (Mdh.refl _ X).putObj (.inr hBl) o
      rintro e W2 ⟨⟨v, rfl⟩, (⟨Z, xs, hS, hi, ⟨hl, _⟩, ⟨hk, _⟩⟩ | ⟨Z, pre, hSp, c, hi, ⟨hl, _⟩, ⟨hk, _⟩⟩)⟩
      · exact ⟨none, _, by have := run_endLoop (P := P) hl (by rw [hrec]; simp); rw [hrec] at this; exact this, hdone (fun k => Z k ∨ B k) _ xs _ (Nat.le_refl _) (.inr hBD) hS (hI _ _ _ _ _ hi (mB _ _ _) (fun k hk => .inl hk)) ((World.putObj_heap_other (by omega)).trans hk)⟩
      · exact ⟨some c, _, by have := run_endLoop (P := P) hl (by rw [hrec]; simp); rw [hrec] at this; exact this, hstop (fun k => Z k ∨ B k) _ c pre _ (Nat.le_refl _) (.inr hBD) hSp (hIx c _ _ _ _ _ hi (mB _ _ _) (fun k hk => .inl hk)) ((World.putObj_heap_other (by omega)).trans hk)⟩

/-- The same in a plain walk, where the assignment lays no block. -/
theorem wp_rangeFunc_z {α : Type} {g : Operand} {ps : Array Tmp} {assign body : Code} {Q : Exit → Act → World → Prop} {a : Act} {w : World}
    {gf : Nat} {lb : Array Value} (hg : a.eval g = .func (.func gf) #[] lb) (eg : ∀ args w, (callFunc gf args).run P w = .ok (.enter gf args) w)
    {encs : α → Array Value} {A : Nat → Prop} {S Sp : List α → Prop} {w0 : World} (hseq : SeqZ Fence.wide 2 P gf lb encs A S Sp w0)
    (hw0 : Mdh (fun k => ¬ A k) w0 w) (hAlt : ∀ k, A k → k < w.heap.size) (hps : ∀ x, (encs x).size = ps.size)
    (I : (Nat → Prop) → List α → World → Prop) (Ix : Code → (Nat → Prop) → List α → World → Prop) (hI : Apart I) (hIx : ∀ c, Apart (Ix c)) (h0 : I (fun _ => False) [] w) (a₁ : α → Act)
    (hassign : ∀ (l : Nat) (x : α) (W : World) (K : Act → World → Prop), K (a₁ x) W →
      assign.wpIn (Fence.wide.inRound l) 1 P (Exit.then K (fun _ _ _ => False)) { tmps := (ps.zip (encs x)).foldl (fun t (p, v) => t.setIfInBounds p v) a.tmps, defers := [] } W)
    (hbody : ∀ (l : Nat) (Z : Nat → Prop) (pre : List α) (x : α) (W : World), I Z pre W → Sp (pre ++ [x]) → body.wpIn (Fence.wide.inRound l) 1 P (zPost A Z I Ix (pre ++ [x]) W) (a₁ x) W)
    (hdone : ∀ (Z : Nat → Prop) (D : Nat) (xs : List α) (W : World), w.heap.size ≤ D → Z D → S xs → I Z xs W → W.heap[D]? = some (.deferred (some [])) → Q .normal { a with defers := { target := .collected D, args := #[] } :: a.defers } W)
    (hstop : ∀ (Z : Nat → Prop) (D : Nat) (c : Code) (pre : List α) (W : World), w.heap.size ≤ D → Z D → Sp pre → Ix c Z pre W → W.heap[D]? = some (.deferred (some [])) → c.wp P Q { a with defers := { target := .collected D, args := #[] } :: a.defers } W) :
    (Code.rangeFunc g ps assign body).wp P Q a w :=
  wpIn_wide.1 (wpIn_rangeFunc_z (F := Fence.wide) (n := 3) rfl (by omega) hg trivial eg hseq hw0 hAlt hps I Ix hI hIx h0 (fun x a' _ _ => a' = a₁ x) (fun _ _ _ _ _ _ _ h _ _ => h)
    (fun l _ pre x W K hi hK => hassign l x W K (hK _ W (Mdh.refl _ _) hi rfl))
    (fun l Z pre x a' W _ _ hi ha hlen => by subst ha; exact hbody l Z pre x W hi hlen)
    hdone (fun Z D c pre W h1 h2 h3 h4 h5 => wpIn_wide.2 (hstop Z D c pre W h1 h2 h3 h4 h5)))

/-- The jumps out of a loop in block id. -/
def jmp {α : Type} (id : Nat) (Ie Ir : (Nat → Prop) → List α → World → Prop) : Code → (Nat → Prop) → List α → World → Prop
  | .exit i, Z, s, W => i = id ∧ Ie Z s W
  | .ret, Z, s, W => Ir Z s W
  | _, _, _, _ => False
theorem jmp_apart {α : Type} {id : Nat} {Ie Ir : (Nat → Prop) → List α → World → Prop} (h : Apart Ie) (h' : Apart Ir) (c : Code) : Apart (jmp id Ie Ir c) := by
  intro Z Z' s X Y hs hm hz
  unfold jmp at hs ⊢
  split at hs
  · exact ⟨hs.1, h Z Z' s X Y hs.2 hm hz⟩
  · exact h' Z Z' s X Y hs hm hz
  · exact hs.elim
/-- Where the loop is a block's last: a break ends like the loop's own end. -/
theorem wp_rangeFunc_zb {α : Type} {id : Nat} {g : Operand} {ps : Array Tmp} {assign body : Code} {Q : Exit → Act → World → Prop} {a : Act} {w : World}
    {gf : Nat} {lb : Array Value} (hg : a.eval g = .func (.func gf) #[] lb) (eg : ∀ args w, (callFunc gf args).run P w = .ok (.enter gf args) w)
    {encs : α → Array Value} {A : Nat → Prop} {S Sp : List α → Prop} {w0 : World} (hseq : SeqZ Fence.wide 2 P gf lb encs A S Sp w0)
    (hw0 : Mdh (fun k => ¬ A k) w0 w) (hAlt : ∀ k, A k → k < w.heap.size) (hps : ∀ x, (encs x).size = ps.size)
    (I Ie Ir : (Nat → Prop) → List α → World → Prop) (hI : Apart I) (hIe : Apart Ie) (hIr : Apart Ir) (h0 : I (fun _ => False) [] w) (a₁ : α → Act)
    (hassign : ∀ (l : Nat) (x : α) (W : World) (K : Act → World → Prop), K (a₁ x) W →
      assign.wpIn (Fence.wide.inRound l) 1 P (Exit.then K (fun _ _ _ => False)) { tmps := (ps.zip (encs x)).foldl (fun t (p, v) => t.setIfInBounds p v) a.tmps, defers := [] } W)
    (hbody : ∀ (l : Nat) (Z : Nat → Prop) (pre : List α) (x : α) (W : World), I Z pre W → Sp (pre ++ [x]) → body.wpIn (Fence.wide.inRound l) 1 P (zPost A Z I (jmp id Ie Ir) (pre ++ [x]) W) (a₁ x) W)
    (hend : ∀ (Z : Nat → Prop) (D : Nat) (xs : List α) (W : World), w.heap.size ≤ D → Z D → ((S xs ∧ I Z xs W) ∨ (Sp xs ∧ Ie Z xs W)) → W.heap[D]? = some (.deferred (some [])) → Q .normal { a with defers := { target := .collected D, args := #[] } :: a.defers } W)
    (hret : ∀ (Z : Nat → Prop) (D : Nat) (pre : List α) (W : World), w.heap.size ≤ D → Z D → Sp pre → Ir Z pre W → W.heap[D]? = some (.deferred (some [])) → Q .ret { a with defers := { target := .collected D, args := #[] } :: a.defers } W) :
    (Code.rangeFunc g ps assign body).wp P (Exit.inBlock id Q) a w := by
  refine wp_rangeFunc_z hg eg hseq hw0 hAlt hps I (jmp id Ie Ir) hI (jmp_apart hIe hIr) h0 a₁ hassign hbody (fun Z D xs W h1 h2 h3 h4 h5 => hend Z D xs W h1 h2 (.inl ⟨h3, h4⟩) h5) ?_
  intro Z D c pre W h1 h2 h3 h4 h5
  unfold jmp at h4
  split at h4
  · obtain ⟨rfl, h4⟩ := h4
    refine wp_exit ?_
    show (if _ then _ else _)
    rw [if_pos rfl]
    exact hend Z D pre W h1 h2 (.inr ⟨h3, h4⟩) h5
  · exact wp_ret (hret Z D pre W h1 h2 h3 h4 h5)
  · exact h4.elim
theorem apart_no {α : Type} : Apart (fun (_ : Nat → Prop) (_ : α) (_ : World) => False) := fun _ _ _ _ _ h _ _ => h

/-- What a loop has left: below its start T alone has turned; Z is new and there. -/
structure Frm (w0 : World) (T Z : Nat → Prop) (W : World) : Prop where
  m : Mdh T w0 W
  n : ∀ k, Z k → w0.heap.size ≤ k
  t : ∀ k, Z k → k < W.heap.size
theorem Frm.refl (w : World) (T : Nat → Prop) : Frm w T (fun _ => False) w := ⟨Mdh.refl _ _, fun _ h => h.elim, fun _ h => h.elim⟩
theorem Frm.apart {β : Type} (w0 : World) (T : Nat → Prop) : Apart (fun Z (_ : β) W => Frm w0 T Z W) := fun Z Z' _ X Y h hm hz =>
  ⟨h.m.then hm (fun k hk => .inr (h.n k hk)), fun k hk => (hz k hk).elim (h.n k) (fun y => Nat.le_trans h.m.size y.1), fun k hk => (hz k hk).elim (fun y => Nat.lt_of_lt_of_le (h.t k y) hm.size) (fun y => y.2)⟩
/-- A round's own step. -/
theorem Frm.step {w0 W W' : World} {T Z S : Nat → Prop} (h : Frm w0 T Z W) (m : Mdh S W W') (hs : ∀ k, S k → T k ∨ w0.heap.size ≤ k) : Frm w0 T Z W' :=
  ⟨h.m.then m hs, h.n, fun k hk => Nat.lt_of_lt_of_le (h.t k hk) m.size⟩

/-! ### The return of a function that holds such loops -/
section
variable {fn : Func} {R : Ending → World → Prop} {a : Act} {w : World} {v : Value}
theorem retM0 (hr : (results fn a.tmps).run P w = .ok v w) (hd : a.defers = []) (hR : R (.returned v) w) : bodyPostM Fence.wide 3 P fn R .ret a w := by
  show LeavesInM _ _ _ _ _ _ _ _ _
  rw [hd]
  exact ⟨v, hr, hR⟩
theorem retM1 {D : Nat} (hd : a.defers = [{ target := .collected D, args := #[] }]) (hk : w.heap[D]? = some (.deferred (some []))) (hr : (results fn a.tmps).run P (w.putObj D (.deferred none)) = .ok v (w.putObj D (.deferred none)))
    (hR : R (.returned v) (w.putObj D (.deferred none))) : bodyPostM Fence.wide 3 P fn R .ret a w := by
  show LeavesInM _ _ _ _ _ _ _ _ _
  rw [hd]
  exact ⟨by simp, .inl ⟨_, _, rfl, run_takeDeferred hk, v, hr, hR⟩⟩
theorem retM2 {D E : Nat} (hd : a.defers = [{ target := .collected E, args := #[] }, { target := .collected D, args := #[] }]) (hne : D ≠ E) (he : w.heap[E]? = some (.deferred (some []))) (hk : w.heap[D]? = some (.deferred (some [])))
    (hr : (results fn a.tmps).run P ((w.putObj E (.deferred none)).putObj D (.deferred none)) = .ok v ((w.putObj E (.deferred none)).putObj D (.deferred none)))
    (hR : R (.returned v) ((w.putObj E (.deferred none)).putObj D (.deferred none))) : bodyPostM Fence.wide 3 P fn R .ret a w := by
  show LeavesInM _ _ _ _ _ _ _ _ _
  rw [hd]
  exact ⟨by simp, .inl ⟨_, _, rfl, run_takeDeferred he, by simp, .inl ⟨_, _, rfl, run_takeDeferred ((World.putObj_heap_other hne).trans hk), v, hr, hR⟩⟩⟩
theorem Gr.putObj {w0 : World} (h : Gr w0 w) {D : Nat} (hD : w0.heap.size ≤ D) (o : Obj) : Gr w0 (w.putObj D o) :=
  Gr.md h (Mdh.putObj (S := fun k => k = D) (Mdh.refl _ w) rfl o) (fun k hk => by omega)
end

/-- A contract from a body that holds such loops. -/
theorem calls_of_wp_marks {f : FuncId} {fn : Func} {c : Code} {args : Array Value} {w : World} {R : Ending → World → Prop}
    (hf : P.funcs[f]? = some fn) (hb : fn.body = some c)
    (h : c.wp P (bodyPostM Fence.wide 3 P fn R) { tmps := args ++ Array.replicate (fn.ntmps - args.size) undef, defers := [] } w) : Calls P f args w R :=
  callsIn_wide.1 (callsIn_of_wp_marks (F := Fence.wide) (n := 3) hf hb trivial (wpIn_wide.2 h) rfl)
end Go.Proofs.Ytemjnppplmankaa

/- What the iterators of all map types share. -/
set_option linter.unusedVariables false
set_option linter.unusedSimpArgs false
namespace Go.Proofs.Ytemjnppplmankaa
open Go.RowKit

theorem room_none {F : Fence} (hd : F.depth = none) (k : Nat) : F.room k := fun d h => by rw [hd] at h; cases h
/-- Where no depth is asked the figures are all one. -/
theorem yield_any {m : Nat} (m' : Nat) {P : Program} {l : Nat} {args : Array Value} {W : World} {R : Ending → World → Prop} (h : YieldAt Fence.wide m P l args W R) : YieldAt Fence.wide m' P l args W R := by
  obtain ⟨fn, tmps, assign, body, hy, hR⟩ := h
  exact ⟨fn, tmps, assign, body, hy, hR.1, fun c cs _ => hR.2 c cs (room_none rfl _)⟩
def SinPost {α : Type} (D : List α) (J Jx : (Nat → Prop) → List α → World → Prop) (e : Ending) (W' : World) : Prop := (∃ u, e = .returned u) ∧ ((∃ Z xs, xs = D ∧ J Z xs W') ∨ (∃ Z pre, pre <+: D ∧ Jx Z pre W'))
/-- The blocks of a map. -/
def OMB (p : Option Addr) (v : Value) : Nat → Prop := fun k => (∃ a, p = some a ∧ k = a.block) ∨ v.ownBlock = some k
end Go.Proofs.Ytemjnppplmankaa

/- The iterators of an ordered map, at keys int and values string. Written from YOmd.base by inst.py. -/
set_option linter.unusedVariables false
set_option linter.unusedSimpArgs false
namespace Go.Proofs.Ytemjnppplmankaa
open Go.RowKit Go.Shelf
attribute [local go_sem] OvM cell_ovm obj_ovm
attribute [local go_sem] Oper.semAt_some

def encOis (x : Itis) : Array Value := #[.int .i64 (x.1), .string (x.2)]
theorem VWis.mdh {F : Nat → Prop} {w w' : World} {p : Option Addr} {v : Value} {L : List Itis} (h : VWis w p v L) (g : Mdh F w w') (hf : ∀ k, OMB p v k → ¬ F k) : VWis w' p v L := by
  rcases h with ⟨b, rfl, h⟩ | ⟨h1 | ⟨b, rfl, h1⟩, h2, h3⟩
  · exact .inl ⟨b, rfl, h.mdh g (fun k hk => hf k (hk.elim (fun e => .inl ⟨_, rfl, e⟩) .inr))⟩
  · exact .inr ⟨.inl h1, h2, h3⟩
  · exact .inr ⟨.inr ⟨b, rfl, g.blk h1 (hf b (.inl ⟨_, rfl, rfl⟩))⟩, h2, h3⟩
theorem VWis.lt {w : World} {p : Option Addr} {v : Value} {L : List Itis} (h : VWis w p v L) : ∀ k, OMB p v k → k < w.heap.size := by
  rintro k (⟨a, e, rfl⟩ | hk)
  · rcases h with ⟨b, rfl, h⟩ | ⟨rfl | ⟨b, rfl, h⟩, _⟩
    · obtain rfl := Option.some.inj e; exact blkLt h.blk
    · cases e
    · obtain rfl := Option.some.inj e; exact blkLt h
  · exact h.own.lt hk

set_option maxRecDepth 40000 in
set_option maxHeartbeats 4000000 in
/-- The items from an index on, one by one. -/
theorem sinceis (p : Option Addr) (v : Value) (L : List Itis) (i : Nat) (hi : i ≤ L.length) (hn : L.length ≤ 1000000) (w : World) (h : VWis w p v L) (A : Nat → Prop) (hA : ∀ k, OMB p v k → A k)
    (l : Nat) (J Jx : (Nat → Prop) → List Itis → World → Prop) (W : World) (hW : Mdh (fun k => ¬ A k) w W) (hJ : Apart J) (hJx : Apart Jx)
    (hY : ∀ Z pre x X, J Z pre X → (pre ++ [x]) <+: L.drop i → YieldAt Fence.wide 1 Try.prog l (encOis x) X fun e Y =>
      (e = .returned (.bool true) ∧ J Z (pre ++ [x]) Y ∧ Mdh (fun k => ¬ A k ∧ ¬ Z k) X Y) ∨ (e = .returned (.bool false) ∧ Jx Z (pre ++ [x]) Y ∧ Mdh (fun k => ¬ Z k) X Y))
    (h0 : J (fun _ => False) [] W) :
    CallsIn Fence.wide 1 Try.prog 49 #[.pointer p, .int .i64 i, .func (.yield l) #[] #[]] W (SinPost (L.drop i) J Jx) := by
  have HV := Lib.hid (h.mdh hW (fun k hk hn => hn (hA k hk)))
  obtain ⟨a, cap, rfl, hnc, hcm, hat⟩ := HV.out.at
  have HAT := Lib.hid hat
  unfold maxLen at hcm
  have hi' : (i : Int) ≤ L.length := by omega
  clear h hW hat
  refine callsIn_of_wp Try.func49 rfl trivial ?_ rfl
  simp only [Try.ntmps49, List.size_toArray, List.length_cons, List.length_nil, Nat.reduceAdd, Nat.reduceSub, Array.replicate_succ, Array.replicate_zero, List.push_toArray, List.append_toArray, List.nil_append, List.cons_append]
  gi_wp2_with fail
  refine ⟨trivial, (callsIn_wide.2 (itemsis p _ L _ HV.out)).mono ?_⟩
  rintro e W2 ⟨rfl, rfl⟩
  by_cases hiL : i < L.length
  · obtain ⟨g, rfl, hg0, _, _⟩ := HAT.out i _ (List.getElem?_eq_getElem hiL)
    have hAg : A g := hA g (.inr rfl)
    have hcap : ¬ cap = i := by omega
    clear hg0
    gi_wp2_with fail
    gi_loopg [13] (L.length - i) (fun gk t13 wx => ∃ (j : Nat) (pre : List Itis), t13 = .int .i64 j ∧ J (fun _ => False) pre wx ∧ Hid (Mdh (fun k => ¬ A k) W wx ∧ pre = (L.drop i).take j ∧ j + gk = L.length - i))
    case atStart => exact ⟨0, [], rfl, h0, Lib.hid ⟨Mdh.refl _ _, by simp, by omega⟩⟩
    case round =>
      obtain ⟨j, pre, rfl, hJp, H⟩ := hrel
      clear h0
      by_cases hlt : j < L.length - i
      · have hij : i + j < L.length := by omega
        have hlt' : (j : Int) < ((L.length - i : Nat) : Int) := by omega
        have hx : L[i + j]? = some (L[i + j]'hij) := List.getElem?_eq_getElem hij
        obtain ⟨g', he, _, c0, c1⟩ := HAT.out (i + j) _ hx
        obtain rfl : g = g' := by simpa using he
        have d0 := H.out.1.keep c0 (fun hn => hn hAg)
        have d1 := H.out.1.keep c1 (fun hn => hn hAg)
        rw [show (i + j) * 2 = i * 2 + j * 2 by omega] at d0 d1
        have HPRE : Hid (pre ++ [L[i + j]'hij] <+: L.drop i) := Lib.hid (by
          rw [H.out.2.1]
          have e : (L.drop i).take (j + 1) = (L.drop i).take j ++ [L[i + j]'hij] := by
            rw [List.take_add_one, List.getElem?_drop, hx]; rfl
          rw [← e]
          exact List.take_prefix _ _)
        have HTK : Hid (pre ++ [L[i + j]'hij] = (L.drop i).take (j + 1)) := Lib.hid (by
          rw [H.out.2.1, List.take_add_one, List.getElem?_drop, hx]; rfl)
        generalize L[i + j]'hij = x at *
        obtain ⟨x1, x2⟩ := x
        simp only at d0 d1
        have hJ4 : J (fun _ => False) pre (wr.alloc (.cells #[.int .i64 (x1), .string (x2)] 94)) := hJ _ _ _ _ _ hJp ((Mdh.refl _ wr).alloc _) (fun k hk => .inl hk)
        obtain ⟨fn, tmps, assign, body, hy, hR⟩ := yield_any 0 (hY _ pre (x1, x2) _ hJ4 HPRE.out)
        have HM4 := Lib.hid (H.out.1.trans ((Mdh.refl (fun k => ¬ A k) wr).alloc (.cells #[.int .i64 (x1), .string (x2)] 94)))
        simp only [encOis] at hy
        clear hx c0 c1 he hJp hij
        gi_wp2_with fail
        refine hR.mono ?_
        rintro e W5 (⟨rfl, hJ5, hm5⟩ | ⟨rfl, hJx5, _⟩)
        · have HM5 := Lib.hid (HM4.out.trans (hm5.mono (fun k hk => hk.1)))
          clear hm5 hR hy
          gi_wp2_with fail
          go_roundg (gk - 1)
          case rel => exact ⟨j + 1, _, by go_num, hJ5, Lib.hid ⟨HM5.out, HTK.out, by have := H.out.2.2; omega⟩⟩
          case measure => have := H.out.2.2; omega
        · gi_wp2_with fail
          refine bodyPost_ret (results_none rfl _ _ _) rfl ?_
          exact ⟨⟨_, rfl⟩, .inr ⟨_, _, HPRE.out, hJx5⟩⟩
      · have hlt' : ¬ (j : Int) < ((L.length - i : Nat) : Int) := by omega
        gi_wp2_with fail
        go_end0
        exact ⟨⟨_, rfl⟩, .inl ⟨_, pre, by rw [H.out.2.1, List.take_of_length_le (by rw [List.length_drop]; omega)], hJp⟩⟩
  · obtain rfl : i = L.length := by omega
    have HE : Hid (([] : List Itis) = L.drop L.length) := Lib.hid (by rw [List.drop_length])
    rcases a with _ | a
    all_goals
      gi_wp2_with fail
      all_goals
        gi_loopg [13] 0 (fun gk t13 wx => t13 = .int .i64 0 ∧ wx = W)
        case atStart => exact ⟨rfl, rfl⟩
        case round =>
          obtain ⟨rfl, rfl⟩ := hrel
          gi_wp2_with fail
          go_end0
          exact ⟨⟨_, rfl⟩, .inl ⟨_, [], by first | exact HE.out | rfl, h0⟩⟩

set_option maxRecDepth 40000 in
theorem FromOis (p : Option Addr) (k : Int) (w : World) :
    Calls Try.prog 29 #[.pointer p, .int .i64 (k)] w fun e w' => ∃ bb bk, e = .returned (.func (.func 48) #[] #[.pointer (some ⟨bb, 0, none⟩), .pointer (some ⟨bk, 0, none⟩)]) ∧ w'.cell? ⟨bb, 0, none⟩ = some (.pointer p) ∧ w'.cell? ⟨bk, 0, none⟩ = some (.int .i64 (k)) ∧ w.heap.size ≤ bb ∧ w.heap.size ≤ bk ∧ Gr w w' := by
  go_enter Try.func29, Try.ntmps29
  go_wp2
  go_ret
  exact ⟨_, _, rfl, by simp [go_sem], by simp [go_sem], Nat.le_refl _, by simp, by (repeat (first | (with_reducible exact Gr.refl _) | assumption | (with_reducible apply Gr.from_drew) | (with_reducible apply Gr.alloc) | (with_reducible apply Gr.drew) | (with_reducible refine Gr.trans ?_ (by assumption)) | (with_reducible refine Gr.setCell ?_ (by omega) _)))⟩

set_option maxRecDepth 40000 in
set_option maxHeartbeats 2000000 in
theorem SeqFis (p : Option Addr) (v : Value) (L : List Itis) (k0 : Int) (hn : L.length ≤ 1000000) (bb bk : Nat) (w : World) (h : VWis w p v L) (hbb : w.cell? ⟨bb, 0, none⟩ = some (.pointer p)) (hbk : w.cell? ⟨bk, 0, none⟩ = some (.int .i64 (k0))) :
    SeqZ Fence.wide 2 Try.prog 48 #[.pointer (some ⟨bb, 0, none⟩), .pointer (some ⟨bk, 0, none⟩)] encOis (fun k => k = bb ∨ k = bk ∨ OMB p v k) (fun xs => xs = L.drop (rk ltZ L k0)) (fun pre => pre <+: L.drop (rk ltZ L k0)) w := by
  intro l J Jx W hW hJ hJx hY h0
  have hbW : W.cell? ⟨bb, 0, none⟩ = some (.pointer p) := hW.keep hbb (fun h => h (.inl rfl))
  have hkW : W.cell? ⟨bk, 0, none⟩ = some (.int .i64 (k0)) := hW.keep hbk (fun h => h (.inr (.inl rfl)))
  have HV := Lib.hid (h.mdh hW (fun k hk hn => hn (.inr (.inr hk))))
  have HS : Hid (∀ W1, Gr W W1 → CallsIn Fence.wide 1 Try.prog 49 #[.pointer p, .int .i64 (rk ltZ L k0 : Nat), .func (.yield l) #[] #[]] W1 (SinPost (L.drop (rk ltZ L k0)) J Jx)) := Lib.hid (fun W1 g1 => sinceis p v L (rk ltZ L k0) (rk_le L k0) hn w h (fun k => k = bb ∨ k = bk ∨ OMB p v k) (fun k hk => .inr (.inr hk)) l J Jx W1 (hW.gr g1) hJ hJx hY (hJ _ _ _ _ _ h0 (g1.mdh _) (fun k hk => .inl hk)))
  refine callsIn_of_wp Try.func48 rfl trivial ?_ rfl
  simp only [Try.ntmps48, List.size_toArray, List.length_cons, List.length_nil, Nat.reduceAdd, Nat.reduceSub, Array.replicate_succ, Array.replicate_zero, List.push_toArray, List.append_toArray, List.nil_append, List.cons_append]
  clear hY h0 hW
  have mixed : Try.prog.follows .mixedOrders = true := by kernel_rfl
  gi_region_with_o (first
    | (refine ⟨trivial, (callsIn_wide.2 (Rankis p v L k0 _ (HV.out.gr (by (repeat (first | (with_reducible exact Gr.refl _) | assumption | (with_reducible apply Gr.from_drew) | (with_reducible apply Gr.alloc) | (with_reducible apply Gr.drew) | (with_reducible refine Gr.trans ?_ (by assumption)) | (with_reducible refine Gr.setCell ?_ (by omega) _))))) hn)).mono ?_⟩; rintro e W2 ⟨rfl, hg⟩; have hbW2 := hg.keep (show W.drew.cell? _ = _ from hbW))
    | (refine ⟨trivial, (HS.out _ (by (repeat (first | (with_reducible exact Gr.refl _) | assumption | (with_reducible apply Gr.from_drew) | (with_reducible apply Gr.alloc) | (with_reducible apply Gr.drew) | (with_reducible refine Gr.trans ?_ (by assumption)) | (with_reducible refine Gr.setCell ?_ (by omega) _))))).mono ?_⟩; rintro e W3 ⟨⟨u, rfl⟩, hc⟩))
  all_goals
    gi_wp2_with fail
    go_end0
    exact ⟨⟨_, rfl⟩, hc⟩

theorem yieldsTwois (fn : Nat) (caps : Array Value) (w : World) : Calls Try.prog 28 #[.func (.func fn) #[] caps] w fun e w' => e = .returned (.func (.func fn) #[] caps) ∧ w = w' := by
  have k1 : ∀ w : World, (binOp .eql 74 (.func (.func fn) #[] caps) .nilFunc).run Try.prog w = .ok (.bool false) w := fun w => by kernel_rfl
  go_enter Try.func28, Try.ntmps28
  go_wp2
  go_ret
  exact ⟨rfl, rfl⟩

/-- A map all of whose blocks are new since w0, and blocks beside it that stay. -/
def OMWis (w0 w : World) (b : Nat) (L : List Itis) (K : List (Nat × Obj)) : Prop := ∃ v, OMis w b v L ∧ w0.heap.size ≤ b ∧ (∀ g, v.ownBlock = some g → w0.heap.size ≤ g) ∧ Gr w0 w ∧ ∀ q ∈ K, w.heap[q.1]? = some q.2 ∧ ¬ OMB (some ⟨b, 0, none⟩) v q.1
section
variable {w0 w w' : World} {b : Nat} {L : List Itis} {K : List (Nat × Obj)}
theorem OMWis.g (h : OMWis w0 w b L K) : Gr w0 w := let ⟨_, _, _, _, g, _⟩ := h; g
theorem OMWis.gr (h : OMWis w0 w b L K) (g : Gr w w') : OMWis w0 w' b L K := let ⟨v, h1, h2, h3, h4, h5⟩ := h; ⟨v, h1.gr g, h2, h3, h4.trans g, fun q hq => ⟨g.blk (h5 q hq).1, (h5 q hq).2⟩⟩
theorem OMWis.vw (h : OMWis w0 w b L K) : ∃ v, VWis w (some ⟨b, 0, none⟩) v L := let ⟨v, h1, _⟩ := h; ⟨v, .inl ⟨b, rfl, h1⟩⟩
theorem OMWis.srt (h : OMWis w0 w b L K) : Srt ltZ L := let ⟨_, h1, _⟩ := h; h1.srt
theorem OMWis.kept (h : OMWis w0 w b L K) {q : Nat} {o : Obj} (hq : (q, o) ∈ K) : w.heap[q]? = some o := let ⟨_, _, _, _, _, h5⟩ := h; (h5 (q, o) hq).1
/-- A block that the call itself has laid since. -/
theorem OMWis.keep (h : OMWis w0 w b L K) (o : Obj) : OMWis w0 (w.alloc o) b L ((w.heap.size, o) :: K) := by
  obtain ⟨v, h1, h2, h3, h4, h5⟩ := h
  refine ⟨v, h1.gr ((Gr.refl w).alloc o), h2, h3, h4.alloc o, fun q hq => ?_⟩
  rcases List.mem_cons.1 hq with rfl | hq
  · exact ⟨blkNew w o, fun hb => by have := VWis.lt (.inl ⟨b, rfl, h1⟩) _ hb; omega⟩
  · exact ⟨blkOld (h5 q hq).1, (h5 q hq).2⟩
theorem OMWis.drop (h : OMWis w0 w b L K) (K' : List (Nat × Obj)) (hk : ∀ q ∈ K', q ∈ K) : OMWis w0 w b L K' := let ⟨v, h1, h2, h3, h4, h5⟩ := h; ⟨v, h1, h2, h3, h4, fun q hq => h5 q (hk q hq)⟩
theorem NewWis (w0 w : World) (g : Gr w0 w) : Calls Try.prog 23 #[] w fun e w' => ∃ b, e = .returned (.pointer (some ⟨b, 0, none⟩)) ∧ OMWis w0 w' b [] [] :=
  (NewOis w).mono fun e w' ⟨he, h, hg⟩ => ⟨_, he, _, h, g.sz, fun g hg => (by cases hg), g.trans hg, fun q hq => (by cases hq)⟩
theorem SetWis (k : Int) (u : ByteArray) (h : OMWis w0 w b L K) (hn : L.length ≤ 100000) :
    Calls Try.prog 24 #[.pointer (some ⟨b, 0, none⟩), .int .i64 (k), .string (u)] w fun e w' => e = .returned (.tuple #[lookVis L k, .bool (hasBis L k), .int .i64 0]) ∧ OMWis w0 w' b (putL ltZ L k u) K := by
  obtain ⟨v, h1, h2, h3, h4, h5⟩ := h
  refine (Setis b v L k u w h1 hn).mono ?_
  rintro e w' ⟨he, v', hm, ho, hd⟩
  have hs : ∀ k, (k = b ∨ v.ownBlock = some k) → w0.heap.size ≤ k := fun k hk => hk.elim (fun e => e ▸ h2) (h3 k)
  refine ⟨he, v', hm, h2, fun g hg => (ho g hg).elim (h3 g) (fun y => Nat.le_trans h4.sz y), h4.md hd hs, fun q hq => ?_⟩
  obtain ⟨a1, a2⟩ := h5 q hq
  refine ⟨hd.blk a1 (fun hk => a2 (hk.elim (fun e => .inl ⟨_, rfl, e⟩) .inr)), ?_⟩
  rintro (⟨a, ha, e⟩ | hg)
  · exact a2 (.inl ⟨a, ha, e⟩)
  · rcases ho _ hg with y | y
    · exact a2 (.inr y)
    · have := blkLt a1; omega
theorem DeleteWis (k : Int) (h : OMWis w0 w b L K) (hn : L.length ≤ 100000) :
    Calls Try.prog 30 #[.pointer (some ⟨b, 0, none⟩), .int .i64 (k)] w fun e w' => e = .returned (.tuple #[lookVis L k, .bool (hasBis L k)]) ∧ OMWis w0 w' b (delL ltZ L k) K := by
  obtain ⟨v, h1, h2, h3, h4, h5⟩ := h
  refine (DeleteOis b v L k w h1 hn).mono ?_
  rintro e w' ⟨he, v', hm, ho, hd⟩
  have hs : ∀ k, (k = b ∨ v.ownBlock = some k) → w0.heap.size ≤ k := fun k hk => hk.elim (fun e => e ▸ h2) (h3 k)
  refine ⟨he, v', hm, h2, fun g hg => (ho g hg).elim (h3 g) (fun y => Nat.le_trans h4.sz y), h4.md hd hs, fun q hq => ?_⟩
  obtain ⟨a1, a2⟩ := h5 q hq
  refine ⟨hd.blk a1 (fun hk => a2 (hk.elim (fun e => .inl ⟨_, rfl, e⟩) .inr)), ?_⟩
  rintro (⟨a, ha, e⟩ | hg)
  · exact a2 (.inl ⟨a, ha, e⟩)
  · rcases ho _ hg with y | y
    · exact a2 (.inr y)
    · have := blkLt a1; omega
end
end Go.Proofs.Ytemjnppplmankaa

/- A row of the caller's own in a box, beside an iterator. -/
set_option linter.unusedVariables false
set_option linter.unusedSimpArgs false
namespace Go.Proofs.Ytemjnppplmankaa
open Go.RowKit

/-- The block B holds the slice v; its row holds xs. None of them is Z's. -/
structure BoxRow (W : World) (Z : Nat → Prop) (B : Nat) (t e : TypeId) (v : Value) (xs : List Value) : Prop where
  box : W.heap[B]? = some (.cells #[v] t)
  nz : ¬ Z B
  own : Own W e 1 v xs.length xs
  rz : ∀ g, v.ownBlock = some g → ¬ Z g ∧ B < g
section
variable {W W' : World} {Z Z' : Nat → Prop} {B : Nat} {t e : TypeId} {v : Value} {xs : List Value}
theorem BoxRow.lt (h : BoxRow W Z B t e v xs) : B < W.heap.size := blkLt h.box
theorem BoxRow.cell (h : BoxRow W Z B t e v xs) : W.cell? ⟨B, 0, none⟩ = some v := by rw [(cellsOf h.box).1]; rfl
theorem BoxRow.fr (h : BoxRow W Z B t e v xs) (i : Nat) : W.frozen? ⟨B, i, none⟩ = false := (cellsOf h.box).2 i
/-- What turns other blocks leaves it. -/
theorem BoxRow.mdh {S : Nat → Prop} (h : BoxRow W Z B t e v xs) (m : Mdh S W W') (hB : ¬ S B) (hr : ∀ g, v.ownBlock = some g → ¬ S g) : BoxRow W' Z B t e v xs :=
  ⟨m.blk h.box hB, h.nz, h.own.mdh m hr, h.rz⟩
theorem BoxRow.z (h : BoxRow W Z B t e v xs) (m : Mdh Z W W') (hz : ∀ k, Z' k → Z k ∨ (W.heap.size ≤ k ∧ k < W'.heap.size)) : BoxRow W' Z' B t e v xs :=
  ⟨m.blk h.box h.nz, fun hk => (hz _ hk).elim h.nz (fun y => by have := h.lt; omega), h.own.mdh m (fun g hg => (h.rz g hg).1),
    fun g hg => ⟨fun hk => (hz _ hk).elim (h.rz g hg).1 (fun y => by have := h.own.lt hg; omega), (h.rz g hg).2⟩⟩
theorem BoxRow.apart {β : Type} (B : Nat) (t e : TypeId) (v : Value) (xs : β → List Value) : Apart (fun Z s W => BoxRow W Z B t e v (xs s)) := fun _ _ _ _ _ h hm hz => h.z hm hz
theorem BoxRow.at2 {W1 w2 : World} (h : BoxRow W Z B t e v xs) (g1 : Gr W W1) (hg : W1.grownBy w2 v.ownBlock) : w2.heap[B]? = some (.cells #[v] t) :=
  (hg.block B (by have := h.lt; have := g1.sz; omega) (fun e => by have := (h.rz B e.symm).2; omega)).trans (g1.blk h.box)
/-- Behind an append and the store of its slice. -/
theorem BoxRow.app {W1 w2 : World} {g cap : Nat} {x : Value} (h : BoxRow W Z B t e v xs) (hZ : ∀ k, Z k → k < W.heap.size) (g1 : Gr W W1)
    (hown : Own w2 e 1 (.slice (some ⟨g, 0, none⟩) (xs.length + 1) cap) (xs.length + 1) (xs ++ [x])) (hw : v.ownBlock = some g ∨ W1.heap.size ≤ g) (hg : W1.grownBy w2 v.ownBlock) :
    BoxRow (w2.setCell ⟨B, 0, none⟩ (.slice (some ⟨g, 0, none⟩) (xs.length + 1) cap)) Z B t e (.slice (some ⟨g, 0, none⟩) (xs.length + 1) cap) (xs ++ [x]) ∧
      Mdh (fun k => k = B ∨ v.ownBlock = some k) W (w2.setCell ⟨B, 0, none⟩ (.slice (some ⟨g, 0, none⟩) (xs.length + 1) cap)) := by
  have hBg : B < g := hw.elim (fun e => (h.rz g e).2) (fun y => by have := h.lt; have := g1.sz; omega)
  have hzg : ¬ Z g := hw.elim (fun e => (h.rz g e).1) (fun y hk => by have := hZ g hk; have := g1.sz; omega)
  have hb2 : w2.heap[B]? = some (.cells #[v] t) := (hg.block B (by have := h.lt; have := g1.sz; omega) (fun e => by have := (h.rz B e.symm).2; omega)).trans (g1.blk h.box)
  refine ⟨⟨?_, h.nz, ?_, fun k hk => ?_⟩, ?_⟩
  · have := blkSet (j := 0) (u := .slice (some ⟨g, 0, none⟩) (xs.length + 1) cap) hb2
    simpa using this
  · have := hown.other (p := ⟨B, 0, none⟩) (by simp [Value.ownBlock]; omega) (.slice (some ⟨g, 0, none⟩) (xs.length + 1) cap)
    simpa using this
  · simp [Value.ownBlock] at hk; subst hk; exact ⟨hzg, hBg⟩
  · exact ((((Mdh.refl _ W).gr g1).grown hg (fun r hr => .inr hr)).setCell (.inl rfl) _)
end
end Go.Proofs.Ytemjnppplmankaa

/- slices.Equal at rows of ints; the examples of chapter 3. -/
set_option linter.unusedVariables false
set_option linter.unusedSimpArgs false
namespace Go.Proofs.Ytemjnppplmankaa
open Go.RowKit Go.Shelf
attribute [local go_sem] OvM cell_ovm obj_ovm
attribute [local go_sem] Oper.semAt_some

abbrev iv (x : Int) : Value := .int .i64 x
theorem own_cells {w : World} {t : TypeId} {v : Value} {l : List Value} (h : Own w t 1 v l.length l) : ∃ a cap, v = .slice a l.length cap ∧ l.length ≤ cap ∧ cap ≤ maxLen ∧ ∀ i u, l[i]? = some u → ∃ g, a = some ⟨g, 0, none⟩ ∧ w.cell? ⟨g, i, none⟩ = some u := by
  rcases h.2 with ⟨hv, h0⟩ | ⟨g, cap, cur, hv, _, hg, h1, h2, h3, h4⟩
  · have hL : l = [] := List.eq_nil_of_length_eq_zero h0
    subst hL
    exact ⟨none, 0, hv, Nat.le_refl _, by simp [maxLen], fun i x hx => by simp at hx⟩
  · subst hv
    refine ⟨_, cap, rfl, h1, h2, fun i x hx => ⟨g, rfl, ?_⟩⟩
    have hc := h.cells (g := g) rfl i x hx
    rwa [show (⟨g, 0, none⟩ : Addr).add i = ⟨g, i, none⟩ by unfold Addr.add; split <;> simp_all] at hc

set_option maxRecDepth 40000 in
set_option maxHeartbeats 1000000 in
theorem EqualI (l1 l2 : List Int) (v1 v2 : Value) (w : World) (h1 : Own w 3 1 v1 l1.length (l1.map iv)) (h2 : Own w 3 1 v2 l2.length (l2.map iv)) (hn : l1.length ≤ 1000000) :
    Calls Try.prog 33 #[v1, v2] w fun e w' => e = .returned (.bool (decide (l1 = l2))) ∧ Gr w w' := by
  obtain ⟨a1, cap1, rfl, hc1, hm1, hat1⟩ := own_cells (by rw [List.length_map]; exact h1)
  obtain ⟨a2, cap2, rfl, hc2, hm2, hat2⟩ := own_cells (by rw [List.length_map]; exact h2)
  simp only [List.length_map] at *
  have HA1 := Lib.hid hat1
  have HA2 := Lib.hid hat2
  clear h1 h2 hat1 hat2
  unfold maxLen at hm1 hm2
  by_cases hl : l1.length = l2.length
  · go_enter Try.func33, Try.ntmps33
    rw [← hl]
    rw [← hl] at hc2
    have HL := Lib.hid hl
    clear hl
    go_wp2_with fail
    go_loopw [13] (fun i wx => ∃ k : Nat, k ≤ l1.length ∧ i = .int .i64 k ∧ Gr w wx ∧ Hid (l1.take k = l2.take k)) (fun i _ => l1.length - (intOf i).toNat)
    case atStart => exact ⟨0, by omega, rfl, by (repeat (first | (with_reducible exact Gr.refl _) | assumption | (with_reducible apply Gr.from_drew) | (with_reducible apply Gr.alloc) | (with_reducible apply Gr.drew) | (with_reducible refine Gr.trans ?_ (by assumption)) | (with_reducible refine Gr.setCell ?_ (by omega) _))), Lib.hid (by simp)⟩
    case round =>
      obtain ⟨k, hk, rfl, hg, HT⟩ := hrel
      by_cases hlt : k < l1.length
      · have hlt' : (k : Int) < l1.length := by omega
        have hx : l1[k]? = some (l1[k]'hlt) := List.getElem?_eq_getElem hlt
        have hy : l2[k]? = some (l2[k]'(by rw [← HL.out]; exact hlt)) := List.getElem?_eq_getElem _
        obtain ⟨g, rfl, c0⟩ := HA1.out k _ (by rw [List.getElem?_map, hx]; rfl)
        obtain ⟨g', rfl, c1⟩ := HA2.out k _ (by rw [List.getElem?_map, hy]; rfl)
        have d0 := hg.keep c0
        have d1 := hg.keep c1
        have HX := Lib.hid hx
        have HY := Lib.hid hy
        generalize l1[k]'hlt = x at *
        generalize l2[k]'(by rw [← HL.out]; exact hlt) = y at *
        clear c0 c1 hx hy
        by_cases hxy : x = y
        · subst hxy
          go_wp2
          refine wp_region_flo (fun _ => False) [] [] (by kernel_rfl) (by kernel_rfl) (fun _ h => h.elim) ?_
          refine flo_seg 9 rfl ?_
          simp only [List.take_succ_cons, List.take_zero, List.drop_succ_cons, List.drop_zero]
          repeat (go_big_quiet_step (fail))
          refine wpQuiet_nil ?_
          refine flo_nil ?_
          go_wp2
          go_roundw
          case rel => exact ⟨k + 1, by omega, by go_num, by (repeat (first | (with_reducible exact Gr.refl _) | assumption | (with_reducible apply Gr.from_drew) | (with_reducible apply Gr.alloc) | (with_reducible apply Gr.drew) | (with_reducible refine Gr.trans ?_ (by assumption)) | (with_reducible refine Gr.setCell ?_ (by omega) _))), Lib.hid (by rw [List.take_add_one, List.take_add_one, HT.out, HX.out, HY.out])⟩
          case measure => simp [intOf]; omega
        · have hb := beq_false_of_ne hxy
          have HNE : Hid (decide (l1 = l2) = false) := Lib.hid (by
            apply decide_eq_false
            rintro rfl
            rw [HX.out] at HY
            exact hxy (Option.some.inj HY.out))
          go_wp2
          refine wp_region_flo (fun _ => False) [] [] (by kernel_rfl) (by kernel_rfl) (fun _ h => h.elim) ?_
          refine flo_seg 9 rfl ?_
          simp only [List.take_succ_cons, List.take_zero, List.drop_succ_cons, List.drop_zero]
          repeat (go_big_quiet_step (fail))
          refine wpQuiet_nil ?_
          refine flo_nil ?_
          go_wp2
          go_ret
          exact ⟨by rw [HNE.out]; rfl, by (repeat (first | (with_reducible exact Gr.refl _) | assumption | (with_reducible apply Gr.from_drew) | (with_reducible apply Gr.alloc) | (with_reducible apply Gr.drew) | (with_reducible refine Gr.trans ?_ (by assumption)) | (with_reducible refine Gr.setCell ?_ (by omega) _)))⟩
      · have hlt' : ¬ (k : Int) < l1.length := by omega
        have HEQ : Hid (decide (l1 = l2) = true) := Lib.hid (by
          apply decide_eq_true
          have := HT.out
          rwa [List.take_of_length_le (by omega), List.take_of_length_le (by have := HL.out; omega)] at this)
        go_wp2
        go_ret
        exact ⟨by rw [HEQ.out]; rfl, hg⟩
  · have HNE : Hid (decide (l1 = l2) = false) := Lib.hid (decide_eq_false (fun e => hl (by rw [e])))
    have hb : ((l1.length : Int) == l2.length) = false := beq_false_of_ne (by omega)
    rw [HNE.out]
    go_enter Try.func33, Try.ntmps33
    go_wp2
    go_ret
    exact ⟨rfl, Gr.refl w⟩

theorem box1 {w : World} {b : Nat} {v : Value} {t : TypeId} (h : w.heap[b]? = some (.cells #[v] t)) : w.cell? ⟨b, 0, none⟩ = some v ∧ ∀ j, w.frozen? ⟨b, j, none⟩ = false :=
  ⟨by rw [(cellsOf h).1]; rfl, (cellsOf h).2⟩
theorem own_val {w : World} {t : TypeId} {v : Value} {n : Nat} {xs : List Value} (h : Own w t 1 v n xs) : ∃ a cap, v = .slice a n cap ∧ n ≤ cap ∧ cap ≤ maxLen := by
  rcases h.2 with ⟨rfl, rfl⟩ | ⟨g, cap, cur, rfl, _, _, h1, h2, _⟩
  · exact ⟨none, 0, rfl, Nat.le_refl _, by simp [maxLen]⟩
  · exact ⟨_, cap, rfl, h1, h2⟩
theorem Try.infoInt : (Try.prog.info? 3).map (fun i => (i.zero, i.size, i.bytes)) = some (some (.int .i64 0), 1, 8) := by kernel_rfl
theorem news1 (w1 : World) (x : Value) (t : TypeId) : ∀ j u, [x][j]? = some u → (w1.alloc (.cells #[x] t)).cell? ((⟨w1.heap.size, 0, none⟩ : Addr).add j) = some u := by
  intro j u hj
  match j with
  | 0 => simp at hj; subst hj; simp [go_sem, Addr.add]
  | j + 1 => simp at hj

theorem OMWis.touch {w0 w w' : World} {b q : Nat} {o : Obj} {L : List Itis} {K : List (Nat × Obj)} (h : OMWis w0 w b L ((q, o) :: K)) (m : Mdh (fun k => k = q) w w') (hq : w0.heap.size ≤ q) (hK : ∀ r ∈ K, r.1 ≠ q) : OMWis w0 w' b L K := by
  obtain ⟨v, h1, h2, h3, h4, h5⟩ := h
  have hn := (h5 _ (List.mem_cons_self)).2
  refine ⟨v, h1.mdh m (fun k hk e => hn (by subst e; exact hk.elim (fun e => .inl ⟨_, rfl, e⟩) .inr)), h2, h3, h4.md m (fun k hk => by rw [hk]; exact hq), fun r hr => ?_⟩
  obtain ⟨a1, a2⟩ := h5 r (List.mem_cons_of_mem _ hr)
  exact ⟨m.blk a1 (hK r hr), a2⟩
theorem AtW {w0 w : World} {b : Nat} {L : List Itis} {K : List (Nat × Obj)} (i : Int) (h : OMWis w0 w b L K) :
    Calls Try.prog 27 #[.pointer (some ⟨b, 0, none⟩), .int .i64 i] w fun e w' => e = .returned (atEis (some ⟨b, 0, none⟩) true (atO _ L i)) ∧ Gr w w' :=
  let ⟨v, h1, _⟩ := h; Atis b v L i w h1

set_option maxRecDepth 40000 in
set_option maxHeartbeats 8000000 in
theorem works_any (w : World) : Calls Try.prog 13 #[] w fun e w' => e = .returned (.bool true) ∧ Gr w w' := by
  obtain ⟨i0, hi, hz0, hz1, hz2⟩ := info_parts Try.infoInt
  refine calls_of_wp_marks Try.func13 rfl ?_
  simp only [Try.ntmps13, List.size_toArray, List.length_cons, List.length_nil, Nat.reduceAdd, Nat.reduceSub, Array.replicate_succ, Array.replicate_zero, List.push_toArray, List.append_toArray, List.nil_append, List.cons_append]
  go_wp2_with fail
  refine (NewWis w w (Gr.refl w)).mono ?_
  rintro e w1 ⟨b, rfl, h1⟩
  have H0 := Lib.hid (h1.keep (.cells #[.int .i64 5, .string ⟨#[97]⟩, .string ⟨#[]⟩, .bool false, .int .i64 2, .string ⟨#[98]⟩, .string ⟨#[]⟩, .bool false, .int .i64 9, .string ⟨#[99]⟩, .string ⟨#[]⟩, .bool false, .int .i64 5, .string ⟨#[100]⟩, .string ⟨#[97]⟩, .bool true] 65))
  clear h1
  go_wp2_with fail
  generalize w1.alloc (.cells #[.int .i64 5, .string ⟨#[97]⟩, .string ⟨#[]⟩, .bool false, .int .i64 2, .string ⟨#[98]⟩, .string ⟨#[]⟩, .bool false, .int .i64 9, .string ⟨#[99]⟩, .string ⟨#[]⟩, .bool false, .int .i64 5, .string ⟨#[100]⟩, .string ⟨#[97]⟩, .bool true] 65) = v0 at *
  generalize w1.heap.size = bl at *
  refine wp_loop_rounds 5 ?_
  rw [rounds_succ]
  have bk := H0.out.kept (List.mem_cons_self)
  have c0 := ((cellsOf bk).1 0).trans (show _ = some (Value.int .i64 5) from rfl)
  have c1 := ((cellsOf bk).1 1).trans (show _ = some (Value.string ⟨#[97]⟩) from rfl)
  have c2 := ((cellsOf bk).1 2).trans (show _ = some (Value.string ⟨#[]⟩) from rfl)
  have c3 := ((cellsOf bk).1 3).trans (show _ = some (Value.bool false) from rfl)
  clear bk
  go_wp2_with fail
  refine (SetWis 5 ⟨#[97]⟩ (H0.out.keep (.cells #[.int .i64 5, .string ⟨#[97]⟩, .string ⟨#[]⟩, .bool false] 65)) (by decide)).mono ?_
  rintro e u0 ⟨rfl, hs⟩
  rw [show lookVis ([] : List Itis) 5 = .string ⟨#[]⟩ from rfl, show hasBis ([] : List Itis) 5 = false from rfl]
  have bk := hs.kept (List.mem_cons_self)
  have d2 := ((cellsOf bk).1 2).trans (show _ = some (Value.string ⟨#[]⟩) from rfl)
  have d3 := ((cellsOf bk).1 3).trans (show _ = some (Value.bool false) from rfl)
  have H1 : Hid (OMWis w u0 b ([(5, ⟨#[97]⟩)] : List Itis) [(bl, (.cells #[.int .i64 5, .string ⟨#[97]⟩, .string ⟨#[]⟩, .bool false, .int .i64 2, .string ⟨#[98]⟩, .string ⟨#[]⟩, .bool false, .int .i64 9, .string ⟨#[99]⟩, .string ⟨#[]⟩, .bool false, .int .i64 5, .string ⟨#[100]⟩, .string ⟨#[97]⟩, .bool true] 65))]) := Lib.hid (hs.drop _ (fun q hq => List.mem_cons_of_mem _ hq))
  clear bk hs c0 c1 c2 c3
  go_wp2_with fail
  clear d2 d3
  rw [rounds_succ]
  have bk := H1.out.kept (List.mem_cons_self)
  have c0 := ((cellsOf bk).1 4).trans (show _ = some (Value.int .i64 2) from rfl)
  have c1 := ((cellsOf bk).1 5).trans (show _ = some (Value.string ⟨#[98]⟩) from rfl)
  have c2 := ((cellsOf bk).1 6).trans (show _ = some (Value.string ⟨#[]⟩) from rfl)
  have c3 := ((cellsOf bk).1 7).trans (show _ = some (Value.bool false) from rfl)
  clear bk
  go_wp2_with fail
  refine (SetWis 2 ⟨#[98]⟩ (H1.out.keep (.cells #[.int .i64 2, .string ⟨#[98]⟩, .string ⟨#[]⟩, .bool false] 65)) (by decide)).mono ?_
  rintro e u1 ⟨rfl, hs⟩
  rw [show lookVis ([(5, ⟨#[97]⟩)] : List Itis) 2 = .string ⟨#[]⟩ from rfl, show hasBis ([(5, ⟨#[97]⟩)] : List Itis) 2 = false from rfl]
  have bk := hs.kept (List.mem_cons_self)
  have d2 := ((cellsOf bk).1 2).trans (show _ = some (Value.string ⟨#[]⟩) from rfl)
  have d3 := ((cellsOf bk).1 3).trans (show _ = some (Value.bool false) from rfl)
  have H2 : Hid (OMWis w u1 b ([(2, ⟨#[98]⟩), (5, ⟨#[97]⟩)] : List Itis) [(bl, (.cells #[.int .i64 5, .string ⟨#[97]⟩, .string ⟨#[]⟩, .bool false, .int .i64 2, .string ⟨#[98]⟩, .string ⟨#[]⟩, .bool false, .int .i64 9, .string ⟨#[99]⟩, .string ⟨#[]⟩, .bool false, .int .i64 5, .string ⟨#[100]⟩, .string ⟨#[97]⟩, .bool true] 65))]) := Lib.hid (hs.drop _ (fun q hq => List.mem_cons_of_mem _ hq))
  clear bk hs c0 c1 c2 c3
  go_wp2_with fail
  clear d2 d3
  rw [rounds_succ]
  have bk := H2.out.kept (List.mem_cons_self)
  have c0 := ((cellsOf bk).1 8).trans (show _ = some (Value.int .i64 9) from rfl)
  have c1 := ((cellsOf bk).1 9).trans (show _ = some (Value.string ⟨#[99]⟩) from rfl)
  have c2 := ((cellsOf bk).1 10).trans (show _ = some (Value.string ⟨#[]⟩) from rfl)
  have c3 := ((cellsOf bk).1 11).trans (show _ = some (Value.bool false) from rfl)
  clear bk
  go_wp2_with fail
  refine (SetWis 9 ⟨#[99]⟩ (H2.out.keep (.cells #[.int .i64 9, .string ⟨#[99]⟩, .string ⟨#[]⟩, .bool false] 65)) (by decide)).mono ?_
  rintro e u2 ⟨rfl, hs⟩
  rw [show lookVis ([(2, ⟨#[98]⟩), (5, ⟨#[97]⟩)] : List Itis) 9 = .string ⟨#[]⟩ from rfl, show hasBis ([(2, ⟨#[98]⟩), (5, ⟨#[97]⟩)] : List Itis) 9 = false from rfl]
  have bk := hs.kept (List.mem_cons_self)
  have d2 := ((cellsOf bk).1 2).trans (show _ = some (Value.string ⟨#[]⟩) from rfl)
  have d3 := ((cellsOf bk).1 3).trans (show _ = some (Value.bool false) from rfl)
  have H3 : Hid (OMWis w u2 b ([(2, ⟨#[98]⟩), (5, ⟨#[97]⟩), (9, ⟨#[99]⟩)] : List Itis) [(bl, (.cells #[.int .i64 5, .string ⟨#[97]⟩, .string ⟨#[]⟩, .bool false, .int .i64 2, .string ⟨#[98]⟩, .string ⟨#[]⟩, .bool false, .int .i64 9, .string ⟨#[99]⟩, .string ⟨#[]⟩, .bool false, .int .i64 5, .string ⟨#[100]⟩, .string ⟨#[97]⟩, .bool true] 65))]) := Lib.hid (hs.drop _ (fun q hq => List.mem_cons_of_mem _ hq))
  clear bk hs c0 c1 c2 c3
  go_wp2_with fail
  clear d2 d3
  rw [rounds_succ]
  have bk := H3.out.kept (List.mem_cons_self)
  have c0 := ((cellsOf bk).1 12).trans (show _ = some (Value.int .i64 5) from rfl)
  have c1 := ((cellsOf bk).1 13).trans (show _ = some (Value.string ⟨#[100]⟩) from rfl)
  have c2 := ((cellsOf bk).1 14).trans (show _ = some (Value.string ⟨#[97]⟩) from rfl)
  have c3 := ((cellsOf bk).1 15).trans (show _ = some (Value.bool true) from rfl)
  clear bk
  go_wp2_with fail
  refine (SetWis 5 ⟨#[100]⟩ (H3.out.keep (.cells #[.int .i64 5, .string ⟨#[100]⟩, .string ⟨#[97]⟩, .bool true] 65)) (by decide)).mono ?_
  rintro e u3 ⟨rfl, hs⟩
  rw [show lookVis ([(2, ⟨#[98]⟩), (5, ⟨#[97]⟩), (9, ⟨#[99]⟩)] : List Itis) 5 = .string ⟨#[97]⟩ from rfl, show hasBis ([(2, ⟨#[98]⟩), (5, ⟨#[97]⟩), (9, ⟨#[99]⟩)] : List Itis) 5 = true from rfl]
  have bk := hs.kept (List.mem_cons_self)
  have d2 := ((cellsOf bk).1 2).trans (show _ = some (Value.string ⟨#[97]⟩) from rfl)
  have d3 := ((cellsOf bk).1 3).trans (show _ = some (Value.bool true) from rfl)
  have H4 : Hid (OMWis w u3 b ([(2, ⟨#[98]⟩), (5, ⟨#[100]⟩), (9, ⟨#[99]⟩)] : List Itis) [(bl, (.cells #[.int .i64 5, .string ⟨#[97]⟩, .string ⟨#[]⟩, .bool false, .int .i64 2, .string ⟨#[98]⟩, .string ⟨#[]⟩, .bool false, .int .i64 9, .string ⟨#[99]⟩, .string ⟨#[]⟩, .bool false, .int .i64 5, .string ⟨#[100]⟩, .string ⟨#[97]⟩, .bool true] 65))]) := Lib.hid (hs.drop _ (fun q hq => List.mem_cons_of_mem _ hq))
  clear bk hs c0 c1 c2 c3
  go_wp2_with fail
  clear d2 d3
  rw [rounds_succ]
  go_wp2_with fail
  have H4' := Lib.hid (H4.out.drop [] (fun q hq => by cases hq))
  clear H0 H1 H2 H3 H4
  have H4 := H4'
  clear H4'
  obtain ⟨vv, hv⟩ := H4.out.vw
  refine (Flooris _ vv ([(2, ⟨#[98]⟩), (5, ⟨#[100]⟩), (9, ⟨#[99]⟩)] : List Itis) 4 _ hv (by decide)).mono ?_
  rintro e u4 ⟨rfl, hg⟩
  rw [show atVis (atO _ ([(2, ⟨#[98]⟩), (5, ⟨#[100]⟩), (9, ⟨#[99]⟩)] : List Itis) ((up ltZ ([(2, ⟨#[98]⟩), (5, ⟨#[100]⟩), (9, ⟨#[99]⟩)] : List Itis) 4 : Nat) - 1)) = .tuple #[.int .i64 2, .string ⟨#[98]⟩, .bool true] from rfl]
  have H5 := Lib.hid (H4.out.gr hg)
  clear hg hv H4
  go_wp2_with fail
  obtain ⟨vv, hv⟩ := H5.out.vw
  refine (Ceilis _ vv ([(2, ⟨#[98]⟩), (5, ⟨#[100]⟩), (9, ⟨#[99]⟩)] : List Itis) 4 _ hv (by decide)).mono ?_
  rintro e u5 ⟨rfl, hg⟩
  rw [show atVis (([(2, ⟨#[98]⟩), (5, ⟨#[100]⟩), (9, ⟨#[99]⟩)] : List Itis)[rk ltZ ([(2, ⟨#[98]⟩), (5, ⟨#[100]⟩), (9, ⟨#[99]⟩)] : List Itis) 4]?) = .tuple #[.int .i64 5, .string ⟨#[100]⟩, .bool true] from rfl]
  have H6 := Lib.hid (H5.out.gr hg)
  clear hg hv H5
  go_wp2_with fail
  obtain ⟨vv, hv⟩ := H6.out.vw
  refine (Flooris _ vv ([(2, ⟨#[98]⟩), (5, ⟨#[100]⟩), (9, ⟨#[99]⟩)] : List Itis) 1 _ hv (by decide)).mono ?_
  rintro e u6 ⟨rfl, hg⟩
  rw [show atVis (atO _ ([(2, ⟨#[98]⟩), (5, ⟨#[100]⟩), (9, ⟨#[99]⟩)] : List Itis) ((up ltZ ([(2, ⟨#[98]⟩), (5, ⟨#[100]⟩), (9, ⟨#[99]⟩)] : List Itis) 1 : Nat) - 1)) = .tuple #[.int .i64 0, .string ⟨#[]⟩, .bool false] from rfl]
  have H7 := Lib.hid (H6.out.gr hg)
  clear hg hv H6
  go_wp2_with fail
  obtain ⟨vv, hv⟩ := H7.out.vw
  refine (Ceilis _ vv ([(2, ⟨#[98]⟩), (5, ⟨#[100]⟩), (9, ⟨#[99]⟩)] : List Itis) 10 _ hv (by decide)).mono ?_
  rintro e u7 ⟨rfl, hg⟩
  rw [show atVis (([(2, ⟨#[98]⟩), (5, ⟨#[100]⟩), (9, ⟨#[99]⟩)] : List Itis)[rk ltZ ([(2, ⟨#[98]⟩), (5, ⟨#[100]⟩), (9, ⟨#[99]⟩)] : List Itis) 10]?) = .tuple #[.int .i64 0, .string ⟨#[]⟩, .bool false] from rfl]
  have H8 := Lib.hid (H7.out.gr hg)
  clear hg hv H7
  go_wp2_with fail
  obtain ⟨vv, hv⟩ := H8.out.vw
  refine (AtW 2 H8.out).mono ?_
  rintro e u8 ⟨rfl, hg⟩
  rw [show atEis (some ⟨b, 0, none⟩) true (atO _ ([(2, ⟨#[98]⟩), (5, ⟨#[100]⟩), (9, ⟨#[99]⟩)] : List Itis) 2) = .tuple #[.int .i64 9, .string ⟨#[99]⟩, .int .i64 0] from rfl]
  have H9 := Lib.hid (H8.out.gr hg)
  clear hg hv H8
  go_wp2_with fail
  obtain ⟨vv, hv⟩ := H9.out.vw
  refine (AtW 3 H9.out).mono ?_
  rintro e u9 ⟨rfl, hg⟩
  rw [show atEis (some ⟨b, 0, none⟩) true (atO _ ([(2, ⟨#[98]⟩), (5, ⟨#[100]⟩), (9, ⟨#[99]⟩)] : List Itis) 3) = .tuple #[.int .i64 0, .string ⟨#[]⟩, .int .i64 3] from rfl]
  have H10 := Lib.hid (H9.out.gr hg)
  clear hg hv H9
  go_wp2_with fail
  have H11 := Lib.hid (H10.out.keep (.cells #[.slice none 0 0] 73))
  have hb9 : w.heap.size ≤ u9.heap.size := H10.out.g.sz
  generalize hU : u9.alloc (.cells #[.slice none 0 0] 73) = v9 at *
  have hz9 : u9.heap.size < v9.heap.size := by rw [← hU]; simp
  generalize u9.heap.size = b25 at *
  clear H10 hU
  refine (FromOis _ 3 _).mono ?_
  rintro e u10 ⟨bb, bk, rfl, hbb, hbk, hbb2, hbk2, hg⟩
  have H12 := Lib.hid (H11.out.gr hg)
  clear H11 hg
  go_wp2_with fail
  refine (yieldsTwois _ _ _).mono ?_
  rintro e u11 ⟨rfl, rfl⟩
  obtain ⟨u10, rfl⟩ : ∃ x, x = u10 := ⟨_, rfl⟩
  obtain ⟨v, hom, hbw, hvw, hgw, hK⟩ := H12.out
  obtain ⟨hbox, hnb⟩ := hK _ List.mem_cons_self
  simp only at hbox hnb
  have HV : Hid (VWis u10 (some ⟨b, 0, none⟩) v ([(2, ⟨#[98]⟩), (5, ⟨#[100]⟩), (9, ⟨#[99]⟩)] : List Itis)) := Lib.hid (.inl ⟨b, rfl, hom⟩)
  have HNA : Hid (¬ (b25 = bb ∨ b25 = bk ∨ OMB (some ⟨b, 0, none⟩) v b25)) := Lib.hid (by rintro (h | h | h); omega; omega; exact hnb h)
  have HLT : Hid (∀ k, (k = bb ∨ k = bk ∨ OMB (some ⟨b, 0, none⟩) v k) → k < u10.heap.size) := Lib.hid (by
    rintro k (h | h | h)
    · rw [h]; exact World.block_lt_of_cell? u10 ⟨bb, 0, none⟩ hbb
    · rw [h]; exact World.block_lt_of_cell? u10 ⟨bk, 0, none⟩ hbk
    · exact HV.out.lt k h)
  have HOM := Lib.hid hom
  have HW := Lib.hid (And.intro hbw (And.intro hvw hgw))
  have hb25w : w.heap.size ≤ b25 ∧ b25 < u10.heap.size := ⟨hb9, blkLt hbox⟩
  clear hom hbw hvw hgw hK hnb H12
  go_wp2_with fail
  apply wp_rangeFunc_zb (gf := 48) (lb := #[.pointer (some ⟨bb, 0, none⟩), .pointer (some ⟨bk, 0, none⟩)]) rfl (enters_of Try.func48 (by kernel_rfl) rfl)
    (SeqFis (some ⟨b, 0, none⟩) v ([(2, ⟨#[98]⟩), (5, ⟨#[100]⟩), (9, ⟨#[99]⟩)] : List Itis) 3 (by decide) bb bk u10 HV.out hbb hbk) (Mdh.refl _ u10) HLT.out (fun _ => rfl)
    (fun Z pre W => (∃ v2, BoxRow W Z b25 73 3 v2 (pre.map fun x => .int .i64 x.1) ∧ (∀ g, v2.ownBlock = some g → u10.heap.size ≤ g)) ∧ Frm u10 (fun k => k = b25) Z W)
    (fun _ _ _ => False) (fun _ _ _ => False)
    ((Apart.ex fun v2 => (BoxRow.apart _ _ _ v2 _).and (Apart.pure _)).and (Frm.apart _ _)) apart_no apart_no
    ⟨⟨_, ⟨hbox, fun h => h, ⟨rfl, .inl ⟨rfl, rfl⟩⟩, fun g hg => by cases hg⟩, fun g hg => by cases hg⟩, Frm.refl _ _⟩
    _ ?assign ?body ?hend ?hret
  case assign =>
    intro l x W K hK
    dsimp only [encOis]
    gi_wp2
    exact hK
  case hret => intro _ _ _ _ _ _ _ h; exact h.elim
  case body =>
    intro l Z pre x W hI hsp
    obtain ⟨⟨v2, hB, hgr⟩, hF⟩ := hI
    obtain ⟨av, capv, hv, hle1, hcap1⟩ := own_val hB.own
    rw [List.length_map] at hv hle1
    subst hv
    have hpl : pre.length < 3 := by have := hsp.length_le; simp at this; omega
    have HB := Lib.hid hB
    have HF := Lib.hid hF
    have HGR := Lib.hid hgr
    have HT : Hid (∀ k, Z k → k < W.heap.size) := Lib.hid hF.t
    have c10 := hB.cell
    have f10 := hB.fr
    clear hB hF hgr
    unfold maxLen at hcap1
    have hg0 : Gr W (W.alloc (.cells #[.int .i64 x.1] 3)) := (Gr.refl W).alloc _
    gi_wp2_with (gi_at_builtin; go_must (refine wpListIn_app _ rfl (.tmp 109) (.tmp 111) 73 rfl 3 i0 _ 1 8 Try.underlying73 hi hz0 hz1 hz2 rfl (by decide) (.slice av pre.length capv) _ _ rfl (HB.out.own.gr hg0) ⟨W.heap.size, 0, none⟩ 1 1 [.int .i64 x.1] rfl rfl (news1 _ _ _) (by simp [Value.oneCell']) (by decide) (by simp only [maxLen]; simp; omega) (by simp; omega) ?_); intro g capg w4 hown hwh hgrow; obtain ⟨c4, f4⟩ := box1 (HB.out.at2 hg0 hgrow); have HA := Lib.hid (HB.out.app HT.out hg0 hown hwh hgrow); simp only [List.length_map] at HA; have HWH := Lib.hid hwh; clear hown hwh hgrow)
    refine ⟨HA.out.2.mono (fun k hk => ?_), ⟨_, by rw [List.map_append]; exact HA.out.1, fun g' hg' => ?_⟩, HF.out.step HA.out.2 (fun k hk => ?_)⟩
    · rcases hk with rfl | hk
      · exact ⟨HNA.out, HB.out.nz⟩
      · exact ⟨fun h => by have := HLT.out _ h; have := HGR.out k hk; omega, (HB.out.rz k hk).1⟩
    · obtain rfl : g = g' := by simpa [Value.ownBlock] using hg'
      rcases HWH.out with h | h
      · exact HGR.out _ h
      · have := HF.out.m.size; simp at h; omega
    · rcases hk with rfl | hk
      · exact .inl rfl
      · exact .inr (HGR.out k hk)
  case hend =>
    intro Z D xs W hD hZD hcase hdef
    obtain ⟨hxs, ⟨v2, hB, hgr⟩, hF⟩ := hcase.elim (fun h => h) (fun h => h.2.elim)
    have hxs' : xs = [(5, ⟨#[100]⟩), (9, ⟨#[99]⟩)] := hxs
    subst hxs'
    have hm := hF.m
    obtain ⟨g25, cap25, cur, rfl, hgc, hcl⟩ : ∃ g cap, ∃ cur : Array Value, v2 = .slice (some ⟨g, 0, none⟩) 2 cap ∧ W.heap[g]? = some (.cells cur 3 (0, 0)) ∧ (2 ≤ cap ∧ cap ≤ maxLen ∧ cur.size = cap * 1 ∧ cur.toList.take (2 * 1) = [.int .i64 5, .int .i64 9]) := by
      rcases hB.own.2 with ⟨_, h⟩ | ⟨g, cap, cur, hv, _, h1, h2⟩
      · simp at h
      · exact ⟨g, cap, cur, hv, h1, h2⟩
    have hg25 := hgr g25 rfl
    have H13 : Hid (OMWis w W b ([(2, ⟨#[98]⟩), (5, ⟨#[100]⟩), (9, ⟨#[99]⟩)] : List Itis) [(b25, .cells #[.slice (some ⟨g25, 0, none⟩) 2 cap25] 73), (g25, .cells cur 3), (D, .deferred (some []))]) := Lib.hid (by
      have hom := HOM.out.mdh hm (fun k hk e => HNA.out (by subst e; exact .inr (.inr (hk.elim (fun e => .inl ⟨_, rfl, e⟩) .inr))))
      refine ⟨v, hom, HW.out.1, HW.out.2.1, HW.out.2.2.md hm (fun k hk => by rw [hk]; exact hb25w.1), fun q hq => ?_⟩
      simp only [List.mem_cons, List.not_mem_nil, or_false] at hq
      rcases hq with rfl | rfl | rfl
      · exact ⟨hB.box, fun h => HNA.out (.inr (.inr h))⟩
      · exact ⟨hgc, fun h => by have := HLT.out _ (.inr (.inr h)); simp only at this; omega⟩
      · exact ⟨hdef, fun h => by have := HLT.out _ (.inr (.inr h)); simp only at this; omega⟩)
    have HC := Lib.hid hcl
    have hDw : w.heap.size ≤ D := by omega
    clear hcase hxs hB hgr hF hm hgc hcl hdef hZD hbb hbk hbox
    dsimp only
    go_wp2_with fail
    refine (DeleteWis 2 H13.out (by decide)).mono ?_
    rintro e x1 ⟨rfl, hs⟩
    rw [show lookVis ([(2, ⟨#[98]⟩), (5, ⟨#[100]⟩), (9, ⟨#[99]⟩)] : List Itis) 2 = .string ⟨#[98]⟩ from rfl, show hasBis ([(2, ⟨#[98]⟩), (5, ⟨#[100]⟩), (9, ⟨#[99]⟩)] : List Itis) 2 = true from rfl]
    have H14 : Hid (OMWis w x1 b ([(5, ⟨#[100]⟩), (9, ⟨#[99]⟩)] : List Itis) [(b25, .cells #[.slice (some ⟨g25, 0, none⟩) 2 cap25] 73), (g25, .cells cur 3), (D, .deferred (some []))]) := Lib.hid hs
    clear hs H13
    go_wp2_with fail
    obtain ⟨vv, hv⟩ := H14.out.vw
    refine (Minis _ vv ([(5, ⟨#[100]⟩), (9, ⟨#[99]⟩)] : List Itis) _ hv (by decide)).mono ?_
    rintro e x2 ⟨rfl, hg⟩
    rw [show atVis (atO _ ([(5, ⟨#[100]⟩), (9, ⟨#[99]⟩)] : List Itis) 0) = .tuple #[.int .i64 5, .string ⟨#[100]⟩, .bool true] from rfl]
    have H15 := Lib.hid (H14.out.gr hg)
    clear hg hv H14
    go_wp2_with fail
    obtain ⟨vv, hv⟩ := H15.out.vw
    refine (Rankis _ vv ([(5, ⟨#[100]⟩), (9, ⟨#[99]⟩)] : List Itis) 100 _ hv (by decide)).mono ?_
    rintro e x3 ⟨rfl, hg⟩
    rw [show rk ltZ ([(5, ⟨#[100]⟩), (9, ⟨#[99]⟩)] : List Itis) 100 = 2 from rfl]
    have H16 := Lib.hid (H15.out.gr hg)
    have c25 := (box1 (H16.out.kept List.mem_cons_self)).1
    clear hg hv H15
    go_wp2_with fail
    refine (EqualI [5, 9] [5, 9] _ _ _ ((Own.ofParts (H16.out.kept (List.mem_cons_of_mem _ List.mem_cons_self)) HC.out.1 HC.out.2.1 HC.out.2.2.1 HC.out.2.2.2).gr (by (repeat (first | (with_reducible exact Gr.refl _) | assumption | (with_reducible apply Gr.from_drew) | (with_reducible apply Gr.alloc) | (with_reducible apply Gr.drew) | (with_reducible refine Gr.trans ?_ (by assumption)) | (with_reducible refine Gr.setCell ?_ (by omega) _))))) (Own.ofParts (cur := #[.int .i64 5, .int .i64 9]) (blkNew x3 _) (Nat.le_refl 2) (by simp [maxLen]) rfl rfl) (by decide)).mono ?_
    rintro e x4 ⟨rfl, hg⟩
    rw [show decide (([5, 9] : List Int) = [5, 9]) = true from rfl]
    have H17 := Lib.hid (H16.out.gr ((Gr.alloc (Gr.refl x3) _).trans hg))
    clear hg c25
    go_wp2_with fail
    obtain ⟨vv, hv⟩ := H17.out.vw
    refine (Lenis _ vv ([(5, ⟨#[100]⟩), (9, ⟨#[99]⟩)] : List Itis) _ hv).mono ?_
    rintro e x5 ⟨rfl, rfl⟩
    clear hv
    go_wp2_with fail
    have hd := H17.out.kept (List.mem_cons_of_mem _ (List.mem_cons_of_mem _ List.mem_cons_self))
    refine retM1 (D := D) (v := .bool true) rfl hd ?_ ⟨rfl, H17.out.g.putObj hDw _⟩
    simp [results, Try.results13, go_sem]
end Go.Proofs.Ytemjnppplmankaa
