/-
  A region that draws its order, walked ONCE in the order of the text, where some of its operations lay a block and are not
  ordered against the others (a variable's box, a literal, a make): 'floats'. Their block is met as 'some block that lay
  nowhere before'; ahead of an effect that a float may come before or behind, the world may have grown. No program in sight.
  Both for the plain walk and for the walk inside a fence.
-/
import Derived.Test.YtemjnppplmankaaGreatBd1
import Derived.OrdersIn
import Derived.OwnWalkIn
import Derived.RangeFuncNested
set_option linter.unusedVariables false
set_option linter.unusedSimpArgs false
namespace Go.Proofs.YtemjnppplmankaaGreat
open Go.RowKit

/-- Blocks outside S as they were; none has gone; the streams as they were. -/
structure Mdh (S : Nat → Prop) (w w' : World) : Prop where
  size : w.heap.size ≤ w'.heap.size
  blocks : ∀ k, k < w.heap.size → ¬ S k → w'.heap[k]? = w.heap[k]?
  os : w'.os = w.os
  tape : w'.tape = w.tape
  output : w'.output = w.output
theorem Mdh.refl (S : Nat → Prop) (w : World) : Mdh S w w := ⟨Nat.le_refl _, fun _ _ _ => rfl, rfl, rfl, rfl⟩
theorem Mdh.trans {S : Nat → Prop} {a b c : World} (h : Mdh S a b) (g : Mdh S b c) : Mdh S a c :=
  ⟨Nat.le_trans h.1 g.1, fun k hk hs => (g.2 k (Nat.lt_of_lt_of_le hk h.1) hs).trans (h.2 k hk hs), g.os.trans h.os, g.tape.trans h.tape, g.output.trans h.output⟩
theorem Mdh.mono {S S' : Nat → Prop} {a b : World} (h : Mdh S a b) (hs : ∀ k, S k → S' k) : Mdh S' a b := ⟨h.1, fun k hk hn => h.2 k hk fun x => hn (hs k x), h.os, h.tape, h.output⟩
theorem Gr.mdh {w w' : World} (h : Gr w w') (S : Nat → Prop) : Mdh S w w' := ⟨h.sz, fun k hk _ => Below.block h k hk, Below.os h, Below.tape h, Below.output h⟩
theorem Mdh.gr {S : Nat → Prop} {a b c : World} (h : Mdh S a b) (g : Gr b c) : Mdh S a c := h.trans (g.mdh S)
theorem Mdh.alloc {S : Nat → Prop} {a b : World} (h : Mdh S a b) (o : Obj) : Mdh S a (b.alloc o) := h.gr (Gr.alloc (Gr.refl b) o)
theorem Mdh.drew {S : Nat → Prop} {a b : World} (h : Mdh S a b) : Mdh S a b.drew := h.gr (Gr.drew (Gr.refl b))
theorem Mdh.from_drew {S : Nat → Prop} {a b : World} (h : Mdh S a b) : Mdh S a.drew b := ⟨h.size, h.blocks, h.os, h.tape, h.output⟩
theorem Mdh.setCell {S : Nat → Prop} {a b : World} (h : Mdh S a b) {p : Addr} (hp : S p.block) (u : Value) : Mdh S a (b.setCell p u) := by
  refine h.trans ⟨by simp, fun k _ hn => Below.heap_setCell _ _ _ _ ?_, rfl, rfl, rfl⟩
  rintro rfl
  exact hn hp
theorem Mdh.setNew {S : Nat → Prop} {a b : World} (h : Mdh S a b) {p : Addr} (hp : a.heap.size ≤ p.block) (u : Value) : Mdh S a (b.setCell p u) :=
  ⟨by simpa using h.1, fun k hk hn => (Below.heap_setCell _ _ _ _ (by omega)).trans (h.2 k hk hn), h.os, h.tape, h.output⟩
theorem Mdh.grown {S : Nat → Prop} {a b c : World} {row : Option Nat} (h : Mdh S a b) (g : b.grownBy c row) (hr : ∀ r, row = some r → S r) : Mdh S a c :=
  h.trans ⟨g.size, fun k hk hn => g.block k hk fun e => hn (hr k e.symm), g.os, g.tape, g.output⟩
/-- Where it is new blocks alone that may have turned. -/
theorem Gr.md {S : Nat → Prop} {a b c : World} (h : Gr a b) (g : Mdh S b c) (hs : ∀ k, S k → a.heap.size ≤ k) : Gr a c :=
  ⟨g.os.trans (Below.os h), g.tape.trans (Below.tape h), g.output.trans (Below.output h), Nat.le_trans h.sz g.1, fun k hk =>
    (g.2 k (Nat.lt_of_lt_of_le hk h.sz) fun x => by have := hs k x; omega).trans (Below.block h k hk)⟩
/-- Two steps, of which the second may write what the first has laid. -/
theorem Mdh.then {S S' : Nat → Prop} {a b c : World} (h : Mdh S a b) (g : Mdh S' b c) (hs : ∀ k, S' k → S k ∨ a.heap.size ≤ k) : Mdh S a c :=
  ⟨Nat.le_trans h.1 g.1, fun k hk hn => (g.2 k (Nat.lt_of_lt_of_le hk h.1) fun x => (hs k x).elim hn fun y => by omega).trans (h.2 k hk hn), g.os.trans h.os, g.tape.trans h.tape, g.output.trans h.output⟩

/-! ### What stays behind new blocks -/
theorem Gr.keep {w w' : World} (g : Gr w w') {b o : Nat} {v : Value} (h : w.cell? ⟨b, o, none⟩ = some v) : w'.cell? ⟨b, o, none⟩ = some v :=
  (g.cell b o (World.block_lt_of_cell? w ⟨b, o, none⟩ h)).trans h
theorem Gr.blk {w w' : World} (g : Gr w w') {b : Nat} {o : Obj} (h : w.heap[b]? = some o) : w'.heap[b]? = some o := (Below.block g b (Array.getElem?_eq_some_iff.1 h).1).trans h
theorem Mdh.keep {S : Nat → Prop} {w w' : World} (g : Mdh S w w') {b o : Nat} {v : Value} (h : w.cell? ⟨b, o, none⟩ = some v) (hs : ¬ S b) : w'.cell? ⟨b, o, none⟩ = some v :=
  (World.cell?_of_block (g.2 b (World.block_lt_of_cell? w ⟨b, o, none⟩ h) hs)).trans h
theorem Mdh.blk {S : Nat → Prop} {w w' : World} (g : Mdh S w w') {b : Nat} {o : Obj} (h : w.heap[b]? = some o) (hs : ¬ S b) : w'.heap[b]? = some o := (g.2 b (Array.getElem?_eq_some_iff.1 h).1 hs).trans h
/-- What a block that is known whole says of its cells. -/
theorem cellsOf {w : World} {b : Nat} {cs : Array Value} {t : TypeId} (h : w.heap[b]? = some (.cells cs t)) : (∀ j, w.cell? ⟨b, j, none⟩ = cs[j]?) ∧ ∀ j, w.frozen? ⟨b, j, none⟩ = false :=
  ⟨fun j => cell_of_row w b j cs t (0, 0) h, fun j => by simp [World.frozen?, h]⟩

theorem blkSet {w : World} {b j : Nat} {cs : Array Value} {t : TypeId} {u : Value} (h : w.heap[b]? = some (.cells cs t)) : (w.setCell ⟨b, j, none⟩ u).heap[b]? = some (.cells (cs.setIfInBounds j u) t) := by
  simp [World.setCell, Array.getElem?_modify, h]
theorem blk3 {w : World} {b : Nat} {x y z u v s : Value} {t : TypeId} (h : w.heap[b]? = some (.cells #[x, y, z] t)) : (((w.setCell ⟨b, 0, none⟩ u).setCell ⟨b, 1, none⟩ v).setCell ⟨b, 2, none⟩ s).heap[b]? = some (.cells #[u, v, s] t) :=
  blkSet (blkSet (blkSet h))
theorem blk2 {w : World} {b : Nat} {x y u v : Value} {t : TypeId} (h : w.heap[b]? = some (.cells #[x, y] t)) : ((w.setCell ⟨b, 0, none⟩ u).setCell ⟨b, 1, none⟩ v).heap[b]? = some (.cells #[u, v] t) :=
  blkSet (blkSet h)
theorem blk1 {w : World} {b : Nat} {x u : Value} {t : TypeId} (h : w.heap[b]? = some (.cells #[x] t)) : (w.setCell ⟨b, 0, none⟩ u).heap[b]? = some (.cells #[u] t) := blkSet h
theorem blkSetO {w : World} {b : Nat} {o : Obj} {p : Addr} {u : Value} (h : w.heap[b]? = some o) (hne : b ≠ p.block) : (w.setCell p u).heap[b]? = some o := (Below.heap_setCell _ _ _ _ hne).trans h
theorem blkNew (w : World) (o : Obj) : (w.alloc o).heap[w.heap.size]? = some o := World.alloc_heap_new w o
theorem blkOld {w : World} {b : Nat} {o o' : Obj} (h : w.heap[b]? = some o) : (w.alloc o').heap[b]? = some o := Gr.blk (Gr.alloc (Gr.refl w) o') h
theorem blkLt {w : World} {b : Nat} {o : Obj} (h : w.heap[b]? = some o) : b < w.heap.size := (Array.getElem?_eq_some_iff.1 h).1

/-! ### The class, as the walk reads it -/
open Classical in
noncomputable def ovm (S : Nat → Prop) (w g : World) : World := if Mdh S w g then g else w
theorem ovm_md (S : Nat → Prop) (w g : World) : Mdh S w (ovm S w g) := by
  unfold ovm
  split
  · assumption
  · exact Mdh.refl S w
def OvM (S : Nat → Prop) (w : World) : World → Prop := fun w' => ∃ g, w' = ovm S w g
theorem ovm_iff {S : Nat → Prop} {w w' : World} : OvM S w w' ↔ Mdh S w w' :=
  ⟨fun ⟨g, hg⟩ => hg ▸ ovm_md S w g, fun h => ⟨w', by unfold ovm; rw [if_pos h]⟩⟩
theorem ovm_funext (S : Nat → Prop) (w : World) : OvM S w = Mdh S w := by funext w'; exact propext ovm_iff
noncomputable def cellM (S : Nat → Prop) (w g : World) (a : Addr) : Option Value := (ovm S w g).cell? a
noncomputable def objM (S : Nat → Prop) (w g : World) (k : Nat) : Option Obj := (ovm S w g).heap[k]?
open Classical in
theorem cell_ovm (S : Nat → Prop) (w g : World) (a : Addr) : (ovm S w g).cell? a = if S a.block then cellM S w g a else (w.cell? a).or (if a.block < w.heap.size then none else cellM S w g a) := by
  obtain ⟨_, hk, _, _, _⟩ := ovm_md S w g
  by_cases hr : S a.block
  · simp [hr, cellM]
  · by_cases h : a.block < w.heap.size
    · simp [World.cell?, hk _ h hr, hr, h]
    · simp [hr, h, cellM, World.cell?]
open Classical in
theorem obj_ovm (S : Nat → Prop) (w g : World) (k : Nat) : (ovm S w g).heap[k]? = if S k then objM S w g k else (w.heap[k]?).or (if k < w.heap.size then none else objM S w g k) := by
  obtain ⟨_, hk, _, _, _⟩ := ovm_md S w g
  by_cases hr : S k
  · simp [hr, objM]
  · by_cases h : k < w.heap.size
    · simp [hk _ h hr, hr, h]
    · simp [hr, h, objM]

/-! ### The kinds of operations -/
def inL (l : List Tmp) (o : Oper) : Bool := match o.dst with | some d => l.contains d | none => false
/-- An effect: it, or one that the prover would have carried out in its place. -/
def isE (loud : List Tmp) (o : Oper) : Bool := isEff o || inL loud o
theorem isE_eff {loud : List Tmp} {o : Oper} (h : isE loud o = false) : isEff o = false := by
  unfold isE at h
  cases he : isEff o <;> simp_all

/-- In whatever world: one block is laid, of this content; the value tells its number. -/
def FloatAt (P : Program) (o : Oper) (a : Act) (V : Nat → Value) (ob : Obj) : Prop := ∀ w : World, (execOp a.eval o).run P w = .ok (.value (V w.heap.size)) (w.alloc ob)

/-- What is asked of a way to carry out one operation. -/
structure Wps (W : Oper → Act → World → (Act → World → Prop) → Prop) : Prop where
  out : ∀ {o a w K}, (∀ c, o.op ≠ .defer c) → W o a w K → ∃ a' w', Left o a a' ∧ K a' w'
  carry : ∀ {o a b w K K'}, (∀ c, o.op ≠ .defer c) → execOp b.eval o = execOp a.eval o → (∀ u w', K (a.put o.dst u) w' → K' (b.put o.dst u) w') →
    (∀ (d : Deferred) w', K (({ a with defers := d :: a.defers } : Act).put o.dst undef) w' → K' (({ b with defers := d :: b.defers } : Act).put o.dst undef) w') → W o a w K → W o b w K'

section
variable {P : Program} {ops : Array Oper} {S : Nat → Prop} {w0 : World} {fl loud : List Tmp} {W : Oper → Act → World → (Act → World → Prop) → Prop} {Q : Act → World → Prop}

def hasF (ops : Array Oper) (fl : List Tmp) (L : List Nat) : Bool := L.any fun i => ((ops[i]?).map (inL fl)).getD false

/-- The walk in the order of the text, by the operations' numbers. -/
def floI (P : Program) (ops : Array Oper) (S : Nat → Prop) (w0 : World) (fl loud : List Tmp) (W : Oper → Act → World → (Act → World → Prop) → Prop) (Q : Act → World → Prop) :
    List Nat → (Nat → Prop) → Act → World → Prop
  | [], _, a, w => Q a w
  | i :: L, T, a, w => match ops[i]? with
    | none => floI P ops S w0 fl loud W Q L T a w
    | some o =>
      if inL fl o then Region.wanted o (yielded ops a.tmps) = true ∧ ∃ V ob, FloatAt P o a V ob ∧ ∀ (w' : World) (b : Nat), Gr w w' → w0.heap.size ≤ b → b < w'.heap.size → ¬ T b → w'.heap[b]? = some ob →
        floI P ops S w0 fl loud W Q L (fun k => T k ∨ k = b) (a.put o.dst (V b)) w'
      else if isE loud o then
        (if Region.wanted o (yielded ops a.tmps) then ∀ w' : World, (if hasF ops fl L then Gr w w' else w' = w) → W o a w' (fun a' w'' => Mdh (fun k => S k ∨ T k) w' w'' ∧
          floI P ops S w0 fl loud W Q L (fun k => T k ∨ (w'.heap.size ≤ k ∧ k < w''.heap.size)) a' w'')
        else floI P ops S w0 fl loud W Q L T (a.put o.dst undef) w)
      else ∃ v, YieldsIn P ops (Mdh S w0) o v a ∧ floI P ops S w0 fl loud W Q L T (a.put o.dst v) w

theorem gstep {b : Bool} {w w' : World} (h : if b then Gr w w' else w' = w) : Gr w w' := by
  split at h
  · exact h
  · subst h; exact Gr.refl _

theorem floI_set {L : List Nat} {T T' : Nat → Prop} {a : Act} {w : World} (h : floI P ops S w0 fl loud W Q L T a w) (e : ∀ k, T k ↔ T' k) : floI P ops S w0 fl loud W Q L T' a w := by
  have : T = T' := funext fun k => propext (e k)
  exact this ▸ h

variable (hW : Wps W) (hs : ∀ (j : Nat) (o : Oper) cs b, ops[j]? = some o → o.op ≠ .select cs b) (hd : ∀ (j : Nat) (o : Oper) c, ops[j]? = some o → o.op ≠ .defer c)
include hW hs hd

/-- A quiet operation that stands apart from all ahead of it may come first. -/
theorem floQ {i : Nat} {oi : Oper} (hi : ops[i]? = some oi) (hf : inL fl oi = false) (hq : isE loud oi = false) (L2 : List Nat) : ∀ (L1 : List Nat) (T : Nat → Prop) (a : Act) (w : World), w0.heap.size ≤ w.heap.size → (∀ k, T k → k < w.heap.size) →
    (∀ j ∈ L1, ∀ oj, ops[j]? = some oj → oi.apart ops oj = true) → floI P ops S w0 fl loud W Q (L1 ++ i :: L2) T a w →
    ∃ v, YieldsIn P ops (Mdh S w0) oi v a ∧ floI P ops S w0 fl loud W Q (L1 ++ L2) T (a.put oi.dst v) w := by
  have hq' := isE_eff hq
  have h0 : Mdh S w0 w0 := Mdh.refl _ _
  have hfl : ∀ L1, hasF ops fl (L1 ++ i :: L2) = hasF ops fl (L1 ++ L2) := fun L1 => by simp [hasF, hi, hf]
  intro L1
  induction L1 with
  | nil =>
    intro T a w _ _ _ h
    simp only [List.nil_append, floI, hi, hf, hq, Bool.false_eq_true, if_false] at h ⊢
    exact h
  | cons j L1 ih =>
    intro T a w hz hT hap h
    have ih' := fun T a w hz hT h => ih T a w hz hT (fun k hk => hap k (List.mem_cons_of_mem _ hk)) h
    simp only [List.cons_append, floI, hfl] at h ⊢
    cases hj : ops[j]? with
    | none => simp only [hj] at h ⊢; exact ih' T a w hz hT h
    | some oj =>
      simp only [hj] at h ⊢
      have hap' := hap j List.mem_cons_self oj hj
      have hsi := fun cs b => hs i oi cs b hi
      have hsj := fun cs b => hs j oj cs b hj
      have hdj := fun c => hd j oj c hj
      obtain ⟨p1, p2, p3⟩ := Oper.apart_spec hap'
      cases hff : inL fl oj with
      | true =>
        simp only [hff, if_true] at h ⊢
        obtain ⟨hw, V, ob, hV, h⟩ := h
        have step := fun (w' : World) (b : Nat) (hg : Gr w w') (h1 : w0.heap.size ≤ b) (h2 : b < w'.heap.size) (h3 : ¬ T b) (h4 : w'.heap[b]? = some ob) =>
          ih' (fun k => T k ∨ k = b) (a.put oj.dst (V b)) w' (Nat.le_trans hz hg.sz) (fun k hk => by rcases hk with hk | rfl; exact Nat.lt_of_lt_of_le (hT k hk) hg.sz; exact h2) (h w' b hg h1 h2 h3 h4)
        obtain ⟨v, hv, _⟩ := step (w.alloc ob) w.heap.size (Gr.alloc (Gr.refl w) _) hz (by simp) (fun hk => Nat.lt_irrefl _ (hT _ hk)) (World.alloc_heap_new w ob)
        have hva := (yields_put hap' hsi).1 hv
        refine ⟨v, hva, by rw [wanted_put (ops := ops) oj a oi.dst v p1]; exact hw, V, ob, fun w' => by rw [execOp_put oj hsj a oi.dst v p1]; exact hV w', fun w' b hg h1 h2 h3 h4 => ?_⟩
        obtain ⟨v', hv', h''⟩ := step w' b hg h1 h2 h3 h4
        have := yieldsIn_unique hq' h0 ((yields_put hap' hsi).1 hv') hva
        subst this
        rw [Act.put_comm a _ (V b) p2]; exact h''
      | false =>
        simp only [hff, Bool.false_eq_true, if_false] at h ⊢
        cases he : isE loud oj with
        | false =>
          simp only [he, Bool.false_eq_true, if_false] at h ⊢
          obtain ⟨u, hu, h⟩ := h
          obtain ⟨v, hv, h⟩ := ih' T _ _ hz hT h
          refine ⟨v, (yields_put hap' hsi).1 hv, u, (yields_put (apart_symm hap') hsj).2 hu, ?_⟩
          rw [Act.put_comm a v u p2]; exact h
        | true =>
          simp only [he, if_true] at h ⊢
          by_cases hw : Region.wanted oj (yielded ops a.tmps) = true
          · simp only [hw, if_true] at h
            have hTz : ∀ {w' w'' : World}, Gr w w' → Mdh (fun k => S k ∨ T k) w' w'' → ∀ k, (T k ∨ w'.heap.size ≤ k ∧ k < w''.heap.size) → k < w''.heap.size := fun hg hm k hk => by
              rcases hk with hk | hk
              · exact Nat.lt_of_lt_of_le (hT k hk) (Nat.le_trans hg.sz hm.1)
              · exact hk.2
            have hself : (if hasF ops fl (L1 ++ L2) = true then Gr w w else w = w) := by split <;> first | exact Gr.refl _ | rfl
            obtain ⟨a1, w1, hl, hm1, h1⟩ := hW.out hdj (h w hself)
            obtain ⟨v, hv, _⟩ := ih' _ _ _ (Nat.le_trans hz hm1.1) (hTz (Gr.refl w) hm1) h1
            have hva := (yields_left hap' hsi hl).1 hv
            refine ⟨v, hva, ?_⟩
            rw [wanted_put (ops := ops) oj a oi.dst v p1]
            simp only [hw, if_true]
            intro w' hg
            have hg' := gstep hg
            refine hW.carry hdj (execOp_put oj hsj a oi.dst v p1) (fun u w'' hk => ?_) (fun d w'' hk => ?_) (h w' hg)
            · obtain ⟨hm', h'⟩ := hk
              obtain ⟨v', hv', h''⟩ := ih' _ _ _ (Nat.le_trans hz (Nat.le_trans hg'.sz hm'.1)) (hTz hg' hm') h'
              have := yieldsIn_unique hq' h0 ((yields_put hap' hsi).1 hv') hva
              subst this
              exact ⟨hm', by rw [Act.put_comm a _ u p2]; exact h''⟩
            · obtain ⟨hm', h'⟩ := hk
              obtain ⟨v', hv', h''⟩ := ih' _ _ _ (Nat.le_trans hz (Nat.le_trans hg'.sz hm'.1)) (hTz hg' hm') h'
              have := yieldsIn_unique hq' h0 (yields_defer.1 ((yields_put hap' hsi).1 hv')) hva
              subst this
              refine ⟨hm', ?_⟩
              rw [Act.put_defers, Act.put_comm _ _ undef p2]; exact h''
          · simp only [hw, Bool.false_eq_true, if_false] at h
            obtain ⟨v, hv, h⟩ := ih' T _ _ hz hT h
            refine ⟨v, (yields_put hap' hsi).1 hv, ?_⟩
            rw [wanted_put (ops := ops) oj a oi.dst v p1]
            simp only [hw, Bool.false_eq_true, if_false]
            rw [Act.put_comm a v undef p2]; exact h

/-- An effect that stands apart from the quiet operations ahead of it may come first. -/
theorem floE {i : Nat} {oi : Oper} (hi : ops[i]? = some oi) (hf : inL fl oi = false) (he : isE loud oi = true) (L2 : List Nat) : ∀ (L1 : List Nat) (T : Nat → Prop) (a : Act) (w : World),
    (∀ j ∈ L1, ∀ oj, ops[j]? = some oj → oi.apart ops oj = true ∧ inL fl oj = false ∧ isE loud oj = false) → floI P ops S w0 fl loud W Q (L1 ++ i :: L2) T a w →
    (if Region.wanted oi (yielded ops a.tmps) then W oi a w (fun a' w'' => Mdh (fun k => S k ∨ T k) w w'' ∧
          floI P ops S w0 fl loud W Q (L1 ++ L2) (fun k => T k ∨ (w.heap.size ≤ k ∧ k < w''.heap.size)) a' w'')
        else floI P ops S w0 fl loud W Q (L1 ++ L2) T (a.put oi.dst undef) w) := by
  intro L1
  induction L1 with
  | nil =>
    intro T a w _ h
    simp only [List.nil_append, floI, hi, hf, he, if_true, Bool.false_eq_true, if_false] at h ⊢
    split
    · rename_i hw
      simp only [hw, if_true] at h
      exact h w (by split <;> first | exact Gr.refl _ | rfl)
    · rename_i hw
      simp only [hw, Bool.false_eq_true, if_false] at h
      exact h
  | cons j L1 ih =>
    intro T a w hap h
    have ih' := fun T a w h => ih T a w (fun k hk => hap k (List.mem_cons_of_mem _ hk)) h
    simp only [List.cons_append, floI] at h
    cases hj : ops[j]? with
    | none =>
      simp only [hj] at h
      have := ih' T a w h
      have e : floI P ops S w0 fl loud W Q (j :: (L1 ++ L2)) = floI P ops S w0 fl loud W Q (L1 ++ L2) := by
        funext T a w; simp only [floI, hj]
      rw [List.cons_append, e]; exact this
    | some oj =>
      simp only [hj] at h
      obtain ⟨hap', hfj, hq⟩ := hap j List.mem_cons_self oj hj
      have hsi := fun cs b => hs i oi cs b hi
      have hsj := fun cs b => hs j oj cs b hj
      have hdi := fun c => hd i oi c hi
      obtain ⟨p1, p2, p3⟩ := Oper.apart_spec hap'
      simp only [hfj, hq, Bool.false_eq_true, if_false] at h
      obtain ⟨u, hu, h⟩ := h
      have hstep := ih' T _ _ h
      rw [wanted_put (ops := ops) oi a oj.dst u p3] at hstep
      have p2' : ∀ d, oj.dst = some d → oi.dst ≠ some d := fun d hd hd' => p2 d hd' hd
      split
      · rename_i hw
        simp only [hw, if_true] at hstep
        refine hW.carry hdi (execOp_put oi hsi a oj.dst u p3).symm (fun v w' hk => ?_) (fun d w' hk => ?_) hstep
        · refine ⟨hk.1, ?_⟩
          simp only [List.cons_append, floI, hj, hfj, hq, Bool.false_eq_true, if_false]
          exact ⟨u, (yields_put (apart_symm hap') hsj).2 hu, by rw [← Act.put_comm a u v p2']; exact hk.2⟩
        · refine ⟨hk.1, ?_⟩
          simp only [List.cons_append, floI, hj, hfj, hq, Bool.false_eq_true, if_false]
          refine ⟨u, (yields_put (apart_symm hap') hsj).2 (yields_defer.2 hu), ?_⟩
          have hk2 := hk.2
          rw [Act.put_defers, Act.put_comm _ u undef p2'] at hk2
          exact hk2
      · rename_i hw
        simp only [hw, Bool.false_eq_true, if_false] at hstep
        simp only [List.cons_append, floI, hj, hfj, hq, Bool.false_eq_true, if_false]
        exact ⟨u, (yields_put (apart_symm hap') hsj).2 hu, by rw [← Act.put_comm a u undef p2']; exact hstep⟩

/-- A float that stands apart from all ahead of it may come first: its block is found there when its turn comes. -/
theorem floF {i : Nat} {oi : Oper} (hi : ops[i]? = some oi) (hf : inL fl oi = true) (L2 : List Nat) {V0 : Nat → Value} {ob0 : Obj} (b : Nat) : ∀ (L1 : List Nat) (T : Nat → Prop) (a : Act) (w w1 : World), FloatAt P oi a V0 ob0 →
    Gr w w1 → w0.heap.size ≤ b → b < w1.heap.size → ¬ T b → w1.heap[b]? = some ob0 → ¬ S b →
    (∀ j ∈ L1, ∀ oj, ops[j]? = some oj → oi.apart ops oj = true) → floI P ops S w0 fl loud W Q (L1 ++ i :: L2) T a w →
    floI P ops S w0 fl loud W Q (L1 ++ L2) (fun k => T k ∨ k = b) (a.put oi.dst (V0 b)) w1 := by
  have hfl : ∀ L1, hasF ops fl (L1 ++ i :: L2) = true := fun L1 => by simp [hasF, hi, hf]
  have hsi := fun cs b => hs i oi cs b hi
  intro L1
  induction L1 with
  | nil =>
    intro T a w w1 hV hg hb0 hb1 hTb hob _ _ h
    simp only [List.nil_append, floI, hi, hf, if_true] at h ⊢
    obtain ⟨_, V, ob, hV', h⟩ := h
    have e1 := (hV' w0).symm.trans (hV w0)
    have eV : ∀ n : Nat, V n = V0 n := fun n => by
      have := (hV' { w0 with heap := Array.replicate n ob }).symm.trans (hV { w0 with heap := Array.replicate n ob })
      simp only [Result.ok.injEq, Next.value.injEq, Array.size_replicate] at this
      exact this.1
    have eob : ob = ob0 := by
      simp only [Result.ok.injEq, Next.value.injEq] at e1
      have h2 := congrArg (fun w : World => w.heap[w0.heap.size]?) e1.2
      simp only [World.alloc_heap_new] at h2
      exact Option.some.inj h2
    subst eob
    rw [← eV]
    exact h w1 b hg hb0 hb1 hTb hob
  | cons j L1 ih =>
    intro T a w w1 hV hg hb0 hb1 hTb hob hSb hap h
    have ih' := fun T a w w1 hV hg hb0 hb1 hTb hob h => ih T a w w1 hV hg hb0 hb1 hTb hob hSb (fun k hk => hap k (List.mem_cons_of_mem _ hk)) h
    simp only [List.cons_append, floI, hfl] at h ⊢
    cases hj : ops[j]? with
    | none => simp only [hj] at h ⊢; exact ih' T a w w1 hV hg hb0 hb1 hTb hob h
    | some oj =>
      simp only [hj] at h ⊢
      have hap' := hap j List.mem_cons_self oj hj
      have hsj := fun cs b => hs j oj cs b hj
      have hdj := fun c => hd j oj c hj
      obtain ⟨p1, p2, p3⟩ := Oper.apart_spec hap'
      have hVput : ∀ u, FloatAt P oi (a.put oj.dst u) V0 ob0 := fun u w' => by rw [execOp_put oi hsi a oj.dst u p3]; exact hV w'
      cases hff : inL fl oj with
      | true =>
        simp only [hff, if_true] at h ⊢
        obtain ⟨hw, V, ob, hVj, h⟩ := h
        refine ⟨by rw [wanted_put (ops := ops) oj a oi.dst (V0 b) p1]; exact hw, V, ob, fun w' => by rw [execOp_put oj hsj a oi.dst (V0 b) p1]; exact hVj w', fun w' b' hg' h1 h2 h3 h4 => ?_⟩
        have hne : ¬ b' = b := fun e => h3 (.inr e)
        have := ih' _ _ w' w' (hVput (V b')) (Gr.refl _) hb0 (Nat.lt_of_lt_of_le hb1 hg'.sz) (fun hk => hk.elim hTb (fun e => hne e.symm)) ((Below.block hg' b hb1).trans hob) (h w' b' (hg.trans hg') h1 h2 (fun hk => h3 (.inl hk)) h4)
        rw [Act.put_comm a (V0 b) (V b') p2]
        exact floI_set this (fun k => by constructor <;> (rintro ((h | h) | h) <;> simp [h]))
      | false =>
        simp only [hff, Bool.false_eq_true, if_false] at h ⊢
        cases he : isE loud oj with
        | false =>
          simp only [he, Bool.false_eq_true, if_false] at h ⊢
          obtain ⟨u, hu, h⟩ := h
          refine ⟨u, (yields_put (apart_symm hap') hsj).2 hu, ?_⟩
          have := ih' _ _ _ _ (hVput u) hg hb0 hb1 hTb hob h
          rw [Act.put_comm a (V0 b) u p2]; exact this
        | true =>
          simp only [he, if_true] at h ⊢
          rw [wanted_put (ops := ops) oj a oi.dst (V0 b) p1]
          split
          · rename_i hw
            simp only [hw, if_true] at h
            intro w' hgw
            have hg' := gstep hgw
            have hb' : b < w'.heap.size := Nat.lt_of_lt_of_le hb1 hg'.sz
            refine hW.carry hdj (execOp_put oj hsj a oi.dst (V0 b) p1) (fun u w'' hk => ?_) (fun d w'' hk => ?_) (h w' (hg.trans hg'))
            · obtain ⟨hm, h'⟩ := hk
              refine ⟨hm.mono (fun k hk => hk.imp id .inl), ?_⟩
              have hob'' : w''.heap[b]? = some ob0 := (hm.2 b hb' (fun hk => hk.elim hSb hTb)).trans ((Below.block hg' b hb1).trans hob)
              have := ih' _ _ w'' w'' (hVput u) (Gr.refl _) hb0 (Nat.lt_of_lt_of_le hb' hm.1) (fun hk => hk.elim hTb (fun h => by omega)) hob'' h'
              rw [Act.put_comm a (V0 b) u p2]
              exact floI_set this (fun k => by constructor <;> (rintro ((h | h) | h) <;> simp [h]))
            · obtain ⟨hm, h'⟩ := hk
              refine ⟨hm.mono (fun k hk => hk.imp id .inl), ?_⟩
              have hob'' : w''.heap[b]? = some ob0 := (hm.2 b hb' (fun hk => hk.elim hSb hTb)).trans ((Below.block hg' b hb1).trans hob)
              have hVd : FloatAt P oi (({ a with defers := d :: a.defers } : Act).put oj.dst undef) V0 ob0 := fun w' => by
                rw [execOp_put oi hsi _ oj.dst undef p3]; exact hV w'
              have := ih' _ _ w'' w'' hVd (Gr.refl _) hb0 (Nat.lt_of_lt_of_le hb' hm.1) (fun hk => hk.elim hTb (fun h => by omega)) hob'' h'
              rw [Act.put_defers, Act.put_comm _ (V0 b) undef p2]
              exact floI_set this (fun k => by constructor <;> (rintro ((h | h) | h) <;> simp [h]))
          · rename_i hw
            simp only [hw, Bool.false_eq_true, if_false] at h
            have := ih' _ _ _ _ (hVput undef) hg hb0 hb1 hTb hob h
            rw [Act.put_comm a (V0 b) undef p2]; exact this
omit hW hs hd

/-! ### What is asked of the region's edges -/
def noDefer (ops : Array Oper) : Bool := ops.all fun o => match o.op with | .defer _ => false | _ => true
theorem noDefer_spec (h : noDefer ops = true) : ∀ (j : Nat) (o : Oper) c, ops[j]? = some o → o.op ≠ .defer c := fun j o c hj e => by
  have h1 := Array.all_eq_true'.1 h o (Array.mem_of_getElem? hj)
  rw [e] at h1
  exact Bool.noConfusion h1
/-- The effects that are no floats. -/
def chns (ops : Array Oper) (fl loud : List Tmp) : List Nat := (List.range ops.size).filter fun i => ((ops[i]?).map fun o => !inL fl o && isE loud o).getD false
/-- Ahead of an effect no float stands that it does not wait for. -/
def floatsB (ops : Array Oper) (fl loud : List Tmp) : Bool := (chns ops fl loud).all fun i => (List.range i).all fun j => !((ops[j]?).map (inL fl)).getD false || reachB ops 6 j i
def floB (ops : Array Oper) (fl loud : List Tmp) : Bool := Region.noSelect ops && noDefer ops && chainB ops (chns ops fl loud) && floatsB ops fl loud && (List.range ops.size).all (lineB ops)

/-- One operation among those that may come up: what the walk in the order of the text gives of it. -/
theorem flo_take (hW : Wps W) (hB : floB ops fl loud = true) (hS : ∀ k, S k → k < w0.heap.size) {L : List Nat} {listed : Array Bool} {T : Nat → Prop} {a : Act} {w : World} (hpw : L.Pairwise (· < ·))
    (hmem : ∀ i, i ∈ L ↔ i < ops.size ∧ listed.getD i true = false) (hcl : Closed ops listed) (_hsz : listed.size = ops.size)
    (hm : Mdh S w0 w) (hT : ∀ k, T k → w0.heap.size ≤ k ∧ k < w.heap.size) (h : floI P ops S w0 fl loud W Q L T a w) {i : Nat} {oi : Oper} (hoi : ops[i]? = some oi) (hiL : i ∈ L)
    (hall : ∀ e ∈ oi.after, Region.binds .any e = true → listed.getD e.on false = true) :
    ∃ L1 L2, L = L1 ++ i :: L2 ∧
      ((∃ v, YieldsIn P ops (Mdh S w0) oi v a ∧ isEff oi = false ∧ floI P ops S w0 fl loud W Q (L1 ++ L2) T (a.put oi.dst v) w) ∨
       (if Region.wanted oi (yielded ops a.tmps) then W oi a w (fun a' w'' => Mdh (fun k => S k ∨ T k) w w'' ∧
          floI P ops S w0 fl loud W Q (L1 ++ L2) (fun k => T k ∨ (w.heap.size ≤ k ∧ k < w''.heap.size)) a' w'')
        else floI P ops S w0 fl loud W Q (L1 ++ L2) T (a.put oi.dst undef) w) ∨
       (Region.wanted oi (yielded ops a.tmps) = true ∧ ∃ V ob, FloatAt P oi a V ob ∧ floI P ops S w0 fl loud W Q (L1 ++ L2) (fun k => T k ∨ k = w.heap.size) (a.put oi.dst (V w.heap.size)) (w.alloc ob))) := by
  simp only [floB, Bool.and_eq_true, List.all_eq_true, List.mem_range] at hB
  obtain ⟨⟨⟨⟨hns, hnd⟩, hch⟩, hfB⟩, hline⟩ := hB
  have hsel := fun j o cs b => Region.noSelect_spec (ops := ops) hns j o cs b
  have hdf := noDefer_spec hnd
  have hilt := (Array.getElem?_eq_some_iff.1 hoi).1
  obtain ⟨L1, L2, rfl⟩ := List.append_of_mem hiL
  refine ⟨L1, L2, rfl, ?_⟩
  have hpw1 := List.pairwise_append.1 hpw
  have hlt1 : ∀ j ∈ L1, j < i := fun j hj => hpw1.2.2 j hj i List.mem_cons_self
  have hunl : ∀ j ∈ L1, listed.getD j false = false := fun j hj => by
    have := ((hmem j).1 (List.mem_append_left _ hj)).2
    rcases Nat.lt_or_ge j listed.size with h' | h'
    · simpa [h'] using this
    · simp [Array.getElem?_eq_none h']
  have hap : ∀ j ∈ L1, ∀ oj, ops[j]? = some oj → oi.apart ops oj = true := fun j hj oj hoj => by
    have hl := hline i hilt
    simp only [lineB, hoi, Bool.and_eq_true, List.all_eq_true, List.mem_range] at hl
    have hp := hl.2 j (hlt1 j hj)
    simp only [pairB, hoj, Bool.or_eq_true] at hp
    rcases hp with hp | hp
    · obtain ⟨e, he, hb⟩ := Array.any_eq_true'.1 hp
      simp only [Bool.and_eq_true, beq_iff_eq] at hb
      have := hall e he hb.1
      rw [hb.2, hunl j hj] at this
      cases this
    · exact hp
  cases hf : inL fl oi with
  | true =>
    refine .inr (.inr ?_)
    -- the float's own content: of the walk, when its turn comes; in this frame, since it stands apart
    have hget : ∀ (L1 : List Nat) (T : Nat → Prop) (a : Act) (w : World), w0.heap.size ≤ w.heap.size → (∀ k, T k → k < w.heap.size) → (∀ j ∈ L1, ∀ oj, ops[j]? = some oj → oi.apart ops oj = true) →
        floI P ops S w0 fl loud W Q (L1 ++ i :: L2) T a w → Region.wanted oi (yielded ops a.tmps) = true ∧ ∃ V ob, FloatAt P oi a V ob := by
      intro L1
      induction L1 with
      | nil =>
        intro T a w _ _ _ h
        simp only [List.nil_append, floI, hoi, hf, if_true] at h
        obtain ⟨hw, V, ob, hV, _⟩ := h
        exact ⟨hw, V, ob, hV⟩
      | cons j L1 ih =>
        intro T a w hz hT hap h
        have ih' := fun T a w hz hT h => ih T a w hz hT (fun k hk => hap k (List.mem_cons_of_mem _ hk)) h
        simp only [List.cons_append, floI] at h
        cases hj : ops[j]? with
        | none => simp only [hj] at h; exact ih' T a w hz hT h
        | some oj =>
          simp only [hj] at h
          have hap' := hap j List.mem_cons_self oj hj
          have hsi := fun cs b => hsel i oi cs b hoi
          obtain ⟨p1, p2, p3⟩ := Oper.apart_spec hap'
          have back : ∀ u, (Region.wanted oi (yielded ops (a.put oj.dst u).tmps) = true ∧ ∃ V ob, FloatAt P oi (a.put oj.dst u) V ob) → Region.wanted oi (yielded ops a.tmps) = true ∧ ∃ V ob, FloatAt P oi a V ob := by
            rintro u ⟨h1, V, ob, h2⟩
            rw [wanted_put (ops := ops) oi a oj.dst u p3] at h1
            exact ⟨h1, V, ob, fun w' => by have := h2 w'; rw [execOp_put oi hsi a oj.dst u p3] at this; exact this⟩
          cases hff : inL fl oj with
          | true =>
            simp only [hff, if_true] at h
            obtain ⟨_, V, ob, hV, h⟩ := h
            refine back (V w.heap.size) (ih' _ _ (w.alloc ob) (by simp; omega) ?_ (h (w.alloc ob) w.heap.size (Gr.alloc (Gr.refl w) _) hz (by simp) (fun hk => Nat.lt_irrefl _ (hT _ hk)) (World.alloc_heap_new w ob)))
            intro k hk
            rcases hk with hk | rfl
            · have := hT k hk; simp; omega
            · simp
          | false =>
            simp only [hff, Bool.false_eq_true, if_false] at h
            cases he : isE loud oj with
            | false =>
              simp only [he, Bool.false_eq_true, if_false] at h
              obtain ⟨u, _, h⟩ := h
              exact back u (ih' T _ _ hz hT h)
            | true =>
              simp only [he, if_true] at h
              split at h
              · obtain ⟨a1, w1, hl, hm1, h1⟩ := hW.out (fun c => hdf j oj c hj) (h w (by split <;> first | exact Gr.refl _ | rfl))
                have hT1 : ∀ k, (T k ∨ w.heap.size ≤ k ∧ k < w1.heap.size) → k < w1.heap.size := fun k hk => by
                  rcases hk with hk | hk
                  · exact Nat.lt_of_lt_of_le (hT k hk) hm1.1
                  · exact hk.2
                have := ih' _ _ _ (Nat.le_trans hz hm1.1) hT1 h1
                rcases hl with ⟨u, rfl⟩ | ⟨d, rfl⟩
                · exact back u this
                · have hw1 : Region.wanted oi (yielded ops (({ a with defers := d :: a.defers } : Act).put oj.dst undef).tmps) = Region.wanted oi (yielded ops a.tmps) := wanted_put (ops := ops) oi _ oj.dst undef p3
                  obtain ⟨h1, V, ob, h2⟩ := this
                  rw [hw1] at h1
                  exact ⟨h1, V, ob, fun w' => by have := h2 w'; rw [execOp_put oi hsi _ oj.dst undef p3] at this; exact this⟩
              · exact back undef (ih' T _ _ hz hT h)
    obtain ⟨hw, V, ob, hV⟩ := hget L1 T a w hm.1 (fun k hk => (hT k hk).2) hap h
    exact ⟨hw, V, ob, hV, floF hW hsel hdf hoi hf L2 w.heap.size L1 T a w (w.alloc ob) hV (Gr.alloc (Gr.refl w) _) hm.1 (by simp) (fun hk => Nat.lt_irrefl _ (hT _ hk).2) (World.alloc_heap_new w ob)
      (fun hk => by have := hS _ hk; have := hm.1; omega) hap h⟩
  | false =>
    cases he : isE loud oi with
    | false =>
      obtain ⟨v, hv, h'⟩ := floQ hW hsel hdf hoi hf he L2 L1 T a w hm.1 (fun k hk => (hT k hk).2) hap h
      exact .inl ⟨v, hv, isE_eff he, h'⟩
    | true =>
      refine .inr (.inl (floE hW hsel hdf hoi hf he L2 L1 T a w (fun j hj oj hoj => ?_) h))
      have hjlt := (Array.getElem?_eq_some_iff.1 hoj).1
      have hiE : i ∈ chns ops fl loud := List.mem_filter.2 ⟨List.mem_range.2 hilt, by simp [hoi, hf, he]⟩
      refine ⟨hap j hj oj hoj, ?_⟩
      have hnf : inL fl oj = false := by
        cases hfj : inL fl oj with
        | false => rfl
        | true =>
          exfalso
          simp only [floatsB, List.all_eq_true, List.mem_range] at hfB
          have := hfB i hiE j (hlt1 j hj)
          simp only [hoj, Option.map_some, Option.getD_some, hfj, Bool.not_true, Bool.false_or] at this
          have hl := reach_listed hcl 6 j i oi hoi hall this
          rw [hunl j hj] at hl
          cases hl
      refine ⟨hnf, ?_⟩
      cases hej : isE loud oj with
      | false => rfl
      | true =>
        exfalso
        have hjE : j ∈ chns ops fl loud := List.mem_filter.2 ⟨List.mem_range.2 hjlt, by simp [hoj, hnf, hej]⟩
        have hsort : (chns ops fl loud).Pairwise (· < ·) := List.Pairwise.filter _ List.pairwise_lt_range
        obtain ⟨E1, E2, hE⟩ := List.append_of_mem hjE
        rw [hE] at hiE hsort hch
        have hji := hlt1 j hj
        have hi2 : i ∈ E2 := by
          rcases List.mem_append.1 hiE with h1 | h1
          · have := (List.pairwise_append.1 hsort).2.2 i h1 j List.mem_cons_self
            omega
          · rcases List.mem_cons.1 h1 with h1 | h1
            · omega
            · exact h1
        have := chain_listed hcl E2 j i oi (chain_suffix E1 _ hch) hi2 hoi hall (fun k hk => by
          have hkE : k ∈ chns ops fl loud := by rw [hE]; exact List.mem_append_right _ (List.mem_cons_of_mem _ hk)
          have := List.mem_range.1 (List.mem_filter.1 hkE).1
          exact ⟨_, Array.getElem?_eq_getElem this⟩)
        rw [hunl j hj] at this
        cases this

/-- If nothing may come up any more, nothing is left. -/
theorem flo_none (hB : floB ops fl loud = true) {L : List Nat} {listed : Array Bool} (hpw : L.Pairwise (· < ·)) (hmem : ∀ i, i ∈ L ↔ i < ops.size ∧ listed.getD i true = false) (hsz : listed.size = ops.size)
    (h0 : Region.ready .any ops listed = []) : L = [] := by
  simp only [floB, Bool.and_eq_true, List.all_eq_true, List.mem_range] at hB
  obtain ⟨_, hline⟩ := hB
  cases L with
  | nil => rfl
  | cons i L =>
    exfalso
    obtain ⟨hlt, hun⟩ := (hmem i).1 List.mem_cons_self
    have : i ∈ Region.ready .any ops listed := by
      refine mem_ready.2 ⟨hun, ops[i], Array.getElem?_eq_getElem hlt, fun e he hb => ?_⟩
      have hl := hline i hlt
      simp only [lineB, Array.getElem?_eq_getElem hlt, Bool.and_eq_true, Array.all_eq_true'] at hl
      have hel := hl.1 e he
      simp only [hb, Bool.not_true, Bool.false_or, decide_eq_true_eq] at hel
      cases hx : listed.getD e.on false with
      | true => rfl
      | false =>
        have hlt' : e.on < listed.size := by omega
        have hx' : listed.getD e.on true = false := by simpa [hlt'] using hx
        have hm := (hmem e.on).2 ⟨by omega, hx'⟩
        rcases List.mem_cons.1 hm with h1 | h1
        · omega
        · have := List.rel_of_pairwise_cons hpw h1
          omega
    rw [h0] at this
    cases this

/-- What is left once operation i has come up. -/
theorem flo_next {L1 L2 : List Nat} {i : Nat} {oi : Oper} {listed : Array Bool} (hoi : ops[i]? = some oi) (hpw : (L1 ++ i :: L2).Pairwise (· < ·)) (hmem : ∀ k, k ∈ L1 ++ i :: L2 ↔ k < ops.size ∧ listed.getD k true = false)
    (hcl : Closed ops listed) (hsz : listed.size = ops.size) (hall : ∀ e ∈ oi.after, Region.binds .any e = true → listed.getD e.on false = true) :
    (L1 ++ L2).Pairwise (· < ·) ∧ (∀ k, k ∈ L1 ++ L2 ↔ k < ops.size ∧ (listed.setIfInBounds i true).getD k true = false) ∧ Closed ops (listed.setIfInBounds i true) := by
  have hpw1 := List.pairwise_append.1 hpw
  have hlt1 : ∀ j ∈ L1, j < i := fun j hj => hpw1.2.2 j hj i List.mem_cons_self
  have hii : ∀ k, k ∈ L1 ++ L2 → k ≠ i := fun k hk => by
    rcases List.mem_append.1 hk with hk | hk
    · have := hlt1 k hk; omega
    · have := List.rel_of_pairwise_cons hpw1.2.1 hk; omega
  refine ⟨List.pairwise_append.2 ⟨hpw1.1, (List.pairwise_cons.1 hpw1.2.1).2, fun x hx y hy => hpw1.2.2 x hx y (List.mem_cons_of_mem _ hy)⟩, fun k => ?_, ?_⟩
  · constructor
    · intro hk
      have hne := hii k hk
      have hk' : k ∈ L1 ++ i :: L2 := by
        rcases List.mem_append.1 hk with hk | hk
        · exact List.mem_append_left _ hk
        · exact List.mem_append_right _ (List.mem_cons_of_mem _ hk)
      obtain ⟨h1, h2⟩ := (hmem k).1 hk'
      exact ⟨h1, by rw [getD_set_ne true (Ne.symm hne)]; exact h2⟩
    · rintro ⟨h1, h2⟩
      have hne : k ≠ i := by
        rintro rfl
        have : k < listed.size := by omega
        simp [this] at h2
      rw [getD_set_ne true (Ne.symm hne)] at h2
      have := (hmem k).2 ⟨h1, h2⟩
      rcases List.mem_append.1 this with hk | hk
      · exact List.mem_append_left _ hk
      · rcases List.mem_cons.1 hk with hk | hk
        · exact absurd hk hne
        · exact List.mem_append_right _ hk
  · intro k o ho hk e he hb
    by_cases hki : k = i
    · subst hki
      rw [hoi] at ho
      cases ho
      exact getD_set_true (hall e he hb)
    · rw [getD_set_ne false (Ne.symm hki)] at hk
      exact getD_set_true (hcl k o ho hk e he hb)
end

/-! ### The plain walk -/
theorem wps_plain (P : Program) : Wps (fun o a w K => o.wp P a w K NoEx) :=
  ⟨fun _ h => wp_outcome h, fun _ he hk hd h => wp_carry he hk hd h⟩

section
variable {P : Program} {ops : Array Oper} {S : Nat → Prop} {w0 : World} {fl loud : List Tmp} {Q : Act → World → Prop}

theorem flo_any (hB : floB ops fl loud = true) (hS : ∀ k, S k → k < w0.heap.size) {Q' : Exit → Act → World → Prop} (hQ : ∀ a w, Mdh S w0 w → Q a w → Q' .normal a w) : ∀ (n : Nat) (L : List Nat) (listed : Array Bool) (T : Nat → Prop) (a : Act) (w : World),
    L.length = n → L.Pairwise (· < ·) → (∀ i, i ∈ L ↔ i < ops.size ∧ listed.getD i true = false) → Closed ops listed → listed.size = ops.size → Mdh S w0 w → (∀ k, T k → w0.heap.size ≤ k ∧ k < w.heap.size) →
    floI P ops S w0 fl loud (fun o a w K => o.wp P a w K NoEx) Q L T a w → wpAny P .any ops Q' n listed a w := by
  intro n
  induction n with
  | zero =>
    intro L listed T a w hn _ hmem _ _ hm _ h
    obtain rfl : L = [] := List.length_eq_zero_iff.1 hn
    refine ⟨?_, hQ _ _ hm h⟩
    refine List.eq_nil_iff_forall_not_mem.2 fun i hi => ?_
    obtain ⟨h0, o, ho, _⟩ := mem_ready.1 hi
    have := (hmem i).2 ⟨(Array.getElem?_eq_some_iff.1 ho).1, h0⟩
    cases this
  | succ n ih =>
    intro L listed T a w hn hpw hmem hcl hsz hm hT h
    refine ⟨fun h0 => ?_, fun i hi => ?_⟩
    · have := flo_none hB hpw hmem hsz h0
      subst this
      simp at hn
    · obtain ⟨hun, oi, hoi, hall⟩ := mem_ready.1 hi
      have hiL := (hmem i).2 ⟨(Array.getElem?_eq_some_iff.1 hoi).1, hun⟩
      obtain ⟨L1, L2, rfl, hcase⟩ := flo_take (wps_plain P) hB hS hpw hmem hcl hsz hm hT h hoi hiL hall
      obtain ⟨hpw', hmem', hcl'⟩ := flo_next hoi hpw hmem hcl hsz hall
      have hlen : (L1 ++ L2).length = n := by simp at hn ⊢; omega
      have next := fun T a' w' hm' hT' h' => ih (L1 ++ L2) _ T a' w' hlen hpw' hmem' hcl' (by simp [hsz]) hm' hT' h'
      unfold wpOp
      simp only [hoi]
      rcases hcase with ⟨v, hv, hq, h'⟩ | hcase | ⟨hw, V, ob, hV, h'⟩
      · rcases hv with ⟨hw, hv⟩ | ⟨hw, rfl⟩
        · simp only [hw, if_true]
          refine .inl ?_
          have := (quietAt_unique hq (hv w hm) (hv w hm)).2
          unfold Oper.wp
          rw [this]
          exact next _ _ _ hm hT h'
        · simp only [hw, Bool.false_eq_true, if_false]
          exact next _ _ _ hm hT h'
      · split
        · rename_i hw
          simp only [hw, if_true] at hcase
          refine .inl (wp_weaken (fun a' w'' hk => next _ a' w'' ?_ ?_ hk.2) hcase)
          · exact ⟨Nat.le_trans hm.1 hk.1.1, fun k hk0 hs => (hk.1.2 k (Nat.lt_of_lt_of_le hk0 hm.1) (fun h => h.elim hs (fun ht => by have := (hT k ht).1; omega))).trans (hm.2 k hk0 hs), hk.1.os.trans hm.os, hk.1.tape.trans hm.tape, hk.1.output.trans hm.output⟩
          · intro k hk'
            rcases hk' with hk' | hk'
            · exact ⟨(hT k hk').1, Nat.lt_of_lt_of_le (hT k hk').2 hk.1.1⟩
            · exact ⟨Nat.le_trans hm.1 hk'.1, hk'.2⟩
        · rename_i hw
          simp only [hw, Bool.false_eq_true, if_false] at hcase
          exact next _ _ _ hm hT hcase
      · simp only [hw, if_true]
        refine .inl ?_
        unfold Oper.wp
        rw [hV w]
        refine next _ _ _ (hm.alloc ob) (fun k hk => ?_) h'
        rcases hk with hk | rfl
        · have := hT k hk; simp; omega
        · have := hm.1; simp; omega
end

/-! ### The walk by the operations themselves -/
section
variable {P : Program} {ops : Array Oper} {S : Nat → Prop} {w0 : World} {fl loud : List Tmp} {W : Oper → Act → World → (Act → World → Prop) → Prop} {Q : Act → World → Prop}
def floL (P : Program) (ops : Array Oper) (S : Nat → Prop) (w0 : World) (fl loud : List Tmp) (W : Oper → Act → World → (Act → World → Prop) → Prop) (Q : Act → World → Prop) :
    List Oper → (Nat → Prop) → Act → World → Prop
  | [], _, a, w => Q a w
  | o :: L, T, a, w =>
      if inL fl o then Region.wanted o (yielded ops a.tmps) = true ∧ ∃ V ob, FloatAt P o a V ob ∧ ∀ (w' : World) (b : Nat), Gr w w' → w0.heap.size ≤ b → b < w'.heap.size → ¬ T b → w'.heap[b]? = some ob →
        floL P ops S w0 fl loud W Q L (fun k => T k ∨ k = b) (a.put o.dst (V b)) w'
      else if isE loud o then
        (if Region.wanted o (yielded ops a.tmps) then ∀ w' : World, (if L.any (inL fl) then Gr w w' else w' = w) → W o a w' (fun a' w'' => Mdh (fun k => S k ∨ T k) w' w'' ∧
          floL P ops S w0 fl loud W Q L (fun k => T k ∨ (w'.heap.size ≤ k ∧ k < w''.heap.size)) a' w'')
        else floL P ops S w0 fl loud W Q L T (a.put o.dst undef) w)
      else ∃ v, YieldsIn P ops (Mdh S w0) o v a ∧ floL P ops S w0 fl loud W Q L T (a.put o.dst v) w

theorem hasF_of_L : ∀ (l : List Oper) (k : Nat), (∀ j, l[j]? = ops[k + j]?) → hasF ops fl (List.range' k l.length) = l.any (inL fl)
  | [], _, _ => rfl
  | o :: l, k, h => by
    have h0 : ops[k]? = some o := by simpa using (h 0).symm
    have ih := hasF_of_L l (k + 1) (fun j => by have := h (j + 1); simpa [Nat.add_assoc, Nat.add_comm 1 j] using this)
    simp only [hasF] at ih
    simp [hasF, List.range'_succ, h0, ih]

theorem floI_of_L : ∀ (l : List Oper) (k : Nat), (∀ j, l[j]? = ops[k + j]?) → floI P ops S w0 fl loud W Q (List.range' k l.length) = floL P ops S w0 fl loud W Q l
  | [], _, _ => by funext T a w; simp [floI, floL]
  | o :: l, k, h => by
    have h0 : ops[k]? = some o := by simpa using (h 0).symm
    have hh : ∀ j, l[j]? = ops[k + 1 + j]? := fun j => by have := h (j + 1); simpa [Nat.add_assoc, Nat.add_comm 1 j] using this
    have ih := floI_of_L l (k + 1) hh
    have ih2 := hasF_of_L (fl := fl) l (k + 1) hh
    funext T a w
    simp only [List.length_cons, List.range'_succ, floI, h0, floL, ih, ih2]

/-- The quiet operations at the head, n of them, by 'go_big_quiet_step'. -/
theorem flo_seg (n : Nat) {l : List Oper} {T : Nat → Prop} {a : Act} {w : World} (he : (l.take n).all (fun o => !inL fl o && !isE loud o) = true)
    (h : wpQuiet P ops (OvM S w0) (fun a' => floL P ops S w0 fl loud W Q (l.drop n) T a' w) (l.take n) a) : floL P ops S w0 fl loud W Q l T a w := by
  rw [ovm_funext] at h
  have key : ∀ (s r : List Oper) (a : Act), s.all (fun o => !inL fl o && !isE loud o) = true → wpQuiet P ops (Mdh S w0) (fun a' => floL P ops S w0 fl loud W Q r T a' w) s a → floL P ops S w0 fl loud W Q (s ++ r) T a w := by
    intro s r
    induction s with
    | nil => intro a _ h; exact h
    | cons o s ih =>
      intro a he h
      simp only [List.all_cons, Bool.and_eq_true, Bool.not_eq_true'] at he
      simp only [List.cons_append, floL, he.1.1, he.1.2, Bool.false_eq_true, if_false]
      simp only [wpQuiet] at h
      split at h
      · rename_i hw
        obtain ⟨v, hv, h⟩ := h
        exact ⟨v, .inl ⟨hw, hv⟩, ih _ (by simpa using he.2) h⟩
      · rename_i hw
        exact ⟨undef, .inr ⟨by simpa using hw, rfl⟩, ih _ (by simpa using he.2) h⟩
  have := key _ _ a he h
  rwa [List.take_append_drop] at this

/-- One effect, behind which no float stands. -/
theorem flo_eff {o : Oper} {l : List Oper} {T : Nat → Prop} {a : Act} {w : World} (hf : inL fl o = false) (he : isE loud o = true) (hw : Region.wanted o (yielded ops a.tmps) = true) (hr : l.any (inL fl) = false)
    (h : ∀ K : Act → World → Prop, (∀ a' w'', Mdh (fun k => S k ∨ T k) w w'' ∧ floL P ops S w0 fl loud W Q l (fun k => T k ∨ (w.heap.size ≤ k ∧ k < w''.heap.size)) a' w'' → K a' w'') → W o a w K) :
    floL P ops S w0 fl loud W Q (o :: l) T a w := by
  simp only [floL, hf, he, hw, hr, if_true, Bool.false_eq_true, if_false]
  rintro w' rfl
  exact h _ fun _ _ h => h

/-- One effect, behind which a float stands: the world may have grown. -/
theorem flo_effg {o : Oper} {l : List Oper} {T : Nat → Prop} {a : Act} {w : World} (hf : inL fl o = false) (he : isE loud o = true) (hw : Region.wanted o (yielded ops a.tmps) = true)
    (h : ∀ w' : World, Gr w w' → ∀ K : Act → World → Prop, (∀ a' w'', Mdh (fun k => S k ∨ T k) w' w'' ∧ floL P ops S w0 fl loud W Q l (fun k => T k ∨ (w'.heap.size ≤ k ∧ k < w''.heap.size)) a' w'' → K a' w'') → W o a w' K) :
    floL P ops S w0 fl loud W Q (o :: l) T a w := by
  simp only [floL, hf, he, hw, if_true, Bool.false_eq_true, if_false]
  intro w' hg
  exact h w' (gstep hg) _ fun _ _ h => h

/-- One effect that is not wanted. -/
theorem flo_pass {o : Oper} {l : List Oper} {T : Nat → Prop} {a : Act} {w : World} (hf : inL fl o = false) (he : isE loud o = true) (hw : Region.wanted o (yielded ops a.tmps) = false)
    (h : floL P ops S w0 fl loud W Q l T (a.put o.dst undef) w) : floL P ops S w0 fl loud W Q (o :: l) T a w := by
  simp only [floL, hf, he, hw, if_true, Bool.false_eq_true, if_false]
  exact h

/-- One float. -/
theorem flo_float {o : Oper} {l : List Oper} {T : Nat → Prop} {a : Act} {w : World} (V : Nat → Value) (ob : Obj) (hf : inL fl o = true) (hw : Region.wanted o (yielded ops a.tmps) = true) (hV : FloatAt P o a V ob)
    (h : ∀ (w' : World) (b : Nat), Gr w w' → w0.heap.size ≤ b → b < w'.heap.size → ¬ T b → w'.heap[b]? = some ob → floL P ops S w0 fl loud W Q l (fun k => T k ∨ k = b) (a.put o.dst (V b)) w') :
    floL P ops S w0 fl loud W Q (o :: l) T a w := by
  simp only [floL, hf, hw, if_true]
  exact ⟨trivial, V, ob, hV, h⟩

theorem flo_nil {T : Nat → Prop} {a : Act} {w : World} (h : Q a w) : floL P ops S w0 fl loud W Q [] T a w := h

/-- **A REGION THAT DRAWS, WITH FLOATS: one walk in the order of the text.** S: the old blocks that its effects may write. -/
theorem wp_region_flo (S : Nat → Prop) (fl loud : List Tmp) {id : Nat} {Q' : Exit → Act → World → Prop} {a : Act} {w : World} {l : List Oper} (hm : P.follows .mixedOrders = true) (hB : floB l.toArray fl loud = true) (hS : ∀ k, S k → k < w.heap.size)
    (h : floL P l.toArray S w fl loud (fun o a w K => o.wp P a w K NoEx) (fun a' w' => Q' .normal a' w') l (fun _ => False) a w.drew) : (Code.region id l.toArray true).wp P Q' a w := by
  refine wp_region_any hm ?_
  refine flo_any (S := S) (w0 := w) (Q := fun a' w' => Q' .normal a' w') hB hS (fun _ _ _ h => h) _ (List.range' 0 l.length) _ (fun _ => False) a _ (by simp) ?_ (fun i => ?_) ?_ (by simp) ⟨Nat.le_refl _, fun _ _ _ => rfl, rfl, rfl, rfl⟩ (fun _ h => h.elim) ?_
  · rw [← List.range_eq_range']; exact List.pairwise_lt_range
  · rw [← List.range_eq_range', List.mem_range]
    constructor
    · intro hi; exact ⟨by simpa using hi, by simp [hi]⟩
    · intro hi; simpa using hi.1
  · intro i o ho hl
    exfalso
    rcases Nat.lt_or_ge i l.length with h' | h'
    · simp [h'] at hl
    · simp [h'] at hl
  · rw [floI_of_L l 0 (by simp)]; exact h
end

/-! ### The walk inside a fence that lets everything by -/
section
variable {F : Fence} {n : Nat} {P : Program}
theorem wps_in (hF : ∀ f, F.fn f) (hD : F.depth = none) : Wps (fun o a w K => o.wpIn F n P a w K NoEx) := by
  have hroom : ∀ k, F.room k := fun k d hd => by rw [hD] at hd; cases hd
  refine ⟨fun {o a w K} hnd h => ?_, fun {o a b w K K'} hnd he hk hd h => ?_⟩
  · unfold Oper.wpIn at h
    have h := h.2
    rw [Oper.semAt_eq _ _ _ hnd] at h
    generalize (execOp a.eval o).run P w = r at h
    cases r with
    | ok x w' =>
      cases x <;> simp only [Oper.uponIn] at h
      case value v => exact ⟨_, _, .inl ⟨_, rfl⟩, h⟩
      case skip => exact ⟨_, _, .inl ⟨_, rfl⟩, h⟩
      case defer d => exact ⟨_, _, .inr ⟨d, rfl⟩, h⟩
      case enter f args =>
        obtain ⟨_, _, h⟩ := h
        obtain ⟨e, w1, fr, hR, _⟩ := h [] (hroom _)
        cases e with
        | returned v => exact ⟨_, _, .inl ⟨v, rfl⟩, hR⟩
        | panicked c => exact absurd hR (by simp [NoEx])
        | outgrown => obtain ⟨a0, w0, h0⟩ := hR; exact absurd h0 (by simp [NoEx])
      case row row args =>
        obtain ⟨v, w1, hR, _⟩ := h.2 default [] (hroom _)
        exact ⟨_, _, .inl ⟨v, rfl⟩, hR⟩
      case round l f tmps assign body =>
        obtain ⟨_, _, h⟩ := h
        obtain ⟨e, w1, hR, _⟩ := h default [] (hroom _)
        cases e with
        | returned v => exact ⟨_, _, .inl ⟨v, rfl⟩, hR⟩
        | panicked c => exact absurd hR (by simp [NoEx])
        | outgrown => obtain ⟨a0, w0, h0⟩ := hR; exact absurd h0 (by simp [NoEx])
    | halt x w' => cases x <;> simp [Oper.uponIn, NoEx] at h
  · unfold Oper.wpIn at h ⊢
    rw [Oper.semAt_eq _ _ _ hnd] at h ⊢
    rw [he]
    refine ⟨fun f _ => hF f, ?_⟩
    · have h := h.2
      generalize (execOp a.eval o).run P w = r at h ⊢
      cases r with
      | ok x w' =>
        cases x <;> simp only [Oper.uponIn] at h ⊢
        case value v => exact hk _ _ h
        case skip => exact hk _ _ h
        case defer d => exact hd _ _ h
        case enter f args =>
          refine ⟨h.1, CallsIn.mono h.2 fun e w1 hR => ?_⟩
          cases e with
          | returned v => exact hk _ _ hR
          | panicked c => exact absurd hR (by simp [NoEx])
          | outgrown => obtain ⟨a0, w0, h0⟩ := hR; exact absurd h0 (by simp [NoEx])
        case row row args => exact ⟨h.1, RowsIn.mono h.2 fun v w1 hR => hk _ _ hR⟩
        case round l f tmps assign body =>
          refine ⟨h.1, RoundIn.mono h.2 fun e w1 hR => ?_⟩
          cases e with
          | returned v => exact hk _ _ hR
          | panicked c => exact absurd hR (by simp [NoEx])
          | outgrown => obtain ⟨a0, w0, h0⟩ := hR; exact absurd h0 (by simp [NoEx])
      | halt x w' => cases x <;> simp [Oper.uponIn, NoEx] at h

theorem wpIn_weaken {o : Oper} {a : Act} {w : World} {K K' : Act → World → Prop} {Q' : Exit → Act → World → Prop} (hk : ∀ a w, K a w → K' a w) (h : o.wpIn F n P a w K NoEx) : o.wpIn F n P a w K' Q' := by
  unfold Oper.wpIn at h ⊢
  refine ⟨h.1, ?_⟩
  have h := h.2
  generalize (o.semAt F.round a.eval).run P w = r at h ⊢
  cases r with
  | ok x w' =>
    cases x <;> simp only [Oper.uponIn] at h ⊢
    case value v => exact hk _ _ h
    case skip => exact hk _ _ h
    case defer d => exact hk _ _ h
    case enter f args =>
      refine ⟨h.1, CallsIn.mono h.2 fun e w1 hR => ?_⟩
      cases e with
      | returned v => exact hk _ _ hR
      | panicked c => exact absurd hR (by simp [NoEx])
      | outgrown => obtain ⟨a0, w0, h0⟩ := hR; exact absurd h0 (by simp [NoEx])
    case row row args => exact ⟨h.1, RowsIn.mono h.2 fun v w1 hR => hk _ _ hR⟩
    case round l f tmps assign body =>
      refine ⟨h.1, RoundIn.mono h.2 fun e w1 hR => ?_⟩
      cases e with
      | returned v => exact hk _ _ hR
      | panicked c => exact absurd hR (by simp [NoEx])
      | outgrown => obtain ⟨a0, w0, h0⟩ := hR; exact absurd h0 (by simp [NoEx])
  | halt x w' => cases x <;> simp [Oper.uponIn, NoEx] at h

variable {ops : Array Oper} {S : Nat → Prop} {w0 : World} {fl loud : List Tmp} {Q : Act → World → Prop}
theorem flo_anyIn (hF : ∀ f, F.fn f) (hD : F.depth = none) (hB : floB ops fl loud = true) (hS : ∀ k, S k → k < w0.heap.size) {Q' : Exit → Act → World → Prop} (hQ : ∀ a w, Mdh S w0 w → Q a w → Q' .normal a w) : ∀ (m : Nat) (L : List Nat) (listed : Array Bool) (T : Nat → Prop) (a : Act) (w : World),
    L.length = m → L.Pairwise (· < ·) → (∀ i, i ∈ L ↔ i < ops.size ∧ listed.getD i true = false) → Closed ops listed → listed.size = ops.size → Mdh S w0 w → (∀ k, T k → w0.heap.size ≤ k ∧ k < w.heap.size) →
    floI P ops S w0 fl loud (fun o a w K => o.wpIn F n P a w K NoEx) Q L T a w → wpAnyIn F n P .any ops Q' m listed a w := by
  intro m
  induction m with
  | zero =>
    intro L listed T a w hn _ hmem _ _ hm _ h
    obtain rfl : L = [] := List.length_eq_zero_iff.1 hn
    refine ⟨?_, hQ _ _ hm h⟩
    refine List.eq_nil_iff_forall_not_mem.2 fun i hi => ?_
    obtain ⟨h0, o, ho, _⟩ := mem_ready.1 hi
    have := (hmem i).2 ⟨(Array.getElem?_eq_some_iff.1 ho).1, h0⟩
    cases this
  | succ m ih =>
    intro L listed T a w hn hpw hmem hcl hsz hm hT h
    have hBd : noDefer ops = true := by simp only [floB, Bool.and_eq_true] at hB; exact hB.1.1.1.2
    refine ⟨fun h0 => ?_, fun i hi => ?_⟩
    · have := flo_none hB hpw hmem hsz h0
      subst this
      simp at hn
    · obtain ⟨hun, oi, hoi, hall⟩ := mem_ready.1 hi
      have hiL := (hmem i).2 ⟨(Array.getElem?_eq_some_iff.1 hoi).1, hun⟩
      have hnd := fun c => noDefer_spec hBd i oi c hoi
      obtain ⟨L1, L2, rfl, hcase⟩ := flo_take (wps_in hF hD) hB hS hpw hmem hcl hsz hm hT h hoi hiL hall
      obtain ⟨hpw', hmem', hcl'⟩ := flo_next hoi hpw hmem hcl hsz hall
      have hlen : (L1 ++ L2).length = m := by simp at hn ⊢; omega
      have next := fun T a' w' hm' hT' h' => ih (L1 ++ L2) _ T a' w' hlen hpw' hmem' hcl' (by simp [hsz]) hm' hT' h'
      unfold wpOpIn
      simp only [hoi]
      rcases hcase with ⟨v, hv, hq, h'⟩ | hcase | ⟨hw, V, ob, hV, h'⟩
      · rcases hv with ⟨hw, hv⟩ | ⟨hw, rfl⟩
        · simp only [hw, if_true]
          have := (quietAt_unique hq (hv w hm) (hv w hm)).2
          refine ⟨fun f _ => hF f, ?_⟩
          rw [Oper.semAt_eq _ _ _ hnd, this]
          exact next _ _ _ hm hT h'
        · simp only [hw, Bool.false_eq_true, if_false]
          exact ⟨fun f _ => hF f, next _ _ _ hm hT h'⟩
      · split
        · rename_i hw
          simp only [hw, if_true] at hcase
          refine wpIn_weaken (fun a' w'' hk => next _ a' w'' ?_ ?_ hk.2) hcase
          · exact ⟨Nat.le_trans hm.1 hk.1.1, fun k hk0 hs => (hk.1.2 k (Nat.lt_of_lt_of_le hk0 hm.1) (fun h => h.elim hs (fun ht => by have := (hT k ht).1; omega))).trans (hm.2 k hk0 hs), hk.1.os.trans hm.os, hk.1.tape.trans hm.tape, hk.1.output.trans hm.output⟩
          · intro k hk'
            rcases hk' with hk' | hk'
            · exact ⟨(hT k hk').1, Nat.lt_of_lt_of_le (hT k hk').2 hk.1.1⟩
            · exact ⟨Nat.le_trans hm.1 hk'.1, hk'.2⟩
        · rename_i hw
          simp only [hw, Bool.false_eq_true, if_false] at hcase
          exact ⟨fun f _ => hF f, next _ _ _ hm hT hcase⟩
      · simp only [hw, if_true]
        refine ⟨fun f _ => hF f, ?_⟩
        rw [Oper.semAt_eq _ _ _ hnd, hV w]
        refine next _ _ _ (hm.alloc ob) (fun k hk => ?_) h'
        rcases hk with hk | rfl
        · have := hT k hk; simp; omega
        · have := hm.1; simp; omega

/-- The same inside a fence that lets everything by (a round's too). -/
theorem wpIn_region_flo (hF : ∀ f, F.fn f) (hD : F.depth = none) (S : Nat → Prop) (fl loud : List Tmp) {id : Nat} {Q' : Exit → Act → World → Prop} {a : Act} {w : World} {l : List Oper} (hm : P.follows .mixedOrders = true) (hB : floB l.toArray fl loud = true) (hS : ∀ k, S k → k < w.heap.size)
    (h : floL P l.toArray S w fl loud (fun o a w K => o.wpIn F n P a w K NoEx) (fun a' w' => Q' .normal a' w') l (fun _ => False) a w.drew) : (Code.region id l.toArray true).wpIn F n P Q' a w := by
  refine wpIn_region_any hm ?_
  refine flo_anyIn (S := S) (w0 := w) (Q := fun a' w' => Q' .normal a' w') hF hD hB hS (fun _ _ _ h => h) _ (List.range' 0 l.length) _ (fun _ => False) a _ (by simp) ?_ (fun i => ?_) ?_ (by simp) ⟨Nat.le_refl _, fun _ _ _ => rfl, rfl, rfl, rfl⟩ (fun _ h => h.elim) ?_
  · rw [← List.range_eq_range']; exact List.pairwise_lt_range
  · rw [← List.range_eq_range', List.mem_range]
    constructor
    · intro hi; exact ⟨by simpa using hi, by simp [hi]⟩
    · intro hi; simpa using hi.1
  · intro i o ho hl
    exfalso
    rcases Nat.lt_or_ge i l.length with h' | h'
    · simp [h'] at hl
    · simp [h'] at hl
  · rw [floI_of_L l 0 (by simp)]; exact h
end
end Go.Proofs.YtemjnppplmankaaGreat
