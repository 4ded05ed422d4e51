/-
  A region that draws its order is served by ONE walk in the order of the text: its quiet operations are run in every
  world that has grown from the region's first one, its effects (calls, new blocks, stores), which the edges bring into
  one order, in the world as it stands. No program in sight.
-/
import Derived.Deep.Quiet
import Derived.Below
import Derived.WalkKit
import Derived.Laws.AppendOwn
set_option linter.unusedVariables false
set_option linter.unusedSimpArgs false
namespace Go.Proofs.YtemjnppplmankaaGreat
open Go.RowKit

/-- No way out but the normal one. -/
def NoEx : Exit → Act → World → Prop := fun _ _ _ => False

/-! ### Worlds that have grown -/
/-- The world w with the blocks of g behind its own. -/
def ov (w g : World) : World := { w with heap := (w.heap.toList ++ g.heap.toList.drop w.heap.size).toArray, drawn := g.drawn }

theorem ov_heap_lt (w g : World) (k : Nat) (h : k < w.heap.size) : (ov w g).heap[k]? = w.heap[k]? := by
  simp [ov, List.getElem?_append, h]

theorem ov_heap_ge (w g : World) (k : Nat) (h : w.heap.size ≤ k) : (ov w g).heap[k]? = g.heap[k]? := by
  simp [ov, List.getElem?_append, Nat.not_lt.2 h, List.getElem?_drop]
  congr 1
  omega

theorem ov_size (w g : World) : w.heap.size ≤ (ov w g).heap.size := by simp [ov]

theorem below_ov (w g : World) : Below w.heap.size w (ov w g) := ⟨rfl, rfl, rfl, ov_size w g, fun k hk => ov_heap_lt w g k hk⟩

theorem ov_of_below {w w' : World} (h : Below w.heap.size w w') : w' = ov w w' := by
  have hh : w'.heap = (w.heap.toList ++ w'.heap.toList.drop w.heap.size).toArray := by
    apply Array.ext_getElem?
    intro k
    rcases Nat.lt_or_ge k w.heap.size with hk | hk
    · rw [h.block k hk]
      simp [List.getElem?_append, hk]
    · simp [List.getElem?_append, Nat.not_lt.2 hk, List.getElem?_drop]
      congr 1
      omega
  obtain ⟨h1, h2, h3, _, _⟩ := h
  cases w'
  simp only [ov] at *
  rw [← hh, h1, h2, h3]

/-- The class of the worlds that have grown from w. -/
def Ovs (w : World) : World → Prop := fun w' => ∃ g, w' = ov w g

theorem ovs_iff {w w' : World} : Ovs w w' ↔ Below w.heap.size w w' :=
  ⟨fun ⟨g, hg⟩ => hg ▸ below_ov w g, fun h => ⟨w', ov_of_below h⟩⟩

theorem cell_ov (w g : World) (a : Addr) : (ov w g).cell? a = (w.cell? a).or (if a.block < w.heap.size then none else g.cell? a) := by
  by_cases h : a.block < w.heap.size
  · simp [World.cell?, ov_heap_lt w g _ h, h]
  · simp [World.cell?, ov_heap_ge w g _ (Nat.not_lt.1 h), h]

theorem obj_ov (w g : World) (k : Nat) : (ov w g).heap[k]? = (w.heap[k]?).or (if k < w.heap.size then none else g.heap[k]?) := by
  by_cases h : k < w.heap.size
  · simp [ov_heap_lt w g _ h, h]
  · simp [ov_heap_ge w g _ (Nat.not_lt.1 h), h]

theorem shape_ov (w g : World) (r : Nat) : (ov w g).shape? r = (w.shape? r).or (if r < w.heap.size then none else g.shape? r) := by
  by_cases h : r < w.heap.size
  · simp [World.shape?, ov_heap_lt w g _ h, h]
  · simp [World.shape?, ov_heap_ge w g _ (Nat.not_lt.1 h), h]

/-! ### Worlds that have grown, one block set aside (the row that an append may write) -/
def AgreeX (r : Nat) (w w' : World) : Prop := w.heap.size ≤ w'.heap.size ∧ ∀ k, k < w.heap.size → k ≠ r → w'.heap[k]? = w.heap[k]?
open Classical in
noncomputable def ovx (r : Nat) (w g : World) : World := if AgreeX r w g then g else w
theorem AgreeX.refl (r : Nat) (w : World) : AgreeX r w w := ⟨Nat.le_refl _, fun _ _ _ => rfl⟩
theorem ovx_agree (r : Nat) (w g : World) : AgreeX r w (ovx r w g) := by
  unfold ovx
  split
  · assumption
  · exact AgreeX.refl r w
/-- The class of the worlds that have grown from w, block r set aside. -/
def OvX (r : Nat) (w : World) : World → Prop := fun w' => ∃ g, w' = ovx r w g
theorem OvX.of {r : Nat} {w w' : World} (h : AgreeX r w w') : OvX r w w' := ⟨w', by unfold ovx; rw [if_pos h]⟩
noncomputable def cellX (r : Nat) (w g : World) (a : Addr) : Option Value := (ovx r w g).cell? a
noncomputable def objX (r : Nat) (w g : World) (k : Nat) : Option Obj := (ovx r w g).heap[k]?
theorem cell_ovx (r : Nat) (w g : World) (a : Addr) : (ovx r w g).cell? a = if a.block = r then cellX r w g a else (w.cell? a).or (if a.block < w.heap.size then none else cellX r w g a) := by
  obtain ⟨_, hk⟩ := ovx_agree r w g
  by_cases hr : a.block = r
  · simp [hr, cellX]
  · by_cases h : a.block < w.heap.size
    · simp [World.cell?, hk _ h hr, hr, h]
    · simp [hr, h, cellX, World.cell?]
theorem obj_ovx (r : Nat) (w g : World) (k : Nat) : (ovx r w g).heap[k]? = if k = r then objX r w g k else (w.heap[k]?).or (if k < w.heap.size then none else objX r w g k) := by
  obtain ⟨_, hk⟩ := ovx_agree r w g
  by_cases hr : k = r
  · simp [hr, objX]
  · by_cases h : k < w.heap.size
    · simp [hk _ h hr, hr, h]
    · simp [hr, h, objX]

/-! ### Which operations are effects -/
def isEff (o : Oper) : Bool :=
  match o.op with
  | .move _ | .assign _ | .pick .. | .load .. | .nilCheck _ | .binOp .. | .unOp .. | .convert .. | .fieldAddr .. | .field ..
  | .indexAddr .. | .index .. | .extract .. | .slice .. | .makeFunc .. | .build .. | .lookup .. | .makeInterface .. => false
  | .call { callee := .builtin b, .. } => match b with
    | .len | .cap | .min | .max => false
    | _ => true
  | _ => true

/-- What a quiet operation can yield is a value. -/
theorem quiet_value {o : Oper} (he : isEff o = false) (ρ : Operand → Value) {P : Program} {w w' : World} {n : Next} (h : (execOp ρ o).run P w = .ok n w') : ∃ v, n = .value v := by
  have key : ∀ (s : Sem Value), (Sem.run P (do pure (.value (← s)) : Sem Next) w) = .ok n w' → ∃ v, n = .value v := by
    intro s hs
    rw [Sem.run_bind] at hs
    cases hr : s.run P w with
    | ok v w1 =>
      rw [hr] at hs
      simp only [Result.andThen, Sem.run_pure, Result.ok.injEq] at hs
      exact ⟨v, hs.1.symm⟩
    | halt x w1 => rw [hr] at hs; simp [Result.andThen] at hs
  obtain ⟨dst, op, type, pos, after, guard⟩ := o
  cases op <;> first | (exfalso; exact Bool.noConfusion (show true = false from he)) | skip
  case move x => simp only [execOp, Sem.run_pure, Result.ok.injEq] at h; exact ⟨_, h.1.symm⟩
  case assign x => simp only [execOp, Sem.run_pure, Result.ok.injEq] at h; exact ⟨_, h.1.symm⟩
  case pick c a b =>
    simp only [execOp] at h
    rw [Sem.run_bind] at h
    cases hr : (asBool (ρ c)).run P w with
    | ok v w1 => rw [hr] at h; simp only [Result.andThen, Sem.run_pure, Result.ok.injEq] at h; exact ⟨_, h.1.symm⟩
    | halt x w1 => rw [hr] at h; simp [Result.andThen] at h
  case nilCheck x =>
    simp only [execOp] at h
    have np : ∀ (m : RuntimeError), m = .nilDeref → (runtimePanic m : Sem Next).run P w ≠ .ok n w' := by
      rintro m rfl
      simp [runtimePanic, goPanic]
    split at h
    · exact absurd h (np _ rfl)
    · exact absurd h (np _ rfl)
    · exact absurd h (np _ rfl)
    · split at h
      · exact absurd h (np _ rfl)
      · rw [Sem.run_bind] at h
        cases hr : Sem.run P program w with
        | halt x w1 => rw [hr] at h; simp [Result.andThen] at h
        | ok p w1 =>
          rw [hr] at h
          simp only [Result.andThen] at h
          rw [Sem.run_bind] at h
          generalize hs : Sem.run P (nilAhead _ _ _ _) w1 = r at h
          cases r with
          | halt x w2 => simp [Result.andThen] at h
          | ok b w2 =>
            simp only [Result.andThen] at h
            split at h
            · simp [unsupported] at h
            · simp only [Sem.run_pure, Result.ok.injEq] at h; exact ⟨_, h.1.symm⟩
      · simp only [Sem.run_pure, Result.ok.injEq] at h; exact ⟨_, h.1.symm⟩
    · simp only [Sem.run_pure, Result.ok.injEq] at h; exact ⟨_, h.1.symm⟩
  case call c =>
    obtain ⟨callee, args, ats⟩ := c
    cases callee with
    | value f => exact Bool.noConfusion (show true = false from he)
    | invoke r m => exact Bool.noConfusion (show true = false from he)
    | builtin b =>
      rw [BigFrame.execOp_builtin] at h
      cases b <;> first | (exfalso; exact Bool.noConfusion (show true = false from he)) | exact key _ h
  all_goals exact key _ h

section
variable {P : Program} {ops : Array Oper} {C : World → Prop} {Q : Act → World → Prop}

/-- What a quiet operation yields is one value. -/
theorem quietAt_unique {o : Oper} (he : isEff o = false) {a : Act} {w : World} {u v : Value} (hu : o.quietAt P a C w u) (hv : o.quietAt P a C w v) : u = v ∧ (execOp a.eval o).run P w = .ok (.value v) w := by
  unfold Oper.quietAt at hu hv
  cases hr : (execOp a.eval o).run P w with
  | halt x w1 => rw [hr] at hu; simp [Oper.quietUpon] at hu
  | ok n w1 =>
    obtain ⟨x, rfl⟩ := quiet_value he a.eval hr
    rw [hr] at hu hv
    simp only [Oper.quietUpon] at hu hv
    obtain ⟨h1, h2⟩ := hu
    obtain ⟨_, h3⟩ := hv
    subst h1; subst h3
    exact ⟨h2.symm, rfl⟩

/-- What is known of an operation that is not wanted, or that is quiet. -/
theorem yieldsIn_unique {o : Oper} (he : isEff o = false) {a : Act} {w : World} (hC : C w) {u v : Value} (hu : YieldsIn P ops C o u a) (hv : YieldsIn P ops C o v a) : u = v := by
  rcases hu with ⟨hw, hu⟩ | ⟨hw, rfl⟩ <;> rcases hv with ⟨hw', hv⟩ | ⟨hw', rfl⟩
  · exact (quietAt_unique he (hu w hC) (hv w hC)).1
  · rw [hw] at hw'; cases hw'
  · rw [hw] at hw'; cases hw'
  · rfl

/-- An effect: carried out in the world as it stands; behind it the world is one of the class. -/
def stepE (P : Program) (ops : Array Oper) (C : World → Prop) (o : Oper) (K : Act → World → Prop) (a : Act) (w : World) : Prop :=
  if Region.wanted o (yielded ops a.tmps) then o.wp P a w (fun a' w' => C w' ∧ K a' w') NoEx else K (a.put o.dst undef) w

/-- The walk in the order of the text, by the operations' numbers. -/
def flowI (P : Program) (ops : Array Oper) (C : World → Prop) (Q : Act → World → Prop) : List Nat → Act → World → Prop
  | [], a, w => Q a w
  | i :: L, a, w => match ops[i]? with
    | none => flowI P ops C Q L a w
    | some o => if isEff o then stepE P ops C o (flowI P ops C Q L) a w else ∃ v, YieldsIn P ops C o v a ∧ flowI P ops C Q L (a.put o.dst v) w

/-- How an operation that has gone through leaves the frame. -/
def Left (o : Oper) (a a' : Act) : Prop := (∃ u, a' = a.put o.dst u) ∨ ∃ d : Deferred, a' = ({ a with defers := d :: a.defers } : Act).put o.dst undef

/-- Whatever goes through has an outcome. -/
theorem wp_outcome {o : Oper} {a : Act} {w : World} {K : Act → World → Prop} (h : o.wp P a w K NoEx) : ∃ a' w', Left o a a' ∧ K a' w' := by
  unfold Oper.wp at h
  generalize (execOp a.eval o).run P w = r at h
  cases r with
  | ok n w' =>
    cases n <;> simp only [Oper.upon] at h
    case value v => exact ⟨_, _, .inl ⟨_, rfl⟩, h⟩
    case skip => exact ⟨_, _, .inl ⟨_, rfl⟩, h⟩
    case defer d => exact ⟨_, _, .inr ⟨d, rfl⟩, h⟩
    case enter f args =>
      obtain ⟨e, w1, fr, hR, _⟩ := h []
      cases e with
      | returned v => exact ⟨_, _, .inl ⟨v, rfl⟩, hR⟩
      | panicked c => exact absurd hR (by simp [NoEx])
      | outgrown => obtain ⟨a0, w0, h0⟩ := hR; exact absurd h0 (by simp [NoEx])
    case row row args =>
      obtain ⟨v, w1, hR, _⟩ := h default []
      exact ⟨_, _, .inl ⟨v, rfl⟩, hR⟩
  | halt x w' => cases x <;> simp [Oper.upon, NoEx] at h

/-- What goes through from one frame goes through from another in which the operation finds the same. -/
theorem wp_carry {o : Oper} {a b : Act} {w : World} {K K' : Act → World → Prop} (he : execOp b.eval o = execOp a.eval o)
    (hk : ∀ u w', K (a.put o.dst u) w' → K' (b.put o.dst u) w')
    (hd : ∀ (d : Deferred) w', K (({ a with defers := d :: a.defers } : Act).put o.dst undef) w' → K' (({ b with defers := d :: b.defers } : Act).put o.dst undef) w')
    (h : o.wp P a w K NoEx) : o.wp P b w K' NoEx := by
  unfold Oper.wp at h ⊢
  rw [he]
  generalize (execOp a.eval o).run P w = r at h ⊢
  cases r with
  | ok n w' =>
    cases n <;> simp only [Oper.upon] at h ⊢
    case value v => exact hk _ _ h
    case skip => exact hk _ _ h
    case defer d => exact hd _ _ h
    case enter f args =>
      refine Calls.mono h fun e w1 hR => ?_
      cases e with
      | returned v => exact hk _ _ hR
      | panicked c => exact absurd hR (by simp [NoEx])
      | outgrown => obtain ⟨a0, w0, h0⟩ := hR; exact absurd h0 (by simp [NoEx])
    case row row args => exact Rows.mono h fun v w1 hR => hk _ _ hR
  | halt x w' => cases x <;> simp [Oper.upon, NoEx] at h

theorem yields_put {oi oj : Oper} {a : Act} {u v : Value} (hap : oi.apart ops oj = true) (hsi : ∀ cs b, oi.op ≠ .select cs b) : YieldsIn P ops C oi v (a.put oj.dst u) ↔ YieldsIn P ops C oi v a := by
  obtain ⟨_, _, h3⟩ := Oper.apart_spec hap
  have e1 := execOp_put oi hsi a oj.dst u h3
  have e2 := wanted_put (ops := ops) oi a oj.dst u h3
  exact ⟨fun h => h.of_same e1.symm e2.symm, fun h => h.of_same e1 e2⟩

theorem yields_defer {oi : Oper} {a : Act} {v : Value} {d : Deferred} : YieldsIn P ops C oi v ({ a with defers := d :: a.defers } : Act) ↔ YieldsIn P ops C oi v a :=
  ⟨fun h => h.of_same rfl rfl, fun h => h.of_same rfl rfl⟩

theorem yields_left {oi oj : Oper} {a a' : Act} {v : Value} (hap : oi.apart ops oj = true) (hsi : ∀ cs b, oi.op ≠ .select cs b) (h : Left oj a a') : YieldsIn P ops C oi v a' ↔ YieldsIn P ops C oi v a := by
  rcases h with ⟨u, rfl⟩ | ⟨d, rfl⟩
  · exact yields_put hap hsi
  · exact (yields_put hap hsi).trans yields_defer

theorem apart_symm {x y : Oper} (h : x.apart ops y = true) : y.apart ops x = true := by
  obtain ⟨h1, h2, h3⟩ := Oper.apart_spec h
  unfold Oper.apart
  cases hx : x.dst with
  | none =>
    cases hy : y.dst with
    | none => rfl
    | some e => simpa [hx] using h3 e hy
  | some d =>
    cases hy : y.dst with
    | none => simpa [hy] using h1 d hx
    | some e =>
      have e1 := h1 d hx
      have e2 := h2 d hx
      have e3 := h3 e hy
      rw [hy] at e2
      simp only [Option.some.injEq, ne_eq] at e2
      simp [e1, e3]
      exact fun h => e2 h.symm

variable (hs : ∀ (j : Nat) (o : Oper) cs b, ops[j]? = some o → o.op ≠ .select cs b)
include hs

/-- A quiet operation that stands apart from all ahead of it may come first. -/
theorem takeQ {i : Nat} {oi : Oper} (hi : ops[i]? = some oi) (hq : isEff oi = false) (L2 : List Nat) : ∀ (L1 : List Nat) (a : Act) (w : World), C w →
    (∀ j ∈ L1, ∀ oj, ops[j]? = some oj → oi.apart ops oj = true) → flowI P ops C Q (L1 ++ i :: L2) a w →
    ∃ v, YieldsIn P ops C oi v a ∧ flowI P ops C Q (L1 ++ L2) (a.put oi.dst v) w := by
  intro L1
  induction L1 with
  | nil =>
    intro a w _ _ h
    simp only [List.nil_append, flowI, hi, hq, Bool.false_eq_true, if_false] at h ⊢
    exact h
  | cons j L1 ih =>
    intro a w hC hap h
    have ih' := fun a w hC h => ih a w hC (fun k hk => hap k (List.mem_cons_of_mem _ hk)) h
    simp only [List.cons_append, flowI] at h ⊢
    cases hj : ops[j]? with
    | none => simp only [hj] at h ⊢; exact ih' a w hC h
    | some oj =>
      simp only [hj] at h ⊢
      have hap' := hap j List.mem_cons_self oj hj
      have hsi := fun cs b => hs i oi cs b hi
      have hsj := fun cs b => hs j oj cs b hj
      obtain ⟨p1, p2, p3⟩ := Oper.apart_spec hap'
      cases he : isEff oj with
      | false =>
        simp only [he, Bool.false_eq_true, if_false] at h ⊢
        obtain ⟨u, hu, h⟩ := h
        obtain ⟨v, hv, h⟩ := ih' _ _ hC h
        refine ⟨v, (yields_put hap' hsi).1 hv, u, (yields_put (apart_symm hap') hsj).2 hu, ?_⟩
        rw [Act.put_comm a v u p2]; exact h
      | true =>
        simp only [he, if_true, stepE] at h ⊢
        by_cases hw : Region.wanted oj (yielded ops a.tmps) = true
        · simp only [hw, if_true] at h
          obtain ⟨a1, w1, hl, hC1, h1⟩ := wp_outcome h
          obtain ⟨v, hv, _⟩ := ih' _ _ hC1 h1
          have hva := (yields_left hap' hsi hl).1 hv
          refine ⟨v, hva, ?_⟩
          rw [wanted_put (ops := ops) oj a oi.dst v p1]
          simp only [hw, if_true]
          refine wp_carry (execOp_put oj hsj a oi.dst v p1) (fun u w' hk => ?_) (fun d w' hk => ?_) h
          · obtain ⟨hC', h'⟩ := hk
            obtain ⟨v', hv', h''⟩ := ih' _ _ hC' h'
            have := yieldsIn_unique hq hC' ((yields_put hap' hsi).1 hv') hva
            subst this
            exact ⟨hC', by rw [Act.put_comm a _ u p2]; exact h''⟩
          · obtain ⟨hC', h'⟩ := hk
            obtain ⟨v', hv', h''⟩ := ih' _ _ hC' h'
            have := yieldsIn_unique hq hC' (yields_defer.1 ((yields_put hap' hsi).1 hv')) hva
            subst this
            refine ⟨hC', ?_⟩
            rw [Act.put_defers, Act.put_comm _ _ undef p2]; exact h''
        · simp only [hw, Bool.false_eq_true, if_false] at h
          obtain ⟨v, hv, h⟩ := ih' _ _ hC h
          refine ⟨v, (yields_put hap' hsi).1 hv, ?_⟩
          rw [wanted_put (ops := ops) oj a oi.dst v p1]
          simp only [hw, Bool.false_eq_true, if_false]
          rw [Act.put_comm a v undef p2]; exact h

/-- An effect that stands apart from the quiet operations ahead of it may come first. -/
theorem takeE {i : Nat} {oi : Oper} (hi : ops[i]? = some oi) (he : isEff oi = true) (L2 : List Nat) : ∀ (L1 : List Nat) (a : Act) (w : World),
    (∀ j ∈ L1, ∀ oj, ops[j]? = some oj → oi.apart ops oj = true ∧ isEff oj = false) → flowI P ops C Q (L1 ++ i :: L2) a w →
    stepE P ops C oi (flowI P ops C Q (L1 ++ L2)) a w := by
  intro L1
  induction L1 with
  | nil =>
    intro a w _ h
    simp only [List.nil_append, flowI, hi, he, if_true] at h ⊢
    exact h
  | cons j L1 ih =>
    intro a w hap h
    have ih' := fun a w h => ih a w (fun k hk => hap k (List.mem_cons_of_mem _ hk)) h
    simp only [List.cons_append, flowI] at h
    cases hj : ops[j]? with
    | none =>
      simp only [hj] at h
      have := ih' a w h
      have e : flowI P ops C Q (j :: L1 ++ L2) = flowI P ops C Q (L1 ++ L2) := by
        funext a w; simp only [List.cons_append, flowI, hj]
      rw [e]; exact this
    | some oj =>
      simp only [hj] at h
      obtain ⟨hap', hq⟩ := hap j List.mem_cons_self oj hj
      have hsi := fun cs b => hs i oi cs b hi
      have hsj := fun cs b => hs j oj cs b hj
      obtain ⟨p1, p2, p3⟩ := Oper.apart_spec hap'
      simp only [hq, Bool.false_eq_true, if_false] at h
      obtain ⟨u, hu, h⟩ := h
      have hstep := ih' _ _ h
      unfold stepE at hstep ⊢
      rw [wanted_put (ops := ops) oi a oj.dst u p3] at hstep
      have p2' : ∀ d, oj.dst = some d → oi.dst ≠ some d := fun d hd hd' => p2 d hd' hd
      split
      · rename_i hw
        simp only [hw, if_true] at hstep
        refine wp_carry (execOp_put oi hsi a oj.dst u p3).symm (fun v w' hk => ?_) (fun d w' hk => ?_) hstep
        · refine ⟨hk.1, ?_⟩
          simp only [List.cons_append, flowI, hj, hq, Bool.false_eq_true, if_false]
          exact ⟨u, (yields_put (apart_symm hap') hsj).2 hu, by rw [← Act.put_comm a u v p2']; exact hk.2⟩
        · refine ⟨hk.1, ?_⟩
          simp only [List.cons_append, flowI, hj, hq, Bool.false_eq_true, if_false]
          refine ⟨u, (yields_put (apart_symm hap') hsj).2 (yields_defer.2 hu), ?_⟩
          have hk2 := hk.2
          rw [Act.put_defers, Act.put_comm _ u undef p2'] at hk2
          exact hk2
      · rename_i hw
        simp only [hw, Bool.false_eq_true, if_false] at hstep
        simp only [List.cons_append, flowI, hj, hq, Bool.false_eq_true, if_false]
        exact ⟨u, (yields_put (apart_symm hap') hsj).2 hu, by rw [← Act.put_comm a u undef p2']; exact hstep⟩
end

/-! ### What is asked of the region's edges -/
/-- Does operation i wait, at most n steps back, for operation j? -/
def reachB (ops : Array Oper) : Nat → Nat → Nat → Bool
  | 0, _, _ => false
  | n + 1, j, i => match ops[i]? with
    | none => false
    | some o => o.after.any fun e => Region.binds .any e && (e.on == j || reachB ops n j e.on)

def chainB (ops : Array Oper) : List Nat → Bool
  | a :: b :: l => reachB ops 6 a b && chainB ops (b :: l)
  | _ => true

def effs (ops : Array Oper) : List Nat := (List.range ops.size).filter fun i => ((ops[i]?).map isEff).getD false

def pairB (ops : Array Oper) (_i : Nat) (oi : Oper) (j : Nat) : Bool :=
  match ops[j]? with
  | none => true
  | some oj => oi.after.any (fun e => Region.binds .any e && e.on == j) || oi.apart ops oj

def lineB (ops : Array Oper) (i : Nat) : Bool :=
  match ops[i]? with
  | none => true
  | some oi => oi.after.all (fun e => !Region.binds .any e || decide (e.on < i)) && (List.range i).all (pairB ops i oi)

def flowB (ops : Array Oper) : Bool := Region.noSelect ops && chainB ops (effs ops) && (List.range ops.size).all (lineB ops)

section
variable {P : Program} {ops : Array Oper} {C : World → Prop} {Q : Act → World → Prop}

def Closed (ops : Array Oper) (listed : Array Bool) : Prop :=
  ∀ i o, ops[i]? = some o → listed.getD i false = true → ∀ e ∈ o.after, Region.binds .any e = true → listed.getD e.on false = true

theorem reach_listed {listed : Array Bool} (hc : Closed ops listed) : ∀ (n j i : Nat) (o : Oper), ops[i]? = some o →
    (∀ e ∈ o.after, Region.binds .any e = true → listed.getD e.on false = true) → reachB ops n j i = true → listed.getD j false = true
  | 0, _, _, _, _, _, h => by simp [reachB] at h
  | n + 1, j, i, o, ho, ha, h => by
    simp only [reachB, ho] at h
    obtain ⟨e, he, hb⟩ := Array.any_eq_true'.1 h
    simp only [Bool.and_eq_true, Bool.or_eq_true, beq_iff_eq] at hb
    obtain ⟨hb, hx⟩ := hb
    have hl := ha e he hb
    rcases hx with rfl | hx
    · exact hl
    · cases hon : ops[e.on]? with
      | none => cases n <;> simp [reachB, hon] at hx
      | some o' => exact reach_listed hc n j e.on o' hon (hc _ _ hon hl) hx

theorem chain_listed {listed : Array Bool} (hc : Closed ops listed) : ∀ (l : List Nat) (a i : Nat) (o : Oper), chainB ops (a :: l) = true → i ∈ l → ops[i]? = some o →
    (∀ e ∈ o.after, Region.binds .any e = true → listed.getD e.on false = true) → (∀ k ∈ l, ∃ o, ops[k]? = some o) → listed.getD a false = true
  | [], _, _, _, _, hi, _, _, _ => by cases hi
  | b :: l, a, i, o, hch, hi, ho, ha, hall => by
    simp only [chainB, Bool.and_eq_true] at hch
    rcases List.mem_cons.1 hi with rfl | hi
    · exact reach_listed hc 6 a _ o ho ha hch.1
    · have hb := chain_listed hc l b i o hch.2 hi ho ha (fun k hk => hall k (List.mem_cons_of_mem _ hk))
      obtain ⟨ob, hob⟩ := hall b List.mem_cons_self
      exact reach_listed hc 6 a b ob hob (hc _ _ hob hb) hch.1

theorem chain_suffix : ∀ (l1 l2 : List Nat), chainB ops (l1 ++ l2) = true → chainB ops l2 = true
  | [], _, h => h
  | [a], [], _ => rfl
  | [a], b :: l, h => by simp only [List.cons_append, List.nil_append, chainB, Bool.and_eq_true] at h; exact h.2
  | a :: b :: l1, l2, h => by
    simp only [List.cons_append, chainB, Bool.and_eq_true] at h
    exact chain_suffix (b :: l1) l2 h.2

theorem wp_weaken {o : Oper} {a : Act} {w : World} {K K' : Act → World → Prop} {Q' : Exit → Act → World → Prop} (hk : ∀ a w, K a w → K' a w) (h : o.wp P a w K NoEx) : o.wp P a w K' Q' := by
  unfold Oper.wp at h ⊢
  generalize (execOp a.eval o).run P w = r at h ⊢
  cases r with
  | ok n w' =>
    cases n <;> simp only [Oper.upon] at h ⊢
    case value v => exact hk _ _ h
    case skip => exact hk _ _ h
    case defer d => exact hk _ _ h
    case enter f args =>
      refine Calls.mono h fun e w1 hR => ?_
      cases e with
      | returned v => exact hk _ _ hR
      | panicked c => exact absurd hR (by simp [NoEx])
      | outgrown => obtain ⟨a0, w0, h0⟩ := hR; exact absurd h0 (by simp [NoEx])
    case row row args => exact Rows.mono h fun v w1 hR => hk _ _ hR
  | halt x w' => cases x <;> simp [Oper.upon, NoEx] at h

theorem flow_any (hB : flowB ops = true) {Q' : Exit → Act → World → Prop} (hQ : ∀ a w, Q a w → Q' .normal a w) : ∀ (n : Nat) (L : List Nat) (listed : Array Bool) (a : Act) (w : World),
    L.length = n → L.Pairwise (· < ·) → (∀ i, i ∈ L ↔ i < ops.size ∧ listed.getD i true = false) → Closed ops listed → listed.size = ops.size → C w →
    flowI P ops C Q L a w → wpAny P .any ops Q' n listed a w := by
  simp only [flowB, Bool.and_eq_true, List.all_eq_true, List.mem_range] at hB
  obtain ⟨⟨hns, hch⟩, hline⟩ := hB
  have hsel := fun j o cs b => Region.noSelect_spec (ops := ops) hns j o cs b
  intro n
  induction n with
  | zero =>
    intro L listed a w hn _ hmem _ _ _ h
    obtain rfl : L = [] := List.length_eq_zero_iff.1 hn
    refine ⟨?_, hQ _ _ h⟩
    refine List.eq_nil_iff_forall_not_mem.2 fun i hi => ?_
    obtain ⟨h0, o, ho, _⟩ := mem_ready.1 hi
    have := (hmem i).2 ⟨(Array.getElem?_eq_some_iff.1 ho).1, h0⟩
    cases this
  | succ n ih =>
    intro L listed a w hn hpw hmem hcl hsz hC h
    have inL : ∀ i, i ∈ Region.ready .any ops listed → i ∈ L := fun i hi => by
      obtain ⟨h0, o, ho, _⟩ := mem_ready.1 hi
      exact (hmem i).2 ⟨(Array.getElem?_eq_some_iff.1 ho).1, h0⟩
    refine ⟨fun h0 => ?_, fun i hi => ?_⟩
    · -- the first of what is left may come up
      exfalso
      cases L with
      | nil => simp at hn
      | cons i L =>
        obtain ⟨hlt, hun⟩ := (hmem i).1 List.mem_cons_self
        have : i ∈ Region.ready .any ops listed := by
          refine mem_ready.2 ⟨hun, ops[i], Array.getElem?_eq_getElem hlt, fun e he hb => ?_⟩
          have hl := hline i hlt
          simp only [lineB, Array.getElem?_eq_getElem hlt, Bool.and_eq_true, Array.all_eq_true'] at hl
          have hel := hl.1 e he
          simp only [hb, Bool.not_true, Bool.false_or, decide_eq_true_eq] at hel
          cases hx : listed.getD e.on false with
          | true => rfl
          | false =>
            have hlt' : e.on < listed.size := by omega
            have hx' : listed.getD e.on true = false := by simpa [hlt'] using hx
            have hm := (hmem e.on).2 ⟨by omega, hx'⟩
            rcases List.mem_cons.1 hm with h1 | h1
            · omega
            · have := List.rel_of_pairwise_cons hpw h1
              omega
        rw [h0] at this
        cases this
    · have hiL := inL i hi
      obtain ⟨hun, oi, hoi, hall⟩ := mem_ready.1 hi
      have hilt := (Array.getElem?_eq_some_iff.1 hoi).1
      obtain ⟨L1, L2, rfl⟩ := List.append_of_mem hiL
      have hpw1 := List.pairwise_append.1 hpw
      have hlt1 : ∀ j ∈ L1, j < i := fun j hj => hpw1.2.2 j hj i List.mem_cons_self
      have hunl : ∀ j ∈ L1, listed.getD j false = false := fun j hj => by
        have := ((hmem j).1 (List.mem_append_left _ hj)).2
        rcases Nat.lt_or_ge j listed.size with h' | h'
        · simpa [h'] using this
        · simp [Array.getElem?_eq_none h']
      have hap : ∀ j ∈ L1, ∀ oj, ops[j]? = some oj → oi.apart ops oj = true := fun j hj oj hoj => by
        have hl := hline i hilt
        simp only [lineB, hoi, Bool.and_eq_true, List.all_eq_true, List.mem_range] at hl
        have hp := hl.2 j (hlt1 j hj)
        simp only [pairB, hoj, Bool.or_eq_true] at hp
        rcases hp with hp | hp
        · obtain ⟨e, he, hb⟩ := Array.any_eq_true'.1 hp
          simp only [Bool.and_eq_true, beq_iff_eq] at hb
          have := hall e he hb.1
          rw [hb.2, hunl j hj] at this
          cases this
        · exact hp
      have next : ∀ a' w', C w' → flowI P ops C Q (L1 ++ L2) a' w' → wpAny P .any ops Q' n (listed.setIfInBounds i true) a' w' := fun a' w' hC' h' => by
        have hii : ∀ k, k ∈ L1 ++ L2 → k ≠ i := fun k hk => by
          rcases List.mem_append.1 hk with hk | hk
          · have := hlt1 k hk; omega
          · have := List.rel_of_pairwise_cons hpw1.2.1 hk; omega
        refine ih (L1 ++ L2) _ a' w' (by simp at hn ⊢; omega) ?_ (fun k => ?_) ?_ (by simp [hsz]) hC' h'
        · refine List.pairwise_append.2 ⟨hpw1.1, (List.pairwise_cons.1 hpw1.2.1).2, fun x hx y hy => hpw1.2.2 x hx y (List.mem_cons_of_mem _ hy)⟩
        · constructor
          · intro hk
            have hne := hii k hk
            have hk' : k ∈ L1 ++ i :: L2 := by
              rcases List.mem_append.1 hk with hk | hk
              · exact List.mem_append_left _ hk
              · exact List.mem_append_right _ (List.mem_cons_of_mem _ hk)
            obtain ⟨h1, h2⟩ := (hmem k).1 hk'
            exact ⟨h1, by rw [getD_set_ne true (Ne.symm hne)]; exact h2⟩
          · rintro ⟨h1, h2⟩
            have hne : k ≠ i := by
              rintro rfl
              have : k < listed.size := by omega
              simp [this] at h2
            rw [getD_set_ne true (Ne.symm hne)] at h2
            have := (hmem k).2 ⟨h1, h2⟩
            rcases List.mem_append.1 this with hk | hk
            · exact List.mem_append_left _ hk
            · rcases List.mem_cons.1 hk with hk | hk
              · exact absurd hk hne
              · exact List.mem_append_right _ hk
        · intro k o ho hk e he hb
          by_cases hki : k = i
          · subst hki
            rw [hoi] at ho
            cases ho
            exact getD_set_true (hall e he hb)
          · rw [getD_set_ne false (Ne.symm hki)] at hk
            exact getD_set_true (hcl k o ho hk e he hb)
      cases hq : isEff oi with
      | false =>
        obtain ⟨v, hv, h'⟩ := takeQ hsel hoi hq L2 L1 a w hC hap h
        unfold wpOp
        simp only [hoi]
        rcases hv with ⟨hw, hv⟩ | ⟨hw, rfl⟩
        · simp only [hw, if_true]
          refine .inl ?_
          have := (quietAt_unique hq (hv w hC) (hv w hC)).2
          unfold Oper.wp
          rw [this]
          exact next _ _ hC h'
        · simp only [hw, Bool.false_eq_true, if_false]
          exact next _ _ hC h'
      | true =>
        have hnoE : ∀ j ∈ L1, ∀ oj, ops[j]? = some oj → oi.apart ops oj = true ∧ isEff oj = false := fun j hj oj hoj => by
          refine ⟨hap j hj oj hoj, ?_⟩
          cases hej : isEff oj with
          | false => rfl
          | true =>
            exfalso
            have hjE : j ∈ effs ops := List.mem_filter.2 ⟨List.mem_range.2 (Array.getElem?_eq_some_iff.1 hoj).1, by simp [hoj, hej]⟩
            have hiE : i ∈ effs ops := List.mem_filter.2 ⟨List.mem_range.2 hilt, by simp [hoi, hq]⟩
            have hsort : (effs ops).Pairwise (· < ·) := List.Pairwise.filter _ List.pairwise_lt_range
            obtain ⟨E1, E2, hE⟩ := List.append_of_mem hjE
            rw [hE] at hiE hsort hch
            have hji := hlt1 j hj
            have hi2 : i ∈ E2 := by
              rcases List.mem_append.1 hiE with h1 | h1
              · have := (List.pairwise_append.1 hsort).2.2 i h1 j List.mem_cons_self
                omega
              · rcases List.mem_cons.1 h1 with h1 | h1
                · omega
                · exact h1
            have := chain_listed hcl E2 j i oi (chain_suffix E1 _ hch) hi2 hoi hall (fun k hk => by
              have hkE : k ∈ effs ops := by rw [hE]; exact List.mem_append_right _ (List.mem_cons_of_mem _ hk)
              have := List.mem_range.1 (List.mem_filter.1 hkE).1
              exact ⟨_, Array.getElem?_eq_getElem this⟩)
            rw [hunl j hj] at this
            cases this
        have hstep := takeE hsel hoi hq L2 L1 a w hnoE h
        unfold wpOp
        simp only [hoi]
        unfold stepE at hstep
        split
        · rename_i hw
          simp only [hw, if_true] at hstep
          exact .inl (wp_weaken (fun a' w' hk => next a' w' hk.1 hk.2) hstep)
        · rename_i hw
          simp only [hw, Bool.false_eq_true, if_false] at hstep
          exact next _ _ hC hstep

/-! ### The walk by the operations themselves -/
def flowL (P : Program) (ops : Array Oper) (C : World → Prop) (Q : Act → World → Prop) : List Oper → Act → World → Prop
  | [], a, w => Q a w
  | o :: L, a, w => if isEff o then stepE P ops C o (flowL P ops C Q L) a w else ∃ v, YieldsIn P ops C o v a ∧ flowL P ops C Q L (a.put o.dst v) w

theorem flowI_of_L : ∀ (l : List Oper) (k : Nat), (∀ j, l[j]? = ops[k + j]?) → flowI P ops C Q (List.range' k l.length) = flowL P ops C Q l
  | [], _, _ => by funext a w; simp [flowI, flowL]
  | o :: l, k, h => by
    have h0 : ops[k]? = some o := by simpa using (h 0).symm
    have ih := flowI_of_L l (k + 1) (fun j => by have := h (j + 1); simpa [Nat.add_assoc, Nat.add_comm 1 j] using this)
    funext a w
    simp only [List.length_cons, List.range'_succ, flowI, h0, flowL, ih]

/-- **A REGION THAT DRAWS: one walk in the order of the text.** -/
theorem wp_region_flow {id : Nat} {Q' : Exit → Act → World → Prop} {a : Act} {w : World} {l : List Oper} (hm : P.follows .mixedOrders = true) (hB : flowB l.toArray = true)
    (h : flowL P l.toArray (Ovs w.drew) (fun a' w' => Q' .normal a' w') l a w.drew) : (Code.region id l.toArray true).wp P Q' a w := by
  refine wp_region_any hm ?_
  refine flow_any (C := Ovs w.drew) (Q := fun a' w' => Q' .normal a' w') hB (fun _ _ h => h) _ (List.range' 0 l.length) _ a _ (by simp) ?_ (fun i => ?_) ?_ (by simp) ?_ ?_
  · rw [← List.range_eq_range']; exact List.pairwise_lt_range
  · rw [← List.range_eq_range', List.mem_range]
    constructor
    · intro hi; exact ⟨by simpa using hi, by simp [hi]⟩
    · intro hi; simpa using hi.1
  · intro i o ho hl
    exfalso
    rcases Nat.lt_or_ge i l.length with h' | h'
    · simp [h'] at hl
    · simp [h'] at hl
  · exact ovs_iff.2 (Below.refl _ _)
  · rw [flowI_of_L l 0 (by simp)]; exact h

/-- The same, one block set aside: the row that an append at the region's end may write. -/
theorem wp_region_flow_x (r : Nat) {id : Nat} {Q' : Exit → Act → World → Prop} {a : Act} {w : World} {l : List Oper} (hm : P.follows .mixedOrders = true) (hB : flowB l.toArray = true)
    (h : flowL P l.toArray (OvX r w.drew) (fun a' w' => Q' .normal a' w') l a w.drew) : (Code.region id l.toArray true).wp P Q' a w := by
  refine wp_region_any hm ?_
  refine flow_any (C := OvX r w.drew) (Q := fun a' w' => Q' .normal a' w') hB (fun _ _ h => h) _ (List.range' 0 l.length) _ a _ (by simp) ?_ (fun i => ?_) ?_ (by simp) ?_ ?_
  · rw [← List.range_eq_range']; exact List.pairwise_lt_range
  · rw [← List.range_eq_range', List.mem_range]
    constructor
    · intro hi; exact ⟨by simpa using hi, by simp [hi]⟩
    · intro hi; simpa using hi.1
  · intro i o ho hl
    exfalso
    rcases Nat.lt_or_ge i l.length with h' | h'
    · simp [h'] at hl
    · simp [h'] at hl
  · exact OvX.of (AgreeX.refl _ _)
  · rw [flowI_of_L l 0 (by simp)]; exact h

/-- The quiet operations at the head, n of them, by 'go_big_quiet_step'. -/
theorem flow_seg (n : Nat) {l : List Oper} {a : Act} {w : World} (he : (l.take n).all (fun o => !isEff o) = true)
    (h : wpQuiet P ops C (fun a' => flowL P ops C Q (l.drop n) a' w) (l.take n) a) : flowL P ops C Q l a w := by
  have key : ∀ (s r : List Oper) (a : Act), s.all (fun o => !isEff o) = true → wpQuiet P ops C (fun a' => flowL P ops C Q r a' w) s a → flowL P ops C Q (s ++ r) a w := by
    intro s r
    induction s with
    | nil => intro a _ h; exact h
    | cons o s ih =>
      intro a he h
      simp only [List.all_cons, Bool.and_eq_true, Bool.not_eq_true'] at he
      simp only [List.cons_append, flowL, he.1, Bool.false_eq_true, if_false]
      simp only [wpQuiet] at h
      split at h
      · rename_i hw
        obtain ⟨v, hv, h⟩ := h
        exact ⟨v, .inl ⟨hw, hv⟩, ih _ he.2 h⟩
      · rename_i hw
        exact ⟨undef, .inr ⟨by simpa using hw, rfl⟩, ih _ he.2 h⟩
  have := key _ _ a he h
  rwa [List.take_append_drop] at this

/-- One effect. -/
theorem flow_eff {o : Oper} {l : List Oper} {a : Act} {w : World} (he : isEff o = true) (hw : Region.wanted o (yielded ops a.tmps) = true)
    (h : ∀ K : Act → World → Prop, (∀ a' w', C w' ∧ flowL P ops C Q l a' w' → K a' w') → o.wp P a w K NoEx) : flowL P ops C Q (o :: l) a w := by
  simp only [flowL, he, if_true, stepE, hw]
  exact h _ fun _ _ h => h

/-- One effect that is not wanted. -/
theorem flow_pass {o : Oper} {l : List Oper} {a : Act} {w : World} (he : isEff o = true) (hw : Region.wanted o (yielded ops a.tmps) = false)
    (h : flowL P ops C Q l (a.put o.dst undef) w) : flowL P ops C Q (o :: l) a w := by
  simp only [flowL, he, if_true, stepE, hw, Bool.false_eq_true, if_false]
  exact h

theorem flow_nil {a : Act} {w : World} (h : Q a w) : flowL P ops C Q [] a w := h
end

/-! ### Growth: new blocks alone -/
def Gr (w w' : World) : Prop := Below w.heap.size w w'
theorem Gr.refl (w : World) : Gr w w := Below.refl _ _
theorem Gr.trans {a b c : World} (h : Gr a b) (k : Gr b c) : Gr a c := Below.trans h (Below.mono k h.size)
theorem Gr.alloc {a w : World} (h : Gr a w) (o : Obj) : Gr a (w.alloc o) := Below.alloc h h.size o
theorem Gr.drew {a w : World} (h : Gr a w) : Gr a w.drew := Below.drew h
theorem Gr.of_drew {a w : World} (h : Gr a.drew w) : Gr a w := ⟨h.os, h.tape, h.output, h.size, h.block⟩
theorem Gr.from_drew {a w : World} (h : Gr a w) : Gr a.drew w := ⟨h.os, h.tape, h.output, h.size, h.block⟩
theorem Gr.setCell {a w : World} (h : Gr a w) {p : Addr} (hp : a.heap.size ≤ p.block) (u : Value) : Gr a (w.setCell p u) := Below.setCell h hp u
theorem Gr.sz {w w' : World} (h : Gr w w') : w.heap.size ≤ w'.heap.size := Below.size h
theorem Gr.cell {w w' : World} (h : Gr w w') : ∀ b o, b < w.heap.size → w'.cell? ⟨b, o, none⟩ = w.cell? ⟨b, o, none⟩ := fun b o hb => Below.cell (p := ⟨b, o, none⟩) h hb
theorem Gr.frozen {w w' : World} (h : Gr w w') : ∀ b o, b < w.heap.size → w'.frozen? ⟨b, o, none⟩ = w.frozen? ⟨b, o, none⟩ := fun b o hb => Below.frozen (p := ⟨b, o, none⟩) h hb
theorem Gr.ovs {w w' : World} (h : Gr w w') : Ovs w w' := ovs_iff.2 h
theorem Gr.grown {w w' : World} (h : Gr w w') : w.grownBy w' none := ⟨Below.os h, Below.tape h, Below.output h, Below.size h, fun k hk _ => Below.block h k hk⟩
theorem ownsRow_gr {w w' : World} {base : Nat} {e : TypeId} {size : Nat} {v : Value} {n : Nat} {xs : List Value} (h : w.ownsRow base e size v n xs) (g : Gr w w') : w'.ownsRow base e size v n xs :=
  h.kept g.grown (by cases v.ownBlock <;> simp)
/-- Behind an append to a row of the call's own: grown from a world before the row was. -/
theorem Gr.of_append {w0 w w1 w2 : World} {base : Nat} {e : TypeId} {size : Nat} {v : Value} {n : Nat} {xs : List Value} (h1 : Gr w w1) (h2 : w1.grownBy w2 v.ownBlock) (h0 : Gr w0 w) (hown : w.ownsRow base e size v n xs) (hb : w0.heap.size ≤ base) : Gr w0 w2 := by
  have h := h0.trans h1
  refine ⟨h2.os.trans (Below.os h), h2.tape.trans (Below.tape h), h2.output.trans (Below.output h), Nat.le_trans h.sz h2.size, fun k hk => ?_⟩
  refine (h2.block k (Nat.lt_of_lt_of_le hk h.sz) fun hh => ?_).trans (Below.block h k hk)
  have := (hown.lt k hh.symm).1
  omega
theorem AgreeX.gr {r : Nat} {a w w' : World} (h : AgreeX r a w) (g : Gr w w') : AgreeX r a w' :=
  ⟨Nat.le_trans h.1 g.sz, fun k hk hr => (Below.block g k (Nat.lt_of_lt_of_le hk h.1)).trans (h.2 k hk hr)⟩
theorem AgreeX.alloc {r : Nat} {a w : World} (h : AgreeX r a w) (o : Obj) : AgreeX r a (w.alloc o) := h.gr (Gr.alloc (Gr.refl w) o)
theorem AgreeX.drew {r : Nat} {a w : World} (h : AgreeX r a w) : AgreeX r a w.drew := h.gr (Gr.drew (Gr.refl w))
theorem AgreeX.grown {r : Nat} {a w w' : World} {row : Option Nat} (h : AgreeX r a w) (g : w.grownBy w' row) (hr : row = none ∨ row = some r) : AgreeX r a w' :=
  ⟨Nat.le_trans h.1 g.size, fun k hk hk' => (g.block k (Nat.lt_of_lt_of_le hk h.1) (by rcases hr with rfl | rfl <;> simp; omega)).trans (h.2 k hk hk')⟩
end Go.Proofs.YtemjnppplmankaaGreat
