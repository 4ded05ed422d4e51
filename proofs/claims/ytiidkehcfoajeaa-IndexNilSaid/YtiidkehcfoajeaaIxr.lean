/- An index in memory: the struct, its map from keys to rows of entries, and a row of entries for each slot; no two share a block. -/
import Derived.Test.YtiidkehcfoajeaaSep
import Derived.Test.YtiidkehcfoajeaaIxp
import Derived.Test.YtiidkehcfoajeaaOmdsl
import Derived.Test.YtiidkehcfoajeaaInsen
set_option linter.unusedVariables false
set_option linter.unusedSimpArgs false
namespace Go.Proofs.Ytiidkehcfoajeaa
open Go.RowKit

abbrev Sl := Option Addr × Nat × Nat
def slV (s : Sl) : Value := .slice s.1 s.2.1 s.2.2
def enC (e : En) : List Value := [.int .i64 e.seq, .string e.key, .bool e.del, .int .i64 e.slot, .int .i64 e.off, .int .i64 e.size]
def enV (e : En) : Value := .agg #[.int .i64 e.seq, .string e.key, .bool e.del, .int .i64 e.slot, .int .i64 e.off, .int .i64 e.size]
def rowE (l : List En) : List Value := l.flatMap enC
theorem rowE_cons (x : En) (l : List En) : rowE (x :: l) = enC x ++ rowE l := rfl
theorem rowE_app (l m : List En) : rowE (l ++ m) = rowE l ++ rowE m := by simp [rowE]
theorem rowE_len (l : List En) : (rowE l).length = l.length * 6 := by
  induction l with
  | nil => rfl
  | cons x l ih => rw [rowE_cons, List.length_append, ih]; simp [enC]; omega
theorem rowE_one (l : List En) : ∀ u ∈ rowE l, u.oneCell' = true := by
  intro u hu
  simp only [rowE, List.mem_flatMap] at hu
  obtain ⟨x, _, hx⟩ := hu
  simp only [enC, List.mem_cons, List.not_mem_nil, or_false] at hx
  rcases hx with rfl | rfl | rfl | rfl | rfl | rfl <;> rfl
theorem rowE_take (l : List En) (i : Nat) : (rowE l).take (i * 6) = rowE (l.take i) := by
  induction l generalizing i with
  | nil => simp [rowE]
  | cons y l ih =>
    cases i with
    | zero => simp [rowE]
    | succ i =>
      rw [rowE_cons, show (i + 1) * 6 = 6 + i * 6 by omega, List.take_succ_cons, rowE_cons, ← ih i]
      exact List.take_length_add_append (l₁ := enC y) (l₂ := rowE l) (i * 6)
theorem rowE_drop (l : List En) (i : Nat) : (rowE l).drop (i * 6) = rowE (l.drop i) := by
  induction l generalizing i with
  | nil => simp [rowE]
  | cons y l ih =>
    cases i with
    | zero => simp [rowE]
    | succ i =>
      rw [rowE_cons, show (i + 1) * 6 = 6 + i * 6 by omega, List.drop_succ_cons, ← ih i]
      exact List.drop_length_add_append (l₁ := enC y) (l₂ := rowE l) (i * 6)
theorem rowE_get (l : List En) : ∀ i x, l[i]? = some x → ∀ j u, (enC x)[j]? = some u → (rowE l)[i * 6 + j]? = some u := by
  induction l with
  | nil => intro i x h; simp at h
  | cons y l ih =>
    intro i x h j u hu
    have hj : j < 6 := by have := (List.getElem?_eq_some_iff.1 hu).1; simpa [enC] using this
    rw [rowE_cons]
    cases i with
    | zero => simp at h; subst h; rw [List.getElem?_append_left (by simp [enC]; omega)]; simpa using hu
    | succ i =>
      rw [List.getElem?_append_right (by simp [enC]; omega), show (i + 1) * 6 + j - (enC y).length = i * 6 + j by simp [enC]; omega]
      exact ih i x (by simpa using h) j u hu
/-- The cells of an entry in a row. -/
theorem ownE_at {w : World} {v : Value} {l : List En} (h : Own w 23 6 v l.length (rowE l)) : ∃ a cap, v = .slice a l.length cap ∧ l.length ≤ cap ∧ cap ≤ maxLen ∧ ∀ i x, l[i]? = some x → ∃ g, a = some ⟨g, 0, none⟩ ∧ g < w.heap.size ∧ v.ownBlock = some g ∧
    ∀ j u, (enC x)[j]? = some u → w.cell? ⟨g, i * 6 + j, none⟩ = some u := by
  rcases h.2 with ⟨hv, h0⟩ | ⟨g, cap, cur, hv, _, hg, h1, h2, h3, h4⟩
  · have hL : l = [] := List.eq_nil_of_length_eq_zero h0
    subst hL
    exact ⟨none, 0, hv, Nat.le_refl _, by simp [maxLen], fun i x hx => by simp at hx⟩
  · subst hv
    refine ⟨_, cap, rfl, h1, h2, fun i x hx => ⟨g, rfl, blkLt hg, rfl, fun j u hu => ?_⟩⟩
    have hc := h.cells (g := g) rfl
    have hadd : ∀ j, (⟨g, 0, none⟩ : Addr).add j = ⟨g, j, none⟩ := fun j => by unfold Addr.add; split <;> simp_all
    rw [← hadd]
    exact hc _ _ (rowE_get l i x hx j u hu)
def omA (bm : Nat) (v : Value) (KL : List (ByteArray × Sl)) : Asn :=
  ⟨fun k => k = bm ∨ v.ownBlock = some k, fun w => OMsl w bm v KL, fun h m hs => h.mdh m hs, fun {w} h k hk => hk.elim (fun e => e ▸ blkLt h.blk) (fun e => h.own.lt e)⟩
abbrev enA (s : Sl) (l : List En) : Asn := rowA 23 6 (slV s) l.length (rowE l)
def keyRows (KL : List (ByteArray × Sl)) (ks : List (ByteArray × List En)) : List Asn := List.zipWith (fun a b => enA a.2 b.2) KL ks
def slotRows (SL : List Sl) (ls : List (List En)) : List Asn := List.zipWith enA SL ls
/-- Where the parts of an index lie. -/
structure Lay where
  bm : Nat
  v : Value
  sv : Value
  KL : List (ByteArray × Sl)
  SL : List Sl
def Lay.hd (Y : Lay) (b n : Nat) : List Asn := [blkA b (.cells #[.pointer (some ⟨Y.bm, 0, none⟩), Y.sv] 29), omA Y.bm Y.v Y.KL, rowA 127 1 Y.sv n (Y.SL.map slV)]
def Lay.list (Y : Lay) (b : Nat) (X : IX) : List Asn := Y.hd b X.slots.length ++ (keyRows Y.KL X.keys ++ slotRows Y.SL X.slots)
structure Lay.Fit (Y : Lay) (X : IX) : Prop where
  k : Y.KL.map Prod.fst = X.keys.map Prod.fst
  s : Y.SL.length = X.slots.length
/-- An index that was made lies in block b, in the blocks S. -/
structure IXR (w : World) (b : Nat) (X : IX) (S : Nat → Prop) : Prop where
  ok : X.Wf
  pos : X.slots ≠ []
  ex : ∃ Y : Lay, Sep (Y.list b X) w ∧ Y.Fit X ∧ ∀ k, S k ↔ ∃ A ∈ Y.list b X, A.S k
section
variable {w w' : World} {b : Nat} {X : IX} {S : Nat → Prop}
theorem IXR.mdh {T : Nat → Prop} (h : IXR w b X S) (m : Mdh T w w') (hs : ∀ k, S k → ¬ T k) : IXR w' b X S := by
  obtain ⟨h1, h2, Y, h3, h4, h5⟩ := h
  exact ⟨h1, h2, Y, h3.mdh m (fun A hA k hk => hs k ((h5 k).2 ⟨A, hA, hk⟩)), h4, h5⟩
theorem IXR.gr (h : IXR w b X S) (g : Gr w w') : IXR w' b X S := h.mdh (g.mdh fun _ => False) (fun _ _ h => h)
theorem IXR.lt (h : IXR w b X S) : ∀ k, S k → k < w.heap.size := fun k hk => by
  obtain ⟨_, _, Y, h3, _, h5⟩ := h
  obtain ⟨A, hA, hk⟩ := (h5 k).1 hk
  exact h3.lt hA k hk
theorem IXR.self (h : IXR w b X S) : S b := by
  obtain ⟨_, _, Y, h3, _, h5⟩ := h
  exact (h5 b).2 ⟨_, by simp [Lay.list, Lay.hd]; exact .inl rfl, rfl⟩
end
/-- An index as a thing. -/
def ixA (b : Nat) (X : IX) (S : Nat → Prop) : Asn := ⟨S, fun w => IXR w b X S, fun h m hs => h.mdh m hs, fun h => h.lt⟩

/-! ### The parts, found -/
theorem rk_keys {α β : Type} (lt : ByteArray → ByteArray → Bool) (k : ByteArray) : ∀ (L : List (ByteArray × α)) (M : List (ByteArray × β)), L.map Prod.fst = M.map Prod.fst → rk lt L k = rk lt M k
  | [], [], _ => rfl
  | [], _ :: _, h => by simp at h
  | _ :: _, [], h => by simp at h
  | x :: L, y :: M, h => by
    simp only [List.map_cons, List.cons.injEq] at h
    have ih := rk_keys lt k L M h.2
    unfold rk
    rw [h.1, ih]
theorem keys_at {α β : Type} {L : List (ByteArray × α)} {M : List (ByteArray × β)} (h : L.map Prod.fst = M.map Prod.fst) (i : Nat) : (L[i]?).map Prod.fst = (M[i]?).map Prod.fst := by
  have := congrArg (fun l => l[i]?) h
  simpa using this
theorem zip_at {α β γ : Type} (f : α → β → γ) {L : List α} {M : List β} {i : Nat} {a : α} {b : β} (ha : L[i]? = some a) (hb : M[i]? = some b) : (List.zipWith f L M)[i]? = some (f a b) := by
  rw [List.getElem?_zipWith, ha, hb]
section
variable {w : World} {b : Nat} {X : IX} {S : Nat → Prop} {Y : Lay}
theorem Lay.blk (h : Sep (Y.list b X) w) : w.heap[b]? = some (.cells #[.pointer (some ⟨Y.bm, 0, none⟩), Y.sv] 29) := h.get (A := blkA b _) (by simp [Lay.list, Lay.hd])
theorem Lay.om (h : Sep (Y.list b X) w) : OMsl w Y.bm Y.v Y.KL := h.get (A := omA Y.bm Y.v Y.KL) (by simp [Lay.list, Lay.hd])
theorem Lay.srow (h : Sep (Y.list b X) w) : Own w 127 1 Y.sv X.slots.length (Y.SL.map slV) := h.get (A := rowA 127 1 Y.sv X.slots.length (Y.SL.map slV)) (by simp [Lay.list, Lay.hd])
theorem Lay.slot_mem {i : Nat} {s : Sl} {l : List En} (hs : Y.SL[i]? = some s) (hl : X.slots[i]? = some l) : enA s l ∈ Y.list b X :=
  List.mem_append_right _ (List.mem_append_right _ (List.mem_of_getElem? (zip_at enA hs hl)))
theorem Lay.key_mem {i : Nat} {s : ByteArray × Sl} {l : ByteArray × List En} (hs : Y.KL[i]? = some s) (hl : X.keys[i]? = some l) : enA s.2 l.2 ∈ Y.list b X :=
  List.mem_append_right _ (List.mem_append_left _ (List.mem_of_getElem? (zip_at (fun (a : ByteArray × Sl) (b : ByteArray × List En) => enA a.2 b.2) hs hl)))
theorem Lay.Fit.key (f : Y.Fit X) {i : Nat} {l : ByteArray × List En} (hl : X.keys[i]? = some l) : ∃ s, Y.KL[i]? = some (l.1, s) := by
  have := keys_at f.k i
  rw [hl] at this
  cases h : Y.KL[i]? with
  | none => rw [h] at this; cases this
  | some x => rw [h] at this; obtain ⟨x1, x2⟩ := x; exact ⟨x2, by rw [← Option.some.inj this]⟩
theorem Lay.Fit.rkE (f : Y.Fit X) (k : ByteArray) : rk ltS Y.KL k = rk ltS X.keys k := rk_keys _ _ _ _ f.k
theorem Lay.Fit.lookE (f : Y.Fit X) (k : ByteArray) : (look ltS Y.KL k = none ∧ look ltS X.keys k = none) ∨ ∃ s l, look ltS Y.KL k = some s ∧ look ltS X.keys k = some l ∧ Y.KL[rk ltS X.keys k]? = some (k, s) ∧ X.keys[rk ltS X.keys k]? = some (k, l) := by
  have hr := f.rkE k
  cases hl : look ltS X.keys k with
  | some l =>
    have h1 := look_some hl
    obtain ⟨s, hs⟩ := f.key h1
    refine .inr ⟨s, l, ?_, rfl, hs, h1⟩
    unfold look
    rw [hr, hs]
    simp
  | none =>
    refine .inl ⟨?_, rfl⟩
    unfold look at hl ⊢
    rw [hr]
    have := keys_at f.k (rk ltS X.keys k)
    cases h : Y.KL[rk ltS X.keys k]? with
    | none => rfl
    | some x =>
      rw [h] at this
      cases h' : X.keys[rk ltS X.keys k]? with
      | none => rw [h'] at this; cases this
      | some y =>
        rw [h'] at this hl
        have e : x.1 = y.1 := Option.some.inj this
        simp only at hl ⊢
        rw [e]
        split at hl
        · cases hl
        · rename_i hne; rw [if_neg hne]
end
theorem nilRow (w : World) (t : TypeId) (K : Nat) : Own w t K (.slice none 0 0) 0 [] := ⟨by simp, .inl ⟨rfl, rfl⟩⟩
/-- What the map has for a key is the row of its entries. -/
theorem Lay.ofE {w : World} {b : Nat} {X : IX} {Y : Lay} (h : Sep (Y.list b X) w) (f : Y.Fit X) (k : ByteArray) :
    ∃ s : Sl, lookVsl Y.KL k = slV s ∧ Own w 23 6 (slV s) (X.of k).length (rowE (X.of k)) ∧ (X.of k ≠ [] → enA s (X.of k) ∈ Y.list b X) ∧ hasBsl Y.KL k = (look ltS X.keys k).isSome := by
  rcases f.lookE k with ⟨h1, h2⟩ | ⟨s, l, h1, h2, h3, h4⟩
  · refine ⟨(none, 0, 0), by unfold lookVsl; rw [h1]; rfl, ?_, ?_, by unfold hasBsl; rw [h1, h2]; rfl⟩
    · unfold IX.of; rw [h2]; exact nilRow w _ _
    · unfold IX.of; rw [h2]; intro h0; exact absurd rfl h0
  · refine ⟨s, by unfold lookVsl; rw [h1]; rfl, ?_, fun _ => ?_, by unfold hasBsl; rw [h1, h2]; rfl⟩
    · unfold IX.of; rw [h2]; exact h.get (Lay.key_mem h3 h4)
    · unfold IX.of; rw [h2]; exact Lay.key_mem h3 h4
/-- The row of a slot. -/
theorem Lay.slotE {w : World} {b : Nat} {X : IX} {Y : Lay} (h : Sep (Y.list b X) w) (f : Y.Fit X) {s : Int} (hs : X.has s = true) :
    ∃ (i : Nat) (sl : Sl) (g cap : Nat), s = i ∧ i < X.slots.length ∧ Y.SL[i]? = some sl ∧ X.slots[i]? = some (X.slot s) ∧ Y.sv = .slice (some ⟨g, 0, none⟩) X.slots.length cap ∧ X.slots.length ≤ cap ∧ cap ≤ maxLen ∧ w.cell? ⟨g, i, none⟩ = some (slV sl) ∧ Own w 23 6 (slV sl) (X.slot s).length (rowE (X.slot s)) ∧ enA sl (X.slot s) ∈ Y.list b X := by
  obtain ⟨i, rfl, hi⟩ := has_at hs
  have hlt := (List.getElem?_eq_some_iff.1 hi).1
  have hlt2 : i < Y.SL.length := by rw [f.s]; exact hlt
  have hsl : Y.SL[i]? = some (Y.SL[i]'hlt2) := List.getElem?_eq_getElem hlt2
  rcases (Lay.srow h).2 with ⟨_, h0⟩ | ⟨g, cap, cur, hv, _, hg, h1, h2, h3, h4⟩
  · omega
  · have hadd : ∀ j, (⟨g, 0, none⟩ : Addr).add j = ⟨g, j, none⟩ := fun j => by unfold Addr.add; split <;> simp_all
    have hc := (Lay.srow h).cells (g := g) (by rw [hv]; rfl)
    refine ⟨i, _, g, cap, rfl, hlt, hsl, hi, hv, h1, h2, ?_, h.get (Lay.slot_mem hsl hi), Lay.slot_mem hsl hi⟩
    rw [← hadd]
    exact hc i _ (by rw [List.getElem?_map, hsl]; rfl)
end Go.Proofs.Ytiidkehcfoajeaa
