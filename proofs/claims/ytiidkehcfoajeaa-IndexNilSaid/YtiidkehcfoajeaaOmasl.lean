/- An ordered map in memory, and the methods that read it, at keys string and values drumlin/index.list. Written from YOma.base by inst.py. -/
import Derived.Test.YtiidkehcfoajeaaDelsl
import Derived.Test.YtiidkehcfoajeaaOml
import Derived.Test.YtiidkehcfoajeaaOms
import Derived.Deep.CutBlock
import Derived.Deep.DeepCutAuto
set_option linter.unusedVariables false
set_option linter.unusedSimpArgs false
namespace Go.Proofs.Ytiidkehcfoajeaa
open Go.RowKit
attribute [local go_sem] OvM cell_ovm obj_ovm

abbrev Itsl := ByteArray × (Option Addr × Nat × Nat)
def kvsl (k : ByteArray) : Value := .string (k)
def vvsl (v : (Option Addr × Nat × Nat)) : Value := .slice (v).1 (v).2.1 (v).2.2
def celsl (x : Itsl) : List Value := [.string (x.1), .slice (x.2).1 (x.2).2.1 (x.2).2.2]
def rowsl (L : List Itsl) : List Value := L.flatMap celsl
theorem row_lensl (L : List Itsl) : (rowsl L).length = L.length * 2 := by
  induction L with
  | nil => rfl
  | cons x L ih => simp only [rowsl, List.flatMap_cons, List.length_append, List.length_cons] at *; rw [ih]; simp [celsl]; omega
theorem row_onesl (L : List Itsl) : ∀ u ∈ rowsl L, u.oneCell' = true := by
  intro u hu
  simp only [rowsl, List.mem_flatMap] at hu
  obtain ⟨x, _, hx⟩ := hu
  simp only [celsl, List.mem_cons, List.not_mem_nil, or_false] at hx
  rcases hx with rfl | rfl <;> rfl
theorem row_appsl (L M : List Itsl) : rowsl (L ++ M) = rowsl L ++ rowsl M := by simp [rowsl]
theorem row_getsl (L : List Itsl) : ∀ i x, L[i]? = some x → (rowsl L)[i * 2]? = some (.string (x.1)) ∧ (rowsl L)[i * 2 + 1]? = some (.slice (x.2).1 (x.2).2.1 (x.2).2.2) := by
  induction L with
  | nil => intro i x h; simp at h
  | cons y L ih =>
    intro i x h
    have e : rowsl (y :: L) = celsl y ++ rowsl L := rfl
    rw [e]
    cases i with
    | zero => simp at h; subst h; simp [celsl]
    | succ i =>
      have := ih i x (by simpa using h)
      have e1 : (i + 1) * 2 = i * 2 + 2 := by omega
      rw [e1, List.getElem?_append_right (by simp [celsl]), List.getElem?_append_right (by simp [celsl])]
      simpa [celsl, show i * 2 + 2 + 1 - 2 = i * 2 + 1 by omega] using this
theorem row_takesl (L : List Itsl) (i : Nat) : (rowsl L).take (i * 2) = rowsl (L.take i) := by
  induction L generalizing i with
  | nil => simp [rowsl]
  | cons y L ih =>
    cases i with
    | zero => simp [rowsl]
    | succ i =>
      have e : rowsl (y :: L) = celsl y ++ rowsl L := rfl
      rw [e, show (i + 1) * 2 = 2 + i * 2 by omega, List.take_succ_cons, show rowsl (y :: L.take i) = celsl y ++ rowsl (L.take i) from rfl, ← ih i]
      exact List.take_length_add_append (l₁ := celsl y) (l₂ := rowsl L) (i * 2)
theorem row_dropsl (L : List Itsl) (i : Nat) : (rowsl L).drop (i * 2) = rowsl (L.drop i) := by
  induction L generalizing i with
  | nil => simp [rowsl]
  | cons y L ih =>
    cases i with
    | zero => simp [rowsl]
    | succ i =>
      have e : rowsl (y :: L) = celsl y ++ rowsl L := rfl
      rw [e, show (i + 1) * 2 = 2 + i * 2 by omega, List.drop_succ_cons, ← ih i]
      exact List.drop_length_add_append (l₁ := celsl y) (l₂ := rowsl L) (i * 2)

theorem row_setsl (L : List Itsl) (i : Nat) (k : ByteArray) (v u : (Option Addr × Nat × Nat)) (h : L[i]? = some (k, v)) : rowsl (L.set i (k, u)) = (rowsl L).set (i * 2 + 1) (.slice (u).1 (u).2.1 (u).2.2) := by
  induction L generalizing i with
  | nil => simp at h
  | cons y L ih =>
    cases i with
    | zero => simp at h; subst h; rfl
    | succ i =>
      have e : ∀ M, rowsl (y :: M) = celsl y ++ rowsl M := fun _ => rfl
      rw [List.set_cons_succ, e, e, ih i (by simpa using h), show (i + 1) * 2 + 1 = i * 2 + 1 + 2 by omega]
      rfl
/-- A map that was made, in the block b. -/
structure OMsl (w : World) (b : Nat) (v : Value) (L : List Itsl) : Prop where
  blk : w.heap[b]? = some (.cells #[.bool true, v] 161 (0, 0))
  own : Own w 158 2 v L.length (rowsl L)
  ne : v.ownBlock ≠ some b
  srt : Srt ltS L
/-- What a map's items are: nil where there is no map. -/
def VWsl (w : World) (p : Option Addr) (v : Value) (L : List Itsl) : Prop :=
  (∃ b, p = some ⟨b, 0, none⟩ ∧ OMsl w b v L) ∨ ((p = none ∨ ∃ b, p = some ⟨b, 0, none⟩ ∧ w.heap[b]? = some (.cells #[.bool false, .slice none 0 0] 161 (0, 0))) ∧ v = .slice none 0 0 ∧ L = [])
theorem OMsl.gr {w w' : World} {b : Nat} {v : Value} {L : List Itsl} (h : OMsl w b v L) (g : Gr w w') : OMsl w' b v L := ⟨g.blk h.blk, h.own.gr g, h.ne, h.srt⟩
theorem OMsl.mdh {F : Nat → Prop} {w w' : World} {b : Nat} {v : Value} {L : List Itsl} (h : OMsl w b v L) (g : Mdh F w w') (hf : ∀ k, k = b ∨ v.ownBlock = some k → ¬ F k) : OMsl w' b v L :=
  ⟨g.blk h.blk (hf b (.inl rfl)), h.own.mdh g (fun k hk => hf k (.inr hk)), h.ne, h.srt⟩
theorem VWsl.gr {w w' : World} {p : Option Addr} {v : Value} {L : List Itsl} (h : VWsl w p v L) (g : Gr w w') : VWsl w' p v L := by
  rcases h with ⟨b, e, h⟩ | ⟨h1 | ⟨b, e, h1⟩, h2, h3⟩
  · exact .inl ⟨b, e, h.gr g⟩
  · exact .inr ⟨.inl h1, h2, h3⟩
  · exact .inr ⟨.inr ⟨b, e, g.blk h1⟩, h2, h3⟩
theorem VWsl.own {w : World} {p : Option Addr} {v : Value} {L : List Itsl} (h : VWsl w p v L) : Own w 158 2 v L.length (rowsl L) := by
  rcases h with ⟨b, e, h⟩ | ⟨_, rfl, rfl⟩
  · exact h.own
  · exact ⟨rfl, .inl ⟨rfl, rfl⟩⟩
theorem VWsl.srt {w : World} {p : Option Addr} {v : Value} {L : List Itsl} (h : VWsl w p v L) : Srt ltS L := by
  rcases h with ⟨b, e, h⟩ | ⟨_, rfl, rfl⟩
  · exact h.srt
  · exact List.Pairwise.nil
/-- The cells of an item. -/
theorem VWsl.at {w : World} {p : Option Addr} {v : Value} {L : List Itsl} (h : VWsl w p v L) : ∃ a cap, v = .slice a L.length cap ∧ L.length ≤ cap ∧ cap ≤ maxLen ∧ ∀ i x, L[i]? = some x → ∃ g, a = some ⟨g, 0, none⟩ ∧ g < w.heap.size ∧
    w.cell? ⟨g, i * 2, none⟩ = some (.string (x.1)) ∧ w.cell? ⟨g, i * 2 + 1, none⟩ = some (.slice (x.2).1 (x.2).2.1 (x.2).2.2) := by
  have ho := h.own
  rcases ho.2 with ⟨hv, h0⟩ | ⟨g, cap, cur, hv, _, hg, h1, h2, h3, h4⟩
  · have hL : L = [] := List.eq_nil_of_length_eq_zero h0
    subst hL
    exact ⟨none, 0, hv, Nat.le_refl _, by simp [maxLen], fun i x hx => by simp at hx⟩
  · subst hv
    refine ⟨_, cap, rfl, h1, h2, fun i x hx => ⟨g, rfl, blkLt hg, ?_⟩⟩
    have hc := ho.cells (g := g) rfl
    obtain ⟨r1, r2⟩ := row_getsl L i x hx
    have hadd : ∀ j, (⟨g, 0, none⟩ : Addr).add j = ⟨g, j, none⟩ := fun j => by unfold Addr.add; split <;> simp_all
    exact ⟨by rw [← hadd]; exact hc _ _ r1, by rw [← hadd]; exact hc _ _ r2⟩

theorem itemssl (p : Option Addr) (v : Value) (L : List Itsl) (w : World) (h : VWsl w p v L) :
    Calls Try.prog 146 #[.pointer p] w fun e w' => e = .returned v ∧ w = w' := by
  rcases h with ⟨b, rfl, h⟩ | ⟨rfl | ⟨b, rfl, h⟩, rfl, rfl⟩
  · have c0 := ((cellsOf h.blk).1 0).trans (show _ = some (Value.bool true) from rfl)
    have c1 := ((cellsOf h.blk).1 1).trans (show _ = some v from rfl)
    clear h
    go_enter Try.func146, Try.ntmps146
    go_wp2
    go_ret
    exact ⟨rfl, rfl⟩
  · go_enter Try.func146, Try.ntmps146
    go_wp2
    go_ret
    exact ⟨rfl, rfl⟩
  · have c0 := ((cellsOf h).1 0).trans (show _ = some (Value.bool false) from rfl)
    clear h
    go_enter Try.func146, Try.ntmps146
    go_wp2
    go_ret
    exact ⟨rfl, rfl⟩
end Go.Proofs.Ytiidkehcfoajeaa
