/- An ordered map in memory, and the methods that read it, at keys int and values int. Written from YOma.base by inst.py. -/
import Derived.Test.YtbhkigjmjmfbgaaDelii
import Derived.Test.YtbhkigjmjmfbgaaOml

import Derived.Deep.CutBlock
import Derived.Deep.DeepCutAuto
set_option linter.unusedVariables false
set_option linter.unusedSimpArgs false
namespace Go.Proofs.Ytbhkigjmjmfbgaa
open Go.RowKit
attribute [local go_sem] OvM cell_ovm obj_ovm

abbrev Itii := Int × Int
def kvii (k : Int) : Value := .int .i64 (k)
def vvii (v : Int) : Value := .int .i64 (v)
def celii (x : Itii) : List Value := [.int .i64 (x.1), .int .i64 (x.2)]
def rowii (L : List Itii) : List Value := L.flatMap celii
theorem row_lenii (L : List Itii) : (rowii L).length = L.length * 2 := by
  induction L with
  | nil => rfl
  | cons x L ih => simp only [rowii, List.flatMap_cons, List.length_append, List.length_cons] at *; rw [ih]; simp [celii]; omega
theorem row_oneii (L : List Itii) : ∀ u ∈ rowii L, u.oneCell' = true := by
  intro u hu
  simp only [rowii, List.mem_flatMap] at hu
  obtain ⟨x, _, hx⟩ := hu
  simp only [celii, List.mem_cons, List.not_mem_nil, or_false] at hx
  rcases hx with rfl | rfl <;> rfl
theorem row_appii (L M : List Itii) : rowii (L ++ M) = rowii L ++ rowii M := by simp [rowii]
theorem row_getii (L : List Itii) : ∀ i x, L[i]? = some x → (rowii L)[i * 2]? = some (.int .i64 (x.1)) ∧ (rowii L)[i * 2 + 1]? = some (.int .i64 (x.2)) := by
  induction L with
  | nil => intro i x h; simp at h
  | cons y L ih =>
    intro i x h
    have e : rowii (y :: L) = celii y ++ rowii L := rfl
    rw [e]
    cases i with
    | zero => simp at h; subst h; simp [celii]
    | succ i =>
      have := ih i x (by simpa using h)
      have e1 : (i + 1) * 2 = i * 2 + 2 := by omega
      rw [e1, List.getElem?_append_right (by simp [celii]), List.getElem?_append_right (by simp [celii])]
      simpa [celii, show i * 2 + 2 + 1 - 2 = i * 2 + 1 by omega] using this
theorem row_takeii (L : List Itii) (i : Nat) : (rowii L).take (i * 2) = rowii (L.take i) := by
  induction L generalizing i with
  | nil => simp [rowii]
  | cons y L ih =>
    cases i with
    | zero => simp [rowii]
    | succ i =>
      have e : rowii (y :: L) = celii y ++ rowii L := rfl
      rw [e, show (i + 1) * 2 = 2 + i * 2 by omega, List.take_succ_cons, show rowii (y :: L.take i) = celii y ++ rowii (L.take i) from rfl, ← ih i]
      exact List.take_length_add_append (l₁ := celii y) (l₂ := rowii L) (i * 2)
theorem row_dropii (L : List Itii) (i : Nat) : (rowii L).drop (i * 2) = rowii (L.drop i) := by
  induction L generalizing i with
  | nil => simp [rowii]
  | cons y L ih =>
    cases i with
    | zero => simp [rowii]
    | succ i =>
      have e : rowii (y :: L) = celii y ++ rowii L := rfl
      rw [e, show (i + 1) * 2 = 2 + i * 2 by omega, List.drop_succ_cons, ← ih i]
      exact List.drop_length_add_append (l₁ := celii y) (l₂ := rowii L) (i * 2)

theorem row_setii (L : List Itii) (i : Nat) (k : Int) (v u : Int) (h : L[i]? = some (k, v)) : rowii (L.set i (k, u)) = (rowii L).set (i * 2 + 1) (.int .i64 (u)) := by
  induction L generalizing i with
  | nil => simp at h
  | cons y L ih =>
    cases i with
    | zero => simp at h; subst h; rfl
    | succ i =>
      have e : ∀ M, rowii (y :: M) = celii y ++ rowii M := fun _ => rfl
      rw [List.set_cons_succ, e, e, ih i (by simpa using h), show (i + 1) * 2 + 1 = i * 2 + 1 + 2 by omega]
      rfl
/-- A map that was made, in the block b. -/
structure OMii (w : World) (b : Nat) (v : Value) (L : List Itii) : Prop where
  blk : w.heap[b]? = some (.cells #[.bool true, v] 107 (0, 0))
  own : Own w 110 2 v L.length (rowii L)
  ne : v.ownBlock ≠ some b
  srt : Srt ltZ L
/-- What a map's items are: nil where there is no map. -/
def VWii (w : World) (p : Option Addr) (v : Value) (L : List Itii) : Prop :=
  (∃ b, p = some ⟨b, 0, none⟩ ∧ OMii w b v L) ∨ ((p = none ∨ ∃ b, p = some ⟨b, 0, none⟩ ∧ w.heap[b]? = some (.cells #[.bool false, .slice none 0 0] 107 (0, 0))) ∧ v = .slice none 0 0 ∧ L = [])
theorem OMii.gr {w w' : World} {b : Nat} {v : Value} {L : List Itii} (h : OMii w b v L) (g : Gr w w') : OMii w' b v L := ⟨g.blk h.blk, h.own.gr g, h.ne, h.srt⟩
theorem OMii.mdh {F : Nat → Prop} {w w' : World} {b : Nat} {v : Value} {L : List Itii} (h : OMii w b v L) (g : Mdh F w w') (hf : ∀ k, k = b ∨ v.ownBlock = some k → ¬ F k) : OMii w' b v L :=
  ⟨g.blk h.blk (hf b (.inl rfl)), h.own.mdh g (fun k hk => hf k (.inr hk)), h.ne, h.srt⟩
theorem VWii.gr {w w' : World} {p : Option Addr} {v : Value} {L : List Itii} (h : VWii w p v L) (g : Gr w w') : VWii w' p v L := by
  rcases h with ⟨b, e, h⟩ | ⟨h1 | ⟨b, e, h1⟩, h2, h3⟩
  · exact .inl ⟨b, e, h.gr g⟩
  · exact .inr ⟨.inl h1, h2, h3⟩
  · exact .inr ⟨.inr ⟨b, e, g.blk h1⟩, h2, h3⟩
theorem VWii.own {w : World} {p : Option Addr} {v : Value} {L : List Itii} (h : VWii w p v L) : Own w 110 2 v L.length (rowii L) := by
  rcases h with ⟨b, e, h⟩ | ⟨_, rfl, rfl⟩
  · exact h.own
  · exact ⟨rfl, .inl ⟨rfl, rfl⟩⟩
theorem VWii.srt {w : World} {p : Option Addr} {v : Value} {L : List Itii} (h : VWii w p v L) : Srt ltZ L := by
  rcases h with ⟨b, e, h⟩ | ⟨_, rfl, rfl⟩
  · exact h.srt
  · exact List.Pairwise.nil
/-- The cells of an item. -/
theorem VWii.at {w : World} {p : Option Addr} {v : Value} {L : List Itii} (h : VWii w p v L) : ∃ a cap, v = .slice a L.length cap ∧ L.length ≤ cap ∧ cap ≤ maxLen ∧ ∀ i x, L[i]? = some x → ∃ g, a = some ⟨g, 0, none⟩ ∧ g < w.heap.size ∧
    w.cell? ⟨g, i * 2, none⟩ = some (.int .i64 (x.1)) ∧ w.cell? ⟨g, i * 2 + 1, none⟩ = some (.int .i64 (x.2)) := by
  have ho := h.own
  rcases ho.2 with ⟨hv, h0⟩ | ⟨g, cap, cur, hv, _, hg, h1, h2, h3, h4⟩
  · have hL : L = [] := List.eq_nil_of_length_eq_zero h0
    subst hL
    exact ⟨none, 0, hv, Nat.le_refl _, by simp [maxLen], fun i x hx => by simp at hx⟩
  · subst hv
    refine ⟨_, cap, rfl, h1, h2, fun i x hx => ⟨g, rfl, blkLt hg, ?_⟩⟩
    have hc := ho.cells (g := g) rfl
    obtain ⟨r1, r2⟩ := row_getii L i x hx
    have hadd : ∀ j, (⟨g, 0, none⟩ : Addr).add j = ⟨g, j, none⟩ := fun j => by unfold Addr.add; split <;> simp_all
    exact ⟨by rw [← hadd]; exact hc _ _ r1, by rw [← hadd]; exact hc _ _ r2⟩

theorem itemsii (p : Option Addr) (v : Value) (L : List Itii) (w : World) (h : VWii w p v L) :
    Calls Try.prog 57 #[.pointer p] w fun e w' => e = .returned v ∧ w = w' := by
  rcases h with ⟨b, rfl, h⟩ | ⟨rfl | ⟨b, rfl, h⟩, rfl, rfl⟩
  · have c0 := ((cellsOf h.blk).1 0).trans (show _ = some (Value.bool true) from rfl)
    have c1 := ((cellsOf h.blk).1 1).trans (show _ = some v from rfl)
    clear h
    go_enter Try.func57, Try.ntmps57
    go_wp2
    go_ret
    exact ⟨rfl, rfl⟩
  · go_enter Try.func57, Try.ntmps57
    go_wp2
    go_ret
    exact ⟨rfl, rfl⟩
  · have c0 := ((cellsOf h).1 0).trans (show _ = some (Value.bool false) from rfl)
    clear h
    go_enter Try.func57, Try.ntmps57
    go_wp2
    go_ret
    exact ⟨rfl, rfl⟩
end Go.Proofs.Ytbhkigjmjmfbgaa
