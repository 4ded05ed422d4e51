/- An ordered map in memory, and the methods that read it, at keys int and values string. Written from YOma.base by inst.py. -/
import Derived.Test.YtbhkigjmjmfbgaaDelis
import Derived.Test.YtbhkigjmjmfbgaaOml

import Derived.Deep.CutBlock
import Derived.Deep.DeepCutAuto
set_option linter.unusedVariables false
set_option linter.unusedSimpArgs false
namespace Go.Proofs.Ytbhkigjmjmfbgaa
open Go.RowKit
attribute [local go_sem] OvM cell_ovm obj_ovm

abbrev Itis := Int × ByteArray
def kvis (k : Int) : Value := .int .i64 (k)
def vvis (v : ByteArray) : Value := .string (v)
def celis (x : Itis) : List Value := [.int .i64 (x.1), .string (x.2)]
def rowis (L : List Itis) : List Value := L.flatMap celis
theorem row_lenis (L : List Itis) : (rowis L).length = L.length * 2 := by
  induction L with
  | nil => rfl
  | cons x L ih => simp only [rowis, List.flatMap_cons, List.length_append, List.length_cons] at *; rw [ih]; simp [celis]; omega
theorem row_oneis (L : List Itis) : ∀ u ∈ rowis L, u.oneCell' = true := by
  intro u hu
  simp only [rowis, List.mem_flatMap] at hu
  obtain ⟨x, _, hx⟩ := hu
  simp only [celis, List.mem_cons, List.not_mem_nil, or_false] at hx
  rcases hx with rfl | rfl <;> rfl
theorem row_appis (L M : List Itis) : rowis (L ++ M) = rowis L ++ rowis M := by simp [rowis]
theorem row_getis (L : List Itis) : ∀ i x, L[i]? = some x → (rowis L)[i * 2]? = some (.int .i64 (x.1)) ∧ (rowis L)[i * 2 + 1]? = some (.string (x.2)) := by
  induction L with
  | nil => intro i x h; simp at h
  | cons y L ih =>
    intro i x h
    have e : rowis (y :: L) = celis y ++ rowis L := rfl
    rw [e]
    cases i with
    | zero => simp at h; subst h; simp [celis]
    | succ i =>
      have := ih i x (by simpa using h)
      have e1 : (i + 1) * 2 = i * 2 + 2 := by omega
      rw [e1, List.getElem?_append_right (by simp [celis]), List.getElem?_append_right (by simp [celis])]
      simpa [celis, show i * 2 + 2 + 1 - 2 = i * 2 + 1 by omega] using this
theorem row_takeis (L : List Itis) (i : Nat) : (rowis L).take (i * 2) = rowis (L.take i) := by
  induction L generalizing i with
  | nil => simp [rowis]
  | cons y L ih =>
    cases i with
    | zero => simp [rowis]
    | succ i =>
      have e : rowis (y :: L) = celis y ++ rowis L := rfl
      rw [e, show (i + 1) * 2 = 2 + i * 2 by omega, List.take_succ_cons, show rowis (y :: L.take i) = celis y ++ rowis (L.take i) from rfl, ← ih i]
      exact List.take_length_add_append (l₁ := celis y) (l₂ := rowis L) (i * 2)
theorem row_dropis (L : List Itis) (i : Nat) : (rowis L).drop (i * 2) = rowis (L.drop i) := by
  induction L generalizing i with
  | nil => simp [rowis]
  | cons y L ih =>
    cases i with
    | zero => simp [rowis]
    | succ i =>
      have e : rowis (y :: L) = celis y ++ rowis L := rfl
      rw [e, show (i + 1) * 2 = 2 + i * 2 by omega, List.drop_succ_cons, ← ih i]
      exact List.drop_length_add_append (l₁ := celis y) (l₂ := rowis L) (i * 2)

theorem row_setis (L : List Itis) (i : Nat) (k : Int) (v u : ByteArray) (h : L[i]? = some (k, v)) : rowis (L.set i (k, u)) = (rowis L).set (i * 2 + 1) (.string (u)) := by
  induction L generalizing i with
  | nil => simp at h
  | cons y L ih =>
    cases i with
    | zero => simp at h; subst h; rfl
    | succ i =>
      have e : ∀ M, rowis (y :: M) = celis y ++ rowis M := fun _ => rfl
      rw [List.set_cons_succ, e, e, ih i (by simpa using h), show (i + 1) * 2 + 1 = i * 2 + 1 + 2 by omega]
      rfl
/-- A map that was made, in the block b. -/
structure OMis (w : World) (b : Nat) (v : Value) (L : List Itis) : Prop where
  blk : w.heap[b]? = some (.cells #[.bool true, v] 173 (0, 0))
  own : Own w 176 2 v L.length (rowis L)
  ne : v.ownBlock ≠ some b
  srt : Srt ltZ L
/-- What a map's items are: nil where there is no map. -/
def VWis (w : World) (p : Option Addr) (v : Value) (L : List Itis) : Prop :=
  (∃ b, p = some ⟨b, 0, none⟩ ∧ OMis w b v L) ∨ ((p = none ∨ ∃ b, p = some ⟨b, 0, none⟩ ∧ w.heap[b]? = some (.cells #[.bool false, .slice none 0 0] 173 (0, 0))) ∧ v = .slice none 0 0 ∧ L = [])
theorem OMis.gr {w w' : World} {b : Nat} {v : Value} {L : List Itis} (h : OMis w b v L) (g : Gr w w') : OMis w' b v L := ⟨g.blk h.blk, h.own.gr g, h.ne, h.srt⟩
theorem OMis.mdh {F : Nat → Prop} {w w' : World} {b : Nat} {v : Value} {L : List Itis} (h : OMis w b v L) (g : Mdh F w w') (hf : ∀ k, k = b ∨ v.ownBlock = some k → ¬ F k) : OMis w' b v L :=
  ⟨g.blk h.blk (hf b (.inl rfl)), h.own.mdh g (fun k hk => hf k (.inr hk)), h.ne, h.srt⟩
theorem VWis.gr {w w' : World} {p : Option Addr} {v : Value} {L : List Itis} (h : VWis w p v L) (g : Gr w w') : VWis w' p v L := by
  rcases h with ⟨b, e, h⟩ | ⟨h1 | ⟨b, e, h1⟩, h2, h3⟩
  · exact .inl ⟨b, e, h.gr g⟩
  · exact .inr ⟨.inl h1, h2, h3⟩
  · exact .inr ⟨.inr ⟨b, e, g.blk h1⟩, h2, h3⟩
theorem VWis.own {w : World} {p : Option Addr} {v : Value} {L : List Itis} (h : VWis w p v L) : Own w 176 2 v L.length (rowis L) := by
  rcases h with ⟨b, e, h⟩ | ⟨_, rfl, rfl⟩
  · exact h.own
  · exact ⟨rfl, .inl ⟨rfl, rfl⟩⟩
theorem VWis.srt {w : World} {p : Option Addr} {v : Value} {L : List Itis} (h : VWis w p v L) : Srt ltZ L := by
  rcases h with ⟨b, e, h⟩ | ⟨_, rfl, rfl⟩
  · exact h.srt
  · exact List.Pairwise.nil
/-- The cells of an item. -/
theorem VWis.at {w : World} {p : Option Addr} {v : Value} {L : List Itis} (h : VWis w p v L) : ∃ a cap, v = .slice a L.length cap ∧ L.length ≤ cap ∧ cap ≤ maxLen ∧ ∀ i x, L[i]? = some x → ∃ g, a = some ⟨g, 0, none⟩ ∧ g < w.heap.size ∧
    w.cell? ⟨g, i * 2, none⟩ = some (.int .i64 (x.1)) ∧ w.cell? ⟨g, i * 2 + 1, none⟩ = some (.string (x.2)) := by
  have ho := h.own
  rcases ho.2 with ⟨hv, h0⟩ | ⟨g, cap, cur, hv, _, hg, h1, h2, h3, h4⟩
  · have hL : L = [] := List.eq_nil_of_length_eq_zero h0
    subst hL
    exact ⟨none, 0, hv, Nat.le_refl _, by simp [maxLen], fun i x hx => by simp at hx⟩
  · subst hv
    refine ⟨_, cap, rfl, h1, h2, fun i x hx => ⟨g, rfl, blkLt hg, ?_⟩⟩
    have hc := ho.cells (g := g) rfl
    obtain ⟨r1, r2⟩ := row_getis L i x hx
    have hadd : ∀ j, (⟨g, 0, none⟩ : Addr).add j = ⟨g, j, none⟩ := fun j => by unfold Addr.add; split <;> simp_all
    exact ⟨by rw [← hadd]; exact hc _ _ r1, by rw [← hadd]; exact hc _ _ r2⟩

theorem itemsis (p : Option Addr) (v : Value) (L : List Itis) (w : World) (h : VWis w p v L) :
    Calls Try.prog 118 #[.pointer p] w fun e w' => e = .returned v ∧ w = w' := by
  rcases h with ⟨b, rfl, h⟩ | ⟨rfl | ⟨b, rfl, h⟩, rfl, rfl⟩
  · have c0 := ((cellsOf h.blk).1 0).trans (show _ = some (Value.bool true) from rfl)
    have c1 := ((cellsOf h.blk).1 1).trans (show _ = some v from rfl)
    clear h
    go_enter Try.func118, Try.ntmps118
    go_wp2
    go_ret
    exact ⟨rfl, rfl⟩
  · go_enter Try.func118, Try.ntmps118
    go_wp2
    go_ret
    exact ⟨rfl, rfl⟩
  · have c0 := ((cellsOf h).1 0).trans (show _ = some (Value.bool false) from rfl)
    clear h
    go_enter Try.func118, Try.ntmps118
    go_wp2
    go_ret
    exact ⟨rfl, rfl⟩
end Go.Proofs.Ytbhkigjmjmfbgaa
