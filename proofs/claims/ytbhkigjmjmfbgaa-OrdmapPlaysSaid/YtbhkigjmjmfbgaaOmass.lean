/- An ordered map in memory, and the methods that read it, at keys string and values string. Written from YOma.base by inst.py. -/
import Derived.Test.YtbhkigjmjmfbgaaDelss
import Derived.Test.YtbhkigjmjmfbgaaOml
import Derived.Test.YtbhkigjmjmfbgaaOms
import Derived.Deep.CutBlock
import Derived.Deep.DeepCutAuto
set_option linter.unusedVariables false
set_option linter.unusedSimpArgs false
namespace Go.Proofs.Ytbhkigjmjmfbgaa
open Go.RowKit
attribute [local go_sem] OvM cell_ovm obj_ovm

abbrev Itss := ByteArray × ByteArray
def kvss (k : ByteArray) : Value := .string (k)
def vvss (v : ByteArray) : Value := .string (v)
def celss (x : Itss) : List Value := [.string (x.1), .string (x.2)]
def rowss (L : List Itss) : List Value := L.flatMap celss
theorem row_lenss (L : List Itss) : (rowss L).length = L.length * 2 := by
  induction L with
  | nil => rfl
  | cons x L ih => simp only [rowss, List.flatMap_cons, List.length_append, List.length_cons] at *; rw [ih]; simp [celss]; omega
theorem row_oness (L : List Itss) : ∀ u ∈ rowss L, u.oneCell' = true := by
  intro u hu
  simp only [rowss, List.mem_flatMap] at hu
  obtain ⟨x, _, hx⟩ := hu
  simp only [celss, List.mem_cons, List.not_mem_nil, or_false] at hx
  rcases hx with rfl | rfl <;> rfl
theorem row_appss (L M : List Itss) : rowss (L ++ M) = rowss L ++ rowss M := by simp [rowss]
theorem row_getss (L : List Itss) : ∀ i x, L[i]? = some x → (rowss L)[i * 2]? = some (.string (x.1)) ∧ (rowss L)[i * 2 + 1]? = some (.string (x.2)) := by
  induction L with
  | nil => intro i x h; simp at h
  | cons y L ih =>
    intro i x h
    have e : rowss (y :: L) = celss y ++ rowss L := rfl
    rw [e]
    cases i with
    | zero => simp at h; subst h; simp [celss]
    | succ i =>
      have := ih i x (by simpa using h)
      have e1 : (i + 1) * 2 = i * 2 + 2 := by omega
      rw [e1, List.getElem?_append_right (by simp [celss]), List.getElem?_append_right (by simp [celss])]
      simpa [celss, show i * 2 + 2 + 1 - 2 = i * 2 + 1 by omega] using this
theorem row_takess (L : List Itss) (i : Nat) : (rowss L).take (i * 2) = rowss (L.take i) := by
  induction L generalizing i with
  | nil => simp [rowss]
  | cons y L ih =>
    cases i with
    | zero => simp [rowss]
    | succ i =>
      have e : rowss (y :: L) = celss y ++ rowss L := rfl
      rw [e, show (i + 1) * 2 = 2 + i * 2 by omega, List.take_succ_cons, show rowss (y :: L.take i) = celss y ++ rowss (L.take i) from rfl, ← ih i]
      exact List.take_length_add_append (l₁ := celss y) (l₂ := rowss L) (i * 2)
theorem row_dropss (L : List Itss) (i : Nat) : (rowss L).drop (i * 2) = rowss (L.drop i) := by
  induction L generalizing i with
  | nil => simp [rowss]
  | cons y L ih =>
    cases i with
    | zero => simp [rowss]
    | succ i =>
      have e : rowss (y :: L) = celss y ++ rowss L := rfl
      rw [e, show (i + 1) * 2 = 2 + i * 2 by omega, List.drop_succ_cons, ← ih i]
      exact List.drop_length_add_append (l₁ := celss y) (l₂ := rowss L) (i * 2)

theorem row_setss (L : List Itss) (i : Nat) (k : ByteArray) (v u : ByteArray) (h : L[i]? = some (k, v)) : rowss (L.set i (k, u)) = (rowss L).set (i * 2 + 1) (.string (u)) := by
  induction L generalizing i with
  | nil => simp at h
  | cons y L ih =>
    cases i with
    | zero => simp at h; subst h; rfl
    | succ i =>
      have e : ∀ M, rowss (y :: M) = celss y ++ rowss M := fun _ => rfl
      rw [List.set_cons_succ, e, e, ih i (by simpa using h), show (i + 1) * 2 + 1 = i * 2 + 1 + 2 by omega]
      rfl
/-- A map that was made, in the block b. -/
structure OMss (w : World) (b : Nat) (v : Value) (L : List Itss) : Prop where
  blk : w.heap[b]? = some (.cells #[.bool true, v] 78 (0, 0))
  own : Own w 149 2 v L.length (rowss L)
  ne : v.ownBlock ≠ some b
  srt : Srt ltS L
/-- What a map's items are: nil where there is no map. -/
def VWss (w : World) (p : Option Addr) (v : Value) (L : List Itss) : Prop :=
  (∃ b, p = some ⟨b, 0, none⟩ ∧ OMss w b v L) ∨ ((p = none ∨ ∃ b, p = some ⟨b, 0, none⟩ ∧ w.heap[b]? = some (.cells #[.bool false, .slice none 0 0] 78 (0, 0))) ∧ v = .slice none 0 0 ∧ L = [])
theorem OMss.gr {w w' : World} {b : Nat} {v : Value} {L : List Itss} (h : OMss w b v L) (g : Gr w w') : OMss w' b v L := ⟨g.blk h.blk, h.own.gr g, h.ne, h.srt⟩
theorem OMss.mdh {F : Nat → Prop} {w w' : World} {b : Nat} {v : Value} {L : List Itss} (h : OMss w b v L) (g : Mdh F w w') (hf : ∀ k, k = b ∨ v.ownBlock = some k → ¬ F k) : OMss w' b v L :=
  ⟨g.blk h.blk (hf b (.inl rfl)), h.own.mdh g (fun k hk => hf k (.inr hk)), h.ne, h.srt⟩
theorem VWss.gr {w w' : World} {p : Option Addr} {v : Value} {L : List Itss} (h : VWss w p v L) (g : Gr w w') : VWss w' p v L := by
  rcases h with ⟨b, e, h⟩ | ⟨h1 | ⟨b, e, h1⟩, h2, h3⟩
  · exact .inl ⟨b, e, h.gr g⟩
  · exact .inr ⟨.inl h1, h2, h3⟩
  · exact .inr ⟨.inr ⟨b, e, g.blk h1⟩, h2, h3⟩
theorem VWss.own {w : World} {p : Option Addr} {v : Value} {L : List Itss} (h : VWss w p v L) : Own w 149 2 v L.length (rowss L) := by
  rcases h with ⟨b, e, h⟩ | ⟨_, rfl, rfl⟩
  · exact h.own
  · exact ⟨rfl, .inl ⟨rfl, rfl⟩⟩
theorem VWss.srt {w : World} {p : Option Addr} {v : Value} {L : List Itss} (h : VWss w p v L) : Srt ltS L := by
  rcases h with ⟨b, e, h⟩ | ⟨_, rfl, rfl⟩
  · exact h.srt
  · exact List.Pairwise.nil
/-- The cells of an item. -/
theorem VWss.at {w : World} {p : Option Addr} {v : Value} {L : List Itss} (h : VWss w p v L) : ∃ a cap, v = .slice a L.length cap ∧ L.length ≤ cap ∧ cap ≤ maxLen ∧ ∀ i x, L[i]? = some x → ∃ g, a = some ⟨g, 0, none⟩ ∧ g < w.heap.size ∧
    w.cell? ⟨g, i * 2, none⟩ = some (.string (x.1)) ∧ w.cell? ⟨g, i * 2 + 1, none⟩ = some (.string (x.2)) := by
  have ho := h.own
  rcases ho.2 with ⟨hv, h0⟩ | ⟨g, cap, cur, hv, _, hg, h1, h2, h3, h4⟩
  · have hL : L = [] := List.eq_nil_of_length_eq_zero h0
    subst hL
    exact ⟨none, 0, hv, Nat.le_refl _, by simp [maxLen], fun i x hx => by simp at hx⟩
  · subst hv
    refine ⟨_, cap, rfl, h1, h2, fun i x hx => ⟨g, rfl, blkLt hg, ?_⟩⟩
    have hc := ho.cells (g := g) rfl
    obtain ⟨r1, r2⟩ := row_getss L i x hx
    have hadd : ∀ j, (⟨g, 0, none⟩ : Addr).add j = ⟨g, j, none⟩ := fun j => by unfold Addr.add; split <;> simp_all
    exact ⟨by rw [← hadd]; exact hc _ _ r1, by rw [← hadd]; exact hc _ _ r2⟩

theorem itemsss (p : Option Addr) (v : Value) (L : List Itss) (w : World) (h : VWss w p v L) :
    Calls Try.prog 132 #[.pointer p] w fun e w' => e = .returned v ∧ w = w' := by
  rcases h with ⟨b, rfl, h⟩ | ⟨rfl | ⟨b, rfl, h⟩, rfl, rfl⟩
  · have c0 := ((cellsOf h.blk).1 0).trans (show _ = some (Value.bool true) from rfl)
    have c1 := ((cellsOf h.blk).1 1).trans (show _ = some v from rfl)
    clear h
    go_enter Try.func132, Try.ntmps132
    go_wp2
    go_ret
    exact ⟨rfl, rfl⟩
  · go_enter Try.func132, Try.ntmps132
    go_wp2
    go_ret
    exact ⟨rfl, rfl⟩
  · have c0 := ((cellsOf h).1 0).trans (show _ = some (Value.bool false) from rfl)
    clear h
    go_enter Try.func132, Try.ntmps132
    go_wp2
    go_ret
    exact ⟨rfl, rfl⟩
end Go.Proofs.Ytbhkigjmjmfbgaa
