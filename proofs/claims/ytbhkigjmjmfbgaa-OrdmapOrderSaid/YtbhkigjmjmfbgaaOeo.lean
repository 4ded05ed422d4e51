/- slices.Equal of a row and a part of another one. -/
import Derived.Test.YtbhkigjmjmfbgaaObs
set_option linter.unusedVariables false
set_option linter.unusedSimpArgs false
namespace Go.Proofs.Ytbhkigjmjmfbgaa
open Go.RowKit
attribute [local go_sem] OvM cell_ovm obj_ovm
theorem src_cells {w : World} {a : Option Addr} {l : List Int} (h : SrcAt w 1 a l.length (l.map iv)) : ∀ i x, l[i]? = some x → ∃ g o, a = some ⟨g, o, none⟩ ∧ w.cell? ⟨g, o + i, none⟩ = some (.int .i64 x) := by
  intro i x hx
  obtain ⟨h1, h2, h3⟩ := h
  have hl := (List.getElem?_eq_some_iff.1 hx).1
  rcases h3 with h0 | ⟨ad, ha, hc⟩
  · omega
  · have c0 := hc 0 (iv (l[0]'(by omega))) (by rw [List.getElem?_map, List.getElem?_eq_getElem (by omega)]; rfl)
    have hs : ad.spot = none := by simpa [Addr.add] using World.cell?_spot c0
    have ci := hc i (iv x) (by rw [List.getElem?_map, hx]; rfl)
    obtain ⟨g, o, sp⟩ := ad
    obtain rfl : sp = none := hs
    rw [addr_add] at ci
    exact ⟨g, o, ha, ci⟩
set_option maxRecDepth 40000 in
set_option maxHeartbeats 1000000 in
theorem EqualO (l : List Int) (n : Nat) (hln : l.length = n) (v1 : Value) (a2 : Option Addr) (cap2 : Nat) (w : World) (h1 : Own w 3 1 v1 n (l.map iv)) (hat2 : ∀ i x, l[i]? = some x → ∃ g o, a2 = some ⟨g, o, none⟩ ∧ w.cell? ⟨g, o + i, none⟩ = some (.int .i64 x)) (hn : n ≤ 1000000) :
    Calls Try.prog 13 #[v1, .slice a2 n cap2] w fun e w' => e = .returned (.bool true) ∧ Gr w w' := by
  subst hln
  obtain ⟨a1, cap1, rfl, hc1, hm1, hat1⟩ := own_cells (by rw [List.length_map]; exact h1)
  simp only [List.length_map] at *
  have HA1 := Lib.hid hat1
  have HA2 := Lib.hid hat2
  clear h1 hat1 hat2
  unfold maxLen at hm1
  go_enter Try.func13, Try.ntmps13
  go_wp2_with fail
  go_loopw [13] (fun i wx => ∃ k : Nat, k ≤ l.length ∧ i = .int .i64 k ∧ Gr w wx) (fun i _ => l.length - (intOf i).toNat)
  case atStart => exact ⟨0, by omega, rfl, by (repeat (first | (with_reducible exact Gr.refl _) | assumption | (with_reducible apply Gr.from_drew) | (with_reducible apply Gr.alloc) | (with_reducible apply Gr.drew) | (with_reducible refine Gr.trans ?_ (by assumption)) | (with_reducible refine Gr.setCell ?_ (by omega) _)))⟩
  case round =>
    obtain ⟨k, hk, rfl, hg⟩ := hrel
    by_cases hlt : k < l.length
    · have hlt' : (k : Int) < l.length := by omega
      have hx : l[k]? = some (l[k]'hlt) := List.getElem?_eq_getElem hlt
      obtain ⟨g, rfl, c0⟩ := HA1.out k _ (by rw [List.getElem?_map, hx]; rfl)
      obtain ⟨g', o, rfl, c1⟩ := HA2.out k _ hx
      have d0 := hg.keep c0
      have d1 := hg.keep c1
      generalize l[k]'hlt = x at *
      clear c0 c1 hx
      go_wp2
      refine wp_region_flo (fun _ => False) [] [] (by kernel_rfl) (by kernel_rfl) (fun _ h => h.elim) ?_
      refine flo_seg 9 rfl ?_
      simp only [List.take_succ_cons, List.take_zero, List.drop_succ_cons, List.drop_zero]
      repeat (go_big_quiet_step (fail))
      refine wpQuiet_nil ?_
      refine flo_nil ?_
      go_wp2
      go_roundw
      case rel => exact ⟨k + 1, by omega, by go_num, by (repeat (first | (with_reducible exact Gr.refl _) | assumption | (with_reducible apply Gr.from_drew) | (with_reducible apply Gr.alloc) | (with_reducible apply Gr.drew) | (with_reducible refine Gr.trans ?_ (by assumption)) | (with_reducible refine Gr.setCell ?_ (by omega) _)))⟩
      case measure => simp [intOf]; omega
    · have hlt' : ¬ (k : Int) < l.length := by omega
      go_wp2
      go_ret
      exact ⟨rfl, hg⟩
end Go.Proofs.Ytbhkigjmjmfbgaa
