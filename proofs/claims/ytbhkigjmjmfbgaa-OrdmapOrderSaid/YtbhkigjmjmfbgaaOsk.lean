/- The sorted keys of a Go map. -/
import Derived.Test.YtbhkigjmjmfbgaaOsg
import Derived.Test.YtbhkigjmjmfbgaaOmE
set_option linter.unusedVariables false
set_option linter.unusedSimpArgs false
namespace Go.Proofs.Ytbhkigjmjmfbgaa
open Go.RowKit Go.Maps Go.Sort Go.Shelf

theorem keys_perm {w : World} {b n : Nat} {D : DU} {L : List Itii} (hown : w.ownsMap Try.prog 3 (plainElem Try.prog 3) b n D) (hr : RD D L) : (L.map Prod.fst).Perm (intKeys D) := by
  obtain ⟨es, hD, hpw, _⟩ := hown.entries lawI
  obtain ⟨es', hD', hko⟩ := hown.keysOf
  obtain rfl : es = es' := by rw [hD] at hD'; simpa using hD'
  subst hD
  refine perm_intKeys hpw (fun p hp => by obtain ⟨v, hv⟩ := hko p hp; obtain ⟨x, _, hx, _⟩ := Maps.keyOf_i64 Try.underlying3 hv; exact ⟨x, hx⟩) ?_ (fun x => ?_)
  · refine List.pairwise_map.2 (hr.srt.imp (fun {x y} h e => ?_))
    rw [e, ordZ.irr] at h
    cases h
  · rw [show Maps.has (DataW.map es) (Lit.int .i64 x) = (look ltZ L x).isSome from hr.has x, Option.isSome_iff_exists, List.mem_map]
    constructor
    · rintro ⟨⟨a, v⟩, hm, rfl⟩
      exact ⟨v, (look_mem ordZ hr.srt _ _).2 hm⟩
    · rintro ⟨v, hv⟩
      exact ⟨(x, v), (look_mem ordZ hr.srt _ _).1 hv, rfl⟩
theorem keys_sorted {ss : List Int} {D : DU} {L : List Itii} (hp : ss.Perm (intKeys D)) (hq : (L.map Prod.fst).Perm (intKeys D)) (s : Srt ltZ L) : ss.mergeSort (fun x y => decide (x ≤ y)) = L.map Prod.fst := by
  refine List.Perm.eq_of_pairwise (le := fun a b => leI a b = true) (fun a b _ _ h1 h2 => ?_) (List.pairwise_mergeSort (fun a b c h1 h2 => ?_) (fun a b => ?_) ss) (List.pairwise_map.2 (s.imp (fun {x y} h => ?_))) (((List.mergeSort_perm ss _).trans hp).trans hq.symm)
  · simp only [leI, decide_eq_true_eq] at h1 h2
    exact Int.le_antisymm h1 h2
  · simp only [leI, decide_eq_true_eq] at *; exact Int.le_trans h1 h2
  · simp only [leI, Bool.or_eq_true, decide_eq_true_eq]; exact Int.le_total a b
  · have h' : x.1 < y.1 := by simpa [ltZ] using h
    simp only [leI, decide_eq_true_eq]
    omega
theorem KeysC (b : Nat) (W : World) : Calls Try.prog 44 #[.map (some b)] W fun e w' => e = .returned (.func (.func 108) #[] #[.pointer (some ⟨W.heap.size, 0, none⟩)]) ∧ w' = W.alloc (.cells #[.map (some b)] 24) :=
  (callsIn_wide (n := 5)).1 (AnyZI.keys_in keysA Fence.wide 5 trivial rfl (some b) W)
theorem SortedC (b n : Nat) (L : List Itii) (Bm : Nat) (W : World) (h : GM W b n L) (hn : n ≤ 1000) (hm : W.cell? ⟨Bm, 0, none⟩ = some (.map (some b))) :
    Calls Try.prog 43 #[.func (.func 108) #[] #[.pointer (some ⟨Bm, 0, none⟩)]] W fun e w' => ∃ v, e = .returned v ∧ Own w' 3 1 v L.length ((L.map Prod.fst).map iv) ∧ (∀ g, v.ownBlock = some g → W.heap.size ≤ g) ∧ Gr W w' := by
  have hle := h.len_le
  obtain ⟨D, hown, hrd⟩ := h
  have hBm := World.block_lt_of_cell? W ⟨Bm, 0, none⟩ hm
  have hseq : SeqGives Fence.wide 2 Try.prog 108 #[.pointer (some ⟨Bm, 0, none⟩)] encZ (fun ss => ss.Perm (intKeys D)) (Maps.size D) W :=
    AnyZI.keys_gives (ρ := keysA_ren) { keysA with } Fence.wide _ trivial rfl (by omega) Bm b n D W hBm hm hown
  have cS := AnyZI.sorted_in sortedA Fence.wide 5 trivial trivial trivial trivial rfl (by omega) (sortsA _) (enters_of Try.func107 (by kernel_rfl) rfl) 108 #[.pointer (some ⟨Bm, 0, none⟩)] trivial (enters_of Try.func108 (by kernel_rfl) rfl) _ _ (by rw [hrd.sz]; unfold maxLen; omega) (by rw [hrd.sz]; omega) _ hseq
  refine Calls.mono (callsIn_wide.1 cS) ?_
  rintro e w' ⟨v, ss, rfl, hS, hrow, hnil, hb⟩
  have hq := keys_perm hown hrd
  have hss := keys_sorted hS hq hrd.srt
  have hlen : ss.length = L.length := by have := (hS.trans hq.symm).length_eq; simpa using this
  rw [hss, hlen] at hrow
  exact ⟨v, rfl, Own.lift hrow, fun g hg => (World.ownsRow.lt hrow g hg).1, hb⟩
end Go.Proofs.Ytbhkigjmjmfbgaa
