/- The plain law of the best side: it is preferred to all others, whatever the order. No program in sight. -/
import Derived.Test.YtgpecjnnepocmaaScG
namespace Go.Proofs.Ytgpecjnnepocmaa

structure Tot (f : Sd → Sd → Int) (S : List Sd) : Prop where
  refl : ∀ a ∈ S, f a a = 0
  anti : ∀ a ∈ S, ∀ b ∈ S, a.1 ≠ b.1 → (f a b = 1 ∨ f a b = -1) ∧ f b a = - f a b
  trans : ∀ a ∈ S, ∀ b ∈ S, ∀ c ∈ S, a.1 ≠ b.1 → b.1 ≠ c.1 → a.1 ≠ c.1 → f a b = -1 → f b c = -1 → f a c = -1
  inj : ∀ a ∈ S, ∀ b ∈ S, a.1 = b.1 → a = b
def IsMin (f : Sd → Sd → Int) (S : List Sd) (B : Sd) : Prop := B ∈ S ∧ ∀ s ∈ S, s.1 ≠ B.1 → f B s = -1
theorem IsMin.uniq {f : Sd → Sd → Int} {S : List Sd} {B B' : Sd} (T : Tot f S) (h : IsMin f S B) (h' : IsMin f S B') : B = B' := by
  by_cases e : B.1 = B'.1
  · exact T.inj _ h.1 _ h'.1 e
  · have h1 := h.2 B' h'.1 (fun x => e x.symm)
    have h2 := h'.2 B h.1 e
    have h3 := (T.anti B h.1 B' h'.1 e).2
    omega
theorem IsMin.snoc {f : Sd → Sd → Int} {S L : List Sd} {B x : Sd} (T : Tot f S) (hL : ∀ s ∈ L, s ∈ S) (hx : x ∈ S) (h : IsMin f L B) : IsMin f (L ++ [x]) (if f x B < 0 then x else B) := by
  have hB := hL _ h.1
  have h0 := T.refl B hB
  split
  · rename_i hlt
    have hne : x.1 ≠ B.1 := fun e => by
      rw [T.inj _ hx _ hB e] at hlt; omega
    have hxb : f x B = -1 := by have := (T.anti x hx B hB hne).1; omega
    refine ⟨by simp, fun s hs hsx => ?_⟩
    rcases List.mem_append.1 hs with hs | hs
    · by_cases e : s.1 = B.1
      · rw [T.inj _ (hL s hs) _ hB e]; exact hxb
      · exact T.trans x hx B hB s (hL s hs) hne (fun y => e y.symm) (fun y => hsx y.symm) hxb (h.2 s hs e)
    · rw [List.mem_singleton.1 hs] at hsx
      exact absurd rfl hsx
  · rename_i hlt
    refine ⟨List.mem_append.2 (.inl h.1), fun s hs hsx => ?_⟩
    rcases List.mem_append.1 hs with hs | hs
    · exact h.2 s hs hsx
    · rw [List.mem_singleton.1 hs] at hsx ⊢
      obtain ⟨h1, h2⟩ := T.anti x hx B hB hsx
      omega
theorem bestK_min {f : Sd → Sd → Int} {S : List Sd} (T : Tot f S) : ∀ j, j < S.length → IsMin f (S.take (j + 1)) (bestK f S j)
  | 0, h => by
    rw [take_snoc' S 0 h]
    exact ⟨by simp [bestK], fun s hs hne => by simp at hs; subst hs; simp [bestK] at hne⟩
  | j + 1, h => by
    rw [take_snoc' S (j + 1) h]
    have := (bestK_min T j (by omega)).snoc T (fun s hs => List.mem_of_mem_take hs) (x := S[j + 1]?.getD (0, 0, 0)) (by rw [List.getElem?_eq_getElem h]; exact List.getElem_mem h)
    simpa only [bestK] using this

theorem get_slot {S : List Sd} (hd : (S.map (·.1)).Nodup) {i j : Nat} (hi : i < S.length) (hj : j < S.length) (h : S[i].1 = S[j].1) : i = j := by
  have hp := List.pairwise_iff_getElem.1 hd
  rcases Nat.lt_trichotomy i j with hij | hij | hij
  · exact absurd (by rw [List.getElem_map, List.getElem_map]; exact h) (hp i j (by simpa using hi) (by simpa using hj) hij)
  · exact hij
  · exact absurd (by rw [List.getElem_map, List.getElem_map]; exact h.symm) (hp j i (by simpa using hj) (by simpa using hi) hij)
theorem slot_inj {S : List Sd} (hd : (S.map (·.1)).Nodup) : ∀ a ∈ S, ∀ b ∈ S, a.1 = b.1 → a = b := by
  intro a ha b hb h
  obtain ⟨i, hi, rfl⟩ := List.mem_iff_getElem.1 ha
  obtain ⟨j, hj, rfl⟩ := List.mem_iff_getElem.1 hb
  obtain rfl := get_slot hd hi hj h
  rfl
theorem twB_nodup {S : List Sd} (hd : (S.map (·.1)).Nodup) : twB S S.length = false := by
  cases e : twB S S.length with
  | false => rfl
  | true =>
    obtain ⟨i, k, h1, h2, h3⟩ := (twB_iff S S.length (Nat.le_refl _)).1 e
    rw [List.getElem?_eq_getElem h2, List.getElem?_eq_getElem (show k < S.length by omega)] at h3
    have := get_slot hd h2 (show k < S.length by omega) h3
    omega

theorem pol_pair {policy room : Int} (hp : policy = 1 ∨ policy = 2) {a b : Sd} (ha : chkS room a = true) (hb : chkS room b = true) (h : a.1 ≠ b.1) :
    (polS policy room a b = 1 ∨ polS policy room a b = -1) ∧ polS policy room b a = - polS policy room a b := by
  have hbd := chk_bd ha
  obtain ⟨t, ht, h1, h2⟩ : ∃ t : Int, (0 ≤ t ∧ t ≤ 2) ∧ b.1 ≠ t ∧ a.1 ≠ t := by
    by_cases e0 : b.1 ≠ 0 ∧ a.1 ≠ 0
    · exact ⟨0, by omega, e0.1, e0.2⟩
    · by_cases e1 : b.1 ≠ 1 ∧ a.1 ≠ 1
      · exact ⟨1, by omega, e1.1, e1.2⟩
      · exact ⟨2, by omega, by omega, by omega⟩
  have ht3 : chkB t 0 0 room = true := by
    simp only [chkB, inB, Bool.and_eq_true, decide_eq_true_eq]
    omega
  have := total3 policy room hp a.1 a.2.1 a.2.2 b.1 b.2.1 b.2.2 t 0 0 ha hb ht3 h h1 h2
  exact ⟨this.1, this.2.2.2.1⟩
theorem pol_self {policy room : Int} (hp : policy = 1 ∨ policy = 2) {a : Sd} (ha : chkS room a = true) : polS policy room a a = 0 := by
  rcases hp with rfl | rfl
  · exact (pol1_lex _ _ _ _ _ _ _).trans ((lexZ_zero _ _ _ _).2 ⟨rfl, rfl⟩)
  · exact (pol2_lex _ _ _ _ _ _ _ ha ha).trans ((lexZ_zero _ _ _ _).2 ⟨rfl, rfl⟩)
theorem pol_tot {policy room : Int} (hp : policy = 1 ∨ policy = 2) {S : List Sd} (hc : ∀ x ∈ S, chkS room x = true) (hd : (S.map (·.1)).Nodup) : Tot (polS policy room) S where
  refl a ha := pol_self hp (hc a ha)
  anti a ha b hb h := pol_pair hp (hc a ha) (hc b hb) h
  trans a ha b hb c hc' h1 h2 h3 e1 e2 := by
    have := total3 policy room hp a.1 a.2.1 a.2.2 b.1 b.2.1 b.2.2 c.1 c.2.1 c.2.2 (hc a ha) (hc b hb) (hc c hc') h1 h2 h3
    exact (this.2.2.2.2 (e1.trans e2.symm)).trans e1
  inj := slot_inj hd

theorem best_good {policy room : Int} (hp : policy = 1 ∨ policy = 2) (hr : inB room 1 8192 = true) {S : List Sd} (hc : ∀ x ∈ S, chkS room x = true) (hd : (S.map (·.1)).Nodup) (hne : S.length ≠ 0) :
    ∃ B, bestA policy room S = bestV B true 0 ∧ IsMin (polS policy room) S B := by
  refine ⟨bestK (polS policy room) S (S.length - 1), ?_, ?_⟩
  · rw [bestA_yes hp hr, best_some (fun i hi => ?_) (twB_nodup hd) hne]
    rw [List.getElem?_eq_getElem hi]; exact hc _ (List.getElem_mem hi)
  · have := bestK_min (pol_tot hp hc hd) (S.length - 1) (by omega)
    rwa [show S.length - 1 + 1 = S.length by omega, List.take_length] at this
theorem best_empty {policy room : Int} (hp : policy = 1 ∨ policy = 2) (hr : inB room 1 8192 = true) : bestA policy room [] = bestV zSd false 0 := by
  rw [bestA_yes hp hr]; exact best_none
theorem made_nodup (l : List Nm) (room : Int) (n : Nat) : ((madeK l room n).map (·.1)).Nodup := by
  refine List.pairwise_iff_getElem.2 fun i j hi hj hij e => ?_
  simp only [List.length_map, madeK_length] at hi hj
  have e1 := madeK_get l room n i hi
  have e2 := madeK_get l room n j hj
  rw [List.getElem?_eq_getElem (by rw [madeK_length]; exact hi)] at e1
  rw [List.getElem?_eq_getElem (by rw [madeK_length]; exact hj)] at e2
  simp only [List.getElem_map, Option.some.inj e1, Option.some.inj e2, mkS] at e
  omega
theorem made_chk (l : List Nm) (room : Int) (n : Nat) (h1 : 1 ≤ room) (h2 : room ≤ 8192) (hn : n ≤ 20) (hl : ∀ i, i < n → 0 ≤ (l[i]?.getD (0, 0)).1 ∧ 0 ≤ (l[i]?.getD (0, 0)).2) : ∀ x ∈ madeK l room n, chkS room x = true := by
  intro x hx
  obtain ⟨i, hi, rfl⟩ := List.mem_iff_getElem.1 hx
  rw [madeK_length] at hi
  have e1 := madeK_get l room n i hi
  rw [List.getElem?_eq_getElem (by rw [madeK_length]; exact hi)] at e1
  rw [Option.some.inj e1]
  exact mkS_chk room i _ h1 h2 (by omega) (hl i hi).1 (hl i hi).2
theorem rot_mem {S : List Sd} (k : Nat) (x : Sd) : x ∈ S.drop k ++ S.take k ↔ x ∈ S := by
  constructor
  · intro h
    rcases List.mem_append.1 h with h | h
    · exact List.mem_of_mem_drop h
    · exact List.mem_of_mem_take h
  · intro h
    rw [← List.take_append_drop k S] at h
    rcases List.mem_append.1 h with h | h
    · exact List.mem_append.2 (.inr h)
    · exact List.mem_append.2 (.inl h)
theorem rot_nodup {S : List Sd} (k : Nat) (hd : (S.map (·.1)).Nodup) : ((S.drop k ++ S.take k).map (·.1)).Nodup := by
  have hp : (S.drop k ++ S.take k).Perm S := (List.perm_append_comm).trans (by rw [List.take_append_drop])
  exact (hp.map _).nodup_iff.2 hd
/-- The same best one, whatever the turn. -/
theorem best_turned {policy room : Int} (hp : policy = 1 ∨ policy = 2) (hr : inB room 1 8192 = true) {S : List Sd} (hc : ∀ x ∈ S, chkS room x = true) (hd : (S.map (·.1)).Nodup) (hne : S.length ≠ 0) (k : Nat) :
    bestA policy room (S.drop k ++ S.take k) = bestA policy room S := by
  obtain ⟨B, h1, h2⟩ := best_good hp hr hc hd hne
  obtain ⟨B', h3, h4⟩ := best_good hp hr (S := S.drop k ++ S.take k) (fun x hx => hc x ((rot_mem k x).1 hx)) (rot_nodup k hd) (by rw [List.length_append, List.length_drop, List.length_take]; omega)
  have : B' = B := IsMin.uniq (pol_tot hp hc hd) ⟨(rot_mem k _).1 h4.1, fun s hs => h4.2 s ((rot_mem k s).2 hs)⟩ h2
  rw [h1, h3, this]
end Go.Proofs.Ytgpecjnnepocmaa
