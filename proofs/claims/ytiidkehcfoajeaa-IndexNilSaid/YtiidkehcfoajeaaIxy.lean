/- How the parts of an index lie behind a change: a slot's row, a key's row. -/
import Derived.Test.YtiidkehcfoajeaaIxr
set_option linter.unusedVariables false
set_option linter.unusedSimpArgs false
namespace Go.Proofs.Ytiidkehcfoajeaa
open Go.RowKit

theorem zip_set {α β γ : Type} (f : α → β → γ) : ∀ (L : List α) (M : List β) (i : Nat) (a : α) (b : β), List.zipWith f (L.set i a) (M.set i b) = (List.zipWith f L M).set i (f a b)
  | [], _, _, _, _ => by simp
  | _ :: _, [], _, _, _ => by simp
  | x :: L, y :: M, 0, a, b => rfl
  | x :: L, y :: M, i + 1, a, b => by simp [zip_set f L M i a b]
theorem zip_erase {α β γ : Type} (f : α → β → γ) : ∀ (L : List α) (M : List β) (i : Nat), List.zipWith f (L.eraseIdx i) (M.eraseIdx i) = (List.zipWith f L M).eraseIdx i
  | [], _, _ => by simp
  | x :: L, [], i => by cases i <;> simp
  | x :: L, y :: M, 0 => rfl
  | x :: L, y :: M, i + 1 => by simp [zip_erase f L M i]
theorem erase_perm' {α : Type} {R : List α} {i : Nat} {x : α} (h : R[i]? = some x) : R.Perm (x :: R.eraseIdx i) := by
  obtain ⟨hlt, rfl⟩ := List.getElem?_eq_some_iff.1 h
  exact (erase_perm hlt).symm
theorem set_perm {α : Type} {R : List α} {i : Nat} (x : α) (h : i < R.length) : (R.set i x).Perm (x :: R.eraseIdx i) := by
  have h1 : i < (R.set i x).length := by simpa using h
  have := (erase_perm h1).symm
  rwa [List.getElem_set_self, erase_set] at this
section
variable {w w' : World} {b : Nat} {X : IX} {Y : Lay}
theorem slotRows_split {SL : List Sl} {ls : List (List En)} {i : Nat} {sl : Sl} {l : List En} (hs : SL[i]? = some sl) (hl : ls[i]? = some l) (sl' : Sl) (l' : List En) :
    ∃ R, (slotRows SL ls).Perm (enA sl l :: R) ∧ (slotRows (SL.set i sl') (ls.set i l')).Perm (enA sl' l' :: R) := by
  have h : (slotRows SL ls)[i]? = some (enA sl l) := zip_at enA hs hl
  refine ⟨(slotRows SL ls).eraseIdx i, erase_perm' h, ?_⟩
  unfold slotRows
  rw [zip_set]
  exact set_perm _ (List.getElem?_eq_some_iff.1 h).1
abbrev kf (a : ByteArray × Sl) (b : ByteArray × List En) : Asn := enA a.2 b.2
theorem keyRows_eq (KL : List (ByteArray × Sl)) (ks : List (ByteArray × List En)) : keyRows KL ks = List.zipWith kf KL ks := rfl
/-- A key's row in the map's list, set and taken out. -/
theorem keyRows_split {KL : List (ByteArray × Sl)} {ks : List (ByteArray × List En)} (hk : KL.map Prod.fst = ks.map Prod.fst) (k : ByteArray) (s' : Sl) (l' : List En) :
    ∃ old R, (keyRows KL ks).Perm (old ++ R) ∧ (∀ A ∈ old, ∃ s l, look ltS KL k = some s ∧ look ltS ks k = some l ∧ A = enA s l) ∧
      (keyRows (putL ltS KL k s') (putL ltS ks k l')).Perm (enA s' l' :: R) ∧ (keyRows (delL ltS KL k) (delL ltS ks k)).Perm R ∧
      (putL ltS KL k s').map Prod.fst = (putL ltS ks k l').map Prod.fst ∧ (delL ltS KL k).map Prod.fst = (delL ltS ks k).map Prod.fst := by
  have f : Lay.Fit ⟨0, .bool true, .bool true, KL, []⟩ ⟨[], ks⟩ := ⟨hk, rfl⟩
  have hr : rk ltS KL k = rk ltS ks k := f.rkE k
  have hlen : KL.length = ks.length := by simpa using congrArg List.length hk
  rcases f.lookE k with ⟨h1, h2⟩ | ⟨s, l, h1, h2, h3, h4⟩
  · refine ⟨[], keyRows KL ks, by simp, fun A hA => (by cases hA), ?_, ?_, ?_, ?_⟩
    · unfold putL
      simp only [show look ltS KL k = none from h1, h2, hr]
      rw [keyRows_eq, List.zipWith_append (by simp [hlen]), List.zipWith_append (by simp [hlen]), ← List.take_zipWith, ← List.drop_zipWith]
      have : (List.zipWith kf KL ks).Perm (List.take (rk ltS ks k) (List.zipWith kf KL ks) ++ List.drop (rk ltS ks k) (List.zipWith kf KL ks)) := by rw [List.take_append_drop]
      simp only [List.zipWith_cons_cons, List.zipWith_nil_left, List.append_assoc, List.singleton_append]
      exact (List.perm_middle).trans (this.symm.cons _)
    · unfold delL
      simp only [show look ltS KL k = none from h1, h2]
      exact List.Perm.refl _
    · unfold putL
      simp only [show look ltS KL k = none from h1, h2, hr]
      simp [List.map_take, List.map_drop, hk]
    · unfold delL
      simp only [show look ltS KL k = none from h1, h2]
      exact hk
  · have h : (keyRows KL ks)[rk ltS ks k]? = some (enA s l) := zip_at kf h3 h4
    refine ⟨[enA s l], (keyRows KL ks).eraseIdx (rk ltS ks k), erase_perm' h, fun A hA => ⟨s, l, h1, h2, by simpa using hA⟩, ?_, ?_, ?_, ?_⟩
    · unfold putL
      simp only [show look ltS KL k = some s from h1, h2, hr]
      rw [keyRows_eq, zip_set]
      exact set_perm _ (List.getElem?_eq_some_iff.1 h).1
    · unfold delL
      simp only [show look ltS KL k = some s from h1, h2, hr]
      rw [← List.eraseIdx_eq_take_drop_succ, ← List.eraseIdx_eq_take_drop_succ, keyRows_eq, zip_erase]
      exact List.Perm.refl _
    · unfold putL
      simp only [show look ltS KL k = some s from h1, h2, hr]
      rw [List.map_set, List.map_set, hk]
    · unfold delL
      simp only [show look ltS KL k = some s from h1, h2, hr]
      simp [List.map_take, List.map_drop, hk]
/-- A slot's row is another one, in its block or a new one. -/
theorem Lay.setSlot (h : Sep (Y.list b X) w) (f : Y.Fit X) {i : Nat} {sl sl' : Sl} {l l' : List En} (hsl : Y.SL[i]? = some sl) (hl : X.slots[i]? = some l) {T : Nat → Prop} (m : Mdh T w w')
    (hT : ∀ k, T k → (slV sl).ownBlock = some k ∨ Y.sv.ownBlock = some k ∨ w.heap.size ≤ k) (ho : Own w' 23 6 (slV sl') l'.length (rowE l')) (hn : ∀ k, (slV sl').ownBlock = some k → (slV sl).ownBlock = some k ∨ w.heap.size ≤ k)
    (hs : Own w' 127 1 Y.sv X.slots.length ((Y.SL.set i sl').map slV)) :
    Sep (({ Y with SL := Y.SL.set i sl' } : Lay).list b ⟨X.slots.set i l', X.keys⟩) w' ∧ ({ Y with SL := Y.SL.set i sl' } : Lay).Fit ⟨X.slots.set i l', X.keys⟩ ∧
      ∀ k, (∃ A ∈ ({ Y with SL := Y.SL.set i sl' } : Lay).list b ⟨X.slots.set i l', X.keys⟩, A.S k) → (∃ A ∈ Y.list b X, A.S k) ∨ w.heap.size ≤ k := by
  obtain ⟨R, p1, p2⟩ := slotRows_split hsl hl sl' l'
  have q1 : (Y.list b X).Perm ([rowA 127 1 Y.sv X.slots.length (Y.SL.map slV), enA sl l] ++ ([blkA b (.cells #[.pointer (some ⟨Y.bm, 0, none⟩), Y.sv] 29), omA Y.bm Y.v Y.KL] ++ (keyRows Y.KL X.keys ++ R))) := by
    refine ((p1.append_left (keyRows Y.KL X.keys)).append_left _).trans ?_
    simp only [Lay.hd, List.cons_append, List.nil_append]
    refine ((List.perm_middle (l₁ := [blkA b _, omA Y.bm Y.v Y.KL])).trans (List.Perm.cons _ ?_))
    exact (List.perm_middle (l₁ := blkA b _ :: omA Y.bm Y.v Y.KL :: keyRows Y.KL X.keys))
  have q2 : (({ Y with SL := Y.SL.set i sl' } : Lay).list b ⟨X.slots.set i l', X.keys⟩).Perm ([rowA 127 1 Y.sv X.slots.length ((Y.SL.set i sl').map slV), enA sl' l'] ++ ([blkA b (.cells #[.pointer (some ⟨Y.bm, 0, none⟩), Y.sv] 29), omA Y.bm Y.v Y.KL] ++ (keyRows Y.KL X.keys ++ R))) := by
    refine ((p2.append_left (keyRows Y.KL X.keys)).append_left _).trans ?_
    simp only [Lay.hd, List.cons_append, List.nil_append, List.length_set]
    refine ((List.perm_middle (l₁ := [blkA b _, omA Y.bm Y.v Y.KL])).trans (List.Perm.cons _ ?_))
    exact (List.perm_middle (l₁ := blkA b _ :: omA Y.bm Y.v Y.KL :: keyRows Y.KL X.keys))
  have h1 := h.perm q1
  have hd : Dis (rowA 127 1 Y.sv X.slots.length (Y.SL.map slV)) (enA sl l) := h1.dis _ (by simp)
  have hlt := h1.lt (A := rowA 127 1 Y.sv X.slots.length (Y.SL.map slV)) (by simp)
  have hS : ∀ B ∈ [rowA 127 1 Y.sv X.slots.length ((Y.SL.set i sl').map slV), enA sl' l'], ∀ k, B.S k → (∃ A ∈ [rowA 127 1 Y.sv X.slots.length (Y.SL.map slV), enA sl l], A.S k) ∨ w.heap.size ≤ k := fun B hB k hk => by
    simp only [List.mem_cons, List.not_mem_nil, or_false] at hB
    rcases hB with rfl | rfl
    · exact .inl ⟨rowA 127 1 Y.sv X.slots.length (Y.SL.map slV), by simp, hk⟩
    · exact (hn k hk).imp (fun h => ⟨enA sl l, by simp, h⟩) (fun h => h)
  refine ⟨(Sep.steps h1 m (fun k hk => ?_) ⟨fun B hB => ?_, List.pairwise_cons.2 ⟨fun B hB k ka kb => ?_, List.pairwise_cons.2 ⟨fun _ h => (by cases h), List.Pairwise.nil⟩⟩⟩ hS).perm q2.symm, ⟨f.k, by simpa using f.s⟩, fun k hk => ?_⟩
  · rcases hT k hk with h | h | h
    · exact .inl ⟨enA sl l, by simp, h⟩
    · exact .inl ⟨rowA 127 1 Y.sv X.slots.length (Y.SL.map slV), by simp, h⟩
    · exact .inr h
  · simp only [List.mem_cons, List.not_mem_nil, or_false] at hB
    rcases hB with rfl | rfl
    · exact hs
    · exact ho
  · simp only [List.mem_cons, List.not_mem_nil, or_false] at hB
    subst hB
    rcases hn k kb with h | h
    · exact hd k ka h
    · have := hlt k ka; omega
  · obtain ⟨A, hA, hk⟩ := hk
    rcases List.mem_append.1 (q2.mem_iff.1 hA) with hA | hA
    · rcases hS A hA k hk with ⟨B, hB, hb⟩ | h
      · exact .inl ⟨B, q1.mem_iff.2 (List.mem_append_left _ hB), hb⟩
      · exact .inr h
    · exact .inl ⟨A, q1.mem_iff.2 (List.mem_append_right _ hA), hk⟩
/-- What the map's own part takes. -/
theorem Lay.om_disj (h : Sep (Y.list b X) w) : ∀ k, (k = Y.bm ∨ Y.v.ownBlock = some k) → ∀ A ∈ (blkA b (.cells #[.pointer (some ⟨Y.bm, 0, none⟩), Y.sv] 29) :: rowA 127 1 Y.sv X.slots.length (Y.SL.map slV) :: (keyRows Y.KL X.keys ++ slotRows Y.SL X.slots)), ¬ A.S k := by
  intro k hk A hA
  have h1 : Sep (omA Y.bm Y.v Y.KL :: (blkA b (.cells #[.pointer (some ⟨Y.bm, 0, none⟩), Y.sv] 29) :: rowA 127 1 Y.sv X.slots.length (Y.SL.map slV) :: (keyRows Y.KL X.keys ++ slotRows Y.SL X.slots))) w := h.perm (by
    simp only [Lay.list, Lay.hd, List.cons_append, List.nil_append]
    exact List.Perm.swap _ _ _)
  exact h1.dis A hA k hk
/-- A key's row is another one, in new blocks; the map's list with it. -/
theorem Lay.putKey {w1 : World} (h0 : Sep (Y.list b X) w) (f : Y.Fit X) (g : Gr w w1) (k : ByteArray) {s' : Sl} {l' : List En} (ho : Own w1 23 6 (slV s') l'.length (rowE l')) (hn : ∀ q, (slV s').ownBlock = some q → w.heap.size ≤ q)
    {v' : Value} (hm : OMsl w' Y.bm v' (putL ltS Y.KL k s')) (hv : ∀ q, v'.ownBlock = some q → Y.v.ownBlock = some q ∨ w1.heap.size ≤ q) (m : Mdh (fun q => q = Y.bm ∨ Y.v.ownBlock = some q) w1 w') :
    Sep (({ Y with v := v', KL := putL ltS Y.KL k s' } : Lay).list b ⟨X.slots, putL ltS X.keys k l'⟩) w' ∧ ({ Y with v := v', KL := putL ltS Y.KL k s' } : Lay).Fit ⟨X.slots, putL ltS X.keys k l'⟩ ∧
      ∀ q, (∃ A ∈ ({ Y with v := v', KL := putL ltS Y.KL k s' } : Lay).list b ⟨X.slots, putL ltS X.keys k l'⟩, A.S q) → (∃ A ∈ Y.list b X, A.S q) ∨ w.heap.size ≤ q := by
  obtain ⟨old, R, p1, _, p2, _, e1, _⟩ := keyRows_split f.k k s' l'
  have h1 := h0.new g (A := enA s' l') ho hn
  have q1 : (enA s' l' :: Y.list b X).Perm (omA Y.bm Y.v Y.KL :: ([enA s' l', blkA b (.cells #[.pointer (some ⟨Y.bm, 0, none⟩), Y.sv] 29), rowA 127 1 Y.sv X.slots.length (Y.SL.map slV)] ++ ((old ++ R) ++ slotRows Y.SL X.slots))) := by
    refine List.Perm.trans (l₂ := enA s' l' :: omA Y.bm Y.v Y.KL :: (blkA b (.cells #[.pointer (some ⟨Y.bm, 0, none⟩), Y.sv] 29) :: rowA 127 1 Y.sv X.slots.length (Y.SL.map slV) :: ((old ++ R) ++ slotRows Y.SL X.slots))) (List.Perm.cons _ ?_) (List.Perm.swap _ _ _)
    simp only [Lay.list, Lay.hd, List.cons_append, List.nil_append]
    exact (((((p1.append_right _)).cons _).cons _).cons _).trans (List.Perm.swap _ _ _)
  have q2 : (({ Y with v := v', KL := putL ltS Y.KL k s' } : Lay).list b ⟨X.slots, putL ltS X.keys k l'⟩).Perm (omA Y.bm v' (putL ltS Y.KL k s') :: ([enA s' l', blkA b (.cells #[.pointer (some ⟨Y.bm, 0, none⟩), Y.sv] 29), rowA 127 1 Y.sv X.slots.length (Y.SL.map slV)] ++ (R ++ slotRows Y.SL X.slots))) := by
    simp only [Lay.list, Lay.hd, List.cons_append, List.nil_append]
    refine ((((p2.append_right _).cons _).cons _).cons _).trans ((List.Perm.swap _ _ _).trans (List.Perm.cons _ ?_))
    simp only [List.cons_append]
    exact (List.perm_middle (l₁ := [blkA b _, rowA 127 1 Y.sv X.slots.length (Y.SL.map slV)]))
  have h2 := h1.perm q1
  have h3 := h2.step (B := omA Y.bm v' (putL ltS Y.KL k s')) m (fun q hq => .inl hq) hm (fun q hq => hq.elim (fun e => .inl (.inl e)) (fun e => (hv q e).imp .inr (fun h => h)))
  have sub : (R ++ slotRows Y.SL X.slots).Sublist ((old ++ R) ++ slotRows Y.SL X.slots) := (List.sublist_append_right _ _).append_right _
  refine ⟨(h3.sub ((sub.append_left [enA s' l', _, _]).cons_cons _)).perm q2.symm, ⟨e1, f.s⟩, fun q hq => ?_⟩
  obtain ⟨A, hA, ha⟩ := hq
  rcases List.mem_cons.1 (q2.mem_iff.1 hA) with rfl | hA
  · rcases ha with e | e
    · exact .inl ⟨omA Y.bm Y.v Y.KL, by simp [Lay.list, Lay.hd], .inl e⟩
    · rcases hv q e with h | h
      · exact .inl ⟨omA Y.bm Y.v Y.KL, by simp [Lay.list, Lay.hd], .inr h⟩
      · exact .inr (Nat.le_trans g.sz h)
  · rcases List.mem_append.1 hA with hA | hA
    · rcases List.mem_cons.1 hA with e | hA
      · subst e; exact .inr (hn q ha)
      · refine .inl ⟨A, ?_, ha⟩
        rcases List.mem_cons.1 hA with e | hA
        · rw [e]; exact List.mem_append_left _ (List.mem_cons_self ..)
        · rw [List.mem_singleton.1 hA]; exact List.mem_append_left _ (List.mem_cons_of_mem _ (List.mem_cons_of_mem _ (List.mem_cons_self ..)))
    · refine .inl ⟨A, List.mem_append_right _ ?_, ha⟩
      rcases List.mem_append.1 hA with hA | hA
      · exact List.mem_append_left _ (p1.mem_iff.2 (List.mem_append_right _ hA))
      · exact List.mem_append_right _ hA
/-- A key is taken out. -/
theorem Lay.delKey (h0 : Sep (Y.list b X) w) (f : Y.Fit X) (k : ByteArray)
    {v' : Value} (hm : OMsl w' Y.bm v' (delL ltS Y.KL k)) (hv : ∀ q, v'.ownBlock = some q → Y.v.ownBlock = some q ∨ w.heap.size ≤ q) (m : Mdh (fun q => q = Y.bm ∨ Y.v.ownBlock = some q) w w') :
    Sep (({ Y with v := v', KL := delL ltS Y.KL k } : Lay).list b ⟨X.slots, delL ltS X.keys k⟩) w' ∧ ({ Y with v := v', KL := delL ltS Y.KL k } : Lay).Fit ⟨X.slots, delL ltS X.keys k⟩ ∧
      ∀ q, (∃ A ∈ ({ Y with v := v', KL := delL ltS Y.KL k } : Lay).list b ⟨X.slots, delL ltS X.keys k⟩, A.S q) → (∃ A ∈ Y.list b X, A.S q) ∨ w.heap.size ≤ q := by
  obtain ⟨old, R, p1, _, _, p2, _, e1⟩ := keyRows_split f.k k (none, 0, 0) []
  have q1 : (Y.list b X).Perm (omA Y.bm Y.v Y.KL :: ([blkA b (.cells #[.pointer (some ⟨Y.bm, 0, none⟩), Y.sv] 29), rowA 127 1 Y.sv X.slots.length (Y.SL.map slV)] ++ ((old ++ R) ++ slotRows Y.SL X.slots))) := by
    simp only [Lay.list, Lay.hd, List.cons_append, List.nil_append]
    exact (((((p1.append_right _)).cons _).cons _).cons _).trans (List.Perm.swap _ _ _)
  have q2 : (({ Y with v := v', KL := delL ltS Y.KL k } : Lay).list b ⟨X.slots, delL ltS X.keys k⟩).Perm (omA Y.bm v' (delL ltS Y.KL k) :: ([blkA b (.cells #[.pointer (some ⟨Y.bm, 0, none⟩), Y.sv] 29), rowA 127 1 Y.sv X.slots.length (Y.SL.map slV)] ++ (R ++ slotRows Y.SL X.slots))) := by
    simp only [Lay.list, Lay.hd, List.cons_append, List.nil_append]
    exact (((((p2.append_right _)).cons _).cons _).cons _).trans (List.Perm.swap _ _ _)
  have h2 := h0.perm q1
  have h3 := h2.step (B := omA Y.bm v' (delL ltS Y.KL k)) m (fun q hq => .inl hq) hm (fun q hq => hq.elim (fun e => .inl (.inl e)) (fun e => (hv q e).imp .inr (fun h => h)))
  have sub : (R ++ slotRows Y.SL X.slots).Sublist ((old ++ R) ++ slotRows Y.SL X.slots) := (List.sublist_append_right _ _).append_right _
  refine ⟨(h3.sub ((sub.append_left [_, _]).cons_cons _)).perm q2.symm, ⟨e1, f.s⟩, fun q hq => ?_⟩
  obtain ⟨A, hA, ha⟩ := hq
  rcases List.mem_cons.1 (q2.mem_iff.1 hA) with rfl | hA
  · rcases ha with e | e
    · exact .inl ⟨omA Y.bm Y.v Y.KL, by simp [Lay.list, Lay.hd], .inl e⟩
    · rcases hv q e with h | h
      · exact .inl ⟨omA Y.bm Y.v Y.KL, by simp [Lay.list, Lay.hd], .inr h⟩
      · exact .inr h
  · exact .inl ⟨A, q1.mem_iff.2 (List.mem_cons_of_mem _ ((sub.append_left [_, _]).subset hA)), ha⟩
end
end Go.Proofs.Ytiidkehcfoajeaa
