/- The entries of a slot that are dropped: the index stays as it has to be. No walk. -/
import Derived.Test.YtiidkehcfoajeaaIxq
set_option linter.unusedVariables false
set_option linter.unusedSimpArgs false
namespace Go.Proofs.Ytiidkehcfoajeaa

/-- The entries of a key without e. -/
def leftE (X : IX) (e : En) : List En := (X.of e.key).filter (fun o => !decide (o = e))
def remE (X : IX) (e : En) : IX := ⟨X.slots, if leftE X e = [] then delL ltS X.keys e.key else putL ltS X.keys e.key (leftE X e)⟩
def dropK (X : IX) (l : List En) : IX := l.foldl remE X
def dropX (X : IX) (s : Int) : IX := if X.has s = true then ⟨X.slots.set s.toNat [], (dropK X (X.slot s)).keys⟩ else X
structure MidK (X : IX) : Prop where
  k0 : Srt ltS X.keys
  k : ∀ x ∈ X.keys, KeyOk x.1 x.2
theorem IX.Wf.mid {X : IX} (h : X.Wf) : MidK X := ⟨h.k0, h.k⟩
section
variable {X : IX} {e : En}
theorem MidK.of (h : MidK X) {k : ByteArray} (hk : X.of k ≠ []) : KeyOk k (X.of k) := by
  unfold IX.of at hk ⊢
  cases hl : look ltS X.keys k with
  | none => rw [hl] at hk; exact absurd rfl hk
  | some l => exact h.k (k, l) ((look_mem ordS h.k0 k l).1 hl)
theorem MidK.pair (h : MidK X) (k : ByteArray) : (X.of k).Pairwise (fun a b => ltE a b = true) := by
  by_cases hk : X.of k = []
  · rw [hk]; exact List.Pairwise.nil
  · exact (h.of hk).p
theorem MidK.key (h : MidK X) (k : ByteArray) : ∀ o ∈ X.of k, o.key = k := fun o ho => (h.of (fun h0 => by rw [h0] at ho; cases ho)).e o ho
theorem rem_of (h : MidK X) (e : En) (k : ByteArray) : (remE X e).of k = (X.of k).filter (fun o => !decide (o = e)) := by
  by_cases hk : k = e.key
  · subst hk
    unfold remE IX.of
    simp only
    split
    · rename_i h0
      rw [del_look ordS h.k0, if_pos rfl]
      exact h0.symm
    · rw [put_look ordS h.k0, if_pos rfl]
      rfl
  · have e1 : (remE X e).of k = X.of k := by
      unfold remE IX.of
      simp only
      split
      · rw [del_look ordS h.k0, if_neg hk]
      · rw [put_look ordS h.k0, if_neg hk]
    rw [e1]
    refine (List.filter_eq_self.2 (fun o ho => ?_)).symm
    have := h.key k o ho
    have hne : o ≠ e := fun h0 => hk (by rw [← this, h0])
    simp [hne]
theorem rem_mid (h : MidK X) (e : En) : MidK (remE X e) := by
  by_cases h0 : leftE X e = []
  · have e1 : remE X e = ⟨X.slots, delL ltS X.keys e.key⟩ := by unfold remE; rw [if_pos h0]
    rw [e1]
    exact ⟨del_srt h.k0 _, fun x hx => h.k x ((del_mem ordS h.k0 _ x).1 hx).1⟩
  · have e1 : remE X e = ⟨X.slots, putL ltS X.keys e.key (leftE X e)⟩ := by unfold remE; rw [if_neg h0]
    rw [e1]
    refine ⟨put_srt ordS h.k0 _ _, fun x hx => ?_⟩
    rcases (put_mem ordS h.k0 _ _ x).1 hx with rfl | ⟨hx, _⟩
    · exact ⟨h0, (h.pair e.key).filter _, fun o ho => h.key _ o (List.mem_filter.1 ho).1⟩
    · exact h.k x hx
theorem drop_mid : ∀ (l : List En) {X : IX}, MidK X → MidK (dropK X l)
  | [], _, h => h
  | e :: l, _, h => drop_mid l (rem_mid h e)
theorem dropK_slots : ∀ (l : List En) (X : IX), (dropK X l).slots = X.slots
  | [], _ => rfl
  | e :: l, X => by unfold dropK; rw [List.foldl_cons]; exact dropK_slots l (remE X e)
theorem dropK_snoc (X : IX) (l : List En) (e : En) : dropK X (l ++ [e]) = remE (dropK X l) e := by simp [dropK]
theorem dropK_of : ∀ (l : List En) {X : IX}, MidK X → ∀ k, (dropK X l).of k = (X.of k).filter (fun o => decide (o ∉ l))
  | [], X, _, k => by simp only [dropK, List.foldl_nil]; exact (List.filter_eq_self.2 (fun o _ => by simp)).symm
  | e :: l, X, h, k => by
    have e1 : dropK X (e :: l) = dropK (remE X e) l := rfl
    rw [e1, dropK_of l (rem_mid h e), rem_of h, List.filter_filter]
    congr 1
    funext o
    by_cases h1 : o = e <;> by_cases h2 : o ∈ l <;> simp [h1, h2]
theorem ne_perm {e : En} : ∀ {l : List En}, l.Pairwise (fun a b => ltE a b = true) → e ∈ l → l.Perm (e :: l.filter (fun o => !decide (o = e)))
  | [], _, h => by cases h
  | x :: l, hp, h => by
    have hp' := List.pairwise_cons.1 hp
    by_cases hx : x = e
    · subst hx
      have e1 : (x :: l).filter (fun o => !decide (o = x)) = l := by
        rw [List.filter_cons_of_neg (by simp)]
        refine List.filter_eq_self.2 (fun y hy => ?_)
        have hne : y ≠ x := fun h0 => by have := hp'.1 y hy; rw [h0, ltE_irr] at this; cases this
        simp [hne]
      rw [e1]
    · rw [List.filter_cons_of_pos (by simp [hx])]
      have he : e ∈ l := (List.mem_cons.1 h).resolve_left (fun h0 => hx h0.symm)
      exact ((ne_perm hp'.2 he).cons x).trans (List.Perm.swap _ _ _)
theorem rem_perm (h : MidK X) (he : e ∈ X.of e.key) : (X.keys.flatMap Prod.snd).Perm (e :: (remE X e).keys.flatMap Prod.snd) := by
  obtain ⟨R, p1, p2, p3⟩ := put_flat X.keys e.key (leftE X e)
  have h1 := ne_perm (h.pair e.key) he
  refine p1.trans ((h1.append_right R).trans ?_)
  by_cases h0 : leftE X e = []
  · have e1 : remE X e = ⟨X.slots, delL ltS X.keys e.key⟩ := by unfold remE; rw [if_pos h0]
    rw [e1]
    show ((e :: leftE X e) ++ R).Perm _
    rw [h0]
    exact List.Perm.cons _ p3.symm
  · have e1 : remE X e = ⟨X.slots, putL ltS X.keys e.key (leftE X e)⟩ := by unfold remE; rw [if_neg h0]
    rw [e1]
    exact List.Perm.cons _ p2.symm
theorem drop_perm : ∀ (l : List En) {X : IX}, MidK X → l.Nodup → (∀ e ∈ l, e ∈ X.of e.key) → (X.keys.flatMap Prod.snd).Perm (l ++ (dropK X l).keys.flatMap Prod.snd)
  | [], _, _, _, _ => List.Perm.refl _
  | e :: l, X, h, hn, hl => by
    have hn' := List.nodup_cons.1 hn
    refine (rem_perm h (hl e (by simp))).trans (List.Perm.cons _ (drop_perm l (rem_mid h e) hn'.2 (fun o ho => ?_)))
    rw [rem_of h]
    refine List.mem_filter.2 ⟨hl o (List.mem_cons_of_mem _ ho), ?_⟩
    have hne : o ≠ e := fun h0 => hn'.1 (h0 ▸ ho)
    simp [hne]
theorem slot_nodup {i : Int} {l : List En} (h : SlotOk i l) : l.Nodup := (slot_lt h).imp (fun h e => by rw [e] at h; omega)
theorem drop_yes {s : Int} (h : X.has s = true) : dropX X s = ⟨X.slots.set s.toNat [], (dropK X (X.slot s)).keys⟩ := by unfold dropX; rw [if_pos h]
theorem drop_no {s : Int} (h : X.has s = false) : dropX X s = X := by unfold dropX; rw [if_neg (by rw [h]; simp)]
theorem drop_of (h : X.Wf) (s : Int) (k : ByteArray) : (dropX X s).of k = (X.of k).filter (fun o => decide (o.slot ≠ s)) := by
  cases hs : X.has s with
  | true =>
    have e1 : (dropX X s).of k = (dropK X (X.slot s)).of k := by rw [drop_yes hs]; rfl
    rw [e1, dropK_of _ h.mid]
    refine List.filter_congr (fun o ho => ?_)
    have h1 := (h.of_mem k o).1 ho
    rw [decide_eq_decide]
    exact not_congr ⟨fun h2 => ((h.slot_mem s o).1 h2).2, fun h2 => (h.slot_mem s o).2 ⟨h1.1, h2⟩⟩
  | false =>
    rw [drop_no hs]
    refine (List.filter_eq_self.2 (fun o ho => ?_)).symm
    have h1 := (h.valid ((h.of_mem k o).1 ho).1).2
    have hne : o.slot ≠ s := fun h0 => by rw [h0, hs] at h1; cases h1
    simp [hne]
theorem drop_slot (h : X.Wf) (s t : Int) : (dropX X s).slot t = if t = s then [] else X.slot t := by
  cases hs : X.has s with
  | true =>
    obtain ⟨i, rfl, hi⟩ := has_at hs
    rw [drop_yes hs]
    have hil := (List.getElem?_eq_some_iff.1 hi).1
    unfold IX.slot
    simp only [List.getD_eq_getElem?_getD, Int.toNat_natCast]
    by_cases ht : t = i
    · subst ht
      simp [hil]
    · by_cases h0 : 0 ≤ t
      · rw [if_pos h0, if_neg ht, if_pos h0, List.getElem?_set_ne (by omega)]
      · rw [if_neg h0, if_neg ht, if_neg h0]
  | false =>
    rw [drop_no hs]
    split
    · rename_i h0; rw [h0, slot_out hs]
    · rfl
/-- What is left. -/
theorem drop_parts (h : X.Wf) {s : Int} (hs : X.has s = true) : ∃ (i : Nat) (R1 : List En), s = i ∧ X.slots[i]? = some (X.slot s) ∧ X.slots.flatten.Perm (X.slot s ++ R1) ∧ (X.slots.set i []).flatten.Perm R1 ∧ ((dropK X (X.slot s)).keys.flatMap Prod.snd).Perm R1 := by
  obtain ⟨i, hi, hx⟩ := has_at hs
  obtain ⟨R1, p1, p2⟩ := set_flat hx []
  refine ⟨i, R1, hi, hx, p1, by simpa using p2, ?_⟩
  have h1 := drop_perm (X.slot s) h.mid (slot_nodup (h.slotOk s)) (fun e he => (h.of_mem e.key e).2 ⟨((h.slot_mem s e).1 he).1, rfl⟩)
  exact (List.perm_append_left_iff _).1 ((h1.symm.trans h.v).trans p1)
theorem drop_ents (h : X.Wf) {s : Int} (hs : X.has s = true) : X.ents.Perm (X.slot s ++ (dropX X s).ents) := by
  obtain ⟨i, R1, rfl, hx, p1, p2, p3⟩ := drop_parts h hs
  rw [drop_yes hs]
  unfold IX.ents
  rw [Int.toNat_natCast]
  exact p1.trans (List.Perm.append_left _ p2.symm)
theorem drop_wf (h : X.Wf) (s : Int) : (dropX X s).Wf := by
  cases hs : X.has s with
  | false => rw [drop_no hs]; exact h
  | true =>
    have hE := drop_ents h hs
    obtain ⟨i, R1, rfl, hx, p1, p2, p3⟩ := drop_parts h hs
    have hil := (List.getElem?_eq_some_iff.1 hx).1
    have hM := drop_mid (X.slot i) h.mid
    rw [drop_yes hs, Int.toNat_natCast] at *
    refine ⟨by simpa using h.n, fun h0 => ?_, fun j l hl => ?_, hM.k0, hM.k, p3.trans p2.symm, fun a ha b hb => h.c a (hE.mem_iff.2 (List.mem_append_right _ ha)) b (hE.mem_iff.2 (List.mem_append_right _ hb))⟩
    · exfalso
      have := congrArg List.length h0
      simp at this
      rw [this] at hil
      simp at hil
    · simp only at hl
      rw [List.getElem?_set] at hl
      split at hl
      · obtain rfl := Option.some.inj hl
        exact ⟨List.Pairwise.nil, fun e he => by cases he⟩
      · exact h.s j l hl
theorem dropK_le (h : MidK X) (l : List En) : (dropK X l).keys.length ≤ X.keys.length := by
  induction l generalizing X with
  | nil => exact Nat.le_refl _
  | cons e l ih =>
    refine Nat.le_trans (ih (rem_mid h e)) ?_
    unfold remE
    simp only
    split
    · rw [del_length]; split <;> omega
    · rename_i h0
      rw [put_length, if_neg]
      · exact Nat.le_refl _
      · intro hl
        apply h0
        unfold leftE IX.of
        rw [hl]
        rfl
end
end Go.Proofs.Ytiidkehcfoajeaa
