/- An entry that is added: the index stays as it has to be. No walk. -/
import Derived.Test.YtiidkehcfoajeaaIxy
set_option linter.unusedVariables false
set_option linter.unusedSimpArgs false
namespace Go.Proofs.Ytiidkehcfoajeaa

theorem flat_perm {α : Type} {L M : List (List α)} (h : L.Perm M) : L.flatten.Perm M.flatten := h.flatten
theorem set_flat {ls : List (List En)} {i : Nat} {l : List En} (h : ls[i]? = some l) (l' : List En) : ∃ R, ls.flatten.Perm (l ++ R) ∧ (ls.set i l').flatten.Perm (l' ++ R) :=
  ⟨(ls.eraseIdx i).flatten, by simpa using flat_perm (erase_perm' h), by simpa using flat_perm (set_perm l' (List.getElem?_eq_some_iff.1 h).1)⟩
theorem fm_perm {L M : List (ByteArray × List En)} (h : L.Perm M) : (L.flatMap Prod.snd).Perm (M.flatMap Prod.snd) := by
  simp only [List.flatMap]
  exact flat_perm (h.map _)
theorem put_flat (ks : List (ByteArray × List En)) (k : ByteArray) (l' : List En) : ∃ R, (ks.flatMap Prod.snd).Perm ((look ltS ks k).getD [] ++ R) ∧ ((putL ltS ks k l').flatMap Prod.snd).Perm (l' ++ R) ∧ ((delL ltS ks k).flatMap Prod.snd).Perm R := by
  cases h : look ltS ks k with
  | none =>
    refine ⟨ks.flatMap Prod.snd, by simp, ?_, ?_⟩
    · unfold putL
      rw [h]
      have h1 : (ks.take (rk ltS ks k) ++ [(k, l')] ++ ks.drop (rk ltS ks k)).Perm ((k, l') :: ks) := by
        have := List.perm_middle (a := (k, l')) (l₁ := ks.take (rk ltS ks k)) (l₂ := ks.drop (rk ltS ks k))
        rw [List.take_append_drop] at this
        simpa using this
      simpa using fm_perm h1
    · unfold delL; rw [h]
  | some l =>
    have hx := look_some h
    refine ⟨(ks.eraseIdx (rk ltS ks k)).flatMap Prod.snd, by simpa using fm_perm (erase_perm' hx), ?_, ?_⟩
    · unfold putL
      rw [h]
      simpa using fm_perm (set_perm (k, l') (List.getElem?_eq_some_iff.1 hx).1)
    · unfold delL
      rw [h]
      simp only
      rw [← List.eraseIdx_eq_take_drop_succ]
section
variable {X : IX} {e : En}
/-- What an addition that goes through says. -/
structure AddOk (X : IX) (e : En) : Prop where
  ne : X.slots ≠ []
  has : X.has e.slot = true
  valid : validE e = true
  bad : ∀ o ∈ X.of e.key, badE e o = false
  same : ∀ o ∈ X.of e.key, sameE e o = false
  clash : clash (X.slot e.slot) e = false
theorem add_ok (h : addE X e = 0) : AddOk X e := by
  unfold addE at h
  split at h
  · cases h
  rename_i h1
  split at h
  · cases h
  rename_i h2
  split at h
  · cases h
  rename_i h3
  split at h
  · cases h
  rename_i h4
  split at h
  · cases h
  rename_i h5
  simp only [Bool.or_eq_true, not_or, Bool.not_eq_true] at h4 h5
  exact ⟨h1, by simpa using h2, by simpa using h3, fun o ho => by simpa using (List.any_eq_false.1 h4) o ho, fun o ho => by simpa using (List.any_eq_false.1 h5.1) o ho, h5.2⟩
theorem ok_add (h : AddOk X e) : addE X e = 0 := by
  unfold addE
  rw [if_neg h.ne, if_neg (by rw [h.has]; simp), if_neg (by rw [h.valid]; simp), if_neg, if_neg]
  · simp only [Bool.or_eq_true, not_or, Bool.not_eq_true]
    exact ⟨List.any_eq_false.2 (fun o ho => by simp [h.same o ho]), h.clash⟩
  · simp only [Bool.not_eq_true]
    exact List.any_eq_false.2 (fun o ho => by simp [h.bad o ho])
theorem slot_lt {i : Int} {s : List En} (hs : SlotOk i s) : s.Pairwise (fun a b => a.off + a.size ≤ b.off ∧ a.off < b.off) :=
  hs.p.imp_of_mem (fun {a b} ha _ h => ⟨h, by have := (valid_iff a).1 (hs.e a ha).2; omega⟩)
theorem off_mono (off : Int) (a b : En) (h : a.off + a.size ≤ b.off ∧ a.off < b.off) (ha : offP off a = false) : offP off b = false := by
  simp [offP] at *; omega
theorem cnt_off {i : Int} {s : List En} (hs : SlotOk i s) (off : Int) : ∀ j x, cnt (offP off) s ≤ j → s[j]? = some x → offP off x = false := cnt_hi _ (slot_lt hs) (off_mono off)
theorem clash_lo {i : Int} {s : List En} (hs : SlotOk i s) (h : clash s e = false) : ∀ x ∈ s, offP e.off x = true → x.off + x.size ≤ e.off := by
  intro x hx hp
  unfold clash at h
  simp only [Bool.or_eq_false_iff, Bool.and_eq_false_iff] at h
  obtain ⟨j, hj, rfl⟩ := List.mem_iff_getElem.1 hx
  have hjc : j < cnt (offP e.off) s := by
    rcases Nat.lt_or_ge j (cnt (offP e.off) s) with h1 | h1
    · exact h1
    · have := cnt_off hs e.off j _ h1 (List.getElem?_eq_getElem hj)
      rw [this] at hp; cases hp
  have hl := cnt_le (offP e.off) s
  have hk : cnt (offP e.off) s - 1 < s.length := by omega
  have h2 := h.2.resolve_left (by simp; omega)
  rw [List.getElem?_eq_getElem hk] at h2
  simp only [decide_eq_false_iff_not] at h2
  rcases Nat.eq_or_lt_of_le (show j ≤ cnt (offP e.off) s - 1 by omega) with h3 | h3
  · subst h3; omega
  · have := List.pairwise_iff_getElem.1 (slot_lt hs) j _ hj hk h3
    have hv := (valid_iff _).1 (hs.e _ (List.getElem_mem hk)).2
    omega
theorem clash_hi {i : Int} {s : List En} (hs : SlotOk i s) (h : clash s e = false) : ∀ x ∈ s, offP e.off x = false → e.off + e.size ≤ x.off := by
  intro x hx hp
  unfold clash at h
  simp only [Bool.or_eq_false_iff, Bool.and_eq_false_iff] at h
  obtain ⟨j, hj, rfl⟩ := List.mem_iff_getElem.1 hx
  have hjc : cnt (offP e.off) s ≤ j := by
    rcases Nat.lt_or_ge j (cnt (offP e.off) s) with h1 | h1
    · rw [cnt_lo (offP e.off) s j _ h1 (List.getElem?_eq_getElem hj)] at hp; cases hp
    · exact h1
  have hk : cnt (offP e.off) s < s.length := by omega
  have h2 := h.1
  rw [List.getElem?_eq_getElem hk] at h2
  simp only [Bool.or_eq_false_iff, decide_eq_false_iff_not] at h2
  rcases Nat.eq_or_lt_of_le hjc with h3 | h3
  · subst h3; omega
  · have := List.pairwise_iff_getElem.1 (slot_lt hs) _ j hk hj h3
    omega
/-- The parts of an index behind an addition. -/
theorem add_parts (h : X.Wf) (a : AddOk X e) : ∃ (i : Nat) (R1 R2 : List En), e.slot = i ∧ X.slots[i]? = some (X.slot e.slot) ∧
    X.slots.flatten.Perm (X.slot e.slot ++ R1) ∧ (X.slots.set i (insP (offP e.off) (X.slot e.slot) e)).flatten.Perm (insP (offP e.off) (X.slot e.slot) e ++ R1) ∧
    (X.keys.flatMap Prod.snd).Perm (X.of e.key ++ R2) ∧ ((putL ltS X.keys e.key (insP (fun o => ltE o e) (X.of e.key) e)).flatMap Prod.snd).Perm (insP (fun o => ltE o e) (X.of e.key) e ++ R2) := by
  obtain ⟨i, hi, hx⟩ := has_at a.has
  obtain ⟨R1, p1, p2⟩ := set_flat hx (insP (offP e.off) (X.slot e.slot) e)
  obtain ⟨R2, p3, p4, _⟩ := put_flat X.keys e.key (insP (fun o => ltE o e) (X.of e.key) e)
  exact ⟨i, R1, R2, hi, hx, p1, p2, p3, p4⟩
theorem addX_eq (a : AddOk X e) : addX X e = ⟨X.slots.set e.slot.toNat (insP (offP e.off) (X.slot e.slot) e), putL ltS X.keys e.key (insP (fun o => ltE o e) (X.of e.key) e)⟩ := by
  unfold addX; rw [if_pos (ok_add a)]
theorem add_ents (h : X.Wf) (a : AddOk X e) : (addX X e).ents.Perm (e :: X.ents) := by
  obtain ⟨i, R1, R2, hi, hx, p1, p2, p3, p4⟩ := add_parts h a
  rw [addX_eq a]
  unfold IX.ents
  rw [hi, Int.toNat_natCast, ← hi]
  exact p2.trans ((((insP_perm _ _ _).append_right _)).trans ((List.Perm.cons _ p1.symm)))
theorem add_wf (h : X.Wf) (a : AddOk X e) : (addX X e).Wf := by
  have hE := add_ents h a
  obtain ⟨i, R1, R2, hi, hx, p1, p2, p3, p4⟩ := add_parts h a
  have hil := (List.getElem?_eq_some_iff.1 hx).1
  rw [addX_eq a] at hE ⊢
  have hto : e.slot.toNat = i := by omega
  rw [hto] at hE ⊢
  have hS := h.slotOk e.slot
  refine ⟨by simpa using h.n, fun h0 => ?_, fun j l hl => ?_, put_srt ordS h.k0 _ _, fun x hxm => ?_, ?_, ?_⟩
  · exfalso
    have := congrArg List.length h0
    simp at this
    exact a.ne this
  · simp only at hl
    rw [List.getElem?_set] at hl
    split at hl
    · rename_i hij
      obtain rfl := Option.some.inj hl
      subst hij
      rw [← hi]
      refine ⟨?_, fun x hxm => ?_⟩
      · exact (insP_pair (R := fun a b => a.off + a.size ≤ b.off ∧ a.off < b.off) (offP e.off) (slot_lt hS) e (fun x hx' hp => ⟨clash_lo hS a.clash x hx' hp, by simpa [offP] using hp⟩)
          (fun x hx' hp => ⟨clash_hi hS a.clash x hx' hp, by have := clash_hi hS a.clash x hx' hp; have hv := (valid_iff e).1 a.valid; omega⟩) (off_mono e.off)).imp (fun h => h.1)
      · rcases (insP_mem _ _ _ _).1 hxm with rfl | hxm
        · exact ⟨rfl, a.valid⟩
        · exact hS.e x hxm
    · exact h.s j l hl
  · rcases (put_mem ordS h.k0 _ _ x).1 hxm with rfl | ⟨hxm, _⟩
    · refine ⟨?_, ?_, fun y hy => ?_⟩
      · intro h0
        have := congrArg List.length h0
        rw [insP_len] at this
        simp at this
      · refine insP_pair (R := fun a b => ltE a b = true) _ (h.ofPair e.key) e (fun x _ hp => hp) (fun x hx' hp => ?_) (fun a b hab ha => ?_)
        · cases he : ltE e x with
          | true => rfl
          | false =>
            have := ltE_tri hp he
            have hs := a.same x hx'
            simp [sameE, this] at hs
        · cases hb : ltE b e with
          | false => rfl
          | true => rw [ltE_trn hab hb] at ha; cases ha
      · rcases (insP_mem _ _ _ _).1 hy with rfl | hy
        · rfl
        · exact ((h.of_mem e.key y).1 hy).2
    · exact h.k x hxm
  · refine p4.trans ((((insP_perm _ _ _).append_right R2)).trans (List.Perm.trans ?_ hE.symm))
    exact List.Perm.cons _ (p3.symm.trans h.v)
  · intro x hxm y hym hk hq
    have key : ∀ o ∈ X.ents, o.key = e.key → o.seq = e.seq → o.del = e.del ∧ o.size = e.size := fun o ho h1 h2 => by
      have hb := a.bad o ((h.of_mem e.key o).2 ⟨ho, h1⟩)
      simp only [badE, decide_eq_false_iff_not, not_and, Decidable.not_not] at hb
      have := hb h2
      exact ⟨by rw [← this], by rw [← this]⟩
    rcases List.mem_cons.1 (hE.mem_iff.1 hxm) with rfl | hx'
    · rcases List.mem_cons.1 (hE.mem_iff.1 hym) with rfl | hy'
      · exact ⟨rfl, rfl⟩
      · have := key y hy' hk.symm hq.symm; exact ⟨this.1.symm, this.2.symm⟩
    · rcases List.mem_cons.1 (hE.mem_iff.1 hym) with rfl | hy'
      · exact key x hx' hk hq
      · exact h.c x hx' y hy' hk hq
end
end Go.Proofs.Ytiidkehcfoajeaa
