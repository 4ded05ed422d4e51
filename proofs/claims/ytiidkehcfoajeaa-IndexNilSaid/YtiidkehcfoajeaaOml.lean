/- The plain law of a sorted list of keys with values. No program in sight. -/
import Derived.Test.YtiidkehcfoajeaaRows
set_option linter.unusedVariables false
set_option linter.unusedSimpArgs false
namespace Go.Proofs.Ytiidkehcfoajeaa

structure KOrd {κ : Type} (lt : κ → κ → Bool) : Prop where
  irr : ∀ a, lt a a = false
  trn : ∀ {a b c}, lt a b = true → lt b c = true → lt a c = true
  tri : ∀ {a b}, lt a b = false → lt b a = false → a = b
section
variable {κ ν : Type} {lt : κ → κ → Bool}
def Srt (lt : κ → κ → Bool) (L : List (κ × ν)) : Prop := L.Pairwise (fun x y => lt x.1 y.1 = true)
/-- How many keys are less. -/
def rk (lt : κ → κ → Bool) : List (κ × ν) → κ → Nat
  | [], _ => 0
  | x :: L, k => if lt x.1 k = true then rk lt L k + 1 else 0
theorem rk_le (L : List (κ × ν)) (k : κ) : rk lt L k ≤ L.length := by
  induction L with
  | nil => exact Nat.le_refl _
  | cons x L ih => simp only [rk, List.length_cons]; split <;> omega
theorem rk_lo (L : List (κ × ν)) (k : κ) : ∀ j x, j < rk lt L k → L[j]? = some x → lt x.1 k = true := by
  induction L with
  | nil => intro j x h; simp [rk] at h
  | cons y L ih =>
    intro j x h hx
    simp only [rk] at h
    split at h
    · cases j with
      | zero => simp at hx; subst hx; assumption
      | succ j => exact ih j x (by omega) (by simpa using hx)
    · omega
theorem rk_hi (o : KOrd lt) {L : List (κ × ν)} (s : Srt lt L) (k : κ) : ∀ j x, rk lt L k ≤ j → L[j]? = some x → lt x.1 k = false := by
  induction L with
  | nil => intro j x _ hx; simp at hx
  | cons y L ih =>
    intro j x h hx
    obtain ⟨s1, s2⟩ := List.pairwise_cons.1 s
    simp only [rk] at h
    split at h
    · cases j with
      | zero => omega
      | succ j => exact ih s2 j x (by omega) (by simpa using hx)
    · rename_i hy
      cases j with
      | zero => simp at hx; subst hx; simpa using hy
      | succ j =>
        have hm : x ∈ L := List.mem_of_getElem? (by simpa using hx)
        cases e : lt x.1 k with
        | false => rfl
        | true => exact absurd (o.trn (s1 x hm) e) hy
theorem rk_uniq (o : KOrd lt) {L : List (κ × ν)} (s : Srt lt L) (k : κ) (r : Nat) (hr : r ≤ L.length) (h1 : ∀ j x, j < r → L[j]? = some x → lt x.1 k = true) (h2 : ∀ j x, r ≤ j → L[j]? = some x → lt x.1 k = false) : r = rk lt L k := by
  have hl := rk_le (lt := lt) L k
  rcases Nat.lt_trichotomy r (rk lt L k) with h | h | h
  · have e := rk_lo (lt := lt) L k r _ h (List.getElem?_eq_getElem (show r < L.length by omega))
    rw [h2 r _ (Nat.le_refl _) (List.getElem?_eq_getElem (show r < L.length by omega))] at e
    cases e
  · exact h
  · have e := rk_hi o s k (rk lt L k) _ (Nat.le_refl _) (List.getElem?_eq_getElem (show rk lt L k < L.length by omega))
    rw [h1 _ _ h (List.getElem?_eq_getElem (show rk lt L k < L.length by omega))] at e
    cases e

theorem rk_lt {L : List (κ × ν)} (k : κ) : ∀ x ∈ L.take (rk lt L k), lt x.1 k = true := by
  intro x hx
  obtain ⟨j, hj, e⟩ := List.mem_take_iff_getElem.1 hx
  exact rk_lo L k j x (by omega) (by rw [List.getElem?_eq_getElem (by omega), e])
theorem mono_lo (o : KOrd lt) {L : List (κ × ν)} (s : Srt lt L) {k : κ} {m : Nat} {x : κ × ν} (hx : L[m]? = some x) (h : lt x.1 k = true) : ∀ j y, j < m + 1 → L[j]? = some y → lt y.1 k = true := by
  intro j y hj hy
  obtain ⟨hm, em⟩ := List.getElem?_eq_some_iff.1 hx
  obtain ⟨hjl, ej⟩ := List.getElem?_eq_some_iff.1 hy
  rcases Nat.eq_or_lt_of_le (show j ≤ m by omega) with e | e
  · subst e; rw [hx] at hy; rw [← Option.some.inj hy]; exact h
  · have := List.pairwise_iff_getElem.1 s j m hjl hm e
    rw [em, ej] at this
    exact o.trn this h
theorem mono_hi (o : KOrd lt) {L : List (κ × ν)} (s : Srt lt L) {k : κ} {m : Nat} {x : κ × ν} (hx : L[m]? = some x) (h : lt x.1 k = false) : ∀ j y, m ≤ j → L[j]? = some y → lt y.1 k = false := by
  intro j y hj hy
  cases e : lt y.1 k with
  | false => rfl
  | true =>
    have := mono_lo o s hy e m x (by omega) hx
    rw [h] at this
    cases this
theorem up_hi (o : KOrd lt) {L : List (κ × ν)} (s : Srt lt L) {k : κ} {m : Nat} {x : κ × ν} (hx : L[m]? = some x) (h : lt k x.1 = true) : ∀ j y, m ≤ j → L[j]? = some y → lt k y.1 = true := by
  intro j y hj hy
  obtain ⟨hm, em⟩ := List.getElem?_eq_some_iff.1 hx
  obtain ⟨hjl, ej⟩ := List.getElem?_eq_some_iff.1 hy
  rcases Nat.eq_or_lt_of_le hj with e | e
  · subst e; rw [hx] at hy; rw [← Option.some.inj hy]; exact h
  · have := List.pairwise_iff_getElem.1 s m j hm hjl e
    rw [em, ej] at this
    exact o.trn h this
theorem up_lo (o : KOrd lt) {L : List (κ × ν)} (s : Srt lt L) {k : κ} {m : Nat} {x : κ × ν} (hx : L[m]? = some x) (h : lt k x.1 = false) : ∀ j y, j < m + 1 → L[j]? = some y → lt k y.1 = false := by
  intro j y hj hy
  cases e : lt k y.1 with
  | false => rfl
  | true =>
    have := up_hi o s hy e m x (by omega) hx
    rw [h] at this
    cases this
variable [DecidableEq κ]
/-- The value of a key. -/
def look (lt : κ → κ → Bool) (L : List (κ × ν)) (k : κ) : Option ν := match L[rk lt L k]? with
  | some x => if x.1 = k then some x.2 else none
  | none => none
theorem look_some {L : List (κ × ν)} {k : κ} {v : ν} (h : look lt L k = some v) : L[rk lt L k]? = some (k, v) := by
  unfold look at h
  split at h
  · rename_i x hx
    split at h
    · rename_i e
      obtain rfl := Option.some.inj h
      rw [hx, ← e]
    · cases h
  · cases h
theorem look_mem (o : KOrd lt) {L : List (κ × ν)} (s : Srt lt L) (k : κ) (v : ν) : look lt L k = some v ↔ (k, v) ∈ L := by
  constructor
  · intro h
    exact List.mem_of_getElem? (look_some h)
  · intro h
    obtain ⟨i, hi, e⟩ := List.mem_iff_getElem.1 h
    have he : L[i]? = some (k, v) := by rw [List.getElem?_eq_getElem hi, e]
    have hr : i = rk lt L k := by
      refine rk_uniq o s k i (by omega) (fun j x hj hx => ?_) (fun j x hj hx => ?_)
      · have hjl := (List.getElem?_eq_some_iff.1 hx).1
        have := List.pairwise_iff_getElem.1 s j i hjl hi hj
        rw [e] at this
        rw [← (List.getElem?_eq_some_iff.1 hx).2]
        exact this
      · rcases Nat.eq_or_lt_of_le hj with hj | hj
        · subst hj; rw [he] at hx; rw [← Option.some.inj hx]; exact o.irr k
        · have hjl := (List.getElem?_eq_some_iff.1 hx).1
          have h1 := List.pairwise_iff_getElem.1 s i j hi hjl hj
          rw [e, (List.getElem?_eq_some_iff.1 hx).2] at h1
          cases e2 : lt x.1 k with
          | false => rfl
          | true => have := o.trn h1 e2; rw [o.irr] at this; cases this
    unfold look
    rw [← hr, he]
    simp
theorem look_none (o : KOrd lt) {L : List (κ × ν)} (s : Srt lt L) (k : κ) : look lt L k = none ↔ ∀ v, (k, v) ∉ L := by
  constructor
  · intro h v hm
    rw [(look_mem o s k v).2 hm] at h
    cases h
  · intro h
    cases e : look lt L k with
    | none => rfl
    | some v => exact absurd ((look_mem o s k v).1 e) (h v)

/-- How many keys are not greater. -/
def up (lt : κ → κ → Bool) (L : List (κ × ν)) (k : κ) : Nat := rk lt L k + if look lt L k = none then 0 else 1
theorem up_uniq (o : KOrd lt) {L : List (κ × ν)} (s : Srt lt L) (k : κ) (r : Nat) (hr : r ≤ L.length) (h1 : ∀ j x, j < r → L[j]? = some x → lt k x.1 = false) (h2 : ∀ j x, r ≤ j → L[j]? = some x → lt k x.1 = true) : r = up lt L k := by
  unfold up
  cases h : look lt L k with
  | none =>
    have hn := (look_none o s k).1 h
    simp only [if_true, Nat.add_zero]
    refine rk_uniq o s k r hr (fun j x hj hx => ?_) (fun j x hj hx => ?_)
    · cases e : lt x.1 k with
      | true => rfl
      | false => exact absurd (by rw [← o.tri e (h1 j x hj hx)]; exact List.mem_of_getElem? hx) (hn x.2)
    · cases e : lt x.1 k with
      | false => rfl
      | true => have := o.trn e (h2 j x hj hx); rw [o.irr] at this; cases this
  | some u =>
    have hg := look_some h
    obtain ⟨hlt, he⟩ := List.getElem?_eq_some_iff.1 hg
    rw [if_neg (by simp)]
    rcases Nat.lt_trichotomy r (rk lt L k + 1) with h3 | h3 | h3
    · have := h2 (rk lt L k) _ (by omega) hg
      rw [o.irr] at this; cases this
    · exact h3
    · have hl : rk lt L k + 1 < L.length := by omega
      have := List.pairwise_iff_getElem.1 s (rk lt L k) (rk lt L k + 1) hlt hl (by omega)
      rw [he] at this
      rw [h1 (rk lt L k + 1) _ h3 (List.getElem?_eq_getElem hl)] at this
      cases this
def putL (lt : κ → κ → Bool) (L : List (κ × ν)) (k : κ) (v : ν) : List (κ × ν) := match look lt L k with
  | some _ => L.set (rk lt L k) (k, v)
  | none => L.take (rk lt L k) ++ [(k, v)] ++ L.drop (rk lt L k)
def delL (lt : κ → κ → Bool) (L : List (κ × ν)) (k : κ) : List (κ × ν) := match look lt L k with
  | some _ => L.take (rk lt L k) ++ L.drop (rk lt L k + 1)
  | none => L
/-- What stands behind an absent key's place is greater. -/
theorem rk_gt (o : KOrd lt) {L : List (κ × ν)} (s : Srt lt L) (k : κ) (h : look lt L k = none) : ∀ x ∈ L.drop (rk lt L k), lt k x.1 = true := by
  intro x hx
  obtain ⟨j, hj, e⟩ := List.mem_iff_getElem.1 hx
  have hx' : L[rk lt L k + j]? = some x := by
    rw [← List.getElem?_drop, List.getElem?_eq_getElem hj, e]
  have h1 := rk_hi o s k _ x (by omega) hx'
  cases e2 : lt k x.1 with
  | true => rfl
  | false =>
    have e3 : x.1 = k := o.tri h1 e2
    exact absurd (by rw [← e3]; exact List.mem_of_getElem? hx') ((look_none o s k).1 h x.2)
theorem put_srt (o : KOrd lt) {L : List (κ × ν)} (s : Srt lt L) (k : κ) (v : ν) : Srt lt (putL lt L k v) := by
  unfold putL
  cases h : look lt L k with
  | none =>
    show Srt lt (L.take _ ++ [(k, v)] ++ L.drop _)
    have sp : Srt lt (L.take (rk lt L k) ++ L.drop (rk lt L k)) := by rw [List.take_append_drop]; exact s
    obtain ⟨s1, s2, s3⟩ := List.pairwise_append.1 sp
    unfold Srt
    rw [List.append_assoc]
    refine List.pairwise_append.2 ⟨s1, ?_, ?_⟩
    · exact List.pairwise_cons.2 ⟨fun x hx => rk_gt o s k h x hx, s2⟩
    · intro x hx y hy
      rcases List.mem_append.1 hy with hy | hy
      · rw [List.mem_singleton.1 hy]; exact rk_lt k x hx
      · exact s3 x hx y hy
  | some u =>
    have hg := look_some h
    have hlt := (List.getElem?_eq_some_iff.1 hg).1
    have he := (List.getElem?_eq_some_iff.1 hg).2
    show Srt lt (L.set _ _)
    refine List.pairwise_iff_getElem.2 fun i j hi hj hij => ?_
    simp only [List.length_set] at hi hj
    have := List.pairwise_iff_getElem.1 s i j hi hj hij
    simp only [List.getElem_set]
    split
    · rename_i e
      have ne : ¬ rk lt L k = j := by omega
      rw [if_neg ne]
      subst e
      rw [he] at this
      exact this
    · split
      · rename_i e
        subst e
        rw [he] at this
        exact this
      · exact this
theorem put_mem (o : KOrd lt) {L : List (κ × ν)} (s : Srt lt L) (k : κ) (v : ν) (x : κ × ν) : x ∈ putL lt L k v ↔ x = (k, v) ∨ (x ∈ L ∧ x.1 ≠ k) := by
  unfold putL
  cases h : look lt L k with
  | none =>
    show x ∈ L.take _ ++ [(k, v)] ++ L.drop _ ↔ _
    have hn := (look_none o s k).1 h
    have e : x ∈ L ↔ x ∈ L.take (rk lt L k) ∨ x ∈ L.drop (rk lt L k) := by rw [← List.mem_append, List.take_append_drop]
    simp only [List.mem_append, List.mem_singleton]
    constructor
    · rintro ((h1 | h1) | h1)
      · exact .inr ⟨e.2 (.inl h1), fun h2 => hn x.2 (by rw [← h2]; exact e.2 (.inl h1))⟩
      · exact .inl h1
      · exact .inr ⟨e.2 (.inr h1), fun h2 => hn x.2 (by rw [← h2]; exact e.2 (.inr h1))⟩
    · rintro (h1 | ⟨h1, _⟩)
      · exact .inl (.inr h1)
      · rcases e.1 h1 with h2 | h2
        · exact .inl (.inl h2)
        · exact .inr h2
  | some u =>
    have hg := look_some h
    obtain ⟨hlt, he⟩ := List.getElem?_eq_some_iff.1 hg
    show x ∈ L.set _ _ ↔ _
    constructor
    · intro hx
      obtain ⟨i, hi, e⟩ := List.mem_iff_getElem.1 hx
      rw [List.getElem_set] at e
      split at e
      · exact .inl e.symm
      · rename_i hne
        rw [List.length_set] at hi
        refine .inr ⟨by rw [← e]; exact List.getElem_mem _, fun h2 => hne ?_⟩
        have hxi : L[i]? = some (k, x.2) := by rw [List.getElem?_eq_getElem hi, e, ← h2]
        have := (look_mem o s k x.2).2 (List.mem_of_getElem? hxi)
        rcases Nat.lt_trichotomy i (rk lt L k) with hij | hij | hij
        · have hp := List.pairwise_iff_getElem.1 s i _ hi hlt hij
          rw [he, e, h2, o.irr] at hp
          cases hp
        · exact hij.symm
        · have hp := List.pairwise_iff_getElem.1 s _ i hlt hi hij
          rw [he, e, h2, o.irr] at hp
          cases hp
    · rintro (rfl | ⟨h1, h2⟩)
      · exact List.mem_iff_getElem.2 ⟨rk lt L k, by rw [List.length_set]; exact hlt, by rw [List.getElem_set]; simp⟩
      · obtain ⟨i, hi, e⟩ := List.mem_iff_getElem.1 h1
        have hne : ¬ rk lt L k = i := fun h3 => by subst h3; rw [he] at e; rw [← e] at h2; exact h2 rfl
        exact List.mem_iff_getElem.2 ⟨i, by rw [List.length_set]; exact hi, by rw [List.getElem_set, if_neg hne]; exact e⟩
theorem put_look (o : KOrd lt) {L : List (κ × ν)} (s : Srt lt L) (k : κ) (v : ν) (k' : κ) : look lt (putL lt L k v) k' = if k' = k then some v else look lt L k' := by
  split
  · rename_i e
    rw [look_mem o (put_srt o s k v), put_mem o s]
    exact .inl (by rw [e])
  · rename_i e
    cases h : look lt L k' with
    | some u =>
      rw [look_mem o (put_srt o s k v), put_mem o s]
      exact .inr ⟨(look_mem o s k' u).1 h, e⟩
    | none =>
      rw [look_none o (put_srt o s k v)]
      intro u hu
      rcases (put_mem o s k v _).1 hu with h1 | ⟨h1, _⟩
      · exact e (congrArg Prod.fst h1)
      · exact (look_none o s k').1 h u h1
theorem del_srt {L : List (κ × ν)} (s : Srt lt L) (k : κ) : Srt lt (delL lt L k) := by
  unfold delL
  cases h : look lt L k with
  | none => exact s
  | some u =>
    show Srt lt (L.take _ ++ L.drop _)
    have sp : Srt lt (L.take (rk lt L k) ++ L.drop (rk lt L k)) := by rw [List.take_append_drop]; exact s
    obtain ⟨s1, s2, s3⟩ := List.pairwise_append.1 sp
    have hd : L.drop (rk lt L k + 1) = (L.drop (rk lt L k)).drop 1 := by rw [List.drop_drop]
    refine List.pairwise_append.2 ⟨s1, ?_, fun x hx y hy => s3 x hx y ?_⟩
    · rw [hd]; exact s2.sublist (List.drop_sublist _ _)
    · rw [hd] at hy; exact List.mem_of_mem_drop hy
theorem del_mem (o : KOrd lt) {L : List (κ × ν)} (s : Srt lt L) (k : κ) (x : κ × ν) : x ∈ delL lt L k ↔ x ∈ L ∧ x.1 ≠ k := by
  unfold delL
  cases h : look lt L k with
  | none =>
    have hn := (look_none o s k).1 h
    exact ⟨fun hx => ⟨hx, fun h2 => hn x.2 (by rw [← h2]; exact hx)⟩, fun hx => hx.1⟩
  | some u =>
    have hg := look_some h
    obtain ⟨hlt, he⟩ := List.getElem?_eq_some_iff.1 hg
    show x ∈ L.take _ ++ L.drop _ ↔ _
    have eL : L = L.take (rk lt L k) ++ (k, u) :: L.drop (rk lt L k + 1) := by
      have := List.drop_eq_getElem_cons hlt
      rw [he] at this
      rw [← this, List.take_append_drop]
    have sp : Srt lt (L.take (rk lt L k) ++ (k, u) :: L.drop (rk lt L k + 1)) := by rw [← eL]; exact s
    obtain ⟨_, s2, s3⟩ := List.pairwise_append.1 sp
    have s4 := (List.pairwise_cons.1 s2).1
    have emem : x ∈ L ↔ x ∈ L.take (rk lt L k) ∨ x = (k, u) ∨ x ∈ L.drop (rk lt L k + 1) := by
      rw [← List.mem_cons, ← List.mem_append, ← eL]
    rw [List.mem_append]
    constructor
    · rintro (h1 | h1)
      · refine ⟨emem.2 (.inl h1), fun h2 => ?_⟩
        have := s3 x h1 (k, u) (by simp)
        rw [h2, o.irr] at this; cases this
      · refine ⟨emem.2 (.inr (.inr h1)), fun h2 => ?_⟩
        have := s4 x h1
        rw [h2, o.irr] at this; cases this
    · rintro ⟨h1, h2⟩
      rcases emem.1 h1 with h3 | h3 | h3
      · exact .inl h3
      · rw [h3] at h2; exact absurd rfl h2
      · exact .inr h3
theorem del_look (o : KOrd lt) {L : List (κ × ν)} (s : Srt lt L) (k k' : κ) : look lt (delL lt L k) k' = if k' = k then none else look lt L k' := by
  split
  · rename_i e
    rw [look_none o (del_srt s k)]
    intro u hu
    exact ((del_mem o s k _).1 hu).2 e
  · rename_i e
    cases h : look lt L k' with
    | some u =>
      rw [look_mem o (del_srt s k), del_mem o s]
      exact ⟨(look_mem o s k' u).1 h, e⟩
    | none =>
      rw [look_none o (del_srt s k)]
      intro u hu
      exact (look_none o s k').1 h u ((del_mem o s k _).1 hu).1
theorem put_length {L : List (κ × ν)} (k : κ) (v : ν) : (putL lt L k v).length = if look lt L k = none then L.length + 1 else L.length := by
  have := rk_le (lt := lt) L k
  unfold putL
  cases h : look lt L k with
  | none => simp; omega
  | some u => simp
theorem del_length {L : List (κ × ν)} (k : κ) : (delL lt L k).length = if look lt L k = none then L.length else L.length - 1 := by
  unfold delL
  cases h : look lt L k with
  | none => simp
  | some u =>
    have hg := look_some h
    obtain ⟨hlt, _⟩ := List.getElem?_eq_some_iff.1 hg
    simp
    omega
end
theorem ret_bool {a b : Bool} (h : a = b) : Ending.returned (.bool a) = .returned (.bool b) := by rw [h]
theorem ret_int {k : IntKind} {a b : Int} (h : a = b) : Ending.returned (.int k a) = .returned (.int k b) := by rw [h]
def ltZ (a b : Int) : Bool := decide (a < b)
theorem ordZ : KOrd ltZ := ⟨fun a => by simp [ltZ], fun {a b c} h1 h2 => by simp [ltZ] at *; omega, fun {a b} h1 h2 => by simp [ltZ] at *; omega⟩
/-- What stands at an index. -/
def atO (α : Type) (L : List α) (i : Int) : Option α := if 0 ≤ i then L[i.toNat]? else none
end Go.Proofs.Ytiidkehcfoajeaa
