/- The plain law of a sorted list of keys with values. No program in sight. -/
import Derived.Test.YtemjnppplmankaaRows
import Derived.Test.YtemjnppplmankaaBd3
import Derived.Deep.CutBlock
import Derived.Deep.DeepCutAuto
set_option linter.unusedVariables false
set_option linter.unusedSimpArgs false
namespace Go.Proofs.Ytemjnppplmankaa

structure KOrd {κ : Type} (lt : κ → κ → Bool) : Prop where
  irr : ∀ a, lt a a = false
  trn : ∀ {a b c}, lt a b = true → lt b c = true → lt a c = true
  tri : ∀ {a b}, lt a b = false → lt b a = false → a = b
section
variable {κ ν : Type} {lt : κ → κ → Bool}
def Srt (lt : κ → κ → Bool) (L : List (κ × ν)) : Prop := L.Pairwise (fun x y => lt x.1 y.1 = true)
/-- How many keys are less. -/
def rk (lt : κ → κ → Bool) : List (κ × ν) → κ → Nat
  | [], _ => 0
  | x :: L, k => if lt x.1 k = true then rk lt L k + 1 else 0
theorem rk_le (L : List (κ × ν)) (k : κ) : rk lt L k ≤ L.length := by
  induction L with
  | nil => exact Nat.le_refl _
  | cons x L ih => simp only [rk, List.length_cons]; split <;> omega
theorem rk_lo (L : List (κ × ν)) (k : κ) : ∀ j x, j < rk lt L k → L[j]? = some x → lt x.1 k = true := by
  induction L with
  | nil => intro j x h; simp [rk] at h
  | cons y L ih =>
    intro j x h hx
    simp only [rk] at h
    split at h
    · cases j with
      | zero => simp at hx; subst hx; assumption
      | succ j => exact ih j x (by omega) (by simpa using hx)
    · omega
theorem rk_hi (o : KOrd lt) {L : List (κ × ν)} (s : Srt lt L) (k : κ) : ∀ j x, rk lt L k ≤ j → L[j]? = some x → lt x.1 k = false := by
  induction L with
  | nil => intro j x _ hx; simp at hx
  | cons y L ih =>
    intro j x h hx
    obtain ⟨s1, s2⟩ := List.pairwise_cons.1 s
    simp only [rk] at h
    split at h
    · cases j with
      | zero => omega
      | succ j => exact ih s2 j x (by omega) (by simpa using hx)
    · rename_i hy
      cases j with
      | zero => simp at hx; subst hx; simpa using hy
      | succ j =>
        have hm : x ∈ L := List.mem_of_getElem? (by simpa using hx)
        cases e : lt x.1 k with
        | false => rfl
        | true => exact absurd (o.trn (s1 x hm) e) hy
theorem rk_uniq (o : KOrd lt) {L : List (κ × ν)} (s : Srt lt L) (k : κ) (r : Nat) (hr : r ≤ L.length) (h1 : ∀ j x, j < r → L[j]? = some x → lt x.1 k = true) (h2 : ∀ j x, r ≤ j → L[j]? = some x → lt x.1 k = false) : r = rk lt L k := by
  have hl := rk_le (lt := lt) L k
  rcases Nat.lt_trichotomy r (rk lt L k) with h | h | h
  · have e := rk_lo (lt := lt) L k r _ h (List.getElem?_eq_getElem (show r < L.length by omega))
    rw [h2 r _ (Nat.le_refl _) (List.getElem?_eq_getElem (show r < L.length by omega))] at e
    cases e
  · exact h
  · have e := rk_hi o s k (rk lt L k) _ (Nat.le_refl _) (List.getElem?_eq_getElem (show rk lt L k < L.length by omega))
    rw [h1 _ _ h (List.getElem?_eq_getElem (show rk lt L k < L.length by omega))] at e
    cases e

theorem rk_lt {L : List (κ × ν)} (k : κ) : ∀ x ∈ L.take (rk lt L k), lt x.1 k = true := by
  intro x hx
  obtain ⟨j, hj, e⟩ := List.mem_take_iff_getElem.1 hx
  exact rk_lo L k j x (by omega) (by rw [List.getElem?_eq_getElem (by omega), e])
theorem mono_lo (o : KOrd lt) {L : List (κ × ν)} (s : Srt lt L) {k : κ} {m : Nat} {x : κ × ν} (hx : L[m]? = some x) (h : lt x.1 k = true) : ∀ j y, j < m + 1 → L[j]? = some y → lt y.1 k = true := by
  intro j y hj hy
  obtain ⟨hm, em⟩ := List.getElem?_eq_some_iff.1 hx
  obtain ⟨hjl, ej⟩ := List.getElem?_eq_some_iff.1 hy
  rcases Nat.eq_or_lt_of_le (show j ≤ m by omega) with e | e
  · subst e; rw [hx] at hy; rw [← Option.some.inj hy]; exact h
  · have := List.pairwise_iff_getElem.1 s j m hjl hm e
    rw [em, ej] at this
    exact o.trn this h
theorem mono_hi (o : KOrd lt) {L : List (κ × ν)} (s : Srt lt L) {k : κ} {m : Nat} {x : κ × ν} (hx : L[m]? = some x) (h : lt x.1 k = false) : ∀ j y, m ≤ j → L[j]? = some y → lt y.1 k = false := by
  intro j y hj hy
  cases e : lt y.1 k with
  | false => rfl
  | true =>
    have := mono_lo o s hy e m x (by omega) hx
    rw [h] at this
    cases this
theorem up_hi (o : KOrd lt) {L : List (κ × ν)} (s : Srt lt L) {k : κ} {m : Nat} {x : κ × ν} (hx : L[m]? = some x) (h : lt k x.1 = true) : ∀ j y, m ≤ j → L[j]? = some y → lt k y.1 = true := by
  intro j y hj hy
  obtain ⟨hm, em⟩ := List.getElem?_eq_some_iff.1 hx
  obtain ⟨hjl, ej⟩ := List.getElem?_eq_some_iff.1 hy
  rcases Nat.eq_or_lt_of_le hj with e | e
  · subst e; rw [hx] at hy; rw [← Option.some.inj hy]; exact h
  · have := List.pairwise_iff_getElem.1 s m j hm hjl e
    rw [em, ej] at this
    exact o.trn h this
theorem up_lo (o : KOrd lt) {L : List (κ × ν)} (s : Srt lt L) {k : κ} {m : Nat} {x : κ × ν} (hx : L[m]? = some x) (h : lt k x.1 = false) : ∀ j y, j < m + 1 → L[j]? = some y → lt k y.1 = false := by
  intro j y hj hy
  cases e : lt k y.1 with
  | false => rfl
  | true =>
    have := up_hi o s hy e m x (by omega) hx
    rw [h] at this
    cases this
variable [DecidableEq κ]
/-- The value of a key. -/
def look (lt : κ → κ → Bool) (L : List (κ × ν)) (k : κ) : Option ν := match L[rk lt L k]? with
  | some x => if x.1 = k then some x.2 else none
  | none => none
theorem look_some {L : List (κ × ν)} {k : κ} {v : ν} (h : look lt L k = some v) : L[rk lt L k]? = some (k, v) := by
  unfold look at h
  split at h
  · rename_i x hx
    split at h
    · rename_i e
      obtain rfl := Option.some.inj h
      rw [hx, ← e]
    · cases h
  · cases h
theorem look_mem (o : KOrd lt) {L : List (κ × ν)} (s : Srt lt L) (k : κ) (v : ν) : look lt L k = some v ↔ (k, v) ∈ L := by
  constructor
  · intro h
    exact List.mem_of_getElem? (look_some h)
  · intro h
    obtain ⟨i, hi, e⟩ := List.mem_iff_getElem.1 h
    have he : L[i]? = some (k, v) := by rw [List.getElem?_eq_getElem hi, e]
    have hr : i = rk lt L k := by
      refine rk_uniq o s k i (by omega) (fun j x hj hx => ?_) (fun j x hj hx => ?_)
      · have hjl := (List.getElem?_eq_some_iff.1 hx).1
        have := List.pairwise_iff_getElem.1 s j i hjl hi hj
        rw [e] at this
        rw [← (List.getElem?_eq_some_iff.1 hx).2]
        exact this
      · rcases Nat.eq_or_lt_of_le hj with hj | hj
        · subst hj; rw [he] at hx; rw [← Option.some.inj hx]; exact o.irr k
        · have hjl := (List.getElem?_eq_some_iff.1 hx).1
          have h1 := List.pairwise_iff_getElem.1 s i j hi hjl hj
          rw [e, (List.getElem?_eq_some_iff.1 hx).2] at h1
          cases e2 : lt x.1 k with
          | false => rfl
          | true => have := o.trn h1 e2; rw [o.irr] at this; cases this
    unfold look
    rw [← hr, he]
    simp
theorem look_none (o : KOrd lt) {L : List (κ × ν)} (s : Srt lt L) (k : κ) : look lt L k = none ↔ ∀ v, (k, v) ∉ L := by
  constructor
  · intro h v hm
    rw [(look_mem o s k v).2 hm] at h
    cases h
  · intro h
    cases e : look lt L k with
    | none => rfl
    | some v => exact absurd ((look_mem o s k v).1 e) (h v)

/-- How many keys are not greater. -/
def up (lt : κ → κ → Bool) (L : List (κ × ν)) (k : κ) : Nat := rk lt L k + if look lt L k = none then 0 else 1
theorem up_uniq (o : KOrd lt) {L : List (κ × ν)} (s : Srt lt L) (k : κ) (r : Nat) (hr : r ≤ L.length) (h1 : ∀ j x, j < r → L[j]? = some x → lt k x.1 = false) (h2 : ∀ j x, r ≤ j → L[j]? = some x → lt k x.1 = true) : r = up lt L k := by
  unfold up
  cases h : look lt L k with
  | none =>
    have hn := (look_none o s k).1 h
    simp only [if_true, Nat.add_zero]
    refine rk_uniq o s k r hr (fun j x hj hx => ?_) (fun j x hj hx => ?_)
    · cases e : lt x.1 k with
      | true => rfl
      | false => exact absurd (by rw [← o.tri e (h1 j x hj hx)]; exact List.mem_of_getElem? hx) (hn x.2)
    · cases e : lt x.1 k with
      | false => rfl
      | true => have := o.trn e (h2 j x hj hx); rw [o.irr] at this; cases this
  | some u =>
    have hg := look_some h
    obtain ⟨hlt, he⟩ := List.getElem?_eq_some_iff.1 hg
    rw [if_neg (by simp)]
    rcases Nat.lt_trichotomy r (rk lt L k + 1) with h3 | h3 | h3
    · have := h2 (rk lt L k) _ (by omega) hg
      rw [o.irr] at this; cases this
    · exact h3
    · have hl : rk lt L k + 1 < L.length := by omega
      have := List.pairwise_iff_getElem.1 s (rk lt L k) (rk lt L k + 1) hlt hl (by omega)
      rw [he] at this
      rw [h1 (rk lt L k + 1) _ h3 (List.getElem?_eq_getElem hl)] at this
      cases this
def putL (lt : κ → κ → Bool) (L : List (κ × ν)) (k : κ) (v : ν) : List (κ × ν) := match look lt L k with
  | some _ => L.set (rk lt L k) (k, v)
  | none => L.take (rk lt L k) ++ [(k, v)] ++ L.drop (rk lt L k)
def delL (lt : κ → κ → Bool) (L : List (κ × ν)) (k : κ) : List (κ × ν) := match look lt L k with
  | some _ => L.take (rk lt L k) ++ L.drop (rk lt L k + 1)
  | none => L
/-- What stands behind an absent key's place is greater. -/
theorem rk_gt (o : KOrd lt) {L : List (κ × ν)} (s : Srt lt L) (k : κ) (h : look lt L k = none) : ∀ x ∈ L.drop (rk lt L k), lt k x.1 = true := by
  intro x hx
  obtain ⟨j, hj, e⟩ := List.mem_iff_getElem.1 hx
  have hx' : L[rk lt L k + j]? = some x := by
    rw [← List.getElem?_drop, List.getElem?_eq_getElem hj, e]
  have h1 := rk_hi o s k _ x (by omega) hx'
  cases e2 : lt k x.1 with
  | true => rfl
  | false =>
    have e3 : x.1 = k := o.tri h1 e2
    exact absurd (by rw [← e3]; exact List.mem_of_getElem? hx') ((look_none o s k).1 h x.2)
theorem put_srt (o : KOrd lt) {L : List (κ × ν)} (s : Srt lt L) (k : κ) (v : ν) : Srt lt (putL lt L k v) := by
  unfold putL
  cases h : look lt L k with
  | none =>
    show Srt lt (L.take _ ++ [(k, v)] ++ L.drop _)
    have sp : Srt lt (L.take (rk lt L k) ++ L.drop (rk lt L k)) := by rw [List.take_append_drop]; exact s
    obtain ⟨s1, s2, s3⟩ := List.pairwise_append.1 sp
    unfold Srt
    rw [List.append_assoc]
    refine List.pairwise_append.2 ⟨s1, ?_, ?_⟩
    · exact List.pairwise_cons.2 ⟨fun x hx => rk_gt o s k h x hx, s2⟩
    · intro x hx y hy
      rcases List.mem_append.1 hy with hy | hy
      · rw [List.mem_singleton.1 hy]; exact rk_lt k x hx
      · exact s3 x hx y hy
  | some u =>
    have hg := look_some h
    have hlt := (List.getElem?_eq_some_iff.1 hg).1
    have he := (List.getElem?_eq_some_iff.1 hg).2
    show Srt lt (L.set _ _)
    refine List.pairwise_iff_getElem.2 fun i j hi hj hij => ?_
    simp only [List.length_set] at hi hj
    have := List.pairwise_iff_getElem.1 s i j hi hj hij
    simp only [List.getElem_set]
    split
    · rename_i e
      have ne : ¬ rk lt L k = j := by omega
      rw [if_neg ne]
      subst e
      rw [he] at this
      exact this
    · split
      · rename_i e
        subst e
        rw [he] at this
        exact this
      · exact this
theorem put_mem (o : KOrd lt) {L : List (κ × ν)} (s : Srt lt L) (k : κ) (v : ν) (x : κ × ν) : x ∈ putL lt L k v ↔ x = (k, v) ∨ (x ∈ L ∧ x.1 ≠ k) := by
  unfold putL
  cases h : look lt L k with
  | none =>
    show x ∈ L.take _ ++ [(k, v)] ++ L.drop _ ↔ _
    have hn := (look_none o s k).1 h
    have e : x ∈ L ↔ x ∈ L.take (rk lt L k) ∨ x ∈ L.drop (rk lt L k) := by rw [← List.mem_append, List.take_append_drop]
    simp only [List.mem_append, List.mem_singleton]
    constructor
    · rintro ((h1 | h1) | h1)
      · exact .inr ⟨e.2 (.inl h1), fun h2 => hn x.2 (by rw [← h2]; exact e.2 (.inl h1))⟩
      · exact .inl h1
      · exact .inr ⟨e.2 (.inr h1), fun h2 => hn x.2 (by rw [← h2]; exact e.2 (.inr h1))⟩
    · rintro (h1 | ⟨h1, _⟩)
      · exact .inl (.inr h1)
      · rcases e.1 h1 with h2 | h2
        · exact .inl (.inl h2)
        · exact .inr h2
  | some u =>
    have hg := look_some h
    obtain ⟨hlt, he⟩ := List.getElem?_eq_some_iff.1 hg
    show x ∈ L.set _ _ ↔ _
    constructor
    · intro hx
      obtain ⟨i, hi, e⟩ := List.mem_iff_getElem.1 hx
      rw [List.getElem_set] at e
      split at e
      · exact .inl e.symm
      · rename_i hne
        rw [List.length_set] at hi
        refine .inr ⟨by rw [← e]; exact List.getElem_mem _, fun h2 => hne ?_⟩
        have hxi : L[i]? = some (k, x.2) := by rw [List.getElem?_eq_getElem hi, e, ← h2]
        have := (look_mem o s k x.2).2 (List.mem_of_getElem? hxi)
        rcases Nat.lt_trichotomy i (rk lt L k) with hij | hij | hij
        · have hp := List.pairwise_iff_getElem.1 s i _ hi hlt hij
          rw [he, e, h2, o.irr] at hp
          cases hp
        · exact hij.symm
        · have hp := List.pairwise_iff_getElem.1 s _ i hlt hi hij
          rw [he, e, h2, o.irr] at hp
          cases hp
    · rintro (rfl | ⟨h1, h2⟩)
      · exact List.mem_iff_getElem.2 ⟨rk lt L k, by rw [List.length_set]; exact hlt, by rw [List.getElem_set]; simp⟩
      · obtain ⟨i, hi, e⟩ := List.mem_iff_getElem.1 h1
        have hne : ¬ rk lt L k = i := fun h3 => by subst h3; rw [he] at e; rw [← e] at h2; exact h2 rfl
        exact List.mem_iff_getElem.2 ⟨i, by rw [List.length_set]; exact hi, by rw [List.getElem_set, if_neg hne]; exact e⟩
theorem put_look (o : KOrd lt) {L : List (κ × ν)} (s : Srt lt L) (k : κ) (v : ν) (k' : κ) : look lt (putL lt L k v) k' = if k' = k then some v else look lt L k' := by
  split
  · rename_i e
    rw [look_mem o (put_srt o s k v), put_mem o s]
    exact .inl (by rw [e])
  · rename_i e
    cases h : look lt L k' with
    | some u =>
      rw [look_mem o (put_srt o s k v), put_mem o s]
      exact .inr ⟨(look_mem o s k' u).1 h, e⟩
    | none =>
      rw [look_none o (put_srt o s k v)]
      intro u hu
      rcases (put_mem o s k v _).1 hu with h1 | ⟨h1, _⟩
      · exact e (congrArg Prod.fst h1)
      · exact (look_none o s k').1 h u h1
theorem del_srt {L : List (κ × ν)} (s : Srt lt L) (k : κ) : Srt lt (delL lt L k) := by
  unfold delL
  cases h : look lt L k with
  | none => exact s
  | some u =>
    show Srt lt (L.take _ ++ L.drop _)
    have sp : Srt lt (L.take (rk lt L k) ++ L.drop (rk lt L k)) := by rw [List.take_append_drop]; exact s
    obtain ⟨s1, s2, s3⟩ := List.pairwise_append.1 sp
    have hd : L.drop (rk lt L k + 1) = (L.drop (rk lt L k)).drop 1 := by rw [List.drop_drop]
    refine List.pairwise_append.2 ⟨s1, ?_, fun x hx y hy => s3 x hx y ?_⟩
    · rw [hd]; exact s2.sublist (List.drop_sublist _ _)
    · rw [hd] at hy; exact List.mem_of_mem_drop hy
theorem del_mem (o : KOrd lt) {L : List (κ × ν)} (s : Srt lt L) (k : κ) (x : κ × ν) : x ∈ delL lt L k ↔ x ∈ L ∧ x.1 ≠ k := by
  unfold delL
  cases h : look lt L k with
  | none =>
    have hn := (look_none o s k).1 h
    exact ⟨fun hx => ⟨hx, fun h2 => hn x.2 (by rw [← h2]; exact hx)⟩, fun hx => hx.1⟩
  | some u =>
    have hg := look_some h
    obtain ⟨hlt, he⟩ := List.getElem?_eq_some_iff.1 hg
    show x ∈ L.take _ ++ L.drop _ ↔ _
    have eL : L = L.take (rk lt L k) ++ (k, u) :: L.drop (rk lt L k + 1) := by
      have := List.drop_eq_getElem_cons hlt
      rw [he] at this
      rw [← this, List.take_append_drop]
    have sp : Srt lt (L.take (rk lt L k) ++ (k, u) :: L.drop (rk lt L k + 1)) := by rw [← eL]; exact s
    obtain ⟨_, s2, s3⟩ := List.pairwise_append.1 sp
    have s4 := (List.pairwise_cons.1 s2).1
    have emem : x ∈ L ↔ x ∈ L.take (rk lt L k) ∨ x = (k, u) ∨ x ∈ L.drop (rk lt L k + 1) := by
      rw [← List.mem_cons, ← List.mem_append, ← eL]
    rw [List.mem_append]
    constructor
    · rintro (h1 | h1)
      · refine ⟨emem.2 (.inl h1), fun h2 => ?_⟩
        have := s3 x h1 (k, u) (by simp)
        rw [h2, o.irr] at this; cases this
      · refine ⟨emem.2 (.inr (.inr h1)), fun h2 => ?_⟩
        have := s4 x h1
        rw [h2, o.irr] at this; cases this
    · rintro ⟨h1, h2⟩
      rcases emem.1 h1 with h3 | h3 | h3
      · exact .inl h3
      · rw [h3] at h2; exact absurd rfl h2
      · exact .inr h3
theorem del_look (o : KOrd lt) {L : List (κ × ν)} (s : Srt lt L) (k k' : κ) : look lt (delL lt L k) k' = if k' = k then none else look lt L k' := by
  split
  · rename_i e
    rw [look_none o (del_srt s k)]
    intro u hu
    exact ((del_mem o s k _).1 hu).2 e
  · rename_i e
    cases h : look lt L k' with
    | some u =>
      rw [look_mem o (del_srt s k), del_mem o s]
      exact ⟨(look_mem o s k' u).1 h, e⟩
    | none =>
      rw [look_none o (del_srt s k)]
      intro u hu
      exact (look_none o s k').1 h u ((del_mem o s k _).1 hu).1
theorem put_length {L : List (κ × ν)} (k : κ) (v : ν) : (putL lt L k v).length = if look lt L k = none then L.length + 1 else L.length := by
  have := rk_le (lt := lt) L k
  unfold putL
  cases h : look lt L k with
  | none => simp; omega
  | some u => simp
theorem del_length {L : List (κ × ν)} (k : κ) : (delL lt L k).length = if look lt L k = none then L.length else L.length - 1 := by
  unfold delL
  cases h : look lt L k with
  | none => simp
  | some u =>
    have hg := look_some h
    obtain ⟨hlt, _⟩ := List.getElem?_eq_some_iff.1 hg
    simp
    omega
end
theorem ret_bool {a b : Bool} (h : a = b) : Ending.returned (.bool a) = .returned (.bool b) := by rw [h]
theorem ret_int {k : IntKind} {a b : Int} (h : a = b) : Ending.returned (.int k a) = .returned (.int k b) := by rw [h]
def ltZ (a b : Int) : Bool := decide (a < b)
theorem ordZ : KOrd ltZ := ⟨fun a => by simp [ltZ], fun {a b c} h1 h2 => by simp [ltZ] at *; omega, fun {a b} h1 h2 => by simp [ltZ] at *; omega⟩
/-- What stands at an index. -/
def atO (α : Type) (L : List α) (i : Int) : Option α := if 0 ≤ i then L[i.toNat]? else none
end Go.Proofs.Ytemjnppplmankaa

/- An ordered map in memory, and the methods that read it, at keys int and values string. Written from YOma.base by inst.py. -/
set_option linter.unusedVariables false
set_option linter.unusedSimpArgs false
namespace Go.Proofs.Ytemjnppplmankaa
open Go.RowKit
attribute [local go_sem] OvM cell_ovm obj_ovm

abbrev Itis := Int × ByteArray
def kvis (k : Int) : Value := .int .i64 (k)
def vvis (v : ByteArray) : Value := .string (v)
def celis (x : Itis) : List Value := [.int .i64 (x.1), .string (x.2)]
def rowis (L : List Itis) : List Value := L.flatMap celis
theorem row_lenis (L : List Itis) : (rowis L).length = L.length * 2 := by
  induction L with
  | nil => rfl
  | cons x L ih => simp only [rowis, List.flatMap_cons, List.length_append, List.length_cons] at *; rw [ih]; simp [celis]; omega
theorem row_oneis (L : List Itis) : ∀ u ∈ rowis L, u.oneCell' = true := by
  intro u hu
  simp only [rowis, List.mem_flatMap] at hu
  obtain ⟨x, _, hx⟩ := hu
  simp only [celis, List.mem_cons, List.not_mem_nil, or_false] at hx
  rcases hx with rfl | rfl <;> rfl
theorem row_appis (L M : List Itis) : rowis (L ++ M) = rowis L ++ rowis M := by simp [rowis]
theorem row_getis (L : List Itis) : ∀ i x, L[i]? = some x → (rowis L)[i * 2]? = some (.int .i64 (x.1)) ∧ (rowis L)[i * 2 + 1]? = some (.string (x.2)) := by
  induction L with
  | nil => intro i x h; simp at h
  | cons y L ih =>
    intro i x h
    have e : rowis (y :: L) = celis y ++ rowis L := rfl
    rw [e]
    cases i with
    | zero => simp at h; subst h; simp [celis]
    | succ i =>
      have := ih i x (by simpa using h)
      have e1 : (i + 1) * 2 = i * 2 + 2 := by omega
      rw [e1, List.getElem?_append_right (by simp [celis]), List.getElem?_append_right (by simp [celis])]
      simpa [celis, show i * 2 + 2 + 1 - 2 = i * 2 + 1 by omega] using this
theorem row_takeis (L : List Itis) (i : Nat) : (rowis L).take (i * 2) = rowis (L.take i) := by
  induction L generalizing i with
  | nil => simp [rowis]
  | cons y L ih =>
    cases i with
    | zero => simp [rowis]
    | succ i =>
      have e : rowis (y :: L) = celis y ++ rowis L := rfl
      rw [e, show (i + 1) * 2 = 2 + i * 2 by omega, List.take_succ_cons, show rowis (y :: L.take i) = celis y ++ rowis (L.take i) from rfl, ← ih i]
      exact List.take_length_add_append (l₁ := celis y) (l₂ := rowis L) (i * 2)
theorem row_dropis (L : List Itis) (i : Nat) : (rowis L).drop (i * 2) = rowis (L.drop i) := by
  induction L generalizing i with
  | nil => simp [rowis]
  | cons y L ih =>
    cases i with
    | zero => simp [rowis]
    | succ i =>
      have e : rowis (y :: L) = celis y ++ rowis L := rfl
      rw [e, show (i + 1) * 2 = 2 + i * 2 by omega, List.drop_succ_cons, ← ih i]
      exact List.drop_length_add_append (l₁ := celis y) (l₂ := rowis L) (i * 2)

theorem row_setis (L : List Itis) (i : Nat) (k : Int) (v u : ByteArray) (h : L[i]? = some (k, v)) : rowis (L.set i (k, u)) = (rowis L).set (i * 2 + 1) (.string (u)) := by
  induction L generalizing i with
  | nil => simp at h
  | cons y L ih =>
    cases i with
    | zero => simp at h; subst h; rfl
    | succ i =>
      have e : ∀ M, rowis (y :: M) = celis y ++ rowis M := fun _ => rfl
      rw [List.set_cons_succ, e, e, ih i (by simpa using h), show (i + 1) * 2 + 1 = i * 2 + 1 + 2 by omega]
      rfl
/-- A map that was made, in the block b. -/
structure OMis (w : World) (b : Nat) (v : Value) (L : List Itis) : Prop where
  blk : w.heap[b]? = some (.cells #[.bool true, v] 90 (0, 0))
  own : Own w 94 2 v L.length (rowis L)
  ne : v.ownBlock ≠ some b
  srt : Srt ltZ L
/-- What a map's items are: nil where there is no map. -/
def VWis (w : World) (p : Option Addr) (v : Value) (L : List Itis) : Prop :=
  (∃ b, p = some ⟨b, 0, none⟩ ∧ OMis w b v L) ∨ ((p = none ∨ ∃ b, p = some ⟨b, 0, none⟩ ∧ w.heap[b]? = some (.cells #[.bool false, .slice none 0 0] 90 (0, 0))) ∧ v = .slice none 0 0 ∧ L = [])
theorem OMis.gr {w w' : World} {b : Nat} {v : Value} {L : List Itis} (h : OMis w b v L) (g : Gr w w') : OMis w' b v L := ⟨g.blk h.blk, h.own.gr g, h.ne, h.srt⟩
theorem OMis.mdh {F : Nat → Prop} {w w' : World} {b : Nat} {v : Value} {L : List Itis} (h : OMis w b v L) (g : Mdh F w w') (hf : ∀ k, k = b ∨ v.ownBlock = some k → ¬ F k) : OMis w' b v L :=
  ⟨g.blk h.blk (hf b (.inl rfl)), h.own.mdh g (fun k hk => hf k (.inr hk)), h.ne, h.srt⟩
theorem VWis.gr {w w' : World} {p : Option Addr} {v : Value} {L : List Itis} (h : VWis w p v L) (g : Gr w w') : VWis w' p v L := by
  rcases h with ⟨b, e, h⟩ | ⟨h1 | ⟨b, e, h1⟩, h2, h3⟩
  · exact .inl ⟨b, e, h.gr g⟩
  · exact .inr ⟨.inl h1, h2, h3⟩
  · exact .inr ⟨.inr ⟨b, e, g.blk h1⟩, h2, h3⟩
theorem VWis.own {w : World} {p : Option Addr} {v : Value} {L : List Itis} (h : VWis w p v L) : Own w 94 2 v L.length (rowis L) := by
  rcases h with ⟨b, e, h⟩ | ⟨_, rfl, rfl⟩
  · exact h.own
  · exact ⟨rfl, .inl ⟨rfl, rfl⟩⟩
theorem VWis.srt {w : World} {p : Option Addr} {v : Value} {L : List Itis} (h : VWis w p v L) : Srt ltZ L := by
  rcases h with ⟨b, e, h⟩ | ⟨_, rfl, rfl⟩
  · exact h.srt
  · exact List.Pairwise.nil
/-- The cells of an item. -/
theorem VWis.at {w : World} {p : Option Addr} {v : Value} {L : List Itis} (h : VWis w p v L) : ∃ a cap, v = .slice a L.length cap ∧ L.length ≤ cap ∧ cap ≤ maxLen ∧ ∀ i x, L[i]? = some x → ∃ g, a = some ⟨g, 0, none⟩ ∧ g < w.heap.size ∧
    w.cell? ⟨g, i * 2, none⟩ = some (.int .i64 (x.1)) ∧ w.cell? ⟨g, i * 2 + 1, none⟩ = some (.string (x.2)) := by
  have ho := h.own
  rcases ho.2 with ⟨hv, h0⟩ | ⟨g, cap, cur, hv, _, hg, h1, h2, h3, h4⟩
  · have hL : L = [] := List.eq_nil_of_length_eq_zero h0
    subst hL
    exact ⟨none, 0, hv, Nat.le_refl _, by simp [maxLen], fun i x hx => by simp at hx⟩
  · subst hv
    refine ⟨_, cap, rfl, h1, h2, fun i x hx => ⟨g, rfl, blkLt hg, ?_⟩⟩
    have hc := ho.cells (g := g) rfl
    obtain ⟨r1, r2⟩ := row_getis L i x hx
    have hadd : ∀ j, (⟨g, 0, none⟩ : Addr).add j = ⟨g, j, none⟩ := fun j => by unfold Addr.add; split <;> simp_all
    exact ⟨by rw [← hadd]; exact hc _ _ r1, by rw [← hadd]; exact hc _ _ r2⟩

theorem itemsis (p : Option Addr) (v : Value) (L : List Itis) (w : World) (h : VWis w p v L) :
    Calls Try.prog 45 #[.pointer p] w fun e w' => e = .returned v ∧ w = w' := by
  rcases h with ⟨b, rfl, h⟩ | ⟨rfl | ⟨b, rfl, h⟩, rfl, rfl⟩
  · have c0 := ((cellsOf h.blk).1 0).trans (show _ = some (Value.bool true) from rfl)
    have c1 := ((cellsOf h.blk).1 1).trans (show _ = some v from rfl)
    clear h
    go_enter Try.func45, Try.ntmps45
    go_wp2
    go_ret
    exact ⟨rfl, rfl⟩
  · go_enter Try.func45, Try.ntmps45
    go_wp2
    go_ret
    exact ⟨rfl, rfl⟩
  · have c0 := ((cellsOf h).1 0).trans (show _ = some (Value.bool false) from rfl)
    clear h
    go_enter Try.func45, Try.ntmps45
    go_wp2
    go_ret
    exact ⟨rfl, rfl⟩
end Go.Proofs.Ytemjnppplmankaa

/- The methods of an ordered map that read it, at keys int and values string. Written from YOmb.base by inst.py. -/
set_option linter.unusedVariables false
set_option linter.unusedSimpArgs false
namespace Go.Proofs.Ytemjnppplmankaa
open Go.RowKit
attribute [local go_sem] OvM cell_ovm obj_ovm

theorem Rank1is (x : Itis) (k : Int) (bk : Nat) (w : World) (hk : w.cell? ⟨bk, 0, none⟩ = some (.int .i64 (k))) :
    Calls Try.prog 52 #[.agg #[.int .i64 (x.1), .string (x.2)], .pointer (some ⟨bk, 0, none⟩)] w fun e w' => e = .returned (.bool (!ltZ x.1 k)) ∧ Gr w w' := by
  have hb := World.block_lt_of_cell? w ⟨bk, 0, none⟩ hk
  simp only at hb
  obtain ⟨x1, x2⟩ := x
  go_enter Try.func52, Try.ntmps52
  go_wp2
  all_goals
    go_ret
    exact ⟨ret_bool (by rw [Bool.eq_iff_iff]; simp [ltZ]; try omega), by (repeat (first | (with_reducible exact Gr.refl _) | assumption | (with_reducible apply Gr.from_drew) | (with_reducible apply Gr.alloc) | (with_reducible apply Gr.drew) | (with_reducible refine Gr.trans ?_ (by assumption)) | (with_reducible refine Gr.setCell ?_ (by omega) _)))⟩
theorem Floor1is (x : Itis) (k : Int) (bk : Nat) (w : World) (hk : w.cell? ⟨bk, 0, none⟩ = some (.int .i64 (k))) :
    Calls Try.prog 46 #[.agg #[.int .i64 (x.1), .string (x.2)], .pointer (some ⟨bk, 0, none⟩)] w fun e w' => e = .returned (.bool (ltZ k x.1)) ∧ Gr w w' := by
  have hb := World.block_lt_of_cell? w ⟨bk, 0, none⟩ hk
  simp only at hb
  obtain ⟨x1, x2⟩ := x
  go_enter Try.func46, Try.ntmps46
  go_wp2
  all_goals
    go_ret
    exact ⟨ret_bool (by rw [Bool.eq_iff_iff]; simp [ltZ]; try omega), by (repeat (first | (with_reducible exact Gr.refl _) | assumption | (with_reducible apply Gr.from_drew) | (with_reducible apply Gr.alloc) | (with_reducible apply Gr.drew) | (with_reducible refine Gr.trans ?_ (by assumption)) | (with_reducible refine Gr.setCell ?_ (by omega) _)))⟩

set_option maxRecDepth 40000 in
set_option maxHeartbeats 2000000 in
theorem firstRankis (p : Option Addr) (v : Value) (L : List Itis) (k : Int) (bk : Nat) (w : World) (h : VWis w p v L) (hn : L.length ≤ 1000000) (hk : w.cell? ⟨bk, 0, none⟩ = some (.int .i64 (k))) :
    Calls Try.prog 44 #[v, .func (.func 52) #[] #[.pointer (some ⟨bk, 0, none⟩)]] w fun e w' => e = .returned (.int .i64 (rk ltZ L k)) ∧ Gr w w' := by
  obtain ⟨a, cap, rfl, hnc, hcm, hat⟩ := h.at
  have hs := h.srt
  have HAT := Lib.hid hat
  have HS := Lib.hid hs
  have HK := Lib.hid hk
  clear h hat hs hk hcm hnc
  go_enter Try.func44, Try.ntmps44
  go_wp2_with fail
  go_loopw [5, 6] (fun t5 t6 wx => ∃ lo hi : Nat, lo ≤ hi ∧ hi ≤ L.length ∧ t5 = .int .i64 lo ∧ t6 = .int .i64 hi ∧ Hid (Gr w wx ∧ (∀ j x, j < lo → L[j]? = some x → ltZ x.1 k = true) ∧ (∀ j x, hi ≤ j → L[j]? = some x → ltZ x.1 k = false))) (fun t5 t6 _ => (intOf t6).toNat - (intOf t5).toNat)
  case atStart => exact ⟨0, L.length, by omega, by omega, rfl, rfl, Lib.hid ⟨by (repeat (first | (with_reducible exact Gr.refl _) | assumption | (with_reducible apply Gr.from_drew) | (with_reducible apply Gr.alloc) | (with_reducible apply Gr.drew) | (with_reducible refine Gr.trans ?_ (by assumption)) | (with_reducible refine Gr.setCell ?_ (by omega) _))), by omega, fun j x hj hx => by have := (List.getElem?_eq_some_iff.1 hx).1; omega⟩⟩
  case round =>
    obtain ⟨lo, hi, h1, h2, rfl, rfl, H⟩ := hrel
    by_cases hlt : lo < hi
    · have hlt' : (lo : Int) < hi := by omega
      obtain ⟨m, hm⟩ : ∃ m : Nat, m = (lo + hi) / 2 := ⟨_, rfl⟩
      have eM : ((lo : Int) + hi) / 2 = (m : Nat) := by omega
      have hm1 : lo ≤ m := by omega
      have hm2 : m < hi := by omega
      have hmL : m < L.length := by omega
      have hmL' : (m : Int) < L.length := by omega
      have hxm : L[m]? = some (L[m]'hmL) := List.getElem?_eq_getElem hmL
      obtain ⟨g, rfl, hg, c0, c1⟩ := HAT.out m _ hxm
      have d0 := H.out.1.keep c0
      have d1 := H.out.1.keep c1
      have HXM := Lib.hid hxm
      cases e : ltZ (L[m]'hmL).1 k with
      | true =>
        have HE := Lib.hid e
        generalize L[m]'hmL = x at *
        obtain ⟨x1, x2⟩ := x
        simp only at d0 d1
        clear c0 c1 hg hm e hxm hmL
        go_wp2_with (go_at_call 52; refine (Rank1is (x1, x2) k bk _ (H.out.1.keep HK.out)).mono ?_; rintro e2 w1 ⟨rfl, hg1⟩; rw [HE.out])
        go_roundw
        case rel => exact ⟨m + 1, hi, by omega, h2, by go_num, rfl, Lib.hid ⟨H.out.1.trans hg1, mono_lo ordZ HS.out HXM.out HE.out, H.out.2.2⟩⟩
        case measure => simp [intOf]; omega
      | false =>
        have HE := Lib.hid e
        generalize L[m]'hmL = x at *
        obtain ⟨x1, x2⟩ := x
        simp only at d0 d1
        clear c0 c1 hg hm e hxm hmL
        go_wp2_with (go_at_call 52; refine (Rank1is (x1, x2) k bk _ (H.out.1.keep HK.out)).mono ?_; rintro e2 w1 ⟨rfl, hg1⟩; rw [HE.out])
        go_roundw
        case rel => exact ⟨lo, m, by omega, by omega, rfl, rfl, Lib.hid ⟨H.out.1.trans hg1, H.out.2.1, mono_hi ordZ HS.out HXM.out HE.out⟩⟩
        case measure => simp [intOf]; omega
    · have hlt' : ¬ (lo : Int) < hi := by omega
      obtain rfl : lo = hi := by omega
      go_wp2
      go_ret
      exact ⟨by rw [← rk_uniq ordZ HS.out k lo h2 H.out.2.1 H.out.2.2]; rfl, H.out.1⟩
set_option maxRecDepth 40000 in
set_option maxHeartbeats 2000000 in
theorem firstFlooris (p : Option Addr) (v : Value) (L : List Itis) (k : Int) (bk : Nat) (w : World) (h : VWis w p v L) (hn : L.length ≤ 1000000) (hk : w.cell? ⟨bk, 0, none⟩ = some (.int .i64 (k))) :
    Calls Try.prog 44 #[v, .func (.func 46) #[] #[.pointer (some ⟨bk, 0, none⟩)]] w fun e w' => e = .returned (.int .i64 (up ltZ L k)) ∧ Gr w w' := by
  obtain ⟨a, cap, rfl, hnc, hcm, hat⟩ := h.at
  have hs := h.srt
  have HAT := Lib.hid hat
  have HS := Lib.hid hs
  have HK := Lib.hid hk
  clear h hat hs hk hcm hnc
  go_enter Try.func44, Try.ntmps44
  go_wp2_with fail
  go_loopw [5, 6] (fun t5 t6 wx => ∃ lo hi : Nat, lo ≤ hi ∧ hi ≤ L.length ∧ t5 = .int .i64 lo ∧ t6 = .int .i64 hi ∧ Hid (Gr w wx ∧ (∀ j x, j < lo → L[j]? = some x → ltZ k x.1 = false) ∧ (∀ j x, hi ≤ j → L[j]? = some x → ltZ k x.1 = true))) (fun t5 t6 _ => (intOf t6).toNat - (intOf t5).toNat)
  case atStart => exact ⟨0, L.length, by omega, by omega, rfl, rfl, Lib.hid ⟨by (repeat (first | (with_reducible exact Gr.refl _) | assumption | (with_reducible apply Gr.from_drew) | (with_reducible apply Gr.alloc) | (with_reducible apply Gr.drew) | (with_reducible refine Gr.trans ?_ (by assumption)) | (with_reducible refine Gr.setCell ?_ (by omega) _))), by omega, fun j x hj hx => by have := (List.getElem?_eq_some_iff.1 hx).1; omega⟩⟩
  case round =>
    obtain ⟨lo, hi, h1, h2, rfl, rfl, H⟩ := hrel
    by_cases hlt : lo < hi
    · have hlt' : (lo : Int) < hi := by omega
      obtain ⟨m, hm⟩ : ∃ m : Nat, m = (lo + hi) / 2 := ⟨_, rfl⟩
      have eM : ((lo : Int) + hi) / 2 = (m : Nat) := by omega
      have hm1 : lo ≤ m := by omega
      have hm2 : m < hi := by omega
      have hmL : m < L.length := by omega
      have hmL' : (m : Int) < L.length := by omega
      have hxm : L[m]? = some (L[m]'hmL) := List.getElem?_eq_getElem hmL
      obtain ⟨g, rfl, hg, c0, c1⟩ := HAT.out m _ hxm
      have d0 := H.out.1.keep c0
      have d1 := H.out.1.keep c1
      have HXM := Lib.hid hxm
      cases e : ltZ k (L[m]'hmL).1 with
      | false =>
        have HE := Lib.hid e
        generalize L[m]'hmL = x at *
        obtain ⟨x1, x2⟩ := x
        simp only at d0 d1
        clear c0 c1 hg hm e hxm hmL
        go_wp2_with (go_at_call 46; refine (Floor1is (x1, x2) k bk _ (H.out.1.keep HK.out)).mono ?_; rintro e2 w1 ⟨rfl, hg1⟩; rw [HE.out])
        go_roundw
        case rel => exact ⟨m + 1, hi, by omega, h2, by go_num, rfl, Lib.hid ⟨H.out.1.trans hg1, up_lo ordZ HS.out HXM.out HE.out, H.out.2.2⟩⟩
        case measure => simp [intOf]; omega
      | true =>
        have HE := Lib.hid e
        generalize L[m]'hmL = x at *
        obtain ⟨x1, x2⟩ := x
        simp only at d0 d1
        clear c0 c1 hg hm e hxm hmL
        go_wp2_with (go_at_call 46; refine (Floor1is (x1, x2) k bk _ (H.out.1.keep HK.out)).mono ?_; rintro e2 w1 ⟨rfl, hg1⟩; rw [HE.out])
        go_roundw
        case rel => exact ⟨lo, m, by omega, by omega, rfl, rfl, Lib.hid ⟨H.out.1.trans hg1, H.out.2.1, up_hi ordZ HS.out HXM.out HE.out⟩⟩
        case measure => simp [intOf]; omega
    · have hlt' : ¬ (lo : Int) < hi := by omega
      obtain rfl : lo = hi := by omega
      go_wp2
      go_ret
      exact ⟨by rw [← up_uniq ordZ HS.out k lo h2 H.out.2.1 H.out.2.2]; rfl, H.out.1⟩

set_option maxRecDepth 40000 in
theorem Rankis (p : Option Addr) (v : Value) (L : List Itis) (k : Int) (w : World) (h : VWis w p v L) (hn : L.length ≤ 1000000) :
    Calls Try.prog 32 #[.pointer p, .int .i64 (k)] w fun e w' => e = .returned (.int .i64 (rk ltZ L k)) ∧ Gr w w' := by
  have H := Lib.hid h
  clear h
  go_enter Try.func32, Try.ntmps32
  go_wp2_with (first
    | (go_at_call 45; refine (itemsis p v L _ (H.out.gr (by (repeat (first | (with_reducible exact Gr.refl _) | assumption | (with_reducible apply Gr.from_drew) | (with_reducible apply Gr.alloc) | (with_reducible apply Gr.drew) | (with_reducible refine Gr.trans ?_ (by assumption)) | (with_reducible refine Gr.setCell ?_ (by omega) _)))))).mono ?_; rintro e w1 ⟨rfl, rfl⟩)
    | (go_at_call 44; refine (firstRankis p v L k w.heap.size _ (H.out.gr (by (repeat (first | (with_reducible exact Gr.refl _) | assumption | (with_reducible apply Gr.from_drew) | (with_reducible apply Gr.alloc) | (with_reducible apply Gr.drew) | (with_reducible refine Gr.trans ?_ (by assumption)) | (with_reducible refine Gr.setCell ?_ (by omega) _))))) hn (by simp [go_sem])).mono ?_; rintro e w1 ⟨rfl, hg⟩))
  go_ret
  exact ⟨rfl, (Gr.alloc (Gr.refl w) _).trans hg⟩

def hasBis (L : List Itis) (k : Int) : Bool := (look ltZ L k).isSome
theorem hasB_atis {L : List Itis} {k : Int} {x : Itis} (h : L[rk ltZ L k]? = some x) : hasBis L k = decide (x.1 = k) := by
  unfold hasBis look
  rw [h]
  by_cases e : x.1 = k <;> simp [e]
theorem hasB_outis {L : List Itis} {k : Int} (h : L.length ≤ rk ltZ L k) : hasBis L k = false := by
  unfold hasBis look
  rw [List.getElem?_eq_none h]
  rfl

set_option maxRecDepth 40000 in
set_option maxHeartbeats 1000000 in
theorem findis (p : Option Addr) (v : Value) (L : List Itis) (k : Int) (w : World) (h : VWis w p v L) (hn : L.length ≤ 1000000) :
    Calls Try.prog 41 #[.pointer p, .int .i64 (k)] w fun e w' => e = .returned (.tuple #[.int .i64 (rk ltZ L k), .bool (hasBis L k)]) ∧ Gr w w' := by
  have H := Lib.hid h
  obtain ⟨a, cap, rfl, hnc, hcm, hat⟩ := h.at
  have HAT := Lib.hid hat
  clear h hat
  unfold maxLen at hcm
  have hr := rk_le (lt := ltZ) L k
  obtain ⟨r, hrd⟩ : ∃ r, r = rk ltZ L k := ⟨_, rfl⟩
  have HRK := Lib.hid hrd
  rw [← hrd] at hr ⊢
  clear hrd
  go_enter Try.func41, Try.ntmps41
  go_wp2_with fail
  refine (Rankis p _ L k _ H.out hn).mono ?_
  rintro e w1 ⟨rfl, hg⟩
  rw [← HRK.out]
  have H1 := Lib.hid (H.out.gr hg)
  have HG := Lib.hid hg
  clear hg
  go_wp2_with fail
  refine (itemsis p _ L _ H1.out).mono ?_
  rintro e w2 ⟨rfl, rfl⟩
  by_cases hlt : r < L.length
  · obtain ⟨x, hx⟩ : ∃ x, L[r]? = some x := ⟨_, List.getElem?_eq_getElem hlt⟩
    have HB : Hid (hasBis L k = decide (x.1 = k)) := Lib.hid (hasB_atis (by rw [← HRK.out]; exact hx))
    obtain ⟨g, rfl, hg, c0, c1⟩ := HAT.out _ x hx
    have d0 := HG.out.keep c0
    have hlt' : (r : Int) < L.length := by omega
    obtain ⟨x1, x2⟩ := x
    simp only at d0
    clear c0 c1 hg hx
    go_wp2
    refine wp_region_flo (fun _ => False) [] [] (by kernel_rfl) (by kernel_rfl) (fun _ h => h.elim) ?_
    refine flo_seg 16 rfl ?_
    simp only [List.take_succ_cons, List.take_zero, List.drop_succ_cons, List.drop_zero]
    repeat (go_big_quiet_step (fail))
    refine wpQuiet_nil ?_
    refine flo_nil ?_
    go_wp2
    go_ret2
    exact ⟨by rw [HB.out]; rfl, HG.out.drew⟩
  · have HB := Lib.hid (hasB_outis (L := L) (k := k) (by rw [← HRK.out]; omega))
    have hlt' : ¬ (r : Int) < L.length := by omega
    go_wp2
    refine wp_region_flo (fun _ => False) [] [] (by kernel_rfl) (by kernel_rfl) (fun _ h => h.elim) ?_
    refine flo_seg 16 rfl ?_
    simp only [List.take_succ_cons, List.take_zero, List.drop_succ_cons, List.drop_zero]
    repeat (go_big_quiet_step (fail))
    refine wpQuiet_nil ?_
    refine flo_nil ?_
    go_wp2
    go_ret2
    exact ⟨by rw [HB.out]; rfl, HG.out.drew⟩

def lookVis (L : List Itis) (k : Int) : Value := match look ltZ L k with
  | some v => .string (v)
  | none => .string ⟨#[]⟩
set_option maxRecDepth 40000 in
set_option maxHeartbeats 1000000 in
theorem Getis (p : Option Addr) (v : Value) (L : List Itis) (k : Int) (w : World) (h : VWis w p v L) (hn : L.length ≤ 1000000) :
    Calls Try.prog 50 #[.pointer p, .int .i64 (k)] w fun e w' => e = .returned (.tuple #[lookVis L k, .bool (hasBis L k)]) ∧ Gr w w' := by
  have H := Lib.hid h
  clear h
  cases hl : look ltZ L k with
  | none =>
    have HB := Lib.hid (show hasBis L k = false by unfold hasBis; rw [hl]; rfl)
    have HV := Lib.hid (show lookVis L k = .string ⟨#[]⟩ by unfold lookVis; rw [hl])
    clear hl
    rw [HB.out, HV.out]
    go_enter Try.func50, Try.ntmps50
    go_wp2_with fail
    refine (findis p v L k _ H.out hn).mono ?_
    rintro e w1 ⟨rfl, hg⟩
    rw [HB.out]
    go_wp2
    go_ret2
    exact ⟨rfl, hg⟩
  | some u =>
    have HB := Lib.hid (show hasBis L k = true by unfold hasBis; rw [hl]; rfl)
    have HV := Lib.hid (show lookVis L k = .string (u) by unfold lookVis; rw [hl])
    have hg := look_some hl
    have hlt := (List.getElem?_eq_some_iff.1 hg).1
    obtain ⟨b, rfl, hm⟩ : ∃ b, p = some ⟨b, 0, none⟩ ∧ OMis w b v L := by
      rcases H.out with h | ⟨_, _, rfl⟩
      · exact h
      · simp at hg
    obtain ⟨a, cap, rfl, hnc, hcm, hat⟩ := H.out.at
    obtain ⟨g, rfl, hgl, c0, c1⟩ := hat _ _ hg
    have e1 := ((cellsOf hm.blk).1 1).trans (show _ = some (Value.slice (some ⟨g, 0, none⟩) L.length cap) from rfl)
    unfold maxLen at hcm
    clear hl hg hm hat
    rw [HB.out, HV.out]
    go_enter Try.func50, Try.ntmps50
    go_wp2_with fail
    refine (findis _ _ L k _ H.out hn).mono ?_
    rintro e w1 ⟨rfl, hg⟩
    rw [HB.out]
    have f1 := hg.keep e1
    have d1 := hg.keep c1
    generalize rk ltZ L k = r at *
    have hlt' : (r : Int) < L.length := by omega
    (try simp only at d1)
    clear c0 c1 e1 hgl
    go_wp2
    go_ret2
    exact ⟨rfl, hg⟩

theorem Lenis (p : Option Addr) (v : Value) (L : List Itis) (w : World) (h : VWis w p v L) :
    Calls Try.prog 34 #[.pointer p] w fun e w' => e = .returned (.int .i64 L.length) ∧ w = w' := by
  obtain ⟨a, cap, rfl, hnc, hcm, hat⟩ := h.at
  have H := Lib.hid h
  clear h hat
  go_enter Try.func34, Try.ntmps34
  go_wp2_with (go_at_call 45; refine (itemsis p _ L _ H.out).mono ?_; rintro e w1 ⟨rfl, rfl⟩)
  go_ret
  exact ⟨rfl, rfl⟩

def atVis (o : Option Itis) : Value := match o with
  | some x => .tuple #[.int .i64 (x.1), .string (x.2), .bool true]
  | none => .tuple #[.int .i64 0, .string ⟨#[]⟩, .bool false]
set_option maxRecDepth 40000 in
set_option maxHeartbeats 1000000 in
theorem atis (p : Option Addr) (v : Value) (L : List Itis) (i : Int) (w : World) (h : VWis w p v L) :
    Calls Try.prog 43 #[.pointer p, .int .i64 i] w fun e w' => e = .returned (atVis (atO _ L i)) ∧ Gr w w' := by
  obtain ⟨a, cap, rfl, hnc, hcm, hat⟩ := h.at
  have H := Lib.hid h
  have HAT := Lib.hid hat
  clear h hat
  unfold maxLen at hcm
  by_cases hr : 0 ≤ i ∧ i < L.length
  · obtain ⟨I, rfl⟩ := Int.eq_ofNat_of_zero_le hr.1
    have hI : I < L.length := by omega
    have hx : L[I]? = some (L[I]'hI) := List.getElem?_eq_getElem hI
    have HV := Lib.hid (show atO _ L (I : Int) = L[I]? by unfold atO; rw [if_pos hr.1]; simp)
    rw [HV.out, hx]
    obtain ⟨g, rfl, hg, c0, c1⟩ := HAT.out I _ hx
    obtain ⟨_, hlt'⟩ := hr
    have h0 : ¬ (I : Int) < 0 := by omega
    generalize L[I]'hI = x at *
    obtain ⟨x1, x2⟩ := x
    simp only at c0 c1
    clear hx hg hI
    go_enter Try.func43, Try.ntmps43
    go_wp2_with (go_at_call 45; refine (itemsis p _ L _ H.out).mono ?_; rintro e w1 ⟨rfl, rfl⟩)
    refine wp_region_flo (fun _ => False) [] [] (by kernel_rfl) (by kernel_rfl) (fun _ h => h.elim) ?_
    refine flo_seg 13 rfl ?_
    simp only [List.take_succ_cons, List.take_zero, List.drop_succ_cons, List.drop_zero]
    repeat (go_big_quiet_step (fail))
    refine wpQuiet_nil ?_
    refine flo_nil ?_
    go_wp2
    go_ret3
    exact ⟨rfl, (Gr.refl w).drew⟩
  · have HV := Lib.hid (show atO _ L i = none by
      unfold atO
      split
      · exact List.getElem?_eq_none (by omega)
      · rfl)
    rw [HV.out]
    rcases (show i < 0 ∨ (¬ i < 0 ∧ (L.length : Int) ≤ i) by omega) with h1 | ⟨h1, h2⟩
    all_goals
      clear hr
      go_enter Try.func43, Try.ntmps43
      go_wp2_with (go_at_call 45; refine (itemsis p _ L _ H.out).mono ?_; rintro e w1 ⟨rfl, rfl⟩)
      have b0 := blkNew w (.cells #[.int .i64 0, .string ⟨#[]⟩] 94)
      have c0 := ((cellsOf b0).1 0).trans (show _ = some (.int .i64 0) from rfl)
      have c1 := ((cellsOf b0).1 1).trans (show _ = some (.string ⟨#[]⟩) from rfl)
      have hG := Gr.alloc (Gr.refl w) (.cells #[.int .i64 0, .string ⟨#[]⟩] 94)
      generalize w.alloc (.cells #[.int .i64 0, .string ⟨#[]⟩] 94) = w2 at *
      generalize w.heap.size = b2 at *
      clear b0
      refine wp_region_flo (fun _ => False) [] [] (by kernel_rfl) (by kernel_rfl) (fun _ h => h.elim) ?_
      refine flo_seg 7 rfl ?_
      simp only [List.take_succ_cons, List.take_zero, List.drop_succ_cons, List.drop_zero]
      repeat (go_big_quiet_step (fail))
      refine wpQuiet_nil ?_
      refine flo_nil ?_
      go_wp2
      go_ret3
      exact ⟨rfl, hG.drew⟩
end Go.Proofs.Ytemjnppplmankaa

/- The methods of an ordered map at its ends and neighbours, New, Set, Delete, at keys int and values string. Written from YOmc.base by inst.py. -/
set_option linter.unusedVariables false
set_option linter.unusedSimpArgs false
namespace Go.Proofs.Ytemjnppplmankaa
open Go.RowKit
attribute [local go_sem] OvM cell_ovm obj_ovm

theorem atV_formis (o : Option Itis) : ∃ a b c, atVis o = .tuple #[a, b, .bool c] := by
  cases o with
  | none => exact ⟨_, _, _, rfl⟩
  | some x => exact ⟨_, _, _, rfl⟩
set_option maxRecDepth 40000 in
theorem Minis (p : Option Addr) (v : Value) (L : List Itis) (w : World) (h : VWis w p v L) (hn : L.length ≤ 1000000) :
    Calls Try.prog 31 #[.pointer p] w fun e w' => e = .returned (atVis (atO _ L 0)) ∧ Gr w w' := by
  have H := Lib.hid h
  clear h
  obtain ⟨x, y, c, hf⟩ := atV_formis (atO _ L 0)
  have HF := Lib.hid hf
  rw [hf]
  clear hf
  go_enter Try.func31, Try.ntmps31
  go_wp2_with (first
    | (go_at_call 34; refine (Lenis p v L _ H.out).mono ?_; rintro e w1 ⟨rfl, rfl⟩)
    | (go_at_call 43; refine (atis p v L _ _ H.out).mono ?_; rintro e w1 ⟨rfl, hg⟩; rw [HF.out]))
  go_ret3
  exact ⟨rfl, hg⟩
set_option maxRecDepth 40000 in
theorem Ceilis (p : Option Addr) (v : Value) (L : List Itis) (k : Int) (w : World) (h : VWis w p v L) (hn : L.length ≤ 1000000) :
    Calls Try.prog 26 #[.pointer p, .int .i64 (k)] w fun e w' => e = .returned (atVis (L[rk ltZ L k]?)) ∧ Gr w w' := by
  have H := Lib.hid h
  clear h
  obtain ⟨x, y, c, hf⟩ := atV_formis (L[rk ltZ L k]?)
  have HF : Hid (atVis (atO _ L (rk ltZ L k : Nat)) = .tuple #[x, y, .bool c]) := Lib.hid (by rw [← hf]; unfold atO; rw [if_pos (by omega)]; simp)
  rw [hf]
  clear hf
  go_enter Try.func26, Try.ntmps26
  go_wp2_with fail
  refine (Rankis p v L k _ H.out hn).mono ?_
  rintro e w1 ⟨rfl, hg⟩
  have H1 := Lib.hid (H.out.gr hg)
  have HG := Lib.hid hg
  clear hg
  go_wp2_with fail
  refine (atis p v L _ _ H1.out).mono ?_
  rintro e w2 ⟨rfl, hg⟩
  rw [HF.out]
  go_wp2
  go_ret3
  exact ⟨rfl, HG.out.trans hg⟩
set_option maxRecDepth 40000 in
theorem Flooris (p : Option Addr) (v : Value) (L : List Itis) (k : Int) (w : World) (h : VWis w p v L) (hn : L.length ≤ 1000000) :
    Calls Try.prog 25 #[.pointer p, .int .i64 (k)] w fun e w' => e = .returned (atVis (atO _ L ((up ltZ L k : Nat) - 1))) ∧ Gr w w' := by
  have H := Lib.hid h
  clear h
  obtain ⟨x, y, c, hf⟩ := atV_formis (atO _ L ((up ltZ L k : Nat) - 1))
  have HF := Lib.hid hf
  rw [hf]
  clear hf
  have hu : (up ltZ L k : Int) ≤ 1000001 := by
    have := rk_le (lt := ltZ) L k
    have h2 : up ltZ L k ≤ rk ltZ L k + 1 := by unfold up; split <;> omega
    omega
  go_enter Try.func25, Try.ntmps25
  go_wp2_with (first
    | (go_at_call 45; refine (itemsis p v L _ (H.out.gr (by (repeat (first | (with_reducible exact Gr.refl _) | assumption | (with_reducible apply Gr.from_drew) | (with_reducible apply Gr.alloc) | (with_reducible apply Gr.drew) | (with_reducible refine Gr.trans ?_ (by assumption)) | (with_reducible refine Gr.setCell ?_ (by omega) _)))))).mono ?_; rintro e w1 ⟨rfl, rfl⟩)
    | (go_at_call 44; refine (firstFlooris p v L k w.heap.size _ (H.out.gr (by (repeat (first | (with_reducible exact Gr.refl _) | assumption | (with_reducible apply Gr.from_drew) | (with_reducible apply Gr.alloc) | (with_reducible apply Gr.drew) | (with_reducible refine Gr.trans ?_ (by assumption)) | (with_reducible refine Gr.setCell ?_ (by omega) _))))) hn (by simp [go_sem])).mono ?_; rintro e w1 ⟨rfl, hg⟩))
  refine (atis p v L _ _ ((H.out.gr ((Gr.alloc (Gr.refl w) _).trans hg)))).mono ?_
  rintro e w2 ⟨rfl, hg2⟩
  rw [HF.out]
  go_wp2
  go_ret3
  exact ⟨rfl, ((Gr.alloc (Gr.refl w) _).trans hg).trans hg2⟩

def atEis (p : Option Addr) (made : Bool) (o : Option Itis) : Value := match o with
  | some x => .tuple #[.int .i64 (x.1), .string (x.2), .int .i64 0]
  | none => .tuple #[.int .i64 0, .string ⟨#[]⟩, .int .i64 (if made then 3 else 1)]
set_option maxRecDepth 40000 in
theorem Atis (b : Nat) (v : Value) (L : List Itis) (i : Int) (w : World) (h : OMis w b v L) :
    Calls Try.prog 27 #[.pointer (some ⟨b, 0, none⟩), .int .i64 i] w fun e w' => e = .returned (atEis (some ⟨b, 0, none⟩) true (atO _ L i)) ∧ Gr w w' := by
  have H := Lib.hid h
  have c0 := ((cellsOf h.blk).1 0).trans (show _ = some (Value.bool true) from rfl)
  clear h
  cases ho : atO _ L i with
  | none =>
    have HO := Lib.hid ho
    go_enter Try.func27, Try.ntmps27
    go_wp2_with fail
    refine (atis _ v L i _ (.inl ⟨b, rfl, H.out⟩)).mono ?_
    rintro e w1 ⟨rfl, hg⟩
    rw [HO.out]
    have d0 := hg.keep c0
    simp only [atVis]
    go_wp2
    go_ret3
    exact ⟨rfl, hg⟩
  | some x =>
    have HO := Lib.hid ho
    go_enter Try.func27, Try.ntmps27
    go_wp2_with fail
    refine (atis _ v L i _ (.inl ⟨b, rfl, H.out⟩)).mono ?_
    rintro e w1 ⟨rfl, hg⟩
    rw [HO.out]
    have d0 := hg.keep c0
    simp only [atVis]
    go_wp2
    go_ret3
    exact ⟨rfl, hg⟩

set_option maxRecDepth 40000 in
theorem NewOis (w : World) : Calls Try.prog 23 #[] w fun e w' => e = .returned (.pointer (some ⟨w.heap.size, 0, none⟩)) ∧ OMis w' w.heap.size (.slice none 0 0) [] ∧ Gr w w' := by
  go_enter Try.func23, Try.ntmps23
  go_wp2
  go_ret
  exact ⟨rfl, ⟨blkNew _ _, ⟨rfl, .inl ⟨rfl, rfl⟩⟩, (fun h => by cases h), List.Pairwise.nil⟩, by (repeat (first | (with_reducible exact Gr.refl _) | assumption | (with_reducible apply Gr.from_drew) | (with_reducible apply Gr.alloc) | (with_reducible apply Gr.drew) | (with_reducible refine Gr.trans ?_ (by assumption)) | (with_reducible refine Gr.setCell ?_ (by omega) _)))⟩

/-- What Set and Delete leave. -/
def OMPostis (b : Nat) (v : Value) (L' : List Itis) (w w' : World) : Prop := ∃ v', OMis w' b v' L' ∧ (∀ g, v'.ownBlock = some g → v.ownBlock = some g ∨ w.heap.size ≤ g) ∧ Mdh (fun k => k = b ∨ v.ownBlock = some k) w w'

set_option maxRecDepth 40000 in
set_option maxHeartbeats 2000000 in
theorem Setis (b : Nat) (v : Value) (L : List Itis) (k : Int) (u : ByteArray) (w : World) (h : OMis w b v L) (hn : L.length ≤ 100000) :
    Calls Try.prog 24 #[.pointer (some ⟨b, 0, none⟩), .int .i64 (k), .string (u)] w fun e w' => e = .returned (.tuple #[lookVis L k, .bool (hasBis L k), .int .i64 0]) ∧ OMPostis b v (putL ltZ L k u) w w' := by
  have H := Lib.hid h
  have c0 := ((cellsOf h.blk).1 0).trans (show _ = some (Value.bool true) from rfl)
  have hr := rk_le (lt := ltZ) L k
  obtain ⟨r, hrd⟩ : ∃ r, r = rk ltZ L k := ⟨_, rfl⟩
  have HRK := Lib.hid hrd
  rw [← hrd] at hr
  have HSRT := Lib.hid (put_srt ordZ h.srt k u)
  clear h hrd
  cases hl : look ltZ L k with
  | none =>
    have HB := Lib.hid (show hasBis L k = false by unfold hasBis; rw [hl]; rfl)
    have HV := Lib.hid (show lookVis L k = .string ⟨#[]⟩ by unfold lookVis; rw [hl])
    have HP := Lib.hid (show putL ltZ L k u = L.take r ++ [(k, u)] ++ L.drop r by unfold putL; rw [hl, HRK.out])
    rw [HB.out, HV.out]
    clear hl
    go_enter Try.func24, Try.ntmps24
    go_wp2_with fail
    refine (findis _ v L k _ (.inl ⟨b, rfl, H.out⟩) (by omega)).mono ?_
    rintro e w1 ⟨rfl, hg⟩
    rw [HB.out, ← HRK.out]
    have H1 := Lib.hid (H.out.gr hg)
    have HG := Lib.hid hg
    have d1 := ((cellsOf H1.out.blk).1 1).trans (show _ = some v from rfl)
    clear hg c0
    go_wp2_with fail
    refine (Insertis v L.length r (rowis L) [.int .i64 (k), .string (u)] w1.heap.size _ (H1.out.own.gr (by (repeat (first | (with_reducible exact Gr.refl _) | assumption | (with_reducible apply Gr.from_drew) | (with_reducible apply Gr.alloc) | (with_reducible apply Gr.drew) | (with_reducible refine Gr.trans ?_ (by assumption)) | (with_reducible refine Gr.setCell ?_ (by omega) _))))) (row_oneis L) hr (by omega) (blkNew w1 _) rfl (by intro x hx; simp only [List.mem_cons, List.not_mem_nil, or_false] at hx; rcases hx with rfl | rfl <;> rfl) (fun e => by have := H1.out.own.lt e; omega)).mono ?_
    rintro e w2 ⟨g, cap, rfl, ho, hgw, hm⟩
    have HO := Lib.hid ho
    have HM := Lib.hid hm
    have HGW := Lib.hid hgw
    have hb1 : w2.heap[b]? = some (.cells #[.bool true, v] 90 (0, 0)) := hm.blk (blkOld H1.out.blk) (fun e => H1.out.ne e)
    have HB1 := Lib.hid hb1
    have e0 := ((cellsOf hb1).1 0).trans (show _ = some (Value.bool true) from rfl)
    have e1 := ((cellsOf hb1).1 1).trans (show _ = some v from rfl)
    have ef := (cellsOf hb1).2
    have hgb : g ≠ b := by
      have hbl := blkLt H1.out.blk
      rcases hgw with h | h
      · exact fun e => H1.out.ne (by rw [h, e])
      · simp only [World.size_alloc] at h; omega
    have HGB := Lib.hid hgb
    clear ho hm hgw hb1 d1 hgb
    go_wp2
    go_ret3
    refine ⟨rfl, .slice (some ⟨g, 0, none⟩) (L.length + 1) cap, ⟨blkSet (j := 1) (u := .slice (some ⟨g, 0, none⟩) (L.length + 1) cap) HB1.out, ?_, fun e => HGB.out (Option.some.inj e), HSRT.out⟩, fun g' hg' => ?_, ?_⟩
    · have e : rowis (putL ltZ L k u) = (rowis L).take (r * 2) ++ [.int .i64 (k), .string (u)] ++ (rowis L).drop (r * 2) := by
        rw [HP.out, row_appis, row_appis, row_takeis, row_dropis]; rfl
      have el : (putL ltZ L k u).length = L.length + 1 := by rw [HP.out]; simp; omega
      rw [e, el]
      exact HO.out.other (p := ⟨b, 1, none⟩) (fun h => HGB.out (Option.some.inj (show some g = some b from h))) _
    · obtain rfl : g = g' := Option.some.inj hg'
      exact HGW.out.imp (fun h => h) (fun h => Nat.le_trans HG.out.sz (by simp at h; omega))
    · exact (((HG.out.mdh _).alloc _).trans (HM.out.mono (fun q hq => .inr hq))).setCell (p := ⟨b, 1, none⟩) (.inl rfl) _
  | some u0 =>
    have HB := Lib.hid (show hasBis L k = true by unfold hasBis; rw [hl]; rfl)
    have HV := Lib.hid (show lookVis L k = .string (u0) by unfold lookVis; rw [hl])
    have HP := Lib.hid (show putL ltZ L k u = L.set r (k, u) by unfold putL; rw [hl, HRK.out])
    have hx : L[r]? = some (k, u0) := by rw [HRK.out]; exact look_some hl
    rw [HB.out, HV.out]
    obtain ⟨a, cap, rfl, hnc, hcm, hat⟩ := VWis.at (.inl ⟨b, rfl, H.out⟩)
    obtain ⟨g, rfl, hgl, i0, i1⟩ := hat _ _ hx
    have hlt : r < L.length := (List.getElem?_eq_some_iff.1 hx).1
    have hlt' : (r : Int) < L.length := by omega
    unfold maxLen at hcm
    clear hl hat hgl
    go_enter Try.func24, Try.ntmps24
    go_wp2_with fail
    refine (findis _ _ L k _ (.inl ⟨b, rfl, H.out⟩) (by omega)).mono ?_
    rintro e w1 ⟨rfl, hg⟩
    rw [HB.out, ← HRK.out]
    have H1 := Lib.hid (H.out.gr hg)
    have HG := Lib.hid hg
    have d1 := ((cellsOf H1.out.blk).1 1).trans (show _ = some (Value.slice (some ⟨g, 0, none⟩) L.length cap) from rfl)
    have j1 := hg.keep i1
    (try simp only at j1)
    obtain ⟨cur, hgc, _⟩ := H1.out.own.parts
    have jf := (cellsOf hgc).2
    have hgne : g ≠ b := fun e => H1.out.ne (by rw [e]; rfl)
    have HNE := Lib.hid hgne
    clear hg c0 i0 i1 hgc
    go_wp2
    go_region
    go_wp2
    go_ret3
    refine ⟨rfl, .slice (some ⟨g, 0, none⟩) L.length cap, ⟨blkSetO H1.out.blk (fun e => HNE.out e.symm), ?_, H1.out.ne, HSRT.out⟩, fun g' hg' => .inl hg', ?_⟩
    · have e : rowis (putL ltZ L k u) = (rowis L).set (r * 2 + 1) (.string (u)) := by
        rw [HP.out]
        exact row_setis L r k u0 u hx
      have el : (putL ltZ L k u).length = L.length := by rw [HP.out]; simp
      rw [e, el]
      exact H1.out.own.set (by rw [row_lenis]; omega) _
    · exact ((HG.out.mdh _).setCell (p := ⟨g, r * 2 + 1, none⟩) (.inr rfl) _).drew

set_option maxRecDepth 40000 in
set_option maxHeartbeats 2000000 in
theorem DeleteOis (b : Nat) (v : Value) (L : List Itis) (k : Int) (w : World) (h : OMis w b v L) (hn : L.length ≤ 100000) :
    Calls Try.prog 30 #[.pointer (some ⟨b, 0, none⟩), .int .i64 (k)] w fun e w' => e = .returned (.tuple #[lookVis L k, .bool (hasBis L k)]) ∧ OMPostis b v (delL ltZ L k) w w' := by
  have H := Lib.hid h
  obtain ⟨r, hrd⟩ : ∃ r, r = rk ltZ L k := ⟨_, rfl⟩
  have HRK := Lib.hid hrd
  have HSRT := Lib.hid (del_srt h.srt k)
  clear h hrd
  cases hl : look ltZ L k with
  | none =>
    have HB := Lib.hid (show hasBis L k = false by unfold hasBis; rw [hl]; rfl)
    have HV := Lib.hid (show lookVis L k = .string ⟨#[]⟩ by unfold lookVis; rw [hl])
    have HP := Lib.hid (show delL ltZ L k = L by unfold delL; rw [hl])
    clear hl
    rw [HB.out, HV.out]
    go_enter Try.func30, Try.ntmps30
    go_wp2_with fail
    refine (Getis _ v L k _ (.inl ⟨b, rfl, H.out⟩) (by omega)).mono ?_
    rintro e w1 ⟨rfl, hg⟩
    rw [HB.out, HV.out]
    have H1 := Lib.hid (H.out.gr hg)
    go_wp2
    go_ret2
    exact ⟨rfl, v, by rw [HP.out]; exact H1.out, fun g hg => .inl hg, hg.mdh _⟩
  | some u0 =>
    have HB := Lib.hid (show hasBis L k = true by unfold hasBis; rw [hl]; rfl)
    have HV := Lib.hid (show lookVis L k = .string (u0) by unfold lookVis; rw [hl])
    have HP := Lib.hid (show delL ltZ L k = L.take r ++ L.drop (r + 1) by unfold delL; rw [hl, HRK.out])
    have hx : L[r]? = some (k, u0) := by rw [HRK.out]; exact look_some hl
    rw [HB.out, HV.out]
    obtain ⟨a, cap, rfl, hnc, hcm, hat⟩ := VWis.at (.inl ⟨b, rfl, H.out⟩)
    obtain ⟨g, rfl, hgl, _, _⟩ := hat _ _ hx
    have hlt : r < L.length := (List.getElem?_eq_some_iff.1 hx).1
    have HLT := Lib.hid hlt
    have hlt' : (r : Int) < 100000 := by omega
    clear hl hat hgl hcm
    go_enter Try.func30, Try.ntmps30
    go_wp2_with fail
    refine (Getis _ _ L k _ (.inl ⟨b, rfl, H.out⟩) (by omega)).mono ?_
    rintro e w1 ⟨rfl, hg⟩
    rw [HB.out, HV.out]
    have H1 := Lib.hid (H.out.gr hg)
    have HG := Lib.hid hg
    clear hg
    go_wp2_with fail
    refine (Rankis _ _ L k _ (.inl ⟨b, rfl, H1.out⟩) (by omega)).mono ?_
    rintro e w2 ⟨rfl, hg⟩
    rw [← HRK.out]
    have H2 := Lib.hid (H1.out.gr hg)
    have HG2 := Lib.hid (HG.out.trans hg)
    have d1 := ((cellsOf H2.out.blk).1 1).trans (show _ = some (Value.slice (some ⟨g, 0, none⟩) L.length cap) from rfl)
    clear hg
    go_wp2_with fail
    refine (Deleteis g L.length cap r (rowis L) _ H2.out.own (row_oneis L) HLT.out).mono ?_
    rintro e w3 ⟨rfl, ho, hm⟩
    have hgne : g ≠ b := fun e => H2.out.ne (by rw [e]; rfl)
    have hb3 := hm.blk H2.out.blk (fun e => hgne e.symm)
    have HO := Lib.hid ho
    have HM := Lib.hid hm
    have HB3 := Lib.hid hb3
    have HNE := Lib.hid hgne
    have e1 := ((cellsOf hb3).1 1).trans (show _ = some (Value.slice (some ⟨g, 0, none⟩) L.length cap) from rfl)
    have ef := (cellsOf hb3).2
    clear ho hm hb3 hgne d1
    go_wp2
    go_ret2
    refine ⟨rfl, .slice (some ⟨g, 0, none⟩) (L.length - 1) cap, ⟨blkSet (j := 1) (u := .slice (some ⟨g, 0, none⟩) (L.length - 1) cap) HB3.out, ?_, fun e => HNE.out (Option.some.inj e), HSRT.out⟩, fun g' hg' => .inl hg', ?_⟩
    · have e : rowis (delL ltZ L k) = (rowis L).take (r * 2) ++ (rowis L).drop ((r + 1) * 2) := by
        rw [HP.out, row_appis, row_takeis, row_dropis]
      have el : (delL ltZ L k).length = L.length - 1 := by rw [HP.out]; have := HLT.out; simp; omega
      rw [e, el]
      exact HO.out.other (p := ⟨b, 1, none⟩) (fun h => HNE.out (Option.some.inj (show some g = some b from h))) _
    · exact ((HG2.out.mdh _).trans (HM.out.mono (fun q hq => .inr (by rw [hq]; rfl)))).setCell (p := ⟨b, 1, none⟩) (.inl rfl) _
end Go.Proofs.Ytemjnppplmankaa
