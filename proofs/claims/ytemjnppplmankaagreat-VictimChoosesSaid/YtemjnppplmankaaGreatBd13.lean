/-
  A region that draws its order, of which the last operations each wait for all ahead of them: the first ones are walked as a
  region that draws, the last ones one by one. No program in sight.
-/
import Derived.Test.YtemjnppplmankaaGreatBd2
import Derived.Test.YtemjnppplmankaaGreatBd10
import Derived.Test.YtemjnppplmankaaGreatBd12
import Derived.Test.YtemjnppplmankaaGreatBd6
import Derived.Laws.MakeOwn
set_option linter.unusedVariables false
set_option linter.unusedSimpArgs false
namespace Go.Proofs.YtemjnppplmankaaGreat
open Go.RowKit

/-- In a list of operations: each waits for earlier ones alone; from the k-th on each waits for all ahead of it; no guards. -/
def tailB (l : List Oper) (k : Nat) : Bool :=
  l.all (fun o => o.guard.isNone) &&
  (List.range l.length).all (fun i => ((l[i]?).map fun o => o.after.all fun e => !Region.binds .any e || decide (e.on < i)).getD true) &&
  (List.range l.length).all (fun i => decide (i < k) || (List.range i).all fun j => reachB l.toArray 6 j i)

def listedAt (n i : Nat) : Array Bool := ((List.range n).map fun j => decide (j < i)).toArray
theorem listedAt_get (n i j : Nat) (d : Bool) (hj : j < n) : (listedAt n i).getD j d = decide (j < i) := by
  simp [listedAt, hj]
theorem listedAt_out (n i j : Nat) (d : Bool) (hj : n ≤ j) : (listedAt n i).getD j d = d := by
  simp [listedAt, Nat.not_lt.2 hj]
theorem listedAt_set (n i : Nat) (_hi : i < n) : (listedAt n i).setIfInBounds i true = listedAt n (i + 1) := by
  apply Array.ext
  · simp [listedAt]
  · intro j h1 h2
    simp only [listedAt, Array.size_setIfInBounds, List.size_toArray, List.length_map, List.length_range] at h1 h2
    simp [listedAt, Array.getElem_setIfInBounds, h2]
    by_cases h : i = j <;> simp [h] <;> omega

theorem wanted_none {o : Oper} (h : o.guard = none) (f : Nat → Option Bool) : Region.wanted o f = true := by simp [Region.wanted, h]

/-- What is left is what the first operations leave it to. -/
def thenQ (Q : Exit → Act → World → Prop) (T : Act → World → Prop) : Exit → Act → World → Prop
  | .normal, a, w => T a w
  | e, a, w => Q e a w

section
variable {P : Program} {l : List Oper} {k : Nat} {Q : Exit → Act → World → Prop}
theorem tail_parts (h : tailB l k = true) : (∀ o ∈ l, o.guard = none) ∧ (∀ i o, l[i]? = some o → ∀ e ∈ o.after, Region.binds .any e = true → e.on < i) ∧ ∀ i o, l[i]? = some o → k ≤ i → ∀ j < i, reachB l.toArray 6 j i = true := by
  simp only [tailB, Bool.and_eq_true, List.all_eq_true, List.mem_range] at h
  obtain ⟨⟨h1, h2⟩, h3⟩ := h
  refine ⟨fun o ho => by simpa using h1 o ho, fun i o ho e he hb => ?_, fun i o ho hk j hj => ?_⟩
  · have := h2 i (List.getElem?_eq_some_iff.1 ho).1
    simp only [ho, Option.map_some, Option.getD_some, Array.all_eq_true'] at this
    have := this e he
    simp only [hb, Bool.not_true, Bool.false_or, decide_eq_true_eq] at this
    exact this
  · have := h3 i (List.getElem?_eq_some_iff.1 ho).1
    simp only [Bool.or_eq_true, decide_eq_true_eq, Nat.not_lt.2 hk, false_or, List.all_eq_true, List.mem_range] at this
    exact this j hj

theorem listedAt_closed (h : tailB l k = true) (i : Nat) (hi : i < l.length) : Closed l.toArray (listedAt l.length i) := by
  obtain ⟨_, h2, _⟩ := tail_parts h
  intro j o ho hl e he hb
  have ho' : l[j]? = some o := by simpa using ho
  have hj := (List.getElem?_eq_some_iff.1 ho').1
  have := h2 j o ho' e he hb
  rw [listedAt_get _ _ _ _ hj] at hl
  rw [listedAt_get _ _ _ _ (by omega)]
  simp at hl ⊢
  omega
theorem ready_at (h : tailB l k = true) {i : Nat} (hk : k ≤ i) (hi : i < l.length) : ∀ j, j ∈ Region.ready .any l.toArray (listedAt l.length i) ↔ j = i := by
  obtain ⟨_, h2, h3⟩ := tail_parts h
  intro j
  rw [mem_ready]
  constructor
  · rintro ⟨hun, o, ho, hall⟩
    have ho' : l[j]? = some o := by simpa using ho
    have hj := (List.getElem?_eq_some_iff.1 ho').1
    rw [listedAt_get _ _ _ _ hj] at hun
    have hij : i ≤ j := by simpa using hun
    rcases Nat.lt_or_ge i j with hlt | hge
    · have := reach_listed (listedAt_closed h i hi) 6 i j o ho hall (h3 j o ho' (by omega) i hlt)
      rw [listedAt_get _ _ _ _ hi] at this
      simp at this
    · omega
  · rintro rfl
    refine ⟨by rw [listedAt_get _ _ _ _ hi]; simp, l[j], by simp [hi], fun e he hb => ?_⟩
    have := h2 j l[j] (List.getElem?_eq_getElem hi) e he hb
    rw [listedAt_get _ _ _ _ (by omega)]
    simpa using this
theorem ready_end (n : Nat) (ops : Array Oper) (hn : ops.size = n) : Region.ready .any ops (listedAt n n) = [] := by
  refine List.eq_nil_iff_forall_not_mem.2 fun i hi => ?_
  obtain ⟨h0, o, ho, _⟩ := mem_ready.1 hi
  have := (Array.getElem?_eq_some_iff.1 ho).1
  rw [listedAt_get _ _ _ _ (by omega)] at h0
  simp at h0
  omega
theorem least {p : Nat → Prop} : ∀ N, (∃ i, i < N ∧ p i) → ∃ i, i < N ∧ p i ∧ ∀ j < i, ¬ p j := by
  intro N
  induction N with
  | zero => rintro ⟨i, h, _⟩; omega
  | succ N ih =>
    rintro ⟨i, hi, hp⟩
    by_cases h : ∃ i, i < N ∧ p i
    · obtain ⟨j, h1, h2⟩ := ih h
      exact ⟨j, by omega, h2⟩
    · refine ⟨i, hi, hp, fun j hj hpj => h ⟨j, by omega, hpj⟩⟩

/-- How the list of those that are done goes on. -/
def ext (listed : Array Bool) (n : Nat) : Array Bool := listed ++ Array.replicate n false
theorem ext_lt {listed : Array Bool} {n j : Nat} {d : Bool} (h : j < listed.size) : (ext listed n).getD j d = listed.getD j d := by
  simp [ext, Array.getD_eq_getD_getElem?, Array.getElem?_append_left h]
theorem ext_ge {listed : Array Bool} {n j : Nat} {d : Bool} (h : listed.size ≤ j) (h2 : j < listed.size + n) : (ext listed n).getD j d = false := by
  have : (Array.replicate n false)[j - listed.size]? = some false := by rw [Array.getElem?_eq_getElem (by simp; omega)]; simp
  simp [ext, Array.getD_eq_getD_getElem?, Array.getElem?_append_right h, this]
theorem ext_set {listed : Array Bool} {n i : Nat} (h : i < listed.size) : (ext listed n).setIfInBounds i true = ext (listed.setIfInBounds i true) n := by
  simp [ext, Array.setIfInBounds_append_left, h]
theorem ext_full {listed : Array Bool} {n m : Nat} (hs : listed.size = m) (h : ∀ i < m, listed.getD i true = true) : ext listed n = listedAt (m + n) m := by
  apply Array.ext
  · simp [ext, listedAt, hs]
  · intro j h1 h2
    have e1 : (ext listed n).getD j true = (listedAt (m + n) m).getD j true := by
      have hj : j < m + n := by simpa [listedAt] using h2
      rw [listedAt_get _ _ _ _ hj]
      by_cases hjm : j < m
      · rw [ext_lt (by omega), h j hjm]; simp [hjm]
      · rw [ext_ge (by omega) (by omega)]; simp [hjm]
    simpa [Array.getD_eq_getD_getElem?, Array.getElem?_eq_getElem h1, Array.getElem?_eq_getElem h2] using e1
end

section
variable {F : Fence} {n : Nat} {P : Program} {l : List Oper} {k : Nat} {Q : Exit → Act → World → Prop}
theorem wpIn_thenQ {o : Oper} {a : Act} {w : World} {K K' : Act → World → Prop} {T : Act → World → Prop} (hk : ∀ a w, K a w → K' a w) (h : o.wpIn F n P a w K (thenQ Q T)) : o.wpIn F n P a w K' Q := by
  have h := Oper.wpIn_mono hk h
  unfold Oper.wpIn at h ⊢
  refine ⟨h.1, ?_⟩
  have h := h.2
  generalize (o.semAt F.round a.eval).run P w = r at h ⊢
  cases r with
  | ok x w' => cases x <;> exact h
  | halt x w' => cases x <;> exact h
theorem anyIn_tail (h : tailB l k = true) : ∀ m i a w, i + m = l.length → k ≤ i → wpListIn F n P l.toArray Q (l.drop i) a w → wpAnyIn F n P .any l.toArray Q m (listedAt l.length i) a w := by
  obtain ⟨h1, _, _⟩ := tail_parts h
  intro m
  induction m with
  | zero =>
    intro i a w hi _ hw
    obtain rfl : i = l.length := by omega
    rw [List.drop_length] at hw
    exact ⟨ready_end _ _ (by simp), hw⟩
  | succ m ih =>
    intro i a w hi hk hw
    have hlt : i < l.length := by omega
    have hr := ready_at h hk hlt
    rw [List.drop_eq_getElem_cons hlt] at hw
    simp only [wpListIn, wanted_none (h1 _ (List.getElem_mem hlt)), if_true] at hw
    refine ⟨fun h0 => absurd ((hr i).2 rfl) (by simp [h0]), fun j hj => ?_⟩
    obtain rfl := (hr j).1 hj
    unfold wpOpIn
    simp only [List.getElem?_toArray, List.getElem?_eq_getElem hlt, wanted_none (h1 _ (List.getElem_mem hlt)), if_true]
    refine Oper.wpIn_mono (fun a' w' hw' => ?_) hw
    rw [listedAt_set _ _ hlt]
    exact ih (j + 1) a' w' (by omega) (by omega) hw'
theorem anyIn_cut (l1 l2 : List Oper) (h : tailB (l1 ++ l2) l1.length = true) : ∀ m (listed : Array Bool) (a : Act) (w : World), listed.size = l1.length → (∀ j, j < l1.length → listed.getD j true = false → 0 < m) →
    wpAnyIn F n P .any l1.toArray (thenQ Q (wpListIn F n P (l1 ++ l2).toArray Q l2)) m listed a w →
    (∃ L : List Nat, L.length = m ∧ L.Nodup ∧ ∀ j, j ∈ L ↔ j < l1.length ∧ listed.getD j true = false) → Closed (l1 ++ l2).toArray (ext listed l2.length) → wpAnyIn F n P .any (l1 ++ l2).toArray Q (m + l2.length) (ext listed l2.length) a w := by
  obtain ⟨h1, h2, h3⟩ := tail_parts h
  intro m
  induction m with
  | zero =>
    intro listed a w hsz hun hw _ _
    have hall : ∀ i < l1.length, listed.getD i true = true := fun i hi => by
      cases hc : listed.getD i true with
      | true => rfl
      | false => exact absurd (hun i hi hc) (by omega)
    rw [ext_full hsz hall, ← List.length_append]
    refine anyIn_tail h _ _ _ _ (by simp) (Nat.le_refl _) ?_
    rw [List.drop_left]
    exact hw.2
  | succ m ih =>
    rintro listed a w hsz _ hw ⟨L, hL, hnd, hmem⟩ hcl
    have hsub : ∀ i ∈ Region.ready .any (l1 ++ l2).toArray (ext listed l2.length), i < l1.length ∧ i ∈ Region.ready .any l1.toArray listed := by
      intro i hi
      obtain ⟨hun, o, ho, hall⟩ := mem_ready.1 hi
      have ho' : (l1 ++ l2)[i]? = some o := by simpa using ho
      have hlt : i < l1.length := by
        rcases Nat.lt_or_ge i l1.length with hlt | hge
        · exact hlt
        · exfalso
          obtain ⟨j, hj⟩ : ∃ j, j ∈ L := by
            cases L with
            | nil => simp at hL
            | cons x L => exact ⟨x, List.mem_cons_self⟩
          obtain ⟨j1, j2⟩ := (hmem j).1 hj
          have := reach_listed hcl 6 j i o ho hall (h3 i o ho' hge j (by omega))
          rw [ext_lt (by omega)] at this
          rw [Array.getD_eq_getD_getElem?, Array.getElem?_eq_getElem (by omega)] at this j2
          simp_all
      refine ⟨hlt, mem_ready.2 ⟨by rw [ext_lt (by omega)] at hun; exact hun, o, by rw [List.getElem?_append_left hlt] at ho'; simpa using ho', fun e he hb => ?_⟩⟩
      have := hall e he hb
      rwa [ext_lt (by have := h2 i o ho' e he hb; omega)] at this
    rw [show m + 1 + l2.length = (m + l2.length) + 1 by omega]
    refine ⟨fun h0 => ?_, fun i hi => ?_⟩
    · exfalso
      obtain ⟨i, hi, hp, hlo⟩ := least (p := fun j => listed.getD j true = false) l1.length (by
        cases L with
        | nil => simp at hL
        | cons x L => exact ⟨x, (hmem x).1 List.mem_cons_self⟩)
      have : i ∈ Region.ready .any (l1 ++ l2).toArray (ext listed l2.length) := by
        have hil : (l1 ++ l2)[i]? = some l1[i] := by rw [List.getElem?_append_left hi, List.getElem?_eq_getElem hi]
        refine mem_ready.2 ⟨by rw [ext_lt (by omega)]; exact hp, l1[i], by simpa using hil, fun e he hb => ?_⟩
        have he' := h2 i _ hil e he hb
        rw [ext_lt (by omega)]
        have := hlo _ he'
        rw [Array.getD_eq_getD_getElem?, Array.getElem?_eq_getElem (by omega)] at this ⊢
        simpa using this
      rw [h0] at this
      cases this
    · obtain ⟨hlt, hi1⟩ := hsub i hi
      have hw := hw.2 i hi1
      unfold wpOpIn at hw ⊢
      have hil : (l1 ++ l2)[i]? = some l1[i] := by rw [List.getElem?_append_left hlt, List.getElem?_eq_getElem hlt]
      have hg := h1 l1[i] (List.mem_append_left _ (List.getElem_mem hlt))
      simp only [List.getElem?_toArray, hil, wanted_none hg, if_true]
      simp only [List.getElem?_toArray, List.getElem?_eq_getElem hlt, wanted_none hg, if_true] at hw
      refine wpIn_thenQ (fun a' w' hk => ?_) hw
      rw [ext_set (by omega)]
      have hiL : i ∈ L := (hmem i).2 ⟨hlt, (mem_ready.1 hi1).1⟩
      have hset : ∀ j, (listed.setIfInBounds i true).getD j true = if j = i then true else listed.getD j true := fun j => by
        simp only [Array.getD_eq_getD_getElem?, Array.getElem?_setIfInBounds]
        by_cases hij : i = j
        · subst hij; simp [hsz, hlt]
        · simp [hij, Ne.symm hij]
      have hset' : ∀ j, ((ext listed l2.length).setIfInBounds i true).getD j false = if j = i then true else (ext listed l2.length).getD j false := fun j => by
        have hsx : i < (ext listed l2.length).size := by simp [ext]; omega
        simp only [Array.getD_eq_getD_getElem?, Array.getElem?_setIfInBounds]
        by_cases hij : i = j
        · subst hij; simp [hsx]
        · simp [hij, Ne.symm hij]
      refine ih _ a' w' (by simpa using hsz) (fun j hj hc => ?_) hk ⟨L.erase i, by rw [List.length_erase_of_mem hiL, hL]; rfl, hnd.erase i, fun j => ?_⟩ (fun j o ho hl e he hb => ?_)
      · rw [hset] at hc
        split at hc
        · cases hc
        · rename_i hne
          have : j ∈ L.erase i := (List.mem_erase_of_ne hne).2 ((hmem j).2 ⟨hj, hc⟩)
          have := List.length_pos_of_mem this
          rw [List.length_erase_of_mem hiL, hL] at this
          omega
      · rw [hnd.mem_erase_iff, hmem, hset]
        constructor
        · rintro ⟨hne, hj, hc⟩; exact ⟨hj, by simp [hne, hc]⟩
        · rintro ⟨hj, hc⟩
          split at hc
          · cases hc
          · rename_i hne; exact ⟨hne, hj, hc⟩
      · rw [← ext_set (by omega), hset'] at hl ⊢
        have hall : ∀ e ∈ o.after, Region.binds .any e = true → (ext listed l2.length).getD e.on false = true := by
          by_cases hji : j = i
          · subst hji
            obtain ⟨_, o', ho', hall⟩ := mem_ready.1 hi
            obtain rfl := Option.some.inj (ho.symm.trans ho')
            exact hall
          · rw [if_neg hji] at hl
            exact fun e he hb => hcl j o ho hl e he hb
        split
        · rfl
        · exact hall e he hb
/-- **A REGION THAT DRAWS, WITH FLOATS, whose last operations come one by one.** -/
theorem wpIn_region_flt (k : Nat) (hF : ∀ f, F.fn f) (hD : F.depth = none) (S : Nat → Prop) (fl loud : List Tmp) {id : Nat} {a : Act} {w : World} (hm : P.follows .mixedOrders = true) (ht : tailB l k = true) (hk : k ≤ l.length) (hB : floB (l.take k).toArray fl loud = true) (hS : ∀ k, S k → k < w.heap.size)
    (h : floL P (l.take k).toArray S w fl loud (fun o a w K => o.wpIn F n P a w K NoEx) (wpListIn F n P l.toArray Q (l.drop k)) (l.take k) (fun _ => False) a w.drew) : (Code.region id l.toArray true).wpIn F n P Q a w := by
  have hlen : (l.take k).length = k := by rw [List.length_take]; omega
  have ht' : tailB (l.take k ++ l.drop k) (l.take k).length = true := by rw [List.take_append_drop, hlen]; exact ht
  refine wpIn_region_any hm ?_
  have hw1 : wpAnyIn F n P .any (l.take k).toArray (thenQ Q (wpListIn F n P l.toArray Q (l.drop k))) k (Array.replicate k false) a w.drew := by
    refine flo_anyIn (S := S) (w0 := w) (Q := wpListIn F n P l.toArray Q (l.drop k)) hF hD hB hS (fun _ _ _ h => h) _ (List.range' 0 k) _ (fun _ => False) a _ (by simp) ?_ (fun i => ?_) ?_ (by simp [hlen]) ⟨Nat.le_refl _, fun _ _ _ => rfl, rfl, rfl, rfl⟩ (fun _ h => h.elim) ?_
    · rw [← List.range_eq_range']; exact List.pairwise_lt_range
    · rw [← List.range_eq_range', List.mem_range]
      constructor
      · intro hi; exact ⟨by simp only [List.size_toArray, hlen]; exact hi, by simp [hi]⟩
      · intro hi; simpa [hlen] using hi.1
    · intro i o ho hl
      exfalso
      rcases Nat.lt_or_ge i k with h' | h'
      · simp [h'] at hl
      · simp [Nat.not_lt.2 h'] at hl
    · have := floI_of_L (P := P) (ops := (l.take k).toArray) (S := S) (w0 := w) (fl := fl) (loud := loud) (W := fun o a w K => o.wpIn F n P a w K NoEx) (Q := wpListIn F n P l.toArray Q (l.drop k)) (l.take k) 0 (by simp)
      rw [hlen] at this
      rw [this]; exact h
  have := anyIn_cut (Q := Q) (l.take k) (l.drop k) ht' k (Array.replicate k false) a w.drew (by simp [hlen]) (fun j hj _ => by rw [hlen] at hj; omega) (by rw [List.take_append_drop]; exact hw1)
    ⟨List.range k, by simp, List.nodup_range, fun j => by
      rw [List.mem_range, hlen]
      constructor
      · intro hj; exact ⟨hj, by simp [hj]⟩
      · intro hj; exact hj.1⟩ (fun j o _ hl => by
        exfalso
        rcases Nat.lt_or_ge j (k + (l.drop k).length) with hj | hj
        · have : (ext (Array.replicate k false) (l.drop k).length)[j]? = some false := by
            rw [ext, Array.replicate_append_replicate, Array.getElem?_eq_getElem (by simpa using hj)]; simp
          rw [Array.getD_eq_getD_getElem?, this] at hl; cases hl
        · have : (ext (Array.replicate k false) (l.drop k).length)[j]? = none := by
            rw [ext, Array.replicate_append_replicate]; exact Array.getElem?_eq_none (by simpa using hj)
          rw [Array.getD_eq_getD_getElem?, this] at hl; cases hl)
  rw [List.take_append_drop] at this
  have e : k + (l.drop k).length = l.toArray.size := by simp; omega
  rw [e] at this
  have e2 : ext (Array.replicate k false) (l.drop k).length = Array.replicate l.toArray.size false := by
    rw [ext, Array.replicate_append_replicate, e]
  rw [e2] at this
  exact this
end

/-! ### The plain walk -/
section
variable {P : Program} {l : List Oper} {k : Nat} {Q : Exit → Act → World → Prop}
theorem wp_thenQ {o : Oper} {a : Act} {w : World} {K K' : Act → World → Prop} {T : Act → World → Prop} (hk : ∀ a w, K a w → K' a w) (h : o.wp P a w K (thenQ Q T)) : o.wp P a w K' Q := by
  have h := Oper.wp_mono hk h
  unfold Oper.wp at h ⊢
  generalize (execOp a.eval o).run P w = r at h ⊢
  cases r with
  | ok x w' => cases x <;> exact h
  | halt x w' => cases x <;> exact h
theorem any_tail (h : tailB l k = true) : ∀ m i a w, i + m = l.length → k ≤ i → wpList P l.toArray Q (l.drop i) a w → wpAny P .any l.toArray Q m (listedAt l.length i) a w := by
  obtain ⟨h1, _, _⟩ := tail_parts h
  intro m
  induction m with
  | zero =>
    intro i a w hi _ hw
    obtain rfl : i = l.length := by omega
    rw [List.drop_length] at hw
    exact ⟨ready_end _ _ (by simp), hw⟩
  | succ m ih =>
    intro i a w hi hk hw
    have hlt : i < l.length := by omega
    have hr := ready_at h hk hlt
    rw [List.drop_eq_getElem_cons hlt] at hw
    simp only [wpList, wanted_none (h1 _ (List.getElem_mem hlt)), if_true] at hw
    refine ⟨fun h0 => absurd ((hr i).2 rfl) (by simp [h0]), fun j hj => ?_⟩
    obtain rfl := (hr j).1 hj
    unfold wpOp
    simp only [List.getElem?_toArray, List.getElem?_eq_getElem hlt, wanted_none (h1 _ (List.getElem_mem hlt)), if_true]
    refine hw.imp (Oper.wp_mono fun a' w' hw' => ?_) id
    rw [listedAt_set _ _ hlt]
    exact ih (j + 1) a' w' (by omega) (by omega) hw'
theorem any_cut (l1 l2 : List Oper) (h : tailB (l1 ++ l2) l1.length = true) : ∀ m (listed : Array Bool) (a : Act) (w : World), listed.size = l1.length → (∀ j, j < l1.length → listed.getD j true = false → 0 < m) →
    wpAny P .any l1.toArray (thenQ Q (wpList P (l1 ++ l2).toArray Q l2)) m listed a w →
    (∃ L : List Nat, L.length = m ∧ L.Nodup ∧ ∀ j, j ∈ L ↔ j < l1.length ∧ listed.getD j true = false) → Closed (l1 ++ l2).toArray (ext listed l2.length) → wpAny P .any (l1 ++ l2).toArray Q (m + l2.length) (ext listed l2.length) a w := by
  obtain ⟨h1, h2, h3⟩ := tail_parts h
  intro m
  induction m with
  | zero =>
    intro listed a w hsz hun hw _ _
    have hall : ∀ i < l1.length, listed.getD i true = true := fun i hi => by
      cases hc : listed.getD i true with
      | true => rfl
      | false => exact absurd (hun i hi hc) (by omega)
    rw [ext_full hsz hall, ← List.length_append]
    refine any_tail h _ _ _ _ (by simp) (Nat.le_refl _) ?_
    rw [List.drop_left]
    exact hw.2
  | succ m ih =>
    rintro listed a w hsz _ hw ⟨L, hL, hnd, hmem⟩ hcl
    have hsub : ∀ i ∈ Region.ready .any (l1 ++ l2).toArray (ext listed l2.length), i < l1.length ∧ i ∈ Region.ready .any l1.toArray listed := by
      intro i hi
      obtain ⟨hun, o, ho, hall⟩ := mem_ready.1 hi
      have ho' : (l1 ++ l2)[i]? = some o := by simpa using ho
      have hlt : i < l1.length := by
        rcases Nat.lt_or_ge i l1.length with hlt | hge
        · exact hlt
        · exfalso
          obtain ⟨j, hj⟩ : ∃ j, j ∈ L := by
            cases L with
            | nil => simp at hL
            | cons x L => exact ⟨x, List.mem_cons_self⟩
          obtain ⟨j1, j2⟩ := (hmem j).1 hj
          have := reach_listed hcl 6 j i o ho hall (h3 i o ho' hge j (by omega))
          rw [ext_lt (by omega)] at this
          rw [Array.getD_eq_getD_getElem?, Array.getElem?_eq_getElem (by omega)] at this j2
          simp_all
      refine ⟨hlt, mem_ready.2 ⟨by rw [ext_lt (by omega)] at hun; exact hun, o, by rw [List.getElem?_append_left hlt] at ho'; simpa using ho', fun e he hb => ?_⟩⟩
      have := hall e he hb
      rwa [ext_lt (by have := h2 i o ho' e he hb; omega)] at this
    rw [show m + 1 + l2.length = (m + l2.length) + 1 by omega]
    refine ⟨fun h0 => ?_, fun i hi => ?_⟩
    · exfalso
      obtain ⟨i, hi, hp, hlo⟩ := least (p := fun j => listed.getD j true = false) l1.length (by
        cases L with
        | nil => simp at hL
        | cons x L => exact ⟨x, (hmem x).1 List.mem_cons_self⟩)
      have : i ∈ Region.ready .any (l1 ++ l2).toArray (ext listed l2.length) := by
        have hil : (l1 ++ l2)[i]? = some l1[i] := by rw [List.getElem?_append_left hi, List.getElem?_eq_getElem hi]
        refine mem_ready.2 ⟨by rw [ext_lt (by omega)]; exact hp, l1[i], by simpa using hil, fun e he hb => ?_⟩
        have he' := h2 i _ hil e he hb
        rw [ext_lt (by omega)]
        have := hlo _ he'
        rw [Array.getD_eq_getD_getElem?, Array.getElem?_eq_getElem (by omega)] at this ⊢
        simpa using this
      rw [h0] at this
      cases this
    · obtain ⟨hlt, hi1⟩ := hsub i hi
      have hw := hw.2 i hi1
      unfold wpOp at hw ⊢
      have hil : (l1 ++ l2)[i]? = some l1[i] := by rw [List.getElem?_append_left hlt, List.getElem?_eq_getElem hlt]
      have hg := h1 l1[i] (List.mem_append_left _ (List.getElem_mem hlt))
      simp only [List.getElem?_toArray, hil, wanted_none hg, if_true]
      simp only [List.getElem?_toArray, List.getElem?_eq_getElem hlt, wanted_none hg, if_true] at hw
      refine hw.imp (wp_thenQ fun a' w' hk => ?_) id
      rw [ext_set (by omega)]
      have hiL : i ∈ L := (hmem i).2 ⟨hlt, (mem_ready.1 hi1).1⟩
      have hset : ∀ j, (listed.setIfInBounds i true).getD j true = if j = i then true else listed.getD j true := fun j => by
        simp only [Array.getD_eq_getD_getElem?, Array.getElem?_setIfInBounds]
        by_cases hij : i = j
        · subst hij; simp [hsz, hlt]
        · simp [hij, Ne.symm hij]
      have hset' : ∀ j, ((ext listed l2.length).setIfInBounds i true).getD j false = if j = i then true else (ext listed l2.length).getD j false := fun j => by
        have hsx : i < (ext listed l2.length).size := by simp [ext]; omega
        simp only [Array.getD_eq_getD_getElem?, Array.getElem?_setIfInBounds]
        by_cases hij : i = j
        · subst hij; simp [hsx]
        · simp [hij, Ne.symm hij]
      refine ih _ a' w' (by simpa using hsz) (fun j hj hc => ?_) hk ⟨L.erase i, by rw [List.length_erase_of_mem hiL, hL]; rfl, hnd.erase i, fun j => ?_⟩ (fun j o ho hl e he hb => ?_)
      · rw [hset] at hc
        split at hc
        · cases hc
        · rename_i hne
          have : j ∈ L.erase i := (List.mem_erase_of_ne hne).2 ((hmem j).2 ⟨hj, hc⟩)
          have := List.length_pos_of_mem this
          rw [List.length_erase_of_mem hiL, hL] at this
          omega
      · rw [hnd.mem_erase_iff, hmem, hset]
        constructor
        · rintro ⟨hne, hj, hc⟩; exact ⟨hj, by simp [hne, hc]⟩
        · rintro ⟨hj, hc⟩
          split at hc
          · cases hc
          · rename_i hne; exact ⟨hne, hj, hc⟩
      · rw [← ext_set (by omega), hset'] at hl ⊢
        have hall : ∀ e ∈ o.after, Region.binds .any e = true → (ext listed l2.length).getD e.on false = true := by
          by_cases hji : j = i
          · subst hji
            obtain ⟨_, o', ho', hall⟩ := mem_ready.1 hi
            obtain rfl := Option.some.inj (ho.symm.trans ho')
            exact hall
          · rw [if_neg hji] at hl
            exact fun e he hb => hcl j o ho hl e he hb
        split
        · rfl
        · exact hall e he hb
/-- **A REGION THAT DRAWS, WITH FLOATS, whose last operations come one by one.** -/
theorem wp_region_flt (k : Nat) (S : Nat → Prop) (fl loud : List Tmp) {id : Nat} {a : Act} {w : World} (hm : P.follows .mixedOrders = true) (ht : tailB l k = true) (hk : k ≤ l.length) (hB : floB (l.take k).toArray fl loud = true) (hS : ∀ k, S k → k < w.heap.size)
    (h : floL P (l.take k).toArray S w fl loud (fun o a w K => o.wp P a w K NoEx) (wpList P l.toArray Q (l.drop k)) (l.take k) (fun _ => False) a w.drew) : (Code.region id l.toArray true).wp P Q a w := by
  have hlen : (l.take k).length = k := by rw [List.length_take]; omega
  have ht' : tailB (l.take k ++ l.drop k) (l.take k).length = true := by rw [List.take_append_drop, hlen]; exact ht
  refine wp_region_any hm ?_
  have hw1 : wpAny P .any (l.take k).toArray (thenQ Q (wpList P l.toArray Q (l.drop k))) k (Array.replicate k false) a w.drew := by
    refine flo_any (S := S) (w0 := w) (Q := wpList P l.toArray Q (l.drop k)) hB hS (fun _ _ _ h => h) _ (List.range' 0 k) _ (fun _ => False) a _ (by simp) ?_ (fun i => ?_) ?_ (by simp [hlen]) ⟨Nat.le_refl _, fun _ _ _ => rfl, rfl, rfl, rfl⟩ (fun _ h => h.elim) ?_
    · rw [← List.range_eq_range']; exact List.pairwise_lt_range
    · rw [← List.range_eq_range', List.mem_range]
      constructor
      · intro hi; exact ⟨by simp only [List.size_toArray, hlen]; exact hi, by simp [hi]⟩
      · intro hi; simpa [hlen] using hi.1
    · intro i o ho hl
      exfalso
      rcases Nat.lt_or_ge i k with h' | h'
      · simp [h'] at hl
      · simp [Nat.not_lt.2 h'] at hl
    · have := floI_of_L (P := P) (ops := (l.take k).toArray) (S := S) (w0 := w) (fl := fl) (loud := loud) (W := fun o a w K => o.wp P a w K NoEx) (Q := wpList P l.toArray Q (l.drop k)) (l.take k) 0 (by simp)
      rw [hlen] at this
      rw [this]; exact h
  have := any_cut (Q := Q) (l.take k) (l.drop k) ht' k (Array.replicate k false) a w.drew (by simp [hlen]) (fun j hj _ => by rw [hlen] at hj; omega) (by rw [List.take_append_drop]; exact hw1)
    ⟨List.range k, by simp, List.nodup_range, fun j => by
      rw [List.mem_range, hlen]
      constructor
      · intro hj; exact ⟨hj, by simp [hj]⟩
      · intro hj; exact hj.1⟩ (fun j o _ hl => by
        exfalso
        rcases Nat.lt_or_ge j (k + (l.drop k).length) with hj | hj
        · have : (ext (Array.replicate k false) (l.drop k).length)[j]? = some false := by
            rw [ext, Array.replicate_append_replicate, Array.getElem?_eq_getElem (by simpa using hj)]; simp
          rw [Array.getD_eq_getD_getElem?, this] at hl; cases hl
        · have : (ext (Array.replicate k false) (l.drop k).length)[j]? = none := by
            rw [ext, Array.replicate_append_replicate]; exact Array.getElem?_eq_none (by simpa using hj)
          rw [Array.getD_eq_getD_getElem?, this] at hl; cases hl)
  rw [List.take_append_drop] at this
  have e : k + (l.drop k).length = l.toArray.size := by simp; omega
  rw [e] at this
  have e2 : ext (Array.replicate k false) (l.drop k).length = Array.replicate l.toArray.size false := by
    rw [ext, Array.replicate_append_replicate, e]
  rw [e2] at this
  exact this
end
end Go.Proofs.YtemjnppplmankaaGreat

/- A copy of an index. -/
set_option linter.unusedVariables false
set_option linter.unusedSimpArgs false
namespace Go.Proofs.YtemjnppplmankaaGreat
open Go.RowKit Go.Shelf
attribute [local go_sem] OvM cell_ovm obj_ovm
attribute [local go_sem] Oper.semAt_some

section
variable {w0 wl W W' : World} {A Z : Nat → Prop} {R R' : List Asn} {B : Asn}
theorem SWz.new (h : SWz w0 wl A R Z W) (hA : ∀ k, A k → k < wl.heap.size) (g : Gr W W') (hB : B.P W') (hn : ∀ k, B.S k → W.heap.size ≤ k) : SWz w0 wl A (B :: R) Z W' :=
  ⟨h.s.new g hB hn, fun C hC k hk hz => (List.mem_cons.1 hC).elim (fun e => by have := hn k (e ▸ hk); have := h.zl k hz; omega) (fun e => h.z C e k hk hz),
    fun C hC k hk ha => (List.mem_cons.1 hC).elim (fun e => by have := hn k (e ▸ hk); have := hA k ha; have := h.sz; omega) (fun e => h.a C e k hk ha),
    h.zn, fun k hk => Nat.lt_of_lt_of_le (h.zl k hk) g.sz, Nat.le_trans h.sz g.sz⟩
theorem SWz.perm (h : SWz w0 wl A R Z W) (p : R.Perm R') : SWz w0 wl A R' Z W := ⟨h.s.perm p, fun B hB => h.z B (p.mem_iff.2 hB), fun B hB => h.a B (p.mem_iff.2 hB), h.zn, h.zl, h.sz⟩
end
theorem info_list : (Tryz.prog.info? 85).map (fun i => (i.zero, i.size, i.bytes)) = some (some (.slice none 0 0), 1, 24) := by kernel_rfl
/-- The last one put. -/
theorem put_last {α : Type} {L : List (ByteArray × α)} {k : ByteArray} {v : α} (h : ∀ x ∈ L, ltS x.1 k = true) (hs : Srt ltS L) : putL ltS L k v = L ++ [(k, v)] := by
  have hr : rk ltS L k = L.length := by
    refine (rk_uniq ordS hs k L.length (Nat.le_refl _) (fun j x _ hx => h x (List.mem_of_getElem? hx)) (fun j x hj hx => ?_)).symm
    have := (List.getElem?_eq_some_iff.1 hx).1; omega
  have hl : look ltS L k = none := by
    rw [look_none ordS hs]
    intro v hv
    have := h _ hv
    rw [ordS.irr] at this
    cases this
  unfold putL
  rw [hl, hr, List.take_length, List.drop_length, List.append_nil]
/-- The map of the copy under way. -/
structure CpK (Y : Lay) (X : IX) (KL' : List (ByteArray × Sl)) (j : Nat) : Prop where
  k : KL'.map Prod.fst = (X.keys.take j).map Prod.fst
theorem CpK.put {Y : Lay} {X : IX} {KL' : List (ByteArray × Sl)} {j : Nat} (h : CpK Y X KL' j) (hX : X.Wf) {k : ByteArray} {l : List En} (hx : X.keys[j]? = some (k, l)) (s' : Sl) : putL ltS KL' k s' = KL' ++ [(k, s')] ∧ CpK Y X (KL' ++ [(k, s')]) (j + 1) := by
  have hj := (List.getElem?_eq_some_iff.1 hx).1
  have hsrt : Srt ltS (X.keys.take j) := hX.k0.sublist (List.take_sublist _ _)
  have hs1 : (KL'.map Prod.fst).Pairwise (fun a b => ltS a b = true) := by
    rw [h.k]; exact List.pairwise_map.2 hsrt
  refine ⟨put_last (fun x hx' => ?_) (List.pairwise_map.1 hs1), ⟨?_⟩⟩
  · have hm : x.1 ∈ KL'.map Prod.fst := List.mem_map_of_mem hx'
    rw [h.k] at hm
    obtain ⟨y, hy, hxy⟩ := List.mem_map.1 hm
    obtain ⟨i, hi, rfl⟩ := List.mem_iff_getElem.1 hy
    rw [List.length_take] at hi
    rw [List.getElem_take] at hxy
    have := List.pairwise_iff_getElem.1 hX.k0 i j (by omega) hj (by omega)
    rw [hxy, (List.getElem?_eq_some_iff.1 hx).2] at this
    exact this
  · rw [List.map_append, h.k, List.take_add_one, hx, List.map_append]
    rfl
theorem keyRows_snoc {KL : List (ByteArray × Sl)} {ks : List (ByteArray × List En)} (h : KL.length = ks.length) (k : ByteArray) (s : Sl) (l : List En) : keyRows (KL ++ [(k, s)]) (ks ++ [(k, l)]) = keyRows KL ks ++ [enA s l] := by
  unfold keyRows
  rw [List.zipWith_append h]
  rfl
theorem slotRows_snoc {SL : List Sl} {ls : List (List En)} (h : SL.length = ls.length) (s : Sl) (l : List En) : slotRows (SL ++ [s]) (ls ++ [l]) = slotRows SL ls ++ [enA s l] := by
  unfold slotRows
  rw [List.zipWith_append h]
  rfl
def CopyPost (X : IX) (w : World) (e : Ending) (w' : World) : Prop := ∃ b' S', e = .returned (.pointer (some ⟨b', 0, none⟩)) ∧ IXR w' b' X S' ∧ (∀ k, S' k → w.heap.size ≤ k) ∧ Gr w w'
abbrev cpHd (b3 bi bm : Nat) (v : Value) (KL : List (ByteArray × Sl)) (sv : Value) : List Asn := [blkA b3 (.cells #[.pointer (some ⟨bi, 0, none⟩)] 35), blkA bi (.cells #[.pointer (some ⟨bm, 0, none⟩), sv] 84), omA bm v KL]

set_option maxRecDepth 40000 in
set_option maxHeartbeats 8000000 in
theorem CopyX {w : World} {b : Nat} {X : IX} {S : Nat → Prop} (h : IXR w b X S) : Calls Tryz.prog 119 #[.pointer (some ⟨b, 0, none⟩)] w (CopyPost X w) := by
  have HI := Lib.hid h
  obtain ⟨h1, h2, Y, h3, h4, h5⟩ := h
  have HF := Lib.hid (show _ from And.intro h1 (And.intro h3 (And.intro h4 h5)))
  have db := (cellsOf (Lay.blk h3)).1
  have lb := blkLt (Lay.blk h3)
  obtain ⟨i0, hi, hz0, hz1, hz2⟩ := info_parts info_list
  clear h1 h2 h3 h4 h5
  refine calls_of_wp_marks Tryz.func119 rfl ?_
  simp only [Tryz.ntmps119, List.size_toArray, List.length_cons, List.length_nil, Nat.reduceAdd, Nat.reduceSub, Array.replicate_succ, Array.replicate_zero, List.push_toArray, List.append_toArray, List.nil_append, List.cons_append]
  go_wp2_with (first
    | (go_at_call 34; refine (made_yes HI.out).mono ?_; rintro e w1 ⟨rfl, rfl⟩)
    | fail)
  refine (NewOsl w).mono ?_
  rintro e w1 ⟨rfl, hom, hg1⟩
  have HOM := Lib.hid hom
  have HG1 := Lib.hid hg1
  have db1 := (cellsOf (hg1.blk (Lay.blk HF.out.2.1))).1
  have lb1 := blkLt (hg1.blk (Lay.blk HF.out.2.1))
  clear hom hg1 db lb
  go_wp2_with fail
  obtain ⟨bm, hbm⟩ : ∃ q, q = w.heap.size := ⟨_, rfl⟩
  obtain ⟨bi, hbi⟩ : ∃ q, q = w1.heap.size := ⟨_, rfl⟩
  refine (AllOsl _ _).mono ?_
  rintro e w2 ⟨bb, rfl, k1, l1, hg⟩
  have HS2 : Hid (SW w (cpHd (bi + 1) bi bm (.slice none 0 0) [] (.slice none 0 0)) w2) := Lib.hid (by
    have h1 : SW w [omA bm (.slice none 0 0) []] w1 := (SW.start w).new HG1.out (by rw [hbm]; exact HOM.out) (fun k hk => hk.elim (fun e => by omega) (fun e => by cases e))
    have h2 := (h1.alloc (.cells #[.pointer (some ⟨w.heap.size, 0, none⟩), .slice none 0 0] 84)).alloc (.cells #[.pointer (some ⟨w1.heap.size, 0, none⟩)] 35)
    simp only [World.size_alloc] at h2
    rw [← hbi, ← hbm] at h2
    rw [← hbi, ← hbm] at hg
    exact h2.gr hg)
  have HBB : Hid (bi + 2 ≤ bb ∧ bb < w2.heap.size) := Lib.hid ⟨by simp only [World.size_alloc] at l1; omega, World.block_lt_of_cell? w2 _ k1⟩
  have HG2 : Hid (Gr w w2) := Lib.hid HS2.out.g
  have hKL : Y.KL.length ≤ 16384 := by
    have e1 := congrArg List.length HF.out.2.2.1.k
    simp only [List.length_map] at e1
    have e3 := HF.out.1.keys_le
    omega
  have HKL := Lib.hid hKL
  obtain ⟨A, hA⟩ : ∃ A : Nat → Prop, A = fun k => k = bb ∨ OMB (some ⟨Y.bm, 0, none⟩) Y.v k := ⟨_, rfl⟩
  have HOB : Hid (∀ k, OMB (some ⟨Y.bm, 0, none⟩) Y.v k → k < w.heap.size) := Lib.hid (fun k hk => HF.out.2.1.lt (A := omA Y.bm Y.v Y.KL) (by simp [Lay.list, Lay.hd]) k (hk.elim (fun ⟨a, e, hk⟩ => .inl (by cases e; exact hk)) .inr))
  have HAL : Hid (∀ k, A k → k < w2.heap.size) := Lib.hid (fun k hk => by
    rw [hA] at hk
    have := HG2.out.sz
    rcases hk with rfl | hk
    · exact HBB.out.2
    · have := HOB.out k hk; omega)
  have HSEQ : Hid (SeqZ Fence.wide 2 Tryz.prog 153 #[.pointer (some ⟨bb, 0, none⟩)] encOsl A (fun xs => xs = Y.KL) (fun pre => pre <+: Y.KL) w2) := Lib.hid (by
    rw [hA]
    exact SeqAsl (some ⟨Y.bm, 0, none⟩) Y.v Y.KL (by omega) bb w2 (.inl ⟨_, rfl, (Lay.om HF.out.2.1).gr HG2.out⟩) k1)
  have HCP0 : Hid (CpK Y X [] 0) := Lib.hid ⟨by simp⟩
  have HZ : Hid (SWz w w2 A (cpHd (bi + 1) bi bm (.slice none 0 0) [] (.slice none 0 0) ++ keyRows [] (X.keys.take 0)) (fun _ => False) w2) := Lib.hid (SWz.start (by simpa [keyRows] using HS2.out) (fun B hB k hk ha => by
    rw [List.take_zero] at hB
    have hB' : B ∈ cpHd (bi + 1) bi bm (.slice none 0 0) [] (.slice none 0 0) := by simpa [keyRows] using hB
    have l2 := HS2.out.n B hB' k hk
    rw [hA] at ha
    rcases ha with rfl | ha
    · have := HBB.out.1
      have hgz := HG1.out.sz
      simp only [cpHd, List.mem_cons, List.not_mem_nil, or_false] at hB'
      rcases hB' with rfl | rfl | rfl
      · have : k = bi + 1 := hk; omega
      · have : k = bi := hk; omega
      · rcases hk with e | e
        · omega
        · cases e
    · have := HOB.out k ha; omega))
  have HBI := Lib.hid (And.intro hbm hbi)
  rw [← hbm, ← hbi]
  clear k1 l1 hg hKL hA hbm hbi db1 lb1
  go_wp2_with fail
  apply wp_rangeFunc_zb (gf := 153) (lb := #[.pointer (some ⟨bb, 0, none⟩)]) rfl (enters_of Tryz.func153 (by kernel_rfl) rfl) HSEQ.out (Mdh.refl _ w2) HAL.out (fun _ => rfl)
    (fun Z pre X' => ∃ v KL, CpK Y X KL pre.length ∧ SWz w w2 A (cpHd (bi + 1) bi bm v KL (.slice none 0 0) ++ keyRows KL (X.keys.take pre.length)) Z X')
    (fun _ _ _ => False) (fun _ _ _ => False)
    (Apart.ex fun v => Apart.ex fun KL => (Apart.pure (fun pre : List Itsl => CpK Y X KL pre.length)).and (SWz.apart HG2.out.sz (fun pre : List Itsl => cpHd (bi + 1) bi bm v KL (.slice none 0 0) ++ keyRows KL (X.keys.take pre.length)))) apart_no apart_no
    ⟨_, _, HCP0.out, HZ.out⟩ _ ?assign ?body ?hend ?hret
  case hret => intro _ _ _ _ _ _ _ h; exact h.elim
  case assign =>
    intro l x X' K hK
    dsimp only [encOsl]
    gi_wp2
    exact hK
  case body =>
    intro l Z pre x X' hI hsp
    obtain ⟨v, KL, hcp, hZ⟩ := hI
    have HZI := Lib.hid hZ
    have HCP := Lib.hid hcp
    have hx : Y.KL[pre.length]? = some x := by
      obtain ⟨t, ht⟩ := hsp
      rw [← ht]
      simp
    obtain ⟨x1, x2⟩ := x
    obtain ⟨l', hl'⟩ : ∃ l', X.keys[pre.length]? = some (x1, l') := by
      have := keys_at HF.out.2.2.1.k pre.length
      rw [hx] at this
      cases h : X.keys[pre.length]? with
      | none => rw [h] at this; cases this
      | some y =>
        rw [h] at this
        obtain ⟨y1, y2⟩ := y
        have e : x1 = y1 := Option.some.inj this
        subst e
        exact ⟨y2, rfl⟩
    have HL' := Lib.hid hl'
    have HLE : Hid (l'.length ≤ 16384) := Lib.hid (by
      have h1 : X.of x1 = l' := by unfold IX.of; rw [(look_mem ordS HF.out.1.k0 x1 l').2 (List.mem_of_getElem? hl')]; rfl
      have := HF.out.1.of_le x1
      rwa [h1] at this)
    have HOW : Hid (Own X' 89 6 (slV x2) l'.length (rowE l')) := Lib.hid ((HF.out.2.1.get (Lay.key_mem hx hl')).gr hZ.s.g)
    have HB3 := Lib.hid (show X'.heap[bi + 1]? = _ from hZ.s.get (i := 0) rfl)
    have HBX := Lib.hid (show X'.heap[bi]? = _ from hZ.s.get (i := 1) rfl)
    have HOM' := Lib.hid (show OMsl X' bm v KL from hZ.s.get (i := 2) rfl)
    have HOML : Hid (∀ k, (k = bm ∨ v.ownBlock = some k) → k < X'.heap.size) := Lib.hid (fun k hk => hZ.s.s.lt (A := omA bm v KL) (by simp [cpHd]) k hk)
    have hKL : KL.length ≤ 16384 := by
      have e1 := congrArg List.length hcp.k
      simp only [List.length_map, List.length_take] at e1
      have := HF.out.1.keys_le
      omega
    have HKL := Lib.hid hKL
    have hbb : bm < bi := by have := blkLt HOM.out.blk; have := HBI.out; omega
    have m1 : ¬ bi + 1 = bm := by omega
    have m2 : ¬ v.ownBlock = some (bi + 1) := own_ne HOM'.out.own HB3.out (by decide)
    have m3 : ¬ bi = bm := by omega
    have m4 : ¬ v.ownBlock = some bi := own_ne HOM'.out.own HBX.out (by decide)
    have d3 := (cellsOf HB3.out).1
    have dx := (cellsOf HBX.out).1
    clear hcp hZ hsp hx hl' hKL
    obtain ⟨s1, s2, s3⟩ := x2
    simp only [slV] at *
    gi_wp2_with fail
    refine wpIn_region_flo (fun _ => trivial) rfl (fun k => k = bm ∨ v.ownBlock = some k) [] [] (by kernel_rfl) (by kernel_rfl) (HOML.out) ?_
    refine flo_seg 6 rfl ?_
    simp only [List.take_succ_cons, List.take_zero, List.drop_succ_cons, List.drop_zero]
    repeat (go_big_quiet_step (fail))
    refine wpQuiet_nil ?_
    refine flo_eff rfl rfl rfl rfl (fun K hK => ?_)
    gi_wp2_with ((refine ⟨trivial, ?_⟩; gi_at_call 70; refine (CallsIn.inRound l (callsIn_wide.2 (CloneE l' (by have := HLE.out; omega) (s1, s2, s3) X'.drew (HOW.out.gr (Gr.refl _).drew)))).mono ?_; rintro e w3 ⟨⟨q1, q2, q3⟩, rfl, ho3, hn3, hg3⟩; simp only [slV] at ho3 hn3; simp only [slV]; have HO3 := Lib.hid ho3; have HN3 := Lib.hid hn3; have HGD := Lib.hid hg3; have HG3 := Lib.hid (((Gr.refl _).drew).trans hg3); clear ho3 hn3 hg3))
    refine ⟨by first | exact HGD.out.mdh _ | exact HG3.out.mdh _, ?_⟩
    refine flo_eff rfl rfl rfl rfl (fun K hK => ?_)
    gi_wp2_with ((refine ⟨trivial, ?_⟩; gi_at_call 69; refine (CallsIn.inRound l (callsIn_wide.2 (Setsl bm v KL x1 (q1, q2, q3) w3 (HOM'.out.gr HG3.out) (by have := HKL.out; omega)))).mono ?_; rintro e w4 ⟨rfl, v', hm4, ho4, hd4⟩; have HM4 := Lib.hid hm4; have HO4 := Lib.hid ho4; have HD4 := Lib.hid hd4; clear hm4 ho4 hd4))
    refine ⟨by first | exact HD4.out | exact HD4.out.mono (fun k hk => .inl hk), ?_⟩
    refine flo_nil ?_
    gi_wp2_with fail
    have hp := HCP.out.put HF.out.1 HL'.out (q1, q2, q3)
    have hkl : KL.length = (X.keys.take pre.length).length := by simpa using congrArg List.length HCP.out.k
    have z4 := HZI.out.new HAL.out HG3.out (B := enA (q1, q2, q3) l') HO3.out HN3.out
    have z5 := z4.step (i := 3) (B' := omA bm v' (KL ++ [(x1, (q1, q2, q3))])) rfl HAL.out HD4.out (fun k hk => .inl hk) (by rw [← hp.1]; exact HM4.out) (fun k hk => hk.elim (fun e => .inl (.inl e)) (fun e => (HO4.out k e).imp .inr (fun h => h)))
    refine ⟨(HG3.out.mdh _).trans z5.2, v', KL ++ [(x1, (q1, q2, q3))], by rw [List.length_append]; exact hp.2, ?_⟩
    rw [List.length_append, show ([(x1, (s1, s2, s3))] : List Itsl).length = 1 from rfl, List.take_add_one, HL'.out, show (some (x1, l')).toList = [(x1, l')] from rfl, keyRows_snoc hkl]
    refine z5.1.perm ?_
    have e1 : ((enA (q1, q2, q3) l' :: (cpHd (bi + 1) bi bm v KL (.slice none 0 0) ++ keyRows KL (X.keys.take pre.length))).set 3 (omA bm v' (KL ++ [(x1, (q1, q2, q3))]))) = [enA (q1, q2, q3) l'] ++ (cpHd (bi + 1) bi bm v' (KL ++ [(x1, (q1, q2, q3))]) (.slice none 0 0) ++ keyRows KL (X.keys.take pre.length)) := rfl
    rw [e1]
    exact List.perm_append_comm.trans (by rw [List.append_assoc])
  case hend =>
    intro Z D xs W hD hZD hcase hdef
    obtain ⟨hxs, v, KL, hcp, hZ⟩ := hcase.elim (fun h => h) (fun h => h.2.elim)
    have hxs' : xs = Y.KL := hxs
    subst hxs'
    have hkl : Y.KL.length = X.keys.length := by simpa using congrArg List.length HF.out.2.2.1.k
    rw [hkl, List.take_length] at hZ
    have HK : Hid (KL.map Prod.fst = X.keys.map Prod.fst) := Lib.hid (by have := hcp.k; rwa [hkl, List.take_length] at this)
    have HD := Lib.hid (And.intro hD hdef)
    have hdz : ∀ B ∈ cpHd (bi + 1) bi bm v KL (.slice none 0 0) ++ keyRows KL X.keys, ∀ k, B.S k → k ≠ D := fun B hB k hk e => hZ.z B hB k hk (e ▸ hZD)
    have hnD : w.heap.size ≤ D := Nat.le_trans HG2.out.sz hD
    have HS0 : Hid (SW w (blkA D (.deferred (some [])) :: (cpHd (bi + 1) bi bm v KL (.slice none 0 0) ++ (rowA 85 1 (.slice none 0 0) 0 [] :: (keyRows KL X.keys ++ slotRows [] [])))) W) := Lib.hid (by
      have h1 : SW w (blkA D (.deferred (some [])) :: (cpHd (bi + 1) bi bm v KL (.slice none 0 0) ++ keyRows KL X.keys)) W := ⟨hZ.s.g, ⟨fun B hB => (List.mem_cons.1 hB).elim (fun e => e ▸ hdef) (hZ.s.s.1 B), List.pairwise_cons.2 ⟨fun B hB k hk hb => hdz B hB k hb hk, hZ.s.s.2⟩⟩, fun B hB k hk => (List.mem_cons.1 hB).elim (fun e => by rw [e] at hk; rw [show k = D from hk]; exact hnD) (fun e => hZ.s.n B e k hk)⟩
      have h2 := h1.new (Gr.refl _) (A := rowA 85 1 (.slice none 0 0) 0 []) (nilRow _ _ _) (fun k hk => by cases hk)
      refine h2.perm ?_
      rw [show slotRows [] [] = [] from rfl, List.append_nil]
      exact (List.perm_middle (l₁ := blkA D (.deferred (some [])) :: cpHd (bi + 1) bi bm v KL (.slice none 0 0))).symm)
    have HC : Hid (∃ g cap, w.heap[b]? = some (.cells #[.pointer (some ⟨Y.bm, 0, none⟩), .slice (some ⟨g, 0, none⟩) X.slots.length cap] 84) ∧ X.slots.length ≤ cap ∧ cap ≤ maxLen ∧ ∀ j l, X.slots[j]? = some l → ∃ s : Sl, w.cell? ⟨g, j, none⟩ = some (slV s) ∧ Own w 89 6 (slV s) l.length (rowE l)) := Lib.hid (by
      rcases (Lay.srow HF.out.2.1).2 with ⟨_, h0⟩ | ⟨g, cap, cur, hv, _, hg, c1, c2, c3, c4⟩
      · exact absurd (List.eq_nil_of_length_eq_zero h0) HI.out.pos
      · have hb := Lay.blk HF.out.2.1
        rw [hv] at hb
        refine ⟨g, cap, hb, c1, c2, fun j l hj => ?_⟩
        have hjl := (List.getElem?_eq_some_iff.1 hj).1
        have hs : X.has j = true := by simp [IX.has]; omega
        obtain ⟨i, sl, g', cap', e1, hlt, hsl, hsx, hsv, c1, c2, hc, ho, hm⟩ := Lay.slotE HF.out.2.1 HF.out.2.2.1 hs
        obtain rfl : j = i := by omega
        rw [hv] at hsv
        injection hsv with e2 _ _
        injection e2 with e2
        injection e2 with e2 _ _
        subst e2
        rw [hsx] at hj
        obtain rfl := Option.some.inj hj
        exact ⟨sl, hc, ho⟩)
    obtain ⟨g, cap, hb, hcn, hcm, hcs⟩ := HC.out
    have HCS := Lib.hid hcs
    have HGW := Lib.hid hZ.s.g
    have db := (cellsOf (hZ.s.g.blk hb)).1
    have h32 := HF.out.1.n
    unfold maxLen at hcm
    clear hcp hZ hcase hxs hdz hD hdef hnD hkl hb hcs
    dsimp only
    go_wp2_with fail
    go_loopw [34] (fun t34 wx => ∃ (j : Nat) (sv : Value) (SL : List Sl), j ≤ X.slots.length ∧ t34 = .int .i64 j ∧ Hid (SL.length = j ∧ SW w (blkA D (.deferred (some [])) :: (cpHd (bi + 1) bi bm v KL sv ++ (rowA 85 1 sv j (SL.map slV) :: (keyRows KL X.keys ++ slotRows SL (X.slots.take j))))) wx)) (fun t34 _ => X.slots.length - (intOf t34).toNat)
    case atStart => exact ⟨0, _, [], by omega, rfl, Lib.hid ⟨rfl, HS0.out⟩⟩
    case round =>
      obtain ⟨j, sv, SL, hj, rfl, HR⟩ := hrel
      by_cases hlt : j < X.slots.length
      · have hlt' : (j : Int) < X.slots.length := by omega
        obtain ⟨l, hl⟩ : ∃ l, X.slots[j]? = some l := ⟨_, List.getElem?_eq_getElem hlt⟩
        obtain ⟨⟨s1, s2, s3⟩, hc, ho⟩ := HCS.out j l hl
        simp only [slV] at hc ho
        have HL := Lib.hid hl
        have HOW := Lib.hid (ho.gr HR.out.2.g)
        have dg := HR.out.2.g.keep hc
        have db := (cellsOf (HR.out.2.g.blk (show w.heap[b]? = _ from HC.out.choose_spec.choose_spec.1))).1
        have HLL : Hid (l.length ≤ 512) := Lib.hid (by have := HF.out.1.slot_le j; rwa [slot_at hl] at this)
        have HB3 := Lib.hid (show wr.heap[bi + 1]? = _ from HR.out.2.get (i := 1) rfl)
        have HBX := Lib.hid (show wr.heap[bi]? = _ from HR.out.2.get (i := 2) rfl)
        have HSR := Lib.hid (show Own wr 85 1 sv j (SL.map slV) from HR.out.2.get (i := 4) rfl)
        have m2 : ¬ sv.ownBlock = some (bi + 1) := own_ne HSR.out HB3.out (by decide)
        have m4 : ¬ sv.ownBlock = some bi := own_ne HSR.out HBX.out (by decide)
        have HM4 := Lib.hid m4
        have d3 := (cellsOf HB3.out).1
        have dx := (cellsOf HBX.out).1
        have mixed : Tryz.prog.follows .mixedOrders = true := by kernel_rfl
        clear hl hc ho
        go_wp2_with fail
        refine wp_region_flt 9 (fun q => sv.ownBlock = some q) [] [] (by kernel_rfl) (by kernel_rfl) (by decide) (by kernel_rfl) (fun q hq => HSR.out.lt hq) ?_
        simp only [List.take_succ_cons, List.take_zero, List.drop_succ_cons, List.drop_zero]
        refine flo_seg 6 rfl ?_
        simp only [List.take_succ_cons, List.take_zero, List.drop_succ_cons, List.drop_zero]
        repeat (go_big_quiet_step (fail))
        refine wpQuiet_nil ?_
        refine flo_eff rfl rfl rfl rfl (fun K hK => ?_)
        go_wp2_with ((go_at_call 70; refine (CloneE l (by have := HLL.out; omega) (s1, s2, s3) wr.drew (HOW.out.gr (Gr.refl _).drew)).mono ?_; rintro e w3 ⟨⟨q1, q2, q3⟩, rfl, ho3, hn3, hg3⟩; simp only [slV] at ho3 hn3; simp only [slV]; have HO3 := Lib.hid ho3; have HN3 := Lib.hid hn3; have HGD := Lib.hid hg3; have HG3 := Lib.hid (((Gr.refl _).drew).trans hg3); clear ho3 hn3 hg3))
        refine ⟨by first | exact HGD.out.mdh _ | exact HG3.out.mdh _, ?_⟩
        refine flo_eff rfl rfl rfl rfl (fun K hK => ?_)
        go_wp2
        refine ⟨by (first | (refine Gr.mdh ?_ _; (repeat (first | (with_reducible exact Gr.refl _) | assumption | (with_reducible apply Gr.from_drew) | (with_reducible apply Gr.alloc) | (with_reducible apply Gr.drew) | (with_reducible refine Gr.trans ?_ (by assumption)) | (with_reducible refine Gr.setCell ?_ (by omega) _))); done) | (repeat (first | (with_reducible exact Mdh.refl _ _) | (with_reducible refine Mdh.setCell ?_ (by simp) _) | (with_reducible refine Mdh.setNew ?_ (by simp) _) | (with_reducible apply Mdh.alloc) | (with_reducible apply Mdh.from_drew) | (with_reducible apply Mdh.drew) | (with_reducible refine Mdh.gr ?_ (by assumption))))), ?_⟩
        refine flo_eff rfl rfl rfl rfl (fun K hK => ?_)
        refine wp_appv _ (.tmp 42) (.tmp 45) 82 rfl 85 i0 _ 1 24 Tryz.underlying82 hi hz0 hz1 hz2 rfl (by decide) sv j (SL.map slV) rfl ((HSR.out.gr HG3.out).gr (by (repeat (first | (with_reducible exact Gr.refl _) | assumption | (with_reducible apply Gr.from_drew) | (with_reducible apply Gr.alloc) | (with_reducible apply Gr.drew) | (with_reducible refine Gr.trans ?_ (by assumption)) | (with_reducible refine Gr.setCell ?_ (by omega) _))))) (some ⟨w3.heap.size, 0, none⟩) 1 1 [.slice q1 q2 q3] rfl ((src_newK w3 [.slice q1 q2 q3] _ 1 rfl (by simp [Value.oneCell'])).gr (by (repeat (first | (with_reducible exact Gr.refl _) | assumption | (with_reducible apply Gr.from_drew) | (with_reducible apply Gr.alloc) | (with_reducible apply Gr.drew) | (with_reducible refine Gr.trans ?_ (by assumption)) | (with_reducible refine Gr.setCell ?_ (by omega) _))))) (by simp only [maxLen]; omega) (by omega) (fun v' xa hk => ?_); obtain ⟨a', c', rfl⟩ := hk.val; have HK' := Lib.hid hk; refine hK _ _ ⟨hk.mdh (fun q hq => .inl hq), ?_⟩; simp only [Act.put, List.setIfInBounds_toArray, List.set_cons_succ, List.set_cons_zero]
        refine flo_nil ?_
        have z1 := HR.out.2.new HG3.out (A := enA (q1, q2, q3) l) HO3.out HN3.out
        have z2 := z1.gr ((Gr.refl w3).alloc (.cells #[.slice q1 q2 q3] 85))
        have hm := hk.mdh (fun g h => h)
        have z3 := z2.at (i := 5) (B := rowA 85 1 (.slice a' (j + 1) c') (j + 1) (SL.map slV ++ [Value.slice q1 q2 q3])) rfl hm (fun k hk => .inl hk) hk.1 (fun k hq => hk.2.1 k hq)
        have HZ3 := Lib.hid z3
        have b1 : xa.heap[bi]? = some (.cells #[.pointer (some ⟨bm, 0, none⟩), sv] 84) := HZ3.out.get (i := 3) rfl
        have HB1 := Lib.hid b1
        have f1 := (cellsOf b1).1
        have ff := (cellsOf b1).2
        clear hk z1 z2 z3 hm b1 m2 m4 d3 dx dg db
        go_wp2_with fail
        have z4 := HZ3.out.at (i := 3) (B := blkA bi (.cells #[.pointer (some ⟨bm, 0, none⟩), .slice a' (j + 1) c'] 84)) rfl ((Mdh.refl (fun k => k = bi) xa).setCell (p := ⟨bi, 1, none⟩) rfl (.slice a' (j + 1) c')) (fun k hk => .inl hk) (blkSet (j := 1) (u := .slice a' (j + 1) c') HB1.out) (fun k hk => .inl hk)
        have hsn : slotRows (SL ++ [(q1, q2, q3)]) (X.slots.take (j + 1)) = slotRows SL (X.slots.take j) ++ [enA (q1, q2, q3) l] := by
          rw [List.take_add_one, HL.out]
          exact slotRows_snoc (by rw [HR.out.1, List.length_take]; omega) _ _
        go_roundw
        case rel =>
          refine ⟨j + 1, .slice a' (j + 1) c', SL ++ [(q1, q2, q3)], by omega, by go_num, Lib.hid ⟨by rw [List.length_append, HR.out.1]; rfl, ?_⟩⟩
          rw [hsn, List.map_append]
          refine z4.perm ?_
          refine (List.perm_append_comm (l₁ := [enA (q1, q2, q3) l])).trans ?_
          simp only [cpHd, List.set_cons_succ, List.set_cons_zero, List.cons_append, List.nil_append, List.append_assoc]
          exact List.Perm.refl _
        case measure => simp [intOf]; omega
      · have hlt' : ¬ (j : Int) < X.slots.length := by omega
        obtain rfl : j = X.slots.length := by omega
        have d3 := (cellsOf (show wr.heap[bi + 1]? = _ from HR.out.2.get (i := 1) rfl)).1
        have hdef : wr.heap[D]? = some (.deferred (some [])) := HR.out.2.get (i := 0) rfl
        have HDF := Lib.hid hdef
        clear hdef
        go_wp2
        have hsep := HR.out.2.s.tail
        rw [List.take_length] at hsep
        have hnw := HR.out.2.n
        rw [List.take_length] at hnw
        have hds := HR.out.2.s.dis
        rw [List.take_length] at hds
        have hp : (cpHd (bi + 1) bi bm v KL sv ++ (rowA 85 1 sv X.slots.length (SL.map slV) :: (keyRows KL X.keys ++ slotRows SL X.slots))).Perm (blkA (bi + 1) (.cells #[.pointer (some ⟨bi, 0, none⟩)] 35) :: (⟨bm, v, sv, KL, SL⟩ : Lay).list bi X) := List.Perm.refl _
        have hm : Mdh (fun k => k = D) wr (wr.putObj D (.deferred none)) := (Mdh.refl (fun k => k = D) wr).putObj rfl _
        refine retM1 (D := D) (v := .pointer (some ⟨bi, 0, none⟩)) rfl HDF.out ?_ ⟨bi, fun k => ∃ B ∈ (⟨bm, v, sv, KL, SL⟩ : Lay).list bi X, B.S k, rfl, ⟨HF.out.1, HI.out.pos, ⟨bm, v, sv, KL, SL⟩, ?_, ⟨HK.out, HR.out.1⟩, fun k => Iff.rfl⟩, ?_, ?_⟩
        · simp [results, Tryz.results119, go_sem]
        · exact (hsep.perm hp).tail.mdh hm (fun B hB k hk hkD => hds B (hp.mem_iff.2 (List.mem_cons_of_mem _ hB)) k hkD hk)
        · rintro k ⟨B, hB, hk⟩
          exact hnw B (List.mem_cons_of_mem _ (hp.mem_iff.2 (List.mem_cons_of_mem _ hB))) k hk
        · exact HR.out.2.g.putObj (hnw _ (List.mem_cons_self ..) D rfl) _
end Go.Proofs.YtemjnppplmankaaGreat

/- Contract of index.New. -/
set_option linter.unusedVariables false
set_option linter.unusedSimpArgs false
namespace Go.Proofs.YtemjnppplmankaaGreat
open Go.RowKit
attribute [local go_sem] OvM cell_ovm obj_ovm

theorem infoList : (Tryz.prog.info? 85).map (fun i => (i.zero, i.size, i.bytes)) = some (some (.slice none 0 0), 1, 24) := by kernel_rfl
theorem new_bad (n : Int) (h : n < 1 ∨ 32 < n) (w : World) : Calls Tryz.prog 18 #[.int .i64 n] w fun e w' => e = .returned (.tuple #[.pointer none, .int .i64 2]) ∧ w = w' := by
  rcases h with h | h
  · go_enter Tryz.func18, Tryz.ntmps18
    go_wp2
    go_ret2
    exact ⟨rfl, rfl⟩
  · have h1 : ¬ n < 1 := by omega
    go_enter Tryz.func18, Tryz.ntmps18
    go_wp2
    go_ret2
    exact ⟨rfl, rfl⟩
theorem ixNew_pos {n : Nat} (h : 1 ≤ n) : (ixNew n).slots ≠ [] := by
  intro h0
  have := congrArg List.length h0
  simp [ixNew] at this
  omega
/-- The rows of empty slots. -/
theorem new_sep {w : World} {b bm g n : Nat} (hn : 1 ≤ n) (h1 : n ≤ 32) (hb : w.heap[b]? = some (.cells #[.pointer (some ⟨bm, 0, none⟩), .slice (some ⟨g, 0, none⟩) n n] 84)) (ho : OMsl w bm (.slice none 0 0) []) (hg : w.heap[g]? = some (.cells (madeCells #[.slice none 0 0] (n * 1)) 85))
    (n1 : b ≠ bm) (n2 : b ≠ g) (n3 : bm ≠ g) : IXR w b (ixNew n) (fun k => k = b ∨ k = bm ∨ k = g) := by
  have hrep : (List.replicate n ((none, 0, 0) : Sl)).map slV = List.replicate n (Value.slice none 0 0) := by simp [slV]
  have hrow : Own w 85 1 (.slice (some ⟨g, 0, none⟩) n n) n ((List.replicate n ((none, 0, 0) : Sl)).map slV) := by
    refine Own.ofParts hg (Nat.le_refl _) (by simp only [maxLen]; omega) (by rw [size_madeCells]) ?_
    rw [hrep]
    apply List.ext_getElem?
    intro i
    by_cases hi : i < n
    · rw [List.getElem?_take_of_lt (by omega), made_get _ n i hi]
      simp [hi]
    · rw [List.getElem?_eq_none (by simp [size_madeCells]; omega), List.getElem?_eq_none (by simp; omega)]
  have hemp : ∀ (m : Nat), ∀ A ∈ slotRows (List.replicate m ((none, 0, 0) : Sl)) (List.replicate m []), A = enA (none, 0, 0) [] := fun m A hA => by
    unfold slotRows at hA
    rw [List.zipWith_replicate] at hA
    exact (List.mem_replicate.1 hA).2
  have hno : ∀ k, ¬ (enA (none, 0, 0) []).S k := fun k h => by cases h
  refine ⟨new_wf h1, ixNew_pos hn, ⟨bm, .slice none 0 0, .slice (some ⟨g, 0, none⟩) n n, [], List.replicate n (none, 0, 0)⟩, ⟨fun A hA => ?_, ?_⟩, ⟨rfl, by simp [ixNew]⟩, fun k => ⟨fun hk => ?_, fun ⟨A, hA, hk⟩ => ?_⟩⟩
  · simp only [Lay.list, Lay.hd, List.mem_append, List.mem_cons, List.not_mem_nil, or_false, ixNew, List.length_replicate] at hA
    rcases hA with (rfl | rfl | rfl) | hA | hA
    · exact hb
    · exact ho
    · exact hrow
    · cases hA
    · rw [hemp n A hA]; exact nilRow w _ _
  · simp only [Lay.list, Lay.hd, ixNew, keyRows, List.zipWith_nil_left, List.nil_append, List.cons_append, List.length_replicate]
    refine List.pairwise_cons.2 ⟨fun A hA k h1 h2 => ?_, List.pairwise_cons.2 ⟨fun A hA k h1 h2 => ?_, List.pairwise_cons.2 ⟨fun A hA k h1 h2 => ?_, ?_⟩⟩⟩
    · have h1' : k = b := h1
      subst h1'
      simp only [List.mem_cons] at hA
      rcases hA with rfl | rfl | hA
      · rcases h2 with h | h
        · exact n1 h
        · cases h
      · exact n2 (Option.some.inj h2).symm
      · rw [hemp n A hA] at h2; exact hno _ h2
    · have h1' : k = bm := h1.elim (fun h => h) (fun h => by cases h)
      subst h1'
      simp only [List.mem_cons] at hA
      rcases hA with rfl | hA
      · exact n3 (Option.some.inj h2).symm
      · rw [hemp n A hA] at h2; exact hno _ h2
    · rw [hemp n A hA] at h2; exact hno _ h2
    · refine List.pairwise_of_forall_mem_list (fun A hA B hB k h1 h2 => ?_)
      rw [hemp n A hA] at h1; exact hno _ h1
  · rcases hk with rfl | rfl | rfl
    · exact ⟨blkA k _, by simp [Lay.list, Lay.hd]; exact .inl rfl, rfl⟩
    · exact ⟨omA k (.slice none 0 0) [], by simp [Lay.list, Lay.hd], .inl rfl⟩
    · exact ⟨rowA 85 1 (.slice (some ⟨k, 0, none⟩) n n) n ((List.replicate n ((none, 0, 0) : Sl)).map slV), by simp [Lay.list, Lay.hd, ixNew], rfl⟩
  · simp only [Lay.list, Lay.hd, List.mem_append, List.mem_cons, List.not_mem_nil, or_false, ixNew, List.length_replicate] at hA
    rcases hA with (rfl | rfl | rfl) | hA | hA
    · exact .inl hk
    · exact .inr (.inl (hk.elim (fun h => h) (fun h => by cases h)))
    · exact .inr (.inr (Option.some.inj hk).symm)
    · cases hA
    · rw [hemp n A hA] at hk; exact (hno _ hk).elim
set_option maxRecDepth 40000 in
set_option maxHeartbeats 1000000 in
theorem New_any (n : Nat) (w : World) (h1 : 1 ≤ n) (h2 : n ≤ 32) : Calls Tryz.prog 18 #[.int .i64 n] w fun e w' => ∃ b S, e = .returned (.tuple #[.pointer (some ⟨b, 0, none⟩), .int .i64 0]) ∧ IXR w' b (ixNew n) S ∧ (∀ k, S k → w.heap.size ≤ k) ∧ Gr w w' := by
  obtain ⟨i0, hi, hz0, hz1, hz2⟩ := info_parts infoList
  have hn1 : ¬ (n : Int) < 1 := by omega
  have hn2 : ¬ (32 : Int) < n := by omega
  have hm1 : ∀ w : World, (Instr.makeSlice 82 (.int .i64 (n : Int)) (.int .i64 (n : Int))).run Tryz.prog w = .ok (.slice (some ⟨w.heap.size, 0, none⟩) n n) (w.alloc (.cells (madeCells #[.slice none 0 0] (n * 1)) 85)) := fun w => by
    have := run_make (P := Tryz.prog) w 82 85 i0 _ Tryz.underlying82 hi hz0 .i64 .i64 n n (by omega) (by omega) (by rw [hz2]; omega) (by omega)
    rw [hz1] at this
    simp only [Int.toNat_natCast] at this
    exact this
  have HM1 := Lib.hid hm1
  clear hm1 hi hz0 hz1 hz2
  go_enter Tryz.func18, Tryz.ntmps18
  go_wp2
  have HG := Gr.refl w.drew
  refine wp_region_flo (fun _ => False) [12] [] (by kernel_rfl) (by kernel_rfl) (fun _ h => h.elim) ?_
  refine flo_effg rfl rfl rfl (fun wg1 hgg1 K hK => ?_)
  (try replace HG := Gr.trans (Gr.trans HG (by (repeat (first | (with_reducible exact Gr.refl _) | assumption | (with_reducible apply Gr.from_drew) | (with_reducible apply Gr.alloc) | (with_reducible apply Gr.drew) | (with_reducible refine Gr.trans ?_ (by assumption)) | (with_reducible refine Gr.setCell ?_ (by omega) _))))) hgg1)
  go_wp2_with fail; refine (NewOsl _).mono ?_; rintro e' wa1 ⟨rfl, hom, hg⟩; have HOM := Lib.hid hom; have HGA := Lib.hid (HG.trans hg); have HSZ := Lib.hid HG.sz; have HGW := Lib.hid hg; replace HG := HG.trans hg; clear hom hg; go_wp2_with fail; refine ⟨HGW.out.mdh _, ?_⟩
  refine flo_seg 1 rfl ?_
  simp only [List.take_succ_cons, List.take_zero, List.drop_succ_cons, List.drop_zero]
  repeat (go_big_quiet_step (fail))
  refine wpQuiet_nil ?_
  refine flo_float (fun b ↦ .slice (some ⟨b, 0, none⟩) n n) (.cells (madeCells #[.slice none 0 0] (n * 1)) 85 ) rfl rfl ( fun w ↦ by simp [go_sem, HM1.out w] ) (fun wf1 fb1 hgf1 fl1 fh1 ft1 fo1 => ?_)
  (try replace HG := Gr.trans (Gr.trans HG (by (repeat (first | (with_reducible exact Gr.refl _) | assumption | (with_reducible apply Gr.from_drew) | (with_reducible apply Gr.alloc) | (with_reducible apply Gr.drew) | (with_reducible refine Gr.trans ?_ (by assumption)) | (with_reducible refine Gr.setCell ?_ (by omega) _))))) hgf1)
  (try have fc1 := (cellsOf fo1).1)
  (try have ff1 := (cellsOf fo1).2)
  simp only [Act.put, List.setIfInBounds_toArray, List.set_cons_succ, List.set_cons_zero]
  refine flo_seg 1 rfl ?_
  simp only [List.take_succ_cons, List.take_zero, List.drop_succ_cons, List.drop_zero]
  repeat (go_big_quiet_step (fail))
  refine wpQuiet_nil ?_
  refine flo_eff rfl rfl rfl rfl (fun K hK => ?_)
  go_wp2
  refine ⟨by (first | (refine Gr.mdh ?_ _; (repeat (first | (with_reducible exact Gr.refl _) | assumption | (with_reducible apply Gr.from_drew) | (with_reducible apply Gr.alloc) | (with_reducible apply Gr.drew) | (with_reducible refine Gr.trans ?_ (by assumption)) | (with_reducible refine Gr.setCell ?_ (by omega) _))); done) | (repeat (first | (with_reducible exact Mdh.refl _ _) | (with_reducible refine Mdh.setCell ?_ (by simp) _) | (with_reducible refine Mdh.setNew ?_ (by simp) _) | (with_reducible apply Mdh.alloc) | (with_reducible apply Mdh.from_drew) | (with_reducible apply Mdh.drew) | (with_reducible refine Mdh.gr ?_ (by assumption))))), ?_⟩
  refine flo_seg 2 rfl ?_
  simp only [List.take_succ_cons, List.take_zero, List.drop_succ_cons, List.drop_zero]
  repeat (go_big_quiet_step (fail))
  refine wpQuiet_nil ?_
  refine flo_nil ?_
  have hf := Lib.hid (And.intro fo1 (And.intro HG (And.intro fl1 (And.intro fh1 (And.intro ft1 hgf1)))))
  clear fo1 HG fl1 fh1 ft1 hgf1 hgg1
  (try clear fc1 ff1)
  go_wp2
  go_ret2
  obtain ⟨fo1, HG, fl1, fh1, ft1, hgf1⟩ := hf.out
  have l1 := blkLt HOM.out.blk
  have l2 := hgf1.sz
  have l3 : w.heap.size ≤ wg1.heap.size := HSZ.out
  have l4 : w.heap.size ≤ wf1.heap.size := HG.sz
  refine ⟨wf1.heap.size, _, rfl, new_sep h1 h2 (blkNew wf1 _) ((HOM.out.gr hgf1).gr ((Gr.refl _).alloc _)) (blkOld fo1) (by omega) (by omega) (fun h => ft1 (.inr (by omega))), fun k hk => ?_, (Gr.of_drew HG).alloc _⟩
  rcases hk with rfl | rfl | rfl <;> omega
end Go.Proofs.YtemjnppplmankaaGreat

/- An index that was not made: Add, Drop, Copy; an index among other things. -/
set_option linter.unusedVariables false
set_option linter.unusedSimpArgs false
namespace Go.Proofs.YtemjnppplmankaaGreat
open Go.RowKit Go.Shelf
attribute [local go_sem] OvM cell_ovm obj_ovm
attribute [local go_sem] Oper.semAt_some

set_option maxRecDepth 40000 in
set_option maxHeartbeats 2000000 in
theorem AddN {w : World} {p : Option Addr} (h : IXN w p) (e : En) : Calls Tryz.prog 36 #[.pointer p, enV e] w fun e' w' => e' = .returned (.int .i64 1) ∧ Gr w w' := by
  have H := Lib.hid h
  clear h
  obtain ⟨e1, e2, e3, e4, e5, e6⟩ := e
  simp only [enV]
  refine calls_of_wp_marks Tryz.func36 rfl ?_
  simp only [Tryz.ntmps36, List.size_toArray, List.length_cons, List.length_nil, Nat.reduceAdd, Nat.reduceSub, Array.replicate_succ, Array.replicate_zero, List.push_toArray, List.append_toArray, List.nil_append, List.cons_append]
  go_wp2_with (go_at_call 34; refine (made_no (H.out.gr (by (repeat (first | (with_reducible exact Gr.refl _) | assumption | (with_reducible apply Gr.from_drew) | (with_reducible apply Gr.alloc) | (with_reducible apply Gr.drew) | (with_reducible refine Gr.trans ?_ (by assumption)) | (with_reducible refine Gr.setCell ?_ (by omega) _)))))).mono ?_; rintro e w1 ⟨rfl, rfl⟩)
  exact retM0 (v := .int .i64 1) (by simp [results, Tryz.results36, go_sem]) rfl ⟨rfl, by (repeat (first | (with_reducible exact Gr.refl _) | assumption | (with_reducible apply Gr.from_drew) | (with_reducible apply Gr.alloc) | (with_reducible apply Gr.drew) | (with_reducible refine Gr.trans ?_ (by assumption)) | (with_reducible refine Gr.setCell ?_ (by omega) _)))⟩
set_option maxRecDepth 40000 in
theorem DropN {w : World} {p : Option Addr} (h : IXN w p) (s : Int) : Calls Tryz.prog 40 #[.pointer p, .int .i64 s] w fun e' w' => e' = .returned (.tuple #[.int .i64 0, .int .i64 1]) ∧ Gr w w' := by
  have H := Lib.hid h
  clear h
  refine calls_of_wp_marks Tryz.func40 rfl ?_
  simp only [Tryz.ntmps40, List.size_toArray, List.length_cons, List.length_nil, Nat.reduceAdd, Nat.reduceSub, Array.replicate_succ, Array.replicate_zero, List.push_toArray, List.append_toArray, List.nil_append, List.cons_append]
  go_wp2_with (go_at_call 34; refine (made_no (H.out.gr (by (repeat (first | (with_reducible exact Gr.refl _) | assumption | (with_reducible apply Gr.from_drew) | (with_reducible apply Gr.alloc) | (with_reducible apply Gr.drew) | (with_reducible refine Gr.trans ?_ (by assumption)) | (with_reducible refine Gr.setCell ?_ (by omega) _)))))).mono ?_; rintro e w1 ⟨rfl, rfl⟩)
  exact retM0 (v := .tuple #[.int .i64 0, .int .i64 1]) (by simp [results, Tryz.results40, go_sem]) rfl ⟨rfl, by (repeat (first | (with_reducible exact Gr.refl _) | assumption | (with_reducible apply Gr.from_drew) | (with_reducible apply Gr.alloc) | (with_reducible apply Gr.drew) | (with_reducible refine Gr.trans ?_ (by assumption)) | (with_reducible refine Gr.setCell ?_ (by omega) _)))⟩
set_option maxRecDepth 40000 in
theorem CopyN {w : World} {p : Option Addr} (h : IXN w p) : Calls Tryz.prog 119 #[.pointer p] w fun e' w' => e' = .returned (.pointer none) ∧ Gr w w' := by
  have H := Lib.hid h
  clear h
  refine calls_of_wp_marks Tryz.func119 rfl ?_
  simp only [Tryz.ntmps119, List.size_toArray, List.length_cons, List.length_nil, Nat.reduceAdd, Nat.reduceSub, Array.replicate_succ, Array.replicate_zero, List.push_toArray, List.append_toArray, List.nil_append, List.cons_append]
  go_wp2_with (go_at_call 34; refine (made_no H.out).mono ?_; rintro e w1 ⟨rfl, rfl⟩)
  exact retM0 (v := .pointer none) (by simp [results, Tryz.results119, go_sem]) rfl ⟨rfl, by (repeat (first | (with_reducible exact Gr.refl _) | assumption | (with_reducible apply Gr.from_drew) | (with_reducible apply Gr.alloc) | (with_reducible apply Gr.drew) | (with_reducible refine Gr.trans ?_ (by assumption)) | (with_reducible refine Gr.setCell ?_ (by omega) _)))⟩
theorem ixp_none {w : World} {p : Option Addr} {X : IX} {S : Nat → Prop} (h : IXP w p X S) (h0 : X.slots = []) : IXN w p := by
  rcases h with ⟨b, e, h⟩ | ⟨h, _⟩
  · exact absurd h0 h.pos
  · exact h
theorem ixp_some {w : World} {p : Option Addr} {X : IX} {S : Nat → Prop} (h : IXP w p X S) (h0 : X.slots ≠ []) : ∃ b, p = some ⟨b, 0, none⟩ ∧ IXR w b X S := by
  rcases h with ⟨b, e, h⟩ | ⟨h, h1, _⟩
  · exact ⟨b, e, h⟩
  · rw [h1] at h0; exact absurd rfl h0
/-- What Copy returns. -/
def CopyQ (X : IX) (w : World) (e : Ending) (w' : World) : Prop := ∃ q, e = .returned (.pointer q) ∧ Gr w w' ∧ (q = none ↔ X.slots = []) ∧ ∃ S', IXP w' q X S' ∧ ∀ k, S' k → w.heap.size ≤ k
theorem Copy_any {w : World} {p : Option Addr} {X : IX} {S : Nat → Prop} (h : IXP w p X S) : Calls Tryz.prog 119 #[.pointer p] w (CopyQ X w) := by
  rcases h with ⟨b, rfl, h⟩ | ⟨h, h1, _⟩
  · refine (CopyX h).mono ?_
    rintro e w' ⟨b', S', rfl, h1, h2, h3⟩
    exact ⟨_, rfl, h3, ⟨(fun h0 => by cases h0), fun h0 => absurd h0 h.pos⟩, S', .inl ⟨b', rfl, h1⟩, h2⟩
  · refine (CopyN h).mono ?_
    rintro e w' ⟨rfl, hg⟩
    exact ⟨none, rfl, hg, ⟨fun _ => by rw [h1], fun _ => rfl⟩, fun _ => False, .inr ⟨.inl rfl, h1, fun k => ⟨fun h => h.elim, (fun ⟨a, ha, _⟩ => by cases ha)⟩⟩, fun k hk => hk.elim⟩
/-- An index among other things turns. -/
theorem SW.post {w0 w w' : World} {R : List Asn} {b : Nat} {X X' : IX} {S : Nat → Prop} (h : SW w0 (ixA b X S :: R) w) (p : IXPost b X' S w w') : ∃ S', SW w0 (ixA b X' S' :: R) w' := by
  obtain ⟨S', h1, h2, h3⟩ := p
  exact ⟨S', h.step h2 (fun k hk => .inl hk) h1 h3⟩
theorem SW.ix {w0 w : World} {R : List Asn} {b : Nat} {X : IX} {S : Nat → Prop} (h : SW w0 (ixA b X S :: R) w) : IXR w b X S := h.s.head
theorem SW.ixp {w0 w : World} {R : List Asn} {b : Nat} {X : IX} {S : Nat → Prop} (h : SW w0 (ixA b X S :: R) w) : IXP w (some ⟨b, 0, none⟩) X S := .inl ⟨b, rfl, h.s.head⟩
theorem SW.ixnew {w0 w w' : World} {R : List Asn} {b : Nat} {X : IX} {S : Nat → Prop} (h : SW w0 R w) (h1 : IXR w' b X S) (h2 : ∀ k, S k → w.heap.size ≤ k) (g : Gr w w') : SW w0 (ixA b X S :: R) w' := h.new g h1 h2
/-- A row behind an index. -/
theorem SW.row {w0 w w' : World} {R : List Asn} {A : Asn} {t : TypeId} {K n : Nat} {v : Value} {xs : List Value} (h : SW w0 (A :: R) w) (hr : Nw w w' t K v n xs) (g : Gr w w') : SW w0 (A :: rowA t K v n xs :: R) w' :=
  (h.new g (A := rowA t K v n xs) hr.own (fun k hk => hr.new k hk)).perm (List.Perm.swap _ _ _)
theorem SW.allocT {w0 w : World} {R : List Asn} {A : Asn} (h : SW w0 (A :: R) w) (o : Obj) : SW w0 (A :: blkA w.heap.size o :: R) (w.alloc o) := (h.alloc o).perm (List.Perm.swap _ _ _)
end Go.Proofs.YtemjnppplmankaaGreat
