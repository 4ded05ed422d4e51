/-
  A region that draws its order, of which the last operations each wait for all ahead of them: the first ones are walked as a
  region that draws, the last ones one by one. No program in sight.
-/
import Derived.Test.YtiidkehcfoajeaaFlo
set_option linter.unusedVariables false
set_option linter.unusedSimpArgs false
namespace Go.Proofs.Ytiidkehcfoajeaa
open Go.RowKit

/-- In a list of operations: each waits for earlier ones alone; from the k-th on each waits for all ahead of it; no guards. -/
def tailB (l : List Oper) (k : Nat) : Bool :=
  l.all (fun o => o.guard.isNone) &&
  (List.range l.length).all (fun i => ((l[i]?).map fun o => o.after.all fun e => !Region.binds .any e || decide (e.on < i)).getD true) &&
  (List.range l.length).all (fun i => decide (i < k) || (List.range i).all fun j => reachB l.toArray 6 j i)

def listedAt (n i : Nat) : Array Bool := ((List.range n).map fun j => decide (j < i)).toArray
theorem listedAt_get (n i j : Nat) (d : Bool) (hj : j < n) : (listedAt n i).getD j d = decide (j < i) := by
  simp [listedAt, hj]
theorem listedAt_out (n i j : Nat) (d : Bool) (hj : n ≤ j) : (listedAt n i).getD j d = d := by
  simp [listedAt, Nat.not_lt.2 hj]
theorem listedAt_set (n i : Nat) (_hi : i < n) : (listedAt n i).setIfInBounds i true = listedAt n (i + 1) := by
  apply Array.ext
  · simp [listedAt]
  · intro j h1 h2
    simp only [listedAt, Array.size_setIfInBounds, List.size_toArray, List.length_map, List.length_range] at h1 h2
    simp [listedAt, Array.getElem_setIfInBounds, h2]
    by_cases h : i = j <;> simp [h] <;> omega

theorem wanted_none {o : Oper} (h : o.guard = none) (f : Nat → Option Bool) : Region.wanted o f = true := by simp [Region.wanted, h]

/-- What is left is what the first operations leave it to. -/
def thenQ (Q : Exit → Act → World → Prop) (T : Act → World → Prop) : Exit → Act → World → Prop
  | .normal, a, w => T a w
  | e, a, w => Q e a w

section
variable {P : Program} {l : List Oper} {k : Nat} {Q : Exit → Act → World → Prop}
theorem tail_parts (h : tailB l k = true) : (∀ o ∈ l, o.guard = none) ∧ (∀ i o, l[i]? = some o → ∀ e ∈ o.after, Region.binds .any e = true → e.on < i) ∧ ∀ i o, l[i]? = some o → k ≤ i → ∀ j < i, reachB l.toArray 6 j i = true := by
  simp only [tailB, Bool.and_eq_true, List.all_eq_true, List.mem_range] at h
  obtain ⟨⟨h1, h2⟩, h3⟩ := h
  refine ⟨fun o ho => by simpa using h1 o ho, fun i o ho e he hb => ?_, fun i o ho hk j hj => ?_⟩
  · have := h2 i (List.getElem?_eq_some_iff.1 ho).1
    simp only [ho, Option.map_some, Option.getD_some, Array.all_eq_true'] at this
    have := this e he
    simp only [hb, Bool.not_true, Bool.false_or, decide_eq_true_eq] at this
    exact this
  · have := h3 i (List.getElem?_eq_some_iff.1 ho).1
    simp only [Bool.or_eq_true, decide_eq_true_eq, Nat.not_lt.2 hk, false_or, List.all_eq_true, List.mem_range] at this
    exact this j hj

theorem listedAt_closed (h : tailB l k = true) (i : Nat) (hi : i < l.length) : Closed l.toArray (listedAt l.length i) := by
  obtain ⟨_, h2, _⟩ := tail_parts h
  intro j o ho hl e he hb
  have ho' : l[j]? = some o := by simpa using ho
  have hj := (List.getElem?_eq_some_iff.1 ho').1
  have := h2 j o ho' e he hb
  rw [listedAt_get _ _ _ _ hj] at hl
  rw [listedAt_get _ _ _ _ (by omega)]
  simp at hl ⊢
  omega
theorem ready_at (h : tailB l k = true) {i : Nat} (hk : k ≤ i) (hi : i < l.length) : ∀ j, j ∈ Region.ready .any l.toArray (listedAt l.length i) ↔ j = i := by
  obtain ⟨_, h2, h3⟩ := tail_parts h
  intro j
  rw [mem_ready]
  constructor
  · rintro ⟨hun, o, ho, hall⟩
    have ho' : l[j]? = some o := by simpa using ho
    have hj := (List.getElem?_eq_some_iff.1 ho').1
    rw [listedAt_get _ _ _ _ hj] at hun
    have hij : i ≤ j := by simpa using hun
    rcases Nat.lt_or_ge i j with hlt | hge
    · have := reach_listed (listedAt_closed h i hi) 6 i j o ho hall (h3 j o ho' (by omega) i hlt)
      rw [listedAt_get _ _ _ _ hi] at this
      simp at this
    · omega
  · rintro rfl
    refine ⟨by rw [listedAt_get _ _ _ _ hi]; simp, l[j], by simp [hi], fun e he hb => ?_⟩
    have := h2 j l[j] (List.getElem?_eq_getElem hi) e he hb
    rw [listedAt_get _ _ _ _ (by omega)]
    simpa using this
theorem ready_end (n : Nat) (ops : Array Oper) (hn : ops.size = n) : Region.ready .any ops (listedAt n n) = [] := by
  refine List.eq_nil_iff_forall_not_mem.2 fun i hi => ?_
  obtain ⟨h0, o, ho, _⟩ := mem_ready.1 hi
  have := (Array.getElem?_eq_some_iff.1 ho).1
  rw [listedAt_get _ _ _ _ (by omega)] at h0
  simp at h0
  omega
theorem least {p : Nat → Prop} : ∀ N, (∃ i, i < N ∧ p i) → ∃ i, i < N ∧ p i ∧ ∀ j < i, ¬ p j := by
  intro N
  induction N with
  | zero => rintro ⟨i, h, _⟩; omega
  | succ N ih =>
    rintro ⟨i, hi, hp⟩
    by_cases h : ∃ i, i < N ∧ p i
    · obtain ⟨j, h1, h2⟩ := ih h
      exact ⟨j, by omega, h2⟩
    · refine ⟨i, hi, hp, fun j hj hpj => h ⟨j, by omega, hpj⟩⟩

/-- How the list of those that are done goes on. -/
def ext (listed : Array Bool) (n : Nat) : Array Bool := listed ++ Array.replicate n false
theorem ext_lt {listed : Array Bool} {n j : Nat} {d : Bool} (h : j < listed.size) : (ext listed n).getD j d = listed.getD j d := by
  simp [ext, Array.getD_eq_getD_getElem?, Array.getElem?_append_left h]
theorem ext_ge {listed : Array Bool} {n j : Nat} {d : Bool} (h : listed.size ≤ j) (h2 : j < listed.size + n) : (ext listed n).getD j d = false := by
  have : (Array.replicate n false)[j - listed.size]? = some false := by rw [Array.getElem?_eq_getElem (by simp; omega)]; simp
  simp [ext, Array.getD_eq_getD_getElem?, Array.getElem?_append_right h, this]
theorem ext_set {listed : Array Bool} {n i : Nat} (h : i < listed.size) : (ext listed n).setIfInBounds i true = ext (listed.setIfInBounds i true) n := by
  simp [ext, Array.setIfInBounds_append_left, h]
theorem ext_full {listed : Array Bool} {n m : Nat} (hs : listed.size = m) (h : ∀ i < m, listed.getD i true = true) : ext listed n = listedAt (m + n) m := by
  apply Array.ext
  · simp [ext, listedAt, hs]
  · intro j h1 h2
    have e1 : (ext listed n).getD j true = (listedAt (m + n) m).getD j true := by
      have hj : j < m + n := by simpa [listedAt] using h2
      rw [listedAt_get _ _ _ _ hj]
      by_cases hjm : j < m
      · rw [ext_lt (by omega), h j hjm]; simp [hjm]
      · rw [ext_ge (by omega) (by omega)]; simp [hjm]
    simpa [Array.getD_eq_getD_getElem?, Array.getElem?_eq_getElem h1, Array.getElem?_eq_getElem h2] using e1
end

section
variable {F : Fence} {n : Nat} {P : Program} {l : List Oper} {k : Nat} {Q : Exit → Act → World → Prop}
theorem wpIn_thenQ {o : Oper} {a : Act} {w : World} {K K' : Act → World → Prop} {T : Act → World → Prop} (hk : ∀ a w, K a w → K' a w) (h : o.wpIn F n P a w K (thenQ Q T)) : o.wpIn F n P a w K' Q := by
  have h := Oper.wpIn_mono hk h
  unfold Oper.wpIn at h ⊢
  refine ⟨h.1, ?_⟩
  have h := h.2
  generalize (o.semAt F.round a.eval).run P w = r at h ⊢
  cases r with
  | ok x w' => cases x <;> exact h
  | halt x w' => cases x <;> exact h
theorem anyIn_tail (h : tailB l k = true) : ∀ m i a w, i + m = l.length → k ≤ i → wpListIn F n P l.toArray Q (l.drop i) a w → wpAnyIn F n P .any l.toArray Q m (listedAt l.length i) a w := by
  obtain ⟨h1, _, _⟩ := tail_parts h
  intro m
  induction m with
  | zero =>
    intro i a w hi _ hw
    obtain rfl : i = l.length := by omega
    rw [List.drop_length] at hw
    exact ⟨ready_end _ _ (by simp), hw⟩
  | succ m ih =>
    intro i a w hi hk hw
    have hlt : i < l.length := by omega
    have hr := ready_at h hk hlt
    rw [List.drop_eq_getElem_cons hlt] at hw
    simp only [wpListIn, wanted_none (h1 _ (List.getElem_mem hlt)), if_true] at hw
    refine ⟨fun h0 => absurd ((hr i).2 rfl) (by simp [h0]), fun j hj => ?_⟩
    obtain rfl := (hr j).1 hj
    unfold wpOpIn
    simp only [List.getElem?_toArray, List.getElem?_eq_getElem hlt, wanted_none (h1 _ (List.getElem_mem hlt)), if_true]
    refine Oper.wpIn_mono (fun a' w' hw' => ?_) hw
    rw [listedAt_set _ _ hlt]
    exact ih (j + 1) a' w' (by omega) (by omega) hw'
theorem anyIn_cut (l1 l2 : List Oper) (h : tailB (l1 ++ l2) l1.length = true) : ∀ m (listed : Array Bool) (a : Act) (w : World), listed.size = l1.length → (∀ j, j < l1.length → listed.getD j true = false → 0 < m) →
    wpAnyIn F n P .any l1.toArray (thenQ Q (wpListIn F n P (l1 ++ l2).toArray Q l2)) m listed a w →
    (∃ L : List Nat, L.length = m ∧ L.Nodup ∧ ∀ j, j ∈ L ↔ j < l1.length ∧ listed.getD j true = false) → Closed (l1 ++ l2).toArray (ext listed l2.length) → wpAnyIn F n P .any (l1 ++ l2).toArray Q (m + l2.length) (ext listed l2.length) a w := by
  obtain ⟨h1, h2, h3⟩ := tail_parts h
  intro m
  induction m with
  | zero =>
    intro listed a w hsz hun hw _ _
    have hall : ∀ i < l1.length, listed.getD i true = true := fun i hi => by
      cases hc : listed.getD i true with
      | true => rfl
      | false => exact absurd (hun i hi hc) (by omega)
    rw [ext_full hsz hall, ← List.length_append]
    refine anyIn_tail h _ _ _ _ (by simp) (Nat.le_refl _) ?_
    rw [List.drop_left]
    exact hw.2
  | succ m ih =>
    rintro listed a w hsz _ hw ⟨L, hL, hnd, hmem⟩ hcl
    have hsub : ∀ i ∈ Region.ready .any (l1 ++ l2).toArray (ext listed l2.length), i < l1.length ∧ i ∈ Region.ready .any l1.toArray listed := by
      intro i hi
      obtain ⟨hun, o, ho, hall⟩ := mem_ready.1 hi
      have ho' : (l1 ++ l2)[i]? = some o := by simpa using ho
      have hlt : i < l1.length := by
        rcases Nat.lt_or_ge i l1.length with hlt | hge
        · exact hlt
        · exfalso
          obtain ⟨j, hj⟩ : ∃ j, j ∈ L := by
            cases L with
            | nil => simp at hL
            | cons x L => exact ⟨x, List.mem_cons_self⟩
          obtain ⟨j1, j2⟩ := (hmem j).1 hj
          have := reach_listed hcl 6 j i o ho hall (h3 i o ho' hge j (by omega))
          rw [ext_lt (by omega)] at this
          rw [Array.getD_eq_getD_getElem?, Array.getElem?_eq_getElem (by omega)] at this j2
          simp_all
      refine ⟨hlt, mem_ready.2 ⟨by rw [ext_lt (by omega)] at hun; exact hun, o, by rw [List.getElem?_append_left hlt] at ho'; simpa using ho', fun e he hb => ?_⟩⟩
      have := hall e he hb
      rwa [ext_lt (by have := h2 i o ho' e he hb; omega)] at this
    rw [show m + 1 + l2.length = (m + l2.length) + 1 by omega]
    refine ⟨fun h0 => ?_, fun i hi => ?_⟩
    · exfalso
      obtain ⟨i, hi, hp, hlo⟩ := least (p := fun j => listed.getD j true = false) l1.length (by
        cases L with
        | nil => simp at hL
        | cons x L => exact ⟨x, (hmem x).1 List.mem_cons_self⟩)
      have : i ∈ Region.ready .any (l1 ++ l2).toArray (ext listed l2.length) := by
        have hil : (l1 ++ l2)[i]? = some l1[i] := by rw [List.getElem?_append_left hi, List.getElem?_eq_getElem hi]
        refine mem_ready.2 ⟨by rw [ext_lt (by omega)]; exact hp, l1[i], by simpa using hil, fun e he hb => ?_⟩
        have he' := h2 i _ hil e he hb
        rw [ext_lt (by omega)]
        have := hlo _ he'
        rw [Array.getD_eq_getD_getElem?, Array.getElem?_eq_getElem (by omega)] at this ⊢
        simpa using this
      rw [h0] at this
      cases this
    · obtain ⟨hlt, hi1⟩ := hsub i hi
      have hw := hw.2 i hi1
      unfold wpOpIn at hw ⊢
      have hil : (l1 ++ l2)[i]? = some l1[i] := by rw [List.getElem?_append_left hlt, List.getElem?_eq_getElem hlt]
      have hg := h1 l1[i] (List.mem_append_left _ (List.getElem_mem hlt))
      simp only [List.getElem?_toArray, hil, wanted_none hg, if_true]
      simp only [List.getElem?_toArray, List.getElem?_eq_getElem hlt, wanted_none hg, if_true] at hw
      refine wpIn_thenQ (fun a' w' hk => ?_) hw
      rw [ext_set (by omega)]
      have hiL : i ∈ L := (hmem i).2 ⟨hlt, (mem_ready.1 hi1).1⟩
      have hset : ∀ j, (listed.setIfInBounds i true).getD j true = if j = i then true else listed.getD j true := fun j => by
        simp only [Array.getD_eq_getD_getElem?, Array.getElem?_setIfInBounds]
        by_cases hij : i = j
        · subst hij; simp [hsz, hlt]
        · simp [hij, Ne.symm hij]
      have hset' : ∀ j, ((ext listed l2.length).setIfInBounds i true).getD j false = if j = i then true else (ext listed l2.length).getD j false := fun j => by
        have hsx : i < (ext listed l2.length).size := by simp [ext]; omega
        simp only [Array.getD_eq_getD_getElem?, Array.getElem?_setIfInBounds]
        by_cases hij : i = j
        · subst hij; simp [hsx]
        · simp [hij, Ne.symm hij]
      refine ih _ a' w' (by simpa using hsz) (fun j hj hc => ?_) hk ⟨L.erase i, by rw [List.length_erase_of_mem hiL, hL]; rfl, hnd.erase i, fun j => ?_⟩ (fun j o ho hl e he hb => ?_)
      · rw [hset] at hc
        split at hc
        · cases hc
        · rename_i hne
          have : j ∈ L.erase i := (List.mem_erase_of_ne hne).2 ((hmem j).2 ⟨hj, hc⟩)
          have := List.length_pos_of_mem this
          rw [List.length_erase_of_mem hiL, hL] at this
          omega
      · rw [hnd.mem_erase_iff, hmem, hset]
        constructor
        · rintro ⟨hne, hj, hc⟩; exact ⟨hj, by simp [hne, hc]⟩
        · rintro ⟨hj, hc⟩
          split at hc
          · cases hc
          · rename_i hne; exact ⟨hne, hj, hc⟩
      · rw [← ext_set (by omega), hset'] at hl ⊢
        have hall : ∀ e ∈ o.after, Region.binds .any e = true → (ext listed l2.length).getD e.on false = true := by
          by_cases hji : j = i
          · subst hji
            obtain ⟨_, o', ho', hall⟩ := mem_ready.1 hi
            obtain rfl := Option.some.inj (ho.symm.trans ho')
            exact hall
          · rw [if_neg hji] at hl
            exact fun e he hb => hcl j o ho hl e he hb
        split
        · rfl
        · exact hall e he hb
/-- **A REGION THAT DRAWS, WITH FLOATS, whose last operations come one by one.** -/
theorem wpIn_region_flt (k : Nat) (hF : ∀ f, F.fn f) (hD : F.depth = none) (S : Nat → Prop) (fl loud : List Tmp) {id : Nat} {a : Act} {w : World} (hm : P.follows .mixedOrders = true) (ht : tailB l k = true) (hk : k ≤ l.length) (hB : floB (l.take k).toArray fl loud = true) (hS : ∀ k, S k → k < w.heap.size)
    (h : floL P (l.take k).toArray S w fl loud (fun o a w K => o.wpIn F n P a w K NoEx) (wpListIn F n P l.toArray Q (l.drop k)) (l.take k) (fun _ => False) a w.drew) : (Code.region id l.toArray true).wpIn F n P Q a w := by
  have hlen : (l.take k).length = k := by rw [List.length_take]; omega
  have ht' : tailB (l.take k ++ l.drop k) (l.take k).length = true := by rw [List.take_append_drop, hlen]; exact ht
  refine wpIn_region_any hm ?_
  have hw1 : wpAnyIn F n P .any (l.take k).toArray (thenQ Q (wpListIn F n P l.toArray Q (l.drop k))) k (Array.replicate k false) a w.drew := by
    refine flo_anyIn (S := S) (w0 := w) (Q := wpListIn F n P l.toArray Q (l.drop k)) hF hD hB hS (fun _ _ _ h => h) _ (List.range' 0 k) _ (fun _ => False) a _ (by simp) ?_ (fun i => ?_) ?_ (by simp [hlen]) ⟨Nat.le_refl _, fun _ _ _ => rfl, rfl, rfl, rfl⟩ (fun _ h => h.elim) ?_
    · rw [← List.range_eq_range']; exact List.pairwise_lt_range
    · rw [← List.range_eq_range', List.mem_range]
      constructor
      · intro hi; exact ⟨by simp only [List.size_toArray, hlen]; exact hi, by simp [hi]⟩
      · intro hi; simpa [hlen] using hi.1
    · intro i o ho hl
      exfalso
      rcases Nat.lt_or_ge i k with h' | h'
      · simp [h'] at hl
      · simp [Nat.not_lt.2 h'] at hl
    · have := floI_of_L (P := P) (ops := (l.take k).toArray) (S := S) (w0 := w) (fl := fl) (loud := loud) (W := fun o a w K => o.wpIn F n P a w K NoEx) (Q := wpListIn F n P l.toArray Q (l.drop k)) (l.take k) 0 (by simp)
      rw [hlen] at this
      rw [this]; exact h
  have := anyIn_cut (Q := Q) (l.take k) (l.drop k) ht' k (Array.replicate k false) a w.drew (by simp [hlen]) (fun j hj _ => by rw [hlen] at hj; omega) (by rw [List.take_append_drop]; exact hw1)
    ⟨List.range k, by simp, List.nodup_range, fun j => by
      rw [List.mem_range, hlen]
      constructor
      · intro hj; exact ⟨hj, by simp [hj]⟩
      · intro hj; exact hj.1⟩ (fun j o _ hl => by
        exfalso
        rcases Nat.lt_or_ge j (k + (l.drop k).length) with hj | hj
        · have : (ext (Array.replicate k false) (l.drop k).length)[j]? = some false := by
            rw [ext, Array.replicate_append_replicate, Array.getElem?_eq_getElem (by simpa using hj)]; simp
          rw [Array.getD_eq_getD_getElem?, this] at hl; cases hl
        · have : (ext (Array.replicate k false) (l.drop k).length)[j]? = none := by
            rw [ext, Array.replicate_append_replicate]; exact Array.getElem?_eq_none (by simpa using hj)
          rw [Array.getD_eq_getD_getElem?, this] at hl; cases hl)
  rw [List.take_append_drop] at this
  have e : k + (l.drop k).length = l.toArray.size := by simp; omega
  rw [e] at this
  have e2 : ext (Array.replicate k false) (l.drop k).length = Array.replicate l.toArray.size false := by
    rw [ext, Array.replicate_append_replicate, e]
  rw [e2] at this
  exact this
end

/-! ### The plain walk -/
section
variable {P : Program} {l : List Oper} {k : Nat} {Q : Exit → Act → World → Prop}
theorem wp_thenQ {o : Oper} {a : Act} {w : World} {K K' : Act → World → Prop} {T : Act → World → Prop} (hk : ∀ a w, K a w → K' a w) (h : o.wp P a w K (thenQ Q T)) : o.wp P a w K' Q := by
  have h := Oper.wp_mono hk h
  unfold Oper.wp at h ⊢
  generalize (execOp a.eval o).run P w = r at h ⊢
  cases r with
  | ok x w' => cases x <;> exact h
  | halt x w' => cases x <;> exact h
theorem any_tail (h : tailB l k = true) : ∀ m i a w, i + m = l.length → k ≤ i → wpList P l.toArray Q (l.drop i) a w → wpAny P .any l.toArray Q m (listedAt l.length i) a w := by
  obtain ⟨h1, _, _⟩ := tail_parts h
  intro m
  induction m with
  | zero =>
    intro i a w hi _ hw
    obtain rfl : i = l.length := by omega
    rw [List.drop_length] at hw
    exact ⟨ready_end _ _ (by simp), hw⟩
  | succ m ih =>
    intro i a w hi hk hw
    have hlt : i < l.length := by omega
    have hr := ready_at h hk hlt
    rw [List.drop_eq_getElem_cons hlt] at hw
    simp only [wpList, wanted_none (h1 _ (List.getElem_mem hlt)), if_true] at hw
    refine ⟨fun h0 => absurd ((hr i).2 rfl) (by simp [h0]), fun j hj => ?_⟩
    obtain rfl := (hr j).1 hj
    unfold wpOp
    simp only [List.getElem?_toArray, List.getElem?_eq_getElem hlt, wanted_none (h1 _ (List.getElem_mem hlt)), if_true]
    refine hw.imp (Oper.wp_mono fun a' w' hw' => ?_) id
    rw [listedAt_set _ _ hlt]
    exact ih (j + 1) a' w' (by omega) (by omega) hw'
theorem any_cut (l1 l2 : List Oper) (h : tailB (l1 ++ l2) l1.length = true) : ∀ m (listed : Array Bool) (a : Act) (w : World), listed.size = l1.length → (∀ j, j < l1.length → listed.getD j true = false → 0 < m) →
    wpAny P .any l1.toArray (thenQ Q (wpList P (l1 ++ l2).toArray Q l2)) m listed a w →
    (∃ L : List Nat, L.length = m ∧ L.Nodup ∧ ∀ j, j ∈ L ↔ j < l1.length ∧ listed.getD j true = false) → Closed (l1 ++ l2).toArray (ext listed l2.length) → wpAny P .any (l1 ++ l2).toArray Q (m + l2.length) (ext listed l2.length) a w := by
  obtain ⟨h1, h2, h3⟩ := tail_parts h
  intro m
  induction m with
  | zero =>
    intro listed a w hsz hun hw _ _
    have hall : ∀ i < l1.length, listed.getD i true = true := fun i hi => by
      cases hc : listed.getD i true with
      | true => rfl
      | false => exact absurd (hun i hi hc) (by omega)
    rw [ext_full hsz hall, ← List.length_append]
    refine any_tail h _ _ _ _ (by simp) (Nat.le_refl _) ?_
    rw [List.drop_left]
    exact hw.2
  | succ m ih =>
    rintro listed a w hsz _ hw ⟨L, hL, hnd, hmem⟩ hcl
    have hsub : ∀ i ∈ Region.ready .any (l1 ++ l2).toArray (ext listed l2.length), i < l1.length ∧ i ∈ Region.ready .any l1.toArray listed := by
      intro i hi
      obtain ⟨hun, o, ho, hall⟩ := mem_ready.1 hi
      have ho' : (l1 ++ l2)[i]? = some o := by simpa using ho
      have hlt : i < l1.length := by
        rcases Nat.lt_or_ge i l1.length with hlt | hge
        · exact hlt
        · exfalso
          obtain ⟨j, hj⟩ : ∃ j, j ∈ L := by
            cases L with
            | nil => simp at hL
            | cons x L => exact ⟨x, List.mem_cons_self⟩
          obtain ⟨j1, j2⟩ := (hmem j).1 hj
          have := reach_listed hcl 6 j i o ho hall (h3 i o ho' hge j (by omega))
          rw [ext_lt (by omega)] at this
          rw [Array.getD_eq_getD_getElem?, Array.getElem?_eq_getElem (by omega)] at this j2
          simp_all
      refine ⟨hlt, mem_ready.2 ⟨by rw [ext_lt (by omega)] at hun; exact hun, o, by rw [List.getElem?_append_left hlt] at ho'; simpa using ho', fun e he hb => ?_⟩⟩
      have := hall e he hb
      rwa [ext_lt (by have := h2 i o ho' e he hb; omega)] at this
    rw [show m + 1 + l2.length = (m + l2.length) + 1 by omega]
    refine ⟨fun h0 => ?_, fun i hi => ?_⟩
    · exfalso
      obtain ⟨i, hi, hp, hlo⟩ := least (p := fun j => listed.getD j true = false) l1.length (by
        cases L with
        | nil => simp at hL
        | cons x L => exact ⟨x, (hmem x).1 List.mem_cons_self⟩)
      have : i ∈ Region.ready .any (l1 ++ l2).toArray (ext listed l2.length) := by
        have hil : (l1 ++ l2)[i]? = some l1[i] := by rw [List.getElem?_append_left hi, List.getElem?_eq_getElem hi]
        refine mem_ready.2 ⟨by rw [ext_lt (by omega)]; exact hp, l1[i], by simpa using hil, fun e he hb => ?_⟩
        have he' := h2 i _ hil e he hb
        rw [ext_lt (by omega)]
        have := hlo _ he'
        rw [Array.getD_eq_getD_getElem?, Array.getElem?_eq_getElem (by omega)] at this ⊢
        simpa using this
      rw [h0] at this
      cases this
    · obtain ⟨hlt, hi1⟩ := hsub i hi
      have hw := hw.2 i hi1
      unfold wpOp at hw ⊢
      have hil : (l1 ++ l2)[i]? = some l1[i] := by rw [List.getElem?_append_left hlt, List.getElem?_eq_getElem hlt]
      have hg := h1 l1[i] (List.mem_append_left _ (List.getElem_mem hlt))
      simp only [List.getElem?_toArray, hil, wanted_none hg, if_true]
      simp only [List.getElem?_toArray, List.getElem?_eq_getElem hlt, wanted_none hg, if_true] at hw
      refine hw.imp (wp_thenQ fun a' w' hk => ?_) id
      rw [ext_set (by omega)]
      have hiL : i ∈ L := (hmem i).2 ⟨hlt, (mem_ready.1 hi1).1⟩
      have hset : ∀ j, (listed.setIfInBounds i true).getD j true = if j = i then true else listed.getD j true := fun j => by
        simp only [Array.getD_eq_getD_getElem?, Array.getElem?_setIfInBounds]
        by_cases hij : i = j
        · subst hij; simp [hsz, hlt]
        · simp [hij, Ne.symm hij]
      have hset' : ∀ j, ((ext listed l2.length).setIfInBounds i true).getD j false = if j = i then true else (ext listed l2.length).getD j false := fun j => by
        have hsx : i < (ext listed l2.length).size := by simp [ext]; omega
        simp only [Array.getD_eq_getD_getElem?, Array.getElem?_setIfInBounds]
        by_cases hij : i = j
        · subst hij; simp [hsx]
        · simp [hij, Ne.symm hij]
      refine ih _ a' w' (by simpa using hsz) (fun j hj hc => ?_) hk ⟨L.erase i, by rw [List.length_erase_of_mem hiL, hL]; rfl, hnd.erase i, fun j => ?_⟩ (fun j o ho hl e he hb => ?_)
      · rw [hset] at hc
        split at hc
        · cases hc
        · rename_i hne
          have : j ∈ L.erase i := (List.mem_erase_of_ne hne).2 ((hmem j).2 ⟨hj, hc⟩)
          have := List.length_pos_of_mem this
          rw [List.length_erase_of_mem hiL, hL] at this
          omega
      · rw [hnd.mem_erase_iff, hmem, hset]
        constructor
        · rintro ⟨hne, hj, hc⟩; exact ⟨hj, by simp [hne, hc]⟩
        · rintro ⟨hj, hc⟩
          split at hc
          · cases hc
          · rename_i hne; exact ⟨hne, hj, hc⟩
      · rw [← ext_set (by omega), hset'] at hl ⊢
        have hall : ∀ e ∈ o.after, Region.binds .any e = true → (ext listed l2.length).getD e.on false = true := by
          by_cases hji : j = i
          · subst hji
            obtain ⟨_, o', ho', hall⟩ := mem_ready.1 hi
            obtain rfl := Option.some.inj (ho.symm.trans ho')
            exact hall
          · rw [if_neg hji] at hl
            exact fun e he hb => hcl j o ho hl e he hb
        split
        · rfl
        · exact hall e he hb
/-- **A REGION THAT DRAWS, WITH FLOATS, whose last operations come one by one.** -/
theorem wp_region_flt (k : Nat) (S : Nat → Prop) (fl loud : List Tmp) {id : Nat} {a : Act} {w : World} (hm : P.follows .mixedOrders = true) (ht : tailB l k = true) (hk : k ≤ l.length) (hB : floB (l.take k).toArray fl loud = true) (hS : ∀ k, S k → k < w.heap.size)
    (h : floL P (l.take k).toArray S w fl loud (fun o a w K => o.wp P a w K NoEx) (wpList P l.toArray Q (l.drop k)) (l.take k) (fun _ => False) a w.drew) : (Code.region id l.toArray true).wp P Q a w := by
  have hlen : (l.take k).length = k := by rw [List.length_take]; omega
  have ht' : tailB (l.take k ++ l.drop k) (l.take k).length = true := by rw [List.take_append_drop, hlen]; exact ht
  refine wp_region_any hm ?_
  have hw1 : wpAny P .any (l.take k).toArray (thenQ Q (wpList P l.toArray Q (l.drop k))) k (Array.replicate k false) a w.drew := by
    refine flo_any (S := S) (w0 := w) (Q := wpList P l.toArray Q (l.drop k)) hB hS (fun _ _ _ h => h) _ (List.range' 0 k) _ (fun _ => False) a _ (by simp) ?_ (fun i => ?_) ?_ (by simp [hlen]) ⟨Nat.le_refl _, fun _ _ _ => rfl, rfl, rfl, rfl⟩ (fun _ h => h.elim) ?_
    · rw [← List.range_eq_range']; exact List.pairwise_lt_range
    · rw [← List.range_eq_range', List.mem_range]
      constructor
      · intro hi; exact ⟨by simp only [List.size_toArray, hlen]; exact hi, by simp [hi]⟩
      · intro hi; simpa [hlen] using hi.1
    · intro i o ho hl
      exfalso
      rcases Nat.lt_or_ge i k with h' | h'
      · simp [h'] at hl
      · simp [Nat.not_lt.2 h'] at hl
    · have := floI_of_L (P := P) (ops := (l.take k).toArray) (S := S) (w0 := w) (fl := fl) (loud := loud) (W := fun o a w K => o.wp P a w K NoEx) (Q := wpList P l.toArray Q (l.drop k)) (l.take k) 0 (by simp)
      rw [hlen] at this
      rw [this]; exact h
  have := any_cut (Q := Q) (l.take k) (l.drop k) ht' k (Array.replicate k false) a w.drew (by simp [hlen]) (fun j hj _ => by rw [hlen] at hj; omega) (by rw [List.take_append_drop]; exact hw1)
    ⟨List.range k, by simp, List.nodup_range, fun j => by
      rw [List.mem_range, hlen]
      constructor
      · intro hj; exact ⟨hj, by simp [hj]⟩
      · intro hj; exact hj.1⟩ (fun j o _ hl => by
        exfalso
        rcases Nat.lt_or_ge j (k + (l.drop k).length) with hj | hj
        · have : (ext (Array.replicate k false) (l.drop k).length)[j]? = some false := by
            rw [ext, Array.replicate_append_replicate, Array.getElem?_eq_getElem (by simpa using hj)]; simp
          rw [Array.getD_eq_getD_getElem?, this] at hl; cases hl
        · have : (ext (Array.replicate k false) (l.drop k).length)[j]? = none := by
            rw [ext, Array.replicate_append_replicate]; exact Array.getElem?_eq_none (by simpa using hj)
          rw [Array.getD_eq_getD_getElem?, this] at hl; cases hl)
  rw [List.take_append_drop] at this
  have e : k + (l.drop k).length = l.toArray.size := by simp; omega
  rw [e] at this
  have e2 : ext (Array.replicate k false) (l.drop k).length = Array.replicate l.toArray.size false := by
    rw [ext, Array.replicate_append_replicate, e]
  rw [e2] at this
  exact this
end
end Go.Proofs.Ytiidkehcfoajeaa
