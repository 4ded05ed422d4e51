/- An index as plain data: the entries of its slots, by offsets, and those of its keys, the newest first. No program in sight. -/
import Derived.Test.YtiidkehcfoajeaaOml
import Derived.Test.YtiidkehcfoajeaaOms
set_option linter.unusedVariables false
set_option linter.unusedSimpArgs false
namespace Go.Proofs.Ytiidkehcfoajeaa

/-- An entry. -/
structure En where
  seq : Int
  key : ByteArray
  del : Bool
  slot : Int
  off : Int
  size : Int
theorem En.ext' {a b : En} (h1 : a.seq = b.seq) (h2 : a.key = b.key) (h3 : a.del = b.del) (h4 : a.slot = b.slot) (h5 : a.off = b.off) (h6 : a.size = b.size) : a = b := by
  cases a; cases b; simp only at h1 h2 h3 h4 h5 h6; subst h1 h2 h3 h4 h5 h6; rfl
theorem En.eq_iff (a b : En) : a = b ↔ a.seq = b.seq ∧ a.key = b.key ∧ a.del = b.del ∧ a.slot = b.slot ∧ a.off = b.off ∧ a.size = b.size :=
  ⟨fun h => by subst h; exact ⟨rfl, rfl, rfl, rfl, rfl, rfl⟩, fun ⟨h1, h2, h3, h4, h5, h6⟩ => En.ext' h1 h2 h3 h4 h5 h6⟩
instance : DecidableEq En := fun a b => decidable_of_iff _ (En.eq_iff a b).symm
/-- An index. -/
structure IX where
  slots : List (List En)
  keys : List (ByteArray × List En)
/-- a comes ahead of b: it is newer, or a copy in a lower slot. -/
def ltE (a b : En) : Bool := decide (b.seq < a.seq ∨ (a.seq = b.seq ∧ a.slot < b.slot))
theorem ltE_irr (a : En) : ltE a a = false := by simp [ltE]
theorem ltE_trn {a b c : En} (h : ltE a b = true) (g : ltE b c = true) : ltE a c = true := by simp [ltE] at *; omega
theorem ltE_asym {a b : En} (h : ltE a b = true) : ltE b a = false := by simp [ltE] at *; omega
theorem ltE_tri {a b : En} (h : ltE a b = false) (g : ltE b a = false) : a.seq = b.seq ∧ a.slot = b.slot := by simp [ltE] at *; omega
def insP {α : Type} (p : α → Bool) (l : List α) (e : α) : List α := l.takeWhile p ++ e :: l.dropWhile p
theorem insP_perm {α : Type} (p : α → Bool) (l : List α) (e : α) : (insP p l e).Perm (e :: l) := by
  unfold insP
  have h : (l.takeWhile p ++ e :: l.dropWhile p).Perm (e :: (l.takeWhile p ++ l.dropWhile p)) := List.perm_middle
  rwa [List.takeWhile_append_dropWhile] at h
theorem insP_len {α : Type} (p : α → Bool) (l : List α) (e : α) : (insP p l e).length = l.length + 1 := (insP_perm p l e).length_eq
theorem insP_mem {α : Type} (p : α → Bool) (l : List α) (e x : α) : x ∈ insP p l e ↔ x = e ∨ x ∈ l := by rw [(insP_perm p l e).mem_iff]; simp
/-- How many at the front are as p says. -/
def cnt {α : Type} (p : α → Bool) (l : List α) : Nat := (l.takeWhile p).length
theorem cnt_le {α : Type} (p : α → Bool) (l : List α) : cnt p l ≤ l.length := (List.takeWhile_sublist p).length_le
theorem take_cnt {α : Type} (p : α → Bool) (l : List α) : l.take (cnt p l) = l.takeWhile p := by
  have := List.take_left' (l₁ := l.takeWhile p) (l₂ := l.dropWhile p) (i := cnt p l) rfl
  rwa [List.takeWhile_append_dropWhile] at this
theorem drop_cnt {α : Type} (p : α → Bool) (l : List α) : l.drop (cnt p l) = l.dropWhile p := by
  have := List.drop_left' (l₁ := l.takeWhile p) (l₂ := l.dropWhile p) (i := cnt p l) rfl
  rwa [List.takeWhile_append_dropWhile] at this
theorem insP_eq {α : Type} (p : α → Bool) (l : List α) (e : α) : insP p l e = l.take (cnt p l) ++ [e] ++ l.drop (cnt p l) := by
  rw [take_cnt, drop_cnt, insP]; simp
theorem cnt_lo {α : Type} (p : α → Bool) (l : List α) : ∀ j x, j < cnt p l → l[j]? = some x → p x = true := by
  intro j x hj hx
  have h1 : (l.take (cnt p l))[j]? = some x := by rw [List.getElem?_take_of_lt hj]; exact hx
  rw [take_cnt] at h1
  exact List.all_eq_true.1 (List.all_takeWhile (p := p) (l := l)) x (List.mem_of_getElem? h1)
theorem cnt_at {α : Type} (p : α → Bool) (l : List α) : ∀ x, l[cnt p l]? = some x → p x = false := by
  induction l with
  | nil => intro x h; simp at h
  | cons y l ih =>
    intro x h
    unfold cnt at h ih
    by_cases hy : p y = true
    · rw [List.takeWhile_cons_of_pos hy] at h; exact ih x (by simpa using h)
    · rw [List.takeWhile_cons_of_neg hy] at h; simp at h; subst h; simpa using hy
/-- Where those that are as p says stand ahead of the others. -/
theorem cnt_uniq {α : Type} (p : α → Bool) (l : List α) (r : Nat) (hr : r ≤ l.length) (h1 : ∀ j x, j < r → l[j]? = some x → p x = true) (h2 : ∀ j x, r ≤ j → l[j]? = some x → p x = false) : r = cnt p l := by
  rcases Nat.lt_trichotomy r (cnt p l) with h | h | h
  · have hl : r < l.length := Nat.lt_of_lt_of_le h (cnt_le p l)
    have := cnt_lo p l r _ h (List.getElem?_eq_getElem hl)
    rw [h2 r _ (Nat.le_refl _) (List.getElem?_eq_getElem hl)] at this
    cases this
  · exact h
  · have hl : cnt p l < l.length := by omega
    have := cnt_at p l _ (List.getElem?_eq_getElem hl)
    rw [h1 _ _ h (List.getElem?_eq_getElem hl)] at this
    cases this
theorem cnt_hi {α : Type} (p : α → Bool) {R : α → α → Prop} {l : List α} (s : l.Pairwise R) (hR : ∀ a b, R a b → p a = false → p b = false) : ∀ j x, cnt p l ≤ j → l[j]? = some x → p x = false := by
  intro j x hj hx
  obtain ⟨hlt, e⟩ := List.getElem?_eq_some_iff.1 hx
  have hc : cnt p l < l.length := by omega
  have h0 := cnt_at p l _ (List.getElem?_eq_getElem hc)
  rcases Nat.eq_or_lt_of_le hj with h | h
  · subst h; rw [List.getElem?_eq_getElem hc] at hx; exact (Option.some.inj hx) ▸ h0
  · rw [← e]; exact hR _ _ (List.pairwise_iff_getElem.1 s _ j hc hlt h) h0
/-- An element laid where it belongs. -/
theorem insP_pair {α : Type} {R : α → α → Prop} (p : α → Bool) {l : List α} (s : l.Pairwise R) (e : α) (h1 : ∀ x ∈ l, p x = true → R x e) (h2 : ∀ x ∈ l, p x = false → R e x) (hR : ∀ a b, R a b → p a = false → p b = false) : (insP p l e).Pairwise R := by
  have h3 : ∀ x ∈ l.dropWhile p, p x = false := fun x hx => by
    rw [← drop_cnt] at hx
    obtain ⟨i, hi, rfl⟩ := List.mem_iff_getElem.1 hx
    rw [List.getElem_drop]
    have hlt : cnt p l + i < l.length := by rw [List.length_drop] at hi; omega
    exact cnt_hi p s hR (cnt p l + i) _ (by omega) (List.getElem?_eq_getElem hlt)
  have h4 : ∀ x ∈ l.takeWhile p, p x = true := fun x hx => List.all_eq_true.1 (List.all_takeWhile (p := p) (l := l)) x hx
  have h5 := List.takeWhile_append_dropWhile (p := p) (l := l)
  rw [← h5] at s
  have h6 := List.pairwise_append.1 s
  refine List.pairwise_append.2 ⟨h6.1, List.pairwise_cons.2 ⟨fun x hx => h2 x ((List.dropWhile_sublist p).subset hx) (h3 x hx), h6.2.1⟩, fun x hx y hy => ?_⟩
  rcases List.mem_cons.1 hy with rfl | hy
  · exact h1 x ((List.takeWhile_sublist p).subset hx) (h4 x hx)
  · exact h6.2.2 x hx y hy
/-- Two lists in one strict order with the same members are one. -/
theorem pair_eq {α : Type} {R : α → α → Prop} (hi : ∀ a, ¬ R a a) (ht : ∀ a b c, R a b → R b c → R a c) : ∀ {l m : List α}, l.Pairwise R → m.Pairwise R → (∀ x, x ∈ l ↔ x ∈ m) → l = m
  | [], [], _, _, _ => rfl
  | [], y :: m, _, _, h => by have := (h y).2 (by simp); simp at this
  | x :: l, [], _, _, h => by have := (h x).1 (by simp); simp at this
  | x :: l, y :: m, hl, hm, h => by
    have hl' := List.pairwise_cons.1 hl
    have hm' := List.pairwise_cons.1 hm
    have e : x = y := by
      rcases List.mem_cons.1 ((h x).1 (by simp)) with e | hx
      · exact e
      · rcases List.mem_cons.1 ((h y).2 (by simp)) with e | hy
        · exact e.symm
        · exact absurd (ht _ _ _ (hl'.1 y hy) (hm'.1 x hx)) (hi x)
    subst e
    congr 1
    refine pair_eq hi ht hl'.2 hm'.2 (fun z => ⟨fun hz => ?_, fun hz => ?_⟩)
    · rcases List.mem_cons.1 ((h z).1 (List.mem_cons_of_mem _ hz)) with rfl | h1
      · exact absurd (hl'.1 _ hz) (hi _)
      · exact h1
    · rcases List.mem_cons.1 ((h z).2 (List.mem_cons_of_mem _ hz)) with rfl | h1
      · exact absurd (hm'.1 _ hz) (hi _)
      · exact h1

/-! ### The index -/
def keyC (c : UInt8) : Bool := c == 45 || c == 46 || (48 ≤ c && c ≤ 57) || c == 95 || (97 ≤ c && c ≤ 122)
/-- What key.Check says. -/
def keyChk (k : ByteArray) : Int := if k.toList.all keyC = false then 2 else if k.size = 0 then 2 else if 32 < k.size then 12 else 0
def validE (e : En) : Bool := decide (keyChk e.key = 0 ∧ 1 ≤ e.seq ∧ e.seq ≤ 1099511627776 ∧ 0 ≤ e.off ∧ 16 + (e.key.size : Int) ≤ e.size ∧ (e.size = 16 + (e.key.size : Int) ∨ e.del = false) ∧ e.size ≤ 8192 ∧ e.off ≤ 8192 - e.size)
def IX.of (X : IX) (k : ByteArray) : List En := (look ltS X.keys k).getD []
def IX.slot (X : IX) (s : Int) : List En := if 0 ≤ s then X.slots.getD s.toNat [] else []
def IX.has (X : IX) (s : Int) : Bool := decide (0 ≤ s ∧ s < X.slots.length)
def IX.ents (X : IX) : List En := X.slots.flatten
def badE (e o : En) : Bool := decide (o.seq = e.seq ∧ ({ o with slot := e.slot, off := e.off } : En) ≠ e)
def sameE (e o : En) : Bool := decide (o.seq = e.seq ∧ o.slot = e.slot)
def offP (off : Int) (o : En) : Bool := decide (o.off < off)
/-- It meets one of the slot's. -/
def clash (s : List En) (e : En) : Bool :=
  (match s[cnt (offP e.off) s]? with | some o => decide (o.off = e.off) || decide (o.off < e.off + e.size) | none => false) ||
  (decide (0 < cnt (offP e.off) s) && (match s[cnt (offP e.off) s - 1]? with | some o => decide (e.off < o.off + o.size) | none => false))
def addE (X : IX) (e : En) : Int :=
  if X.slots = [] then 1 else if X.has e.slot = false then 3 else if validE e = false then 2 else if (X.of e.key).any (badE e) = true then 2
  else if ((X.of e.key).any (sameE e) || clash (X.slot e.slot) e) = true then 6 else 0
def addX (X : IX) (e : En) : IX :=
  if addE X e = 0 then ⟨X.slots.set e.slot.toNat (insP (offP e.off) (X.slot e.slot) e), putL ltS X.keys e.key (insP (fun o => ltE o e) (X.of e.key) e)⟩ else X
def ixNew (n : Nat) : IX := ⟨List.replicate n [], []⟩
structure SlotOk (i : Int) (l : List En) : Prop where
  p : l.Pairwise (fun a b => a.off + a.size ≤ b.off)
  e : ∀ e ∈ l, e.slot = i ∧ validE e = true
structure KeyOk (k : ByteArray) (l : List En) : Prop where
  ne : l ≠ []
  p : l.Pairwise (fun a b => ltE a b = true)
  e : ∀ e ∈ l, e.key = k
structure IX.Wf (X : IX) : Prop where
  n : X.slots.length ≤ 32
  z : X.slots = [] → X.keys = []
  s : ∀ (i : Nat) l, X.slots[i]? = some l → SlotOk i l
  k0 : Srt ltS X.keys
  k : ∀ x ∈ X.keys, KeyOk x.1 x.2
  v : (X.keys.flatMap Prod.snd).Perm X.slots.flatten
  c : ∀ a ∈ X.slots.flatten, ∀ b ∈ X.slots.flatten, a.key = b.key → a.seq = b.seq → a.del = b.del ∧ a.size = b.size
section
variable {X : IX}
theorem valid_iff (e : En) : validE e = true ↔ (keyChk e.key = 0 ∧ 1 ≤ e.seq ∧ e.seq ≤ 1099511627776 ∧ 0 ≤ e.off ∧ 16 + (e.key.size : Int) ≤ e.size ∧ (e.size = 16 + (e.key.size : Int) ∨ e.del = false) ∧ e.size ≤ 8192 ∧ e.off ≤ 8192 - e.size) := by
  unfold validE; exact decide_eq_true_iff
theorem slot_at {i : Nat} {l : List En} (h : X.slots[i]? = some l) : X.slot i = l := by
  unfold IX.slot; rw [if_pos (by omega), List.getD_eq_getElem?_getD]; simp [h]
theorem slot_out {s : Int} (h : X.has s = false) : X.slot s = [] := by
  unfold IX.slot
  split
  · rw [List.getD_eq_getElem?_getD, List.getElem?_eq_none]
    · rfl
    · simp [IX.has] at h; omega
  · rfl
theorem has_at {s : Int} (h : X.has s = true) : ∃ i : Nat, s = i ∧ X.slots[i]? = some (X.slot s) := by
  simp [IX.has] at h
  refine ⟨s.toNat, by omega, ?_⟩
  have hlt : s.toNat < X.slots.length := by omega
  unfold IX.slot
  rw [if_pos h.1, List.getD_eq_getElem?_getD, List.getElem?_eq_getElem hlt]
  rfl
theorem IX.Wf.slotOk (h : X.Wf) (s : Int) : SlotOk s (X.slot s) := by
  cases hs : X.has s with
  | false => rw [slot_out hs]; exact ⟨List.Pairwise.nil, fun e he => by cases he⟩
  | true => obtain ⟨i, rfl, hi⟩ := has_at hs; exact h.s i _ hi
theorem IX.Wf.slot_mem (h : X.Wf) (s : Int) (e : En) : e ∈ X.slot s ↔ e ∈ X.ents ∧ e.slot = s := by
  constructor
  · intro he
    refine ⟨?_, ((h.slotOk s).e e he).1⟩
    cases hs : X.has s with
    | false => rw [slot_out hs] at he; cases he
    | true => obtain ⟨i, rfl, hi⟩ := has_at hs; exact List.mem_flatten.2 ⟨_, List.mem_of_getElem? hi, he⟩
  · rintro ⟨he, rfl⟩
    obtain ⟨l, hl, he⟩ := List.mem_flatten.1 he
    obtain ⟨i, hi⟩ := List.mem_iff_getElem?.1 hl
    rw [((h.s i l hi).e e he).1, slot_at hi]
    exact he
theorem IX.Wf.keyOk (h : X.Wf) {k : ByteArray} (hk : X.of k ≠ []) : KeyOk k (X.of k) := by
  unfold IX.of at hk ⊢
  cases hl : look ltS X.keys k with
  | none => rw [hl] at hk; exact absurd rfl hk
  | some l => exact h.k (k, l) ((look_mem ordS h.k0 k l).1 hl)
theorem IX.Wf.ofPair (h : X.Wf) (k : ByteArray) : (X.of k).Pairwise (fun a b => ltE a b = true) := by
  by_cases hk : X.of k = []
  · rw [hk]; exact List.Pairwise.nil
  · exact (h.keyOk hk).p
theorem IX.Wf.of_mem (h : X.Wf) (k : ByteArray) (e : En) : e ∈ X.of k ↔ e ∈ X.ents ∧ e.key = k := by
  constructor
  · intro he
    have hk : X.of k ≠ [] := fun h0 => by rw [h0] at he; cases he
    refine ⟨?_, (h.keyOk hk).e e he⟩
    unfold IX.of at he
    cases hl : look ltS X.keys k with
    | none => rw [hl] at he; cases he
    | some l =>
      rw [hl] at he
      exact h.v.mem_iff.1 (List.mem_flatMap.2 ⟨(k, l), (look_mem ordS h.k0 k l).1 hl, he⟩)
  · rintro ⟨he, rfl⟩
    obtain ⟨⟨k, l⟩, hx, hl⟩ := List.mem_flatMap.1 (h.v.mem_iff.2 he)
    have hk := (h.k _ hx).e e hl
    unfold IX.of
    rw [hk, (look_mem ordS h.k0 k l).2 hx]
    exact hl
theorem IX.Wf.valid (h : X.Wf) {e : En} (he : e ∈ X.ents) : validE e = true ∧ X.has e.slot = true := by
  obtain ⟨l, hl, h1⟩ := List.mem_flatten.1 he
  obtain ⟨i, hi⟩ := List.mem_iff_getElem?.1 hl
  have h2 := (h.s i l hi).e e h1
  exact ⟨h2.2, by have := (List.getElem?_eq_some_iff.1 hi).1; simp [IX.has, h2.1]; omega⟩
theorem slot_len (i : Int) : ∀ (l : List En), SlotOk i l → ∀ o : Int, (∀ e ∈ l, o ≤ e.off) → l ≠ [] → 16 * (l.length : Int) + o ≤ 8192
  | [], _, _, _, h => absurd rfl h
  | [a], h, o, ho, _ => by
    have h1 := (valid_iff a).1 (h.e a (by simp)).2
    have h2 := ho a (by simp)
    simp
    omega
  | a :: b :: l, h, o, ho, _ => by
    have hp := List.pairwise_cons.1 h.p
    have h1 := (valid_iff a).1 (h.e a (by simp)).2
    have h2 := ho a (by simp)
    have h3 := slot_len i (b :: l) ⟨hp.2, fun e he => h.e e (List.mem_cons_of_mem _ he)⟩ (o + 16) (fun e he => by have := hp.1 e he; omega) (by simp)
    simp at h3 ⊢
    omega
theorem IX.Wf.slot_le (h : X.Wf) (s : Int) : (X.slot s).length ≤ 512 := by
  by_cases h0 : X.slot s = []
  · rw [h0]; simp
  · have := slot_len s _ (h.slotOk s) 0 (fun e he => by have := (valid_iff e).1 ((h.slotOk s).e e he).2; omega) h0
    omega
theorem flatten_le (n : Nat) : ∀ (L : List (List En)), (∀ l ∈ L, l.length ≤ n) → L.flatten.length ≤ n * L.length
  | [], _ => by simp
  | l :: L, h => by
    have h1 := flatten_le n L (fun m hm => h m (List.mem_cons_of_mem _ hm))
    have h2 := h l (by simp)
    simp only [List.flatten_cons, List.length_append, List.length_cons, Nat.mul_add]
    omega
theorem IX.Wf.ents_le (h : X.Wf) : X.ents.length ≤ 16384 := by
  have h1 := flatten_le 512 X.slots (fun l hl => by
    obtain ⟨i, hi⟩ := List.mem_iff_getElem?.1 hl
    have := h.slot_le i
    rwa [slot_at hi] at this)
  have := h.n
  unfold IX.ents
  omega
theorem flatMap_ge : ∀ (L : List (ByteArray × List En)), (∀ x ∈ L, x.2 ≠ []) → L.length ≤ (L.flatMap Prod.snd).length ∧ ∀ x ∈ L, x.2.length ≤ (L.flatMap Prod.snd).length
  | [], _ => ⟨by simp, fun x hx => by cases hx⟩
  | y :: L, h => by
    have h1 := flatMap_ge L (fun m hm => h m (List.mem_cons_of_mem _ hm))
    have h2 : 0 < y.2.length := List.length_pos_iff.2 (h y (by simp))
    simp only [List.flatMap_cons, List.length_append, List.length_cons]
    refine ⟨by omega, fun x hx => ?_⟩
    rcases List.mem_cons.1 hx with rfl | hx
    · omega
    · have := h1.2 x hx; omega
theorem IX.Wf.keys_le (h : X.Wf) : X.keys.length ≤ 16384 := by
  have h1 := (flatMap_ge X.keys (fun x hx => (h.k x hx).ne)).1
  rw [h.v.length_eq] at h1
  exact Nat.le_trans h1 h.ents_le
theorem IX.Wf.of_le (h : X.Wf) (k : ByteArray) : (X.of k).length ≤ 16384 := by
  unfold IX.of
  cases hl : look ltS X.keys k with
  | none => simp
  | some l =>
    have h1 := (flatMap_ge X.keys (fun x hx => (h.k x hx).ne)).2 _ ((look_mem ordS h.k0 k l).1 hl)
    rw [h.v.length_eq] at h1
    exact Nat.le_trans h1 h.ents_le
end
theorem new_wf {n : Nat} (h : n ≤ 32) : (ixNew n).Wf := by
  refine ⟨by simpa [ixNew] using h, fun _ => rfl, fun i l hl => ?_, List.Pairwise.nil, (fun x hx => by cases hx), ?_, ?_⟩
  · obtain ⟨hlt, rfl⟩ := List.getElem?_eq_some_iff.1 hl
    simp only [ixNew, List.getElem_replicate]
    exact ⟨List.Pairwise.nil, fun e he => by cases he⟩
  · simp [ixNew]
  · simp [ixNew]
end Go.Proofs.Ytiidkehcfoajeaa
