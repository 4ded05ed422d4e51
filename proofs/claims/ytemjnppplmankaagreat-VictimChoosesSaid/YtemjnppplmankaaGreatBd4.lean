/- An index as plain data: the entries of its slots, by offsets, and those of its keys, the newest first. No program in sight. -/
import Derived.Test.YtemjnppplmankaaGreatBd3
import Derived.Test.YtemjnppplmankaaGreatRows
import Derived.BigQuiet
import Derived.Deep.QuietTactic
import Derived.Deep.DeepMust
import Derived.WalkKit
import Derived.Lib.Hide
import Derived.Deep.CutBlock
import Derived.Deep.DeepCutAuto
set_option linter.unusedVariables false
set_option linter.unusedSimpArgs false
namespace Go.Proofs.YtemjnppplmankaaGreat

/-- An entry. -/
structure En where
  seq : Int
  key : ByteArray
  del : Bool
  slot : Int
  off : Int
  size : Int
theorem En.ext' {a b : En} (h1 : a.seq = b.seq) (h2 : a.key = b.key) (h3 : a.del = b.del) (h4 : a.slot = b.slot) (h5 : a.off = b.off) (h6 : a.size = b.size) : a = b := by
  cases a; cases b; simp only at h1 h2 h3 h4 h5 h6; subst h1 h2 h3 h4 h5 h6; rfl
theorem En.eq_iff (a b : En) : a = b ↔ a.seq = b.seq ∧ a.key = b.key ∧ a.del = b.del ∧ a.slot = b.slot ∧ a.off = b.off ∧ a.size = b.size :=
  ⟨fun h => by subst h; exact ⟨rfl, rfl, rfl, rfl, rfl, rfl⟩, fun ⟨h1, h2, h3, h4, h5, h6⟩ => En.ext' h1 h2 h3 h4 h5 h6⟩
instance : DecidableEq En := fun a b => decidable_of_iff _ (En.eq_iff a b).symm
/-- An index. -/
structure IX where
  slots : List (List En)
  keys : List (ByteArray × List En)
/-- a comes ahead of b: it is newer, or a copy in a lower slot. -/
def ltE (a b : En) : Bool := decide (b.seq < a.seq ∨ (a.seq = b.seq ∧ a.slot < b.slot))
theorem ltE_irr (a : En) : ltE a a = false := by simp [ltE]
theorem ltE_trn {a b c : En} (h : ltE a b = true) (g : ltE b c = true) : ltE a c = true := by simp [ltE] at *; omega
theorem ltE_asym {a b : En} (h : ltE a b = true) : ltE b a = false := by simp [ltE] at *; omega
theorem ltE_tri {a b : En} (h : ltE a b = false) (g : ltE b a = false) : a.seq = b.seq ∧ a.slot = b.slot := by simp [ltE] at *; omega
def insP {α : Type} (p : α → Bool) (l : List α) (e : α) : List α := l.takeWhile p ++ e :: l.dropWhile p
theorem insP_perm {α : Type} (p : α → Bool) (l : List α) (e : α) : (insP p l e).Perm (e :: l) := by
  unfold insP
  have h : (l.takeWhile p ++ e :: l.dropWhile p).Perm (e :: (l.takeWhile p ++ l.dropWhile p)) := List.perm_middle
  rwa [List.takeWhile_append_dropWhile] at h
theorem insP_len {α : Type} (p : α → Bool) (l : List α) (e : α) : (insP p l e).length = l.length + 1 := (insP_perm p l e).length_eq
theorem insP_mem {α : Type} (p : α → Bool) (l : List α) (e x : α) : x ∈ insP p l e ↔ x = e ∨ x ∈ l := by rw [(insP_perm p l e).mem_iff]; simp
/-- How many at the front are as p says. -/
def cnt {α : Type} (p : α → Bool) (l : List α) : Nat := (l.takeWhile p).length
theorem cnt_le {α : Type} (p : α → Bool) (l : List α) : cnt p l ≤ l.length := (List.takeWhile_sublist p).length_le
theorem take_cnt {α : Type} (p : α → Bool) (l : List α) : l.take (cnt p l) = l.takeWhile p := by
  have := List.take_left' (l₁ := l.takeWhile p) (l₂ := l.dropWhile p) (i := cnt p l) rfl
  rwa [List.takeWhile_append_dropWhile] at this
theorem drop_cnt {α : Type} (p : α → Bool) (l : List α) : l.drop (cnt p l) = l.dropWhile p := by
  have := List.drop_left' (l₁ := l.takeWhile p) (l₂ := l.dropWhile p) (i := cnt p l) rfl
  rwa [List.takeWhile_append_dropWhile] at this
theorem insP_eq {α : Type} (p : α → Bool) (l : List α) (e : α) : insP p l e = l.take (cnt p l) ++ [e] ++ l.drop (cnt p l) := by
  rw [take_cnt, drop_cnt, insP]; simp
theorem cnt_lo {α : Type} (p : α → Bool) (l : List α) : ∀ j x, j < cnt p l → l[j]? = some x → p x = true := by
  intro j x hj hx
  have h1 : (l.take (cnt p l))[j]? = some x := by rw [List.getElem?_take_of_lt hj]; exact hx
  rw [take_cnt] at h1
  exact List.all_eq_true.1 (List.all_takeWhile (p := p) (l := l)) x (List.mem_of_getElem? h1)
theorem cnt_at {α : Type} (p : α → Bool) (l : List α) : ∀ x, l[cnt p l]? = some x → p x = false := by
  induction l with
  | nil => intro x h; simp at h
  | cons y l ih =>
    intro x h
    unfold cnt at h ih
    by_cases hy : p y = true
    · rw [List.takeWhile_cons_of_pos hy] at h; exact ih x (by simpa using h)
    · rw [List.takeWhile_cons_of_neg hy] at h; simp at h; subst h; simpa using hy
/-- Where those that are as p says stand ahead of the others. -/
theorem cnt_uniq {α : Type} (p : α → Bool) (l : List α) (r : Nat) (hr : r ≤ l.length) (h1 : ∀ j x, j < r → l[j]? = some x → p x = true) (h2 : ∀ j x, r ≤ j → l[j]? = some x → p x = false) : r = cnt p l := by
  rcases Nat.lt_trichotomy r (cnt p l) with h | h | h
  · have hl : r < l.length := Nat.lt_of_lt_of_le h (cnt_le p l)
    have := cnt_lo p l r _ h (List.getElem?_eq_getElem hl)
    rw [h2 r _ (Nat.le_refl _) (List.getElem?_eq_getElem hl)] at this
    cases this
  · exact h
  · have hl : cnt p l < l.length := by omega
    have := cnt_at p l _ (List.getElem?_eq_getElem hl)
    rw [h1 _ _ h (List.getElem?_eq_getElem hl)] at this
    cases this
theorem cnt_hi {α : Type} (p : α → Bool) {R : α → α → Prop} {l : List α} (s : l.Pairwise R) (hR : ∀ a b, R a b → p a = false → p b = false) : ∀ j x, cnt p l ≤ j → l[j]? = some x → p x = false := by
  intro j x hj hx
  obtain ⟨hlt, e⟩ := List.getElem?_eq_some_iff.1 hx
  have hc : cnt p l < l.length := by omega
  have h0 := cnt_at p l _ (List.getElem?_eq_getElem hc)
  rcases Nat.eq_or_lt_of_le hj with h | h
  · subst h; rw [List.getElem?_eq_getElem hc] at hx; exact (Option.some.inj hx) ▸ h0
  · rw [← e]; exact hR _ _ (List.pairwise_iff_getElem.1 s _ j hc hlt h) h0
/-- An element laid where it belongs. -/
theorem insP_pair {α : Type} {R : α → α → Prop} (p : α → Bool) {l : List α} (s : l.Pairwise R) (e : α) (h1 : ∀ x ∈ l, p x = true → R x e) (h2 : ∀ x ∈ l, p x = false → R e x) (hR : ∀ a b, R a b → p a = false → p b = false) : (insP p l e).Pairwise R := by
  have h3 : ∀ x ∈ l.dropWhile p, p x = false := fun x hx => by
    rw [← drop_cnt] at hx
    obtain ⟨i, hi, rfl⟩ := List.mem_iff_getElem.1 hx
    rw [List.getElem_drop]
    have hlt : cnt p l + i < l.length := by rw [List.length_drop] at hi; omega
    exact cnt_hi p s hR (cnt p l + i) _ (by omega) (List.getElem?_eq_getElem hlt)
  have h4 : ∀ x ∈ l.takeWhile p, p x = true := fun x hx => List.all_eq_true.1 (List.all_takeWhile (p := p) (l := l)) x hx
  have h5 := List.takeWhile_append_dropWhile (p := p) (l := l)
  rw [← h5] at s
  have h6 := List.pairwise_append.1 s
  refine List.pairwise_append.2 ⟨h6.1, List.pairwise_cons.2 ⟨fun x hx => h2 x ((List.dropWhile_sublist p).subset hx) (h3 x hx), h6.2.1⟩, fun x hx y hy => ?_⟩
  rcases List.mem_cons.1 hy with rfl | hy
  · exact h1 x ((List.takeWhile_sublist p).subset hx) (h4 x hx)
  · exact h6.2.2 x hx y hy
/-- Two lists in one strict order with the same members are one. -/
theorem pair_eq {α : Type} {R : α → α → Prop} (hi : ∀ a, ¬ R a a) (ht : ∀ a b c, R a b → R b c → R a c) : ∀ {l m : List α}, l.Pairwise R → m.Pairwise R → (∀ x, x ∈ l ↔ x ∈ m) → l = m
  | [], [], _, _, _ => rfl
  | [], y :: m, _, _, h => by have := (h y).2 (by simp); simp at this
  | x :: l, [], _, _, h => by have := (h x).1 (by simp); simp at this
  | x :: l, y :: m, hl, hm, h => by
    have hl' := List.pairwise_cons.1 hl
    have hm' := List.pairwise_cons.1 hm
    have e : x = y := by
      rcases List.mem_cons.1 ((h x).1 (by simp)) with e | hx
      · exact e
      · rcases List.mem_cons.1 ((h y).2 (by simp)) with e | hy
        · exact e.symm
        · exact absurd (ht _ _ _ (hl'.1 y hy) (hm'.1 x hx)) (hi x)
    subst e
    congr 1
    refine pair_eq hi ht hl'.2 hm'.2 (fun z => ⟨fun hz => ?_, fun hz => ?_⟩)
    · rcases List.mem_cons.1 ((h z).1 (List.mem_cons_of_mem _ hz)) with rfl | h1
      · exact absurd (hl'.1 _ hz) (hi _)
      · exact h1
    · rcases List.mem_cons.1 ((h z).2 (List.mem_cons_of_mem _ hz)) with rfl | h1
      · exact absurd (hm'.1 _ hz) (hi _)
      · exact h1

/-! ### The index -/
def keyC (c : UInt8) : Bool := c == 45 || c == 46 || (48 ≤ c && c ≤ 57) || c == 95 || (97 ≤ c && c ≤ 122)
/-- What key.Check says. -/
def keyChk (k : ByteArray) : Int := if k.toList.all keyC = false then 2 else if k.size = 0 then 2 else if 32 < k.size then 12 else 0
def validE (e : En) : Bool := decide (keyChk e.key = 0 ∧ 1 ≤ e.seq ∧ e.seq ≤ 1099511627776 ∧ 0 ≤ e.off ∧ 16 + (e.key.size : Int) ≤ e.size ∧ (e.size = 16 + (e.key.size : Int) ∨ e.del = false) ∧ e.size ≤ 8192 ∧ e.off ≤ 8192 - e.size)
def IX.of (X : IX) (k : ByteArray) : List En := (look ltS X.keys k).getD []
def IX.slot (X : IX) (s : Int) : List En := if 0 ≤ s then X.slots.getD s.toNat [] else []
def IX.has (X : IX) (s : Int) : Bool := decide (0 ≤ s ∧ s < X.slots.length)
def IX.ents (X : IX) : List En := X.slots.flatten
def badE (e o : En) : Bool := decide (o.seq = e.seq ∧ ({ o with slot := e.slot, off := e.off } : En) ≠ e)
def sameE (e o : En) : Bool := decide (o.seq = e.seq ∧ o.slot = e.slot)
def offP (off : Int) (o : En) : Bool := decide (o.off < off)
/-- It meets one of the slot's. -/
def clash (s : List En) (e : En) : Bool :=
  (match s[cnt (offP e.off) s]? with | some o => decide (o.off = e.off) || decide (o.off < e.off + e.size) | none => false) ||
  (decide (0 < cnt (offP e.off) s) && (match s[cnt (offP e.off) s - 1]? with | some o => decide (e.off < o.off + o.size) | none => false))
def addE (X : IX) (e : En) : Int :=
  if X.slots = [] then 1 else if X.has e.slot = false then 3 else if validE e = false then 2 else if (X.of e.key).any (badE e) = true then 2
  else if ((X.of e.key).any (sameE e) || clash (X.slot e.slot) e) = true then 6 else 0
def addX (X : IX) (e : En) : IX :=
  if addE X e = 0 then ⟨X.slots.set e.slot.toNat (insP (offP e.off) (X.slot e.slot) e), putL ltS X.keys e.key (insP (fun o => ltE o e) (X.of e.key) e)⟩ else X
def ixNew (n : Nat) : IX := ⟨List.replicate n [], []⟩
structure SlotOk (i : Int) (l : List En) : Prop where
  p : l.Pairwise (fun a b => a.off + a.size ≤ b.off)
  e : ∀ e ∈ l, e.slot = i ∧ validE e = true
structure KeyOk (k : ByteArray) (l : List En) : Prop where
  ne : l ≠ []
  p : l.Pairwise (fun a b => ltE a b = true)
  e : ∀ e ∈ l, e.key = k
structure IX.Wf (X : IX) : Prop where
  n : X.slots.length ≤ 32
  z : X.slots = [] → X.keys = []
  s : ∀ (i : Nat) l, X.slots[i]? = some l → SlotOk i l
  k0 : Srt ltS X.keys
  k : ∀ x ∈ X.keys, KeyOk x.1 x.2
  v : (X.keys.flatMap Prod.snd).Perm X.slots.flatten
  c : ∀ a ∈ X.slots.flatten, ∀ b ∈ X.slots.flatten, a.key = b.key → a.seq = b.seq → a.del = b.del ∧ a.size = b.size
section
variable {X : IX}
theorem valid_iff (e : En) : validE e = true ↔ (keyChk e.key = 0 ∧ 1 ≤ e.seq ∧ e.seq ≤ 1099511627776 ∧ 0 ≤ e.off ∧ 16 + (e.key.size : Int) ≤ e.size ∧ (e.size = 16 + (e.key.size : Int) ∨ e.del = false) ∧ e.size ≤ 8192 ∧ e.off ≤ 8192 - e.size) := by
  unfold validE; exact decide_eq_true_iff
theorem slot_at {i : Nat} {l : List En} (h : X.slots[i]? = some l) : X.slot i = l := by
  unfold IX.slot; rw [if_pos (by omega), List.getD_eq_getElem?_getD]; simp [h]
theorem slot_out {s : Int} (h : X.has s = false) : X.slot s = [] := by
  unfold IX.slot
  split
  · rw [List.getD_eq_getElem?_getD, List.getElem?_eq_none]
    · rfl
    · simp [IX.has] at h; omega
  · rfl
theorem has_at {s : Int} (h : X.has s = true) : ∃ i : Nat, s = i ∧ X.slots[i]? = some (X.slot s) := by
  simp [IX.has] at h
  refine ⟨s.toNat, by omega, ?_⟩
  have hlt : s.toNat < X.slots.length := by omega
  unfold IX.slot
  rw [if_pos h.1, List.getD_eq_getElem?_getD, List.getElem?_eq_getElem hlt]
  rfl
theorem IX.Wf.slotOk (h : X.Wf) (s : Int) : SlotOk s (X.slot s) := by
  cases hs : X.has s with
  | false => rw [slot_out hs]; exact ⟨List.Pairwise.nil, fun e he => by cases he⟩
  | true => obtain ⟨i, rfl, hi⟩ := has_at hs; exact h.s i _ hi
theorem IX.Wf.slot_mem (h : X.Wf) (s : Int) (e : En) : e ∈ X.slot s ↔ e ∈ X.ents ∧ e.slot = s := by
  constructor
  · intro he
    refine ⟨?_, ((h.slotOk s).e e he).1⟩
    cases hs : X.has s with
    | false => rw [slot_out hs] at he; cases he
    | true => obtain ⟨i, rfl, hi⟩ := has_at hs; exact List.mem_flatten.2 ⟨_, List.mem_of_getElem? hi, he⟩
  · rintro ⟨he, rfl⟩
    obtain ⟨l, hl, he⟩ := List.mem_flatten.1 he
    obtain ⟨i, hi⟩ := List.mem_iff_getElem?.1 hl
    rw [((h.s i l hi).e e he).1, slot_at hi]
    exact he
theorem IX.Wf.keyOk (h : X.Wf) {k : ByteArray} (hk : X.of k ≠ []) : KeyOk k (X.of k) := by
  unfold IX.of at hk ⊢
  cases hl : look ltS X.keys k with
  | none => rw [hl] at hk; exact absurd rfl hk
  | some l => exact h.k (k, l) ((look_mem ordS h.k0 k l).1 hl)
theorem IX.Wf.ofPair (h : X.Wf) (k : ByteArray) : (X.of k).Pairwise (fun a b => ltE a b = true) := by
  by_cases hk : X.of k = []
  · rw [hk]; exact List.Pairwise.nil
  · exact (h.keyOk hk).p
theorem IX.Wf.of_mem (h : X.Wf) (k : ByteArray) (e : En) : e ∈ X.of k ↔ e ∈ X.ents ∧ e.key = k := by
  constructor
  · intro he
    have hk : X.of k ≠ [] := fun h0 => by rw [h0] at he; cases he
    refine ⟨?_, (h.keyOk hk).e e he⟩
    unfold IX.of at he
    cases hl : look ltS X.keys k with
    | none => rw [hl] at he; cases he
    | some l =>
      rw [hl] at he
      exact h.v.mem_iff.1 (List.mem_flatMap.2 ⟨(k, l), (look_mem ordS h.k0 k l).1 hl, he⟩)
  · rintro ⟨he, rfl⟩
    obtain ⟨⟨k, l⟩, hx, hl⟩ := List.mem_flatMap.1 (h.v.mem_iff.2 he)
    have hk := (h.k _ hx).e e hl
    unfold IX.of
    rw [hk, (look_mem ordS h.k0 k l).2 hx]
    exact hl
theorem IX.Wf.valid (h : X.Wf) {e : En} (he : e ∈ X.ents) : validE e = true ∧ X.has e.slot = true := by
  obtain ⟨l, hl, h1⟩ := List.mem_flatten.1 he
  obtain ⟨i, hi⟩ := List.mem_iff_getElem?.1 hl
  have h2 := (h.s i l hi).e e h1
  exact ⟨h2.2, by have := (List.getElem?_eq_some_iff.1 hi).1; simp [IX.has, h2.1]; omega⟩
theorem slot_len (i : Int) : ∀ (l : List En), SlotOk i l → ∀ o : Int, (∀ e ∈ l, o ≤ e.off) → l ≠ [] → 16 * (l.length : Int) + o ≤ 8192
  | [], _, _, _, h => absurd rfl h
  | [a], h, o, ho, _ => by
    have h1 := (valid_iff a).1 (h.e a (by simp)).2
    have h2 := ho a (by simp)
    simp
    omega
  | a :: b :: l, h, o, ho, _ => by
    have hp := List.pairwise_cons.1 h.p
    have h1 := (valid_iff a).1 (h.e a (by simp)).2
    have h2 := ho a (by simp)
    have h3 := slot_len i (b :: l) ⟨hp.2, fun e he => h.e e (List.mem_cons_of_mem _ he)⟩ (o + 16) (fun e he => by have := hp.1 e he; omega) (by simp)
    simp at h3 ⊢
    omega
theorem IX.Wf.slot_le (h : X.Wf) (s : Int) : (X.slot s).length ≤ 512 := by
  by_cases h0 : X.slot s = []
  · rw [h0]; simp
  · have := slot_len s _ (h.slotOk s) 0 (fun e he => by have := (valid_iff e).1 ((h.slotOk s).e e he).2; omega) h0
    omega
theorem flatten_le (n : Nat) : ∀ (L : List (List En)), (∀ l ∈ L, l.length ≤ n) → L.flatten.length ≤ n * L.length
  | [], _ => by simp
  | l :: L, h => by
    have h1 := flatten_le n L (fun m hm => h m (List.mem_cons_of_mem _ hm))
    have h2 := h l (by simp)
    simp only [List.flatten_cons, List.length_append, List.length_cons, Nat.mul_add]
    omega
theorem IX.Wf.ents_le (h : X.Wf) : X.ents.length ≤ 16384 := by
  have h1 := flatten_le 512 X.slots (fun l hl => by
    obtain ⟨i, hi⟩ := List.mem_iff_getElem?.1 hl
    have := h.slot_le i
    rwa [slot_at hi] at this)
  have := h.n
  unfold IX.ents
  omega
theorem flatMap_ge : ∀ (L : List (ByteArray × List En)), (∀ x ∈ L, x.2 ≠ []) → L.length ≤ (L.flatMap Prod.snd).length ∧ ∀ x ∈ L, x.2.length ≤ (L.flatMap Prod.snd).length
  | [], _ => ⟨by simp, fun x hx => by cases hx⟩
  | y :: L, h => by
    have h1 := flatMap_ge L (fun m hm => h m (List.mem_cons_of_mem _ hm))
    have h2 : 0 < y.2.length := List.length_pos_iff.2 (h y (by simp))
    simp only [List.flatMap_cons, List.length_append, List.length_cons]
    refine ⟨by omega, fun x hx => ?_⟩
    rcases List.mem_cons.1 hx with rfl | hx
    · omega
    · have := h1.2 x hx; omega
theorem IX.Wf.keys_le (h : X.Wf) : X.keys.length ≤ 16384 := by
  have h1 := (flatMap_ge X.keys (fun x hx => (h.k x hx).ne)).1
  rw [h.v.length_eq] at h1
  exact Nat.le_trans h1 h.ents_le
theorem IX.Wf.of_le (h : X.Wf) (k : ByteArray) : (X.of k).length ≤ 16384 := by
  unfold IX.of
  cases hl : look ltS X.keys k with
  | none => simp
  | some l =>
    have h1 := (flatMap_ge X.keys (fun x hx => (h.k x hx).ne)).2 _ ((look_mem ordS h.k0 k l).1 hl)
    rw [h.v.length_eq] at h1
    exact Nat.le_trans h1 h.ents_le
end
theorem new_wf {n : Nat} (h : n ≤ 32) : (ixNew n).Wf := by
  refine ⟨by simpa [ixNew] using h, fun _ => rfl, fun i l hl => ?_, List.Pairwise.nil, (fun x hx => by cases hx), ?_, ?_⟩
  · obtain ⟨hlt, rfl⟩ := List.getElem?_eq_some_iff.1 hl
    simp only [ixNew, List.getElem_replicate]
    exact ⟨List.Pairwise.nil, fun e he => by cases he⟩
  · simp [ixNew]
  · simp [ixNew]
end Go.Proofs.YtemjnppplmankaaGreat

/- Contract of slices.Insert of one element, at drumlin/ordmap.item[string, drumlin/index.list]. Written from YIns.base by inst.py. -/
set_option linter.unusedVariables false
set_option linter.unusedSimpArgs false
namespace Go.Proofs.YtemjnppplmankaaGreat
open Go.RowKit
attribute [local go_sem] OvM cell_ovm obj_ovm

theorem infoItsl : (Tryz.prog.info? 162).map (fun i => (i.zero, i.size, i.bytes)) = some (some (.agg #[.string ⟨#[]⟩, .slice none 0 0]), 2, 40) := by kernel_rfl
theorem sizeItsl (w : World) : (Go.sizeOf 162).run Tryz.prog w = .ok 2 w := by kernel_rfl
theorem ovlItsl (w : World) (g vb o lb cb : Nat) (cur ys : Array Value) (hg : w.heap[g]? = some (.cells cur 162 (0, 0))) (hv : w.heap[vb]? = some (.cells ys 162 (0, 0))) (hne : vb ≠ g) (hs : cur.size ≠ 0) :
    (callFunc 134 #[.slice (some ⟨vb, 0, none⟩) 1 1, .slice (some ⟨g, o, none⟩) lb cb]).run Tryz.prog w = .ok (.value (.bool false)) w := by
  rw [run_callFunc_extern Tryz.func134 (by kernel_rfl) (by kernel_rfl) (by kernel_rfl) (e := Extern.SlicesOverlaps.overlaps #[131, 131] #[4]) (by kernel_rfl),
    Lib.run_overlaps_apart w 131 4 162 Tryz.underlying131 2 sizeItsl ⟨vb, 0, none⟩ ⟨g, o, none⟩ 1 1 lb cb hne 162 162 ys.size cur.size (by simp [World.shape?, hv]) (by simp [World.shape?, hg]) hs ((cellsOf hv).2 _) ((cellsOf hv).2 _)]
  rfl

set_option maxRecDepth 40000 in
set_option maxHeartbeats 4000000 in
theorem Insert_shiftsl (g n cap i : Nat) (xs ys : List Value) (vb : Nat) (w : World) (hown : Own w 162 2 (.slice (some ⟨g, 0, none⟩) n cap) n xs) (h1 : ∀ u ∈ xs, u.oneCell' = true) (hi : i < n) (hroom : n + 1 ≤ cap)
    (hvb : w.heap[vb]? = some (.cells ys.toArray 162 (0, 0))) (hy : ys.length = 2) (hy1 : ∀ u ∈ ys, u.oneCell' = true) (hne : vb ≠ g) :
    Calls Tryz.prog 111 #[.slice (some ⟨g, 0, none⟩) n cap, .int .i64 i, .slice (some ⟨vb, 0, none⟩) 1 1] w (InsPost 2 162 (.slice (some ⟨g, 0, none⟩) n cap) n i xs ys w) := by
  obtain ⟨cur, hg, hnc, hcm, hcs, htk⟩ := hown.parts
  have hsz : (Tryz.prog.info? 162).map (·.size) = some 2 := by kernel_rfl
  have hx : xs.length = n * 2 := hown.1
  have hb2 : ¬ cap = i + 1 := by omega
  have hb4 : ¬ cap = i := by omega
  have hin : i ≤ n := by omega
  have hi1 : (i : Int) + 1 ≤ (n : Int) + 1 := by omega
  have hieq : ¬ (i : Int) = n := by omega
  have hroom' : ¬ (cap : Int) < (n : Int) + 1 := by omega
  unfold maxLen at hcm
  have hsrc : ∀ (w1 : World), w1.heap[g]? = some (.cells cur 162 (0, 0)) → ∀ j v, (xs.drop (i * 2))[j]? = some v → w1.cell? ((⟨g, i * 2, none⟩ : Addr).add j) = some v := fun w1 hw1 j v hj => by
    rw [show (⟨g, i * 2, none⟩ : Addr).add j = ⟨g, i * 2 + j, none⟩ by unfold Addr.add; split <;> simp_all, (cellsOf hw1).1]
    rw [List.getElem?_drop, ← htk, List.getElem?_take] at hj
    split at hj
    · simpa using hj
    · cases hj
  have HCUR : Hid (cur.size = cap * 2 ∧ cur.toList.take (n * 2) = xs ∧ xs.length = n * 2) := Lib.hid ⟨hcs, htk, hx⟩
  have hdl : (xs.drop (i * 2)).length = (n - i) * 2 := by rw [List.length_drop, hx]; omega
  have hcp1 := fun (w1 : World) (hw1 : w1.heap[g]? = some (.cells cur 162 (0, 0))) dc sc => run_copyK (P := Tryz.prog) w1 131 131 3 162 2 g ((i + 1) * 2) (n - i) dc ⟨g, i * 2, none⟩ (n + 1 - i) sc cur 162 (xs.drop (i * 2)) Tryz.underlying131 hsz hw1
    (by rw [hdl, show Nat.min (n + 1 - i) (n - i) = n - i by simp only [Nat.min_def]; split <;> omega]) (hsrc w1 hw1) (by rw [hdl, hcs]; omega) (fun v hv => h1 v (List.mem_of_mem_drop hv))
  obtain ⟨cur1, hc1⟩ : ∃ cur1, cur1 = (cur.toList.take ((i + 1) * 2) ++ xs.drop (i * 2) ++ cur.toList.drop ((i + 1) * 2 + (xs.drop (i * 2)).length)).toArray := ⟨_, rfl⟩
  rw [← hc1] at hcp1
  have hs1 : cur1.size = cur.size := by
    have := seg_len cur.toList (xs.drop (i * 2)) ((i + 1) * 2) (by rw [hdl, Array.length_toList, hcs]; omega)
    rw [hc1]; simpa using this
  have hcp2 := fun (w1 : World) (hw1 : w1.heap[g]? = some (.cells cur1 162 (0, 0))) (hw2 : w1.heap[vb]? = some (.cells ys.toArray 162 (0, 0))) dc => run_copyK (P := Tryz.prog) w1 131 131 3 162 2 g (i * 2) (n + 1 - i) dc ⟨vb, 0, none⟩ 1 1 cur1 162 ys Tryz.underlying131 hsz hw1
    (by rw [hy, show Nat.min 1 (n + 1 - i) = 1 by simp only [Nat.min_def]; split <;> omega]) (fun j v hj => by rw [show (⟨vb, 0, none⟩ : Addr).add j = ⟨vb, j, none⟩ by unfold Addr.add; split <;> simp_all, (cellsOf hw2).1]; simpa using hj) (by rw [hy, hs1, hcs]; omega) hy1
  have hov := fun (w1 : World) (hw1 : w1.heap[g]? = some (.cells cur 162 (0, 0))) (hw2 : w1.heap[vb]? = some (.cells ys.toArray 162 (0, 0))) o lb cb => ovlItsl w1 g vb o lb cb cur ys.toArray hw1 hw2 hne (by rw [hcs]; omega)
  have HC1 := Lib.hid hc1
  have HP1 := Lib.hid hcp1
  have HP2 := Lib.hid hcp2
  have hov1 := fun o lb cb => hov w hg hvb o lb cb
  clear hcp1 hcp2 hov hsrc hcs htk hx hdl hc1 hs1 hown
  go_enter Tryz.func111, Tryz.ntmps111
  go_wp2_with (simp only [hov1])
  refine wp_region_flo (fun k => k = g) [] [] (by kernel_rfl) (by kernel_rfl) (fun k hk => by subst hk; exact blkLt hg) ?_
  refine flo_seg 8 rfl ?_
  simp only [List.take_succ_cons, List.take_zero, List.drop_succ_cons, List.drop_zero]
  repeat (go_big_quiet_step (fail))
  refine wpQuiet_nil ?_
  refine flo_eff rfl rfl rfl rfl (fun K hK => ?_)
  refine wp_copyK _ (.tmp 73) (.tmp 76) 131 131 rfl (.slice (some ⟨g, (i + 1) * 2, none⟩) (n - i) (cap - (i + 1))) (.slice (some ⟨g, i * 2, none⟩) (n + 1 - i) (cap - i)) rfl rfl (HP1.out w.drew hg _ _) ?_; (have HG1 := Lib.hid (setRow_at (w := w.drew) (cs := cur1) hg)); (have HV1 := Lib.hid ((setRow_ne (w := w.drew) cur1 hne).trans hvb)); (have HM1 := Lib.hid (setRow_mdh (S := fun k => k = g) (Mdh.refl _ w.drew) (g := g) (.inl rfl) cur1)); go_wp2; refine ⟨HM1.out.mono (fun q hq => by simpa using hq), ?_⟩
  refine flo_nil ?_
  go_wp2_with (refine wpList_copyK _ rfl (.tmp 80) (.tmp 81) 131 131 rfl (.slice (some ⟨g, i * 2, none⟩) (n + 1 - i) (cap - i)) (.slice (some ⟨vb, 0, none⟩) 1 1) rfl rfl (HP2.out _ HG1.out HV1.out _) ?_)
  go_ret
  obtain ⟨hcs, htk, hx⟩ := HCUR.out
  have hL := laid_in cur.toList xs ys (i * 2) ((n - i) * 2) 2 (by rw [show i * 2 + (n - i) * 2 = n * 2 by omega]; exact htk) (by rw [Array.length_toList, hcs]; omega) hy cur1.toList (cur1.toList.take (i * 2) ++ ys ++ cur1.toList.drop (i * 2 + ys.length))
    (by rw [HC1.out, show i * 2 + 2 = (i + 1) * 2 by omega]) rfl
  refine ⟨g, cap, rfl, Own.ofParts (setRow_at HG1.out) hroom (by unfold maxLen; omega) ?_ ?_, .inl rfl, ?_⟩
  · have := hL.2
    simpa [hcs, hy] using this
  · have := hL.1
    rw [show i * 2 + 2 + (n - i) * 2 = (n + 1) * 2 by omega] at this
    simpa [hy] using this
  · exact setRow_mdh (S := fun k => (Value.slice (some ⟨g, 0, none⟩) n cap).ownBlock = some k) (setRow_mdh (S := fun k => (Value.slice (some ⟨g, 0, none⟩) n cap).ownBlock = some k) ((Mdh.refl _ w).drew) (g := g) (.inl rfl) cur1) (g := g) (.inl rfl) _

set_option maxRecDepth 40000 in
set_option maxHeartbeats 4000000 in
theorem Insert_endsl (v : Value) (n : Nat) (xs ys : List Value) (vb : Nat) (w : World) (hown : Own w 162 2 v n xs) (hn : n ≤ 1000000)
    (hvb : w.heap[vb]? = some (.cells ys.toArray 162 (0, 0))) (hy : ys.length = 2) (hy1 : ∀ u ∈ ys, u.oneCell' = true) :
    Calls Tryz.prog 111 #[v, .int .i64 n, .slice (some ⟨vb, 0, none⟩) 1 1] w (InsPost 2 162 v n n xs ys w) := by
  obtain ⟨i0, hi0, hz0, hz1, hz2⟩ := info_parts infoItsl
  have hx : xs.length = n * 2 := hown.1
  have HN : Hid (∀ j u, ys[j]? = some u → w.cell? ((⟨vb, 0, none⟩ : Addr).add j) = some u) := Lib.hid (fun j u hj => by
    rw [show (⟨vb, 0, none⟩ : Addr).add j = ⟨vb, j, none⟩ by unfold Addr.add; split <;> simp_all, (cellsOf hvb).1]; simpa using hj)
  have HO := Lib.hid hown
  have HX : Hid (xs.take (n * 2) ++ ys ++ xs.drop (n * 2) = xs ++ ys) := Lib.hid (by rw [List.take_of_length_le (by omega), List.drop_of_length_le (by omega), List.append_nil])
  rcases hown.2 with ⟨rfl, rfl⟩ | ⟨g, cap, cur, rfl, _, _, hnc, hcm, _⟩
  · clear hown hx
    go_enter Tryz.func111, Tryz.ntmps111
    go_wp2_with (at_builtin; go_must (refine wpList_app2 _ rfl (.tmp 23) (.tmp 24) 131 131 rfl 162 Tryz.underlying131 i0 _ 2 40 Tryz.underlying131 hi0 hz0 hz1 hz2 rfl (by decide) (.slice none 0 0) 0 xs rfl HO.out ⟨vb, 0, none⟩ 1 1 ys rfl hy HN.out hy1 (by decide) (by simp only [maxLen]; omega) (by omega) ?_); intro g2 cap2 w2 ho2 hwh hgr; have HO2 := Lib.hid ho2; have HW2 := Lib.hid hwh; have HG2 := Lib.hid hgr; clear ho2 hwh hgr)
    all_goals
      go_ret
      refine ⟨g2, cap2, rfl, by rw [HX.out]; exact HO2.out, HW2.out, Mdh.grown (Mdh.refl _ w) HG2.out (fun r hr => hr)⟩
  · clear hown hx
    unfold maxLen at hcm
    go_enter Tryz.func111, Tryz.ntmps111
    go_wp2_with (at_builtin; go_must (refine wpList_app2 _ rfl (.tmp 23) (.tmp 24) 131 131 rfl 162 Tryz.underlying131 i0 _ 2 40 Tryz.underlying131 hi0 hz0 hz1 hz2 rfl (by decide) (.slice (some ⟨g, 0, none⟩) n cap) n xs rfl HO.out ⟨vb, 0, none⟩ 1 1 ys rfl hy HN.out hy1 (by decide) (by simp only [maxLen]; omega) (by omega) ?_); intro g2 cap2 w2 ho2 hwh hgr; have HO2 := Lib.hid ho2; have HW2 := Lib.hid hwh; have HG2 := Lib.hid hgr; clear ho2 hwh hgr)
    all_goals
      go_ret
      refine ⟨g2, cap2, rfl, by rw [HX.out]; exact HO2.out, HW2.out, Mdh.grown (Mdh.refl _ w) HG2.out (fun r hr => hr)⟩

set_option maxRecDepth 40000 in
set_option maxHeartbeats 4000000 in
theorem Insert_growsl (g n cap i : Nat) (xs ys : List Value) (vb : Nat) (w : World) (hown : Own w 162 2 (.slice (some ⟨g, 0, none⟩) n cap) n xs) (h1 : ∀ u ∈ xs, u.oneCell' = true) (hi : i < n) (hroom : cap < n + 1) (hn : n ≤ 1000000)
    (hvb : w.heap[vb]? = some (.cells ys.toArray 162 (0, 0))) (hy : ys.length = 2) (hy1 : ∀ u ∈ ys, u.oneCell' = true) :
    Calls Tryz.prog 111 #[.slice (some ⟨g, 0, none⟩) n cap, .int .i64 i, .slice (some ⟨vb, 0, none⟩) 1 1] w (InsPost 2 162 (.slice (some ⟨g, 0, none⟩) n cap) n i xs ys w) := by
  obtain ⟨i0, hi0, hz0, hz1, hz2⟩ := info_parts infoItsl
  obtain ⟨cur, hg, hnc, hcm, hcs, htk⟩ := hown.parts
  have hsz : (Tryz.prog.info? 162).map (·.size) = some 2 := by kernel_rfl
  have hx : xs.length = n * 2 := hown.1
  have hcell := hown.cells rfl
  have hci : ¬ cap = i := by omega
  have hin : i ≤ n := by omega
  have hieq : ¬ (i : Int) = n := by omega
  have hroom' : (cap : Int) < (n : Int) + 1 := by omega
  have hkk : (n : Int) + 1 - (i : Int) = ((n + 1 - i : Nat) : Int) := by omega
  have hik : i + (n + 1 - i) = n + 1 := by omega
  have hgw := blkLt hg
  have hvw := blkLt hvb
  have hadd : ∀ b j : Nat, (⟨b, 0, none⟩ : Addr).add j = ⟨b, j, none⟩ := fun b j => by unfold Addr.add; split <;> simp_all
  have hold : (Builtin.firstCells i0.size i (.slice (some ⟨g, 0, none⟩) i cap)).run Tryz.prog w.drew = .ok (xs.take (i * 2)).toArray w.drew := by
    rw [hz1]
    exact run_firstCells_some w.drew 2 i ⟨g, 0, none⟩ i cap (xs.take (i * 2)) (by rw [List.length_take]; omega) (fun j v hj => by
      rw [List.getElem?_take] at hj
      split at hj
      · exact hcell j v hj
      · cases hj)
  have hrz : ∀ ty, (Builtin.append_ #[131, 3] ty #[.slice (some ⟨g, 0, none⟩) i cap, .int .i64 ((n : Int) + 1 - (i : Int))]).run Tryz.prog w =
      .ok (.slice (some ⟨w.heap.size, 0, none⟩) (n + 1) (grownCap w (n + 1) cap 162)) (w.drew.alloc (.cells ((xs.take (i * 2)).toArray ++ Builtin.zeroCells (Value.agg #[.string ⟨#[]⟩, .slice none 0 0]).cells (n + 1 - i) ++ Builtin.zeroCells (Value.agg #[.string ⟨#[]⟩, .slice none 0 0]).cells (grownCap w (n + 1) cap 162 - (n + 1))) 162)) := fun ty => by
    have h := Lib.run_append_grow_zeros w 131 3 ty 162 i0 _ .i64 .i64 Tryz.underlying131 Tryz.underlying3 hi0 hz0 (some ⟨g, 0, none⟩) i cap (xs.take (i * 2)) hold (n + 1 - i) (by omega) (by omega) (by omega) (by omega) (by rw [hz2]; omega) (by rw [hz2, hik]; exact growslice_fits hroom (by omega))
    rw [hik] at h
    rw [hkk]
    exact h
  obtain ⟨G, hG⟩ : ∃ G, G = grownCap w (n + 1) cap 162 := ⟨_, rfl⟩
  obtain ⟨ROW, hROW⟩ : ∃ ROW : Array Value, ROW = (xs.take (i * 2)).toArray ++ Builtin.zeroCells (Value.agg #[.string ⟨#[]⟩, .slice none 0 0]).cells (n + 1 - i) ++ Builtin.zeroCells (Value.agg #[.string ⟨#[]⟩, .slice none 0 0]).cells (G - (n + 1)) := ⟨_, rfl⟩
  rw [← hG] at hrz
  rw [← hROW] at hrz
  have hGn : n + 1 ≤ G := by rw [hG]; exact grownCap_ge w _ _ _
  have hG63 : G ≤ maxLen := by rw [hG]; exact grownCap_le_maxLen w _ _ _ (by unfold maxLen; omega)
  obtain ⟨ZS, hZS, hROWl⟩ : ∃ ZS : List Value, ZS.length = (G - i) * 2 ∧ ROW.toList = xs.take (i * 2) ++ ZS := by
    refine ⟨(Builtin.zeroCells (Value.agg #[.string ⟨#[]⟩, .slice none 0 0]).cells (n + 1 - i)).toList ++ (Builtin.zeroCells (Value.agg #[.string ⟨#[]⟩, .slice none 0 0]).cells (G - (n + 1))).toList, ?_, ?_⟩
    · rw [List.length_append, zeroCells_len, zeroCells_len, show (Value.agg #[.string ⟨#[]⟩, .slice none 0 0]).cells.size = 2 from rfl]; omega
    · rw [hROW]; simp
  have hRs : ROW.size = G * 2 := by
    rw [← Array.length_toList, hROWl, List.length_append, hZS, List.length_take]; omega
  have hdl : (xs.drop (i * 2)).length = (n - i) * 2 := by rw [List.length_drop, hx]; omega
  obtain ⟨cur1, hc1⟩ : ∃ cur1, cur1 = (ROW.toList.take (i * 2) ++ ys ++ ROW.toList.drop (i * 2 + ys.length)).toArray := ⟨_, rfl⟩
  have hs1 : cur1.size = G * 2 := by
    have := seg_len ROW.toList ys (i * 2) (by rw [hy, Array.length_toList, hRs]; omega)
    rw [hc1, ← hRs]; simpa using this
  have hcp1 := fun (w1 : World) (hw1 : w1.heap[w.heap.size]? = some (.cells ROW 162 (0, 0))) (hw2 : w1.heap[vb]? = some (.cells ys.toArray 162 (0, 0))) dc => run_copyK (P := Tryz.prog) w1 131 131 3 162 2 w.heap.size (i * 2) (n + 1 - i) dc ⟨vb, 0, none⟩ 1 1 ROW 162 ys Tryz.underlying131 hsz hw1
    (by rw [hy, show Nat.min 1 (n + 1 - i) = 1 by simp only [Nat.min_def]; split <;> omega]) (fun j v hj => by rw [hadd, (cellsOf hw2).1]; simpa using hj) (by rw [hy, hRs]; omega) hy1
  rw [← hc1] at hcp1
  have hcp2 := fun (w1 : World) (hw1 : w1.heap[w.heap.size]? = some (.cells cur1 162 (0, 0))) (hw2 : w1.heap[g]? = some (.cells cur 162 (0, 0))) dc sc => run_copyK (P := Tryz.prog) w1 131 131 3 162 2 w.heap.size ((i + 1) * 2) (n - i) dc ⟨g, i * 2, none⟩ (n - i) sc cur1 162 (xs.drop (i * 2)) Tryz.underlying131 hsz hw1
    (by rw [hdl, show Nat.min (n - i) (n - i) = n - i by simp only [Nat.min_def]; split <;> omega]) (fun j v hj => by
      rw [show (⟨g, i * 2, none⟩ : Addr).add j = ⟨g, i * 2 + j, none⟩ by unfold Addr.add; split <;> simp_all, (cellsOf hw2).1]
      rw [List.getElem?_drop, ← htk, List.getElem?_take] at hj
      split at hj
      · simpa using hj
      · cases hj) (by rw [hdl, hs1]; omega) (fun v hv => h1 v (List.mem_of_mem_drop hv))
  obtain ⟨cur2, hc2⟩ : ∃ cur2, cur2 = (cur1.toList.take ((i + 1) * 2) ++ xs.drop (i * 2) ++ cur1.toList.drop ((i + 1) * 2 + (xs.drop (i * 2)).length)).toArray := ⟨_, rfl⟩
  rw [← hc2] at hcp2
  have HL : Hid (_) := Lib.hid (laid_new xs ys ZS (i * 2) ((n - i) * 2) 2 (by omega) (by omega) hy ROW.toList cur1.toList cur2.toList hROWl (by rw [hc1]) (by rw [hc2, show i * 2 + 2 = (i + 1) * 2 by omega]))
  have HRZ := Lib.hid hrz
  have HP1 := Lib.hid hcp1
  have HP2 := Lib.hid hcp2
  have HS := Lib.hid (And.intro hRs (And.intro hdl hs1))
  have hG1 : ¬ G = i := by omega
  have hG2 : ¬ G = i + 1 := by omega
  have hG3 : (i : Int) + 1 ≤ (n : Int) + 1 := by omega
  have hG4 : (n : Int) + 1 ≤ G := by omega
  unfold maxLen at hcm hG63
  clear hrz hcp1 hcp2 hold hROW hROWl hc1 hRs hdl hs1 hcs htk hx hcell hown hc2 hkk hik hz0 hi0 hz1 hz2 hG hZS
  go_enter Tryz.func111, Tryz.ntmps111
  go_wp2_with (first
    | (at_builtin; refine Lib.wpList_append_run _ rfl _ _ _ _ rfl _ _ rfl rfl _ _ (HRZ.out _) ?_)
    | (refine wpList_copyK _ rfl (.tmp 43) (.tmp 44) 131 131 rfl (.slice (some ⟨w.heap.size, i * 2, none⟩) (n + 1 - i) (G - i)) (.slice (some ⟨vb, 0, none⟩) 1 1) rfl rfl (HP1.out _ (blkNew w.drew _) (blkOld (w := w.drew) hvb) _) ?_))
  have hga : ((w.drew.alloc (.cells ROW 162)).setRow w.heap.size cur1).heap[w.heap.size]? = some (.cells cur1 162 (0, 0)) := setRow_at (w := w.drew.alloc (.cells ROW 162)) (cs := cur1) (blkNew w.drew _)
  have hgb : ((w.drew.alloc (.cells ROW 162)).setRow w.heap.size cur1).heap[g]? = some (.cells cur 162 (0, 0)) := (setRow_ne _ (by omega)).trans (blkOld (w := w.drew) hg)
  have HM : Hid (Mdh (fun k => (Value.slice (some ⟨g, 0, none⟩) n cap).ownBlock = some k) w ((w.drew.alloc (.cells ROW 162)).setRow w.heap.size cur1)) := Lib.hid (setRow_mdh (((Mdh.refl _ w).drew).alloc _) (.inr (Nat.le_refl _)) _)
  generalize (w.drew.alloc (.cells ROW 162)).setRow w.heap.size cur1 = W1 at *
  have HGA := Lib.hid hga
  have HGB := Lib.hid hgb
  clear hgb hgw hvw
  go_simp
  refine wp_region_flo (fun k => k = w.heap.size) [] [] (by kernel_rfl) (by kernel_rfl) (fun k hk => by subst hk; exact blkLt hga) ?_
  refine flo_seg 8 rfl ?_
  simp only [List.take_succ_cons, List.take_zero, List.drop_succ_cons, List.drop_zero]
  repeat (go_big_quiet_step (fail))
  refine wpQuiet_nil ?_
  refine flo_eff rfl rfl rfl rfl (fun K hK => ?_)
  refine wp_copyK _ (.tmp 50) (.tmp 53) 131 131 rfl (.slice (some ⟨w.heap.size, (i + 1) * 2, none⟩) (n - i) (G - (i + 1))) (.slice (some ⟨g, i * 2, none⟩) (n - i) (cap - i)) rfl rfl (HP2.out W1.drew HGA.out HGB.out _ _) ?_; (have HG1 := Lib.hid (setRow_at (w := W1.drew) (cs := cur2) HGA.out)); (have HM1 := Lib.hid (setRow_mdh (S := fun k => k = w.heap.size) (Mdh.refl _ W1.drew) (g := w.heap.size) (.inl rfl) cur2)); go_wp2; refine ⟨HM1.out.mono (fun q hq => by simpa using hq), ?_⟩
  refine flo_nil ?_
  go_wp2
  go_ret
  obtain ⟨hRs, hdl, hs1⟩ := HS.out
  have hL := HL.out
  rw [show i * 2 + 2 = (i + 1) * 2 by omega, show (i + 1) * 2 + (n - i) * 2 = (n + 1) * 2 by omega] at hL
  refine ⟨w.heap.size, G, rfl, Own.ofParts HG1.out (by omega) (by unfold maxLen; omega) ?_ (by simpa using hL.1), .inr (Nat.le_refl _), ?_⟩
  · have := hL.2
    simp only [Array.length_toList] at this
    rw [this, hRs]
  · exact setRow_mdh HM.out.drew (.inr (Nat.le_refl _)) _

/-- One element laid into a row of the call's own. -/
theorem Insertsl (v : Value) (n i : Nat) (xs ys : List Value) (vb : Nat) (w : World) (hown : Own w 162 2 v n xs) (h1 : ∀ u ∈ xs, u.oneCell' = true) (hi : i ≤ n) (hn : n ≤ 1000000)
    (hvb : w.heap[vb]? = some (.cells ys.toArray 162 (0, 0))) (hy : ys.length = 2) (hy1 : ∀ u ∈ ys, u.oneCell' = true) (hne : v.ownBlock ≠ some vb) :
    Calls Tryz.prog 111 #[v, .int .i64 i, .slice (some ⟨vb, 0, none⟩) 1 1] w (InsPost 2 162 v n i xs ys w) := by
  by_cases hin : i = n
  · subst hin
    exact Insert_endsl v i xs ys vb w hown hn hvb hy hy1
  · rcases hown.2 with ⟨rfl, rfl⟩ | ⟨g, cap, cur, rfl, _⟩
    · omega
    · by_cases hr : n + 1 ≤ cap
      · exact Insert_shiftsl g n cap i xs ys vb w hown h1 (by omega) hr hvb hy hy1 (fun e => hne (by rw [e]; rfl))
      · exact Insert_growsl g n cap i xs ys vb w hown h1 (by omega) (by omega) hn hvb hy hy1
end Go.Proofs.YtemjnppplmankaaGreat

/- Contract of slices.Delete of one element, at drumlin/ordmap.item[string, drumlin/index.list]. Written from YDel.base by inst.py. -/
set_option linter.unusedVariables false
set_option linter.unusedSimpArgs false
namespace Go.Proofs.YtemjnppplmankaaGreat
open Go.RowKit
attribute [local go_sem] OvM cell_ovm obj_ovm

def DelPostsl (g n cap i : Nat) (xs : List Value) (w : World) (e : Ending) (w' : World) : Prop :=
  e = .returned (.slice (some ⟨g, 0, none⟩) (n - 1) cap) ∧ Own w' 162 2 (.slice (some ⟨g, 0, none⟩) (n - 1) cap) (n - 1) (xs.take (i * 2) ++ xs.drop ((i + 1) * 2)) ∧ Mdh (fun k => k = g) w w'
theorem zeroItsl (w : World) : (zeroValue 162).run Tryz.prog w = .ok (.agg #[.string ⟨#[]⟩, .slice none 0 0]) w := by kernel_rfl

set_option maxRecDepth 40000 in
set_option maxHeartbeats 4000000 in
theorem Deletesl (g n cap i : Nat) (xs : List Value) (w : World) (hown : Own w 162 2 (.slice (some ⟨g, 0, none⟩) n cap) n xs) (h1 : ∀ u ∈ xs, u.oneCell' = true) (hi : i < n) :
    Calls Tryz.prog 116 #[.slice (some ⟨g, 0, none⟩) n cap, .int .i64 i, .int .i64 ((i + 1 : Nat) : Int)] w (DelPostsl g n cap i xs w) := by
  obtain ⟨i0, hi0, hz0, hz1, hz2⟩ := info_parts infoItsl
  obtain ⟨cur, hg, hnc, hcm, hcs, htk⟩ := hown.parts
  have hx : xs.length = n * 2 := hown.1
  have hcell := hown.cells rfl
  have hc1 : ¬ cap = i := by omega
  obtain ⟨J, hJ⟩ : ∃ J : Nat, J = i + 1 := ⟨_, rfl⟩
  have hJn : J ≤ n := by omega
  have hadd : ∀ b o j : Nat, (⟨b, o, none⟩ : Addr).add j = ⟨b, o + j, none⟩ := fun b o j => by unfold Addr.add; split <;> simp_all
  have hdl : (xs.drop (J * 2)).length = (n - J) * 2 := by rw [List.length_drop, hx]; omega
  obtain ⟨ad, had⟩ : ∃ ad : Addr, ad = if cap = J then ⟨g, 0, none⟩ else ⟨g, J * 2, none⟩ := ⟨_, rfl⟩
  obtain ⟨w2, hr, ho, hgr⟩ := run_append_fits (P := Tryz.prog) w.drew 0 131 131 162 i0 2 Tryz.underlying131 hi0 hz1 g i cap (xs.take (i * 2)) ((hown.gr (Gr.drew (Gr.refl w))).take (by omega)) ad (n - J) (cap - J) (xs.drop (J * 2)) hdl
    (fun j v hj => by
      rw [List.getElem?_drop] at hj
      have hlt := (List.getElem?_eq_some_iff.1 hj).1
      have := hcell _ _ hj
      rw [hadd, Nat.zero_add] at this
      rw [had, if_neg (by omega), hadd]
      exact this) (fun v hv => h1 v (List.mem_of_mem_drop hv)) (by omega)
  have hlen : i + (n - J) = n - 1 := by omega
  rw [hlen] at hr ho
  obtain ⟨cur2, hg2, hnc2, hcm2, hcs2, htk2⟩ := Own.parts (Own.lift ho)
  have hM : Mdh (fun k => k = g) w w2 := Mdh.grown ((Mdh.refl _ w).drew) hgr (fun r hr => by simpa using hr.symm)
  have hcl := run_clearK (P := Tryz.prog) w2 131 162 0 (.agg #[.string ⟨#[]⟩, .slice none 0 0]) 2 Tryz.underlying131 zeroItsl rfl (by decide) g ((n - 1) * 2) 1 (cap - (n - 1)) (by omega) cur2 162 hg2 (by rw [hcs2]; omega)
  obtain ⟨cur3, hc3d⟩ : ∃ cur3, cur3 = (cur2.toList.take ((n - 1) * 2) ++ (Builtin.zeroCells (Value.agg #[.string ⟨#[]⟩, .slice none 0 0]).cells 1).toList ++ cur2.toList.drop ((n - 1) * 2 + 1 * 2)).toArray := ⟨_, rfl⟩
  rw [← hc3d] at hcl
  have hs3 : cur3.size = cap * 2 := by
    have := seg_len cur2.toList (Builtin.zeroCells (Value.agg #[.string ⟨#[]⟩, .slice none 0 0]).cells 1).toList ((n - 1) * 2) (by rw [zeroCells_len, Array.length_toList, hcs2, show (Value.agg #[.string ⟨#[]⟩, .slice none 0 0]).cells.size = 2 from rfl]; omega)
    rw [zeroCells_len, show (Value.agg #[.string ⟨#[]⟩, .slice none 0 0]).cells.size = 2 from rfl] at this
    rw [hc3d, ← hcs2]
    exact List.size_toArray.trans (this.trans Array.length_toList)
  have ht3 : cur3.toList.take ((n - 1) * 2) = xs.take (i * 2) ++ xs.drop (J * 2) := by
    rw [hc3d]
    show List.take _ (_ ++ _ ++ _) = _
    rw [List.append_assoc, List.take_append_of_le_length (by rw [List.length_take, Array.length_toList, hcs2]; omega), List.take_take, Nat.min_self, htk2]
  have HT3 := Lib.hid (And.intro hs3 ht3)
  have HR := Lib.hid hr
  have HM0 : Hid (Mdh (fun k => k = g) w.drew w2) := Lib.hid (Mdh.grown (Mdh.refl _ w.drew) hgr (fun r hr => by simpa using hr.symm))
  have HCL : Hid ((Builtin.clear_ #[131] 0 #[.slice (some ⟨g, (n - 1) * 2, none⟩) (n - (n - 1)) (cap - (n - 1))]).run Tryz.prog w2 = .ok (.tuple #[]) (w2.setRow g cur3)) := Lib.hid (by rw [show n - (n - 1) = 1 by omega]; exact hcl)
  have HF := Lib.hid (And.intro hg2 (And.intro hcs2 (And.intro htk2 hM)))
  rw [← hJ]
  unfold maxLen at hcm
  have hn1 : ((n - 1 : Nat) : Int) ≤ n := by omega
  have hc3 : ¬ cap = n - 1 := by omega
  have hJ' : ¬ (i : Int) = (J : Int) := by omega
  have hiJ : (i : Int) ≤ J := by omega
  have hJn' : (J : Int) ≤ n := by omega
  have hJ2 : i < J := by omega
  have HJ := Lib.hid hJ
  clear hs3 ht3 hc3d hJ hi hr hcl hg2 hnc2 hcm2 hcs2 htk2 hM ho hgr hcell hdl hx htk hcs hown hadd
  by_cases hJc : cap = J
  all_goals
    first
      | (rw [if_pos hJc] at had; subst hJc; rw [Nat.sub_self, Nat.sub_eq_zero_of_le hnc] at HR)
      | rw [if_neg hJc] at had
    subst had
    go_enter Tryz.func116, Tryz.ntmps116
    go_wp2
    refine wp_region_flo (fun k => k = g) [] [] (by kernel_rfl) (by kernel_rfl) (fun k hk => by subst hk; exact blkLt hg) ?_
    refine flo_seg 6 rfl ?_
    simp only [List.take_succ_cons, List.take_zero, List.drop_succ_cons, List.drop_zero]
    repeat (go_big_quiet_step (fail))
    refine wpQuiet_nil ?_
    refine flo_eff rfl rfl rfl rfl (fun K hK => ?_)
    refine wp_app_eq HR.out (.tmp 22) (.tmp 25) rfl rfl rfl rfl ?_; (have HM1 : Hid (Mdh (fun k => k = g) w.drew w2) := Lib.hid HM0.out); go_wp2; refine ⟨HM1.out.mono (fun q hq => by simpa using hq), ?_⟩
    refine flo_seg 1 rfl ?_
    simp only [List.take_succ_cons, List.take_zero, List.drop_succ_cons, List.drop_zero]
    repeat (go_big_quiet_step (fail))
    refine wpQuiet_nil ?_
    refine flo_nil ?_
    go_wp2_with (refine wpList_clear_eq HCL.out rfl (.tmp 31) rfl rfl rfl ?_)
    go_ret
    obtain ⟨hg2, hcs2, htk2, hM⟩ := HF.out
    exact ⟨rfl, Own.ofParts (setRow_at hg2) (by omega) (by unfold maxLen; omega) HT3.out.1 (by rw [HT3.out.2, HJ.out]), setRow_mdh hM (.inl rfl) _⟩
end Go.Proofs.YtemjnppplmankaaGreat

/- An ordered map in memory, and the methods that read it, at keys string and values drumlin/index.list. Written from YOma.base by inst.py. -/
set_option linter.unusedVariables false
set_option linter.unusedSimpArgs false
namespace Go.Proofs.YtemjnppplmankaaGreat
open Go.RowKit
attribute [local go_sem] OvM cell_ovm obj_ovm

abbrev Itsl := ByteArray × (Option Addr × Nat × Nat)
def kvsl (k : ByteArray) : Value := .string (k)
def vvsl (v : (Option Addr × Nat × Nat)) : Value := .slice (v).1 (v).2.1 (v).2.2
def celsl (x : Itsl) : List Value := [.string (x.1), .slice (x.2).1 (x.2).2.1 (x.2).2.2]
def rowsl (L : List Itsl) : List Value := L.flatMap celsl
theorem row_lensl (L : List Itsl) : (rowsl L).length = L.length * 2 := by
  induction L with
  | nil => rfl
  | cons x L ih => simp only [rowsl, List.flatMap_cons, List.length_append, List.length_cons] at *; rw [ih]; simp [celsl]; omega
theorem row_onesl (L : List Itsl) : ∀ u ∈ rowsl L, u.oneCell' = true := by
  intro u hu
  simp only [rowsl, List.mem_flatMap] at hu
  obtain ⟨x, _, hx⟩ := hu
  simp only [celsl, List.mem_cons, List.not_mem_nil, or_false] at hx
  rcases hx with rfl | rfl <;> rfl
theorem row_appsl (L M : List Itsl) : rowsl (L ++ M) = rowsl L ++ rowsl M := by simp [rowsl]
theorem row_getsl (L : List Itsl) : ∀ i x, L[i]? = some x → (rowsl L)[i * 2]? = some (.string (x.1)) ∧ (rowsl L)[i * 2 + 1]? = some (.slice (x.2).1 (x.2).2.1 (x.2).2.2) := by
  induction L with
  | nil => intro i x h; simp at h
  | cons y L ih =>
    intro i x h
    have e : rowsl (y :: L) = celsl y ++ rowsl L := rfl
    rw [e]
    cases i with
    | zero => simp at h; subst h; simp [celsl]
    | succ i =>
      have := ih i x (by simpa using h)
      have e1 : (i + 1) * 2 = i * 2 + 2 := by omega
      rw [e1, List.getElem?_append_right (by simp [celsl]), List.getElem?_append_right (by simp [celsl])]
      simpa [celsl, show i * 2 + 2 + 1 - 2 = i * 2 + 1 by omega] using this
theorem row_takesl (L : List Itsl) (i : Nat) : (rowsl L).take (i * 2) = rowsl (L.take i) := by
  induction L generalizing i with
  | nil => simp [rowsl]
  | cons y L ih =>
    cases i with
    | zero => simp [rowsl]
    | succ i =>
      have e : rowsl (y :: L) = celsl y ++ rowsl L := rfl
      rw [e, show (i + 1) * 2 = 2 + i * 2 by omega, List.take_succ_cons, show rowsl (y :: L.take i) = celsl y ++ rowsl (L.take i) from rfl, ← ih i]
      exact List.take_length_add_append (l₁ := celsl y) (l₂ := rowsl L) (i * 2)
theorem row_dropsl (L : List Itsl) (i : Nat) : (rowsl L).drop (i * 2) = rowsl (L.drop i) := by
  induction L generalizing i with
  | nil => simp [rowsl]
  | cons y L ih =>
    cases i with
    | zero => simp [rowsl]
    | succ i =>
      have e : rowsl (y :: L) = celsl y ++ rowsl L := rfl
      rw [e, show (i + 1) * 2 = 2 + i * 2 by omega, List.drop_succ_cons, ← ih i]
      exact List.drop_length_add_append (l₁ := celsl y) (l₂ := rowsl L) (i * 2)

theorem row_setsl (L : List Itsl) (i : Nat) (k : ByteArray) (v u : (Option Addr × Nat × Nat)) (h : L[i]? = some (k, v)) : rowsl (L.set i (k, u)) = (rowsl L).set (i * 2 + 1) (.slice (u).1 (u).2.1 (u).2.2) := by
  induction L generalizing i with
  | nil => simp at h
  | cons y L ih =>
    cases i with
    | zero => simp at h; subst h; rfl
    | succ i =>
      have e : ∀ M, rowsl (y :: M) = celsl y ++ rowsl M := fun _ => rfl
      rw [List.set_cons_succ, e, e, ih i (by simpa using h), show (i + 1) * 2 + 1 = i * 2 + 1 + 2 by omega]
      rfl
/-- A map that was made, in the block b. -/
structure OMsl (w : World) (b : Nat) (v : Value) (L : List Itsl) : Prop where
  blk : w.heap[b]? = some (.cells #[.bool true, v] 133 (0, 0))
  own : Own w 162 2 v L.length (rowsl L)
  ne : v.ownBlock ≠ some b
  srt : Srt ltS L
/-- What a map's items are: nil where there is no map. -/
def VWsl (w : World) (p : Option Addr) (v : Value) (L : List Itsl) : Prop :=
  (∃ b, p = some ⟨b, 0, none⟩ ∧ OMsl w b v L) ∨ ((p = none ∨ ∃ b, p = some ⟨b, 0, none⟩ ∧ w.heap[b]? = some (.cells #[.bool false, .slice none 0 0] 133 (0, 0))) ∧ v = .slice none 0 0 ∧ L = [])
theorem OMsl.gr {w w' : World} {b : Nat} {v : Value} {L : List Itsl} (h : OMsl w b v L) (g : Gr w w') : OMsl w' b v L := ⟨g.blk h.blk, h.own.gr g, h.ne, h.srt⟩
theorem OMsl.mdh {F : Nat → Prop} {w w' : World} {b : Nat} {v : Value} {L : List Itsl} (h : OMsl w b v L) (g : Mdh F w w') (hf : ∀ k, k = b ∨ v.ownBlock = some k → ¬ F k) : OMsl w' b v L :=
  ⟨g.blk h.blk (hf b (.inl rfl)), h.own.mdh g (fun k hk => hf k (.inr hk)), h.ne, h.srt⟩
theorem VWsl.gr {w w' : World} {p : Option Addr} {v : Value} {L : List Itsl} (h : VWsl w p v L) (g : Gr w w') : VWsl w' p v L := by
  rcases h with ⟨b, e, h⟩ | ⟨h1 | ⟨b, e, h1⟩, h2, h3⟩
  · exact .inl ⟨b, e, h.gr g⟩
  · exact .inr ⟨.inl h1, h2, h3⟩
  · exact .inr ⟨.inr ⟨b, e, g.blk h1⟩, h2, h3⟩
theorem VWsl.own {w : World} {p : Option Addr} {v : Value} {L : List Itsl} (h : VWsl w p v L) : Own w 162 2 v L.length (rowsl L) := by
  rcases h with ⟨b, e, h⟩ | ⟨_, rfl, rfl⟩
  · exact h.own
  · exact ⟨rfl, .inl ⟨rfl, rfl⟩⟩
theorem VWsl.srt {w : World} {p : Option Addr} {v : Value} {L : List Itsl} (h : VWsl w p v L) : Srt ltS L := by
  rcases h with ⟨b, e, h⟩ | ⟨_, rfl, rfl⟩
  · exact h.srt
  · exact List.Pairwise.nil
/-- The cells of an item. -/
theorem VWsl.at {w : World} {p : Option Addr} {v : Value} {L : List Itsl} (h : VWsl w p v L) : ∃ a cap, v = .slice a L.length cap ∧ L.length ≤ cap ∧ cap ≤ maxLen ∧ ∀ i x, L[i]? = some x → ∃ g, a = some ⟨g, 0, none⟩ ∧ g < w.heap.size ∧
    w.cell? ⟨g, i * 2, none⟩ = some (.string (x.1)) ∧ w.cell? ⟨g, i * 2 + 1, none⟩ = some (.slice (x.2).1 (x.2).2.1 (x.2).2.2) := by
  have ho := h.own
  rcases ho.2 with ⟨hv, h0⟩ | ⟨g, cap, cur, hv, _, hg, h1, h2, h3, h4⟩
  · have hL : L = [] := List.eq_nil_of_length_eq_zero h0
    subst hL
    exact ⟨none, 0, hv, Nat.le_refl _, by simp [maxLen], fun i x hx => by simp at hx⟩
  · subst hv
    refine ⟨_, cap, rfl, h1, h2, fun i x hx => ⟨g, rfl, blkLt hg, ?_⟩⟩
    have hc := ho.cells (g := g) rfl
    obtain ⟨r1, r2⟩ := row_getsl L i x hx
    have hadd : ∀ j, (⟨g, 0, none⟩ : Addr).add j = ⟨g, j, none⟩ := fun j => by unfold Addr.add; split <;> simp_all
    exact ⟨by rw [← hadd]; exact hc _ _ r1, by rw [← hadd]; exact hc _ _ r2⟩

theorem itemssl (p : Option Addr) (v : Value) (L : List Itsl) (w : World) (h : VWsl w p v L) :
    Calls Tryz.prog 130 #[.pointer p] w fun e w' => e = .returned v ∧ w = w' := by
  rcases h with ⟨b, rfl, h⟩ | ⟨rfl | ⟨b, rfl, h⟩, rfl, rfl⟩
  · have c0 := ((cellsOf h.blk).1 0).trans (show _ = some (Value.bool true) from rfl)
    have c1 := ((cellsOf h.blk).1 1).trans (show _ = some v from rfl)
    clear h
    go_enter Tryz.func130, Tryz.ntmps130
    go_wp2
    go_ret
    exact ⟨rfl, rfl⟩
  · go_enter Tryz.func130, Tryz.ntmps130
    go_wp2
    go_ret
    exact ⟨rfl, rfl⟩
  · have c0 := ((cellsOf h).1 0).trans (show _ = some (Value.bool false) from rfl)
    clear h
    go_enter Tryz.func130, Tryz.ntmps130
    go_wp2
    go_ret
    exact ⟨rfl, rfl⟩
end Go.Proofs.YtemjnppplmankaaGreat

/- The methods of an ordered map that read it, at keys string and values drumlin/index.list. Written from YOmb.base by inst.py. -/
set_option linter.unusedVariables false
set_option linter.unusedSimpArgs false
namespace Go.Proofs.YtemjnppplmankaaGreat
open Go.RowKit
attribute [local go_sem] OvM cell_ovm obj_ovm

theorem Rank1sl (x : Itsl) (k : ByteArray) (bk : Nat) (w : World) (hk : w.cell? ⟨bk, 0, none⟩ = some (.string (k))) :
    Calls Tryz.prog 138 #[.agg #[.string (x.1), .slice (x.2).1 (x.2).2.1 (x.2).2.2], .pointer (some ⟨bk, 0, none⟩)] w fun e w' => e = .returned (.bool (!ltS x.1 k)) ∧ Gr w w' := by
  have hb := World.block_lt_of_cell? w ⟨bk, 0, none⟩ hk
  simp only at hb
  obtain ⟨x1, x2⟩ := x
  go_enter Tryz.func138, Tryz.ntmps138
  go_wp2
  all_goals
    go_ret
    exact ⟨ret_bool (by first | (simp [ltS]; done) | (simp [ltS]; exact bl_gt _ _)), by (repeat (first | (with_reducible exact Gr.refl _) | assumption | (with_reducible apply Gr.from_drew) | (with_reducible apply Gr.alloc) | (with_reducible apply Gr.drew) | (with_reducible refine Gr.trans ?_ (by assumption)) | (with_reducible refine Gr.setCell ?_ (by omega) _)))⟩

set_option maxRecDepth 40000 in
set_option maxHeartbeats 2000000 in
theorem firstRanksl (p : Option Addr) (v : Value) (L : List Itsl) (k : ByteArray) (bk : Nat) (w : World) (h : VWsl w p v L) (hn : L.length ≤ 1000000) (hk : w.cell? ⟨bk, 0, none⟩ = some (.string (k))) :
    Calls Tryz.prog 137 #[v, .func (.func 138) #[] #[.pointer (some ⟨bk, 0, none⟩)]] w fun e w' => e = .returned (.int .i64 (rk ltS L k)) ∧ Gr w w' := by
  obtain ⟨a, cap, rfl, hnc, hcm, hat⟩ := h.at
  have hs := h.srt
  have HAT := Lib.hid hat
  have HS := Lib.hid hs
  have HK := Lib.hid hk
  clear h hat hs hk hcm hnc
  go_enter Tryz.func137, Tryz.ntmps137
  go_wp2_with fail
  go_loopw [5, 6] (fun t5 t6 wx => ∃ lo hi : Nat, lo ≤ hi ∧ hi ≤ L.length ∧ t5 = .int .i64 lo ∧ t6 = .int .i64 hi ∧ Hid (Gr w wx ∧ (∀ j x, j < lo → L[j]? = some x → ltS x.1 k = true) ∧ (∀ j x, hi ≤ j → L[j]? = some x → ltS x.1 k = false))) (fun t5 t6 _ => (intOf t6).toNat - (intOf t5).toNat)
  case atStart => exact ⟨0, L.length, by omega, by omega, rfl, rfl, Lib.hid ⟨by (repeat (first | (with_reducible exact Gr.refl _) | assumption | (with_reducible apply Gr.from_drew) | (with_reducible apply Gr.alloc) | (with_reducible apply Gr.drew) | (with_reducible refine Gr.trans ?_ (by assumption)) | (with_reducible refine Gr.setCell ?_ (by omega) _))), by omega, fun j x hj hx => by have := (List.getElem?_eq_some_iff.1 hx).1; omega⟩⟩
  case round =>
    obtain ⟨lo, hi, h1, h2, rfl, rfl, H⟩ := hrel
    by_cases hlt : lo < hi
    · have hlt' : (lo : Int) < hi := by omega
      obtain ⟨m, hm⟩ : ∃ m : Nat, m = (lo + hi) / 2 := ⟨_, rfl⟩
      have eM : ((lo : Int) + hi) / 2 = (m : Nat) := by omega
      have hm1 : lo ≤ m := by omega
      have hm2 : m < hi := by omega
      have hmL : m < L.length := by omega
      have hmL' : (m : Int) < L.length := by omega
      have hxm : L[m]? = some (L[m]'hmL) := List.getElem?_eq_getElem hmL
      obtain ⟨g, rfl, hg, c0, c1⟩ := HAT.out m _ hxm
      have d0 := H.out.1.keep c0
      have d1 := H.out.1.keep c1
      have HXM := Lib.hid hxm
      cases e : ltS (L[m]'hmL).1 k with
      | true =>
        have HE := Lib.hid e
        generalize L[m]'hmL = x at *
        obtain ⟨x1, x2⟩ := x
        simp only at d0 d1
        clear c0 c1 hg hm e hxm hmL
        go_wp2_with (go_at_call 138; refine (Rank1sl (x1, x2) k bk _ (H.out.1.keep HK.out)).mono ?_; rintro e2 w1 ⟨rfl, hg1⟩; rw [HE.out])
        go_roundw
        case rel => exact ⟨m + 1, hi, by omega, h2, by go_num, rfl, Lib.hid ⟨H.out.1.trans hg1, mono_lo ordS HS.out HXM.out HE.out, H.out.2.2⟩⟩
        case measure => simp [intOf]; omega
      | false =>
        have HE := Lib.hid e
        generalize L[m]'hmL = x at *
        obtain ⟨x1, x2⟩ := x
        simp only at d0 d1
        clear c0 c1 hg hm e hxm hmL
        go_wp2_with (go_at_call 138; refine (Rank1sl (x1, x2) k bk _ (H.out.1.keep HK.out)).mono ?_; rintro e2 w1 ⟨rfl, hg1⟩; rw [HE.out])
        go_roundw
        case rel => exact ⟨lo, m, by omega, by omega, rfl, rfl, Lib.hid ⟨H.out.1.trans hg1, H.out.2.1, mono_hi ordS HS.out HXM.out HE.out⟩⟩
        case measure => simp [intOf]; omega
    · have hlt' : ¬ (lo : Int) < hi := by omega
      obtain rfl : lo = hi := by omega
      go_wp2
      go_ret
      exact ⟨by rw [← rk_uniq ordS HS.out k lo h2 H.out.2.1 H.out.2.2]; rfl, H.out.1⟩

set_option maxRecDepth 40000 in
theorem Ranksl (p : Option Addr) (v : Value) (L : List Itsl) (k : ByteArray) (w : World) (h : VWsl w p v L) (hn : L.length ≤ 1000000) :
    Calls Tryz.prog 115 #[.pointer p, .string (k)] w fun e w' => e = .returned (.int .i64 (rk ltS L k)) ∧ Gr w w' := by
  have H := Lib.hid h
  clear h
  go_enter Tryz.func115, Tryz.ntmps115
  go_wp2_with (first
    | (go_at_call 130; refine (itemssl p v L _ (H.out.gr (by (repeat (first | (with_reducible exact Gr.refl _) | assumption | (with_reducible apply Gr.from_drew) | (with_reducible apply Gr.alloc) | (with_reducible apply Gr.drew) | (with_reducible refine Gr.trans ?_ (by assumption)) | (with_reducible refine Gr.setCell ?_ (by omega) _)))))).mono ?_; rintro e w1 ⟨rfl, rfl⟩)
    | (go_at_call 137; refine (firstRanksl p v L k w.heap.size _ (H.out.gr (by (repeat (first | (with_reducible exact Gr.refl _) | assumption | (with_reducible apply Gr.from_drew) | (with_reducible apply Gr.alloc) | (with_reducible apply Gr.drew) | (with_reducible refine Gr.trans ?_ (by assumption)) | (with_reducible refine Gr.setCell ?_ (by omega) _))))) hn (by simp [go_sem])).mono ?_; rintro e w1 ⟨rfl, hg⟩))
  go_ret
  exact ⟨rfl, (Gr.alloc (Gr.refl w) _).trans hg⟩

def hasBsl (L : List Itsl) (k : ByteArray) : Bool := (look ltS L k).isSome
theorem hasB_atsl {L : List Itsl} {k : ByteArray} {x : Itsl} (h : L[rk ltS L k]? = some x) : hasBsl L k = decide (x.1 = k) := by
  unfold hasBsl look
  rw [h]
  by_cases e : x.1 = k <;> simp [e]
theorem hasB_outsl {L : List Itsl} {k : ByteArray} (h : L.length ≤ rk ltS L k) : hasBsl L k = false := by
  unfold hasBsl look
  rw [List.getElem?_eq_none h]
  rfl

set_option maxRecDepth 40000 in
set_option maxHeartbeats 1000000 in
theorem findsl (p : Option Addr) (v : Value) (L : List Itsl) (k : ByteArray) (w : World) (h : VWsl w p v L) (hn : L.length ≤ 1000000) :
    Calls Tryz.prog 103 #[.pointer p, .string (k)] w fun e w' => e = .returned (.tuple #[.int .i64 (rk ltS L k), .bool (hasBsl L k)]) ∧ Gr w w' := by
  have H := Lib.hid h
  obtain ⟨a, cap, rfl, hnc, hcm, hat⟩ := h.at
  have HAT := Lib.hid hat
  clear h hat
  unfold maxLen at hcm
  have hr := rk_le (lt := ltS) L k
  obtain ⟨r, hrd⟩ : ∃ r, r = rk ltS L k := ⟨_, rfl⟩
  have HRK := Lib.hid hrd
  rw [← hrd] at hr ⊢
  clear hrd
  go_enter Tryz.func103, Tryz.ntmps103
  go_wp2_with fail
  refine (Ranksl p _ L k _ H.out hn).mono ?_
  rintro e w1 ⟨rfl, hg⟩
  rw [← HRK.out]
  have H1 := Lib.hid (H.out.gr hg)
  have HG := Lib.hid hg
  clear hg
  go_wp2_with fail
  refine (itemssl p _ L _ H1.out).mono ?_
  rintro e w2 ⟨rfl, rfl⟩
  by_cases hlt : r < L.length
  · obtain ⟨x, hx⟩ : ∃ x, L[r]? = some x := ⟨_, List.getElem?_eq_getElem hlt⟩
    have HB : Hid (hasBsl L k = decide (x.1 = k)) := Lib.hid (hasB_atsl (by rw [← HRK.out]; exact hx))
    obtain ⟨g, rfl, hg, c0, c1⟩ := HAT.out _ x hx
    have d0 := HG.out.keep c0
    have hlt' : (r : Int) < L.length := by omega
    obtain ⟨x1, x2⟩ := x
    simp only at d0
    clear c0 c1 hg hx
    go_wp2
    refine wp_region_flo (fun _ => False) [] [] (by kernel_rfl) (by kernel_rfl) (fun _ h => h.elim) ?_
    refine flo_seg 16 rfl ?_
    simp only [List.take_succ_cons, List.take_zero, List.drop_succ_cons, List.drop_zero]
    repeat (go_big_quiet_step (fail))
    refine wpQuiet_nil ?_
    refine flo_nil ?_
    go_wp2
    go_ret2
    exact ⟨by rw [HB.out, ← str_beq]; rfl, HG.out.drew⟩
  · have HB := Lib.hid (hasB_outsl (L := L) (k := k) (by rw [← HRK.out]; omega))
    have hlt' : ¬ (r : Int) < L.length := by omega
    go_wp2
    refine wp_region_flo (fun _ => False) [] [] (by kernel_rfl) (by kernel_rfl) (fun _ h => h.elim) ?_
    refine flo_seg 16 rfl ?_
    simp only [List.take_succ_cons, List.take_zero, List.drop_succ_cons, List.drop_zero]
    repeat (go_big_quiet_step (fail))
    refine wpQuiet_nil ?_
    refine flo_nil ?_
    go_wp2
    go_ret2
    exact ⟨by rw [HB.out]; rfl, HG.out.drew⟩

def lookVsl (L : List Itsl) (k : ByteArray) : Value := match look ltS L k with
  | some v => .slice (v).1 (v).2.1 (v).2.2
  | none => .slice none 0 0
set_option maxRecDepth 40000 in
set_option maxHeartbeats 1000000 in
theorem Getsl (p : Option Addr) (v : Value) (L : List Itsl) (k : ByteArray) (w : World) (h : VWsl w p v L) (hn : L.length ≤ 1000000) :
    Calls Tryz.prog 61 #[.pointer p, .string (k)] w fun e w' => e = .returned (.tuple #[lookVsl L k, .bool (hasBsl L k)]) ∧ Gr w w' := by
  have H := Lib.hid h
  clear h
  cases hl : look ltS L k with
  | none =>
    have HB := Lib.hid (show hasBsl L k = false by unfold hasBsl; rw [hl]; rfl)
    have HV := Lib.hid (show lookVsl L k = .slice none 0 0 by unfold lookVsl; rw [hl])
    clear hl
    rw [HB.out, HV.out]
    go_enter Tryz.func61, Tryz.ntmps61
    go_wp2_with fail
    refine (findsl p v L k _ H.out hn).mono ?_
    rintro e w1 ⟨rfl, hg⟩
    rw [HB.out]
    go_wp2
    go_ret2
    exact ⟨rfl, hg⟩
  | some u =>
    have HB := Lib.hid (show hasBsl L k = true by unfold hasBsl; rw [hl]; rfl)
    have HV := Lib.hid (show lookVsl L k = .slice (u).1 (u).2.1 (u).2.2 by unfold lookVsl; rw [hl])
    have hg := look_some hl
    have hlt := (List.getElem?_eq_some_iff.1 hg).1
    obtain ⟨b, rfl, hm⟩ : ∃ b, p = some ⟨b, 0, none⟩ ∧ OMsl w b v L := by
      rcases H.out with h | ⟨_, _, rfl⟩
      · exact h
      · simp at hg
    obtain ⟨a, cap, rfl, hnc, hcm, hat⟩ := H.out.at
    obtain ⟨g, rfl, hgl, c0, c1⟩ := hat _ _ hg
    have e1 := ((cellsOf hm.blk).1 1).trans (show _ = some (Value.slice (some ⟨g, 0, none⟩) L.length cap) from rfl)
    unfold maxLen at hcm
    clear hl hg hm hat
    rw [HB.out, HV.out]
    go_enter Tryz.func61, Tryz.ntmps61
    go_wp2_with fail
    refine (findsl _ _ L k _ H.out hn).mono ?_
    rintro e w1 ⟨rfl, hg⟩
    rw [HB.out]
    have f1 := hg.keep e1
    have d1 := hg.keep c1
    generalize rk ltS L k = r at *
    have hlt' : (r : Int) < L.length := by omega
    (try simp only at d1)
    clear c0 c1 e1 hgl
    go_wp2
    go_ret2
    exact ⟨rfl, hg⟩

end Go.Proofs.YtemjnppplmankaaGreat
