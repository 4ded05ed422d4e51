/- drumlinref21's index in plain Lean: what Add says is what the program's index says. No walk. -/
import Derived.Test.YtmdfickejpeofaaBd7
import Derived.Test.YtmdfickejpeofaaBd10
import Derived.Test.YtmdfickejpeofaaBd6
import Derived.Test.YtmdfickejpeofaaBd11
import Derived.Test.YtmdfickejpeofaaBd2
set_option linter.unusedVariables false
set_option linter.unusedSimpArgs false
namespace Go.Proofs.Ytmdfickejpeofaa

def rBad (e o : En) : Bool := decide (o.seq = e.seq ∧ o.key = e.key ∧ (o.del ≠ e.del ∨ o.size ≠ e.size))
def rHav (e o : En) : Bool := decide (o.slot = e.slot ∧ ((o.seq = e.seq ∧ o.key = e.key) ∨ (o.off < e.off + e.size ∧ e.off < o.off + o.size)))
/-- What Add says of an index with these entries. -/
def rAddC (N : Int) (all : List En) (e : En) : Int := if e.slot < 0 ∨ N ≤ e.slot then 3 else if validE e = false then 2 else if all.any (rBad e) = true then 2 else if all.any (rHav e) = true then 6 else 0
def rAddL (N : Int) (all : List En) (e : En) : List En := if rAddC N all e = 0 then all ++ [e] else all
section
variable {X : IX} {all : List En} {e : En} {N : Int}
theorem clash_iff {i : Int} {s : List En} (hs : SlotOk i s) (he : 0 < e.size) : clash s e = true ↔ ∃ o ∈ s, o.off < e.off + e.size ∧ e.off < o.off + o.size := by
  constructor
  · intro h
    refine Classical.byContradiction (fun hn => ?_)
    have hno : ∀ o ∈ s, ¬ (o.off < e.off + e.size ∧ e.off < o.off + o.size) := fun o ho hh => hn ⟨o, ho, hh⟩
    have hz : ∀ o ∈ s, 16 ≤ o.size := fun o ho => by have := (valid_iff o).1 (hs.e o ho).2; omega
    unfold clash at h
    rw [Bool.or_eq_true] at h
    rcases h with h | h
    · cases hg : s[cnt (offP e.off) s]? with
      | none => rw [hg] at h; cases h
      | some o =>
        rw [hg] at h
        have h1 := cnt_at _ _ o hg
        have hm := List.mem_of_getElem? hg
        have h2 := hno o hm
        have h3 := hz o hm
        simp only [offP, decide_eq_false_iff_not] at h1
        simp only [Bool.or_eq_true, decide_eq_true_eq] at h
        omega
    · rw [Bool.and_eq_true] at h
      obtain ⟨h0, h⟩ := h
      have h0 := of_decide_eq_true h0
      cases hg : s[cnt (offP e.off) s - 1]? with
      | none => rw [hg] at h; cases h
      | some o =>
        rw [hg] at h
        have h1 := cnt_lo _ _ _ o (show cnt (offP e.off) s - 1 < cnt (offP e.off) s by omega) hg
        have hm := List.mem_of_getElem? hg
        have h2 := hno o hm
        simp only [offP, decide_eq_true_eq] at h1
        simp only [decide_eq_true_eq] at h
        omega
  · rintro ⟨o, ho, h1, h2⟩
    cases hc : clash s e with
    | true => rfl
    | false =>
      have h3 := clash_lo hs hc o ho
      have h4 := clash_hi hs hc o ho
      unfold offP at h3 h4
      by_cases h5 : o.off < e.off
      · have := h3 (decide_eq_true h5); omega
      · have := h4 (decide_eq_false h5); omega
theorem rAddC_eq (h : X.Wf) (hl : (X.slots.length : Int) = N) (hN : 1 ≤ N) (hp : all.Perm X.ents) (e : En) : rAddC N all e = addE X e := by
  have hne : X.slots ≠ [] := fun h0 => by rw [h0] at hl; simp at hl; omega
  unfold rAddC addE
  rw [if_neg hne]
  by_cases h1 : e.slot < 0 ∨ N ≤ e.slot
  · rw [if_pos h1, if_pos (by unfold IX.has; exact decide_eq_false (by omega))]
  · have hh : X.has e.slot = true := by unfold IX.has; exact decide_eq_true (by omega)
    rw [if_neg h1, if_neg (show ¬ X.has e.slot = false by rw [hh]; decide)]
    cases hv : validE e with
    | false => rw [if_pos rfl, if_pos rfl]
    | true =>
      have hz : 0 < e.size := by have := (valid_iff e).1 hv; omega
      rw [if_neg (show ¬ true = false by decide), if_neg (show ¬ true = false by decide)]
      have e1 : all.any (rBad e) = (X.of e.key).any (badE e) := by
        rw [Bool.eq_iff_iff, List.any_eq_true, List.any_eq_true]
        unfold rBad badE
        constructor
        · rintro ⟨o, ho, h2⟩
          obtain ⟨h3, h4, h5⟩ := of_decide_eq_true h2
          refine ⟨o, (h.of_mem _ _).2 ⟨(hp.mem_iff).1 ho, h4⟩, decide_eq_true ⟨h3, fun h6 => ?_⟩⟩
          have := congrArg En.del h6
          have := congrArg En.size h6
          simp only at *
          rcases h5 with h5 | h5 <;> exact h5 (by assumption)
        · rintro ⟨o, ho, h2⟩
          obtain ⟨h3, h5⟩ := of_decide_eq_true h2
          obtain ⟨h6, h4⟩ := (h.of_mem _ _).1 ho
          refine ⟨o, (hp.mem_iff).2 h6, decide_eq_true ⟨h3, h4, ?_⟩⟩
          by_cases h7 : o.del = e.del
          · by_cases h8 : o.size = e.size
            · exact absurd (show ({ o with slot := e.slot, off := e.off } : En) = e from En.ext' h3 h4 h7 rfl rfl h8) h5
            · exact .inr h8
          · exact .inl h7
      have e2 : all.any (rHav e) = ((X.of e.key).any (sameE e) || clash (X.slot e.slot) e) := by
        rw [Bool.eq_iff_iff, Bool.or_eq_true, List.any_eq_true, List.any_eq_true, clash_iff (h.slotOk e.slot) hz]
        unfold rHav sameE
        constructor
        · rintro ⟨o, ho, h2⟩
          obtain ⟨h3, h4⟩ := of_decide_eq_true h2
          rcases h4 with ⟨h4, h5⟩ | h4
          · exact .inl ⟨o, (h.of_mem _ _).2 ⟨(hp.mem_iff).1 ho, h5⟩, decide_eq_true ⟨h4, h3⟩⟩
          · exact .inr ⟨o, (h.slot_mem _ _).2 ⟨(hp.mem_iff).1 ho, h3⟩, h4⟩
        · rintro (⟨o, ho, h2⟩ | ⟨o, ho, h2⟩)
          · obtain ⟨h3, h4⟩ := of_decide_eq_true h2
            obtain ⟨h6, h5⟩ := (h.of_mem _ _).1 ho
            exact ⟨o, (hp.mem_iff).2 h6, decide_eq_true ⟨h4, .inl ⟨h3, h5⟩⟩⟩
          · obtain ⟨h6, h5⟩ := (h.slot_mem _ _).1 ho
            exact ⟨o, (hp.mem_iff).2 h6, decide_eq_true ⟨h5, .inr h2⟩⟩
      rw [e1, e2]
end
/-- Where the loop of Add stands behind some entries. -/
theorem rany_snoc {p : En → Bool} {l : List En} {i : Nat} {o : En} (h : l[i]? = some o) : (l.take (i + 1)).any p = ((l.take i).any p || p o) := by
  rw [List.take_add_one, h, List.any_append]
  simp
theorem rany_take {p : En → Bool} {l : List En} {i : Nat} (h : (l.take i).any p = true) : l.any p = true := by
  obtain ⟨o, ho, hp⟩ := List.any_eq_true.1 h
  exact List.any_eq_true.2 ⟨o, List.mem_of_mem_take ho, hp⟩
end Go.Proofs.Ytmdfickejpeofaa

/- An index has each entry once: what it has of a key, or in a slot, is what it has with that key, in that slot. No walk. -/
set_option linter.unusedVariables false
set_option linter.unusedSimpArgs false
namespace Go.Proofs.Ytmdfickejpeofaa

theorem ents_nodup {X : IX} (h : X.Wf) : X.ents.Nodup := by
  refine (h.v.nodup_iff).1 ?_
  refine List.pairwise_flatMap.2 ⟨fun x hx => (h.k x hx).p.imp (fun {a b} hab e => by subst e; rw [ltE_irr] at hab; cases hab), ?_⟩
  refine List.Pairwise.imp_of_mem (fun {x y} hx hy hxy a ha b hb e => ?_) h.k0
  have h1 := (h.k x hx).e a ha
  have h2 := (h.k y hy).e b hb
  rw [← h1, ← h2, e] at hxy
  rw [ordS.irr] at hxy
  cases hxy
theorem of_nodup {X : IX} (h : X.Wf) (k : ByteArray) : (X.of k).Nodup := (h.ofPair k).imp (fun {a b} hab e => by subst e; rw [ltE_irr] at hab; cases hab)
def keyP (k : ByteArray) (e : En) : Bool := decide (e.key = k)
def slotP (s : Int) (e : En) : Bool := decide (e.slot = s)
theorem of_perm {X : IX} (h : X.Wf) (k : ByteArray) : (X.of k).Perm (X.ents.filter (keyP k)) :=
  (List.perm_ext_iff_of_nodup (of_nodup h k) ((ents_nodup h).filter _)).2 (fun e => by rw [h.of_mem, List.mem_filter, keyP, decide_eq_true_iff])
theorem slot_perm {X : IX} (h : X.Wf) (s : Int) : (X.slot s).Perm (X.ents.filter (slotP s)) :=
  (List.perm_ext_iff_of_nodup (slot_nodup (h.slotOk s)) ((ents_nodup h).filter _)).2 (fun e => by rw [h.slot_mem, List.mem_filter, slotP, decide_eq_true_iff])
end Go.Proofs.Ytmdfickejpeofaa

/- drumlinref21's Of and Keys in plain Lean: again and again the best of what is left. No walk. -/
set_option linter.unusedVariables false
set_option linter.unusedSimpArgs false
namespace Go.Proofs.Ytmdfickejpeofaa

/-- The best of what is left is the head of the order. -/
theorem sel_head {D left : List En} (hp : D.Pairwise (fun a b => ltE a b = true)) (hperm : left.Perm D) {bi : Nat} {x : En} (hx : left[bi]? = some x) (hmin : ∀ y ∈ left, ltE y x = false) : ∃ D', D = x :: D' ∧ (left.eraseIdx bi).Perm D' := by
  obtain ⟨hlt, rfl⟩ := List.getElem?_eq_some_iff.1 hx
  have hxm : left[bi] ∈ left := List.getElem_mem hlt
  cases D with
  | nil => have := hperm.mem_iff.1 hxm; cases this
  | cons y t =>
    have hy : y ∈ left := hperm.mem_iff.2 (List.mem_cons_self ..)
    have e : y = left[bi] := by
      rcases List.mem_cons.1 (hperm.mem_iff.1 hxm) with h | h
      · exact h.symm
      · have h1 := (List.pairwise_cons.1 hp).1 _ h
        rw [hmin y hy] at h1
        cases h1
    subst e
    exact ⟨t, rfl, ((erase_perm hlt).trans hperm).cons_inv⟩
def keyF (k : ByteArray) (o : En) : Bool := decide (o.key = k)
theorem of_left {X : IX} {all : List En} (h : X.Wf) (hp : all.Perm X.ents) (k : ByteArray) : (all.filter (keyF k)).Perm (X.of k) :=
  (hp.filter _).trans (of_perm h k).symm
/-- Where the search for the best stands. -/
def selI (left : List En) (i bi : Nat) : Prop := ∃ x, left[bi]? = some x ∧ ∀ j y, j < i → left[j]? = some y → ltE y x = false
theorem selI_one {left : List En} (h : 0 < left.length) : selI left 1 0 := by
  refine ⟨left[0], List.getElem?_eq_getElem h, fun j y hj hy => ?_⟩
  obtain rfl : j = 0 := by omega
  rw [List.getElem?_eq_getElem h] at hy
  rw [← Option.some.inj hy]
  exact ltE_irr _
theorem selI_no {left : List En} {i bi : Nat} {x y : En} (h : selI left i bi) (hx : left[bi]? = some x) (hy : left[i]? = some y) (hl : ltE y x = false) : selI left (i + 1) bi := by
  obtain ⟨x', hx', h⟩ := h
  rw [hx] at hx'
  obtain rfl := Option.some.inj hx'
  refine ⟨x, hx, fun j z hj hz => ?_⟩
  by_cases hji : j < i
  · exact h j z hji hz
  · obtain rfl : j = i := by omega
    rw [hy] at hz
    rw [← Option.some.inj hz]
    exact hl
theorem selI_yes {left : List En} {i bi : Nat} {x y : En} (h : selI left i bi) (hx : left[bi]? = some x) (hy : left[i]? = some y) (hl : ltE y x = true) : selI left (i + 1) i := by
  obtain ⟨x', hx', h⟩ := h
  rw [hx] at hx'
  obtain rfl := Option.some.inj hx'
  refine ⟨y, hy, fun j z hj hz => ?_⟩
  by_cases hji : j < i
  · cases hc : ltE z y with
    | false => rfl
    | true => rw [← h j z hji hz]; exact (ltE_trn hc hl).symm
  · obtain rfl : j = i := by omega
    rw [hy] at hz
    rw [← Option.some.inj hz]
    exact ltE_irr _
theorem selI_end {left : List En} {bi : Nat} (h : selI left left.length bi) : ∃ x, left[bi]? = some x ∧ ∀ y ∈ left, ltE y x = false := by
  obtain ⟨x, hx, h⟩ := h
  refine ⟨x, hx, fun y hy => ?_⟩
  obtain ⟨j, hj⟩ := List.mem_iff_getElem?.1 hy
  exact h j y (List.getElem?_eq_some_iff.1 hj).1 hj
end Go.Proofs.Ytmdfickejpeofaa

/- A choice of things that lie side by side, in any order. No program in sight. -/
set_option linter.unusedVariables false
set_option linter.unusedSimpArgs false
namespace Go.Proofs.Ytmdfickejpeofaa
open Go.RowKit
theorem SW.sel {w0 w : World} {R R' : List Asn} (h : SW w0 R w) (is : List Nat) (hd : is.Nodup) (he : is.map (fun i => R[i]?) = R'.map some) : SW w0 R' w := by
  have hm : ∀ A ∈ R', A ∈ R := fun A hA => by
    have h1 : some A ∈ R'.map some := List.mem_map.2 ⟨A, hA, rfl⟩
    rw [← he] at h1
    obtain ⟨i, _, h2⟩ := List.mem_map.1 h1
    exact List.mem_of_getElem? h2
  have hp : (R'.map some).Pairwise (fun a b => ∀ A B, a = some A → b = some B → Dis A B) := by
    rw [← he]
    exact List.pairwise_map.2 (hd.imp (fun {i j} hij A B ha hb => h.get_ne ha hb hij))
  exact ⟨h.g, ⟨fun A hA => h.s.1 A (hm A hA), (List.pairwise_map.1 hp).imp (fun {A B} hab => hab A B rfl rfl)⟩, fun A hA => h.n A (hm A hA)⟩
/-- What a callee has laid beside what the caller held. -/
theorem SW.both {w w0 w1 : World} {R R2 : List Asn} (h : SW w R w0) (h2 : SW w0 R2 w1) : SW w (R2 ++ R) w1 := by
  have hr := h.s.gr h2.g
  refine ⟨h.g.trans h2.g, ⟨fun A hA => (List.mem_append.1 hA).elim (h2.s.1 A) (hr.1 A), List.pairwise_append.2 ⟨h2.s.2, h.s.2, fun A hA B hB k ka kb => ?_⟩⟩, fun A hA k hk => (List.mem_append.1 hA).elim (fun e => Nat.le_trans h.g.sz (h2.n A e k hk)) (fun e => h.n A e k hk)⟩
  have h3 := h2.n A hA k ka
  have h4 := h.s.lt hB k kb
  omega
/-- A block that lies apart from all of them. -/
theorem SW.addD {w0 W : World} {R : List Asn} {D : Nat} {o : Obj} (h : SW w0 R W) (hd : W.heap[D]? = some o) (hn : ∀ B ∈ R, ∀ k, B.S k → k ≠ D) (h0 : w0.heap.size ≤ D) : SW w0 (blkA D o :: R) W :=
  ⟨h.g, ⟨fun A hA => (List.mem_cons.1 hA).elim (fun e => by rw [e]; exact hd) (h.s.1 A), List.pairwise_cons.2 ⟨fun B hB k ka kb => hn B hB k kb ka, h.s.2⟩⟩, fun A hA k hk => (List.mem_cons.1 hA).elim (fun e => by rw [e] at hk; rw [show k = D from hk]; exact h0) (fun e => h.n A e k hk)⟩
end Go.Proofs.Ytmdfickejpeofaa

/- drumlinref05.Check and the small functions of drumlinref21: the walks. -/
set_option linter.unusedVariables false
set_option linter.unusedSimpArgs false
namespace Go.Proofs.Ytmdfickejpeofaa
open Go.RowKit Go.Shelf
attribute [local go_sem] OvM cell_ovm obj_ovm

theorem keyC_mem (c : UInt8) : keyC c = decide (c ∈ lettersL) := by
  have h : ∀ n : Fin 256, keyC (UInt8.ofNat n.val) = decide (UInt8.ofNat n.val ∈ lettersL) := by decide +kernel
  have := h ⟨c.toNat, c.toNat_lt⟩
  simpa using this
set_option maxRecDepth 40000 in
theorem letters5 (w : World) : Calls Try.prog 188 #[] w fun e w' => e = .returned (.string ⟨lettersL.toArray⟩) ∧ w = w' := by
  go_enter Try.func188, Try.ntmps188
  go_wp2
  go_ret
  exact ⟨rfl, rfl⟩
set_option maxRecDepth 40000 in
set_option maxHeartbeats 4000000 in
theorem place5 (c : UInt8) (w : World) : Calls Try.prog 178 #[.int .u8 c.toNat] w fun e w' => ∃ r : Int, e = .returned (.int .i64 r) ∧ decide (r < 0) = !keyC c ∧ w = w' := by
  obtain ⟨sB, hsB⟩ : ∃ s : ByteArray, s = ⟨lettersL.toArray⟩ := ⟨_, rfl⟩
  have HL : Hid (∀ w, Calls Try.prog 188 #[] w fun e w' => e = .returned (.string sB) ∧ w = w') := Lib.hid (fun w => by rw [hsB]; exact letters5 w)
  have hz : sB.size = 39 := by rw [hsB]; rfl
  go_enter Try.func178, Try.ntmps178
  go_wp2_with fail
  go_loopw [3] (fun t3 wx => ∃ i : Nat, i ≤ 39 ∧ t3 = .int .i64 i ∧ (∀ j, j < i → lettersL[j]? ≠ some c) ∧ w = wx) (fun t3 _ => 39 - (intOf t3).toNat)
  case atStart => exact ⟨0, by omega, rfl, fun j hj => by omega, rfl⟩
  case round =>
    obtain ⟨i, hi, rfl, hj, rfl⟩ := hrel
    go_wp2_with (go_at_call 188; refine (HL.out _).mono ?_; rintro e w1 ⟨rfl, rfl⟩)
    · rename_i h1 _ _ h2
      have h3 : ((lettersL[i]'h1).toNat : Int) = c.toNat := beq_iff_eq.1 h2
      have h4 : lettersL[i]'h1 = c := UInt8.toNat_inj.1 (by omega)
      go_ret
      have hk : keyC c = true := by rw [keyC_mem, ← h4]; exact decide_eq_true (List.getElem_mem h1)
      exact ⟨i, rfl, by rw [hk]; exact decide_eq_false (by omega), rfl⟩
    · rename_i h1 h2
      have h1' : i < 39 := h1
      refine ⟨⟨i + 1, by omega, by simp, fun j hji hc => ?_, trivial⟩, by simp [intOf]; omega⟩
      by_cases hji' : j < i
      · exact hj j hji' hc
      · obtain rfl : j = i := by omega
        rw [List.getElem?_eq_getElem h1] at hc
        have h4 := Option.some.inj hc
        exact beq_eq_false_iff_ne.1 h2 (by show ((lettersL[j]'h1).toNat : Int) = c.toNat; rw [h4])
    · rename_i h1
      have h1' : ¬ i < 39 := h1
      go_ret
      refine ⟨-1, rfl, ?_, rfl⟩
      have hk : keyC c = false := by
        rw [keyC_mem]
        refine decide_eq_false (fun hm => ?_)
        obtain ⟨j, hj1, hj2⟩ := List.mem_iff_getElem.1 hm
        have hj3 : j < 39 := hj1
        exact hj j (by omega) (by rw [List.getElem?_eq_getElem hj1, hj2])
      rw [hk]
      rfl
end Go.Proofs.Ytmdfickejpeofaa

/- drumlinref21's index: the walks of New, Slots, Valid. -/
set_option linter.unusedVariables false
set_option linter.unusedSimpArgs false
namespace Go.Proofs.Ytmdfickejpeofaa
open Go.RowKit Go.Shelf
attribute [local go_sem] OvM cell_ovm obj_ovm
attribute [local go_sem] Oper.semAt_some

set_option maxRecDepth 40000 in
set_option maxHeartbeats 4000000 in
theorem Check5 (k : ByteArray) (hm : k.size ≤ 140737488351232) (w : World) : Calls Try.prog 150 #[.string k] w fun e w' => e = .returned (.int .i64 (keyChk k)) ∧ w = w' := by
  have hl : k.toList.length = k.size := by rw [toList_data, size_data]
  by_cases h0 : k.size = 0
  · have e0 : k.toList = [] := List.eq_nil_of_length_eq_zero (by omega)
    have HR : Hid (keyChk k = 2) := Lib.hid (by rw [keyChk_ok (k := k) (fun j hj => by omega), if_pos h0])
    clear hl h0
    go_enter Try.func150, Try.ntmps150
    go_wp2
    go_ret
    exact ⟨ret_int HR.out.symm, rfl⟩
  · have e0 : (k.toList == []) = false := by cases hk : k.toList with | nil => rw [hk] at hl; simp at hl; omega | cons a b => rfl
    have e1 : k.toList.isEmpty = false := by cases hk : k.toList with | nil => rw [hk] at e0; cases e0 | cons a b => rfl
    have HBAD := Lib.hid (fun (i : Nat) (hi : i < k.size) (h : keyC (k[i]'hi) = false) => keyChk_bad (k := k) i hi h)
    have HOK := Lib.hid (fun (h : ∀ j (hj : j < k.size), keyC (k[j]'hj) = true) => keyChk_ok (k := k) h)
    go_enter Try.func150, Try.ntmps150
    go_wp2_with fail
    go_loopw [3] (fun t3 wx => ∃ i : Nat, i ≤ k.size ∧ t3 = .int .i64 i ∧ Hid (∀ j (hj : j < k.size), j < i → keyC (k[j]'hj) = true) ∧ w = wx) (fun t3 _ => k.size - (intOf t3).toNat)
    case atStart => exact ⟨0, by omega, rfl, Lib.hid (fun j hj h => by omega), rfl⟩
    case round =>
      obtain ⟨i, hi, rfl, HJ, rfl⟩ := hrel
      by_cases hlt : i < k.size
      · have hlt' : (i : Int) < k.size := by omega
        have HP := Lib.hid (place5 (k[i]'hlt) w)
        cases hk : keyC (k[i]'hlt) with
        | true =>
          have HK := Lib.hid hk
          clear hk
          go_wp2_with (go_at_call 178; refine Calls.mono HP.out ?_; rintro e w1 ⟨r, rfl, hr, rfl⟩; (have hr0 : ¬ r < 0 := by rw [HK.out] at hr; exact of_decide_eq_false hr); clear hr)
          exact ⟨⟨i + 1, by omega, by simp, Lib.hid (fun j hj h => by
            by_cases hji : j < i
            · exact HJ.out j hj hji
            · obtain rfl : j = i := by omega
              exact HK.out), trivial⟩, by simp [intOf]; omega⟩
        | false =>
          have HK := Lib.hid hk
          clear hk
          go_wp2_with (go_at_call 178; refine Calls.mono HP.out ?_; rintro e w1 ⟨r, rfl, hr, rfl⟩; (have hr0 : r < 0 := by rw [HK.out] at hr; exact of_decide_eq_true hr); clear hr)
          go_ret
          exact ⟨ret_int (HBAD.out i hlt HK.out).symm, rfl⟩
      · have hlt' : ¬ (i : Int) < k.size := by omega
        have HE := Lib.hid (HOK.out (fun j hj => HJ.out j hj (by omega)))
        by_cases h1 : 32 < k.size
        · have h2 : (32 : Int) < k.size := by omega
          have HR : Hid (keyChk k = 12) := Lib.hid (by rw [HE.out, if_neg h0, if_pos h1])
          go_wp2
          go_ret
          exact ⟨ret_int HR.out.symm, rfl⟩
        · have h2 : ¬ (32 : Int) < k.size := by omega
          have HR : Hid (keyChk k = 0) := Lib.hid (by rw [HE.out, if_neg h0, if_neg h1])
          go_wp2
          go_ret
          exact ⟨ret_int HR.out.symm, rfl⟩

abbrev rmO (N : Int) (v : Value) : Obj := .cells #[.int .i64 N, v] 142
set_option maxRecDepth 40000 in
theorem rvalid {w : World} {rb : Nat} {N : Int} {v : Value} (h : w.heap[rb]? = some (rmO N v)) (hN : 0 < N) : Calls Try.prog 85 #[.pointer (some ⟨rb, 0, none⟩)] w fun e w' => e = .returned (.bool true) ∧ w = w' := by
  have c0 := ((cellsOf h).1 0).trans (show _ = some (Value.int .i64 N) from rfl)
  clear h
  go_enter Try.func85, Try.ntmps85
  go_wp2
  go_ret
  exact ⟨rfl, rfl⟩
set_option maxRecDepth 40000 in
theorem rSlots {w : World} {rb : Nat} {N : Int} {v : Value} (h : w.heap[rb]? = some (rmO N v)) (hN : 0 < N) : Calls Try.prog 90 #[.pointer (some ⟨rb, 0, none⟩)] w fun e w' => e = .returned (.int .i64 N) ∧ w = w' := by
  have c0 := ((cellsOf h).1 0).trans (show _ = some (Value.int .i64 N) from rfl)
  have HV := Lib.hid (rvalid h hN)
  clear h
  go_enter Try.func90, Try.ntmps90
  go_wp2_with (go_at_call 85; refine Calls.mono HV.out ?_; rintro e w1 ⟨rfl, rfl⟩)
  go_ret
  exact ⟨rfl, rfl⟩
set_option maxRecDepth 40000 in
theorem rNew (n : Nat) (h1 : 1 ≤ n) (h2 : n ≤ 32) (w : World) : Calls Try.prog 19 #[.int .i64 n] w fun e w' => e = .returned (.tuple #[.pointer (some ⟨w.heap.size, 0, none⟩), .int .i64 0]) ∧ w' = w.alloc (rmO n (.slice none 0 0)) := by
  have h1' : ¬ (n : Int) < 1 := by omega
  have h2' : ¬ (32 : Int) < (n : Int) := by omega
  go_enter Try.func19, Try.ntmps19
  go_wp2
  go_ret2
  exact ⟨rfl, rfl⟩
set_option maxRecDepth 40000 in
set_option maxHeartbeats 4000000 in
theorem rValid (e : En) (hk : e.key.size ≤ 140737488351232) (w : World) : Calls Try.prog 86 #[enV e] w fun r w' => r = .returned (.bool (validE e)) ∧ Gr w w' := by
  have HV := Lib.hid (valid_iff e)
  obtain ⟨vb, hvb⟩ : ∃ vb, vb = validE e := ⟨_, rfl⟩
  rw [← hvb] at HV ⊢
  clear hvb
  obtain ⟨a1, a2, a3, a4, a5, a6⟩ := e
  simp only at hk
  have HC : Hid (∀ w, Calls Try.prog 150 #[.string a2] w fun e w' => e = .returned (.int .i64 (keyChk a2)) ∧ w = w') := Lib.hid (fun w => Check5 a2 (by omega) w)
  simp only [enV]
  go_enter Try.func86, Try.ntmps86
  go_wp2_with (go_at_call 150; refine (HC.out _).mono ?_; rintro e w1 ⟨rfl, rfl⟩)
  all_goals
    go_ret
    refine ⟨ret_bool ?_, (Gr.refl w).alloc _⟩
    rw [Bool.eq_iff_iff, HV.out]
    clear HV HC
    first
    | (simp only [Bool.false_eq_true, false_iff]; rintro ⟨q1, q2, q3, q4, q5, q6, q7, q8⟩; first | omega | (rcases q6 with q6 | q6 <;> simp_all <;> omega) | simp_all)
    | (simp only [decide_eq_true_eq]; constructor <;> intro hh <;> first | omega | (simp_all; done) | (simp_all; omega))
end Go.Proofs.Ytmdfickejpeofaa

/- An entry of a row, read cell by cell. -/
set_option linter.unusedVariables false
set_option linter.unusedSimpArgs false
namespace Go.Proofs.Ytmdfickejpeofaa
open Go.RowKit

theorem ent6g {w : World} {g c i : Nat} {l : List En} {x : En} (h : Own w 53 6 (.slice (some ⟨g, 0, none⟩) l.length c) l.length (rowE l)) (hx : l[i]? = some x) :
    g < w.heap.size ∧ w.cell? ⟨g, i * 6, none⟩ = some (.int .i64 x.seq) ∧ w.cell? ⟨g, i * 6 + 1, none⟩ = some (.string x.key) ∧ w.cell? ⟨g, i * 6 + 2, none⟩ = some (.bool x.del) ∧ w.cell? ⟨g, i * 6 + 3, none⟩ = some (.int .i64 x.slot) ∧
    w.cell? ⟨g, i * 6 + 4, none⟩ = some (.int .i64 x.off) ∧ w.cell? ⟨g, i * 6 + 5, none⟩ = some (.int .i64 x.size) := by
  obtain ⟨_, _, hve, _, _, hat⟩ := ownE_at h
  injection hve with g1 g2 g3
  subst g1
  obtain ⟨g', hg, hl, _, hc⟩ := hat i _ hx
  simp only [Option.some.injEq, Addr.mk.injEq, and_true] at hg
  subst hg
  have y0 := hc 0 _ rfl
  simp only [Nat.add_zero] at y0
  exact ⟨hl, y0, hc 1 _ rfl, hc 2 _ rfl, hc 3 _ rfl, hc 4 _ rfl, hc 5 _ rfl⟩
theorem ent6 {w : World} {a : Option Addr} {c i : Nat} {l : List En} {x : En} (h : Own w 53 6 (.slice a l.length c) l.length (rowE l)) (hx : l[i]? = some x) :
    ∃ g, a = some ⟨g, 0, none⟩ ∧ g < w.heap.size ∧ w.cell? ⟨g, i * 6, none⟩ = some (.int .i64 x.seq) ∧ w.cell? ⟨g, i * 6 + 1, none⟩ = some (.string x.key) ∧ w.cell? ⟨g, i * 6 + 2, none⟩ = some (.bool x.del) ∧ w.cell? ⟨g, i * 6 + 3, none⟩ = some (.int .i64 x.slot) ∧
    w.cell? ⟨g, i * 6 + 4, none⟩ = some (.int .i64 x.off) ∧ w.cell? ⟨g, i * 6 + 5, none⟩ = some (.int .i64 x.size) := by
  obtain ⟨_, _, hve, _, _, hat⟩ := ownE_at h
  injection hve with g1 g2 g3
  subst g1
  obtain ⟨g', rfl, _⟩ := hat i _ hx
  exact ⟨g', rfl, ent6g h hx⟩
end Go.Proofs.Ytmdfickejpeofaa

/-
  A region that draws its order, of which the last operations each wait for all ahead of them: the first ones are walked as a
  region that draws, the last ones one by one. No program in sight.
-/
set_option linter.unusedVariables false
set_option linter.unusedSimpArgs false
namespace Go.Proofs.Ytmdfickejpeofaa
open Go.RowKit

/-- In a list of operations: each waits for earlier ones alone; from the k-th on each waits for all ahead of it; no guards. -/
def tailB (l : List Oper) (k : Nat) : Bool :=
  l.all (fun o => o.guard.isNone) &&
  (List.range l.length).all (fun i => ((l[i]?).map fun o => o.after.all fun e => !Region.binds .any e || decide (e.on < i)).getD true) &&
  (List.range l.length).all (fun i => decide (i < k) || (List.range i).all fun j => reachB l.toArray 6 j i)

def listedAt (n i : Nat) : Array Bool := ((List.range n).map fun j => decide (j < i)).toArray
theorem listedAt_get (n i j : Nat) (d : Bool) (hj : j < n) : (listedAt n i).getD j d = decide (j < i) := by
  simp [listedAt, hj]
theorem listedAt_out (n i j : Nat) (d : Bool) (hj : n ≤ j) : (listedAt n i).getD j d = d := by
  simp [listedAt, Nat.not_lt.2 hj]
theorem listedAt_set (n i : Nat) (_hi : i < n) : (listedAt n i).setIfInBounds i true = listedAt n (i + 1) := by
  apply Array.ext
  · simp [listedAt]
  · intro j h1 h2
    simp only [listedAt, Array.size_setIfInBounds, List.size_toArray, List.length_map, List.length_range] at h1 h2
    simp [listedAt, Array.getElem_setIfInBounds, h2]
    by_cases h : i = j <;> simp [h] <;> omega

theorem wanted_none {o : Oper} (h : o.guard = none) (f : Nat → Option Bool) : Region.wanted o f = true := by simp [Region.wanted, h]

/-- What is left is what the first operations leave it to. -/
def thenQ (Q : Exit → Act → World → Prop) (T : Act → World → Prop) : Exit → Act → World → Prop
  | .normal, a, w => T a w
  | e, a, w => Q e a w

section
variable {P : Program} {l : List Oper} {k : Nat} {Q : Exit → Act → World → Prop}
theorem tail_parts (h : tailB l k = true) : (∀ o ∈ l, o.guard = none) ∧ (∀ i o, l[i]? = some o → ∀ e ∈ o.after, Region.binds .any e = true → e.on < i) ∧ ∀ i o, l[i]? = some o → k ≤ i → ∀ j < i, reachB l.toArray 6 j i = true := by
  simp only [tailB, Bool.and_eq_true, List.all_eq_true, List.mem_range] at h
  obtain ⟨⟨h1, h2⟩, h3⟩ := h
  refine ⟨fun o ho => by simpa using h1 o ho, fun i o ho e he hb => ?_, fun i o ho hk j hj => ?_⟩
  · have := h2 i (List.getElem?_eq_some_iff.1 ho).1
    simp only [ho, Option.map_some, Option.getD_some, Array.all_eq_true'] at this
    have := this e he
    simp only [hb, Bool.not_true, Bool.false_or, decide_eq_true_eq] at this
    exact this
  · have := h3 i (List.getElem?_eq_some_iff.1 ho).1
    simp only [Bool.or_eq_true, decide_eq_true_eq, Nat.not_lt.2 hk, false_or, List.all_eq_true, List.mem_range] at this
    exact this j hj

theorem listedAt_closed (h : tailB l k = true) (i : Nat) (hi : i < l.length) : Closed l.toArray (listedAt l.length i) := by
  obtain ⟨_, h2, _⟩ := tail_parts h
  intro j o ho hl e he hb
  have ho' : l[j]? = some o := by simpa using ho
  have hj := (List.getElem?_eq_some_iff.1 ho').1
  have := h2 j o ho' e he hb
  rw [listedAt_get _ _ _ _ hj] at hl
  rw [listedAt_get _ _ _ _ (by omega)]
  simp at hl ⊢
  omega
theorem ready_at (h : tailB l k = true) {i : Nat} (hk : k ≤ i) (hi : i < l.length) : ∀ j, j ∈ Region.ready .any l.toArray (listedAt l.length i) ↔ j = i := by
  obtain ⟨_, h2, h3⟩ := tail_parts h
  intro j
  rw [mem_ready]
  constructor
  · rintro ⟨hun, o, ho, hall⟩
    have ho' : l[j]? = some o := by simpa using ho
    have hj := (List.getElem?_eq_some_iff.1 ho').1
    rw [listedAt_get _ _ _ _ hj] at hun
    have hij : i ≤ j := by simpa using hun
    rcases Nat.lt_or_ge i j with hlt | hge
    · have := reach_listed (listedAt_closed h i hi) 6 i j o ho hall (h3 j o ho' (by omega) i hlt)
      rw [listedAt_get _ _ _ _ hi] at this
      simp at this
    · omega
  · rintro rfl
    refine ⟨by rw [listedAt_get _ _ _ _ hi]; simp, l[j], by simp [hi], fun e he hb => ?_⟩
    have := h2 j l[j] (List.getElem?_eq_getElem hi) e he hb
    rw [listedAt_get _ _ _ _ (by omega)]
    simpa using this
theorem ready_end (n : Nat) (ops : Array Oper) (hn : ops.size = n) : Region.ready .any ops (listedAt n n) = [] := by
  refine List.eq_nil_iff_forall_not_mem.2 fun i hi => ?_
  obtain ⟨h0, o, ho, _⟩ := mem_ready.1 hi
  have := (Array.getElem?_eq_some_iff.1 ho).1
  rw [listedAt_get _ _ _ _ (by omega)] at h0
  simp at h0
  omega
theorem least {p : Nat → Prop} : ∀ N, (∃ i, i < N ∧ p i) → ∃ i, i < N ∧ p i ∧ ∀ j < i, ¬ p j := by
  intro N
  induction N with
  | zero => rintro ⟨i, h, _⟩; omega
  | succ N ih =>
    rintro ⟨i, hi, hp⟩
    by_cases h : ∃ i, i < N ∧ p i
    · obtain ⟨j, h1, h2⟩ := ih h
      exact ⟨j, by omega, h2⟩
    · refine ⟨i, hi, hp, fun j hj hpj => h ⟨j, by omega, hpj⟩⟩

/-- How the list of those that are done goes on. -/
def ext (listed : Array Bool) (n : Nat) : Array Bool := listed ++ Array.replicate n false
theorem ext_lt {listed : Array Bool} {n j : Nat} {d : Bool} (h : j < listed.size) : (ext listed n).getD j d = listed.getD j d := by
  simp [ext, Array.getD_eq_getD_getElem?, Array.getElem?_append_left h]
theorem ext_ge {listed : Array Bool} {n j : Nat} {d : Bool} (h : listed.size ≤ j) (h2 : j < listed.size + n) : (ext listed n).getD j d = false := by
  have : (Array.replicate n false)[j - listed.size]? = some false := by rw [Array.getElem?_eq_getElem (by simp; omega)]; simp
  simp [ext, Array.getD_eq_getD_getElem?, Array.getElem?_append_right h, this]
theorem ext_set {listed : Array Bool} {n i : Nat} (h : i < listed.size) : (ext listed n).setIfInBounds i true = ext (listed.setIfInBounds i true) n := by
  simp [ext, Array.setIfInBounds_append_left, h]
theorem ext_full {listed : Array Bool} {n m : Nat} (hs : listed.size = m) (h : ∀ i < m, listed.getD i true = true) : ext listed n = listedAt (m + n) m := by
  apply Array.ext
  · simp [ext, listedAt, hs]
  · intro j h1 h2
    have e1 : (ext listed n).getD j true = (listedAt (m + n) m).getD j true := by
      have hj : j < m + n := by simpa [listedAt] using h2
      rw [listedAt_get _ _ _ _ hj]
      by_cases hjm : j < m
      · rw [ext_lt (by omega), h j hjm]; simp [hjm]
      · rw [ext_ge (by omega) (by omega)]; simp [hjm]
    simpa [Array.getD_eq_getD_getElem?, Array.getElem?_eq_getElem h1, Array.getElem?_eq_getElem h2] using e1
end

section
variable {F : Fence} {n : Nat} {P : Program} {l : List Oper} {k : Nat} {Q : Exit → Act → World → Prop}
theorem wpIn_thenQ {o : Oper} {a : Act} {w : World} {K K' : Act → World → Prop} {T : Act → World → Prop} (hk : ∀ a w, K a w → K' a w) (h : o.wpIn F n P a w K (thenQ Q T)) : o.wpIn F n P a w K' Q := by
  have h := Oper.wpIn_mono hk h
  unfold Oper.wpIn at h ⊢
  refine ⟨h.1, ?_⟩
  have h := h.2
  generalize (o.semAt F.round a.eval).run P w = r at h ⊢
  cases r with
  | ok x w' => cases x <;> exact h
  | halt x w' => cases x <;> exact h
theorem anyIn_tail (h : tailB l k = true) : ∀ m i a w, i + m = l.length → k ≤ i → wpListIn F n P l.toArray Q (l.drop i) a w → wpAnyIn F n P .any l.toArray Q m (listedAt l.length i) a w := by
  obtain ⟨h1, _, _⟩ := tail_parts h
  intro m
  induction m with
  | zero =>
    intro i a w hi _ hw
    obtain rfl : i = l.length := by omega
    rw [List.drop_length] at hw
    exact ⟨ready_end _ _ (by simp), hw⟩
  | succ m ih =>
    intro i a w hi hk hw
    have hlt : i < l.length := by omega
    have hr := ready_at h hk hlt
    rw [List.drop_eq_getElem_cons hlt] at hw
    simp only [wpListIn, wanted_none (h1 _ (List.getElem_mem hlt)), if_true] at hw
    refine ⟨fun h0 => absurd ((hr i).2 rfl) (by simp [h0]), fun j hj => ?_⟩
    obtain rfl := (hr j).1 hj
    unfold wpOpIn
    simp only [List.getElem?_toArray, List.getElem?_eq_getElem hlt, wanted_none (h1 _ (List.getElem_mem hlt)), if_true]
    refine Oper.wpIn_mono (fun a' w' hw' => ?_) hw
    rw [listedAt_set _ _ hlt]
    exact ih (j + 1) a' w' (by omega) (by omega) hw'
theorem anyIn_cut (l1 l2 : List Oper) (h : tailB (l1 ++ l2) l1.length = true) : ∀ m (listed : Array Bool) (a : Act) (w : World), listed.size = l1.length → (∀ j, j < l1.length → listed.getD j true = false → 0 < m) →
    wpAnyIn F n P .any l1.toArray (thenQ Q (wpListIn F n P (l1 ++ l2).toArray Q l2)) m listed a w →
    (∃ L : List Nat, L.length = m ∧ L.Nodup ∧ ∀ j, j ∈ L ↔ j < l1.length ∧ listed.getD j true = false) → Closed (l1 ++ l2).toArray (ext listed l2.length) → wpAnyIn F n P .any (l1 ++ l2).toArray Q (m + l2.length) (ext listed l2.length) a w := by
  obtain ⟨h1, h2, h3⟩ := tail_parts h
  intro m
  induction m with
  | zero =>
    intro listed a w hsz hun hw _ _
    have hall : ∀ i < l1.length, listed.getD i true = true := fun i hi => by
      cases hc : listed.getD i true with
      | true => rfl
      | false => exact absurd (hun i hi hc) (by omega)
    rw [ext_full hsz hall, ← List.length_append]
    refine anyIn_tail h _ _ _ _ (by simp) (Nat.le_refl _) ?_
    rw [List.drop_left]
    exact hw.2
  | succ m ih =>
    rintro listed a w hsz _ hw ⟨L, hL, hnd, hmem⟩ hcl
    have hsub : ∀ i ∈ Region.ready .any (l1 ++ l2).toArray (ext listed l2.length), i < l1.length ∧ i ∈ Region.ready .any l1.toArray listed := by
      intro i hi
      obtain ⟨hun, o, ho, hall⟩ := mem_ready.1 hi
      have ho' : (l1 ++ l2)[i]? = some o := by simpa using ho
      have hlt : i < l1.length := by
        rcases Nat.lt_or_ge i l1.length with hlt | hge
        · exact hlt
        · exfalso
          obtain ⟨j, hj⟩ : ∃ j, j ∈ L := by
            cases L with
            | nil => simp at hL
            | cons x L => exact ⟨x, List.mem_cons_self⟩
          obtain ⟨j1, j2⟩ := (hmem j).1 hj
          have := reach_listed hcl 6 j i o ho hall (h3 i o ho' hge j (by omega))
          rw [ext_lt (by omega)] at this
          rw [Array.getD_eq_getD_getElem?, Array.getElem?_eq_getElem (by omega)] at this j2
          simp_all
      refine ⟨hlt, mem_ready.2 ⟨by rw [ext_lt (by omega)] at hun; exact hun, o, by rw [List.getElem?_append_left hlt] at ho'; simpa using ho', fun e he hb => ?_⟩⟩
      have := hall e he hb
      rwa [ext_lt (by have := h2 i o ho' e he hb; omega)] at this
    rw [show m + 1 + l2.length = (m + l2.length) + 1 by omega]
    refine ⟨fun h0 => ?_, fun i hi => ?_⟩
    · exfalso
      obtain ⟨i, hi, hp, hlo⟩ := least (p := fun j => listed.getD j true = false) l1.length (by
        cases L with
        | nil => simp at hL
        | cons x L => exact ⟨x, (hmem x).1 List.mem_cons_self⟩)
      have : i ∈ Region.ready .any (l1 ++ l2).toArray (ext listed l2.length) := by
        have hil : (l1 ++ l2)[i]? = some l1[i] := by rw [List.getElem?_append_left hi, List.getElem?_eq_getElem hi]
        refine mem_ready.2 ⟨by rw [ext_lt (by omega)]; exact hp, l1[i], by simpa using hil, fun e he hb => ?_⟩
        have he' := h2 i _ hil e he hb
        rw [ext_lt (by omega)]
        have := hlo _ he'
        rw [Array.getD_eq_getD_getElem?, Array.getElem?_eq_getElem (by omega)] at this ⊢
        simpa using this
      rw [h0] at this
      cases this
    · obtain ⟨hlt, hi1⟩ := hsub i hi
      have hw := hw.2 i hi1
      unfold wpOpIn at hw ⊢
      have hil : (l1 ++ l2)[i]? = some l1[i] := by rw [List.getElem?_append_left hlt, List.getElem?_eq_getElem hlt]
      have hg := h1 l1[i] (List.mem_append_left _ (List.getElem_mem hlt))
      simp only [List.getElem?_toArray, hil, wanted_none hg, if_true]
      simp only [List.getElem?_toArray, List.getElem?_eq_getElem hlt, wanted_none hg, if_true] at hw
      refine wpIn_thenQ (fun a' w' hk => ?_) hw
      rw [ext_set (by omega)]
      have hiL : i ∈ L := (hmem i).2 ⟨hlt, (mem_ready.1 hi1).1⟩
      have hset : ∀ j, (listed.setIfInBounds i true).getD j true = if j = i then true else listed.getD j true := fun j => by
        simp only [Array.getD_eq_getD_getElem?, Array.getElem?_setIfInBounds]
        by_cases hij : i = j
        · subst hij; simp [hsz, hlt]
        · simp [hij, Ne.symm hij]
      have hset' : ∀ j, ((ext listed l2.length).setIfInBounds i true).getD j false = if j = i then true else (ext listed l2.length).getD j false := fun j => by
        have hsx : i < (ext listed l2.length).size := by simp [ext]; omega
        simp only [Array.getD_eq_getD_getElem?, Array.getElem?_setIfInBounds]
        by_cases hij : i = j
        · subst hij; simp [hsx]
        · simp [hij, Ne.symm hij]
      refine ih _ a' w' (by simpa using hsz) (fun j hj hc => ?_) hk ⟨L.erase i, by rw [List.length_erase_of_mem hiL, hL]; rfl, hnd.erase i, fun j => ?_⟩ (fun j o ho hl e he hb => ?_)
      · rw [hset] at hc
        split at hc
        · cases hc
        · rename_i hne
          have : j ∈ L.erase i := (List.mem_erase_of_ne hne).2 ((hmem j).2 ⟨hj, hc⟩)
          have := List.length_pos_of_mem this
          rw [List.length_erase_of_mem hiL, hL] at this
          omega
      · rw [hnd.mem_erase_iff, hmem, hset]
        constructor
        · rintro ⟨hne, hj, hc⟩; exact ⟨hj, by simp [hne, hc]⟩
        · rintro ⟨hj, hc⟩
          split at hc
          · cases hc
          · rename_i hne; exact ⟨hne, hj, hc⟩
      · rw [← ext_set (by omega), hset'] at hl ⊢
        have hall : ∀ e ∈ o.after, Region.binds .any e = true → (ext listed l2.length).getD e.on false = true := by
          by_cases hji : j = i
          · subst hji
            obtain ⟨_, o', ho', hall⟩ := mem_ready.1 hi
            obtain rfl := Option.some.inj (ho.symm.trans ho')
            exact hall
          · rw [if_neg hji] at hl
            exact fun e he hb => hcl j o ho hl e he hb
        split
        · rfl
        · exact hall e he hb
/-- **A REGION THAT DRAWS, WITH FLOATS, whose last operations come one by one.** -/
theorem wpIn_region_flt (k : Nat) (hF : ∀ f, F.fn f) (hD : F.depth = none) (S : Nat → Prop) (fl loud : List Tmp) {id : Nat} {a : Act} {w : World} (hm : P.follows .mixedOrders = true) (ht : tailB l k = true) (hk : k ≤ l.length) (hB : floB (l.take k).toArray fl loud = true) (hS : ∀ k, S k → k < w.heap.size)
    (h : floL P (l.take k).toArray S w fl loud (fun o a w K => o.wpIn F n P a w K NoEx) (wpListIn F n P l.toArray Q (l.drop k)) (l.take k) (fun _ => False) a w.drew) : (Code.region id l.toArray true).wpIn F n P Q a w := by
  have hlen : (l.take k).length = k := by rw [List.length_take]; omega
  have ht' : tailB (l.take k ++ l.drop k) (l.take k).length = true := by rw [List.take_append_drop, hlen]; exact ht
  refine wpIn_region_any hm ?_
  have hw1 : wpAnyIn F n P .any (l.take k).toArray (thenQ Q (wpListIn F n P l.toArray Q (l.drop k))) k (Array.replicate k false) a w.drew := by
    refine flo_anyIn (S := S) (w0 := w) (Q := wpListIn F n P l.toArray Q (l.drop k)) hF hD hB hS (fun _ _ _ h => h) _ (List.range' 0 k) _ (fun _ => False) a _ (by simp) ?_ (fun i => ?_) ?_ (by simp [hlen]) ⟨Nat.le_refl _, fun _ _ _ => rfl, rfl, rfl, rfl⟩ (fun _ h => h.elim) ?_
    · rw [← List.range_eq_range']; exact List.pairwise_lt_range
    · rw [← List.range_eq_range', List.mem_range]
      constructor
      · intro hi; exact ⟨by simp only [List.size_toArray, hlen]; exact hi, by simp [hi]⟩
      · intro hi; simpa [hlen] using hi.1
    · intro i o ho hl
      exfalso
      rcases Nat.lt_or_ge i k with h' | h'
      · simp [h'] at hl
      · simp [Nat.not_lt.2 h'] at hl
    · have := floI_of_L (P := P) (ops := (l.take k).toArray) (S := S) (w0 := w) (fl := fl) (loud := loud) (W := fun o a w K => o.wpIn F n P a w K NoEx) (Q := wpListIn F n P l.toArray Q (l.drop k)) (l.take k) 0 (by simp)
      rw [hlen] at this
      rw [this]; exact h
  have := anyIn_cut (Q := Q) (l.take k) (l.drop k) ht' k (Array.replicate k false) a w.drew (by simp [hlen]) (fun j hj _ => by rw [hlen] at hj; omega) (by rw [List.take_append_drop]; exact hw1)
    ⟨List.range k, by simp, List.nodup_range, fun j => by
      rw [List.mem_range, hlen]
      constructor
      · intro hj; exact ⟨hj, by simp [hj]⟩
      · intro hj; exact hj.1⟩ (fun j o _ hl => by
        exfalso
        rcases Nat.lt_or_ge j (k + (l.drop k).length) with hj | hj
        · have : (ext (Array.replicate k false) (l.drop k).length)[j]? = some false := by
            rw [ext, Array.replicate_append_replicate, Array.getElem?_eq_getElem (by simpa using hj)]; simp
          rw [Array.getD_eq_getD_getElem?, this] at hl; cases hl
        · have : (ext (Array.replicate k false) (l.drop k).length)[j]? = none := by
            rw [ext, Array.replicate_append_replicate]; exact Array.getElem?_eq_none (by simpa using hj)
          rw [Array.getD_eq_getD_getElem?, this] at hl; cases hl)
  rw [List.take_append_drop] at this
  have e : k + (l.drop k).length = l.toArray.size := by simp; omega
  rw [e] at this
  have e2 : ext (Array.replicate k false) (l.drop k).length = Array.replicate l.toArray.size false := by
    rw [ext, Array.replicate_append_replicate, e]
  rw [e2] at this
  exact this
end

/-! ### The plain walk -/
section
variable {P : Program} {l : List Oper} {k : Nat} {Q : Exit → Act → World → Prop}
theorem wp_thenQ {o : Oper} {a : Act} {w : World} {K K' : Act → World → Prop} {T : Act → World → Prop} (hk : ∀ a w, K a w → K' a w) (h : o.wp P a w K (thenQ Q T)) : o.wp P a w K' Q := by
  have h := Oper.wp_mono hk h
  unfold Oper.wp at h ⊢
  generalize (execOp a.eval o).run P w = r at h ⊢
  cases r with
  | ok x w' => cases x <;> exact h
  | halt x w' => cases x <;> exact h
theorem any_tail (h : tailB l k = true) : ∀ m i a w, i + m = l.length → k ≤ i → wpList P l.toArray Q (l.drop i) a w → wpAny P .any l.toArray Q m (listedAt l.length i) a w := by
  obtain ⟨h1, _, _⟩ := tail_parts h
  intro m
  induction m with
  | zero =>
    intro i a w hi _ hw
    obtain rfl : i = l.length := by omega
    rw [List.drop_length] at hw
    exact ⟨ready_end _ _ (by simp), hw⟩
  | succ m ih =>
    intro i a w hi hk hw
    have hlt : i < l.length := by omega
    have hr := ready_at h hk hlt
    rw [List.drop_eq_getElem_cons hlt] at hw
    simp only [wpList, wanted_none (h1 _ (List.getElem_mem hlt)), if_true] at hw
    refine ⟨fun h0 => absurd ((hr i).2 rfl) (by simp [h0]), fun j hj => ?_⟩
    obtain rfl := (hr j).1 hj
    unfold wpOp
    simp only [List.getElem?_toArray, List.getElem?_eq_getElem hlt, wanted_none (h1 _ (List.getElem_mem hlt)), if_true]
    refine hw.imp (Oper.wp_mono fun a' w' hw' => ?_) id
    rw [listedAt_set _ _ hlt]
    exact ih (j + 1) a' w' (by omega) (by omega) hw'
theorem any_cut (l1 l2 : List Oper) (h : tailB (l1 ++ l2) l1.length = true) : ∀ m (listed : Array Bool) (a : Act) (w : World), listed.size = l1.length → (∀ j, j < l1.length → listed.getD j true = false → 0 < m) →
    wpAny P .any l1.toArray (thenQ Q (wpList P (l1 ++ l2).toArray Q l2)) m listed a w →
    (∃ L : List Nat, L.length = m ∧ L.Nodup ∧ ∀ j, j ∈ L ↔ j < l1.length ∧ listed.getD j true = false) → Closed (l1 ++ l2).toArray (ext listed l2.length) → wpAny P .any (l1 ++ l2).toArray Q (m + l2.length) (ext listed l2.length) a w := by
  obtain ⟨h1, h2, h3⟩ := tail_parts h
  intro m
  induction m with
  | zero =>
    intro listed a w hsz hun hw _ _
    have hall : ∀ i < l1.length, listed.getD i true = true := fun i hi => by
      cases hc : listed.getD i true with
      | true => rfl
      | false => exact absurd (hun i hi hc) (by omega)
    rw [ext_full hsz hall, ← List.length_append]
    refine any_tail h _ _ _ _ (by simp) (Nat.le_refl _) ?_
    rw [List.drop_left]
    exact hw.2
  | succ m ih =>
    rintro listed a w hsz _ hw ⟨L, hL, hnd, hmem⟩ hcl
    have hsub : ∀ i ∈ Region.ready .any (l1 ++ l2).toArray (ext listed l2.length), i < l1.length ∧ i ∈ Region.ready .any l1.toArray listed := by
      intro i hi
      obtain ⟨hun, o, ho, hall⟩ := mem_ready.1 hi
      have ho' : (l1 ++ l2)[i]? = some o := by simpa using ho
      have hlt : i < l1.length := by
        rcases Nat.lt_or_ge i l1.length with hlt | hge
        · exact hlt
        · exfalso
          obtain ⟨j, hj⟩ : ∃ j, j ∈ L := by
            cases L with
            | nil => simp at hL
            | cons x L => exact ⟨x, List.mem_cons_self⟩
          obtain ⟨j1, j2⟩ := (hmem j).1 hj
          have := reach_listed hcl 6 j i o ho hall (h3 i o ho' hge j (by omega))
          rw [ext_lt (by omega)] at this
          rw [Array.getD_eq_getD_getElem?, Array.getElem?_eq_getElem (by omega)] at this j2
          simp_all
      refine ⟨hlt, mem_ready.2 ⟨by rw [ext_lt (by omega)] at hun; exact hun, o, by rw [List.getElem?_append_left hlt] at ho'; simpa using ho', fun e he hb => ?_⟩⟩
      have := hall e he hb
      rwa [ext_lt (by have := h2 i o ho' e he hb; omega)] at this
    rw [show m + 1 + l2.length = (m + l2.length) + 1 by omega]
    refine ⟨fun h0 => ?_, fun i hi => ?_⟩
    · exfalso
      obtain ⟨i, hi, hp, hlo⟩ := least (p := fun j => listed.getD j true = false) l1.length (by
        cases L with
        | nil => simp at hL
        | cons x L => exact ⟨x, (hmem x).1 List.mem_cons_self⟩)
      have : i ∈ Region.ready .any (l1 ++ l2).toArray (ext listed l2.length) := by
        have hil : (l1 ++ l2)[i]? = some l1[i] := by rw [List.getElem?_append_left hi, List.getElem?_eq_getElem hi]
        refine mem_ready.2 ⟨by rw [ext_lt (by omega)]; exact hp, l1[i], by simpa using hil, fun e he hb => ?_⟩
        have he' := h2 i _ hil e he hb
        rw [ext_lt (by omega)]
        have := hlo _ he'
        rw [Array.getD_eq_getD_getElem?, Array.getElem?_eq_getElem (by omega)] at this ⊢
        simpa using this
      rw [h0] at this
      cases this
    · obtain ⟨hlt, hi1⟩ := hsub i hi
      have hw := hw.2 i hi1
      unfold wpOp at hw ⊢
      have hil : (l1 ++ l2)[i]? = some l1[i] := by rw [List.getElem?_append_left hlt, List.getElem?_eq_getElem hlt]
      have hg := h1 l1[i] (List.mem_append_left _ (List.getElem_mem hlt))
      simp only [List.getElem?_toArray, hil, wanted_none hg, if_true]
      simp only [List.getElem?_toArray, List.getElem?_eq_getElem hlt, wanted_none hg, if_true] at hw
      refine hw.imp (wp_thenQ fun a' w' hk => ?_) id
      rw [ext_set (by omega)]
      have hiL : i ∈ L := (hmem i).2 ⟨hlt, (mem_ready.1 hi1).1⟩
      have hset : ∀ j, (listed.setIfInBounds i true).getD j true = if j = i then true else listed.getD j true := fun j => by
        simp only [Array.getD_eq_getD_getElem?, Array.getElem?_setIfInBounds]
        by_cases hij : i = j
        · subst hij; simp [hsz, hlt]
        · simp [hij, Ne.symm hij]
      have hset' : ∀ j, ((ext listed l2.length).setIfInBounds i true).getD j false = if j = i then true else (ext listed l2.length).getD j false := fun j => by
        have hsx : i < (ext listed l2.length).size := by simp [ext]; omega
        simp only [Array.getD_eq_getD_getElem?, Array.getElem?_setIfInBounds]
        by_cases hij : i = j
        · subst hij; simp [hsx]
        · simp [hij, Ne.symm hij]
      refine ih _ a' w' (by simpa using hsz) (fun j hj hc => ?_) hk ⟨L.erase i, by rw [List.length_erase_of_mem hiL, hL]; rfl, hnd.erase i, fun j => ?_⟩ (fun j o ho hl e he hb => ?_)
      · rw [hset] at hc
        split at hc
        · cases hc
        · rename_i hne
          have : j ∈ L.erase i := (List.mem_erase_of_ne hne).2 ((hmem j).2 ⟨hj, hc⟩)
          have := List.length_pos_of_mem this
          rw [List.length_erase_of_mem hiL, hL] at this
          omega
      · rw [hnd.mem_erase_iff, hmem, hset]
        constructor
        · rintro ⟨hne, hj, hc⟩; exact ⟨hj, by simp [hne, hc]⟩
        · rintro ⟨hj, hc⟩
          split at hc
          · cases hc
          · rename_i hne; exact ⟨hne, hj, hc⟩
      · rw [← ext_set (by omega), hset'] at hl ⊢
        have hall : ∀ e ∈ o.after, Region.binds .any e = true → (ext listed l2.length).getD e.on false = true := by
          by_cases hji : j = i
          · subst hji
            obtain ⟨_, o', ho', hall⟩ := mem_ready.1 hi
            obtain rfl := Option.some.inj (ho.symm.trans ho')
            exact hall
          · rw [if_neg hji] at hl
            exact fun e he hb => hcl j o ho hl e he hb
        split
        · rfl
        · exact hall e he hb
/-- **A REGION THAT DRAWS, WITH FLOATS, whose last operations come one by one.** -/
theorem wp_region_flt (k : Nat) (S : Nat → Prop) (fl loud : List Tmp) {id : Nat} {a : Act} {w : World} (hm : P.follows .mixedOrders = true) (ht : tailB l k = true) (hk : k ≤ l.length) (hB : floB (l.take k).toArray fl loud = true) (hS : ∀ k, S k → k < w.heap.size)
    (h : floL P (l.take k).toArray S w fl loud (fun o a w K => o.wp P a w K NoEx) (wpList P l.toArray Q (l.drop k)) (l.take k) (fun _ => False) a w.drew) : (Code.region id l.toArray true).wp P Q a w := by
  have hlen : (l.take k).length = k := by rw [List.length_take]; omega
  have ht' : tailB (l.take k ++ l.drop k) (l.take k).length = true := by rw [List.take_append_drop, hlen]; exact ht
  refine wp_region_any hm ?_
  have hw1 : wpAny P .any (l.take k).toArray (thenQ Q (wpList P l.toArray Q (l.drop k))) k (Array.replicate k false) a w.drew := by
    refine flo_any (S := S) (w0 := w) (Q := wpList P l.toArray Q (l.drop k)) hB hS (fun _ _ _ h => h) _ (List.range' 0 k) _ (fun _ => False) a _ (by simp) ?_ (fun i => ?_) ?_ (by simp [hlen]) ⟨Nat.le_refl _, fun _ _ _ => rfl, rfl, rfl, rfl⟩ (fun _ h => h.elim) ?_
    · rw [← List.range_eq_range']; exact List.pairwise_lt_range
    · rw [← List.range_eq_range', List.mem_range]
      constructor
      · intro hi; exact ⟨by simp only [List.size_toArray, hlen]; exact hi, by simp [hi]⟩
      · intro hi; simpa [hlen] using hi.1
    · intro i o ho hl
      exfalso
      rcases Nat.lt_or_ge i k with h' | h'
      · simp [h'] at hl
      · simp [Nat.not_lt.2 h'] at hl
    · have := floI_of_L (P := P) (ops := (l.take k).toArray) (S := S) (w0 := w) (fl := fl) (loud := loud) (W := fun o a w K => o.wp P a w K NoEx) (Q := wpList P l.toArray Q (l.drop k)) (l.take k) 0 (by simp)
      rw [hlen] at this
      rw [this]; exact h
  have := any_cut (Q := Q) (l.take k) (l.drop k) ht' k (Array.replicate k false) a w.drew (by simp [hlen]) (fun j hj _ => by rw [hlen] at hj; omega) (by rw [List.take_append_drop]; exact hw1)
    ⟨List.range k, by simp, List.nodup_range, fun j => by
      rw [List.mem_range, hlen]
      constructor
      · intro hj; exact ⟨hj, by simp [hj]⟩
      · intro hj; exact hj.1⟩ (fun j o _ hl => by
        exfalso
        rcases Nat.lt_or_ge j (k + (l.drop k).length) with hj | hj
        · have : (ext (Array.replicate k false) (l.drop k).length)[j]? = some false := by
            rw [ext, Array.replicate_append_replicate, Array.getElem?_eq_getElem (by simpa using hj)]; simp
          rw [Array.getD_eq_getD_getElem?, this] at hl; cases hl
        · have : (ext (Array.replicate k false) (l.drop k).length)[j]? = none := by
            rw [ext, Array.replicate_append_replicate]; exact Array.getElem?_eq_none (by simpa using hj)
          rw [Array.getD_eq_getD_getElem?, this] at hl; cases hl)
  rw [List.take_append_drop] at this
  have e : k + (l.drop k).length = l.toArray.size := by simp; omega
  rw [e] at this
  have e2 : ext (Array.replicate k false) (l.drop k).length = Array.replicate l.toArray.size false := by
    rw [ext, Array.replicate_append_replicate, e]
  rw [e2] at this
  exact this
end
end Go.Proofs.Ytmdfickejpeofaa
