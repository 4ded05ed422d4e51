/- drumlinref21's index in plain Lean: what Add says is what the program's index says. No walk. -/
import Derived.Test.YtmdfickejpeofaaGreatBd7
import Derived.Test.YtmdfickejpeofaaGreatBd10
import Derived.Test.YtmdfickejpeofaaGreatBd6
import Derived.Test.YtmdfickejpeofaaGreatBd11
set_option linter.unusedVariables false
set_option linter.unusedSimpArgs false
namespace Go.Proofs.YtmdfickejpeofaaGreat

def rBad (e o : En) : Bool := decide (o.seq = e.seq ∧ o.key = e.key ∧ (o.del ≠ e.del ∨ o.size ≠ e.size))
def rHav (e o : En) : Bool := decide (o.slot = e.slot ∧ ((o.seq = e.seq ∧ o.key = e.key) ∨ (o.off < e.off + e.size ∧ e.off < o.off + o.size)))
/-- What Add says of an index with these entries. -/
def rAddC (N : Int) (all : List En) (e : En) : Int := if e.slot < 0 ∨ N ≤ e.slot then 3 else if validE e = false then 2 else if all.any (rBad e) = true then 2 else if all.any (rHav e) = true then 6 else 0
def rAddL (N : Int) (all : List En) (e : En) : List En := if rAddC N all e = 0 then all ++ [e] else all
section
variable {X : IX} {all : List En} {e : En} {N : Int}
theorem clash_iff {i : Int} {s : List En} (hs : SlotOk i s) (he : 0 < e.size) : clash s e = true ↔ ∃ o ∈ s, o.off < e.off + e.size ∧ e.off < o.off + o.size := by
  constructor
  · intro h
    refine Classical.byContradiction (fun hn => ?_)
    have hno : ∀ o ∈ s, ¬ (o.off < e.off + e.size ∧ e.off < o.off + o.size) := fun o ho hh => hn ⟨o, ho, hh⟩
    have hz : ∀ o ∈ s, 16 ≤ o.size := fun o ho => by have := (valid_iff o).1 (hs.e o ho).2; omega
    unfold clash at h
    rw [Bool.or_eq_true] at h
    rcases h with h | h
    · cases hg : s[cnt (offP e.off) s]? with
      | none => rw [hg] at h; cases h
      | some o =>
        rw [hg] at h
        have h1 := cnt_at _ _ o hg
        have hm := List.mem_of_getElem? hg
        have h2 := hno o hm
        have h3 := hz o hm
        simp only [offP, decide_eq_false_iff_not] at h1
        simp only [Bool.or_eq_true, decide_eq_true_eq] at h
        omega
    · rw [Bool.and_eq_true] at h
      obtain ⟨h0, h⟩ := h
      have h0 := of_decide_eq_true h0
      cases hg : s[cnt (offP e.off) s - 1]? with
      | none => rw [hg] at h; cases h
      | some o =>
        rw [hg] at h
        have h1 := cnt_lo _ _ _ o (show cnt (offP e.off) s - 1 < cnt (offP e.off) s by omega) hg
        have hm := List.mem_of_getElem? hg
        have h2 := hno o hm
        simp only [offP, decide_eq_true_eq] at h1
        simp only [decide_eq_true_eq] at h
        omega
  · rintro ⟨o, ho, h1, h2⟩
    cases hc : clash s e with
    | true => rfl
    | false =>
      have h3 := clash_lo hs hc o ho
      have h4 := clash_hi hs hc o ho
      unfold offP at h3 h4
      by_cases h5 : o.off < e.off
      · have := h3 (decide_eq_true h5); omega
      · have := h4 (decide_eq_false h5); omega
theorem rAddC_eq (h : X.Wf) (hl : (X.slots.length : Int) = N) (hN : 1 ≤ N) (hp : all.Perm X.ents) (e : En) : rAddC N all e = addE X e := by
  have hne : X.slots ≠ [] := fun h0 => by rw [h0] at hl; simp at hl; omega
  unfold rAddC addE
  rw [if_neg hne]
  by_cases h1 : e.slot < 0 ∨ N ≤ e.slot
  · rw [if_pos h1, if_pos (by unfold IX.has; exact decide_eq_false (by omega))]
  · have hh : X.has e.slot = true := by unfold IX.has; exact decide_eq_true (by omega)
    rw [if_neg h1, if_neg (show ¬ X.has e.slot = false by rw [hh]; decide)]
    cases hv : validE e with
    | false => rw [if_pos rfl, if_pos rfl]
    | true =>
      have hz : 0 < e.size := by have := (valid_iff e).1 hv; omega
      rw [if_neg (show ¬ true = false by decide), if_neg (show ¬ true = false by decide)]
      have e1 : all.any (rBad e) = (X.of e.key).any (badE e) := by
        rw [Bool.eq_iff_iff, List.any_eq_true, List.any_eq_true]
        unfold rBad badE
        constructor
        · rintro ⟨o, ho, h2⟩
          obtain ⟨h3, h4, h5⟩ := of_decide_eq_true h2
          refine ⟨o, (h.of_mem _ _).2 ⟨(hp.mem_iff).1 ho, h4⟩, decide_eq_true ⟨h3, fun h6 => ?_⟩⟩
          have := congrArg En.del h6
          have := congrArg En.size h6
          simp only at *
          rcases h5 with h5 | h5 <;> exact h5 (by assumption)
        · rintro ⟨o, ho, h2⟩
          obtain ⟨h3, h5⟩ := of_decide_eq_true h2
          obtain ⟨h6, h4⟩ := (h.of_mem _ _).1 ho
          refine ⟨o, (hp.mem_iff).2 h6, decide_eq_true ⟨h3, h4, ?_⟩⟩
          by_cases h7 : o.del = e.del
          · by_cases h8 : o.size = e.size
            · exact absurd (show ({ o with slot := e.slot, off := e.off } : En) = e from En.ext' h3 h4 h7 rfl rfl h8) h5
            · exact .inr h8
          · exact .inl h7
      have e2 : all.any (rHav e) = ((X.of e.key).any (sameE e) || clash (X.slot e.slot) e) := by
        rw [Bool.eq_iff_iff, Bool.or_eq_true, List.any_eq_true, List.any_eq_true, clash_iff (h.slotOk e.slot) hz]
        unfold rHav sameE
        constructor
        · rintro ⟨o, ho, h2⟩
          obtain ⟨h3, h4⟩ := of_decide_eq_true h2
          rcases h4 with ⟨h4, h5⟩ | h4
          · exact .inl ⟨o, (h.of_mem _ _).2 ⟨(hp.mem_iff).1 ho, h5⟩, decide_eq_true ⟨h4, h3⟩⟩
          · exact .inr ⟨o, (h.slot_mem _ _).2 ⟨(hp.mem_iff).1 ho, h3⟩, h4⟩
        · rintro (⟨o, ho, h2⟩ | ⟨o, ho, h2⟩)
          · obtain ⟨h3, h4⟩ := of_decide_eq_true h2
            obtain ⟨h6, h5⟩ := (h.of_mem _ _).1 ho
            exact ⟨o, (hp.mem_iff).2 h6, decide_eq_true ⟨h4, .inl ⟨h3, h5⟩⟩⟩
          · obtain ⟨h6, h5⟩ := (h.slot_mem _ _).1 ho
            exact ⟨o, (hp.mem_iff).2 h6, decide_eq_true ⟨h5, .inr h2⟩⟩
      rw [e1, e2]
end
/-- Where the loop of Add stands behind some entries. -/
theorem rany_snoc {p : En → Bool} {l : List En} {i : Nat} {o : En} (h : l[i]? = some o) : (l.take (i + 1)).any p = ((l.take i).any p || p o) := by
  rw [List.take_add_one, h, List.any_append]
  simp
theorem rany_take {p : En → Bool} {l : List En} {i : Nat} (h : (l.take i).any p = true) : l.any p = true := by
  obtain ⟨o, ho, hp⟩ := List.any_eq_true.1 h
  exact List.any_eq_true.2 ⟨o, List.mem_of_mem_take ho, hp⟩
end Go.Proofs.YtmdfickejpeofaaGreat

/- An index has each entry once: what it has of a key, or in a slot, is what it has with that key, in that slot. No walk. -/
set_option linter.unusedVariables false
set_option linter.unusedSimpArgs false
namespace Go.Proofs.YtmdfickejpeofaaGreat

theorem ents_nodup {X : IX} (h : X.Wf) : X.ents.Nodup := by
  refine (h.v.nodup_iff).1 ?_
  refine List.pairwise_flatMap.2 ⟨fun x hx => (h.k x hx).p.imp (fun {a b} hab e => by subst e; rw [ltE_irr] at hab; cases hab), ?_⟩
  refine List.Pairwise.imp_of_mem (fun {x y} hx hy hxy a ha b hb e => ?_) h.k0
  have h1 := (h.k x hx).e a ha
  have h2 := (h.k y hy).e b hb
  rw [← h1, ← h2, e] at hxy
  rw [ordS.irr] at hxy
  cases hxy
theorem of_nodup {X : IX} (h : X.Wf) (k : ByteArray) : (X.of k).Nodup := (h.ofPair k).imp (fun {a b} hab e => by subst e; rw [ltE_irr] at hab; cases hab)
def keyP (k : ByteArray) (e : En) : Bool := decide (e.key = k)
def slotP (s : Int) (e : En) : Bool := decide (e.slot = s)
theorem of_perm {X : IX} (h : X.Wf) (k : ByteArray) : (X.of k).Perm (X.ents.filter (keyP k)) :=
  (List.perm_ext_iff_of_nodup (of_nodup h k) ((ents_nodup h).filter _)).2 (fun e => by rw [h.of_mem, List.mem_filter, keyP, decide_eq_true_iff])
theorem slot_perm {X : IX} (h : X.Wf) (s : Int) : (X.slot s).Perm (X.ents.filter (slotP s)) :=
  (List.perm_ext_iff_of_nodup (slot_nodup (h.slotOk s)) ((ents_nodup h).filter _)).2 (fun e => by rw [h.slot_mem, List.mem_filter, slotP, decide_eq_true_iff])
end Go.Proofs.YtmdfickejpeofaaGreat

/- drumlinref21's Of and Keys in plain Lean: again and again the best of what is left. No walk. -/
set_option linter.unusedVariables false
set_option linter.unusedSimpArgs false
namespace Go.Proofs.YtmdfickejpeofaaGreat

/-- The best of what is left is the head of the order. -/
theorem sel_head {D left : List En} (hp : D.Pairwise (fun a b => ltE a b = true)) (hperm : left.Perm D) {bi : Nat} {x : En} (hx : left[bi]? = some x) (hmin : ∀ y ∈ left, ltE y x = false) : ∃ D', D = x :: D' ∧ (left.eraseIdx bi).Perm D' := by
  obtain ⟨hlt, rfl⟩ := List.getElem?_eq_some_iff.1 hx
  have hxm : left[bi] ∈ left := List.getElem_mem hlt
  cases D with
  | nil => have := hperm.mem_iff.1 hxm; cases this
  | cons y t =>
    have hy : y ∈ left := hperm.mem_iff.2 (List.mem_cons_self ..)
    have e : y = left[bi] := by
      rcases List.mem_cons.1 (hperm.mem_iff.1 hxm) with h | h
      · exact h.symm
      · have h1 := (List.pairwise_cons.1 hp).1 _ h
        rw [hmin y hy] at h1
        cases h1
    subst e
    exact ⟨t, rfl, ((erase_perm hlt).trans hperm).cons_inv⟩
def keyF (k : ByteArray) (o : En) : Bool := decide (o.key = k)
theorem of_left {X : IX} {all : List En} (h : X.Wf) (hp : all.Perm X.ents) (k : ByteArray) : (all.filter (keyF k)).Perm (X.of k) :=
  (hp.filter _).trans (of_perm h k).symm
/-- Where the search for the best stands. -/
def selI (left : List En) (i bi : Nat) : Prop := ∃ x, left[bi]? = some x ∧ ∀ j y, j < i → left[j]? = some y → ltE y x = false
theorem selI_one {left : List En} (h : 0 < left.length) : selI left 1 0 := by
  refine ⟨left[0], List.getElem?_eq_getElem h, fun j y hj hy => ?_⟩
  obtain rfl : j = 0 := by omega
  rw [List.getElem?_eq_getElem h] at hy
  rw [← Option.some.inj hy]
  exact ltE_irr _
theorem selI_no {left : List En} {i bi : Nat} {x y : En} (h : selI left i bi) (hx : left[bi]? = some x) (hy : left[i]? = some y) (hl : ltE y x = false) : selI left (i + 1) bi := by
  obtain ⟨x', hx', h⟩ := h
  rw [hx] at hx'
  obtain rfl := Option.some.inj hx'
  refine ⟨x, hx, fun j z hj hz => ?_⟩
  by_cases hji : j < i
  · exact h j z hji hz
  · obtain rfl : j = i := by omega
    rw [hy] at hz
    rw [← Option.some.inj hz]
    exact hl
theorem selI_yes {left : List En} {i bi : Nat} {x y : En} (h : selI left i bi) (hx : left[bi]? = some x) (hy : left[i]? = some y) (hl : ltE y x = true) : selI left (i + 1) i := by
  obtain ⟨x', hx', h⟩ := h
  rw [hx] at hx'
  obtain rfl := Option.some.inj hx'
  refine ⟨y, hy, fun j z hj hz => ?_⟩
  by_cases hji : j < i
  · cases hc : ltE z y with
    | false => rfl
    | true => rw [← h j z hji hz]; exact (ltE_trn hc hl).symm
  · obtain rfl : j = i := by omega
    rw [hy] at hz
    rw [← Option.some.inj hz]
    exact ltE_irr _
theorem selI_end {left : List En} {bi : Nat} (h : selI left left.length bi) : ∃ x, left[bi]? = some x ∧ ∀ y ∈ left, ltE y x = false := by
  obtain ⟨x, hx, h⟩ := h
  refine ⟨x, hx, fun y hy => ?_⟩
  obtain ⟨j, hj⟩ := List.mem_iff_getElem?.1 hy
  exact h j y (List.getElem?_eq_some_iff.1 hj).1 hj
end Go.Proofs.YtmdfickejpeofaaGreat

/- A choice of things that lie side by side, in any order. No program in sight. -/
set_option linter.unusedVariables false
set_option linter.unusedSimpArgs false
namespace Go.Proofs.YtmdfickejpeofaaGreat
open Go.RowKit
theorem SW.sel {w0 w : World} {R R' : List Asn} (h : SW w0 R w) (is : List Nat) (hd : is.Nodup) (he : is.map (fun i => R[i]?) = R'.map some) : SW w0 R' w := by
  have hm : ∀ A ∈ R', A ∈ R := fun A hA => by
    have h1 : some A ∈ R'.map some := List.mem_map.2 ⟨A, hA, rfl⟩
    rw [← he] at h1
    obtain ⟨i, _, h2⟩ := List.mem_map.1 h1
    exact List.mem_of_getElem? h2
  have hp : (R'.map some).Pairwise (fun a b => ∀ A B, a = some A → b = some B → Dis A B) := by
    rw [← he]
    exact List.pairwise_map.2 (hd.imp (fun {i j} hij A B ha hb => h.get_ne ha hb hij))
  exact ⟨h.g, ⟨fun A hA => h.s.1 A (hm A hA), (List.pairwise_map.1 hp).imp (fun {A B} hab => hab A B rfl rfl)⟩, fun A hA => h.n A (hm A hA)⟩
/-- What a callee has laid beside what the caller held. -/
theorem SW.both {w w0 w1 : World} {R R2 : List Asn} (h : SW w R w0) (h2 : SW w0 R2 w1) : SW w (R2 ++ R) w1 := by
  have hr := h.s.gr h2.g
  refine ⟨h.g.trans h2.g, ⟨fun A hA => (List.mem_append.1 hA).elim (h2.s.1 A) (hr.1 A), List.pairwise_append.2 ⟨h2.s.2, h.s.2, fun A hA B hB k ka kb => ?_⟩⟩, fun A hA k hk => (List.mem_append.1 hA).elim (fun e => Nat.le_trans h.g.sz (h2.n A e k hk)) (fun e => h.n A e k hk)⟩
  have h3 := h2.n A hA k ka
  have h4 := h.s.lt hB k kb
  omega
/-- A block that lies apart from all of them. -/
theorem SW.addD {w0 W : World} {R : List Asn} {D : Nat} {o : Obj} (h : SW w0 R W) (hd : W.heap[D]? = some o) (hn : ∀ B ∈ R, ∀ k, B.S k → k ≠ D) (h0 : w0.heap.size ≤ D) : SW w0 (blkA D o :: R) W :=
  ⟨h.g, ⟨fun A hA => (List.mem_cons.1 hA).elim (fun e => by rw [e]; exact hd) (h.s.1 A), List.pairwise_cons.2 ⟨fun B hB k ka kb => hn B hB k kb ka, h.s.2⟩⟩, fun A hA k hk => (List.mem_cons.1 hA).elim (fun e => by rw [e] at hk; rw [show k = D from hk]; exact h0) (fun e => h.n A e k hk)⟩
end Go.Proofs.YtmdfickejpeofaaGreat

/- drumlinref05.Check and the small functions of drumlinref21: the walks. -/
set_option linter.unusedVariables false
set_option linter.unusedSimpArgs false
namespace Go.Proofs.YtmdfickejpeofaaGreat
open Go.RowKit Go.Shelf
attribute [local go_sem] OvM cell_ovm obj_ovm

theorem keyC_mem (c : UInt8) : keyC c = decide (c ∈ lettersL) := by
  have h : ∀ n : Fin 256, keyC (UInt8.ofNat n.val) = decide (UInt8.ofNat n.val ∈ lettersL) := by decide +kernel
  have := h ⟨c.toNat, c.toNat_lt⟩
  simpa using this
set_option maxRecDepth 40000 in
theorem letters5 (w : World) : Calls Tryz.prog 206 #[] w fun e w' => e = .returned (.string ⟨lettersL.toArray⟩) ∧ w = w' := by
  go_enter Tryz.func206, Tryz.ntmps206
  go_wp2
  go_ret
  exact ⟨rfl, rfl⟩
set_option maxRecDepth 40000 in
set_option maxHeartbeats 4000000 in
theorem place5 (c : UInt8) (w : World) : Calls Tryz.prog 186 #[.int .u8 c.toNat] w fun e w' => ∃ r : Int, e = .returned (.int .i64 r) ∧ decide (r < 0) = !keyC c ∧ w = w' := by
  obtain ⟨sB, hsB⟩ : ∃ s : ByteArray, s = ⟨lettersL.toArray⟩ := ⟨_, rfl⟩
  have HL : Hid (∀ w, Calls Tryz.prog 206 #[] w fun e w' => e = .returned (.string sB) ∧ w = w') := Lib.hid (fun w => by rw [hsB]; exact letters5 w)
  have hz : sB.size = 39 := by rw [hsB]; rfl
  go_enter Tryz.func186, Tryz.ntmps186
  go_wp2_with fail
  go_loopw [3] (fun t3 wx => ∃ i : Nat, i ≤ 39 ∧ t3 = .int .i64 i ∧ (∀ j, j < i → lettersL[j]? ≠ some c) ∧ w = wx) (fun t3 _ => 39 - (intOf t3).toNat)
  case atStart => exact ⟨0, by omega, rfl, fun j hj => by omega, rfl⟩
  case round =>
    obtain ⟨i, hi, rfl, hj, rfl⟩ := hrel
    go_wp2_with (go_at_call 206; refine (HL.out _).mono ?_; rintro e w1 ⟨rfl, rfl⟩)
    · rename_i h1 _ _ h2
      have h3 : ((lettersL[i]'h1).toNat : Int) = c.toNat := beq_iff_eq.1 h2
      have h4 : lettersL[i]'h1 = c := UInt8.toNat_inj.1 (by omega)
      go_ret
      have hk : keyC c = true := by rw [keyC_mem, ← h4]; exact decide_eq_true (List.getElem_mem h1)
      exact ⟨i, rfl, by rw [hk]; exact decide_eq_false (by omega), rfl⟩
    · rename_i h1 h2
      have h1' : i < 39 := h1
      refine ⟨⟨i + 1, by omega, by simp, fun j hji hc => ?_, trivial⟩, by simp [intOf]; omega⟩
      by_cases hji' : j < i
      · exact hj j hji' hc
      · obtain rfl : j = i := by omega
        rw [List.getElem?_eq_getElem h1] at hc
        have h4 := Option.some.inj hc
        exact beq_eq_false_iff_ne.1 h2 (by show ((lettersL[j]'h1).toNat : Int) = c.toNat; rw [h4])
    · rename_i h1
      have h1' : ¬ i < 39 := h1
      go_ret
      refine ⟨-1, rfl, ?_, rfl⟩
      have hk : keyC c = false := by
        rw [keyC_mem]
        refine decide_eq_false (fun hm => ?_)
        obtain ⟨j, hj1, hj2⟩ := List.mem_iff_getElem.1 hm
        have hj3 : j < 39 := hj1
        exact hj j (by omega) (by rw [List.getElem?_eq_getElem hj1, hj2])
      rw [hk]
      rfl
end Go.Proofs.YtmdfickejpeofaaGreat

/- drumlinref21's index: the walks of New, Slots, Valid. -/
set_option linter.unusedVariables false
set_option linter.unusedSimpArgs false
namespace Go.Proofs.YtmdfickejpeofaaGreat
open Go.RowKit Go.Shelf
attribute [local go_sem] OvM cell_ovm obj_ovm
attribute [local go_sem] Oper.semAt_some

set_option maxRecDepth 40000 in
set_option maxHeartbeats 4000000 in
theorem Check5 (k : ByteArray) (hm : k.size ≤ 140737488351232) (w : World) : Calls Tryz.prog 142 #[.string k] w fun e w' => e = .returned (.int .i64 (keyChk k)) ∧ w = w' := by
  have hl : k.toList.length = k.size := by rw [toList_data, size_data]
  by_cases h0 : k.size = 0
  · have e0 : k.toList = [] := List.eq_nil_of_length_eq_zero (by omega)
    have HR : Hid (keyChk k = 2) := Lib.hid (by rw [keyChk_ok (k := k) (fun j hj => by omega), if_pos h0])
    clear hl h0
    go_enter Tryz.func142, Tryz.ntmps142
    go_wp2
    go_ret
    exact ⟨ret_int HR.out.symm, rfl⟩
  · have e0 : (k.toList == []) = false := by cases hk : k.toList with | nil => rw [hk] at hl; simp at hl; omega | cons a b => rfl
    have e1 : k.toList.isEmpty = false := by cases hk : k.toList with | nil => rw [hk] at e0; cases e0 | cons a b => rfl
    have HBAD := Lib.hid (fun (i : Nat) (hi : i < k.size) (h : keyC (k[i]'hi) = false) => keyChk_bad (k := k) i hi h)
    have HOK := Lib.hid (fun (h : ∀ j (hj : j < k.size), keyC (k[j]'hj) = true) => keyChk_ok (k := k) h)
    go_enter Tryz.func142, Tryz.ntmps142
    go_wp2_with fail
    go_loopw [3] (fun t3 wx => ∃ i : Nat, i ≤ k.size ∧ t3 = .int .i64 i ∧ Hid (∀ j (hj : j < k.size), j < i → keyC (k[j]'hj) = true) ∧ w = wx) (fun t3 _ => k.size - (intOf t3).toNat)
    case atStart => exact ⟨0, by omega, rfl, Lib.hid (fun j hj h => by omega), rfl⟩
    case round =>
      obtain ⟨i, hi, rfl, HJ, rfl⟩ := hrel
      by_cases hlt : i < k.size
      · have hlt' : (i : Int) < k.size := by omega
        have HP := Lib.hid (place5 (k[i]'hlt) w)
        cases hk : keyC (k[i]'hlt) with
        | true =>
          have HK := Lib.hid hk
          clear hk
          go_wp2_with (go_at_call 186; refine Calls.mono HP.out ?_; rintro e w1 ⟨r, rfl, hr, rfl⟩; (have hr0 : ¬ r < 0 := by rw [HK.out] at hr; exact of_decide_eq_false hr); clear hr)
          exact ⟨⟨i + 1, by omega, by simp, Lib.hid (fun j hj h => by
            by_cases hji : j < i
            · exact HJ.out j hj hji
            · obtain rfl : j = i := by omega
              exact HK.out), trivial⟩, by simp [intOf]; omega⟩
        | false =>
          have HK := Lib.hid hk
          clear hk
          go_wp2_with (go_at_call 186; refine Calls.mono HP.out ?_; rintro e w1 ⟨r, rfl, hr, rfl⟩; (have hr0 : r < 0 := by rw [HK.out] at hr; exact of_decide_eq_true hr); clear hr)
          go_ret
          exact ⟨ret_int (HBAD.out i hlt HK.out).symm, rfl⟩
      · have hlt' : ¬ (i : Int) < k.size := by omega
        have HE := Lib.hid (HOK.out (fun j hj => HJ.out j hj (by omega)))
        by_cases h1 : 32 < k.size
        · have h2 : (32 : Int) < k.size := by omega
          have HR : Hid (keyChk k = 12) := Lib.hid (by rw [HE.out, if_neg h0, if_pos h1])
          go_wp2
          go_ret
          exact ⟨ret_int HR.out.symm, rfl⟩
        · have h2 : ¬ (32 : Int) < k.size := by omega
          have HR : Hid (keyChk k = 0) := Lib.hid (by rw [HE.out, if_neg h0, if_neg h1])
          go_wp2
          go_ret
          exact ⟨ret_int HR.out.symm, rfl⟩

abbrev rmO (N : Int) (v : Value) : Obj := .cells #[.int .i64 N, v] 122
set_option maxRecDepth 40000 in
theorem rvalid {w : World} {rb : Nat} {N : Int} {v : Value} (h : w.heap[rb]? = some (rmO N v)) (hN : 0 < N) : Calls Tryz.prog 71 #[.pointer (some ⟨rb, 0, none⟩)] w fun e w' => e = .returned (.bool true) ∧ w = w' := by
  have c0 := ((cellsOf h).1 0).trans (show _ = some (Value.int .i64 N) from rfl)
  clear h
  go_enter Tryz.func71, Tryz.ntmps71
  go_wp2
  go_ret
  exact ⟨rfl, rfl⟩
set_option maxRecDepth 40000 in
theorem rSlots {w : World} {rb : Nat} {N : Int} {v : Value} (h : w.heap[rb]? = some (rmO N v)) (hN : 0 < N) : Calls Tryz.prog 59 #[.pointer (some ⟨rb, 0, none⟩)] w fun e w' => e = .returned (.int .i64 N) ∧ w = w' := by
  have c0 := ((cellsOf h).1 0).trans (show _ = some (Value.int .i64 N) from rfl)
  have HV := Lib.hid (rvalid h hN)
  clear h
  go_enter Tryz.func59, Tryz.ntmps59
  go_wp2_with (go_at_call 71; refine Calls.mono HV.out ?_; rintro e w1 ⟨rfl, rfl⟩)
  go_ret
  exact ⟨rfl, rfl⟩
set_option maxRecDepth 40000 in
theorem rNew (n : Nat) (h1 : 1 ≤ n) (h2 : n ≤ 32) (w : World) : Calls Tryz.prog 33 #[.int .i64 n] w fun e w' => e = .returned (.tuple #[.pointer (some ⟨w.heap.size, 0, none⟩), .int .i64 0]) ∧ w' = w.alloc (rmO n (.slice none 0 0)) := by
  have h1' : ¬ (n : Int) < 1 := by omega
  have h2' : ¬ (32 : Int) < (n : Int) := by omega
  go_enter Tryz.func33, Tryz.ntmps33
  go_wp2
  go_ret2
  exact ⟨rfl, rfl⟩
set_option maxRecDepth 40000 in
set_option maxHeartbeats 4000000 in
theorem rValid (e : En) (hk : e.key.size ≤ 140737488351232) (w : World) : Calls Tryz.prog 99 #[enV e] w fun r w' => r = .returned (.bool (validE e)) ∧ Gr w w' := by
  have HV := Lib.hid (valid_iff e)
  obtain ⟨vb, hvb⟩ : ∃ vb, vb = validE e := ⟨_, rfl⟩
  rw [← hvb] at HV ⊢
  clear hvb
  obtain ⟨a1, a2, a3, a4, a5, a6⟩ := e
  simp only at hk
  have HC : Hid (∀ w, Calls Tryz.prog 142 #[.string a2] w fun e w' => e = .returned (.int .i64 (keyChk a2)) ∧ w = w') := Lib.hid (fun w => Check5 a2 (by omega) w)
  simp only [enV]
  go_enter Tryz.func99, Tryz.ntmps99
  go_wp2_with (go_at_call 142; refine (HC.out _).mono ?_; rintro e w1 ⟨rfl, rfl⟩)
  all_goals
    go_ret
    refine ⟨ret_bool ?_, (Gr.refl w).alloc _⟩
    rw [Bool.eq_iff_iff, HV.out]
    clear HV HC
    first
    | (simp only [Bool.false_eq_true, false_iff]; rintro ⟨q1, q2, q3, q4, q5, q6, q7, q8⟩; first | omega | (rcases q6 with q6 | q6 <;> simp_all <;> omega) | simp_all)
    | (simp only [decide_eq_true_eq]; constructor <;> intro hh <;> first | omega | (simp_all; done) | (simp_all; omega))
end Go.Proofs.YtmdfickejpeofaaGreat

/- An entry of a row, read cell by cell. -/
set_option linter.unusedVariables false
set_option linter.unusedSimpArgs false
namespace Go.Proofs.YtmdfickejpeofaaGreat
open Go.RowKit

theorem ent6g {w : World} {g c i : Nat} {l : List En} {x : En} (h : Own w 56 6 (.slice (some ⟨g, 0, none⟩) l.length c) l.length (rowE l)) (hx : l[i]? = some x) :
    g < w.heap.size ∧ w.cell? ⟨g, i * 6, none⟩ = some (.int .i64 x.seq) ∧ w.cell? ⟨g, i * 6 + 1, none⟩ = some (.string x.key) ∧ w.cell? ⟨g, i * 6 + 2, none⟩ = some (.bool x.del) ∧ w.cell? ⟨g, i * 6 + 3, none⟩ = some (.int .i64 x.slot) ∧
    w.cell? ⟨g, i * 6 + 4, none⟩ = some (.int .i64 x.off) ∧ w.cell? ⟨g, i * 6 + 5, none⟩ = some (.int .i64 x.size) := by
  obtain ⟨_, _, hve, _, _, hat⟩ := ownE_at h
  injection hve with g1 g2 g3
  subst g1
  obtain ⟨g', hg, hl, _, hc⟩ := hat i _ hx
  simp only [Option.some.injEq, Addr.mk.injEq, and_true] at hg
  subst hg
  have y0 := hc 0 _ rfl
  simp only [Nat.add_zero] at y0
  exact ⟨hl, y0, hc 1 _ rfl, hc 2 _ rfl, hc 3 _ rfl, hc 4 _ rfl, hc 5 _ rfl⟩
theorem ent6 {w : World} {a : Option Addr} {c i : Nat} {l : List En} {x : En} (h : Own w 56 6 (.slice a l.length c) l.length (rowE l)) (hx : l[i]? = some x) :
    ∃ g, a = some ⟨g, 0, none⟩ ∧ g < w.heap.size ∧ w.cell? ⟨g, i * 6, none⟩ = some (.int .i64 x.seq) ∧ w.cell? ⟨g, i * 6 + 1, none⟩ = some (.string x.key) ∧ w.cell? ⟨g, i * 6 + 2, none⟩ = some (.bool x.del) ∧ w.cell? ⟨g, i * 6 + 3, none⟩ = some (.int .i64 x.slot) ∧
    w.cell? ⟨g, i * 6 + 4, none⟩ = some (.int .i64 x.off) ∧ w.cell? ⟨g, i * 6 + 5, none⟩ = some (.int .i64 x.size) := by
  obtain ⟨_, _, hve, _, _, hat⟩ := ownE_at h
  injection hve with g1 g2 g3
  subst g1
  obtain ⟨g', rfl, _⟩ := hat i _ hx
  exact ⟨g', rfl, ent6g h hx⟩
end Go.Proofs.YtmdfickejpeofaaGreat

/- ledger: the class of an entry, and the numbers of bytes: what is consistent, and the age. -/
set_option linter.unusedVariables false
set_option linter.unusedSimpArgs false
namespace Go.Proofs.YtmdfickejpeofaaGreat
open Go.RowKit
attribute [local go_sem] OvM cell_ovm obj_ovm

structure By where
  total : Int
  live : Int
  tombs : Int
  dead : Int
  last : Int
def byV (b : By) : Value := .agg #[.int .i64 b.total, .int .i64 b.live, .int .i64 b.tombs, .int .i64 b.dead, .int .i64 b.last]
def newE (l : List En) : En := l.headD zE
theorem newV_by (l : List En) : newV l = .tuple #[enV (newE l), .bool (!l.isEmpty)] := by cases l <;> rfl
def classE (X : IX) (e : En) : Nat := if (newE (X.of e.key)).seq = e.seq then (if e.del = true then 1 else 0) else 2
set_option maxRecDepth 40000 in
set_option maxHeartbeats 1000000 in
theorem class_any {w : World} {p : Option Addr} {X : IX} {S : Nat → Prop} (h : IXP w p X S) (e : En) : Calls Tryz.prog 195 #[.pointer p, enV e] w fun e' w' => e' = .returned (.int .i64 (classE X e)) ∧ Gr w w' := by
  have H := Lib.hid h
  have HN := Lib.hid (newV_by (X.of e.key))
  clear h
  obtain ⟨n, hn⟩ : ∃ n, n = newE (X.of e.key) := ⟨_, rfl⟩
  have HC : Hid (classE X e = if n.seq = e.seq then (if e.del = true then 1 else 0) else 2) := Lib.hid (by rw [hn]; rfl)
  rw [← hn] at HN
  clear hn
  simp only [enV] at *
  go_enter Tryz.func195, Tryz.ntmps195
  go_wp2_with fail
  refine (Newest_any (H.out.gr ((Gr.refl w).alloc _)) e.key).mono ?_
  rintro e' w1 ⟨rfl, hg⟩
  rw [HN.out]
  have c3 := (cellsOf (hg.blk (blkNew w _))).1
  have HG := Lib.hid (((Gr.refl w).alloc _).trans hg)
  have hlt := blkLt (hg.blk (blkNew w (.cells #[.int .i64 e.seq, .string e.key, .bool e.del, .int .i64 e.slot, .int .i64 e.off, .int .i64 e.size] 56)))
  clear hg HN
  by_cases hs : n.seq = e.seq
  · have hsb : (n.seq == e.seq) = true := by simp [hs]
    cases hd : e.del with
    | true =>
      rw [hd] at c3
      have HR : Hid (classE X e = 1) := Lib.hid (by rw [HC.out, if_pos hs, if_pos hd])
      clear hs hd
      go_wp2
      go_ret
      exact ⟨ret_int (by rw [HR.out]; rfl), (HG.out.alloc _)⟩
    | false =>
      rw [hd] at c3
      have HR : Hid (classE X e = 0) := Lib.hid (by rw [HC.out, if_pos hs, if_neg (by rw [hd]; simp)])
      clear hs hd
      go_wp2
      go_ret
      exact ⟨ret_int (by rw [HR.out]; rfl), (HG.out.alloc _)⟩
  · have hsb : (n.seq == e.seq) = false := by simp [hs]
    have HR : Hid (classE X e = 2) := Lib.hid (by rw [HC.out, if_neg hs])
    clear hs
    go_wp2
    go_ret
    exact ⟨ret_int (by rw [HR.out]; rfl), (HG.out.alloc _)⟩

/-! ### Numbers of bytes -/
def inBy (n : Int) : Bool := decide (0 ≤ n ∧ n ≤ 262144)
/-- What Check says. -/
def chkBy (b : By) : Int :=
  if inBy b.live = true ∧ inBy b.tombs = true ∧ inBy b.dead = true ∧ inBy b.total = true ∧ b.total = b.live + b.tombs + b.dead ∧ 0 ≤ b.last ∧ b.last ≤ 1099511627776 ∧ (b.last = 0 ↔ b.total = 0) then 0 else 2
end Go.Proofs.YtmdfickejpeofaaGreat

/- ledger.of: the bytes of a slot. -/
set_option linter.unusedVariables false
set_option linter.unusedSimpArgs false
namespace Go.Proofs.YtmdfickejpeofaaGreat
open Go.RowKit Go.Shelf
attribute [local go_sem] OvM cell_ovm obj_ovm
attribute [local go_sem] Oper.semAt_some

structure AccB where
  l : Int
  t : Int
  d : Int
  last : Int
def stepB (X : IX) (a : AccB) (e : En) : AccB :=
  if classE X e = 0 then ⟨a.l + e.size, a.t, a.d, max a.last e.seq⟩ else if classE X e = 1 then ⟨a.l, a.t + e.size, a.d, max a.last e.seq⟩ else ⟨a.l, a.t, a.d + e.size, max a.last e.seq⟩
def accB (X : IX) (l : List En) : AccB := l.foldl (stepB X) ⟨0, 0, 0, 0⟩
theorem accB_snoc (X : IX) (l : List En) (e : En) : accB X (l ++ [e]) = stepB X (accB X l) e := by simp [accB]
def byOf (X : IX) (s : Int) : By := ⟨(accB X (X.slot s)).l + (accB X (X.slot s)).t + (accB X (X.slot s)).d, (accB X (X.slot s)).l, (accB X (X.slot s)).t, (accB X (X.slot s)).d, (accB X (X.slot s)).last⟩
structure AccOk (a : AccB) (n : Int) : Prop where
  l0 : 0 ≤ a.l
  t0 : 0 ≤ a.t
  d0 : 0 ≤ a.d
  s : a.l + a.t + a.d ≤ 8192 * n
  m0 : 0 ≤ a.last
  m1 : a.last ≤ 1099511627776
theorem step_ok {X : IX} {a : AccB} {e : En} {n : Int} (h : AccOk a n) (hv : validE e = true) : AccOk (stepB X a e) (n + 1) := by
  have hv := (valid_iff e).1 hv
  obtain ⟨h1, h2, h3, h4, h5, h6⟩ := h
  unfold stepB
  (repeat' split) <;> exact ⟨by simp only; omega, by simp only; omega, by simp only; omega, by simp only; omega, by simp only; omega, by simp only; omega⟩
theorem acc_ok' (X : IX) : ∀ (l : List En) (a : AccB) (n : Int), AccOk a n → (∀ e ∈ l, validE e = true) → AccOk (l.foldl (stepB X) a) (n + l.length)
  | [], a, n, h, _ => by simpa using h
  | e :: l, a, n, h, hv => by
    have := acc_ok' X l _ (n + 1) (step_ok (X := X) h (hv e (by simp))) (fun x hx => hv x (List.mem_cons_of_mem _ hx))
    simp only [List.foldl_cons, List.length_cons, Int.natCast_add] at *
    rw [show n + ((l.length : Int) + (1 : Nat)) = n + 1 + l.length by omega]
    exact this
theorem acc_ok (X : IX) (l : List En) (h : ∀ e ∈ l, validE e = true) : AccOk (accB X l) l.length := by
  have := acc_ok' X l ⟨0, 0, 0, 0⟩ 0 ⟨by simp, by simp, by simp, by simp, by simp, by simp⟩ h
  simpa [accB] using this
theorem classE_or (X : IX) (e : En) : classE X e = 0 ∨ classE X e = 1 ∨ classE X e = 2 := by unfold classE; (repeat' split) <;> simp
set_option maxRecDepth 40000 in
set_option maxHeartbeats 4000000 in
theorem of_any {w : World} {p : Option Addr} {X : IX} {S : Nat → Prop} (h : IXP w p X S) (s : Int) : Calls Tryz.prog 157 #[.pointer p, .int .i64 s] w fun e w' => e = .returned (byV (byOf X s)) ∧ Gr w w' := by
  have H := Lib.hid h
  have HOK := Lib.hid h.ok
  clear h
  refine calls_of_wp_marks Tryz.func157 rfl ?_
  simp only [Tryz.ntmps157, List.size_toArray, List.length_cons, List.length_nil, Nat.reduceAdd, Nat.reduceSub, Array.replicate_succ, Array.replicate_zero, List.push_toArray, List.append_toArray, List.nil_append, List.cons_append]
  go_wp2_with fail
  obtain ⟨b2, hb2⟩ : ∃ q, q = w.heap.size := ⟨_, rfl⟩
  obtain ⟨w0, hw0⟩ : ∃ y, y = (((w.alloc (.cells #[.pointer p] 35)).alloc (.cells #[.int .i64 0, .int .i64 0, .int .i64 0, .int .i64 0, .int .i64 0] 161)).alloc (.cells #[.int .i64 0, .int .i64 0, .int .i64 0] 234)).alloc (.cells #[.int .i64 0] 2) := ⟨_, rfl⟩
  have HSW : Hid (SW w [blkA (b2 + 1 + 1 + 1) (.cells #[.int .i64 0] 2), blkA (b2 + 1 + 1) (.cells #[.int .i64 0, .int .i64 0, .int .i64 0] 234), blkA (b2 + 1) (.cells #[.int .i64 0, .int .i64 0, .int .i64 0, .int .i64 0, .int .i64 0] 161), blkA b2 (.cells #[.pointer p] 35)] w0) := Lib.hid (by
    have := ((((SW.start w).alloc (.cells #[.pointer p] 35)).alloc (.cells #[.int .i64 0, .int .i64 0, .int .i64 0, .int .i64 0, .int .i64 0] 161)).alloc (.cells #[.int .i64 0, .int .i64 0, .int .i64 0] 234)).alloc (.cells #[.int .i64 0] 2)
    simp only [World.size_alloc] at this
    rw [hw0, hb2]
    exact this)
  rw [← hw0, ← hb2]
  clear hw0 hb2
  refine (Slot_any p s _).mono ?_
  rintro e' w1 ⟨bb, bs, rfl, h1, h2, h3, h4, hg⟩
  have HS1 := Lib.hid (HSW.out.gr hg)
  have HI := Lib.hid (H.out.gr HS1.out.g)
  have HSEQ := Lib.hid (SeqSlotP HI.out s bb bs h1 h2)
  have hA : ∀ q, (q = bb ∨ q = bs ∨ S q) → q < w1.heap.size := fun q hq => by
    have l1 := World.block_lt_of_cell? w1 ⟨bb, 0, none⟩ h1
    have l2 := World.block_lt_of_cell? w1 ⟨bs, 0, none⟩ h2
    rcases hq with rfl | rfl | hq
    · exact l1
    · exact l2
    · exact HI.out.lt q hq
  have HA := Lib.hid hA
  have HZ : Hid (SWz w w1 (fun q => q = bb ∨ q = bs ∨ S q) [blkA (b2 + 1 + 1 + 1) (.cells #[.int .i64 0] 2), blkA (b2 + 1 + 1) (.cells #[.int .i64 0, .int .i64 0, .int .i64 0] 234), blkA (b2 + 1) (.cells #[.int .i64 0, .int .i64 0, .int .i64 0, .int .i64 0, .int .i64 0] 161), blkA b2 (.cells #[.pointer p] 35)] (fun _ => False) w1) := Lib.hid (SWz.start HS1.out (fun B hB k hk ha => by
    have l1 := HSW.out.s.lt hB k hk
    have l2 := HSW.out.n B hB k hk
    rcases ha with rfl | rfl | ha
    · omega
    · omega
    · have := H.out.lt k ha; omega))
  clear h1 h2 h3 h4 hg hA
  go_wp2_with fail
  apply wp_rangeFunc_zx (gf := 143) (lb := #[.pointer (some ⟨bb, 0, none⟩), .pointer (some ⟨bs, 0, none⟩)]) rfl (enters_of Tryz.func143 (by kernel_rfl) rfl) HSEQ.out (Mdh.refl _ w1) HA.out (fun _ => rfl)
    (fun Z pre X' => SWz w w1 (fun q => q = bb ∨ q = bs ∨ S q) [blkA (b2 + 1 + 1 + 1) (.cells #[.int .i64 (accB X pre).last] 2), blkA (b2 + 1 + 1) (.cells #[.int .i64 (accB X pre).l, .int .i64 (accB X pre).t, .int .i64 (accB X pre).d] 234), blkA (b2 + 1) (.cells #[.int .i64 0, .int .i64 0, .int .i64 0, .int .i64 0, .int .i64 0] 161), blkA b2 (.cells #[.pointer p] 35)] Z X')
    (fun _ _ _ => False) (fun _ _ _ => False)
    (SWz.apart HS1.out.g.sz (fun pre => [blkA (b2 + 1 + 1 + 1) (.cells #[.int .i64 (accB X pre).last] 2), blkA (b2 + 1 + 1) (.cells #[.int .i64 (accB X pre).l, .int .i64 (accB X pre).t, .int .i64 (accB X pre).d] 234), blkA (b2 + 1) (.cells #[.int .i64 0, .int .i64 0, .int .i64 0, .int .i64 0, .int .i64 0] 161), blkA b2 (.cells #[.pointer p] 35)])) apart_no apart_no
    HZ.out (fun Z pre X' h => h.frm HS1.out.g) (fun x => .cells #[.int .i64 x.seq, .string x.key, .bool x.del, .int .i64 x.slot, .int .i64 x.off, .int .i64 x.size] 56)
    _ ?assign ?body ?hend ?hret
  case hret => intro _ _ _ _ _ _ _ h; exact h.elim
  case assign =>
    intro l x bx X' K hbx hK
    dsimp only [encE, enV]
    gi_wp2
    rw [← hbx]
    exact hK
  case body =>
    intro l Z pre x bx X' hI hbx hx hzx hzl hlr hsp
    have HIZ := Lib.hid hI
    have HBX := Lib.hid hx
    have hv : validE x = true := ((HOK.out.slotOk s).e x (hsp.subset (by simp))).2
    have HAC := Lib.hid (acc_ok X pre (fun e he => ((HOK.out.slotOk s).e e (hsp.subset (List.mem_append_left _ he))).2))
    have HPL : Hid ((pre.length : Int) ≤ 512) := Lib.hid (by have := hsp.length_le; have := HOK.out.slot_le s; simp at *; omega)
    have HSN := Lib.hid (accB_snoc X pre x)
    have HV2 := Lib.hid ((valid_iff x).1 hv)
    clear hI hx hsp hv
    have hxb : X'.heap[bx]? = _ := HBX.out
    have c7 := (cellsOf hxb).1
    have HXL := Lib.hid (blkLt hxb)
    have c5' := (cellsOf (show X'.heap[b2 + 1 + 1]? = _ from HIZ.out.s.get (i := 1) rfl))
    have c6' := (cellsOf (show X'.heap[b2 + 1 + 1 + 1]? = _ from HIZ.out.s.get (i := 0) rfl))
    have c2' := (cellsOf (show X'.heap[b2]? = _ from HIZ.out.s.get (i := 3) rfl)).1
    have hlt5 := blkLt (show X'.heap[b2 + 1 + 1]? = _ from HIZ.out.s.get (i := 1) rfl)
    have HP5 := Lib.hid (show X'.heap[b2 + 1 + 1]? = _ from HIZ.out.s.get (i := 1) rfl)
    have HP6 := Lib.hid (show X'.heap[b2 + 1 + 1 + 1]? = _ from HIZ.out.s.get (i := 0) rfl)
    have HIX : Hid (IXP X' p X S) := Lib.hid (H.out.gr HIZ.out.s.g)
    generalize accB X pre = a at *
    obtain ⟨a1, a2, a3, a4⟩ := a
    simp only at *
    obtain ⟨o1, o2, o3, o4, o5, o6⟩ := HAC.out
    have o7 := HPL.out
    simp only at o1 o2 o3 o4 o5 o6
    have HV := HV2.out
    obtain ⟨v1, v2, v3, v4, v5, v6⟩ := HV2.out
    clear HV
    have HNE : Hid (bx ≠ b2 + 1 + 1) := Lib.hid (by have := blkLt (show w1.heap[b2 + 1 + 1]? = _ from HS1.out.get (i := 1) rfl); omega)
    gi_wp2_with fail
    rcases classE_or X x with hc | hc | hc
    · have F1 := Lib.hid hc
      have HN : Hid (accB X (pre ++ [x]) = ⟨a1 + x.size, a2, a3, max a4 x.seq⟩) := Lib.hid (by rw [HSN.out]; simp [stepB, hc])
      clear hc
      have n7 := HNE.out
      obtain ⟨c5, f5⟩ := c5'
      obtain ⟨c6, f6⟩ := c6'
      refine wpIn_region_flo (fun _ => trivial) rfl (fun k => k = b2 + 1 + 1) [] [16] (by kernel_rfl) (by kernel_rfl) (fun k hk => by subst hk; exact hlt5) ?_
      refine flo_seg 2 rfl ?_
      simp only [List.take_succ_cons, List.take_zero, List.drop_succ_cons, List.drop_zero]
      repeat (go_big_quiet_step (fail))
      refine wpQuiet_nil ?_
      refine flo_eff rfl rfl rfl rfl (fun K hK => ?_)
      gi_wp2_with ((refine ⟨trivial, ?_⟩; gi_at_call 195; refine (CallsIn.inRound l (callsIn_wide.2 (class_any (HIX.out.gr ((Gr.refl _).drew)) x))).mono ?_; rintro e w9 ⟨rfl, hg9⟩; rw [F1.out]; have HGD := Lib.hid hg9; have HG9 := Lib.hid (((Gr.refl _).drew).trans hg9); have d7 := (cellsOf (HG9.out.blk HBX.out)).1; have d5 := (cellsOf (HG9.out.blk HP5.out)).1; have d6 := (cellsOf (HG9.out.blk HP6.out)).1; have g5 := (cellsOf (HG9.out.blk HP5.out)).2; have g6 := (cellsOf (HG9.out.blk HP6.out)).2; clear hg9))
      refine ⟨by first | exact HGD.out.mdh _ | exact HG9.out.mdh _, ?_⟩
      refine flo_seg 1 rfl ?_
      simp only [List.take_succ_cons, List.take_zero, List.drop_succ_cons, List.drop_zero]
      repeat (go_big_quiet_step (fail))
      refine wpQuiet_nil ?_
      refine flo_eff rfl rfl rfl rfl (fun K hK => ?_)
      gi_wp2
      refine ⟨by (first | (refine Gr.mdh ?_ _; (repeat (first | (with_reducible exact Gr.refl _) | assumption | (with_reducible apply Gr.from_drew) | (with_reducible apply Gr.alloc) | (with_reducible apply Gr.drew) | (with_reducible refine Gr.trans ?_ (by assumption)) | (with_reducible refine Gr.setCell ?_ (by omega) _))); done) | (repeat (first | (with_reducible exact Mdh.refl _ _) | (with_reducible refine Mdh.setCell ?_ (by simp) _) | (with_reducible refine Mdh.setNew ?_ (by simp) _) | (with_reducible apply Mdh.alloc) | (with_reducible apply Mdh.from_drew) | (with_reducible apply Mdh.drew) | (with_reducible refine Mdh.gr ?_ (by assumption))))), ?_⟩
      refine flo_seg 4 rfl ?_
      simp only [List.take_succ_cons, List.take_zero, List.drop_succ_cons, List.drop_zero]
      repeat (go_big_quiet_step (fail))
      refine wpQuiet_nil ?_
      refine flo_eff rfl rfl rfl rfl (fun K hK => ?_)
      gi_wp2
      refine ⟨by (first | (refine Gr.mdh ?_ _; (repeat (first | (with_reducible exact Gr.refl _) | assumption | (with_reducible apply Gr.from_drew) | (with_reducible apply Gr.alloc) | (with_reducible apply Gr.drew) | (with_reducible refine Gr.trans ?_ (by assumption)) | (with_reducible refine Gr.setCell ?_ (by omega) _))); done) | (repeat (first | (with_reducible exact Mdh.refl _ _) | (with_reducible refine Mdh.setCell ?_ (by simp) _) | (with_reducible refine Mdh.setNew ?_ (by simp) _) | (with_reducible apply Mdh.alloc) | (with_reducible apply Mdh.from_drew) | (with_reducible apply Mdh.drew) | (with_reducible refine Mdh.gr ?_ (by assumption))))), ?_⟩
      refine flo_nil ?_
      obtain ⟨X2, hX2⟩ : ∃ y, y = w9.setCell ⟨b2 + 1 + 1, 0, none⟩ (.int .i64 (a1 + x.size)) := ⟨_, rfl⟩
      rw [← hX2]
      have HS2 := Lib.hid (HIZ.out.gr HG9.out)
      have HB2 := Lib.hid (HS2.out.1.box (i := 1) rfl HA.out ((Mdh.refl (fun k => k = b2 + 1 + 1) w9).setCell (p := ⟨b2 + 1 + 1, 0, none⟩) rfl (.int .i64 (a1 + x.size))) (blkSet (j := 0) (u := .int .i64 (a1 + x.size)) (HG9.out.blk HP5.out)))
      have HB3 := Lib.hid HB2.out
      rw [← hX2] at HB3
      have HP62 : Hid (X2.heap[b2 + 1 + 1 + 1]? = _) := Lib.hid (HB3.out.1.s.get (i := 0) rfl)
      have hx2 : X2.heap[bx]? = _ := (show X2.heap[bx]? = w9.heap[bx]? from by rw [hX2]; exact Below.heap_setCell _ _ _ _ HNE.out).trans (HG9.out.blk HBX.out)
      clear hX2 c7 c5 f5 c6 f6 c2' d7 d5 d6 g5 g6
      have c7 := (cellsOf hx2).1
      obtain ⟨c6, f6⟩ := cellsOf HP62.out
      clear hx2
      gi_wp2
      all_goals
        have HB4 := HB3.out.1.box (i := 0) rfl HA.out ((Mdh.refl (fun k => k = b2 + 1 + 1 + 1) X2).setCell (p := ⟨b2 + 1 + 1 + 1, 0, none⟩) rfl (.int .i64 (max a4 x.seq))) (blkSet (j := 0) (u := .int .i64 (max a4 x.seq)) HP62.out)
        have HNo := HN.out
        first
          | (have hm : max a4 x.seq = x.seq := by omega
             rw [hm] at HB4 HNo
             refine ⟨(HS2.out.2.trans HB3.out.2).trans HB4.2, ?_⟩
             dsimp only
             rw [HNo]
             exact HB4.1)
          | (have hm : max a4 x.seq = a4 := by omega
             rw [hm] at HB4 HNo
             refine ⟨(HS2.out.2.trans HB3.out.2).trans HB4.2, ?_⟩
             dsimp only
             rw [HNo]
             exact HB4.1)
    · have F1 := Lib.hid hc
      have HN : Hid (accB X (pre ++ [x]) = ⟨a1, a2 + x.size, a3, max a4 x.seq⟩) := Lib.hid (by rw [HSN.out]; simp [stepB, hc])
      clear hc
      have n7 := HNE.out
      obtain ⟨c5, f5⟩ := c5'
      obtain ⟨c6, f6⟩ := c6'
      refine wpIn_region_flo (fun _ => trivial) rfl (fun k => k = b2 + 1 + 1) [] [16] (by kernel_rfl) (by kernel_rfl) (fun k hk => by subst hk; exact hlt5) ?_
      refine flo_seg 2 rfl ?_
      simp only [List.take_succ_cons, List.take_zero, List.drop_succ_cons, List.drop_zero]
      repeat (go_big_quiet_step (fail))
      refine wpQuiet_nil ?_
      refine flo_eff rfl rfl rfl rfl (fun K hK => ?_)
      gi_wp2_with ((refine ⟨trivial, ?_⟩; gi_at_call 195; refine (CallsIn.inRound l (callsIn_wide.2 (class_any (HIX.out.gr ((Gr.refl _).drew)) x))).mono ?_; rintro e w9 ⟨rfl, hg9⟩; rw [F1.out]; have HGD := Lib.hid hg9; have HG9 := Lib.hid (((Gr.refl _).drew).trans hg9); have d7 := (cellsOf (HG9.out.blk HBX.out)).1; have d5 := (cellsOf (HG9.out.blk HP5.out)).1; have d6 := (cellsOf (HG9.out.blk HP6.out)).1; have g5 := (cellsOf (HG9.out.blk HP5.out)).2; have g6 := (cellsOf (HG9.out.blk HP6.out)).2; clear hg9))
      refine ⟨by first | exact HGD.out.mdh _ | exact HG9.out.mdh _, ?_⟩
      refine flo_seg 1 rfl ?_
      simp only [List.take_succ_cons, List.take_zero, List.drop_succ_cons, List.drop_zero]
      repeat (go_big_quiet_step (fail))
      refine wpQuiet_nil ?_
      refine flo_eff rfl rfl rfl rfl (fun K hK => ?_)
      gi_wp2
      refine ⟨by (first | (refine Gr.mdh ?_ _; (repeat (first | (with_reducible exact Gr.refl _) | assumption | (with_reducible apply Gr.from_drew) | (with_reducible apply Gr.alloc) | (with_reducible apply Gr.drew) | (with_reducible refine Gr.trans ?_ (by assumption)) | (with_reducible refine Gr.setCell ?_ (by omega) _))); done) | (repeat (first | (with_reducible exact Mdh.refl _ _) | (with_reducible refine Mdh.setCell ?_ (by simp) _) | (with_reducible refine Mdh.setNew ?_ (by simp) _) | (with_reducible apply Mdh.alloc) | (with_reducible apply Mdh.from_drew) | (with_reducible apply Mdh.drew) | (with_reducible refine Mdh.gr ?_ (by assumption))))), ?_⟩
      refine flo_seg 4 rfl ?_
      simp only [List.take_succ_cons, List.take_zero, List.drop_succ_cons, List.drop_zero]
      repeat (go_big_quiet_step (fail))
      refine wpQuiet_nil ?_
      refine flo_eff rfl rfl rfl rfl (fun K hK => ?_)
      gi_wp2
      refine ⟨by (first | (refine Gr.mdh ?_ _; (repeat (first | (with_reducible exact Gr.refl _) | assumption | (with_reducible apply Gr.from_drew) | (with_reducible apply Gr.alloc) | (with_reducible apply Gr.drew) | (with_reducible refine Gr.trans ?_ (by assumption)) | (with_reducible refine Gr.setCell ?_ (by omega) _))); done) | (repeat (first | (with_reducible exact Mdh.refl _ _) | (with_reducible refine Mdh.setCell ?_ (by simp) _) | (with_reducible refine Mdh.setNew ?_ (by simp) _) | (with_reducible apply Mdh.alloc) | (with_reducible apply Mdh.from_drew) | (with_reducible apply Mdh.drew) | (with_reducible refine Mdh.gr ?_ (by assumption))))), ?_⟩
      refine flo_nil ?_
      obtain ⟨X2, hX2⟩ : ∃ y, y = w9.setCell ⟨b2 + 1 + 1, 1, none⟩ (.int .i64 (a2 + x.size)) := ⟨_, rfl⟩
      rw [← hX2]
      have HS2 := Lib.hid (HIZ.out.gr HG9.out)
      have HB2 := Lib.hid (HS2.out.1.box (i := 1) rfl HA.out ((Mdh.refl (fun k => k = b2 + 1 + 1) w9).setCell (p := ⟨b2 + 1 + 1, 1, none⟩) rfl (.int .i64 (a2 + x.size))) (blkSet (j := 1) (u := .int .i64 (a2 + x.size)) (HG9.out.blk HP5.out)))
      have HB3 := Lib.hid HB2.out
      rw [← hX2] at HB3
      have HP62 : Hid (X2.heap[b2 + 1 + 1 + 1]? = _) := Lib.hid (HB3.out.1.s.get (i := 0) rfl)
      have hx2 : X2.heap[bx]? = _ := (show X2.heap[bx]? = w9.heap[bx]? from by rw [hX2]; exact Below.heap_setCell _ _ _ _ HNE.out).trans (HG9.out.blk HBX.out)
      clear hX2 c7 c5 f5 c6 f6 c2' d7 d5 d6 g5 g6
      have c7 := (cellsOf hx2).1
      obtain ⟨c6, f6⟩ := cellsOf HP62.out
      clear hx2
      gi_wp2
      all_goals
        have HB4 := HB3.out.1.box (i := 0) rfl HA.out ((Mdh.refl (fun k => k = b2 + 1 + 1 + 1) X2).setCell (p := ⟨b2 + 1 + 1 + 1, 0, none⟩) rfl (.int .i64 (max a4 x.seq))) (blkSet (j := 0) (u := .int .i64 (max a4 x.seq)) HP62.out)
        have HNo := HN.out
        first
          | (have hm : max a4 x.seq = x.seq := by omega
             rw [hm] at HB4 HNo
             refine ⟨(HS2.out.2.trans HB3.out.2).trans HB4.2, ?_⟩
             dsimp only
             rw [HNo]
             exact HB4.1)
          | (have hm : max a4 x.seq = a4 := by omega
             rw [hm] at HB4 HNo
             refine ⟨(HS2.out.2.trans HB3.out.2).trans HB4.2, ?_⟩
             dsimp only
             rw [HNo]
             exact HB4.1)
    · have F1 := Lib.hid hc
      have HN : Hid (accB X (pre ++ [x]) = ⟨a1, a2, a3 + x.size, max a4 x.seq⟩) := Lib.hid (by rw [HSN.out]; simp [stepB, hc])
      clear hc
      have n7 := HNE.out
      obtain ⟨c5, f5⟩ := c5'
      obtain ⟨c6, f6⟩ := c6'
      refine wpIn_region_flo (fun _ => trivial) rfl (fun k => k = b2 + 1 + 1) [] [16] (by kernel_rfl) (by kernel_rfl) (fun k hk => by subst hk; exact hlt5) ?_
      refine flo_seg 2 rfl ?_
      simp only [List.take_succ_cons, List.take_zero, List.drop_succ_cons, List.drop_zero]
      repeat (go_big_quiet_step (fail))
      refine wpQuiet_nil ?_
      refine flo_eff rfl rfl rfl rfl (fun K hK => ?_)
      gi_wp2_with ((refine ⟨trivial, ?_⟩; gi_at_call 195; refine (CallsIn.inRound l (callsIn_wide.2 (class_any (HIX.out.gr ((Gr.refl _).drew)) x))).mono ?_; rintro e w9 ⟨rfl, hg9⟩; rw [F1.out]; have HGD := Lib.hid hg9; have HG9 := Lib.hid (((Gr.refl _).drew).trans hg9); have d7 := (cellsOf (HG9.out.blk HBX.out)).1; have d5 := (cellsOf (HG9.out.blk HP5.out)).1; have d6 := (cellsOf (HG9.out.blk HP6.out)).1; have g5 := (cellsOf (HG9.out.blk HP5.out)).2; have g6 := (cellsOf (HG9.out.blk HP6.out)).2; clear hg9))
      refine ⟨by first | exact HGD.out.mdh _ | exact HG9.out.mdh _, ?_⟩
      refine flo_seg 1 rfl ?_
      simp only [List.take_succ_cons, List.take_zero, List.drop_succ_cons, List.drop_zero]
      repeat (go_big_quiet_step (fail))
      refine wpQuiet_nil ?_
      refine flo_eff rfl rfl rfl rfl (fun K hK => ?_)
      gi_wp2
      refine ⟨by (first | (refine Gr.mdh ?_ _; (repeat (first | (with_reducible exact Gr.refl _) | assumption | (with_reducible apply Gr.from_drew) | (with_reducible apply Gr.alloc) | (with_reducible apply Gr.drew) | (with_reducible refine Gr.trans ?_ (by assumption)) | (with_reducible refine Gr.setCell ?_ (by omega) _))); done) | (repeat (first | (with_reducible exact Mdh.refl _ _) | (with_reducible refine Mdh.setCell ?_ (by simp) _) | (with_reducible refine Mdh.setNew ?_ (by simp) _) | (with_reducible apply Mdh.alloc) | (with_reducible apply Mdh.from_drew) | (with_reducible apply Mdh.drew) | (with_reducible refine Mdh.gr ?_ (by assumption))))), ?_⟩
      refine flo_seg 4 rfl ?_
      simp only [List.take_succ_cons, List.take_zero, List.drop_succ_cons, List.drop_zero]
      repeat (go_big_quiet_step (fail))
      refine wpQuiet_nil ?_
      refine flo_eff rfl rfl rfl rfl (fun K hK => ?_)
      gi_wp2
      refine ⟨by (first | (refine Gr.mdh ?_ _; (repeat (first | (with_reducible exact Gr.refl _) | assumption | (with_reducible apply Gr.from_drew) | (with_reducible apply Gr.alloc) | (with_reducible apply Gr.drew) | (with_reducible refine Gr.trans ?_ (by assumption)) | (with_reducible refine Gr.setCell ?_ (by omega) _))); done) | (repeat (first | (with_reducible exact Mdh.refl _ _) | (with_reducible refine Mdh.setCell ?_ (by simp) _) | (with_reducible refine Mdh.setNew ?_ (by simp) _) | (with_reducible apply Mdh.alloc) | (with_reducible apply Mdh.from_drew) | (with_reducible apply Mdh.drew) | (with_reducible refine Mdh.gr ?_ (by assumption))))), ?_⟩
      refine flo_nil ?_
      obtain ⟨X2, hX2⟩ : ∃ y, y = w9.setCell ⟨b2 + 1 + 1, 2, none⟩ (.int .i64 (a3 + x.size)) := ⟨_, rfl⟩
      rw [← hX2]
      have HS2 := Lib.hid (HIZ.out.gr HG9.out)
      have HB2 := Lib.hid (HS2.out.1.box (i := 1) rfl HA.out ((Mdh.refl (fun k => k = b2 + 1 + 1) w9).setCell (p := ⟨b2 + 1 + 1, 2, none⟩) rfl (.int .i64 (a3 + x.size))) (blkSet (j := 2) (u := .int .i64 (a3 + x.size)) (HG9.out.blk HP5.out)))
      have HB3 := Lib.hid HB2.out
      rw [← hX2] at HB3
      have HP62 : Hid (X2.heap[b2 + 1 + 1 + 1]? = _) := Lib.hid (HB3.out.1.s.get (i := 0) rfl)
      have hx2 : X2.heap[bx]? = _ := (show X2.heap[bx]? = w9.heap[bx]? from by rw [hX2]; exact Below.heap_setCell _ _ _ _ HNE.out).trans (HG9.out.blk HBX.out)
      clear hX2 c7 c5 f5 c6 f6 c2' d7 d5 d6 g5 g6
      have c7 := (cellsOf hx2).1
      obtain ⟨c6, f6⟩ := cellsOf HP62.out
      clear hx2
      gi_wp2
      all_goals
        have HB4 := HB3.out.1.box (i := 0) rfl HA.out ((Mdh.refl (fun k => k = b2 + 1 + 1 + 1) X2).setCell (p := ⟨b2 + 1 + 1 + 1, 0, none⟩) rfl (.int .i64 (max a4 x.seq))) (blkSet (j := 0) (u := .int .i64 (max a4 x.seq)) HP62.out)
        have HNo := HN.out
        first
          | (have hm : max a4 x.seq = x.seq := by omega
             rw [hm] at HB4 HNo
             refine ⟨(HS2.out.2.trans HB3.out.2).trans HB4.2, ?_⟩
             dsimp only
             rw [HNo]
             exact HB4.1)
          | (have hm : max a4 x.seq = a4 := by omega
             rw [hm] at HB4 HNo
             refine ⟨(HS2.out.2.trans HB3.out.2).trans HB4.2, ?_⟩
             dsimp only
             rw [HNo]
             exact HB4.1)
  case hend =>
    intro Z D xs W hD hZD hcase hdef
    obtain ⟨hxs, hI⟩ := hcase.elim (fun h => h) (fun h => h.2.elim)
    have hxs' : xs = X.slot s := hxs
    subst hxs'
    have HIZ := Lib.hid hI
    have HD := Lib.hid (And.intro hD hdef)
    have HAC := Lib.hid (acc_ok X (X.slot s) (fun e he => ((HOK.out.slotOk s).e e he).2))
    have HPL : Hid (((X.slot s).length : Int) ≤ 512) := Lib.hid (by have := HOK.out.slot_le s; omega)
    have HBY : Hid (byOf X s = ⟨(accB X (X.slot s)).l + (accB X (X.slot s)).t + (accB X (X.slot s)).d, (accB X (X.slot s)).l, (accB X (X.slot s)).t, (accB X (X.slot s)).d, (accB X (X.slot s)).last⟩) := Lib.hid rfl
    clear hxs hI hcase hD hdef
    generalize accB X (X.slot s) = a at *
    obtain ⟨a1, a2, a3, a4⟩ := a
    simp only at *
    obtain ⟨o1, o2, o3, o4, o5, o6⟩ := HAC.out
    have o7 := HPL.out
    simp only at o1 o2 o3 o4 o5 o6
    have hb4 : W.heap[b2 + 1]? = _ := HIZ.out.s.get (i := 2) rfl
    have c5 := (cellsOf (show W.heap[b2 + 1 + 1]? = _ from HIZ.out.s.get (i := 1) rfl)).1
    have c6 := (cellsOf (show W.heap[b2 + 1 + 1 + 1]? = _ from HIZ.out.s.get (i := 0) rfl)).1
    obtain ⟨c4, f4⟩ := cellsOf hb4
    have HB4 := Lib.hid hb4
    clear hb4
    (try dsimp only)
    go_wp2_with fail
    obtain ⟨W2, hW2⟩ : ∃ y, y = (((((W.setCell ⟨b2 + 1, 0, none⟩ (.int .i64 (a1 + a2 + a3))).setCell ⟨b2 + 1, 1, none⟩ (.int .i64 a1)).setCell ⟨b2 + 1, 2, none⟩ (.int .i64 a2)).setCell ⟨b2 + 1, 3, none⟩ (.int .i64 a3)).setCell ⟨b2 + 1, 4, none⟩ (.int .i64 a4)) := ⟨_, rfl⟩
    have n4 : D ≠ b2 + 1 := fun e => by have := HIZ.out.z _ (List.mem_cons_of_mem _ (List.mem_cons_of_mem _ (List.mem_cons_self ..))) (b2 + 1) rfl; exact this (e ▸ hZD)
    have hWd : W2.heap[D]? = some (.deferred (some [])) := by rw [hW2]; exact blkSetO (blkSetO (blkSetO (blkSetO (blkSetO HD.out.2 n4) n4) n4) n4) n4
    have hWg : Gr w W2 := by
      have hb := HS1.out.g
      have hn : w.heap.size ≤ b2 + 1 := HSW.out.n _ (List.mem_cons_of_mem _ (List.mem_cons_of_mem _ (List.mem_cons_self ..))) (b2 + 1) rfl
      rw [hW2]
      exact ((((HIZ.out.s.g.setCell (p := ⟨b2 + 1, 0, none⟩) hn _).setCell (p := ⟨b2 + 1, 1, none⟩) hn _).setCell (p := ⟨b2 + 1, 2, none⟩) hn _).setCell (p := ⟨b2 + 1, 3, none⟩) hn _).setCell (p := ⟨b2 + 1, 4, none⟩) hn _
    have hWb : W2.heap[b2 + 1]? = some (.cells #[.int .i64 (a1 + a2 + a3), .int .i64 a1, .int .i64 a2, .int .i64 a3, .int .i64 a4] 161) := by rw [hW2]; exact blkSet (j := 4) (blkSet (j := 3) (blkSet (j := 2) (blkSet (j := 1) (blkSet (j := 0) HB4.out))))
    rw [← hW2]
    have h4' : (W2.putObj D (.deferred none)).heap[b2 + 1]? = _ := (World.putObj_heap_other n4.symm).trans hWb
    obtain ⟨d4, _⟩ := cellsOf h4'
    have hnD : w.heap.size ≤ D := by have := HD.out.1; have := HS1.out.g.sz; omega
    refine retM1 (D := D) (v := byV (byOf X s)) rfl hWd ?_ ⟨rfl, hWg.putObj hnD _⟩
    rw [HBY.out]
    simp [results, Tryz.results157, go_sem, d4, byV]
end Go.Proofs.YtmdfickejpeofaaGreat

/- ledger.Of: the bytes of a slot, or why not. -/
set_option linter.unusedVariables false
set_option linter.unusedSimpArgs false
namespace Go.Proofs.YtmdfickejpeofaaGreat
open Go.RowKit Go.Shelf
attribute [local go_sem] OvM cell_ovm obj_ovm
attribute [local go_sem] Oper.semAt_some

def zBy : By := ⟨0, 0, 0, 0, 0⟩
def ofL (X : IX) (s : Int) : By × Int := if X.slots.length = 0 then (zBy, 1) else if s < 0 ∨ (X.slots.length : Int) ≤ s then (zBy, 3) else (byOf X s, 0)
theorem Gr.cell5 {w w' : World} (g : Gr w w') {b : Nat} (h : w.heap.size ≤ b) (u0 u1 u2 u3 u4 : Value) : Gr w (((((w'.setCell ⟨b, 0, none⟩ u0).setCell ⟨b, 1, none⟩ u1).setCell ⟨b, 2, none⟩ u2).setCell ⟨b, 3, none⟩ u3).setCell ⟨b, 4, none⟩ u4) :=
  ((((g.setCell (p := ⟨b, 0, none⟩) h _).setCell (p := ⟨b, 1, none⟩) h _).setCell (p := ⟨b, 2, none⟩) h _).setCell (p := ⟨b, 3, none⟩) h _).setCell (p := ⟨b, 4, none⟩) h _
theorem blk5 {w : World} {b : Nat} {t : TypeId} {a0 a1 a2 a3 a4 : Value} (h : w.heap[b]? = some (.cells #[a0, a1, a2, a3, a4] t)) (u0 u1 u2 u3 u4 : Value) : (((((w.setCell ⟨b, 0, none⟩ u0).setCell ⟨b, 1, none⟩ u1).setCell ⟨b, 2, none⟩ u2).setCell ⟨b, 3, none⟩ u3).setCell ⟨b, 4, none⟩ u4).heap[b]? = some (.cells #[u0, u1, u2, u3, u4] t) :=
  blkSet (j := 4) (blkSet (j := 3) (blkSet (j := 2) (blkSet (j := 1) (blkSet (j := 0) h))))
set_option maxRecDepth 40000 in
set_option maxHeartbeats 4000000 in
theorem OfL_any {w : World} {p : Option Addr} {X : IX} {S : Nat → Prop} (h : IXP w p X S) (s : Int) : Calls Tryz.prog 114 #[.pointer p, .int .i64 s] w fun e w' => e = .returned (.tuple #[byV (ofL X s).1, .int .i64 (ofL X s).2]) ∧ Gr w w' := by
  have H := Lib.hid h
  obtain ⟨n, hn⟩ : ∃ n : Nat, n = X.slots.length := ⟨_, rfl⟩
  have HSL : Hid (∀ w1, Gr w w1 → Calls Tryz.prog 105 #[.pointer p] w1 fun e w' => e = .returned (.int .i64 n) ∧ w1 = w') := Lib.hid (fun w1 g => by rw [hn]; exact Slots_any (h.gr g))
  have HOF : Hid (ofL X s = if n = 0 then (zBy, 1) else if s < 0 ∨ (n : Int) ≤ s then (zBy, 3) else (byOf X s, 0)) := Lib.hid (by rw [hn]; rfl)
  clear h hn
  refine calls_of_wp_marks Tryz.func114 rfl ?_
  simp only [Tryz.ntmps114, List.size_toArray, List.length_cons, List.length_nil, Nat.reduceAdd, Nat.reduceSub, Array.replicate_succ, Array.replicate_zero, List.push_toArray, List.append_toArray, List.nil_append, List.cons_append]
  have h0 : (w.alloc (.cells #[.int .i64 0, .int .i64 0, .int .i64 0, .int .i64 0, .int .i64 0] 161)).heap[w.heap.size]? = _ := blkNew _ _
  have HB0 := Lib.hid h0
  clear h0
  obtain ⟨b, hb⟩ : ∃ b, b = w.heap.size := ⟨_, rfl⟩
  obtain ⟨w0, hw0⟩ : ∃ y, y = w.alloc (.cells #[.int .i64 0, .int .i64 0, .int .i64 0, .int .i64 0, .int .i64 0] 161) := ⟨_, rfl⟩
  have HG0 : Hid (Gr w w0 ∧ w.heap.size ≤ b) := Lib.hid ⟨by rw [hw0]; exact (Gr.refl _).alloc _, by omega⟩
  rw [← hw0, ← hb] at HB0
  by_cases hz : n = 0
  · subst hz
    go_wp2_with fail
    rw [← hw0, ← hb]
    obtain ⟨c4, f4⟩ := cellsOf HB0.out
    clear hw0 hb
    go_wp2_with (first
      | (go_at_call 105; refine (HSL.out _ HG0.out.1).mono ?_; rintro e w1 ⟨rfl, rfl⟩)
      | (go_at_call 157; refine (of_any (H.out.gr HG0.out.1) s).mono ?_; rintro e w1 ⟨rfl, hg⟩; simp only [byV]; have HG1 := Lib.hid hg; have e4 := (cellsOf (hg.blk HB0.out)).1; have g4 := (cellsOf (hg.blk HB0.out)).2; clear hg)
      | fail)
    have HF : ofL X s = (zBy, 1) := by rw [HOF.out]; rfl
    have hb5 := blk5 HB0.out (.int .i64 (zBy.total)) (.int .i64 (zBy.live)) (.int .i64 (zBy.tombs)) (.int .i64 (zBy.dead)) (.int .i64 (zBy.last))
    obtain ⟨d4, _⟩ := cellsOf hb5
    refine retM0 (v := .tuple #[byV (zBy), .int .i64 1]) ?_ rfl ⟨by rw [HF], Gr.cell5 (HG0.out.1) HG0.out.2 _ _ _ _ _⟩
    (try simp only [zBy] at d4)
    simp [results, Tryz.results114, go_sem, d4, byV, zBy]
  · have hz' : decide ((n : Int) = 0) = false := by simpa using hz
    by_cases hs : s < 0
    · go_wp2_with fail
      rw [← hw0, ← hb]
      obtain ⟨c4, f4⟩ := cellsOf HB0.out
      clear hw0 hb
      go_wp2_with (first
        | (go_at_call 105; refine (HSL.out _ HG0.out.1).mono ?_; rintro e w1 ⟨rfl, rfl⟩)
        | (go_at_call 157; refine (of_any (H.out.gr HG0.out.1) s).mono ?_; rintro e w1 ⟨rfl, hg⟩; simp only [byV]; have HG1 := Lib.hid hg; have e4 := (cellsOf (hg.blk HB0.out)).1; have g4 := (cellsOf (hg.blk HB0.out)).2; clear hg)
        | fail)
      have HF : ofL X s = (zBy, 3) := by rw [HOF.out]; simp [hz, hs]
      have hb5 := blk5 HB0.out (.int .i64 (zBy.total)) (.int .i64 (zBy.live)) (.int .i64 (zBy.tombs)) (.int .i64 (zBy.dead)) (.int .i64 (zBy.last))
      obtain ⟨d4, _⟩ := cellsOf hb5
      refine retM0 (v := .tuple #[byV (zBy), .int .i64 3]) ?_ rfl ⟨by rw [HF], Gr.cell5 (HG0.out.1) HG0.out.2 _ _ _ _ _⟩
      (try simp only [zBy] at d4)
      simp [results, Tryz.results114, go_sem, d4, byV, zBy]
    · by_cases hs2 : (n : Int) ≤ s
      · go_wp2_with fail
        rw [← hw0, ← hb]
        obtain ⟨c4, f4⟩ := cellsOf HB0.out
        clear hw0 hb
        go_wp2_with (first
          | (go_at_call 105; refine (HSL.out _ HG0.out.1).mono ?_; rintro e w1 ⟨rfl, rfl⟩)
          | (go_at_call 157; refine (of_any (H.out.gr HG0.out.1) s).mono ?_; rintro e w1 ⟨rfl, hg⟩; simp only [byV]; have HG1 := Lib.hid hg; have e4 := (cellsOf (hg.blk HB0.out)).1; have g4 := (cellsOf (hg.blk HB0.out)).2; clear hg)
          | fail)
        have HF : ofL X s = (zBy, 3) := by rw [HOF.out]; simp [hz, hs2]
        have hb5 := blk5 HB0.out (.int .i64 (zBy.total)) (.int .i64 (zBy.live)) (.int .i64 (zBy.tombs)) (.int .i64 (zBy.dead)) (.int .i64 (zBy.last))
        obtain ⟨d4, _⟩ := cellsOf hb5
        refine retM0 (v := .tuple #[byV (zBy), .int .i64 3]) ?_ rfl ⟨by rw [HF], Gr.cell5 (HG0.out.1) HG0.out.2 _ _ _ _ _⟩
        (try simp only [zBy] at d4)
        simp [results, Tryz.results114, go_sem, d4, byV, zBy]
      · go_wp2_with fail
        rw [← hw0, ← hb]
        obtain ⟨c4, f4⟩ := cellsOf HB0.out
        clear hw0 hb
        go_wp2_with (first
          | (go_at_call 105; refine (HSL.out _ HG0.out.1).mono ?_; rintro e w1 ⟨rfl, rfl⟩)
          | (go_at_call 157; refine (of_any (H.out.gr HG0.out.1) s).mono ?_; rintro e w1 ⟨rfl, hg⟩; simp only [byV]; have HG1 := Lib.hid hg; have e4 := (cellsOf (hg.blk HB0.out)).1; have g4 := (cellsOf (hg.blk HB0.out)).2; clear hg)
          | fail)
        have HF : ofL X s = (byOf X s, 0) := by rw [HOF.out]; simp [hz, hs, hs2]
        have hb5 := blk5 (HG1.out.blk HB0.out) (.int .i64 ((byOf X s).total)) (.int .i64 ((byOf X s).live)) (.int .i64 ((byOf X s).tombs)) (.int .i64 ((byOf X s).dead)) (.int .i64 ((byOf X s).last))
        obtain ⟨d4, _⟩ := cellsOf hb5
        refine retM0 (v := .tuple #[byV (byOf X s), .int .i64 0]) ?_ rfl ⟨by rw [HF], Gr.cell5 (HG0.out.1.trans HG1.out) HG0.out.2 _ _ _ _ _⟩
        (try simp only [zBy] at d4)
        simp [results, Tryz.results114, go_sem, d4, byV, zBy]
end Go.Proofs.YtmdfickejpeofaaGreat

/- ledger.All: the bytes of all slots. -/
set_option linter.unusedVariables false
set_option linter.unusedSimpArgs false
namespace Go.Proofs.YtmdfickejpeofaaGreat
open Go.RowKit Go.Shelf
attribute [local go_sem] OvM cell_ovm obj_ovm
attribute [local go_sem] Oper.semAt_some

theorem infoBy : (Tryz.prog.info? 161).map (fun i => (i.zero, i.size, i.bytes)) = some (some (.agg #[.int .i64 0, .int .i64 0, .int .i64 0, .int .i64 0, .int .i64 0]), 5, 40) := by kernel_rfl
def cellsBy (b : By) : List Value := [.int .i64 b.total, .int .i64 b.live, .int .i64 b.tombs, .int .i64 b.dead, .int .i64 b.last]
def rowBy (l : List By) : List Value := l.flatMap cellsBy
def allL (X : IX) (n : Nat) : List By := (List.range n).map fun i => byOf X (i : Nat)
theorem allL_succ (X : IX) (n : Nat) : allL X (n + 1) = allL X n ++ [byOf X n] := by simp [allL, List.range_succ]
theorem rowBy_snoc (l : List By) (b : By) : rowBy (l ++ [b]) = rowBy l ++ cellsBy b := by simp [rowBy]
def AllPost (X : IX) (w : World) (e : Ending) (w' : World) : Prop :=
  ∃ v, e = .returned (.tuple #[v, .int .i64 (if X.slots.length = 0 then 1 else 0)]) ∧ Nw w w' 161 5 v X.slots.length (rowBy (allL X X.slots.length)) ∧ Gr w w'
theorem Nw.nil (w : World) (e : TypeId) (K : Nat) : Nw w w e K (.slice none 0 0) 0 [] := ⟨Own.lift (World.ownsRow_nil w w.heap.size e K), fun q hq => by cases hq⟩
end Go.Proofs.YtmdfickejpeofaaGreat
