/- drumlinref17: Check and Room, at any configuration. -/
import Derived.Test.YtemjnppplmankaaGreatBd14
import Derived.Test.YtemjnppplmankaaGreatBd7
import Derived.Test.YtemjnppplmankaaGreatBd16
import Derived.Test.YtemjnppplmankaaGreatBd6
import Derived.Test.YtemjnppplmankaaGreatBd18
import Derived.Test.YtemjnppplmankaaGreatBd12
import Derived.Test.YtemjnppplmankaaGreatBd15
set_option linter.unusedVariables false
set_option linter.unusedSimpArgs false
namespace Go.Proofs.YtemjnppplmankaaGreat
open Go.RowKit
attribute [local go_sem] OvM cell_ovm obj_ovm
attribute [local go_sem] Oper.semAt_some
theorem in17_any (x a b : Int) (w : World) :
    Calls Tryz.prog 83 #[.int .i64 x, .int .i64 a, .int .i64 b] w fun e w' => e = .returned (.bool (inB x a b)) ∧ w = w' := by
  go_enter Tryz.func83, Tryz.ntmps83
  go_wp2
  all_goals
    go_ret
    exact ⟨ret_bool (by rw [Bool.eq_iff_iff]; simp [inB] <;> omega), rfl⟩
theorem cfgOk_in (c : Cfg) : cfgOk c = (inB c.reserve 2 8 && (inB c.slots (c.reserve + 2) 32 && (inB c.key 1 32 && (inB c.value 0 512 && (inB c.size (16 + (16 + c.key + c.value)) 8192 && (inB c.work (2 * (16 + c.key + c.value + 16)) 65536 && inB c.policy 1 2)))))) := by
  unfold cfgOk spans
  simp only [List.all_cons, List.all_nil, Bool.and_true]
  rfl
theorem inB_t {x a b : Int} (h : inB x a b = true) : a ≤ x ∧ x ≤ b := by simpa [inB] using h
set_option maxRecDepth 40000 in
set_option maxHeartbeats 4000000 in
theorem rCheck17 (c : Cfg) (w : World) : Calls Tryz.prog 47 #[cfgV c] w fun e w' => e = .returned (.int .i64 (if cfgOk c = true then 0 else 2)) ∧ Gr w w' := by
  obtain ⟨ok, hok⟩ : ∃ ok, ok = cfgOk c := ⟨_, rfl⟩
  rw [← hok]
  rw [cfgOk_in] at hok
  obtain ⟨r, hr⟩ : ∃ r : Int, r = (if ok = true then 0 else 2) := ⟨_, rfl⟩
  rw [← hr]
  rw [hok] at hr
  clear hok
  obtain ⟨c0, c1, c2, c3, c4, c5, c6⟩ := c
  simp only [cfgV] at hr ⊢
  cases e0 : inB c2 2 8 with
  | false =>
    have E0 := Lib.hid e0
    have HK : Hid (r = 2) := Lib.hid (by rw [hr, E0.out]; rfl)
    clear hr e0
    go_enter Tryz.func47, Tryz.ntmps47
    go_wp2_with (go_at_call 83; refine (in17_any _ _ _ _).mono ?_; rintro e w1 ⟨rfl, rfl⟩; first | rw [E0.out])
    go_ret
    exact ⟨ret_int (HK.out.symm), by (repeat (first | (with_reducible exact Gr.refl _) | assumption | (with_reducible apply Gr.from_drew) | (with_reducible apply Gr.alloc) | (with_reducible apply Gr.drew) | (with_reducible refine Gr.trans ?_ (by assumption)) | (with_reducible refine Gr.setCell ?_ (by omega) _)))⟩
  | true =>
    have E0 := Lib.hid e0
    obtain ⟨b0a, b0b⟩ := inB_t e0
    clear e0
    cases e1 : inB c0 (c2 + 2) 32 with
    | false =>
      have E1 := Lib.hid e1
      have HK : Hid (r = 2) := Lib.hid (by rw [hr, E0.out, E1.out]; rfl)
      clear hr e1
      go_enter Tryz.func47, Tryz.ntmps47
      go_wp2_with (go_at_call 83; refine (in17_any _ _ _ _).mono ?_; rintro e w1 ⟨rfl, rfl⟩; first | rw [E0.out] | rw [E1.out])
      go_ret
      exact ⟨ret_int (HK.out.symm), by (repeat (first | (with_reducible exact Gr.refl _) | assumption | (with_reducible apply Gr.from_drew) | (with_reducible apply Gr.alloc) | (with_reducible apply Gr.drew) | (with_reducible refine Gr.trans ?_ (by assumption)) | (with_reducible refine Gr.setCell ?_ (by omega) _)))⟩
    | true =>
      have E1 := Lib.hid e1
      obtain ⟨b1a, b1b⟩ := inB_t e1
      clear e1
      cases e2 : inB c4 1 32 with
      | false =>
        have E2 := Lib.hid e2
        have HK : Hid (r = 2) := Lib.hid (by rw [hr, E0.out, E1.out, E2.out]; rfl)
        clear hr e2
        go_enter Tryz.func47, Tryz.ntmps47
        go_wp2_with (go_at_call 83; refine (in17_any _ _ _ _).mono ?_; rintro e w1 ⟨rfl, rfl⟩; first | rw [E0.out] | rw [E1.out] | rw [E2.out])
        go_ret
        exact ⟨ret_int (HK.out.symm), by (repeat (first | (with_reducible exact Gr.refl _) | assumption | (with_reducible apply Gr.from_drew) | (with_reducible apply Gr.alloc) | (with_reducible apply Gr.drew) | (with_reducible refine Gr.trans ?_ (by assumption)) | (with_reducible refine Gr.setCell ?_ (by omega) _)))⟩
      | true =>
        have E2 := Lib.hid e2
        obtain ⟨b2a, b2b⟩ := inB_t e2
        clear e2
        cases e3 : inB c5 0 512 with
        | false =>
          have E3 := Lib.hid e3
          have HK : Hid (r = 2) := Lib.hid (by rw [hr, E0.out, E1.out, E2.out, E3.out]; rfl)
          clear hr e3
          go_enter Tryz.func47, Tryz.ntmps47
          go_wp2_with (go_at_call 83; refine (in17_any _ _ _ _).mono ?_; rintro e w1 ⟨rfl, rfl⟩; first | rw [E0.out] | rw [E1.out] | rw [E2.out] | rw [E3.out])
          go_ret
          exact ⟨ret_int (HK.out.symm), by (repeat (first | (with_reducible exact Gr.refl _) | assumption | (with_reducible apply Gr.from_drew) | (with_reducible apply Gr.alloc) | (with_reducible apply Gr.drew) | (with_reducible refine Gr.trans ?_ (by assumption)) | (with_reducible refine Gr.setCell ?_ (by omega) _)))⟩
        | true =>
          have E3 := Lib.hid e3
          obtain ⟨b3a, b3b⟩ := inB_t e3
          clear e3
          cases e4 : inB c1 (16 + (16 + c4 + c5)) 8192 with
          | false =>
            have E4 := Lib.hid e4
            have HK : Hid (r = 2) := Lib.hid (by rw [hr, E0.out, E1.out, E2.out, E3.out, E4.out]; rfl)
            clear hr e4
            go_enter Tryz.func47, Tryz.ntmps47
            go_wp2_with (go_at_call 83; refine (in17_any _ _ _ _).mono ?_; rintro e w1 ⟨rfl, rfl⟩; first | rw [E0.out] | rw [E1.out] | rw [E2.out] | rw [E3.out] | rw [E4.out])
            go_ret
            exact ⟨ret_int (HK.out.symm), by (repeat (first | (with_reducible exact Gr.refl _) | assumption | (with_reducible apply Gr.from_drew) | (with_reducible apply Gr.alloc) | (with_reducible apply Gr.drew) | (with_reducible refine Gr.trans ?_ (by assumption)) | (with_reducible refine Gr.setCell ?_ (by omega) _)))⟩
          | true =>
            have E4 := Lib.hid e4
            obtain ⟨b4a, b4b⟩ := inB_t e4
            clear e4
            cases e5 : inB c3 (2 * (16 + c4 + c5 + 16)) 65536 with
            | false =>
              have E5 := Lib.hid e5
              have HK : Hid (r = 2) := Lib.hid (by rw [hr, E0.out, E1.out, E2.out, E3.out, E4.out, E5.out]; rfl)
              clear hr e5
              go_enter Tryz.func47, Tryz.ntmps47
              go_wp2_with (go_at_call 83; refine (in17_any _ _ _ _).mono ?_; rintro e w1 ⟨rfl, rfl⟩; first | rw [E0.out] | rw [E1.out] | rw [E2.out] | rw [E3.out] | rw [E4.out] | rw [E5.out])
              go_ret
              exact ⟨ret_int (HK.out.symm), by (repeat (first | (with_reducible exact Gr.refl _) | assumption | (with_reducible apply Gr.from_drew) | (with_reducible apply Gr.alloc) | (with_reducible apply Gr.drew) | (with_reducible refine Gr.trans ?_ (by assumption)) | (with_reducible refine Gr.setCell ?_ (by omega) _)))⟩
            | true =>
              have E5 := Lib.hid e5
              obtain ⟨b5a, b5b⟩ := inB_t e5
              clear e5
              cases e6 : inB c6 1 2 with
              | false =>
                have E6 := Lib.hid e6
                have HK : Hid (r = 2) := Lib.hid (by rw [hr, E0.out, E1.out, E2.out, E3.out, E4.out, E5.out, E6.out]; rfl)
                clear hr e6
                go_enter Tryz.func47, Tryz.ntmps47
                go_wp2_with (go_at_call 83; refine (in17_any _ _ _ _).mono ?_; rintro e w1 ⟨rfl, rfl⟩; first | rw [E0.out] | rw [E1.out] | rw [E2.out] | rw [E3.out] | rw [E4.out] | rw [E5.out] | rw [E6.out])
                go_ret
                exact ⟨ret_int (HK.out.symm), by (repeat (first | (with_reducible exact Gr.refl _) | assumption | (with_reducible apply Gr.from_drew) | (with_reducible apply Gr.alloc) | (with_reducible apply Gr.drew) | (with_reducible refine Gr.trans ?_ (by assumption)) | (with_reducible refine Gr.setCell ?_ (by omega) _)))⟩
              | true =>
                have E6 := Lib.hid e6
                obtain ⟨b6a, b6b⟩ := inB_t e6
                clear e6
                have HK : Hid (r = 0) := Lib.hid (by rw [hr, E0.out, E1.out, E2.out, E3.out, E4.out, E5.out, E6.out]; rfl)
                clear hr
                go_enter Tryz.func47, Tryz.ntmps47
                go_wp2_with (go_at_call 83; refine (in17_any _ _ _ _).mono ?_; rintro e w1 ⟨rfl, rfl⟩; first | rw [E0.out] | rw [E1.out] | rw [E2.out] | rw [E3.out] | rw [E4.out] | rw [E5.out] | rw [E6.out])
                go_ret
                exact ⟨ret_int (HK.out.symm), by (repeat (first | (with_reducible exact Gr.refl _) | assumption | (with_reducible apply Gr.from_drew) | (with_reducible apply Gr.alloc) | (with_reducible apply Gr.drew) | (with_reducible refine Gr.trans ?_ (by assumption)) | (with_reducible refine Gr.setCell ?_ (by omega) _)))⟩
set_option maxRecDepth 40000 in
set_option maxHeartbeats 2000000 in
theorem rRoom17 (c : Cfg) (w : World) : Calls Tryz.prog 24 #[cfgV c] w fun e w' => e = .returned (.tuple #[.int .i64 (if cfgOk c = true then c.size - 16 else 0), .int .i64 (if cfgOk c = true then 0 else 2)]) ∧ Gr w w' := by
  have HC := Lib.hid (fun (w : World) => rCheck17 c w)
  cases hok : cfgOk c with
  | false =>
    rw [hok] at HC
    obtain ⟨c0, c1, c2, c3, c4, c5, c6⟩ := c
    simp only [cfgV] at HC ⊢
    clear hok
    go_enter Tryz.func24, Tryz.ntmps24
    go_wp2_with (go_at_call 47; refine Calls.mono (HC.out _) ?_; rintro e w1 ⟨rfl, hg⟩; have HG := Lib.hid (((Gr.refl w).alloc _).trans hg); clear hg)
    go_ret2
    exact ⟨rfl, HG.out⟩
  | true =>
    rw [hok] at HC
    have h := hok
    rw [cfgOk_in] at h
    simp only [Bool.and_eq_true] at h
    obtain ⟨_, _, h3, h4, h5, _⟩ := h
    obtain ⟨a3, b3⟩ := inB_t h3
    obtain ⟨a4, b4⟩ := inB_t h4
    obtain ⟨a5, b5⟩ := inB_t h5
    obtain ⟨c0, c1, c2, c3, c4, c5, c6⟩ := c
    simp only [cfgV] at HC a3 b3 a4 b4 a5 b5 ⊢
    clear hok h3 h4 h5
    have HB := Lib.hid (blkNew w (cfgO ⟨c0, c1, c2, c3, c4, c5, c6⟩))
    go_enter Tryz.func24, Tryz.ntmps24
    go_wp2_with (go_at_call 47; refine Calls.mono (HC.out _) ?_; rintro e w1 ⟨rfl, hg⟩; have HG := Lib.hid (((Gr.refl w).alloc _).trans hg); have d1 := ((cellsOf (hg.blk HB.out)).1 1).trans (show _ = some (Value.int .i64 c1) from rfl); clear hg)
    go_ret2
    exact ⟨rfl, HG.out⟩
end Go.Proofs.YtemjnppplmankaaGreat

/- drumlinref21's index in plain Lean: what Add says is what the program's index says. No walk. -/
set_option linter.unusedVariables false
set_option linter.unusedSimpArgs false
namespace Go.Proofs.YtemjnppplmankaaGreat

def rBad (e o : En) : Bool := decide (o.seq = e.seq ∧ o.key = e.key ∧ (o.del ≠ e.del ∨ o.size ≠ e.size))
def rHav (e o : En) : Bool := decide (o.slot = e.slot ∧ ((o.seq = e.seq ∧ o.key = e.key) ∨ (o.off < e.off + e.size ∧ e.off < o.off + o.size)))
/-- What Add says of an index with these entries. -/
def rAddC (N : Int) (all : List En) (e : En) : Int := if e.slot < 0 ∨ N ≤ e.slot then 3 else if validE e = false then 2 else if all.any (rBad e) = true then 2 else if all.any (rHav e) = true then 6 else 0
def rAddL (N : Int) (all : List En) (e : En) : List En := if rAddC N all e = 0 then all ++ [e] else all
section
variable {X : IX} {all : List En} {e : En} {N : Int}
theorem clash_iff {i : Int} {s : List En} (hs : SlotOk i s) (he : 0 < e.size) : clash s e = true ↔ ∃ o ∈ s, o.off < e.off + e.size ∧ e.off < o.off + o.size := by
  constructor
  · intro h
    refine Classical.byContradiction (fun hn => ?_)
    have hno : ∀ o ∈ s, ¬ (o.off < e.off + e.size ∧ e.off < o.off + o.size) := fun o ho hh => hn ⟨o, ho, hh⟩
    have hz : ∀ o ∈ s, 16 ≤ o.size := fun o ho => by have := (valid_iff o).1 (hs.e o ho).2; omega
    unfold clash at h
    rw [Bool.or_eq_true] at h
    rcases h with h | h
    · cases hg : s[cnt (offP e.off) s]? with
      | none => rw [hg] at h; cases h
      | some o =>
        rw [hg] at h
        have h1 := cnt_at _ _ o hg
        have hm := List.mem_of_getElem? hg
        have h2 := hno o hm
        have h3 := hz o hm
        simp only [offP, decide_eq_false_iff_not] at h1
        simp only [Bool.or_eq_true, decide_eq_true_eq] at h
        omega
    · rw [Bool.and_eq_true] at h
      obtain ⟨h0, h⟩ := h
      have h0 := of_decide_eq_true h0
      cases hg : s[cnt (offP e.off) s - 1]? with
      | none => rw [hg] at h; cases h
      | some o =>
        rw [hg] at h
        have h1 := cnt_lo _ _ _ o (show cnt (offP e.off) s - 1 < cnt (offP e.off) s by omega) hg
        have hm := List.mem_of_getElem? hg
        have h2 := hno o hm
        simp only [offP, decide_eq_true_eq] at h1
        simp only [decide_eq_true_eq] at h
        omega
  · rintro ⟨o, ho, h1, h2⟩
    cases hc : clash s e with
    | true => rfl
    | false =>
      have h3 := clash_lo hs hc o ho
      have h4 := clash_hi hs hc o ho
      unfold offP at h3 h4
      by_cases h5 : o.off < e.off
      · have := h3 (decide_eq_true h5); omega
      · have := h4 (decide_eq_false h5); omega
theorem rAddC_eq (h : X.Wf) (hl : (X.slots.length : Int) = N) (hN : 1 ≤ N) (hp : all.Perm X.ents) (e : En) : rAddC N all e = addE X e := by
  have hne : X.slots ≠ [] := fun h0 => by rw [h0] at hl; simp at hl; omega
  unfold rAddC addE
  rw [if_neg hne]
  by_cases h1 : e.slot < 0 ∨ N ≤ e.slot
  · rw [if_pos h1, if_pos (by unfold IX.has; exact decide_eq_false (by omega))]
  · have hh : X.has e.slot = true := by unfold IX.has; exact decide_eq_true (by omega)
    rw [if_neg h1, if_neg (show ¬ X.has e.slot = false by rw [hh]; decide)]
    cases hv : validE e with
    | false => rw [if_pos rfl, if_pos rfl]
    | true =>
      have hz : 0 < e.size := by have := (valid_iff e).1 hv; omega
      rw [if_neg (show ¬ true = false by decide), if_neg (show ¬ true = false by decide)]
      have e1 : all.any (rBad e) = (X.of e.key).any (badE e) := by
        rw [Bool.eq_iff_iff, List.any_eq_true, List.any_eq_true]
        unfold rBad badE
        constructor
        · rintro ⟨o, ho, h2⟩
          obtain ⟨h3, h4, h5⟩ := of_decide_eq_true h2
          refine ⟨o, (h.of_mem _ _).2 ⟨(hp.mem_iff).1 ho, h4⟩, decide_eq_true ⟨h3, fun h6 => ?_⟩⟩
          have := congrArg En.del h6
          have := congrArg En.size h6
          simp only at *
          rcases h5 with h5 | h5 <;> exact h5 (by assumption)
        · rintro ⟨o, ho, h2⟩
          obtain ⟨h3, h5⟩ := of_decide_eq_true h2
          obtain ⟨h6, h4⟩ := (h.of_mem _ _).1 ho
          refine ⟨o, (hp.mem_iff).2 h6, decide_eq_true ⟨h3, h4, ?_⟩⟩
          by_cases h7 : o.del = e.del
          · by_cases h8 : o.size = e.size
            · exact absurd (show ({ o with slot := e.slot, off := e.off } : En) = e from En.ext' h3 h4 h7 rfl rfl h8) h5
            · exact .inr h8
          · exact .inl h7
      have e2 : all.any (rHav e) = ((X.of e.key).any (sameE e) || clash (X.slot e.slot) e) := by
        rw [Bool.eq_iff_iff, Bool.or_eq_true, List.any_eq_true, List.any_eq_true, clash_iff (h.slotOk e.slot) hz]
        unfold rHav sameE
        constructor
        · rintro ⟨o, ho, h2⟩
          obtain ⟨h3, h4⟩ := of_decide_eq_true h2
          rcases h4 with ⟨h4, h5⟩ | h4
          · exact .inl ⟨o, (h.of_mem _ _).2 ⟨(hp.mem_iff).1 ho, h5⟩, decide_eq_true ⟨h4, h3⟩⟩
          · exact .inr ⟨o, (h.slot_mem _ _).2 ⟨(hp.mem_iff).1 ho, h3⟩, h4⟩
        · rintro (⟨o, ho, h2⟩ | ⟨o, ho, h2⟩)
          · obtain ⟨h3, h4⟩ := of_decide_eq_true h2
            obtain ⟨h6, h5⟩ := (h.of_mem _ _).1 ho
            exact ⟨o, (hp.mem_iff).2 h6, decide_eq_true ⟨h4, .inl ⟨h3, h5⟩⟩⟩
          · obtain ⟨h6, h5⟩ := (h.slot_mem _ _).1 ho
            exact ⟨o, (hp.mem_iff).2 h6, decide_eq_true ⟨h5, .inr h2⟩⟩
      rw [e1, e2]
end
/-- Where the loop of Add stands behind some entries. -/
theorem rany_snoc {p : En → Bool} {l : List En} {i : Nat} {o : En} (h : l[i]? = some o) : (l.take (i + 1)).any p = ((l.take i).any p || p o) := by
  rw [List.take_add_one, h, List.any_append]
  simp
theorem rany_take {p : En → Bool} {l : List En} {i : Nat} (h : (l.take i).any p = true) : l.any p = true := by
  obtain ⟨o, ho, hp⟩ := List.any_eq_true.1 h
  exact List.any_eq_true.2 ⟨o, List.mem_of_mem_take ho, hp⟩
end Go.Proofs.YtemjnppplmankaaGreat

/- drumlinref21's Of and Keys in plain Lean: again and again the best of what is left. No walk. -/
set_option linter.unusedVariables false
set_option linter.unusedSimpArgs false
namespace Go.Proofs.YtemjnppplmankaaGreat

/-- The best of what is left is the head of the order. -/
theorem sel_head {D left : List En} (hp : D.Pairwise (fun a b => ltE a b = true)) (hperm : left.Perm D) {bi : Nat} {x : En} (hx : left[bi]? = some x) (hmin : ∀ y ∈ left, ltE y x = false) : ∃ D', D = x :: D' ∧ (left.eraseIdx bi).Perm D' := by
  obtain ⟨hlt, rfl⟩ := List.getElem?_eq_some_iff.1 hx
  have hxm : left[bi] ∈ left := List.getElem_mem hlt
  cases D with
  | nil => have := hperm.mem_iff.1 hxm; cases this
  | cons y t =>
    have hy : y ∈ left := hperm.mem_iff.2 (List.mem_cons_self ..)
    have e : y = left[bi] := by
      rcases List.mem_cons.1 (hperm.mem_iff.1 hxm) with h | h
      · exact h.symm
      · have h1 := (List.pairwise_cons.1 hp).1 _ h
        rw [hmin y hy] at h1
        cases h1
    subst e
    exact ⟨t, rfl, ((erase_perm hlt).trans hperm).cons_inv⟩
def keyF (k : ByteArray) (o : En) : Bool := decide (o.key = k)
theorem of_left {X : IX} {all : List En} (h : X.Wf) (hp : all.Perm X.ents) (k : ByteArray) : (all.filter (keyF k)).Perm (X.of k) :=
  (hp.filter _).trans (of_perm h k).symm
/-- Where the search for the best stands. -/
def selI (left : List En) (i bi : Nat) : Prop := ∃ x, left[bi]? = some x ∧ ∀ j y, j < i → left[j]? = some y → ltE y x = false
theorem selI_one {left : List En} (h : 0 < left.length) : selI left 1 0 := by
  refine ⟨left[0], List.getElem?_eq_getElem h, fun j y hj hy => ?_⟩
  obtain rfl : j = 0 := by omega
  rw [List.getElem?_eq_getElem h] at hy
  rw [← Option.some.inj hy]
  exact ltE_irr _
theorem selI_no {left : List En} {i bi : Nat} {x y : En} (h : selI left i bi) (hx : left[bi]? = some x) (hy : left[i]? = some y) (hl : ltE y x = false) : selI left (i + 1) bi := by
  obtain ⟨x', hx', h⟩ := h
  rw [hx] at hx'
  obtain rfl := Option.some.inj hx'
  refine ⟨x, hx, fun j z hj hz => ?_⟩
  by_cases hji : j < i
  · exact h j z hji hz
  · obtain rfl : j = i := by omega
    rw [hy] at hz
    rw [← Option.some.inj hz]
    exact hl
theorem selI_yes {left : List En} {i bi : Nat} {x y : En} (h : selI left i bi) (hx : left[bi]? = some x) (hy : left[i]? = some y) (hl : ltE y x = true) : selI left (i + 1) i := by
  obtain ⟨x', hx', h⟩ := h
  rw [hx] at hx'
  obtain rfl := Option.some.inj hx'
  refine ⟨y, hy, fun j z hj hz => ?_⟩
  by_cases hji : j < i
  · cases hc : ltE z y with
    | false => rfl
    | true => rw [← h j z hji hz]; exact (ltE_trn hc hl).symm
  · obtain rfl : j = i := by omega
    rw [hy] at hz
    rw [← Option.some.inj hz]
    exact ltE_irr _
theorem selI_end {left : List En} {bi : Nat} (h : selI left left.length bi) : ∃ x, left[bi]? = some x ∧ ∀ y ∈ left, ltE y x = false := by
  obtain ⟨x, hx, h⟩ := h
  refine ⟨x, hx, fun y hy => ?_⟩
  obtain ⟨j, hj⟩ := List.mem_iff_getElem?.1 hy
  exact h j y (List.getElem?_eq_some_iff.1 hj).1 hj
end Go.Proofs.YtemjnppplmankaaGreat

/- drumlinref05.Check and the small functions of drumlinref21: the walks. -/
set_option linter.unusedVariables false
set_option linter.unusedSimpArgs false
namespace Go.Proofs.YtemjnppplmankaaGreat
open Go.RowKit Go.Shelf
attribute [local go_sem] OvM cell_ovm obj_ovm

theorem keyC_mem (c : UInt8) : keyC c = decide (c ∈ lettersL) := by
  have h : ∀ n : Fin 256, keyC (UInt8.ofNat n.val) = decide (UInt8.ofNat n.val ∈ lettersL) := by decide +kernel
  have := h ⟨c.toNat, c.toNat_lt⟩
  simpa using this
set_option maxRecDepth 40000 in
theorem letters5 (w : World) : Calls Tryz.prog 160 #[] w fun e w' => e = .returned (.string ⟨lettersL.toArray⟩) ∧ w = w' := by
  go_enter Tryz.func160, Tryz.ntmps160
  go_wp2
  go_ret
  exact ⟨rfl, rfl⟩
set_option maxRecDepth 40000 in
set_option maxHeartbeats 4000000 in
theorem place5 (c : UInt8) (w : World) : Calls Tryz.prog 152 #[.int .u8 c.toNat] w fun e w' => ∃ r : Int, e = .returned (.int .i64 r) ∧ decide (r < 0) = !keyC c ∧ w = w' := by
  obtain ⟨sB, hsB⟩ : ∃ s : ByteArray, s = ⟨lettersL.toArray⟩ := ⟨_, rfl⟩
  have HL : Hid (∀ w, Calls Tryz.prog 160 #[] w fun e w' => e = .returned (.string sB) ∧ w = w') := Lib.hid (fun w => by rw [hsB]; exact letters5 w)
  have hz : sB.size = 39 := by rw [hsB]; rfl
  go_enter Tryz.func152, Tryz.ntmps152
  go_wp2_with fail
  go_loopw [3] (fun t3 wx => ∃ i : Nat, i ≤ 39 ∧ t3 = .int .i64 i ∧ (∀ j, j < i → lettersL[j]? ≠ some c) ∧ w = wx) (fun t3 _ => 39 - (intOf t3).toNat)
  case atStart => exact ⟨0, by omega, rfl, fun j hj => by omega, rfl⟩
  case round =>
    obtain ⟨i, hi, rfl, hj, rfl⟩ := hrel
    go_wp2_with (go_at_call 160; refine (HL.out _).mono ?_; rintro e w1 ⟨rfl, rfl⟩)
    · rename_i h1 _ _ h2
      have h3 : ((lettersL[i]'h1).toNat : Int) = c.toNat := beq_iff_eq.1 h2
      have h4 : lettersL[i]'h1 = c := UInt8.toNat_inj.1 (by omega)
      go_ret
      have hk : keyC c = true := by rw [keyC_mem, ← h4]; exact decide_eq_true (List.getElem_mem h1)
      exact ⟨i, rfl, by rw [hk]; exact decide_eq_false (by omega), rfl⟩
    · rename_i h1 h2
      have h1' : i < 39 := h1
      refine ⟨⟨i + 1, by omega, by simp, fun j hji hc => ?_, trivial⟩, by simp [intOf]; omega⟩
      by_cases hji' : j < i
      · exact hj j hji' hc
      · obtain rfl : j = i := by omega
        rw [List.getElem?_eq_getElem h1] at hc
        have h4 := Option.some.inj hc
        exact beq_eq_false_iff_ne.1 h2 (by show ((lettersL[j]'h1).toNat : Int) = c.toNat; rw [h4])
    · rename_i h1
      have h1' : ¬ i < 39 := h1
      go_ret
      refine ⟨-1, rfl, ?_, rfl⟩
      have hk : keyC c = false := by
        rw [keyC_mem]
        refine decide_eq_false (fun hm => ?_)
        obtain ⟨j, hj1, hj2⟩ := List.mem_iff_getElem.1 hm
        have hj3 : j < 39 := hj1
        exact hj j (by omega) (by rw [List.getElem?_eq_getElem hj1, hj2])
      rw [hk]
      rfl
end Go.Proofs.YtemjnppplmankaaGreat

/- drumlinref21's index: the walks of New, Slots, Valid. -/
set_option linter.unusedVariables false
set_option linter.unusedSimpArgs false
namespace Go.Proofs.YtemjnppplmankaaGreat
open Go.RowKit Go.Shelf
attribute [local go_sem] OvM cell_ovm obj_ovm
attribute [local go_sem] Oper.semAt_some

set_option maxRecDepth 40000 in
set_option maxHeartbeats 4000000 in
theorem Check5 (k : ByteArray) (hm : k.size ≤ 140737488351232) (w : World) : Calls Tryz.prog 136 #[.string k] w fun e w' => e = .returned (.int .i64 (keyChk k)) ∧ w = w' := by
  have hl : k.toList.length = k.size := by rw [toList_data, size_data]
  by_cases h0 : k.size = 0
  · have e0 : k.toList = [] := List.eq_nil_of_length_eq_zero (by omega)
    have HR : Hid (keyChk k = 2) := Lib.hid (by rw [keyChk_ok (k := k) (fun j hj => by omega), if_pos h0])
    clear hl h0
    go_enter Tryz.func136, Tryz.ntmps136
    go_wp2
    go_ret
    exact ⟨ret_int HR.out.symm, rfl⟩
  · have e0 : (k.toList == []) = false := by cases hk : k.toList with | nil => rw [hk] at hl; simp at hl; omega | cons a b => rfl
    have e1 : k.toList.isEmpty = false := by cases hk : k.toList with | nil => rw [hk] at e0; cases e0 | cons a b => rfl
    have HBAD := Lib.hid (fun (i : Nat) (hi : i < k.size) (h : keyC (k[i]'hi) = false) => keyChk_bad (k := k) i hi h)
    have HOK := Lib.hid (fun (h : ∀ j (hj : j < k.size), keyC (k[j]'hj) = true) => keyChk_ok (k := k) h)
    go_enter Tryz.func136, Tryz.ntmps136
    go_wp2_with fail
    go_loopw [3] (fun t3 wx => ∃ i : Nat, i ≤ k.size ∧ t3 = .int .i64 i ∧ Hid (∀ j (hj : j < k.size), j < i → keyC (k[j]'hj) = true) ∧ w = wx) (fun t3 _ => k.size - (intOf t3).toNat)
    case atStart => exact ⟨0, by omega, rfl, Lib.hid (fun j hj h => by omega), rfl⟩
    case round =>
      obtain ⟨i, hi, rfl, HJ, rfl⟩ := hrel
      by_cases hlt : i < k.size
      · have hlt' : (i : Int) < k.size := by omega
        have HP := Lib.hid (place5 (k[i]'hlt) w)
        cases hk : keyC (k[i]'hlt) with
        | true =>
          have HK := Lib.hid hk
          clear hk
          go_wp2_with (go_at_call 152; refine Calls.mono HP.out ?_; rintro e w1 ⟨r, rfl, hr, rfl⟩; (have hr0 : ¬ r < 0 := by rw [HK.out] at hr; exact of_decide_eq_false hr); clear hr)
          exact ⟨⟨i + 1, by omega, by simp, Lib.hid (fun j hj h => by
            by_cases hji : j < i
            · exact HJ.out j hj hji
            · obtain rfl : j = i := by omega
              exact HK.out), trivial⟩, by simp [intOf]; omega⟩
        | false =>
          have HK := Lib.hid hk
          clear hk
          go_wp2_with (go_at_call 152; refine Calls.mono HP.out ?_; rintro e w1 ⟨r, rfl, hr, rfl⟩; (have hr0 : r < 0 := by rw [HK.out] at hr; exact of_decide_eq_true hr); clear hr)
          go_ret
          exact ⟨ret_int (HBAD.out i hlt HK.out).symm, rfl⟩
      · have hlt' : ¬ (i : Int) < k.size := by omega
        have HE := Lib.hid (HOK.out (fun j hj => HJ.out j hj (by omega)))
        by_cases h1 : 32 < k.size
        · have h2 : (32 : Int) < k.size := by omega
          have HR : Hid (keyChk k = 12) := Lib.hid (by rw [HE.out, if_neg h0, if_pos h1])
          go_wp2
          go_ret
          exact ⟨ret_int HR.out.symm, rfl⟩
        · have h2 : ¬ (32 : Int) < k.size := by omega
          have HR : Hid (keyChk k = 0) := Lib.hid (by rw [HE.out, if_neg h0, if_neg h1])
          go_wp2
          go_ret
          exact ⟨ret_int HR.out.symm, rfl⟩

abbrev rmO (N : Int) (v : Value) : Obj := .cells #[.int .i64 N, v] 87
set_option maxRecDepth 40000 in
theorem rvalid {w : World} {rb : Nat} {N : Int} {v : Value} (h : w.heap[rb]? = some (rmO N v)) (hN : 0 < N) : Calls Tryz.prog 35 #[.pointer (some ⟨rb, 0, none⟩)] w fun e w' => e = .returned (.bool true) ∧ w = w' := by
  have c0 := ((cellsOf h).1 0).trans (show _ = some (Value.int .i64 N) from rfl)
  clear h
  go_enter Tryz.func35, Tryz.ntmps35
  go_wp2
  go_ret
  exact ⟨rfl, rfl⟩
set_option maxRecDepth 40000 in
theorem rSlots {w : World} {rb : Nat} {N : Int} {v : Value} (h : w.heap[rb]? = some (rmO N v)) (hN : 0 < N) : Calls Tryz.prog 23 #[.pointer (some ⟨rb, 0, none⟩)] w fun e w' => e = .returned (.int .i64 N) ∧ w = w' := by
  have c0 := ((cellsOf h).1 0).trans (show _ = some (Value.int .i64 N) from rfl)
  have HV := Lib.hid (rvalid h hN)
  clear h
  go_enter Tryz.func23, Tryz.ntmps23
  go_wp2_with (go_at_call 35; refine Calls.mono HV.out ?_; rintro e w1 ⟨rfl, rfl⟩)
  go_ret
  exact ⟨rfl, rfl⟩
set_option maxRecDepth 40000 in
theorem rNew (n : Nat) (h1 : 1 ≤ n) (h2 : n ≤ 32) (w : World) : Calls Tryz.prog 19 #[.int .i64 n] w fun e w' => e = .returned (.tuple #[.pointer (some ⟨w.heap.size, 0, none⟩), .int .i64 0]) ∧ w' = w.alloc (rmO n (.slice none 0 0)) := by
  have h1' : ¬ (n : Int) < 1 := by omega
  have h2' : ¬ (32 : Int) < (n : Int) := by omega
  go_enter Tryz.func19, Tryz.ntmps19
  go_wp2
  go_ret2
  exact ⟨rfl, rfl⟩
set_option maxRecDepth 40000 in
set_option maxHeartbeats 4000000 in
theorem rValid (e : En) (hk : e.key.size ≤ 140737488351232) (w : World) : Calls Tryz.prog 112 #[enV e] w fun r w' => r = .returned (.bool (validE e)) ∧ Gr w w' := by
  have HV := Lib.hid (valid_iff e)
  obtain ⟨vb, hvb⟩ : ∃ vb, vb = validE e := ⟨_, rfl⟩
  rw [← hvb] at HV ⊢
  clear hvb
  obtain ⟨a1, a2, a3, a4, a5, a6⟩ := e
  simp only at hk
  have HC : Hid (∀ w, Calls Tryz.prog 136 #[.string a2] w fun e w' => e = .returned (.int .i64 (keyChk a2)) ∧ w = w') := Lib.hid (fun w => Check5 a2 (by omega) w)
  simp only [enV]
  go_enter Tryz.func112, Tryz.ntmps112
  go_wp2_with (go_at_call 136; refine (HC.out _).mono ?_; rintro e w1 ⟨rfl, rfl⟩)
  all_goals
    go_ret
    refine ⟨ret_bool ?_, (Gr.refl w).alloc _⟩
    rw [Bool.eq_iff_iff, HV.out]
    clear HV HC
    first
    | (simp only [Bool.false_eq_true, false_iff]; rintro ⟨q1, q2, q3, q4, q5, q6, q7, q8⟩; first | omega | (rcases q6 with q6 | q6 <;> simp_all <;> omega) | simp_all)
    | (simp only [decide_eq_true_eq]; constructor <;> intro hh <;> first | omega | (simp_all; done) | (simp_all; omega))
end Go.Proofs.YtemjnppplmankaaGreat

/- An entry of a row, read cell by cell. -/
set_option linter.unusedVariables false
set_option linter.unusedSimpArgs false
namespace Go.Proofs.YtemjnppplmankaaGreat
open Go.RowKit

theorem ent6g {w : World} {g c i : Nat} {l : List En} {x : En} (h : Own w 89 6 (.slice (some ⟨g, 0, none⟩) l.length c) l.length (rowE l)) (hx : l[i]? = some x) :
    g < w.heap.size ∧ w.cell? ⟨g, i * 6, none⟩ = some (.int .i64 x.seq) ∧ w.cell? ⟨g, i * 6 + 1, none⟩ = some (.string x.key) ∧ w.cell? ⟨g, i * 6 + 2, none⟩ = some (.bool x.del) ∧ w.cell? ⟨g, i * 6 + 3, none⟩ = some (.int .i64 x.slot) ∧
    w.cell? ⟨g, i * 6 + 4, none⟩ = some (.int .i64 x.off) ∧ w.cell? ⟨g, i * 6 + 5, none⟩ = some (.int .i64 x.size) := by
  obtain ⟨_, _, hve, _, _, hat⟩ := ownE_at h
  injection hve with g1 g2 g3
  subst g1
  obtain ⟨g', hg, hl, _, hc⟩ := hat i _ hx
  simp only [Option.some.injEq, Addr.mk.injEq, and_true] at hg
  subst hg
  have y0 := hc 0 _ rfl
  simp only [Nat.add_zero] at y0
  exact ⟨hl, y0, hc 1 _ rfl, hc 2 _ rfl, hc 3 _ rfl, hc 4 _ rfl, hc 5 _ rfl⟩
theorem ent6 {w : World} {a : Option Addr} {c i : Nat} {l : List En} {x : En} (h : Own w 89 6 (.slice a l.length c) l.length (rowE l)) (hx : l[i]? = some x) :
    ∃ g, a = some ⟨g, 0, none⟩ ∧ g < w.heap.size ∧ w.cell? ⟨g, i * 6, none⟩ = some (.int .i64 x.seq) ∧ w.cell? ⟨g, i * 6 + 1, none⟩ = some (.string x.key) ∧ w.cell? ⟨g, i * 6 + 2, none⟩ = some (.bool x.del) ∧ w.cell? ⟨g, i * 6 + 3, none⟩ = some (.int .i64 x.slot) ∧
    w.cell? ⟨g, i * 6 + 4, none⟩ = some (.int .i64 x.off) ∧ w.cell? ⟨g, i * 6 + 5, none⟩ = some (.int .i64 x.size) := by
  obtain ⟨_, _, hve, _, _, hat⟩ := ownE_at h
  injection hve with g1 g2 g3
  subst g1
  obtain ⟨g', rfl, _⟩ := hat i _ hx
  exact ⟨g', rfl, ent6g h hx⟩
end Go.Proofs.YtemjnppplmankaaGreat

/- drumlinref21's Of: again and again the best of what is left. -/
set_option linter.unusedVariables false
set_option linter.unusedSimpArgs false
namespace Go.Proofs.YtemjnppplmankaaGreat
open Go.RowKit Go.Shelf
attribute [local go_sem] OvM cell_ovm obj_ovm
attribute [local go_sem] Oper.semAt_some

theorem fil_key {k : ByteArray} {all : List En} {i : Nat} {x : En} (h : all[i]? = some x) : (all.take (i + 1)).filter (keyF k) = (all.take i).filter (keyF k) ++ (if x.key = k then [x] else []) := by
  rw [List.take_add_one, h]
  show ((all.take i) ++ [x]).filter (keyF k) = _
  rw [List.filter_append]
  by_cases e : x.key = k
  · rw [if_pos e]; simp [keyF, e]
  · rw [if_neg e]; simp [keyF, e]
def OfP (X : IX) (k : ByteArray) (w : World) (e : Ending) (w' : World) : Prop := ∃ v, e = .returned v ∧ Nw w w' 89 6 v (X.of k).length (rowE (X.of k)) ∧ Gr w w'
set_option maxRecDepth 40000 in
set_option maxHeartbeats 8000000 in
theorem rOf_any {w : World} {rb : Nat} {N : Int} {v : Value} {all : List En} {X : IX} (h : w.heap[rb]? = some (rmO N v)) (hN : 0 < N) (ho : Own w 89 6 v all.length (rowE all)) (hw : X.Wf) (hp : all.Perm X.ents) (h1000 : all.length ≤ 1000) (k : ByteArray) :
    Calls Tryz.prog 121 #[.pointer (some ⟨rb, 0, none⟩), .string k] w (OfP X k w) := by
  have HB := Lib.hid h
  have HO := Lib.hid ho
  have HV := Lib.hid (fun W (g : Gr w W) => rvalid (g.blk h) hN)
  have HL := Lib.hid (of_left hw hp k)
  have HPW := Lib.hid (hw.ofPair k)
  have HOL := Lib.hid (hw.of_le k)
  obtain ⟨a, c, rfl, hc, hm, _⟩ := ownE_at ho
  unfold maxLen at hm
  obtain ⟨i0, hi, hz0, hz1, hz2⟩ := info_parts infoIten
  clear h ho hw hp
  go_enter Tryz.func121, Tryz.ntmps121
  go_wp2_with (go_at_call 35; refine Calls.mono (HV.out _ (Gr.refl _)) ?_; rintro e w1 ⟨rfl, rfl⟩)
  go_loopw [6, 7] (fun t6 t7 wx => ∃ (i : Nat) (v : Value), i ≤ all.length ∧ v = t6 ∧ t7 = .int .i64 i ∧ Hid (Nw w wx 89 6 v ((all.take i).filter (keyF k)).length (rowE ((all.take i).filter (keyF k))) ∧ Gr w wx)) (fun _ t7 _ => all.length - (intOf t7).toNat)
  case atStart => exact ⟨0, _, by omega, rfl, rfl, Lib.hid ⟨Nw.nil w _ _, Gr.refl _⟩⟩
  case round =>
    obtain ⟨i, v, hil, rfl, rfl, HR⟩ := hrel
    have c1 := ((cellsOf (HR.out.2.blk HB.out)).1 1).trans (show _ = some (Value.slice a all.length c) from rfl)
    by_cases hlt : i < all.length
    · have hlt' : (i : Int) < all.length := by omega
      obtain ⟨x, hx⟩ : ∃ x, all[i]? = some x := ⟨_, List.getElem?_eq_getElem hlt⟩
      obtain ⟨g0, rfl, hg0, y0, y1, y2, y3, y4, y5⟩ := ent6 (HO.out.gr HR.out.2) hx
      have HTK := Lib.hid (fil_key (k := k) hx)
      have hfl : ((all.take i).filter (keyF k)).length ≤ i := by
        have h1 := List.length_filter_le (keyF k) (all.take i)
        have h2 : (all.take i).length ≤ i := by rw [List.length_take]; omega
        omega
      generalize (all.take i).filter (keyF k) = fl at *
      clear hx
      obtain ⟨x0, x1, x2, x3, x4, x5⟩ := x
      simp only at y0 y1 y2 y3 y4 y5 HTK
      by_cases hk : x1 = k
      · subst hk
        go_wp2_with (first
          | (at_builtin; go_must (refine wpList_appv _ rfl (.tmp 31) (.tmp 39) 37 rfl 89 i0 _ 6 56 Tryz.underlying37 hi hz0 hz1 hz2 rfl (by decide) v fl.length (rowE fl) rfl (HR.out.1.own.gr (by (repeat (first | (with_reducible exact Gr.refl _) | assumption | (with_reducible apply Gr.from_drew) | (with_reducible apply Gr.alloc) | (with_reducible apply Gr.drew) | (with_reducible refine Gr.trans ?_ (by assumption)) | (with_reducible refine Gr.setCell ?_ (by omega) _))))) (some ⟨wr.heap.size, 0, none⟩) 1 1 (enC ⟨x0, x1, x2, x3, x4, x5⟩) rfl (src_newK wr (enC ⟨x0, x1, x2, x3, x4, x5⟩) _ 6 rfl (enC_one _)) (by simp only [maxLen]; omega) (by omega) ?_); intro v3 w6 hA; have N6 := Lib.hid (hA.nw (HR.out.1.gr ((Gr.refl wr).alloc _)) (by have := HR.out.2.sz; simp; omega)); have HG6 := Lib.hid (hA.gw (HR.out.1.gr ((Gr.refl wr).alloc _)) (HR.out.2.alloc _)); clear hA)
          | fail)
        go_roundw
        case rel => exact ⟨i + 1, v3, by omega, rfl, by go_num, Lib.hid ⟨by rw [HTK.out, if_pos rfl, List.length_append, rowE_snoc]; exact N6.out, HG6.out⟩⟩
        case measure => simp [intOf]; omega
      · have hkb : (x1.toList == k.toList) = false := (str_beq x1 k).trans (decide_eq_false hk)
        go_wp2_with fail
        go_roundw
        case rel => exact ⟨i + 1, v, by omega, rfl, by go_num, Lib.hid ⟨by rw [HTK.out, if_neg hk, List.append_nil]; exact HR.out.1, HR.out.2⟩⟩
        case measure => simp [intOf]; omega
    · have hlt' : ¬ (i : Int) < all.length := by omega
      have hii : i = all.length := by omega
      have HN0 := Lib.hid HR.out.1
      rw [hii, List.take_length] at HN0
      have HG0 := Lib.hid HR.out.2
      clear HR hii
      have hll : (all.filter (keyF k)).length ≤ 1000 := by
        have := List.length_filter_le (keyF k) all
        omega
      generalize all.filter (keyF k) = L0 at *
      go_wp2_with fail
      go_loopw [5, 6] (fun t5 t6 wx => ∃ (out left : List En) (v5 v6 : Value), v5 = t5 ∧ v6 = t6 ∧ Hid (Nw w wx 89 6 v5 out.length (rowE out) ∧ Nw w wx 89 6 v6 left.length (rowE left) ∧ Gr w wx ∧ (∀ q, v5.ownBlock = some q → v6.ownBlock ≠ some q) ∧ ∃ D, X.of k = out ++ D ∧ left.Perm D ∧ left.length ≤ 1000)) (fun _ t6 _ => match t6 with | .slice _ m _ => m | _ => 0)
      case atStart => exact ⟨[], L0, _, _, rfl, rfl, Lib.hid ⟨(Nw.nil w _ _).gr HG0.out, HN0.out, HG0.out, (fun q h => by cases h), X.of k, rfl, HL.out, hll⟩⟩
      case round =>
        obtain ⟨out, left, v5, v6, rfl, rfl, HI⟩ := hrel
        obtain ⟨a6, c6, rfl, hc6, hm6, _⟩ := ownE_at HI.out.2.1.own
        have hm62 := hm6
        unfold maxLen at hm62
        obtain ⟨D, hD1, hD2, hD3⟩ := HI.out.2.2.2.2
        have HD := Lib.hid (And.intro hD1 (And.intro hD2 hD3))
        clear hD1 hD2
        by_cases hl0 : left.length = 0
        · have hl : left = [] := List.eq_nil_of_length_eq_zero hl0
          have hDn : D = [] := by
            have h := HD.out.2.1.length_eq
            rw [hl0] at h
            exact List.eq_nil_of_length_eq_zero h.symm
          have HE : Hid (OfP X k w (.returned v5) wr) := Lib.hid ⟨v5, rfl, by rw [HD.out.1, hDn, List.append_nil]; exact HI.out.1, HI.out.2.2.1⟩
          have hz : ¬ (0 : Int) < left.length := by omega
          generalize OfP X k w = Q at *
          clear hl hDn
          go_wp2_with fail
          exact HE.out
        · have hz : (0 : Int) < left.length := by omega
          go_wp2_with fail
          generalize decide (0 < left.length) = B43
          go_loopw [8, 9] (fun t8 t9 wx => ∃ i bi : Nat, 1 ≤ i ∧ i ≤ left.length ∧ bi < left.length ∧ t8 = .int .i64 bi ∧ t9 = .int .i64 i ∧ Hid (selI left i bi ∧ Gr wr wx)) (fun _ t9 _ => left.length - (intOf t9).toNat)
          case atStart => exact ⟨1, 0, by omega, by omega, by omega, by go_num, by go_num, Lib.hid ⟨selI_one (by omega), Gr.refl _⟩⟩
          case round =>
            clear hz
            obtain ⟨i2, bi, hi1, hi2, hbi, rfl, rfl, HS⟩ := hrel
            by_cases hlt2 : i2 < left.length
            · have hlt2' : (i2 : Int) < left.length := by omega
              have hbi' : (bi : Int) < left.length := by omega
              obtain ⟨y, hy⟩ : ∃ y, left[i2]? = some y := ⟨_, List.getElem?_eq_getElem hlt2⟩
              obtain ⟨x, hx⟩ : ∃ x, left[bi]? = some x := ⟨_, List.getElem?_eq_getElem hbi⟩
              obtain ⟨g1, rfl, hg1, y0, _, _, y3, _, _⟩ := ent6 (HI.out.2.1.own.gr HS.out.2) hy
              obtain ⟨_, x0, _, _, x3, _, _⟩ := ent6g (HI.out.2.1.own.gr HS.out.2) hx
              have HNO := Lib.hid (fun h => selI_no HS.out.1 hx hy h)
              have HYE := Lib.hid (fun h => selI_yes HS.out.1 hx hy h)
              have HLT : Hid (ltE y x = (decide (x.seq < y.seq) || (decide (y.seq = x.seq) && decide (y.slot < x.slot)))) := Lib.hid (by
                unfold ltE
                rw [Bool.eq_iff_iff]
                simp)
              clear hx hy
              generalize y.seq = ys at *
              generalize x.seq = xs at *
              generalize y.slot = yl at *
              generalize x.slot = xl at *
              by_cases e1 : xs < ys
              · have d1 : decide (xs < ys) = true := decide_eq_true e1
                have HN2 := Lib.hid (HYE.out (by rw [HLT.out, d1]; rfl))
                go_wp2_with fail
                refine wp_region_flo (fun _ => False) [] [] (by kernel_rfl) (by kernel_rfl) (fun _ h => h.elim) ?_
                (try simp only [List.append_eq, List.cons_append, List.nil_append])
                refine flo_seg 37 rfl ?_
                simp only [List.take_succ_cons, List.take_zero, List.drop_succ_cons, List.drop_zero]
                repeat (go_big_quiet_step (fail))
                refine wpQuiet_nil ?_
                refine flo_nil ?_
                go_wp2_with fail
                go_roundw
                case rel => exact ⟨i2 + 1, i2, by omega, by omega, by omega, rfl, by go_num, Lib.hid ⟨HN2.out, HS.out.2.trans (Gr.refl wr).drew⟩⟩
                case measure => simp [intOf]; omega
              · have d1 : decide (xs < ys) = false := decide_eq_false e1
                by_cases e2 : ys = xs
                · by_cases e3 : yl < xl
                  · have d2 : (ys == xs) = true := beq_iff_eq.2 e2
                    have HN2 := Lib.hid (HYE.out (by rw [HLT.out, d1, decide_eq_true e2, decide_eq_true e3]; rfl))
                    go_wp2_with fail
                    refine wp_region_flo (fun _ => False) [] [] (by kernel_rfl) (by kernel_rfl) (fun _ h => h.elim) ?_
                    (try simp only [List.append_eq, List.cons_append, List.nil_append])
                    refine flo_seg 37 rfl ?_
                    simp only [List.take_succ_cons, List.take_zero, List.drop_succ_cons, List.drop_zero]
                    repeat (go_big_quiet_step (fail))
                    refine wpQuiet_nil ?_
                    refine flo_nil ?_
                    go_wp2_with fail
                    go_roundw
                    case rel => exact ⟨i2 + 1, i2, by omega, by omega, by omega, rfl, by go_num, Lib.hid ⟨HN2.out, HS.out.2.trans (Gr.refl wr).drew⟩⟩
                    case measure => simp [intOf]; omega
                  · have d2 : (ys == xs) = true := beq_iff_eq.2 e2
                    have HN2 := Lib.hid (HNO.out (by rw [HLT.out, d1, decide_eq_true e2, decide_eq_false e3]; rfl))
                    go_wp2_with fail
                    refine wp_region_flo (fun _ => False) [] [] (by kernel_rfl) (by kernel_rfl) (fun _ h => h.elim) ?_
                    (try simp only [List.append_eq, List.cons_append, List.nil_append])
                    refine flo_seg 37 rfl ?_
                    simp only [List.take_succ_cons, List.take_zero, List.drop_succ_cons, List.drop_zero]
                    repeat (go_big_quiet_step (fail))
                    refine wpQuiet_nil ?_
                    refine flo_nil ?_
                    go_wp2_with fail
                    go_roundw
                    case rel => exact ⟨i2 + 1, bi, by omega, by omega, by omega, rfl, by go_num, Lib.hid ⟨HN2.out, HS.out.2.trans (Gr.refl wr).drew⟩⟩
                    case measure => simp [intOf]; omega
                · have d2 : (ys == xs) = false := beq_false_of_ne e2
                  have HN2 := Lib.hid (HNO.out (by rw [HLT.out, d1, decide_eq_false e2]; rfl))
                  go_wp2_with fail
                  refine wp_region_flo (fun _ => False) [] [] (by kernel_rfl) (by kernel_rfl) (fun _ h => h.elim) ?_
                  (try simp only [List.append_eq, List.cons_append, List.nil_append])
                  refine flo_seg 37 rfl ?_
                  simp only [List.take_succ_cons, List.take_zero, List.drop_succ_cons, List.drop_zero]
                  repeat (go_big_quiet_step (fail))
                  refine wpQuiet_nil ?_
                  refine flo_nil ?_
                  go_wp2_with fail
                  go_roundw
                  case rel => exact ⟨i2 + 1, bi, by omega, by omega, by omega, rfl, by go_num, Lib.hid ⟨HN2.out, HS.out.2.trans (Gr.refl wr).drew⟩⟩
                  case measure => simp [intOf]; omega
            · have hlt2' : ¬ (i2 : Int) < left.length := by omega
              obtain rfl : i2 = left.length := by omega
              have hbi' : (bi : Int) < left.length := by omega
              obtain ⟨x, hx, hmin⟩ : ∃ x, left[bi]? = some x ∧ ∀ y ∈ left, ltE y x = false := selI_end HS.out.1
              obtain ⟨D', hDe, hDp⟩ := sel_head (List.pairwise_append.1 (HD.out.1 ▸ HPW.out)).2.1 HD.out.2.1 hx hmin
              have hol : out.length ≤ 1000 := by
                have h1 := congrArg List.length HD.out.1
                have h2 := HL.out.length_eq
                rw [List.length_append] at h1
                omega
              have HDE : Hid (X.of k = (out ++ [x]) ++ D' ∧ (left.eraseIdx bi).Perm D') := Lib.hid ⟨by rw [HD.out.1, hDe, List.append_assoc]; rfl, hDp⟩
              obtain ⟨g1, rfl, hg1, y0, y1, y2, y3, y4, y5⟩ := ent6 (HI.out.2.1.own.gr HS.out.2) hx
              obtain ⟨x0, x1, x2, x3, x4, x5⟩ := x
              simp only at y0 y1 y2 y3 y4 y5
              clear hx hmin hDe hDp
              go_wp2_with (first
                | (at_builtin; go_must (refine wpList_appv _ rfl (.tmp 88) (.tmp 93) 37 rfl 89 i0 _ 6 56 Tryz.underlying37 hi hz0 hz1 hz2 rfl (by decide) v5 out.length (rowE out) rfl ((HI.out.1.own.gr HS.out.2).gr (by (repeat (first | (with_reducible exact Gr.refl _) | assumption | (with_reducible apply Gr.from_drew) | (with_reducible apply Gr.alloc) | (with_reducible apply Gr.drew) | (with_reducible refine Gr.trans ?_ (by assumption)) | (with_reducible refine Gr.setCell ?_ (by omega) _))))) (some ⟨wr.heap.size, 0, none⟩) 1 1 (enC ⟨x0, x1, x2, x3, x4, x5⟩) rfl (src_newK wr (enC ⟨x0, x1, x2, x3, x4, x5⟩) _ 6 rfl (enC_one _)) (by simp only [maxLen]; omega) (by omega) ?_); intro v7 w5 hA; have N5 := Lib.hid (hA.nw ((HI.out.1.gr HS.out.2).gr ((Gr.refl wr).alloc _)) (by have h1 := HI.out.2.2.1.sz; have h2 := HS.out.2.sz; simp; omega)); have HG5 := Lib.hid (hA.gw ((HI.out.1.gr HS.out.2).gr ((Gr.refl wr).alloc _)) ((HI.out.2.2.1.trans HS.out.2).alloc _)); have HL5 := Lib.hid (((HI.out.2.1.gr HS.out.2).gr ((Gr.refl wr).alloc _)).mdh (hA.mdh (S := fun q => v5.ownBlock = some q) (fun g h => h)) (fun q hq hs => HI.out.2.2.2.1 q hs hq)); clear hA)
                | fail)
              have hel : (left.eraseIdx bi).length = bi + (left.length - (bi + 1)) := by rw [List.length_eraseIdx_of_lt hbi]; omega
              have HEL := Lib.hid hel
              obtain ⟨V, hV⟩ : ∃ V, V = Value.slice (some ⟨g1, 0, none⟩) left.length c6 := ⟨_, rfl⟩
              have HVE := Lib.hid hV
              rw [← hV] at HL5 ⊢
              obtain ⟨z1, n1, s1, src1, _⟩ := slice_take Tryz.underlying37 hi hz1 HL5.out.own (rowE_one left) (i := bi) (by omega)
              obtain ⟨z2, n2, s2', src2, _⟩ := slice_drop Tryz.underlying37 hi hz1 HL5.out.own (rowE_one left) (i := bi + 1) (by omega)
              have s2 : ∀ w' : World, (Instr.slice 37 V (some (.int .i64 ((bi : Int) + 1))) none none).run Tryz.prog w' = .ok (.slice z2 (left.length - (bi + 1)) n2) w' := fun w' => by rw [show ((bi : Int) + 1) = ((bi + 1 : Nat) : Int) by omega]; exact s2' w'
              rw [rowE_take] at src1
              rw [rowE_drop] at src2
              have SRC := Lib.hid (And.intro src1 src2)
              clear hel hV src1 src2 s2' y0 y1 y2 y3 y4 y5 hg1
              have hib : (bi : Int) ≤ 1000 := by have := HD.out.2.2; omega
              have hle : left.length ≤ 1000 := HD.out.2.2
              go_wp2_with fail
              refine wp_region_flo (fun _ => False) [] [] (by kernel_rfl) (by kernel_rfl) (fun _ h => h.elim) ?_
              refine flo_eff rfl rfl rfl rfl (fun K hK => ?_)
              go_wp2
              refine ⟨by (first | (refine Gr.mdh ?_ _; (repeat (first | (with_reducible exact Gr.refl _) | assumption | (with_reducible apply Gr.from_drew) | (with_reducible apply Gr.alloc) | (with_reducible apply Gr.drew) | (with_reducible refine Gr.trans ?_ (by assumption)) | (with_reducible refine Gr.setCell ?_ (by omega) _))); done) | (repeat (first | (with_reducible exact Mdh.refl _ _) | (with_reducible refine Mdh.setCell ?_ (by simp) _) | (with_reducible refine Mdh.setNew ?_ (by simp) _) | (with_reducible apply Mdh.alloc) | (with_reducible apply Mdh.from_drew) | (with_reducible apply Mdh.drew) | (with_reducible refine Mdh.gr ?_ (by assumption))))), ?_⟩
              refine flo_seg 3 rfl ?_
              simp only [List.take_succ_cons, List.take_zero, List.drop_succ_cons, List.drop_zero]
              repeat (go_big_quiet_step (fail))
              refine wpQuiet_nil ?_
              refine flo_eff rfl rfl rfl rfl (fun K hK => ?_)
              refine wp_appv _ (.tmp 95) (.tmp 98) 37 rfl 89 i0 _ 6 56 Tryz.underlying37 hi hz0 hz1 hz2 rfl (by decide) (.slice (some ⟨w5.heap.size, 0, none⟩) 0 0) 0 [] rfl ((Nw.made (w0 := w5) (w := w5) (Nat.le_refl _)).own.gr (by (repeat (first | (with_reducible exact Gr.refl _) | assumption | (with_reducible apply Gr.from_drew) | (with_reducible apply Gr.alloc) | (with_reducible apply Gr.drew) | (with_reducible refine Gr.trans ?_ (by assumption)) | (with_reducible refine Gr.setCell ?_ (by omega) _))))) z1 bi _ (rowE (left.take bi)) rfl (SRC.out.1.gr (by (repeat (first | (with_reducible exact Gr.refl _) | assumption | (with_reducible apply Gr.from_drew) | (with_reducible apply Gr.alloc) | (with_reducible apply Gr.drew) | (with_reducible refine Gr.trans ?_ (by assumption)) | (with_reducible refine Gr.setCell ?_ (by omega) _))))) (by simp only [maxLen]; omega) (by omega) (fun k3 xa hk3 => ?_); rw [Nat.zero_add, List.nil_append] at hk3; (have n3 := hk3.nw (w0 := w5) ((Nw.made (w0 := w5) (w := w5) (e := 89) (K := 6) (Nat.le_refl _)).gr (by (repeat (first | (with_reducible exact Gr.refl _) | assumption | (with_reducible apply Gr.from_drew) | (with_reducible apply Gr.alloc) | (with_reducible apply Gr.drew) | (with_reducible refine Gr.trans ?_ (by assumption)) | (with_reducible refine Gr.setCell ?_ (by omega) _))))) (Gr.sz (by (repeat (first | (with_reducible exact Gr.refl _) | assumption | (with_reducible apply Gr.from_drew) | (with_reducible apply Gr.alloc) | (with_reducible apply Gr.drew) | (with_reducible refine Gr.trans ?_ (by assumption)) | (with_reducible refine Gr.setCell ?_ (by omega) _)))))); (have m3 := hk3.gw (w0 := w5) ((Nw.made (w0 := w5) (w := w5) (e := 89) (K := 6) (Nat.le_refl _)).gr (by (repeat (first | (with_reducible exact Gr.refl _) | assumption | (with_reducible apply Gr.from_drew) | (with_reducible apply Gr.alloc) | (with_reducible apply Gr.drew) | (with_reducible refine Gr.trans ?_ (by assumption)) | (with_reducible refine Gr.setCell ?_ (by omega) _))))) (by (repeat (first | (with_reducible exact Gr.refl _) | assumption | (with_reducible apply Gr.from_drew) | (with_reducible apply Gr.alloc) | (with_reducible apply Gr.drew) | (with_reducible refine Gr.trans ?_ (by assumption)) | (with_reducible refine Gr.setCell ?_ (by omega) _))))); refine hK _ _ ⟨hk3.mdh (fun q hq => by rw [ownB hq]; right; right; exact ⟨Nat.le_refl _, by simp⟩), ?_⟩; simp only [Act.put, List.setIfInBounds_toArray, List.set_cons_succ, List.set_cons_zero]
              refine flo_seg 4 rfl ?_
              simp only [List.take_succ_cons, List.take_zero, List.drop_succ_cons, List.drop_zero]
              repeat (go_big_quiet_step (fail))
              refine wpQuiet_nil ?_
              refine flo_eff rfl rfl rfl rfl (fun K hK => ?_)
              refine wp_appv _ (.tmp 99) (.tmp 103) 37 rfl 89 i0 _ 6 56 Tryz.underlying37 hi hz0 hz1 hz2 rfl (by decide) k3 bi (rowE (left.take bi)) rfl hk3.1 z2 (left.length - (bi + 1)) _ (rowE (left.drop (bi + 1))) rfl (SRC.out.2.gr m3) (by simp only [maxLen]; omega) (by omega) (fun k5 xb hk5 => ?_); obtain ⟨a5, c5, rfl⟩ := hk5.val; refine hK _ _ ⟨hk5.mdh (fun q hq => (hk3.2.1 q hq).elim (fun h => by rw [ownB h]; exact .inr (.inl (.inr ⟨Nat.le_refl _, by simp⟩))) (fun h => .inr (.inr ⟨h, hk3.1.lt hq⟩))), ?_⟩; simp only [Act.put, List.setIfInBounds_toArray, List.set_cons_succ, List.set_cons_zero]
              refine flo_seg 1 rfl ?_
              simp only [List.take_succ_cons, List.take_zero, List.drop_succ_cons, List.drop_zero]
              repeat (go_big_quiet_step (fail))
              refine wpQuiet_nil ?_
              refine flo_nil ?_
              have n5 := hk5.nw n3 m3.sz
              have m5 := hk5.gw n3 m3
              have hcut : (left.take bi ++ left.drop (bi + 1)) = left.eraseIdx bi := (List.eraseIdx_eq_take_drop_succ left bi).symm
              rw [← rowE_app, hcut] at n5
              have hsm : bi + (left.length - (bi + 1)) < left.length := by omega
              have HNN : Hid (Nw w xb 89 6 (.slice a5 (bi + (left.length - (bi + 1))) c5) (left.eraseIdx bi).length (rowE (left.eraseIdx bi))) := Lib.hid (by rw [HEL.out]; exact ⟨n5.own, fun q hq => Nat.le_trans HG5.out.sz (n5.new q hq)⟩)
              have HNE : Hid (∀ q, v7.ownBlock = some q → (Value.slice a5 (bi + (left.length - (bi + 1))) c5).ownBlock ≠ some q) := Lib.hid (fun q hq hs => absurd (n5.new q hs) (Nat.not_le.2 (N5.out.own.lt hq)))
              have HM5 := Lib.hid m5
              clear hk3 hk5 n3 m3 n5 m5 s1 s2 SRC
              go_wp2_with fail
              exact ⟨⟨out ++ [⟨x0, x1, x2, x3, x4, x5⟩], left.eraseIdx bi, v7, _, rfl, rfl, Lib.hid ⟨by rw [List.length_append, rowE_snoc]; exact N5.out.gr HM5.out, HNN.out, HG5.out.trans HM5.out, HNE.out, D', HDE.out.1, HDE.out.2, by rw [HEL.out]; omega⟩⟩, hsm⟩
end Go.Proofs.YtemjnppplmankaaGreat

/- drumlinref21's Slot, Newest, Last: what they answer of an index that was made. -/
set_option linter.unusedVariables false
set_option linter.unusedSimpArgs false
namespace Go.Proofs.YtemjnppplmankaaGreat
open Go.RowKit Go.Shelf
attribute [local go_sem] OvM cell_ovm obj_ovm
attribute [local go_sem] Oper.semAt_some

/-- Where the search through a slot stands: m are out, the others lie at off or behind. -/
def slI (L : List En) (m : Nat) (off : Int) : Prop := m ≤ L.length ∧ (∀ j x, j < m → L[j]? = some x → x.off + x.size ≤ off) ∧ ∀ j x, m ≤ j → L[j]? = some x → off ≤ x.off
theorem valid_nums {e : En} (h : validE e = true) : 0 ≤ e.off ∧ 16 ≤ e.size ∧ e.size ≤ 8192 ∧ e.off ≤ 8192 - e.size := by
  simp only [validE, decide_eq_true_eq] at h
  omega
theorem slI_zero {L : List En} {s : Int} (h : SlotOk s L) : slI L 0 0 :=
  ⟨Nat.zero_le _, fun j x hj => absurd hj (Nat.not_lt_zero j), fun j x _ hx => (valid_nums (h.e x (List.mem_of_getElem? hx)).2).1⟩
theorem slI_no {L : List En} {m : Nat} {off : Int} (h : slI L m off) (hn : ∀ x ∈ L, x.off ≠ off) : slI L m (off + 1) := by
  obtain ⟨h1, h2, h3⟩ := h
  refine ⟨h1, fun j x hj hx => ?_, fun j x hj hx => ?_⟩
  · have := h2 j x hj hx; omega
  · have := h3 j x hj hx
    have := hn x (List.mem_of_getElem? hx)
    omega
theorem slI_yes {L : List En} {s : Int} (hs : SlotOk s L) {m : Nat} {off : Int} (h : slI L m off) {x : En} (hx : x ∈ L) (he : x.off = off) : L[m]? = some x ∧ slI L (m + 1) (off + x.size) := by
  obtain ⟨h1, h2, h3⟩ := h
  obtain ⟨j, hj⟩ := List.mem_iff_getElem?.1 hx
  have hjl := (List.getElem?_eq_some_iff.1 hj).1
  have hv := valid_nums (hs.e x hx).2
  have hjm : m ≤ j := by
    rcases Nat.lt_or_ge j m with h | h
    · have := h2 j x h hj; omega
    · exact h
  have hjm2 : j = m := by
    rcases Nat.eq_or_lt_of_le hjm with h | h
    · exact h.symm
    · have hml : m < L.length := by omega
      have h4 := h3 m _ (Nat.le_refl _) (List.getElem?_eq_getElem hml)
      have h5 := List.pairwise_iff_getElem.1 hs.p m j hml hjl h
      have h6 := valid_nums (hs.e _ (List.getElem_mem hml)).2
      have h7 : L[j] = x := by rw [List.getElem?_eq_getElem hjl] at hj; exact Option.some.inj hj
      rw [h7] at h5
      omega
  subst hjm2
  refine ⟨hj, by omega, fun i y hi hy => ?_, fun i y hi hy => ?_⟩
  · rcases Nat.lt_or_ge i j with h | h
    · have := h2 i y h hy; omega
    · obtain rfl : i = j := by omega
      rw [hj] at hy
      obtain rfl := Option.some.inj hy
      omega
  · have hil := (List.getElem?_eq_some_iff.1 hy).1
    have h5 := List.pairwise_iff_getElem.1 hs.p j i hjl hil (by omega)
    have h7 : L[j] = x := by rw [List.getElem?_eq_getElem hjl] at hj; exact Option.some.inj hj
    have h8 : L[i] = y := by rw [List.getElem?_eq_getElem hil] at hy; exact Option.some.inj hy
    rw [h7, h8] at h5
    omega
theorem slI_end {L : List En} {s : Int} (hs : SlotOk s L) {m : Nat} {off : Int} (h : slI L m off) (he : 8192 ≤ off) : L.take m = L := by
  obtain ⟨h1, h2, h3⟩ := h
  have : m = L.length := by
    rcases Nat.eq_or_lt_of_le h1 with h | h
    · exact h
    · have h4 := h3 m _ (Nat.le_refl _) (List.getElem?_eq_getElem h)
      have h6 := valid_nums (hs.e _ (List.getElem_mem h)).2
      omega
  rw [this, List.take_length]
def SlP (X : IX) (s : Int) (w : World) (e : Ending) (w' : World) : Prop := ∃ v, e = .returned v ∧ Nw w w' 89 6 v (X.slot s).length (rowE (X.slot s)) ∧ Gr w w'
set_option maxRecDepth 40000 in
set_option maxHeartbeats 8000000 in
theorem rSlot_any {w : World} {rb : Nat} {N : Int} {v : Value} {all : List En} {X : IX} (h : w.heap[rb]? = some (rmO N v)) (hN : 0 < N) (ho : Own w 89 6 v all.length (rowE all)) (hw : X.Wf) (hp : all.Perm X.ents) (h1000 : all.length ≤ 1000) (s : Int) :
    Calls Tryz.prog 49 #[.pointer (some ⟨rb, 0, none⟩), .int .i64 s] w (SlP X s w) := by
  have HB := Lib.hid h
  have HO := Lib.hid ho
  have HV := Lib.hid (fun W (g : Gr w W) => rvalid (g.blk h) hN)
  have HIN := Lib.hid (fun x (hx : x ∈ all) (hs : x.slot = s) => (hw.slot_mem s x).2 ⟨hp.mem_iff.1 hx, hs⟩)
  have HOUT := Lib.hid (fun x (hx : x ∈ X.slot s) => (show x ∈ all ∧ x.slot = s from ⟨hp.mem_iff.2 ((hw.slot_mem s x).1 hx).1, ((hw.slot_mem s x).1 hx).2⟩))
  have HSO := Lib.hid (hw.slotOk s)
  have HSL := Lib.hid (hw.slot_le s)
  have HP : Hid (∀ v w', Nw w w' 89 6 v (X.slot s).length (rowE (X.slot s)) → Gr w w' → SlP X s w (.returned v) w') := Lib.hid (fun v w' h g => ⟨v, rfl, h, g⟩)
  generalize SlP X s w = PP at *
  generalize X.slot s = L at *
  obtain ⟨a, c, rfl, hc, hm, _⟩ := ownE_at ho
  unfold maxLen at hm
  obtain ⟨i0, hi, hz0, hz1, hz2⟩ := info_parts infoIten
  clear h ho hw hp
  go_enter Tryz.func49, Tryz.ntmps49
  go_wp2_with (go_at_call 35; refine Calls.mono (HV.out _ (Gr.refl _)) ?_; rintro e w1 ⟨rfl, rfl⟩)
  go_loopw [5, 6] (fun t5 t6 wx => ∃ (m : Nat) (off : Int) (v : Value), v = t5 ∧ t6 = .int .i64 off ∧ 0 ≤ off ∧ off ≤ 8192 ∧ Hid (slI L m off ∧ Nw w wx 89 6 v (L.take m).length (rowE (L.take m)) ∧ Gr w wx)) (fun _ t6 _ => (8192 - intOf t6).toNat)
  case atStart => exact ⟨0, 0, _, rfl, by go_num, by omega, by omega, Lib.hid ⟨slI_zero HSO.out, Nw.nil w _ _, Gr.refl _⟩⟩
  case round =>
    obtain ⟨m, off, v, rfl, rfl, ho0, ho1, HI⟩ := hrel
    by_cases hoff : off < 8192
    · go_wp2_with fail
      go_loopw [5, 6, 7] (fun t5 t6 t7 wx => (∃ i : Nat, i ≤ all.length ∧ t7 = .int .i64 i ∧ v = t5 ∧ t6 = .int .i64 off ∧ Hid ((∀ x ∈ all.take i, x.slot = s → x.off ≠ off) ∧ Gr wr wx)) ∨ (∃ (v' : Value) (off' : Int), t7 = .int .i64 ((all.length : Int) + 1) ∧ v' = t5 ∧ t6 = .int .i64 off' ∧ off ≤ off' ∧ off' < 8192 ∧ Hid (slI L (m + 1) (off' + 1) ∧ Nw w wx 89 6 v' (L.take (m + 1)).length (rowE (L.take (m + 1))) ∧ Gr w wx))) (fun _ _ t7 _ => all.length - (intOf t7).toNat)
      case atStart => exact .inl ⟨0, by omega, by go_num, rfl, rfl, Lib.hid ⟨by simp, Gr.refl _⟩⟩
      case round =>
        rcases hrel with ⟨i, hil, rfl, rfl, rfl, HS⟩ | ⟨v', off', rfl, rfl, rfl, h1, h2, HS⟩
        · have c1 := ((cellsOf ((HI.out.2.2.trans HS.out.2).blk HB.out)).1 1).trans (show _ = some (Value.slice a all.length c) from rfl)
          by_cases hlt : i < all.length
          · have hlt' : (i : Int) < all.length := by omega
            obtain ⟨x, hx⟩ : ∃ x, all[i]? = some x := ⟨_, List.getElem?_eq_getElem hlt⟩
            obtain ⟨g0, rfl, hg0, y0, y1, y2, y3, y4, y5⟩ := ent6 (HO.out.gr (HI.out.2.2.trans HS.out.2)) hx
            have HTK : Hid (¬ (x.slot = s ∧ x.off = off) → ∀ y ∈ all.take (i + 1), y.slot = s → y.off ≠ off) := Lib.hid (fun hn y hy => by
              rw [List.take_add_one, hx] at hy
              rcases List.mem_append.1 hy with h | h
              · exact HS.out.1 y h
              · obtain rfl : y = x := by simpa using h
                exact fun h1 h2 => hn ⟨h1, h2⟩)
            have HYE : Hid (x.slot = s → x.off = off → (16 ≤ x.size ∧ x.size ≤ 8192 ∧ x.off ≤ 8192 - x.size) ∧ L[m]? = some x ∧ slI L (m + 1) (off + x.size)) := Lib.hid (fun h1 h2 => by
              have hxL := HIN.out x (List.mem_of_getElem? hx) h1
              exact ⟨(valid_nums (HSO.out.e x hxL).2).2, slI_yes HSO.out HI.out.1 hxL h2⟩)
            have HX5 := Lib.hid (fun W (g : Gr w W) => (ent6g (HO.out.gr g) hx).2.2.2.2.2.2)
            clear hx
            by_cases h1 : x.slot = s
            · by_cases h2 : x.off = off
              · obtain ⟨⟨hs1, hs2, hs3⟩, hLm, hsl⟩ := HYE.out h1 h2
                have HLT : Hid (L.take (m + 1) = L.take m ++ [x]) := Lib.hid (by rw [List.take_add_one, hLm]; rfl)
                have hlm : (L.take m).length ≤ 512 := Nat.le_trans (by rw [List.length_take]; omega) HSL.out
                have HSI := Lib.hid hsl
                clear hLm hsl HYE HTK
                obtain ⟨x0, x1, x2, x3, x4, x5⟩ := x
                simp only at y0 y1 y2 y3 y4 y5 h1 h2 hs1 hs2 hs3 HSI HX5
                subst h1 h2
                generalize L.take m = out at *
                go_wp2_with (first
                  | (at_builtin; go_must (refine wpList_appv _ rfl (.tmp 46) (.tmp 54) 37 rfl 89 i0 _ 6 56 Tryz.underlying37 hi hz0 hz1 hz2 rfl (by decide) v out.length (rowE out) rfl ((HI.out.2.1.own.gr HS.out.2).gr (by (repeat (first | (with_reducible exact Gr.refl _) | assumption | (with_reducible apply Gr.from_drew) | (with_reducible apply Gr.alloc) | (with_reducible apply Gr.drew) | (with_reducible refine Gr.trans ?_ (by assumption)) | (with_reducible refine Gr.setCell ?_ (by omega) _))))) (some ⟨wr.heap.size, 0, none⟩) 1 1 (enC ⟨x0, x1, x2, x3, x4, x5⟩) rfl (src_newK wr (enC ⟨x0, x1, x2, x3, x4, x5⟩) _ 6 rfl (enC_one _)) (by simp only [maxLen]; omega) (by omega) ?_); intro v3 w6 hA; have N6 := Lib.hid (hA.nw ((HI.out.2.1.gr HS.out.2).gr ((Gr.refl wr).alloc _)) (by have h1 := HI.out.2.2.sz; have h2 := HS.out.2.sz; simp; omega)); have HG6 := Lib.hid (hA.gw ((HI.out.2.1.gr HS.out.2).gr ((Gr.refl wr).alloc _)) ((HI.out.2.2.trans HS.out.2).alloc _)); have y56 := HX5.out _ HG6.out; have c16 := ((cellsOf (HG6.out.blk HB.out)).1 1).trans (show _ = some (Value.slice (some ⟨g0, 0, none⟩) all.length c) from rfl); clear hA)
                  | fail)
                have N7 : Hid (Nw w w6 89 6 v3 (L.take (m + 1)).length (rowE (L.take (m + 1)))) := Lib.hid (by rw [HLT.out, List.length_append, rowE_snoc]; exact N6.out)
                have HSJ : Hid (slI L (m + 1) (x4 + x5 - 1 + 1)) := Lib.hid (by rw [show x4 + x5 - 1 + 1 = x4 + x5 by omega]; exact HSI.out)
                go_roundw
                case rel => exact .inr ⟨v3, x4 + x5 - 1, by go_num, rfl, by go_num, by omega, by omega, Lib.hid ⟨HSJ.out, N7.out, HG6.out⟩⟩
                case measure => simp [intOf]; omega
              · have hn : ¬ (x.slot = s ∧ x.off = off) := fun h => h2 h.2
                have HN := Lib.hid (HTK.out hn)
                clear HTK HYE hn
                obtain ⟨x0, x1, x2, x3, x4, x5⟩ := x
                simp only at y0 y1 y2 y3 y4 y5 h1 h2
                have d1 : (x3 == s) = true := beq_iff_eq.2 h1
                have d2 : (x4 == off) = false := beq_false_of_ne h2
                clear h1 h2
                go_wp2_with fail
                go_roundw
                case rel => exact .inl ⟨i + 1, by omega, by go_num, rfl, rfl, Lib.hid ⟨HN.out, HS.out.2⟩⟩
                case measure => simp [intOf]; omega
            · have hn : ¬ (x.slot = s ∧ x.off = off) := fun h => h1 h.1
              have HN := Lib.hid (HTK.out hn)
              clear HTK HYE hn
              obtain ⟨x0, x1, x2, x3, x4, x5⟩ := x
              simp only at y0 y1 y2 y3 y4 y5 h1
              have d1 : (x3 == s) = false := beq_false_of_ne h1
              clear h1
              go_wp2_with fail
              go_roundw
              case rel => exact .inl ⟨i + 1, by omega, by go_num, rfl, rfl, Lib.hid ⟨HN.out, HS.out.2⟩⟩
              case measure => simp [intOf]; omega
          · have hlt' : ¬ (i : Int) < all.length := by omega
            obtain rfl : i = all.length := by omega
            have HJ : Hid (slI L m (off + 1)) := Lib.hid (slI_no HI.out.1 (fun x hx => HS.out.1 x (by rw [List.take_length]; exact (HOUT.out x hx).1) (HOUT.out x hx).2))
            have HNW := Lib.hid (HI.out.2.1.gr HS.out.2)
            have HGW := Lib.hid (HI.out.2.2.trans HS.out.2)
            clear HI HS
            go_wp2_with fail
            go_roundw
            case rel => exact ⟨m, off + 1, v, rfl, by go_num, by omega, by omega, Lib.hid ⟨HJ.out, HNW.out, HGW.out⟩⟩
            case measure => simp [intOf]; omega
        · have c1 := ((cellsOf (HS.out.2.2.blk HB.out)).1 1).trans (show _ = some (Value.slice a all.length c) from rfl)
          have hlt' : ¬ ((all.length : Int) + 1) < all.length := by omega
          clear HI
          go_wp2_with fail
          go_roundw
          case rel => exact ⟨m + 1, off' + 1, v', rfl, by go_num, by omega, by omega, Lib.hid HS.out⟩
          case measure => simp [intOf]; omega
    · have HE : Hid (PP (.returned v) wr) := Lib.hid (HP.out v wr (by have h := HI.out.2.1; rw [slI_end HSO.out HI.out.1 (by omega)] at h; exact h) HI.out.2.2)
      go_wp2_with fail
      exact HE.out
end Go.Proofs.YtemjnppplmankaaGreat
