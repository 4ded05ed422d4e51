/- ledger.Of: the bytes of a slot, or why not. -/
import Derived.Test.YtemjnppplmankaaGreatBd15
import Derived.Test.YtemjnppplmankaaGreatBd12
import Derived.Test.YtemjnppplmankaaGreatBd10
import Derived.Test.YtemjnppplmankaaGreatBd7
import Derived.Test.YtemjnppplmankaaGreatBd14
set_option linter.unusedVariables false
set_option linter.unusedSimpArgs false
namespace Go.Proofs.YtemjnppplmankaaGreat
open Go.RowKit Go.Shelf
attribute [local go_sem] OvM cell_ovm obj_ovm
attribute [local go_sem] Oper.semAt_some

def zBy : By := ⟨0, 0, 0, 0, 0⟩
def ofL (X : IX) (s : Int) : By × Int := if X.slots.length = 0 then (zBy, 1) else if s < 0 ∨ (X.slots.length : Int) ≤ s then (zBy, 3) else (byOf X s, 0)
theorem Gr.cell5 {w w' : World} (g : Gr w w') {b : Nat} (h : w.heap.size ≤ b) (u0 u1 u2 u3 u4 : Value) : Gr w (((((w'.setCell ⟨b, 0, none⟩ u0).setCell ⟨b, 1, none⟩ u1).setCell ⟨b, 2, none⟩ u2).setCell ⟨b, 3, none⟩ u3).setCell ⟨b, 4, none⟩ u4) :=
  ((((g.setCell (p := ⟨b, 0, none⟩) h _).setCell (p := ⟨b, 1, none⟩) h _).setCell (p := ⟨b, 2, none⟩) h _).setCell (p := ⟨b, 3, none⟩) h _).setCell (p := ⟨b, 4, none⟩) h _
theorem blk5 {w : World} {b : Nat} {t : TypeId} {a0 a1 a2 a3 a4 : Value} (h : w.heap[b]? = some (.cells #[a0, a1, a2, a3, a4] t)) (u0 u1 u2 u3 u4 : Value) : (((((w.setCell ⟨b, 0, none⟩ u0).setCell ⟨b, 1, none⟩ u1).setCell ⟨b, 2, none⟩ u2).setCell ⟨b, 3, none⟩ u3).setCell ⟨b, 4, none⟩ u4).heap[b]? = some (.cells #[u0, u1, u2, u3, u4] t) :=
  blkSet (j := 4) (blkSet (j := 3) (blkSet (j := 2) (blkSet (j := 1) (blkSet (j := 0) h))))
set_option maxRecDepth 40000 in
set_option maxHeartbeats 4000000 in
theorem OfL_any {w : World} {p : Option Addr} {X : IX} {S : Nat → Prop} (h : IXP w p X S) (s : Int) : Calls Tryz.prog 44 #[.pointer p, .int .i64 s] w fun e w' => e = .returned (.tuple #[byV (ofL X s).1, .int .i64 (ofL X s).2]) ∧ Gr w w' := by
  have H := Lib.hid h
  obtain ⟨n, hn⟩ : ∃ n : Nat, n = X.slots.length := ⟨_, rfl⟩
  have HSL : Hid (∀ w1, Gr w w1 → Calls Tryz.prog 42 #[.pointer p] w1 fun e w' => e = .returned (.int .i64 n) ∧ w1 = w') := Lib.hid (fun w1 g => by rw [hn]; exact Slots_any (h.gr g))
  have HOF : Hid (ofL X s = if n = 0 then (zBy, 1) else if s < 0 ∨ (n : Int) ≤ s then (zBy, 3) else (byOf X s, 0)) := Lib.hid (by rw [hn]; rfl)
  clear h hn
  refine calls_of_wp_marks Tryz.func44 rfl ?_
  simp only [Tryz.ntmps44, List.size_toArray, List.length_cons, List.length_nil, Nat.reduceAdd, Nat.reduceSub, Array.replicate_succ, Array.replicate_zero, List.push_toArray, List.append_toArray, List.nil_append, List.cons_append]
  have h0 : (w.alloc (.cells #[.int .i64 0, .int .i64 0, .int .i64 0, .int .i64 0, .int .i64 0] 97)).heap[w.heap.size]? = _ := blkNew _ _
  have HB0 := Lib.hid h0
  clear h0
  obtain ⟨b, hb⟩ : ∃ b, b = w.heap.size := ⟨_, rfl⟩
  obtain ⟨w0, hw0⟩ : ∃ y, y = w.alloc (.cells #[.int .i64 0, .int .i64 0, .int .i64 0, .int .i64 0, .int .i64 0] 97) := ⟨_, rfl⟩
  have HG0 : Hid (Gr w w0 ∧ w.heap.size ≤ b) := Lib.hid ⟨by rw [hw0]; exact (Gr.refl _).alloc _, by omega⟩
  rw [← hw0, ← hb] at HB0
  by_cases hz : n = 0
  · subst hz
    go_wp2_with fail
    rw [← hw0, ← hb]
    obtain ⟨c4, f4⟩ := cellsOf HB0.out
    clear hw0 hb
    go_wp2_with (first
      | (go_at_call 42; refine (HSL.out _ HG0.out.1).mono ?_; rintro e w1 ⟨rfl, rfl⟩)
      | (go_at_call 80; refine (of_any (H.out.gr HG0.out.1) s).mono ?_; rintro e w1 ⟨rfl, hg⟩; simp only [byV]; have HG1 := Lib.hid hg; have e4 := (cellsOf (hg.blk HB0.out)).1; have g4 := (cellsOf (hg.blk HB0.out)).2; clear hg)
      | fail)
    have HF : ofL X s = (zBy, 1) := by rw [HOF.out]; rfl
    have hb5 := blk5 HB0.out (.int .i64 (zBy.total)) (.int .i64 (zBy.live)) (.int .i64 (zBy.tombs)) (.int .i64 (zBy.dead)) (.int .i64 (zBy.last))
    obtain ⟨d4, _⟩ := cellsOf hb5
    refine retM0 (v := .tuple #[byV (zBy), .int .i64 1]) ?_ rfl ⟨by rw [HF], Gr.cell5 (HG0.out.1) HG0.out.2 _ _ _ _ _⟩
    (try simp only [zBy] at d4)
    simp [results, Tryz.results44, go_sem, d4, byV, zBy]
  · have hz' : decide ((n : Int) = 0) = false := by simpa using hz
    by_cases hs : s < 0
    · go_wp2_with fail
      rw [← hw0, ← hb]
      obtain ⟨c4, f4⟩ := cellsOf HB0.out
      clear hw0 hb
      go_wp2_with (first
        | (go_at_call 42; refine (HSL.out _ HG0.out.1).mono ?_; rintro e w1 ⟨rfl, rfl⟩)
        | (go_at_call 80; refine (of_any (H.out.gr HG0.out.1) s).mono ?_; rintro e w1 ⟨rfl, hg⟩; simp only [byV]; have HG1 := Lib.hid hg; have e4 := (cellsOf (hg.blk HB0.out)).1; have g4 := (cellsOf (hg.blk HB0.out)).2; clear hg)
        | fail)
      have HF : ofL X s = (zBy, 3) := by rw [HOF.out]; simp [hz, hs]
      have hb5 := blk5 HB0.out (.int .i64 (zBy.total)) (.int .i64 (zBy.live)) (.int .i64 (zBy.tombs)) (.int .i64 (zBy.dead)) (.int .i64 (zBy.last))
      obtain ⟨d4, _⟩ := cellsOf hb5
      refine retM0 (v := .tuple #[byV (zBy), .int .i64 3]) ?_ rfl ⟨by rw [HF], Gr.cell5 (HG0.out.1) HG0.out.2 _ _ _ _ _⟩
      (try simp only [zBy] at d4)
      simp [results, Tryz.results44, go_sem, d4, byV, zBy]
    · by_cases hs2 : (n : Int) ≤ s
      · go_wp2_with fail
        rw [← hw0, ← hb]
        obtain ⟨c4, f4⟩ := cellsOf HB0.out
        clear hw0 hb
        go_wp2_with (first
          | (go_at_call 42; refine (HSL.out _ HG0.out.1).mono ?_; rintro e w1 ⟨rfl, rfl⟩)
          | (go_at_call 80; refine (of_any (H.out.gr HG0.out.1) s).mono ?_; rintro e w1 ⟨rfl, hg⟩; simp only [byV]; have HG1 := Lib.hid hg; have e4 := (cellsOf (hg.blk HB0.out)).1; have g4 := (cellsOf (hg.blk HB0.out)).2; clear hg)
          | fail)
        have HF : ofL X s = (zBy, 3) := by rw [HOF.out]; simp [hz, hs2]
        have hb5 := blk5 HB0.out (.int .i64 (zBy.total)) (.int .i64 (zBy.live)) (.int .i64 (zBy.tombs)) (.int .i64 (zBy.dead)) (.int .i64 (zBy.last))
        obtain ⟨d4, _⟩ := cellsOf hb5
        refine retM0 (v := .tuple #[byV (zBy), .int .i64 3]) ?_ rfl ⟨by rw [HF], Gr.cell5 (HG0.out.1) HG0.out.2 _ _ _ _ _⟩
        (try simp only [zBy] at d4)
        simp [results, Tryz.results44, go_sem, d4, byV, zBy]
      · go_wp2_with fail
        rw [← hw0, ← hb]
        obtain ⟨c4, f4⟩ := cellsOf HB0.out
        clear hw0 hb
        go_wp2_with (first
          | (go_at_call 42; refine (HSL.out _ HG0.out.1).mono ?_; rintro e w1 ⟨rfl, rfl⟩)
          | (go_at_call 80; refine (of_any (H.out.gr HG0.out.1) s).mono ?_; rintro e w1 ⟨rfl, hg⟩; simp only [byV]; have HG1 := Lib.hid hg; have e4 := (cellsOf (hg.blk HB0.out)).1; have g4 := (cellsOf (hg.blk HB0.out)).2; clear hg)
          | fail)
        have HF : ofL X s = (byOf X s, 0) := by rw [HOF.out]; simp [hz, hs, hs2]
        have hb5 := blk5 (HG1.out.blk HB0.out) (.int .i64 ((byOf X s).total)) (.int .i64 ((byOf X s).live)) (.int .i64 ((byOf X s).tombs)) (.int .i64 ((byOf X s).dead)) (.int .i64 ((byOf X s).last))
        obtain ⟨d4, _⟩ := cellsOf hb5
        refine retM0 (v := .tuple #[byV (byOf X s), .int .i64 0]) ?_ rfl ⟨by rw [HF], Gr.cell5 (HG0.out.1.trans HG1.out) HG0.out.2 _ _ _ _ _⟩
        (try simp only [zBy] at d4)
        simp [results, Tryz.results44, go_sem, d4, byV, zBy]
end Go.Proofs.YtemjnppplmankaaGreat

/- An index that grows entry by entry, each behind those of its slot: what every builder of chapters 22, 23, 24, 28 keeps, without bounds. No walk. -/
set_option linter.unusedVariables false
set_option linter.unusedSimpArgs false
namespace Go.Proofs.YtemjnppplmankaaGreat

structure FG (X : IX) (all : List En) (en : Int → Int) (n : Int) : Prop where
  wf : X.Wf
  ln : (X.slots.length : Int) = n
  n0 : 1 ≤ n
  pm : all.Perm X.ents
  up : ∀ e ∈ all, e.off + e.size ≤ en e.slot
  cp : ∀ a ∈ all, ∀ b ∈ all, a.seq = b.seq → a.key = b.key ∧ a.del = b.del ∧ a.size = b.size
section
variable {X : IX} {all : List En} {en : Int → Int} {n : Int}
theorem FG.mem (h : FG X all en n) (e : En) : e ∈ all ↔ e ∈ X.ents := h.pm.mem_iff
theorem FG.slot (h : FG X all en n) (s : Int) (e : En) : e ∈ X.slot s ↔ e ∈ all ∧ e.slot = s := by rw [h.mem]; exact h.wf.slot_mem s e
theorem FG.of (h : FG X all en n) (k : ByteArray) (e : En) : e ∈ X.of k ↔ e ∈ all ∧ e.key = k := by rw [h.mem]; exact h.wf.of_mem k e
theorem FG.ne (h : FG X all en n) : X.slots ≠ [] := fun h0 => by have := h.ln; have := h.n0; rw [h0] at *; simp at *; omega
theorem FG.has (h : FG X all en n) {s : Int} (h0 : 0 ≤ s) (h1 : s < n) : X.has s = true := by
  unfold IX.has
  exact decide_eq_true ⟨h0, by have := h.ln; omega⟩
theorem FG.no (h : FG X all en n) {s : Int} (h0 : s < 0 ∨ n ≤ s) : X.has s = false := by
  unfold IX.has
  exact decide_eq_false (by have := h.ln; omega)
theorem FG.len (h : FG X all en n) : (X.ents.length : Int) = all.length := by rw [h.pm.length_eq]
theorem FG.val (h : FG X all en n) {e : En} (he : e ∈ all) : keyChk e.key = 0 ∧ 1 ≤ e.seq ∧ e.seq ≤ 1099511627776 ∧ 0 ≤ e.off ∧ 16 + (e.key.size : Int) ≤ e.size ∧ (e.size = 16 + (e.key.size : Int) ∨ e.del = false) ∧ e.size ≤ 8192 ∧ e.off ≤ 8192 - e.size := (valid_iff e).1 (h.wf.valid ((h.mem e).1 he)).1
theorem FG.slots (h : FG X all en n) {e : En} (he : e ∈ all) : 0 ≤ e.slot ∧ e.slot < n := by
  have h1 := (h.wf.valid ((h.mem e).1 he)).2
  unfold IX.has at h1
  have := of_decide_eq_true h1
  have := h.ln
  omega
theorem FG.clash (h : FG X all en n) {e : En} (ho : en e.slot ≤ e.off) : clash (X.slot e.slot) e = false := by
  refine clash_end (fun o hm => ?_) (fun o hm => ?_)
  · obtain ⟨h1, h2⟩ := (h.slot _ o).1 hm
    have := h.up o h1
    rw [h2] at this
    omega
  · have := h.val ((h.slot _ o).1 hm).1
    omega
/-- An entry that goes behind those of its slot. -/
theorem FG.push (h : FG X all en n) {e : En} (a : AddOk X e) (ho : en e.slot ≤ e.off) (hc : ∀ o ∈ all, o.seq = e.seq → o.key = e.key ∧ o.del = e.del ∧ o.size = e.size) :
    FG (addX X e) (all ++ [e]) (upd en e.slot (e.off + e.size)) n := by
  have hv := (valid_iff e).1 a.valid
  have hle : ∀ s, en s ≤ upd en e.slot (e.off + e.size) s := fun s => by
    unfold upd
    split
    · rename_i h0; subst h0; omega
    · exact Int.le_refl _
  refine ⟨add_wf h.wf a, ?_, h.n0, ?_, fun o hm => ?_, fun x hx y hy hq => ?_⟩
  · rw [addX_eq a]; simp only [List.length_set]; exact h.ln
  · exact (List.perm_append_singleton e all).trans ((h.pm.cons e).trans (add_ents h.wf a).symm)
  · rcases List.mem_append.1 hm with hm | hm
    · exact Int.le_trans (h.up o hm) (hle _)
    · rw [List.mem_singleton.1 hm, upd_same]
      exact Int.le_refl _
  · rcases List.mem_append.1 hx with hx1 | hx1 <;> rcases List.mem_append.1 hy with hy1 | hy1
    · exact h.cp x hx1 y hy1 hq
    · obtain rfl := List.mem_singleton.1 hy1
      exact hc x hx1 hq
    · obtain rfl := List.mem_singleton.1 hx1
      obtain ⟨q1, q2, q3⟩ := hc y hy1 hq.symm
      exact ⟨q1.symm, q2.symm, q3.symm⟩
    · obtain rfl := List.mem_singleton.1 hx1
      obtain rfl := List.mem_singleton.1 hy1
      exact ⟨rfl, rfl, rfl⟩
/-- A new entry can be added. -/
theorem FG.okNew (h : FG X all en n) {e : En} (hq : ∀ o ∈ all, o.seq ≠ e.seq) (h0 : 0 ≤ e.slot) (h1 : e.slot < n) (hv : validE e = true) (ho : en e.slot ≤ e.off) : AddOk X e := by
  refine ⟨h.ne, h.has h0 h1, hv, fun o hm => badE_no (fun hh => absurd hh (hq o ((h.of _ o).1 hm).1)), fun o hm => ?_, h.clash ho⟩
  unfold sameE
  exact decide_eq_false (fun hh => hq o ((h.of _ o).1 hm).1 hh.1)
theorem FG.new (h : FG X all en n) {e : En} (hq : ∀ o ∈ all, o.seq ≠ e.seq) (h0 : 0 ≤ e.slot) (h1 : e.slot < n) (hv : validE e = true) (ho : en e.slot ≤ e.off) :
    addE X e = 0 ∧ FG (addX X e) (all ++ [e]) (upd en e.slot (e.off + e.size)) n :=
  have a := h.okNew hq h0 h1 hv ho
  ⟨ok_add a, h.push a ho (fun o hm hh => absurd hh (hq o hm))⟩
/-- A copy of what there is differs from no entry with its number. -/
theorem FG.copyBad (h : FG X all en n) {x e : En} (hx : x ∈ all) (he : e = { x with slot := e.slot, off := e.off }) : ∀ o ∈ X.of e.key, badE e o = false := by
  intro o hm
  obtain ⟨h1, h2⟩ := (h.of _ o).1 hm
  refine badE_no (fun hh => ?_)
  have e1 : e.seq = x.seq := by rw [he]
  have e3 : e.del = x.del := by rw [he]
  have e4 : e.size = x.size := by rw [he]
  obtain ⟨q1, q2, q3⟩ := h.cp o h1 x hx (by rw [hh, e1])
  exact En.ext' hh h2 (by rw [e3]; exact q2) rfl rfl (by rw [e4]; exact q3)
theorem FG.copyNo (h : FG X all en n) {x e : En} (hx : x ∈ all) (he : e = { x with slot := e.slot, off := e.off }) (h0 : 0 ≤ e.slot) (h1 : e.slot < n) (hv : validE e = true) (hd : ∃ o ∈ all, o.slot = e.slot ∧ o.seq = e.seq) : addE X e = 6 := by
  refine add_6 h.ne (h.has h0 h1) hv (h.copyBad hx he) ?_
  rw [Bool.or_eq_true]
  refine .inl ?_
  obtain ⟨o, hm, hh⟩ := hd
  have e1 : e.seq = x.seq := by rw [he]
  have e2 : e.key = x.key := by rw [he]
  obtain ⟨q1, _, _⟩ := h.cp o hm x hx (by rw [hh.2, e1])
  exact List.any_eq_true.2 ⟨o, (h.of _ o).2 ⟨hm, by rw [q1, e2]⟩, decide_eq_true ⟨hh.2, hh.1⟩⟩
theorem FG.copyYes (h : FG X all en n) {x e : En} (hx : x ∈ all) (he : e = { x with slot := e.slot, off := e.off }) (h0 : 0 ≤ e.slot) (h1 : e.slot < n) (hv : validE e = true) (ho : en e.slot ≤ e.off) (hd : ¬ ∃ o ∈ all, o.slot = e.slot ∧ o.seq = e.seq) :
    addE X e = 0 ∧ FG (addX X e) (all ++ [e]) (upd en e.slot (e.off + e.size)) n := by
  have e1 : e.seq = x.seq := by rw [he]
  have e2 : e.key = x.key := by rw [he]
  have e3 : e.del = x.del := by rw [he]
  have e4 : e.size = x.size := by rw [he]
  have a : AddOk X e := ⟨h.ne, h.has h0 h1, hv, h.copyBad hx he, fun o hm => by
    have h2 := (h.of _ o).1 hm
    unfold sameE
    exact decide_eq_false (fun hh => hd ⟨o, h2.1, hh.2, hh.1⟩), h.clash ho⟩
  refine ⟨ok_add a, h.push a ho (fun o hm hh => ?_)⟩
  rw [e2, e3, e4]
  exact h.cp o hm x hx (by rw [hh, e1])
/-- A slot is emptied. -/
theorem FG.drop (h : FG X all en n) {s : Int} (h0 : 0 ≤ s) (h1 : s < n) {en' : Int → Int} (he : ∀ t, t ≠ s → en t ≤ en' t) :
    dropC X s = 0 ∧ (X.slot s).length + (all.filter (fun o => !decide (o.slot = s))).length = all.length ∧ FG (dropX X s) (all.filter (fun o => !decide (o.slot = s))) en' n := by
  have hh := h.has h0 h1
  have hp := drop_ents h.wf hh
  have hw := drop_wf h.wf s
  have hne : ∀ o ∈ (dropX X s).ents, (!decide (o.slot = s)) = true := fun o ho => by
    simp only [Bool.not_eq_true', decide_eq_false_iff_not]
    intro e
    have h2 := (hw.slot_mem s o).2 ⟨ho, e⟩
    rw [drop_slot h.wf, if_pos rfl] at h2
    cases h2
  have hs : ∀ o ∈ X.slot s, ¬ (!decide (o.slot = s)) = true := fun o ho => by simp [((h.wf.slot_mem s o).1 ho).2]
  have hpm : (all.filter (fun o => !decide (o.slot = s))).Perm (dropX X s).ents := by
    have h2 := (h.pm.trans hp).filter (fun o => !decide (o.slot = s))
    rw [List.filter_append, List.filter_eq_nil_iff.2 hs, List.nil_append, List.filter_eq_self.2 hne] at h2
    exact h2
  refine ⟨if_pos hh, ?_, hw, ?_, h.n0, hpm, fun o ho => ?_, fun a ha b hb => h.cp a (List.mem_filter.1 ha).1 b (List.mem_filter.1 hb).1⟩
  · have h2 := (h.pm.trans hp).length_eq
    have h3 := hpm.length_eq
    rw [List.length_append] at h2
    omega
  · rw [drop_yes hh]; simp only [List.length_set]; exact h.ln
  · obtain ⟨h2, h3⟩ := List.mem_filter.1 ho
    simp only [Bool.not_eq_true', decide_eq_false_iff_not] at h3
    exact Int.le_trans (h.up o h2) (he _ h3)
end
theorem FG.start (n : Nat) (h1 : 1 ≤ n) (h2 : n ≤ 32) (en : Int → Int) : FG (ixNew n) [] en n :=
  ⟨new_wf h2, by simp [ixNew], by omega, by simp [ixNew, IX.ents], (fun _ h => by cases h), (fun _ h => by cases h)⟩
end Go.Proofs.YtemjnppplmankaaGreat

/- drumlinlaw23.build in plain Lean. No walk. -/
set_option linter.unusedVariables false
set_option linter.unusedSimpArgs false
namespace Go.Proofs.YtemjnppplmankaaGreat

def sumE : List En → Int
  | [] => 0
  | e :: l => e.size + sumE l
theorem sumE_app (l m : List En) : sumE (l ++ m) = sumE l + sumE m := by
  induction l with
  | nil => simp [sumE]
  | cons e l ih => simp only [List.cons_append, sumE, ih]; omega
theorem sumE_perm {l m : List En} (h : l.Perm m) : sumE l = sumE m := by
  induction h with
  | nil => rfl
  | cons x _ ih => simp only [sumE, ih]
  | swap x y l => simp only [sumE]; omega
  | trans _ _ h1 h2 => exact h1.trans h2
def inSlot (s : Int) (e : En) : Bool := decide (e.slot = s)
structure Pt where
  key : Int
  slot : Int
  size : Int
  del : Bool
  cp : Bool
structure Pt.Ok (t : Pt) : Prop where
  key : 0 ≤ t.key ∧ t.key ≤ 255
  slot : 0 ≤ t.slot ∧ t.slot ≤ 255
  size : 0 ≤ t.size ∧ t.size ≤ 255
def ptKeys : List ByteArray := [⟨#[97]⟩, ⟨#[98]⟩, ⟨#[99]⟩, ⟨#[100, 100]⟩, ⟨#[101, 48]⟩]
def ptKey (k : Int) : ByteArray := ptKeys.getD (k % 5).toNat ⟨#[97]⟩
theorem ptKey_ok (k : Int) : keyChk (ptKey k) = 0 ∧ 1 ≤ (ptKey k).size ∧ (ptKey k).size ≤ 2 ∧ Low (ptKey k) := by
  have h : k % 5 = 0 ∨ k % 5 = 1 ∨ k % 5 = 2 ∨ k % 5 = 3 ∨ k % 5 = 4 := by omega
  have hl : ∀ x ∈ ptKeys, keyChk x = 0 ∧ 1 ≤ x.size ∧ x.size ≤ 2 ∧ Low x := by
    intro x hx
    simp only [ptKeys, List.mem_cons, List.not_mem_nil, or_false] at hx
    rcases hx with rfl | rfl | rfl | rfl | rfl
    all_goals
      refine ⟨by kernel_rfl, by decide, by decide, ?_⟩
      unfold Low
      decide
  unfold ptKey
  rcases h with h | h | h | h | h <;> rw [h] <;> exact hl _ (by simp [ptKeys])
structure PS where
  X : IX
  all : List En
  us : Int → Int
  nx : Int
def newP (st : PS) (t : Pt) : En := ⟨st.nx, ptKey t.key, t.del, t.slot % 6, st.us (t.slot % 6), 16 + ((ptKey t.key).size : Int) + if t.del = true then 0 else t.size % 100⟩
def headP (st : PS) (t : Pt) : En := (st.X.of (ptKey t.key)).headD zE
def copyP (st : PS) (t : Pt) : En := { newP st t with seq := (headP st t).seq, del := (headP st t).del, size := (headP st t).size }
def hasP (st : PS) (t : Pt) : Bool := (st.X.slot (t.slot % 6)).any (fun y => decide (y.seq = (headP st t).seq) && decide (y.key = ptKey t.key))
def pushP (st : PS) (e : En) (nx : Int) : PS := ⟨addX st.X e, st.all ++ [e], upd st.us e.slot (st.us e.slot + e.size), nx⟩
def isCp (st : PS) (t : Pt) : Bool := t.cp && !(st.X.of (ptKey t.key)).isEmpty
def stepP (st : PS) (t : Pt) : PS := if isCp st t = true then (if hasP st t = true then st else pushP st (copyP st t) st.nx) else pushP st (newP st t) (st.nx + 1)
/-- The entry that add returns. -/
def retPt (st : PS) (t : Pt) : En := if isCp st t = true then (if hasP st t = true then zE else copyP st t) else newP st t
def foldP (L : List Pt) : PS := L.foldl stepP ⟨ixNew 6, [], fun _ => 0, 1⟩
theorem foldP_snoc (L : List Pt) (t : Pt) : foldP (L ++ [t]) = stepP (foldP L) t := by simp [foldP]
structure PS.Ok (st : PS) (j : Nat) : Prop where
  g : FG st.X st.all st.us 6
  n : st.all.length ≤ j
  q0 : 1 ≤ st.nx
  q1 : st.nx ≤ j + 1
  u : ∀ s, 0 ≤ st.us s ∧ st.us s ≤ 118 * j
  t : ∀ s, st.us s = sumE (st.all.filter (inSlot s))
  e : ∀ e ∈ st.all, 1 ≤ e.seq ∧ e.seq < st.nx ∧ Low e.key ∧ e.key.size ≤ 2 ∧ e.size ≤ 117
theorem PS.later {st : PS} {j j' : Nat} (h : st.Ok j) (hj : j ≤ j') : st.Ok j' := ⟨h.g, Nat.le_trans h.n hj, h.q0, by have := h.q1; omega, fun s => by have := h.u s; omega, h.t, h.e⟩
theorem PS.push {st : PS} {j : Nat} {e : En} {nx : Int} (h : st.Ok j) (ho : e.off = st.us e.slot) (g : FG (addX st.X e) (st.all ++ [e]) (upd st.us e.slot (e.off + e.size)) 6) (hn : st.nx ≤ nx) (hn2 : nx ≤ j + 2) (hz : 0 ≤ e.size ∧ e.size ≤ 117) (hq : 1 ≤ e.seq ∧ e.seq < nx) (hk : Low e.key ∧ e.key.size ≤ 2) : (pushP st e nx).Ok (j + 1) := by
  rw [ho] at g
  refine ⟨g, ?_, Int.le_trans h.q0 hn, by show nx ≤ ((j + 1 : Nat) : Int) + 1; omega, fun s => ?_, fun s => ?_, fun o hm => ?_⟩
  · show (st.all ++ [_]).length ≤ j + 1
    have := h.n
    rw [List.length_append]; simp; omega
  · have hs := h.u s
    show 0 ≤ upd st.us e.slot (st.us e.slot + e.size) s ∧ upd st.us e.slot (st.us e.slot + e.size) s ≤ 118 * ((j + 1 : Nat) : Int)
    unfold upd
    split
    · rename_i h1; subst h1; omega
    · omega
  · show upd st.us e.slot (st.us e.slot + e.size) s = sumE ((st.all ++ [e]).filter (inSlot s))
    rw [List.filter_append, sumE_app, ← h.t s]
    by_cases h1 : s = e.slot
    · subst h1
      rw [upd_same, List.filter_cons_of_pos (by simp [inSlot])]
      simp [sumE]
    · rw [upd_other _ _ h1, List.filter_cons_of_neg (by simp [inSlot]; exact fun hh => h1 hh.symm)]
      simp [sumE]
  · rcases List.mem_append.1 hm with hm | hm
    · obtain ⟨h1, h2, h3⟩ := h.e o hm
      exact ⟨h1, by show o.seq < nx; omega, h3⟩
    · rw [List.mem_singleton.1 hm]
      exact ⟨hq.1, hq.2, hk.1, hk.2, hz.2⟩
theorem newP_ok {st : PS} {j : Nat} {t : Pt} (h : st.Ok j) (hj : j ≤ 61) (ht : t.Ok) : addE st.X (newP st t) = 0 ∧ (pushP st (newP st t) (st.nx + 1)).Ok (j + 1) := by
  obtain ⟨k1, k2, k3, k4⟩ := ptKey_ok t.key
  have hu := h.u (t.slot % 6)
  have q0 := h.q0
  have q1 := h.q1
  have hz : 0 ≤ (if t.del = true then 0 else t.size % 100) ∧ (if t.del = true then 0 else t.size % 100) ≤ 99 := by split <;> omega
  have hz2 : (if t.del = true then (0 : Int) else t.size % 100) = 0 ∨ t.del = false := by
    cases t.del
    · exact .inr rfl
    · exact .inl rfl
  have hv : validE (newP st t) = true := (valid_iff _).2 ⟨k1, q0, show st.nx ≤ 1099511627776 by omega, hu.1, by show 16 + ((ptKey t.key).size : Int) ≤ 16 + ((ptKey t.key).size : Int) + _; omega,
    hz2.imp (fun h => (show 16 + ((ptKey t.key).size : Int) + _ = 16 + ((ptKey t.key).size : Int) by omega)) id, by show 16 + ((ptKey t.key).size : Int) + _ ≤ (8192 : Int); omega, by show st.us (t.slot % 6) ≤ 8192 - (16 + ((ptKey t.key).size : Int) + _); omega⟩
  obtain ⟨a, g⟩ := h.g.new (e := newP st t) (fun o ho => by have := (h.e o ho).2.1; show o.seq ≠ st.nx; omega) (show (0 : Int) ≤ t.slot % 6 by omega) (show t.slot % 6 < (6 : Int) by omega) hv (Int.le_refl _)
  exact ⟨a, PS.push h rfl g (by omega) (by omega) ⟨by show (0 : Int) ≤ 16 + ((ptKey t.key).size : Int) + _; omega, by show 16 + ((ptKey t.key).size : Int) + _ ≤ (117 : Int); omega⟩ ⟨q0, by show st.nx < st.nx + 1; omega⟩ ⟨k4, k3⟩⟩
theorem headP_mem {st : PS} {t : Pt} {j : Nat} (h : st.Ok j) (hc : isCp st t = true) : headP st t ∈ st.all ∧ (headP st t).key = ptKey t.key ∧ ∃ r, st.X.of (ptKey t.key) = headP st t :: r := by
  unfold isCp at hc
  unfold headP
  cases hl : st.X.of (ptKey t.key) with
  | nil => rw [hl] at hc; simp at hc
  | cons e r =>
    have h1 := (h.g.of (ptKey t.key) e).1 (by rw [hl]; simp)
    exact ⟨h1.1, h1.2, r, rfl⟩
theorem copyP_ok {st : PS} {j : Nat} {t : Pt} (h : st.Ok j) (hj : j ≤ 61) (hc : isCp st t = true) (hh : hasP st t = false) : addE st.X (copyP st t) = 0 ∧ (pushP st (copyP st t) st.nx).Ok (j + 1) := by
  obtain ⟨m1, m2, _⟩ := headP_mem h hc
  obtain ⟨e1, e2, e3, e4, e5⟩ := h.e _ m1
  have hv0 := h.g.val m1
  obtain ⟨k1, k2, k3, k4⟩ := ptKey_ok t.key
  have hu := h.u (t.slot % 6)
  rw [m2] at hv0
  have he : copyP st t = { headP st t with slot := (copyP st t).slot, off := (copyP st t).off } := En.ext' rfl m2.symm rfl rfl rfl rfl
  have hv : validE (copyP st t) = true := (valid_iff _).2 ⟨k1, hv0.2.1, hv0.2.2.1, hu.1, hv0.2.2.2.2.1, hv0.2.2.2.2.2.1, hv0.2.2.2.2.2.2.1, by show st.us (t.slot % 6) ≤ 8192 - (headP st t).size; omega⟩
  have hd : ¬ ∃ o ∈ st.all, o.slot = (copyP st t).slot ∧ o.seq = (copyP st t).seq := by
    rintro ⟨o, ho, hs, hq⟩
    obtain ⟨q1, _, _⟩ := h.g.cp o ho _ m1 hq
    have := List.any_eq_false.1 hh o ((h.g.slot _ o).2 ⟨ho, hs⟩)
    simp only [Bool.and_eq_true, decide_eq_true_eq] at this
    exact this ⟨hq, by rw [q1, m2]⟩
  obtain ⟨a, g⟩ := h.g.copyYes (e := copyP st t) m1 he (show (0 : Int) ≤ t.slot % 6 by omega) (show t.slot % 6 < (6 : Int) by omega) hv (Int.le_refl _) hd
  exact ⟨a, PS.push h rfl g (Int.le_refl _) (by have := h.q1; omega) ⟨by show 0 ≤ (headP st t).size; omega, e5⟩ ⟨e1, e2⟩ ⟨k4, k3⟩⟩
theorem stepP_ok {st : PS} {j : Nat} {t : Pt} (h : st.Ok j) (hj : j ≤ 61) (ht : t.Ok) : (stepP st t).Ok (j + 1) := by
  unfold stepP
  split
  · rename_i hc
    split
    · exact PS.later h (by omega)
    · rename_i hh
      exact (copyP_ok h hj hc (by simpa using hh)).2
  · exact (newP_ok h hj ht).2
theorem foldP_ok' : ∀ (n : Nat) (L : List Pt), L.length = n → n ≤ 62 → (∀ t ∈ L, t.Ok) → (foldP L).Ok n
  | 0, L, hL, _, _ => by
    rw [List.eq_nil_of_length_eq_zero hL]
    exact ⟨FG.start 6 (by omega) (by omega) _, Nat.le_refl _, Int.le_refl _, Int.le_refl _, fun s => ⟨Int.le_refl _, Int.le_refl _⟩, fun s => rfl, (fun _ h => by cases h)⟩
  | n + 1, L, hL, hn, ht => by
    have hne : L ≠ [] := fun h => by rw [h] at hL; cases hL
    have e := List.dropLast_concat_getLast hne
    have h1 := foldP_ok' n L.dropLast (by rw [List.length_dropLast]; omega) (by omega) (fun m h => ht m (List.dropLast_subset L h))
    rw [← e, foldP_snoc]
    exact stepP_ok h1 (by omega) (ht _ (List.getLast_mem hne))
theorem foldP_ok (L : List Pt) (hn : L.length ≤ 62) (ht : ∀ t ∈ L, t.Ok) : (foldP L).Ok L.length := foldP_ok' _ L rfl hn ht
end Go.Proofs.YtemjnppplmankaaGreat

/- An index has each entry once: what it has of a key, or in a slot, is what it has with that key, in that slot. No walk. -/
set_option linter.unusedVariables false
set_option linter.unusedSimpArgs false
namespace Go.Proofs.YtemjnppplmankaaGreat

theorem ents_nodup {X : IX} (h : X.Wf) : X.ents.Nodup := by
  refine (h.v.nodup_iff).1 ?_
  refine List.pairwise_flatMap.2 ⟨fun x hx => (h.k x hx).p.imp (fun {a b} hab e => by subst e; rw [ltE_irr] at hab; cases hab), ?_⟩
  refine List.Pairwise.imp_of_mem (fun {x y} hx hy hxy a ha b hb e => ?_) h.k0
  have h1 := (h.k x hx).e a ha
  have h2 := (h.k y hy).e b hb
  rw [← h1, ← h2, e] at hxy
  rw [ordS.irr] at hxy
  cases hxy
theorem of_nodup {X : IX} (h : X.Wf) (k : ByteArray) : (X.of k).Nodup := (h.ofPair k).imp (fun {a b} hab e => by subst e; rw [ltE_irr] at hab; cases hab)
def keyP (k : ByteArray) (e : En) : Bool := decide (e.key = k)
def slotP (s : Int) (e : En) : Bool := decide (e.slot = s)
theorem of_perm {X : IX} (h : X.Wf) (k : ByteArray) : (X.of k).Perm (X.ents.filter (keyP k)) :=
  (List.perm_ext_iff_of_nodup (of_nodup h k) ((ents_nodup h).filter _)).2 (fun e => by rw [h.of_mem, List.mem_filter, keyP, decide_eq_true_iff])
theorem slot_perm {X : IX} (h : X.Wf) (s : Int) : (X.slot s).Perm (X.ents.filter (slotP s)) :=
  (List.perm_ext_iff_of_nodup (slot_nodup (h.slotOk s)) ((ents_nodup h).filter _)).2 (fun e => by rw [h.slot_mem, List.mem_filter, slotP, decide_eq_true_iff])
end Go.Proofs.YtemjnppplmankaaGreat

/- ledger.All: the bytes of all slots. -/
set_option linter.unusedVariables false
set_option linter.unusedSimpArgs false
namespace Go.Proofs.YtemjnppplmankaaGreat
open Go.RowKit Go.Shelf
attribute [local go_sem] OvM cell_ovm obj_ovm
attribute [local go_sem] Oper.semAt_some

theorem infoBy : (Tryz.prog.info? 97).map (fun i => (i.zero, i.size, i.bytes)) = some (some (.agg #[.int .i64 0, .int .i64 0, .int .i64 0, .int .i64 0, .int .i64 0]), 5, 40) := by kernel_rfl
def cellsBy (b : By) : List Value := [.int .i64 b.total, .int .i64 b.live, .int .i64 b.tombs, .int .i64 b.dead, .int .i64 b.last]
def rowBy (l : List By) : List Value := l.flatMap cellsBy
def allL (X : IX) (n : Nat) : List By := (List.range n).map fun i => byOf X (i : Nat)
theorem allL_succ (X : IX) (n : Nat) : allL X (n + 1) = allL X n ++ [byOf X n] := by simp [allL, List.range_succ]
theorem rowBy_snoc (l : List By) (b : By) : rowBy (l ++ [b]) = rowBy l ++ cellsBy b := by simp [rowBy]
def AllPost (X : IX) (w : World) (e : Ending) (w' : World) : Prop :=
  ∃ v, e = .returned (.tuple #[v, .int .i64 (if X.slots.length = 0 then 1 else 0)]) ∧ Nw w w' 97 5 v X.slots.length (rowBy (allL X X.slots.length)) ∧ Gr w w'
theorem Nw.nil (w : World) (e : TypeId) (K : Nat) : Nw w w e K (.slice none 0 0) 0 [] := ⟨Own.lift (World.ownsRow_nil w w.heap.size e K), fun q hq => by cases hq⟩
end Go.Proofs.YtemjnppplmankaaGreat

/- ledger.add: the sum of a row; ledger.Sum. -/
set_option linter.unusedVariables false
set_option linter.unusedSimpArgs false
namespace Go.Proofs.YtemjnppplmankaaGreat
open Go.RowKit Go.Shelf
attribute [local go_sem] OvM cell_ovm obj_ovm
attribute [local go_sem] Oper.semAt_some

theorem rowBy_cons (x : By) (l : List By) : rowBy (x :: l) = cellsBy x ++ rowBy l := rfl
theorem rowBy_get (l : List By) : ∀ i x, l[i]? = some x → ∀ j u, (cellsBy x)[j]? = some u → (rowBy l)[i * 5 + j]? = some u := by
  induction l with
  | nil => intro i x h; simp at h
  | cons y l ih =>
    intro i x h j u hu
    have hj : j < 5 := by have := (List.getElem?_eq_some_iff.1 hu).1; simpa [cellsBy] using this
    rw [rowBy_cons]
    cases i with
    | zero => simp at h; subst h; rw [List.getElem?_append_left (by simp [cellsBy]; omega)]; simpa using hu
    | succ i =>
      rw [List.getElem?_append_right (by simp [cellsBy]; omega), show (i + 1) * 5 + j - (cellsBy y).length = i * 5 + j by simp [cellsBy]; omega]
      exact ih i x (by simpa using h) j u hu
theorem ownBy_at {w : World} {v : Value} {l : List By} (h : Own w 97 5 v l.length (rowBy l)) : ∃ a cap, v = .slice a l.length cap ∧ l.length ≤ cap ∧ cap ≤ maxLen ∧ ∀ i x, l[i]? = some x → ∃ g, a = some ⟨g, 0, none⟩ ∧
    ∀ j u, (cellsBy x)[j]? = some u → w.cell? ⟨g, i * 5 + j, none⟩ = some u := by
  rcases h.2 with ⟨hv, h0⟩ | ⟨g, cap, cur, hv, _, hg, h1, h2, h3, h4⟩
  · have hL : l = [] := List.eq_nil_of_length_eq_zero h0
    subst hL
    exact ⟨none, 0, hv, Nat.le_refl _, by simp [maxLen], fun i x hx => by simp at hx⟩
  · subst hv
    refine ⟨_, cap, rfl, h1, h2, fun i x hx => ⟨g, rfl, fun j u hu => ?_⟩⟩
    have hc := h.cells (g := g) rfl
    have hadd : ∀ j, (⟨g, 0, none⟩ : Addr).add j = ⟨g, j, none⟩ := fun j => by unfold Addr.add; split <;> simp_all
    rw [← hadd]
    exact hc _ _ (rowBy_get l i x hx j u hu)
def addB (a b : By) : By := ⟨a.total + b.total, a.live + b.live, a.tombs + b.tombs, a.dead + b.dead, max a.last b.last⟩
def addL (l : List By) : By := l.foldl addB zBy
theorem addL_snoc (l : List By) (b : By) : addL (l ++ [b]) = addB (addL l) b := by simp [addL]
/-- No more than M in any field. -/
structure ByLe (b : By) (M : Int) : Prop where
  t : 0 ≤ b.total ∧ b.total ≤ M
  l : 0 ≤ b.live ∧ b.live ≤ M
  m : 0 ≤ b.tombs ∧ b.tombs ≤ M
  d : 0 ≤ b.dead ∧ b.dead ≤ M
  s : 0 ≤ b.last ∧ b.last ≤ 1099511627776
theorem addL_le {l : List By} (h : ∀ b ∈ l, ByLe b 8388608) : ByLe (addL l) (8388608 * l.length) := by
  have : ∀ (l : List By) (a : By) (M : Int), ByLe a M → (∀ b ∈ l, ByLe b 8388608) → ByLe (l.foldl addB a) (M + 8388608 * l.length) := by
    intro l
    induction l with
    | nil => intro a M ha _; simpa using ha
    | cons y l ih =>
      intro a M ha hl
      have hy := hl y (by simp)
      obtain ⟨t1, l1, m1, d1, s1⟩ := ha
      obtain ⟨t2, l2, m2, d2, s2⟩ := hy
      have := ih (addB a y) (M + 8388608) ⟨by simp only [addB]; omega, by simp only [addB]; omega, by simp only [addB]; omega, by simp only [addB]; omega, by simp only [addB]; omega⟩ (fun b hb => hl b (List.mem_cons_of_mem _ hb))
      rw [List.foldl_cons, List.length_cons, show M + 8388608 * ((l.length + 1 : Nat) : Int) = M + 8388608 + 8388608 * l.length by omega]
      exact this
  have := this l zBy 0 ⟨by simp [zBy], by simp [zBy], by simp [zBy], by simp [zBy], by simp [zBy]⟩ h
  simpa [addL] using this
theorem byOf_le {X : IX} (h : X.Wf) (s : Int) : ByLe (byOf X s) 8388608 := by
  have h1 := acc_ok X (X.slot s) (fun e he => ((h.slotOk s).e e he).2)
  have h2 := h.slot_le s
  obtain ⟨o1, o2, o3, o4, o5, o6⟩ := h1
  exact ⟨by simp only [byOf]; omega, by simp only [byOf]; omega, by simp only [byOf]; omega, by simp only [byOf]; omega, by simp only [byOf]; omega⟩
def sumBy (X : IX) : By × Int := if X.slots.length = 0 then (zBy, 1) else (addL (allL X X.slots.length), 0)
end Go.Proofs.YtemjnppplmankaaGreat

/- LedgerSums in plain Lean. No walk. -/
set_option linter.unusedVariables false
set_option linter.unusedSimpArgs false
namespace Go.Proofs.YtemjnppplmankaaGreat

/-! ### The greatest number -/
structure MaxQ (l : List En) (m : Int) : Prop where
  ge : ∀ e ∈ l, e.seq ≤ m
  z : 0 ≤ m
  at' : m = 0 ∨ ∃ e ∈ l, m = e.seq
theorem MaxQ.uniq {l : List En} {m n : Int} (h : MaxQ l m) (g : MaxQ l n) : m = n := by
  rcases h.at' with h1 | ⟨e, he, h1⟩ <;> rcases g.at' with g1 | ⟨f, hf, g1⟩
  · omega
  · have := h.ge f hf; have := g.z; have := h.z; omega
  · have := g.ge e he; have := h.z; have := g.z; omega
  · have := g.ge e he; have := h.ge f hf; omega
theorem MaxQ.perm {l l' : List En} {m : Int} (h : MaxQ l m) (p : l.Perm l') : MaxQ l' m := ⟨fun e he => h.ge e (p.mem_iff.2 he), h.z, h.at'.imp id (fun ⟨e, he, x⟩ => ⟨e, p.mem_iff.1 he, x⟩)⟩
theorem MaxQ.nil : MaxQ [] 0 := ⟨(fun _ h => by cases h), Int.le_refl _, .inl rfl⟩
theorem MaxQ.app {l l' : List En} {m n : Int} (h : MaxQ l m) (g : MaxQ l' n) : MaxQ (l ++ l') (max m n) := by
  have h0 := h.z
  have g0 := g.z
  refine ⟨fun e he => ?_, by omega, ?_⟩
  · rcases List.mem_append.1 he with he | he
    · have := h.ge e he; omega
    · have := g.ge e he; omega
  · rcases Int.le_total m n with hm | hm
    · rw [show max m n = n by omega]
      exact g.at'.imp id (fun ⟨e, he, x⟩ => ⟨e, List.mem_append_right _ he, x⟩)
    · rw [show max m n = m by omega]
      exact h.at'.imp id (fun ⟨e, he, x⟩ => ⟨e, List.mem_append_left _ he, x⟩)
theorem head_max {X : IX} (h : X.Wf) (k : ByteArray) : MaxQ (X.of k) ((X.of k).headD zE).seq := by
  have hp := h.ofPair k
  cases hl : X.of k with
  | nil => exact MaxQ.nil
  | cons e r =>
    rw [hl] at hp
    have hp := List.pairwise_cons.1 hp
    have hv : 1 ≤ e.seq := by
      have h1 := (h.of_mem k e).1 (by rw [hl]; simp)
      have := (valid_iff e).1 (h.valid h1.1).1
      omega
    refine ⟨fun o ho => ?_, by show 0 ≤ e.seq; omega, .inr ⟨e, by simp, rfl⟩⟩
    show o.seq ≤ e.seq
    rcases List.mem_cons.1 ho with rfl | ho
    · exact Int.le_refl _
    · have := of_decide_eq_true (hp.1 o ho)
      omega
theorem lastF_max {X : IX} (h : X.Wf) : ∀ (n : Nat) (ks : List ByteArray), ks.length = n → MaxQ ((ks.map X.of).flatten) (lastF X ks)
  | 0, ks, hk => by rw [List.eq_nil_of_length_eq_zero hk]; exact MaxQ.nil
  | n + 1, ks, hk => by
    have hne : ks ≠ [] := fun h => by rw [h] at hk; cases hk
    obtain ⟨d, k, rfl⟩ : ∃ d k, ks = d ++ [k] := ⟨_, _, (List.dropLast_concat_getLast hne).symm⟩
    rw [List.length_append] at hk
    have h1 := lastF_max h n d (by simpa using hk)
    have h2 := h1.app (head_max h k)
    rw [← lastF_snoc] at h2
    refine h2.perm ?_
    rw [List.map_append, List.flatten_append]
    simp
theorem of_keys' {X : IX} (h : X.Wf) : ∀ x ∈ X.keys, X.of x.1 = x.2 := fun x hx => by
  unfold IX.of
  rw [(look_mem ordS h.k0 x.1 x.2).2 hx]
  rfl
theorem last_max {X : IX} (h : X.Wf) : MaxQ X.ents X.last := by
  have h1 := lastF_max h _ X.ks rfl
  have e : (X.ks.map X.of).flatten = X.keys.flatMap Prod.snd := by
    unfold IX.ks
    rw [List.map_map, List.flatMap]
    congr 1
    exact List.map_congr_left (fun x hx => of_keys' h x hx)
  rw [e] at h1
  exact h1.perm h.v

/-! ### The bytes of a slot -/
theorem acc_sum (X : IX) : ∀ (l : List En) (a : AccB), (l.foldl (stepB X) a).l + (l.foldl (stepB X) a).t + (l.foldl (stepB X) a).d = a.l + a.t + a.d + sumE l
  | [], a => by simp [sumE]
  | e :: l, a => by
    rw [List.foldl_cons, acc_sum X l]
    have : (stepB X a e).l + (stepB X a e).t + (stepB X a e).d = a.l + a.t + a.d + e.size := by
      unfold stepB
      (repeat' split) <;> simp only <;> omega
    rw [this]
    simp only [sumE]
    omega
theorem acc_max (X : IX) : ∀ (n : Nat) (l : List En), l.length = n → (∀ e ∈ l, 0 ≤ e.seq) → MaxQ l (accB X l).last
  | 0, l, hl, _ => by rw [List.eq_nil_of_length_eq_zero hl]; exact MaxQ.nil
  | n + 1, l, hl, h0 => by
    have hne : l ≠ [] := fun h => by rw [h] at hl; cases hl
    obtain ⟨d, x, rfl⟩ : ∃ d x, l = d ++ [x] := ⟨_, _, (List.dropLast_concat_getLast hne).symm⟩
    rw [List.length_append] at hl
    have h1 := acc_max X n d (by simpa using hl) (fun y hy => h0 y (List.mem_append_left _ hy))
    have h2 : MaxQ [x] x.seq := ⟨fun y hy => by rw [List.mem_singleton.1 hy]; exact Int.le_refl _, h0 x (by simp), .inr ⟨_, by simp, rfl⟩⟩
    have h3 := h1.app h2
    have h4 : (accB X (d ++ [x])).last = max (accB X d).last x.seq := by
      rw [accB_snoc]
      unfold stepB
      (repeat' split) <;> rfl
    rw [h4]
    exact h3
theorem byOf_total (X : IX) (s : Int) : (byOf X s).total = sumE (X.slot s) := by
  have := acc_sum X (X.slot s) ⟨0, 0, 0, 0⟩
  show (accB X (X.slot s)).l + (accB X (X.slot s)).t + (accB X (X.slot s)).d = _
  unfold accB
  rw [this]
  simp
theorem slot_max {X : IX} (h : X.Wf) (s : Int) : MaxQ (X.slot s) (byOf X s).last :=
  acc_max X _ (X.slot s) rfl (fun e he => by have := (valid_iff e).1 ((h.slotOk s).e e he).2; omega)
theorem sumE_pos {X : IX} (h : X.Wf) (s : Int) : 0 ≤ sumE (X.slot s) ∧ (sumE (X.slot s) = 0 → X.slot s = []) := by
  have hv : ∀ e ∈ X.slot s, 16 ≤ e.size := fun e he => by have := (valid_iff e).1 ((h.slotOk s).e e he).2; omega
  generalize X.slot s = l at hv
  have hp : ∀ l : List En, (∀ e ∈ l, 16 ≤ e.size) → 0 ≤ sumE l := by
    intro l
    induction l with
    | nil => intro _; exact Int.le_refl _
    | cons e l ih => intro hh; have := ih (fun x hx => hh x (List.mem_cons_of_mem _ hx)); have := hh e (by simp); show 0 ≤ e.size + sumE l; omega
  refine ⟨hp l hv, fun h0 => ?_⟩
  cases l with
  | nil => rfl
  | cons e l =>
    have := hp l (fun x hx => hv x (List.mem_cons_of_mem _ hx))
    have := hv e (by simp)
    have h0 : e.size + sumE l = 0 := h0
    omega
structure ByOk (b : By) (m : Int) : Prop where
  l : 0 ≤ b.live
  t : 0 ≤ b.tombs
  d : 0 ≤ b.dead
  s : b.total = b.live + b.tombs + b.dead
  m : b.total ≤ m
  q0 : 0 ≤ b.last
  q1 : b.last ≤ 1099511627776
  z : b.last = 0 ↔ b.total = 0
theorem ByOk.chk {b : By} {m : Int} (h : ByOk b m) (hm : m ≤ 262144) : chkBy b = 0 := by
  obtain ⟨h1, h2, h3, h4, h5, h6, h7, h8⟩ := h
  unfold chkBy inBy
  rw [if_pos]
  exact ⟨decide_eq_true ⟨h1, by omega⟩, decide_eq_true ⟨h2, by omega⟩, decide_eq_true ⟨h3, by omega⟩, decide_eq_true ⟨by omega, by omega⟩, h4, h6, h7, h8⟩
theorem ByOk.add {a b : By} {m n : Int} (h : ByOk a m) (g : ByOk b n) : ByOk (addB a b) (m + n) := by
  obtain ⟨h1, h2, h3, h4, h5, h6, h7, h8⟩ := h
  obtain ⟨g1, g2, g3, g4, g5, g6, g7, g8⟩ := g
  refine ⟨by show 0 ≤ a.live + b.live; omega, by show 0 ≤ a.tombs + b.tombs; omega, by show 0 ≤ a.dead + b.dead; omega, by show a.total + b.total = a.live + b.live + (a.tombs + b.tombs) + (a.dead + b.dead); omega, by show a.total + b.total ≤ m + n; omega, by show 0 ≤ max a.last b.last; omega, by show max a.last b.last ≤ 1099511627776; omega, ?_⟩
  show max a.last b.last = 0 ↔ a.total + b.total = 0
  constructor
  · intro hh
    have := h8.1 (by omega)
    have := g8.1 (by omega)
    omega
  · intro hh
    have := h8.2 (by omega)
    have := g8.2 (by omega)
    omega
theorem ByOk.zero : ByOk zBy 0 := ⟨Int.le_refl _, Int.le_refl _, Int.le_refl _, rfl, Int.le_refl _, Int.le_refl _, by decide, by simp [zBy]⟩
theorem byOf_ok {X : IX} (h : X.Wf) (s : Int) : ByOk (byOf X s) (sumE (X.slot s)) := by
  have ha := acc_ok X (X.slot s) (fun e he => ((h.slotOk s).e e he).2)
  have hm := slot_max h s
  have ht := byOf_total X s
  refine ⟨ha.l0, ha.t0, ha.d0, rfl, by rw [ht]; exact Int.le_refl _, ha.m0, ha.m1, ?_⟩
  rw [ht]
  constructor
  · intro h0
    cases hl : X.slot s with
    | nil => rfl
    | cons e r =>
      exfalso
      have h1 : e ∈ X.slot s := by rw [hl]; simp
      have h2 := hm.ge e h1
      have := (valid_iff e).1 ((h.slotOk s).e e h1).2
      omega
  · intro h0
    have h1 := (sumE_pos h s).2 h0
    rw [h1] at hm
    exact hm.uniq MaxQ.nil
theorem allL_ok {X : IX} (h : X.Wf) (m : Int) (hm : ∀ s : Int, sumE (X.slot s) ≤ m) : ∀ n : Nat, ByOk (addL (allL X n)) (m * n)
  | 0 => by simpa [allL, addL] using ByOk.zero
  | n + 1 => by
    rw [allL_succ, addL_snoc]
    have h1 := allL_ok h m hm n
    have h2 := byOf_ok h (n : Int)
    have h3 := h1.add h2
    have h4 := hm (n : Int)
    refine ⟨h3.l, h3.t, h3.d, h3.s, Int.le_trans h3.m ?_, h3.q0, h3.q1, h3.z⟩
    rw [show m * ((n + 1 : Nat) : Int) = m * n + m by rw [Int.natCast_add, Int.mul_add]; simp]
    omega
theorem allL_max {X : IX} (h : X.Wf) : ∀ n : Nat, MaxQ (((List.range n).map (fun (i : Nat) => X.slot i)).flatten) (addL (allL X n)).last
  | 0 => MaxQ.nil
  | n + 1 => by
    rw [allL_succ, addL_snoc]
    have h1 := (allL_max h n).app (slot_max h (n : Int))
    rw [List.range_succ, List.map_append, List.flatten_append]
    have e : ([n].map (fun (i : Nat) => X.slot i)).flatten = X.slot (n : Int) := by simp
    rw [e]
    exact h1
theorem slots_flat (X : IX) : ((List.range X.slots.length).map (fun (i : Nat) => X.slot i)).flatten = X.ents := by
  unfold IX.ents
  congr 1
  refine List.ext_getElem? (fun i => ?_)
  by_cases h : i < X.slots.length
  · have h1 : X.slots[i]? = some (X.slots[i]'h) := List.getElem?_eq_getElem h
    rw [List.getElem?_map, List.getElem?_range h, Option.map_some, slot_at h1, h1]
  · rw [List.getElem?_eq_none (by simpa using h), List.getElem?_eq_none (by omega)]
theorem sum_last {X : IX} (h : X.Wf) : (addL (allL X X.slots.length)).last = X.last := by
  have h1 := allL_max h X.slots.length
  rw [slots_flat] at h1
  exact h1.uniq (last_max h)
/-- Total of a slot is what was appended. -/
theorem tot_us {st : PS} {j : Nat} (h : st.Ok j) (s : Int) : (byOf st.X s).total = st.us s := by
  rw [byOf_total, h.t s]
  refine sumE_perm ((slot_perm h.g.wf s).trans ?_)
  exact (h.g.pm.filter _).symm
end Go.Proofs.YtemjnppplmankaaGreat

/- Sides of slots, and their order, in plain Lean. No walk. -/
set_option linter.unusedVariables false
set_option linter.unusedSimpArgs false
namespace Go.Proofs.YtemjnppplmankaaGreat

/-- Sorted by a comparison. -/
abbrev SrtS (f : Sd → Sd → Int) (M : List Sd) : Prop := M.Pairwise (fun a b => f a b = -1)
theorem srt_uniq {f : Sd → Sd → Int} {S M M' : List Sd} (T : Tot f S) (h : M.Perm S) (h' : M'.Perm S) (s : SrtS f M) (s' : SrtS f M') : M = M' := by
  have hR : ∀ {L : List Sd}, L.Perm S → SrtS f L → L.Pairwise (fun a b => a ∈ S ∧ b ∈ S ∧ f a b = -1) := fun hp hs =>
    List.Pairwise.imp_of_mem (fun ha hb h => ⟨hp.mem_iff.1 ha, hp.mem_iff.1 hb, h⟩) hs
  refine pair_eq (R := fun a b => a ∈ S ∧ b ∈ S ∧ f a b = -1) (fun a h => ?_) (fun a b c h g => ?_) (hR h s) (hR h' s') (fun x => (h.mem_iff).trans (h'.mem_iff).symm)
  · have h1 := T.refl a h.1
    have h2 := h.2.2
    omega
  · obtain ⟨ha, hb, hab⟩ := h
    obtain ⟨_, hc, hbc⟩ := g
    have n1 : a.1 ≠ b.1 := fun e => by
      rw [T.inj a ha b hb e, T.refl b hb] at hab; omega
    have n2 : b.1 ≠ c.1 := fun e => by
      rw [T.inj b hb c hc e, T.refl c hc] at hbc; omega
    have n3 : a.1 ≠ c.1 := fun e => by
      have e2 := T.inj a ha c hc e
      subst e2
      have := (T.anti a ha b hb n1).2
      omega
    exact ⟨ha, hc, T.trans a ha b hb c hc n1 n2 n3 hab hbc⟩
abbrev gS (M : List Sd) (x : Nat) : Sd := M[x]?.getD (0, 0, 0)
theorem gS_mem {M : List Sd} {x : Nat} (h : x < M.length) : gS M x ∈ M := by
  unfold gS
  rw [List.getElem?_eq_getElem h]
  exact List.getElem_mem h
/-- Two elements change places. -/
def swS (M : List Sd) (j k : Nat) : List Sd := (M.set j (gS M k)).set k (gS M j)
theorem swS_len (M : List Sd) (j k : Nat) : (swS M j k).length = M.length := by simp [swS]
theorem swS_perm {M : List Sd} {j k : Nat} (hj : j < M.length) (hk : k < M.length) : (swS M j k).Perm M := by
  unfold swS gS
  rw [List.getElem?_eq_getElem hj, List.getElem?_eq_getElem hk]
  exact List.set_set_perm hj hk
theorem swS_get {M : List Sd} {j k : Nat} (hj : j < M.length) (hk : k < M.length) (x : Nat) : gS (swS M j k) x = if x = k then gS M j else if x = j then gS M k else gS M x := by
  unfold swS
  show ((M.set j (gS M k)).set k (gS M j))[x]?.getD (0, 0, 0) = _
  by_cases h1 : x = k
  · subst h1
    rw [if_pos rfl, List.getElem?_set_self (by rw [List.length_set]; exact hk)]
    rfl
  · rw [if_neg h1, List.getElem?_set_ne (fun h => h1 h.symm)]
    by_cases h2 : x = j
    · subst h2
      rw [if_pos rfl, List.getElem?_set_self hj]
      rfl
    · rw [if_neg h2, List.getElem?_set_ne (fun h => h2 h.symm)]
/-- The first i are sorted. -/
structure InI (f : Sd → Sd → Int) (S : List Sd) (i : Nat) (M : List Sd) : Prop where
  pm : M.Perm S
  a : ∀ x y, x < y → y < i → f (gS M x) (gS M y) = -1
/-- The first i + 1 are sorted but for the j-th, which goes ahead of those behind it. -/
structure InJ (f : Sd → Sd → Int) (S : List Sd) (i j : Nat) (M : List Sd) : Prop where
  pm : M.Perm S
  a : ∀ x y, x < y → y ≤ i → x ≠ j → y ≠ j → f (gS M x) (gS M y) = -1
  b : ∀ y, j < y → y ≤ i → f (gS M j) (gS M y) = -1
section
variable {f : Sd → Sd → Int} {S M : List Sd} {i j : Nat}
theorem InI.start : InI f S 1 S := ⟨List.Perm.refl _, fun x y h1 h2 => by omega⟩
theorem InI.begin (h : InI f S i M) : InJ f S i i M := ⟨h.pm, fun x y h1 h2 _ h4 => h.a x y h1 (by omega), fun y h1 h2 => by omega⟩
theorem InJ.slots (hd : (S.map (·.1)).Nodup) (h : InJ f S i j M) {x y : Nat} (hx : x < S.length) (hy : y < S.length) (hxy : x ≠ y) : (gS M x).1 ≠ (gS M y).1 := fun e => by
  have hl := h.pm.length_eq
  have hd2 : (M.map (·.1)).Nodup := (h.pm.map _).nodup_iff.2 hd
  unfold gS at e
  rw [List.getElem?_eq_getElem (by omega), List.getElem?_eq_getElem (by omega)] at e
  exact hxy (get_slot hd2 (by omega) (by omega) e)
theorem InJ.swap (T : Tot f S) (hd : (S.map (·.1)).Nodup) (h : InJ f S i j M) (hj : 0 < j) (hji : j ≤ i) (hi : i < S.length) (hlt : f (gS M j) (gS M (j - 1)) < 0) : InJ f S i (j - 1) (swS M j (j - 1)) := by
  have hl := h.pm.length_eq
  have h1 : f (gS M j) (gS M (j - 1)) = -1 := by
    have := (T.anti _ (h.pm.mem_iff.1 (gS_mem (M := M) (x := j) (by omega))) _ (h.pm.mem_iff.1 (gS_mem (M := M) (x := j - 1) (by omega))) (h.slots hd (by omega) (by omega) (by omega))).1
    omega
  have hg := fun x => swS_get (M := M) (j := j) (k := j - 1) (by omega) (by omega) x
  refine ⟨(swS_perm (by omega) (by omega)).trans h.pm, fun x y hxy hy nx ny => ?_, fun y hy1 hy2 => ?_⟩
  · rw [hg, hg, if_neg nx, if_neg ny]
    by_cases e1 : x = j
    · subst e1
      rw [if_pos rfl, if_neg (by omega)]
      exact h.a (x - 1) y (by omega) hy (by omega) (by omega)
    · rw [if_neg e1]
      by_cases e2 : y = j
      · subst e2
        rw [if_pos rfl]
        exact h.a x (y - 1) (by omega) (by omega) e1 (by omega)
      · rw [if_neg e2]
        exact h.a x y hxy hy e1 e2
  · rw [hg, hg, if_pos rfl, if_neg (by omega)]
    by_cases e2 : y = j
    · rw [if_pos e2]; exact h1
    · rw [if_neg e2]
      exact h.b y (by omega) hy2
theorem InJ.stop (T : Tot f S) (hd : (S.map (·.1)).Nodup) (h : InJ f S i j M) (hji : j ≤ i) (hi : i < S.length) (hs : j = 0 ∨ ¬ f (gS M j) (gS M (j - 1)) < 0) : InI f S (i + 1) M := by
  have hl := h.pm.length_eq
  have hm : ∀ x, x ≤ i → gS M x ∈ S := fun x hx => h.pm.mem_iff.1 (gS_mem (M := M) (x := x) (by omega))
  refine ⟨h.pm, fun x y hxy hy => ?_⟩
  by_cases e1 : x = j
  · subst e1; exact h.b y hxy (by omega)
  by_cases e2 : y = j
  · subst e2
    rcases hs with h0 | h0
    · omega
    · have h1 : f (gS M (y - 1)) (gS M y) = -1 := by
        have := T.anti _ (hm y (by omega)) _ (hm (y - 1) (by omega)) (h.slots hd (by omega) (by omega) (by omega))
        omega
      by_cases e3 : x = y - 1
      · rw [e3]; exact h1
      · exact T.trans _ (hm x (by omega)) _ (hm (y - 1) (by omega)) _ (hm y (by omega)) (h.slots hd (by omega) (by omega) (by omega)) (h.slots hd (by omega) (by omega) (by omega)) (h.slots hd (by omega) (by omega) (by omega)) (h.a x (y - 1) (by omega) (by omega) (by omega) (by omega)) h1
  · exact h.a x y hxy (by omega) e1 e2
theorem InI.done (h : InI f S i M) (hi : S.length ≤ i) : SrtS f M := by
  have hl := h.pm.length_eq
  refine List.pairwise_iff_getElem.2 (fun x y hx hy hxy => ?_)
  have := h.a x y hxy (by omega)
  unfold gS at this
  rwa [List.getElem?_eq_getElem hx, List.getElem?_eq_getElem hy] at this
/-- The first of a sorted list is its least. -/
theorem srt_head {B : Sd} {t : List Sd} (h : SrtS f (B :: t)) : IsMin f (B :: t) B := by
  refine ⟨by simp, fun s hs hne => ?_⟩
  rcases List.mem_cons.1 hs with rfl | hs
  · exact absurd rfl hne
  · exact (List.pairwise_cons.1 h).1 s hs
theorem Tot.perm {S' : List Sd} (T : Tot f S) (h : ∀ x ∈ S', x ∈ S) : Tot f S' :=
  ⟨fun a ha => T.refl a (h a ha), fun a ha b hb => T.anti a (h a ha) b (h b hb), fun a ha b hb c hc => T.trans a (h a ha) b (h b hb) c (h c hc), fun a ha b hb => T.inj a (h a ha) b (h b hb)⟩
theorem best_head {B : Sd} {t : List Sd} (T : Tot f S) (hp : (B :: t).Perm S) (hs : SrtS f (B :: t)) : bestK f S (S.length - 1) = B := by
  have hl := hp.length_eq
  simp only [List.length_cons] at hl
  have h1 := bestK_min T (S.length - 1) (by omega)
  rw [List.take_of_length_le (by omega)] at h1
  have h2 := srt_head hs
  refine h1.uniq T ⟨hp.mem_iff.1 h2.1, fun s hs => h2.2 s (hp.mem_iff.2 hs)⟩
end
theorem rowS_set (v : Sd) : ∀ (l : List Sd) (x : Nat), x < l.length → (((rowS l).set (x * 3) (.int .i64 v.1)).set (x * 3 + 1) (.int .i64 v.2.1)).set (x * 3 + 2) (.int .i64 v.2.2) = rowS (l.set x v)
  | [], x, h => by simp at h
  | y :: l, 0, _ => by
    have e : rowS (y :: l) = cellsS y ++ rowS l := rfl
    have e2 : rowS (v :: l) = cellsS v ++ rowS l := rfl
    rw [e, List.set_cons_zero, e2]
    simp [cellsS]
  | y :: l, x + 1, h => by
    have e : rowS (y :: l) = cellsS y ++ rowS l := rfl
    have e2 : rowS (y :: l.set x v) = cellsS y ++ rowS (l.set x v) := rfl
    have h2 := rowS_set v l x (by simpa using h)
    rw [List.set_cons_succ, e2, ← h2, e]
    have e3 : (x + 1) * 3 = x * 3 + 3 := by omega
    rw [e3]
    simp [cellsS, show x * 3 + 3 + 1 = x * 3 + 1 + 3 by omega, show x * 3 + 3 + 2 = x * 3 + 2 + 3 by omega]
theorem Own.side {w : World} {t : TypeId} {g n cap : Nat} {M : List Sd} (h : Own w t 3 (.slice (some ⟨g, 0, none⟩) n cap) n (rowS M)) (hl : M.length = n) {x : Nat} (hx : x < n) (v : Sd) :
    Own (((w.setCell ⟨g, x * 3, none⟩ (.int .i64 v.1)).setCell ⟨g, x * 3 + 1, none⟩ (.int .i64 v.2.1)).setCell ⟨g, x * 3 + 2, none⟩ (.int .i64 v.2.2)) t 3 (.slice (some ⟨g, 0, none⟩) n cap) n (rowS (M.set x v)) := by
  rw [← rowS_set v M x (by omega)]
  have hr := rowS_length M
  exact ((h.set (j := x * 3) (by omega) _).set (j := x * 3 + 1) (by rw [List.length_set]; omega) _).set (j := x * 3 + 2) (by rw [List.length_set, List.length_set]; omega) _
/-- What a policy looks at. -/
def sideOf (X : IX) (next : Int) (s : Int) : Sd := (s, sumZ (keepL X s), next - (byOf X s).last)
/-- The best victim first: the list that the walk leaves. -/
structure OrdS (policy room : Int) (S M : List Sd) : Prop where
  pm : M.Perm S
  s : SrtS (polS policy room) M
end Go.Proofs.YtemjnppplmankaaGreat

/- drumlinlaw22.Made in plain Lean. No walk. -/
set_option linter.unusedVariables false
set_option linter.unusedSimpArgs false
namespace Go.Proofs.YtemjnppplmankaaGreat

structure Tn where
  kind : Int
  slot : Int
  n : Int
  size : Int
structure Tn.Ok (t : Tn) : Prop where
  kind : 0 ≤ t.kind ∧ t.kind ≤ 255
  slot : 0 ≤ t.slot ∧ t.slot ≤ 255
  n : 0 ≤ t.n ∧ t.n ≤ 255
  size : 0 ≤ t.size ∧ t.size ≤ 255
def nmL : List ByteArray := [⟨#[97]⟩, ⟨#[98]⟩, ⟨#[97, 98]⟩, ⟨#[107, 49]⟩, ⟨#[120, 46, 121]⟩, ⟨#[122, 122]⟩]
def tnKey (n : Int) : ByteArray := nmL.getD (n % 6).toNat ⟨#[97]⟩
theorem tnKey_ok (n : Int) : keyChk (tnKey n) = 0 ∧ 1 ≤ (tnKey n).size ∧ (tnKey n).size ≤ 3 ∧ Low (tnKey n) := by
  have hl : ∀ x ∈ nmL, keyChk x = 0 ∧ 1 ≤ x.size ∧ x.size ≤ 3 ∧ Low x := by
    intro x hx
    simp only [nmL, List.mem_cons, List.not_mem_nil, or_false] at hx
    rcases hx with rfl | rfl | rfl | rfl | rfl | rfl
    all_goals
      refine ⟨by kernel_rfl, by decide, by decide, ?_⟩
      unfold Low
      decide
  have hk : (n % 6).toNat < nmL.length := by
    have h1 : 0 ≤ n % 6 ∧ n % 6 < 6 := by omega
    have h2 : nmL.length = 6 := rfl
    omega
  unfold tnKey
  rw [List.getD_eq_getElem?_getD, List.getElem?_eq_getElem hk]
  exact hl _ (List.getElem_mem hk)
structure MS where
  X : IX
  all : List En
  nx : Int
/-- Where the entries of a slot end. -/
def endF (s : Int) (a : Int) (e : En) : Int := if e.slot = s then max a (e.off + e.size) else a
def endL (all : List En) (s : Int) : Int := all.foldl (endF s) 0
theorem endL_snoc (all : List En) (e : En) (s : Int) : endL (all ++ [e]) s = endF s (endL all s) e := by simp [endL]
theorem endL_nn (all : List En) (s : Int) : 0 ≤ endL all s := by
  have h : ∀ (l : List En) (a : Int), a ≤ l.foldl (endF s) a := by
    intro l
    induction l with
    | nil => intro a; exact Int.le_refl _
    | cons e l ih =>
      intro a
      refine Int.le_trans ?_ (ih _)
      unfold endF
      split <;> omega
  exact h all 0
theorem endL_filter (all : List En) {s t : Int} (h : t ≠ s) : endL (all.filter (fun o => !decide (o.slot = s))) t = endL all t := by
  have h : ∀ (l : List En) (a : Int), (l.filter (fun o => !decide (o.slot = s))).foldl (endF t) a = l.foldl (endF t) a := by
    intro l
    induction l with
    | nil => intro a; rfl
    | cons e l ih =>
      intro a
      rw [List.filter_cons]
      by_cases he : e.slot = s
      · rw [if_neg (by simp [he]), ih, List.foldl_cons]
        congr 1
        unfold endF
        rw [if_neg (by omega)]
      · rw [if_pos (by simp [he]), List.foldl_cons, List.foldl_cons, ih]
  exact h all 0
theorem endL_zero (all : List En) (s : Int) : endL (all.filter (fun o => !decide (o.slot = s))) s = 0 := by
  have h : ∀ (l : List En), (l.filter (fun o => !decide (o.slot = s))).foldl (endF s) 0 = 0 := by
    intro l
    induction l with
    | nil => rfl
    | cons e l ih =>
      rw [List.filter_cons]
      by_cases he : e.slot = s
      · rw [if_neg (by simp [he]), ih]
      · rw [if_pos (by simp [he]), List.foldl_cons, show endF s 0 e = 0 from if_neg he, ih]
  exact h all
/-- An entry behind those of its slot. -/
def atM (st : MS) (e : En) : En := { e with off := endL st.all e.slot }
def dupM (st : MS) (e : En) : Bool := st.all.any (fun o => decide (o.slot = e.slot) && decide (o.seq = e.seq))
def addM (st : MS) (e : En) : MS := if dupM st e = true then st else ⟨addX st.X (atM st e), st.all ++ [atM st e], st.nx⟩
def newM (N : Int) (st : MS) (t : Tn) : En := ⟨st.nx, tnKey t.n, decide (t.kind % 8 = 4), t.slot % N, 0, 16 + ((tnKey t.n).size : Int) + if t.kind % 8 = 4 then 0 else t.size % 60⟩
def cpM (N : Int) (st : MS) (t : Tn) : En := { (st.all.getD (t.n % st.all.length).toNat zE) with slot := t.slot % N }
def nextM (st : MS) : MS := { st with nx := st.nx + 1 }
def dropM (st : MS) (s : Int) : MS := ⟨dropX st.X s, st.all.filter (fun o => !decide (o.slot = s)), st.nx⟩
def stepM (N : Int) (st : MS) (t : Tn) : MS :=
  if t.kind % 8 < 5 then addM (nextM st) (newM N st t)
  else if t.kind % 8 < 7 then (if st.all = [] then st else addM st (cpM N st t))
  else dropM st (t.slot % N)
def foldM (n : Nat) (L : List Tn) : MS := L.foldl (stepM n) ⟨ixNew n, [], 1⟩
theorem foldM_snoc (n : Nat) (L : List Tn) (t : Tn) : foldM n (L ++ [t]) = stepM n (foldM n L) t := by simp [foldM]
structure MS.Ok (st : MS) (N : Int) (j : Nat) : Prop where
  g : FG st.X st.all (endL st.all) N
  n : st.all.length ≤ j
  q0 : 1 ≤ st.nx
  q1 : st.nx ≤ j + 1
  u : ∀ s, endL st.all s ≤ 78 * j
  e : ∀ e ∈ st.all, 1 ≤ e.seq ∧ e.seq < st.nx ∧ Low e.key ∧ 1 ≤ e.key.size ∧ e.key.size ≤ 3 ∧ e.size ≤ 78
theorem MS.later {st : MS} {N : Int} {j j' : Nat} (h : st.Ok N j) (hj : j ≤ j') : st.Ok N j' := ⟨h.g, Nat.le_trans h.n hj, h.q0, by have := h.q1; omega, fun s => by have := h.u s; omega, h.e⟩
structure AddM (st : MS) (N : Int) (e : En) : Prop where
  slot : 0 ≤ e.slot ∧ e.slot < N
  sq : e.seq < st.nx ∧ 1 ≤ e.seq
  k : keyChk e.key = 0 ∧ 1 ≤ e.key.size ∧ e.key.size ≤ 3 ∧ Low e.key
  z : 16 + (e.key.size : Int) ≤ e.size ∧ e.size ≤ 78 ∧ (e.size = 16 + (e.key.size : Int) ∨ e.del = false)
  o : (∀ o ∈ st.all, o.seq ≠ e.seq) ∨ ∃ x ∈ st.all, x.seq = e.seq ∧ x.key = e.key ∧ x.del = e.del ∧ x.size = e.size
theorem dupM_iff {st : MS} {e : En} : dupM st e = true ↔ ∃ o ∈ st.all, o.slot = (atM st e).slot ∧ o.seq = (atM st e).seq := by
  unfold dupM
  rw [List.any_eq_true]
  simp only [Bool.and_eq_true, decide_eq_true_eq]
  exact Iff.rfl
theorem endM_upd {st : MS} {e : En} (hz : 0 ≤ e.size) : upd (endL st.all) e.slot (endL st.all e.slot + e.size) = endL (st.all ++ [atM st e]) := by
  funext s
  rw [endL_snoc]
  unfold upd endF
  by_cases h : s = e.slot
  · subst h
    rw [if_pos rfl, if_pos (show (atM st e).slot = e.slot from rfl)]
    show _ = max (endL st.all e.slot) (endL st.all e.slot + e.size)
    omega
  · rw [if_neg h, if_neg (show ¬ (atM st e).slot = s from fun hh => h hh.symm)]
theorem addM_ok {st : MS} {N : Int} {j : Nat} {e : En} (h : st.Ok N j) (hj : j ≤ 101) (a : AddM st N e) :
    (dupM st e = true → addE st.X (atM st e) = 6) ∧ (dupM st e = false → addE st.X (atM st e) = 0) ∧ (addM st e).Ok N (j + 1) ∧ Low (atM st e).key ∧ En64 (atM st e) ∧ validE (atM st e) = true ∧ 0 ≤ endL st.all e.slot ∧ endL st.all e.slot ≤ 7878 := by
  have hu := h.u e.slot
  have hu0 := endL_nn st.all e.slot
  have q1 := h.q1
  obtain ⟨z1, z2, z3⟩ := a.z
  obtain ⟨k1, k2, k3, k4⟩ := a.k
  have hv : validE (atM st e) = true := (valid_iff _).2 ⟨k1, a.sq.2, show e.seq ≤ 1099511627776 by have := a.sq.1; omega, hu0, z1, z3, show e.size ≤ (8192 : Int) by omega, show endL st.all e.slot ≤ 8192 - e.size by omega⟩
  have hpush : FG (addX st.X (atM st e)) (st.all ++ [atM st e]) (upd (endL st.all) e.slot (endL st.all e.slot + e.size)) N → (⟨addX st.X (atM st e), st.all ++ [atM st e], st.nx⟩ : MS).Ok N (j + 1) := fun g => by
    rw [endM_upd (by omega)] at g
    refine ⟨g, ?_, h.q0, by show st.nx ≤ ((j + 1 : Nat) : Int) + 1; omega, fun s => ?_, fun o ho => ?_⟩
    · show (st.all ++ [_]).length ≤ j + 1
      have := h.n
      rw [List.length_append]; simp; omega
    · have hs := h.u s
      show endL (st.all ++ [atM st e]) s ≤ 78 * ((j + 1 : Nat) : Int)
      rw [endL_snoc]
      unfold endF
      split
      · show max _ (endL st.all e.slot + e.size) ≤ _
        omega
      · omega
    · rcases List.mem_append.1 ho with ho | ho
      · exact h.e o ho
      · rw [List.mem_singleton.1 ho]
        exact ⟨a.sq.2, a.sq.1, k4, k2, k3, z2⟩
  refine ⟨fun hd => ?_, fun hd => ?_, ?_, k4, ⟨by show e.size ≤ 9223372036854775807; omega, by show -9223372036854775808 ≤ e.size; omega, by show e.key.size ≤ 140737488351232; omega⟩, hv, hu0, by omega⟩
  · have hd := dupM_iff.1 hd
    rcases a.o with ho | ⟨x, hx, e1, e2, e3, e4⟩
    · obtain ⟨o, hm, _, hq⟩ := hd
      exact absurd hq (ho o hm)
    · exact h.g.copyNo hx (En.ext' (show e.seq = x.seq from e1.symm) (show e.key = x.key from e2.symm) (show e.del = x.del from e3.symm) rfl rfl (show e.size = x.size from e4.symm)) a.slot.1 a.slot.2 hv hd
  · have hd' : ¬ ∃ o ∈ st.all, o.slot = (atM st e).slot ∧ o.seq = (atM st e).seq := fun hh => by rw [dupM_iff.2 hh] at hd; cases hd
    rcases a.o with ho | ⟨x, hx, e1, e2, e3, e4⟩
    · exact (h.g.new (e := atM st e) ho a.slot.1 a.slot.2 hv (Int.le_refl _)).1
    · exact (h.g.copyYes (e := atM st e) hx (En.ext' (show e.seq = x.seq from e1.symm) (show e.key = x.key from e2.symm) (show e.del = x.del from e3.symm) rfl rfl (show e.size = x.size from e4.symm)) a.slot.1 a.slot.2 hv (Int.le_refl _) hd').1
  · unfold addM
    split
    · exact MS.later h (by omega)
    · rename_i hd
      have hd' : ¬ ∃ o ∈ st.all, o.slot = (atM st e).slot ∧ o.seq = (atM st e).seq := fun hh => hd (dupM_iff.2 hh)
      rcases a.o with ho | ⟨x, hx, e1, e2, e3, e4⟩
      · exact hpush (h.g.new (e := atM st e) ho a.slot.1 a.slot.2 hv (Int.le_refl _)).2
      · exact hpush (h.g.copyYes (e := atM st e) hx (En.ext' (show e.seq = x.seq from e1.symm) (show e.key = x.key from e2.symm) (show e.del = x.del from e3.symm) rfl rfl (show e.size = x.size from e4.symm)) a.slot.1 a.slot.2 hv (Int.le_refl _) hd').2
theorem newM_ok {st : MS} {N : Int} {j : Nat} (h : st.Ok N j) (hN : 1 ≤ N) {t : Tn} (ht : t.Ok) : AddM (nextM st) N (newM N st t) ∧ (∀ o ∈ st.all, o.seq ≠ st.nx) := by
  obtain ⟨k1, k2, k3, k4⟩ := tnKey_ok t.n
  have hq := h.q0
  have hn : ∀ o ∈ st.all, o.seq ≠ st.nx := fun o ho => by have := (h.e o ho).2.1; omega
  refine ⟨⟨⟨Int.emod_nonneg _ (by omega), Int.emod_lt_of_pos _ (by omega)⟩, ⟨by show st.nx < st.nx + 1; omega, hq⟩, ⟨k1, k2, k3, k4⟩, ?_, .inl hn⟩, hn⟩
  show 16 + ((tnKey t.n).size : Int) ≤ 16 + ((tnKey t.n).size : Int) + (if t.kind % 8 = 4 then 0 else t.size % 60) ∧ 16 + ((tnKey t.n).size : Int) + (if t.kind % 8 = 4 then 0 else t.size % 60) ≤ 78 ∧ (16 + ((tnKey t.n).size : Int) + (if t.kind % 8 = 4 then 0 else t.size % 60) = 16 + ((tnKey t.n).size : Int) ∨ decide (t.kind % 8 = 4) = false)
  by_cases hd : t.kind % 8 = 4
  · rw [if_pos hd]
    exact ⟨by omega, by omega, .inl (by omega)⟩
  · rw [if_neg hd]
    exact ⟨by omega, by omega, .inr (decide_eq_false hd)⟩
theorem cpM_mem {st : MS} (hne : st.all ≠ []) (n : Int) (hn : 0 ≤ n) : st.all.getD (n % st.all.length).toNat zE ∈ st.all := by
  have hl : 0 < st.all.length := List.length_pos_iff.2 hne
  have h1 := Int.emod_lt_of_pos n (show (0 : Int) < st.all.length by omega)
  have h2 := Int.emod_nonneg n (show (st.all.length : Int) ≠ 0 by omega)
  have h3 : (n % st.all.length).toNat < st.all.length := by omega
  rw [List.getD_eq_getElem?_getD, List.getElem?_eq_getElem h3]
  exact List.getElem_mem h3
theorem cpM_ok {st : MS} {N : Int} {j : Nat} (h : st.Ok N j) (hN : 1 ≤ N) (hne : st.all ≠ []) {t : Tn} (ht : t.Ok) : AddM st N (cpM N st t) := by
  have hx := cpM_mem hne t.n ht.n.1
  unfold cpM
  generalize st.all.getD (t.n % st.all.length).toNat zE = x at *
  obtain ⟨h1, h2, h3, h4, h5, h6⟩ := h.e x hx
  have hv := h.g.val hx
  exact ⟨⟨Int.emod_nonneg _ (by omega), Int.emod_lt_of_pos _ (by omega)⟩, ⟨h2, h1⟩, ⟨hv.1, h4, h5, h3⟩, ⟨hv.2.2.2.2.1, h6, hv.2.2.2.2.2.1⟩, .inr ⟨x, hx, rfl, rfl, rfl, rfl⟩⟩
theorem dropM_ok {st : MS} {N : Int} {j : Nat} (h : st.Ok N j) {s : Int} (h0 : 0 ≤ s) (h1 : s < N) : (dropM st s).Ok N j ∧ dropC st.X s = 0 ∧ (st.X.slot s).length + (st.all.filter (fun o => !decide (o.slot = s))).length = st.all.length := by
  obtain ⟨d1, d2, d3⟩ := h.g.drop h0 h1 (en' := endL (st.all.filter (fun o => !decide (o.slot = s)))) (fun t ht => by rw [endL_filter _ ht]; exact Int.le_refl _)
  refine ⟨⟨d3, Nat.le_trans (List.length_filter_le _ _) h.n, h.q0, h.q1, fun t => ?_, fun e he => h.e e (List.mem_filter.1 he).1⟩, d1, d2⟩
  show endL (st.all.filter (fun o => !decide (o.slot = s))) t ≤ _
  by_cases ht : t = s
  · subst ht; rw [endL_zero]; omega
  · rw [endL_filter _ ht]; exact h.u t
theorem nextM_ok {st : MS} {N : Int} {j : Nat} (h : st.Ok N j) : st.nx + 1 ≤ (j + 1 : Nat) + 1 := by have := h.q1; omega
/-- One turn more. -/
theorem stepM_ok {st : MS} {N : Int} {j : Nat} (h : st.Ok N j) (hj : j < 100) (hN : 1 ≤ N) {t : Tn} (ht : t.Ok) : (stepM N st t).Ok N (j + 1) := by
  unfold stepM
  split
  · have hn : (nextM st).Ok N (j + 1) := ⟨h.g, Nat.le_succ_of_le h.n, by have := h.q0; show 1 ≤ st.nx + 1; omega, by have := h.q1; show st.nx + 1 ≤ ((j + 1 : Nat) : Int) + 1; omega, fun s => by have := h.u s; show endL st.all s ≤ _; omega, fun e he => by
      obtain ⟨h1, h2, h3⟩ := h.e e he
      exact ⟨h1, by show e.seq < st.nx + 1; omega, h3⟩⟩
    obtain ⟨a, hq⟩ := newM_ok h hN ht
    -- the sizes are those of the state before
    have hn0 : addM (nextM st) (newM N st t) = ⟨addX st.X (atM st (newM N st t)), st.all ++ [atM st (newM N st t)], st.nx + 1⟩ := by
      unfold addM
      rw [if_neg (fun hd => by
        obtain ⟨o, ho, _, h2⟩ := dupM_iff.1 hd
        exact hq o ho h2)]
      rfl
    obtain ⟨_, _, b3, _⟩ := addM_ok (st := ⟨st.X, st.all, st.nx + 1⟩) (j := j + 1) hn (by omega) a
    rw [hn0]
    refine ⟨(show (addM (nextM st) (newM N st t)).Ok N (j + 1 + 1) from b3).g |> (fun g => by rw [hn0] at g; exact g), ?_, ?_, ?_, fun s => ?_, ?_⟩
    · show (st.all ++ [_]).length ≤ j + 1
      have := h.n
      rw [List.length_append]; simp; omega
    · have := h.q0; show 1 ≤ st.nx + 1; omega
    · have := h.q1; show st.nx + 1 ≤ ((j + 1 : Nat) : Int) + 1; omega
    · show endL (st.all ++ [atM st (newM N st t)]) s ≤ 78 * ((j + 1 : Nat) : Int)
      rw [endL_snoc]
      have hs := h.u s
      have hz := a.z
      unfold endF
      split
      · rename_i he
        have hs2 : (newM N st t).slot = s := he
        show max _ (endL st.all (newM N st t).slot + (newM N st t).size) ≤ _
        rw [hs2]
        omega
      · omega
    · have := (show (addM (nextM st) (newM N st t)).Ok N (j + 1 + 1) from b3).e
      rw [hn0] at this
      exact this
  · split
    · split
      · exact MS.later h (by omega)
      · rename_i hne
        exact (addM_ok h (by omega) (cpM_ok h hN hne ht)).2.2.1
    · exact MS.later (dropM_ok h (Int.emod_nonneg _ (by omega)) (Int.emod_lt_of_pos _ (by omega))).1 (by omega)
theorem foldM_ok (n : Nat) (h1 : 1 ≤ n) (h2 : n ≤ 32) : ∀ (j : Nat) (L : List Tn), L.length = j → j ≤ 100 → (∀ t ∈ L, t.Ok) → (foldM n L).Ok n j
  | 0, L, hL, _, _ => by
    rw [List.eq_nil_of_length_eq_zero hL]
    exact ⟨FG.start n h1 h2 _, by show 0 ≤ 0; omega, by show (1 : Int) ≤ 1; omega, by show (1 : Int) ≤ 0 + 1; omega, fun s => by show (0 : Int) ≤ 78 * 0; omega, (fun _ h => by cases h)⟩
  | j + 1, L, hL, hj, ht => by
    have hne : L ≠ [] := fun h => by rw [h] at hL; cases hL
    have e := List.dropLast_concat_getLast hne
    have h3 := foldM_ok n h1 h2 j L.dropLast (by rw [List.length_dropLast]; omega) (by omega) (fun m h => ht m (List.dropLast_subset L h))
    rw [← e, foldM_snoc]
    exact stepM_ok h3 (by omega) (by omega) (ht _ (List.getLast_mem hne))
end Go.Proofs.YtemjnppplmankaaGreat
