/- What a builder of chapters 21, 23, 24, 28 keeps: an index filled by moves. No walk. -/
import Derived.Test.YthefpmmeoajaiaaBd10
import Derived.Test.YthefpmmeoajaiaaBd3
set_option linter.unusedVariables false
set_option linter.unusedSimpArgs false
namespace Go.Proofs.Ythefpmmeoajaiaa

/-- An index behind moves: its entries in the order in which they were added, where each slot ends, the next number, how many moves. -/
structure FI (X : IX) (all : List En) (en : Int → Int) (nx j n : Int) : Prop where
  wf : X.Wf
  ln : (X.slots.length : Int) = n
  n0 : 1 ≤ n
  pm : all.Perm X.ents
  en0 : ∀ s, 0 ≤ en s ∧ en s ≤ 68 * j
  up : ∀ e ∈ all, e.off + e.size ≤ en e.slot
  j0 : 0 ≤ j
  nx0 : 1 ≤ nx
  nx1 : nx ≤ j + 1
  sq : ∀ e ∈ all, e.seq < nx
  cp : ∀ a ∈ all, ∀ b ∈ all, a.seq = b.seq → a.key = b.key ∧ a.del = b.del ∧ a.size = b.size
  sm : ∀ e ∈ all, e.size ≤ 68 ∧ e.key.size ≤ 3 ∧ Low e.key
def upd (en : Int → Int) (s v : Int) : Int → Int := fun t => if t = s then v else en t
theorem upd_same (en : Int → Int) (s v : Int) : upd en s v s = v := if_pos rfl
theorem upd_other (en : Int → Int) {s t : Int} (v : Int) (h : t ≠ s) : upd en s v t = en t := if_neg h
section
variable {X : IX} {all : List En} {en : Int → Int} {nx j n : Int}
theorem clash_end {l : List En} {e : En} (h : ∀ o ∈ l, o.off + o.size ≤ e.off) (hp : ∀ o ∈ l, 0 < o.size) : clash l e = false := by
  have hc : cnt (offP e.off) l = l.length := by
    refine (cnt_uniq (offP e.off) l l.length (Nat.le_refl _) (fun i x _ hx => ?_) (fun i x hi hx => ?_)).symm
    · have hm := List.mem_of_getElem? hx
      have := h x hm
      have := hp x hm
      unfold offP
      exact decide_eq_true (by omega)
    · have := (List.getElem?_eq_some_iff.1 hx).1; omega
  unfold clash
  rw [hc, List.getElem?_eq_none (Nat.le_refl _)]
  simp only [Bool.false_or]
  cases hl : l[l.length - 1]? with
  | none => simp
  | some o =>
    have := h o (List.mem_of_getElem? hl)
    simp only [Bool.and_eq_false_iff]
    exact .inr (decide_eq_false (by omega))
theorem FI.mem (h : FI X all en nx j n) (e : En) : e ∈ all ↔ e ∈ X.ents := h.pm.mem_iff
theorem FI.slot (h : FI X all en nx j n) (s : Int) (e : En) : e ∈ X.slot s ↔ e ∈ all ∧ e.slot = s := by rw [h.mem]; exact h.wf.slot_mem s e
theorem FI.of (h : FI X all en nx j n) (k : ByteArray) (e : En) : e ∈ X.of k ↔ e ∈ all ∧ e.key = k := by rw [h.mem]; exact h.wf.of_mem k e
theorem FI.ne (h : FI X all en nx j n) : X.slots ≠ [] := fun h0 => by have := h.ln; have := h.n0; rw [h0] at *; simp at *; omega
theorem FI.has (h : FI X all en nx j n) {s : Int} (h0 : 0 ≤ s) (h1 : s < n) : X.has s = true := by
  unfold IX.has
  exact decide_eq_true ⟨h0, by have := h.ln; omega⟩
theorem FI.clash (h : FI X all en nx j n) {e : En} (ho : e.off = en e.slot) : clash (X.slot e.slot) e = false := by
  refine clash_end (fun o hm => ?_) (fun o hm => ?_)
  · obtain ⟨h1, h2⟩ := (h.slot _ o).1 hm
    have := h.up o h1
    rw [h2] at this
    omega
  · obtain ⟨h1, h2⟩ := (h.slot _ o).1 hm
    have := (valid_iff o).1 (h.wf.valid ((h.mem o).1 h1)).1
    omega
theorem FI.later (h : FI X all en nx j n) {j' : Int} (hj : j ≤ j') : FI X all en nx j' n :=
  ⟨h.wf, h.ln, h.n0, h.pm, fun s => ⟨(h.en0 s).1, by have := (h.en0 s).2; omega⟩, h.up, by have := h.j0; omega, h.nx0, by have := h.nx1; omega, h.sq, h.cp, h.sm⟩
/-- An entry that goes behind those of its slot. -/
theorem FI.push (h : FI X all en nx j n) {e : En} {nx' : Int} (a : AddOk X e) (ho : e.off = en e.slot) (hs : e.size ≤ 68 ∧ e.key.size ≤ 3 ∧ Low e.key) (h1 : nx ≤ nx') (h2 : nx' ≤ j + 2) (h3 : e.seq < nx')
    (hc : ∀ o ∈ all, o.seq = e.seq → o.key = e.key ∧ o.del = e.del ∧ o.size = e.size) : FI (addX X e) (all ++ [e]) (upd en e.slot (e.off + e.size)) nx' (j + 1) n := by
  have hv := (valid_iff e).1 a.valid
  have he := h.en0 e.slot
  have hle : ∀ s, en s ≤ upd en e.slot (e.off + e.size) s := fun s => by
    unfold upd
    split
    · rename_i h0; subst h0; omega
    · exact Int.le_refl _
  refine ⟨add_wf h.wf a, ?_, h.n0, ?_, fun s => ?_, fun o hm => ?_, by have := h.j0; omega, by have := h.nx0; omega, by omega, fun o hm => ?_, fun x hx y hy hq => ?_, fun o hm => ?_⟩
  · rw [addX_eq a]; simp only [List.length_set]; exact h.ln
  · exact (List.perm_append_singleton e all).trans ((h.pm.cons e).trans (add_ents h.wf a).symm)
  · have := h.en0 s
    unfold upd
    split
    · omega
    · omega
  · rcases List.mem_append.1 hm with hm | hm
    · exact Int.le_trans (h.up o hm) (hle _)
    · rw [List.mem_singleton.1 hm, upd_same]
      exact Int.le_refl _
  · rcases List.mem_append.1 hm with hm | hm
    · have := h.sq o hm; omega
    · rw [List.mem_singleton.1 hm]; exact h3
  · rcases List.mem_append.1 hx with hx1 | hx1 <;> rcases List.mem_append.1 hy with hy1 | hy1
    · exact h.cp x hx1 y hy1 hq
    · obtain rfl := List.mem_singleton.1 hy1
      exact hc x hx1 hq
    · obtain rfl := List.mem_singleton.1 hx1
      obtain ⟨q1, q2, q3⟩ := hc y hy1 hq.symm
      exact ⟨q1.symm, q2.symm, q3.symm⟩
    · obtain rfl := List.mem_singleton.1 hx1
      obtain rfl := List.mem_singleton.1 hy1
      exact ⟨rfl, rfl, rfl⟩
  · rcases List.mem_append.1 hm with hm | hm
    · exact h.sm o hm
    · rw [List.mem_singleton.1 hm]; exact hs
/-- A new entry. -/
theorem FI.newOk (h : FI X all en nx j n) {e : En} (hj : j < 100) (hq : e.seq = nx) (h0 : 0 ≤ e.slot) (h1 : e.slot < n) (ho : e.off = en e.slot) (hk : keyChk e.key = 0) (hz : 16 + (e.key.size : Int) ≤ e.size) (hz2 : e.size = 16 + (e.key.size : Int) ∨ e.del = false) (hs : e.size ≤ 68) : AddOk X e := by
  have he := h.en0 e.slot
  have hx := h.nx0
  have hx1 := h.nx1
  refine ⟨h.ne, h.has h0 h1, (valid_iff e).2 ⟨hk, by omega, by omega, by omega, hz, hz2, by omega, by omega⟩, fun o hm => ?_, fun o hm => ?_, h.clash ho⟩
  · have := h.sq o ((h.of _ o).1 hm).1
    exact badE_no (fun hh => by omega)
  · have := h.sq o ((h.of _ o).1 hm).1
    unfold sameE
    exact decide_eq_false (fun hh => by omega)
theorem FI.new (h : FI X all en nx j n) {e : En} (hj : j < 100) (hq : e.seq = nx) (h0 : 0 ≤ e.slot) (h1 : e.slot < n) (ho : e.off = en e.slot) (hk : keyChk e.key = 0) (hz : 16 + (e.key.size : Int) ≤ e.size) (hz2 : e.size = 16 + (e.key.size : Int) ∨ e.del = false) (hs : e.size ≤ 68) (hkz : e.key.size ≤ 3) (hl : Low e.key) :
    addE X e = 0 ∧ FI (addX X e) (all ++ [e]) (upd en e.slot (e.off + e.size)) (nx + 1) (j + 1) n :=
  have a := h.newOk hj hq h0 h1 ho hk hz hz2 hs
  ⟨ok_add a, h.push a ho ⟨hs, hkz, hl⟩ (by omega) (by have := h.nx1; omega) (by omega) (fun o hm hh => by have := h.sq o hm; omega)⟩
/-- A copy: refused where the slot has one. -/
theorem FI.copyBad (h : FI X all en nx j n) {x e : En} (hx : x ∈ all) (he : e = { x with slot := e.slot, off := e.off }) : ∀ o ∈ X.of e.key, badE e o = false := by
  intro o hm
  obtain ⟨h1, h2⟩ := (h.of _ o).1 hm
  refine badE_no (fun hh => ?_)
  have e1 : e.seq = x.seq := by rw [he]
  have e3 : e.del = x.del := by rw [he]
  have e4 : e.size = x.size := by rw [he]
  obtain ⟨q1, q2, q3⟩ := h.cp o h1 x hx (by rw [hh, e1])
  exact En.ext' hh h2 (by rw [e3]; exact q2) rfl rfl (by rw [e4]; exact q3)
theorem FI.copyValid (h : FI X all en nx j n) {x e : En} (hj : j < 100) (hx : x ∈ all) (he : e = { x with slot := e.slot, off := e.off }) (ho : e.off = en e.slot) : validE e = true := by
  have hv := (valid_iff x).1 (h.wf.valid ((h.mem x).1 hx)).1
  have hs := h.sm x hx
  have he0 := h.en0 e.slot
  have e1 : e.seq = x.seq := by rw [he]
  have e2 : e.key = x.key := by rw [he]
  have e3 : e.del = x.del := by rw [he]
  have e4 : e.size = x.size := by rw [he]
  refine (valid_iff e).2 ⟨by rw [e2]; exact hv.1, by omega, by omega, by omega, by rw [e2]; omega, ?_, by omega, by omega⟩
  rw [e2, e3, e4]
  exact hv.2.2.2.2.2.1
theorem FI.copyNo (h : FI X all en nx j n) {x e : En} (hj : j < 100) (hx : x ∈ all) (he : e = { x with slot := e.slot, off := e.off }) (h0 : 0 ≤ e.slot) (h1 : e.slot < n) (ho : e.off = en e.slot) (hd : all.any (fun o => decide (o.slot = e.slot) && decide (o.seq = e.seq)) = true) :
    addE X e = 6 ∧ FI (addX X e) all en nx (j + 1) n := by
  have h6 : addE X e = 6 := by
    refine add_6 h.ne (h.has h0 h1) (h.copyValid hj hx he ho) (h.copyBad hx he) ?_
    rw [Bool.or_eq_true]
    refine .inl ?_
    obtain ⟨o, hm, hh⟩ := List.any_eq_true.1 hd
    simp only [Bool.and_eq_true, decide_eq_true_eq] at hh
    have e1 : e.seq = x.seq := by rw [he]
    have e2 : e.key = x.key := by rw [he]
    obtain ⟨q1, _, _⟩ := h.cp o hm x hx (by rw [hh.2, e1])
    exact List.any_eq_true.2 ⟨o, (h.of _ o).2 ⟨hm, by rw [q1, e2]⟩, decide_eq_true ⟨hh.2, hh.1⟩⟩
  refine ⟨h6, ?_⟩
  rw [addX_no (by rw [h6]; decide)]
  exact h.later (by omega)
theorem FI.copyYes (h : FI X all en nx j n) {x e : En} (hj : j < 100) (hx : x ∈ all) (he : e = { x with slot := e.slot, off := e.off }) (h0 : 0 ≤ e.slot) (h1 : e.slot < n) (ho : e.off = en e.slot) (hd : all.any (fun o => decide (o.slot = e.slot) && decide (o.seq = e.seq)) = false) :
    addE X e = 0 ∧ FI (addX X e) (all ++ [e]) (upd en e.slot (e.off + e.size)) nx (j + 1) n := by
  have e1 : e.seq = x.seq := by rw [he]
  have e2 : e.key = x.key := by rw [he]
  have e3 : e.del = x.del := by rw [he]
  have e4 : e.size = x.size := by rw [he]
  have a : AddOk X e := ⟨h.ne, h.has h0 h1, h.copyValid hj hx he ho, h.copyBad hx he, fun o hm => by
    have h2 := (h.of _ o).1 hm
    have h3 := List.any_eq_false.1 hd o h2.1
    unfold sameE
    refine decide_eq_false (fun hh => ?_)
    simp [hh.1, hh.2] at h3, h.clash ho⟩
  have hs := h.sm x hx
  refine ⟨ok_add a, h.push a ho (by rw [e4, e2]; exact hs) (Int.le_refl _) (by have := h.nx1; omega) (by rw [e1]; exact h.sq x hx) (fun o hm hh => ?_)⟩
  rw [e2, e3, e4]
  exact h.cp o hm x hx (by rw [hh, e1])
/-- A slot is emptied. -/
theorem FI.drop (h : FI X all en nx j n) {s : Int} (h0 : 0 ≤ s) (h1 : s < n) :
    dropC X s = 0 ∧ (X.slot s).length + (all.filter (fun o => !decide (o.slot = s))).length = all.length ∧ FI (dropX X s) (all.filter (fun o => !decide (o.slot = s))) (upd en s 0) nx (j + 1) n := by
  have hh := h.has h0 h1
  have hp := drop_ents h.wf hh
  have hw := drop_wf h.wf s
  have hne : ∀ o ∈ (dropX X s).ents, (!decide (o.slot = s)) = true := fun o ho => by
    simp only [Bool.not_eq_true', decide_eq_false_iff_not]
    intro e
    have h2 := (hw.slot_mem s o).2 ⟨ho, e⟩
    rw [drop_slot h.wf, if_pos rfl] at h2
    cases h2
  have hs : ∀ o ∈ X.slot s, ¬ (!decide (o.slot = s)) = true := fun o ho => by simp [((h.wf.slot_mem s o).1 ho).2]
  have hpm : (all.filter (fun o => !decide (o.slot = s))).Perm (dropX X s).ents := by
    have h2 := (h.pm.trans hp).filter (fun o => !decide (o.slot = s))
    rw [List.filter_append, List.filter_eq_nil_iff.2 hs, List.nil_append, List.filter_eq_self.2 hne] at h2
    exact h2
  refine ⟨if_pos hh, ?_, hw, ?_, h.n0, hpm, fun t => ?_, fun o ho => ?_, by have := h.j0; omega, h.nx0, by have := h.nx1; omega, fun o ho => h.sq o (List.mem_filter.1 ho).1, fun a ha b hb => h.cp a (List.mem_filter.1 ha).1 b (List.mem_filter.1 hb).1, fun o ho => h.sm o (List.mem_filter.1 ho).1⟩
  · have h2 := (h.pm.trans hp).length_eq
    have h3 := hpm.length_eq
    rw [List.length_append] at h2
    omega
  · rw [drop_yes hh]; simp only [List.length_set]; exact h.ln
  · have := h.en0 t
    have := h.j0
    unfold upd
    split <;> omega
  · obtain ⟨h2, h3⟩ := List.mem_filter.1 ho
    simp only [Bool.not_eq_true', decide_eq_false_iff_not] at h3
    rw [upd_other _ _ h3]
    exact h.up o h2
end
theorem FI.start (n : Nat) (h1 : 1 ≤ n) (h2 : n ≤ 32) : FI (ixNew n) [] (fun _ => 0) 1 0 n :=
  ⟨new_wf h2, by simp [ixNew], by omega, by simp [ixNew, IX.ents], fun _ => ⟨by omega, by omega⟩, (fun _ h => by cases h), by omega, by omega, by omega, (fun _ h => by cases h), (fun _ h => by cases h), (fun _ h => by cases h)⟩
end Go.Proofs.Ythefpmmeoajaiaa

/- An index that grows entry by entry, each behind those of its slot: what every builder of chapters 22, 23, 24, 28 keeps, without bounds. No walk. -/
set_option linter.unusedVariables false
set_option linter.unusedSimpArgs false
namespace Go.Proofs.Ythefpmmeoajaiaa

structure FG (X : IX) (all : List En) (en : Int → Int) (n : Int) : Prop where
  wf : X.Wf
  ln : (X.slots.length : Int) = n
  n0 : 1 ≤ n
  pm : all.Perm X.ents
  up : ∀ e ∈ all, e.off + e.size ≤ en e.slot
  cp : ∀ a ∈ all, ∀ b ∈ all, a.seq = b.seq → a.key = b.key ∧ a.del = b.del ∧ a.size = b.size
section
variable {X : IX} {all : List En} {en : Int → Int} {n : Int}
theorem FG.mem (h : FG X all en n) (e : En) : e ∈ all ↔ e ∈ X.ents := h.pm.mem_iff
theorem FG.slot (h : FG X all en n) (s : Int) (e : En) : e ∈ X.slot s ↔ e ∈ all ∧ e.slot = s := by rw [h.mem]; exact h.wf.slot_mem s e
theorem FG.of (h : FG X all en n) (k : ByteArray) (e : En) : e ∈ X.of k ↔ e ∈ all ∧ e.key = k := by rw [h.mem]; exact h.wf.of_mem k e
theorem FG.ne (h : FG X all en n) : X.slots ≠ [] := fun h0 => by have := h.ln; have := h.n0; rw [h0] at *; simp at *; omega
theorem FG.has (h : FG X all en n) {s : Int} (h0 : 0 ≤ s) (h1 : s < n) : X.has s = true := by
  unfold IX.has
  exact decide_eq_true ⟨h0, by have := h.ln; omega⟩
theorem FG.no (h : FG X all en n) {s : Int} (h0 : s < 0 ∨ n ≤ s) : X.has s = false := by
  unfold IX.has
  exact decide_eq_false (by have := h.ln; omega)
theorem FG.len (h : FG X all en n) : (X.ents.length : Int) = all.length := by rw [h.pm.length_eq]
theorem FG.val (h : FG X all en n) {e : En} (he : e ∈ all) : keyChk e.key = 0 ∧ 1 ≤ e.seq ∧ e.seq ≤ 1099511627776 ∧ 0 ≤ e.off ∧ 16 + (e.key.size : Int) ≤ e.size ∧ (e.size = 16 + (e.key.size : Int) ∨ e.del = false) ∧ e.size ≤ 8192 ∧ e.off ≤ 8192 - e.size := (valid_iff e).1 (h.wf.valid ((h.mem e).1 he)).1
theorem FG.slots (h : FG X all en n) {e : En} (he : e ∈ all) : 0 ≤ e.slot ∧ e.slot < n := by
  have h1 := (h.wf.valid ((h.mem e).1 he)).2
  unfold IX.has at h1
  have := of_decide_eq_true h1
  have := h.ln
  omega
theorem FG.clash (h : FG X all en n) {e : En} (ho : en e.slot ≤ e.off) : clash (X.slot e.slot) e = false := by
  refine clash_end (fun o hm => ?_) (fun o hm => ?_)
  · obtain ⟨h1, h2⟩ := (h.slot _ o).1 hm
    have := h.up o h1
    rw [h2] at this
    omega
  · have := h.val ((h.slot _ o).1 hm).1
    omega
/-- An entry that goes behind those of its slot. -/
theorem FG.push (h : FG X all en n) {e : En} (a : AddOk X e) (ho : en e.slot ≤ e.off) (hc : ∀ o ∈ all, o.seq = e.seq → o.key = e.key ∧ o.del = e.del ∧ o.size = e.size) :
    FG (addX X e) (all ++ [e]) (upd en e.slot (e.off + e.size)) n := by
  have hv := (valid_iff e).1 a.valid
  have hle : ∀ s, en s ≤ upd en e.slot (e.off + e.size) s := fun s => by
    unfold upd
    split
    · rename_i h0; subst h0; omega
    · exact Int.le_refl _
  refine ⟨add_wf h.wf a, ?_, h.n0, ?_, fun o hm => ?_, fun x hx y hy hq => ?_⟩
  · rw [addX_eq a]; simp only [List.length_set]; exact h.ln
  · exact (List.perm_append_singleton e all).trans ((h.pm.cons e).trans (add_ents h.wf a).symm)
  · rcases List.mem_append.1 hm with hm | hm
    · exact Int.le_trans (h.up o hm) (hle _)
    · rw [List.mem_singleton.1 hm, upd_same]
      exact Int.le_refl _
  · rcases List.mem_append.1 hx with hx1 | hx1 <;> rcases List.mem_append.1 hy with hy1 | hy1
    · exact h.cp x hx1 y hy1 hq
    · obtain rfl := List.mem_singleton.1 hy1
      exact hc x hx1 hq
    · obtain rfl := List.mem_singleton.1 hx1
      obtain ⟨q1, q2, q3⟩ := hc y hy1 hq.symm
      exact ⟨q1.symm, q2.symm, q3.symm⟩
    · obtain rfl := List.mem_singleton.1 hx1
      obtain rfl := List.mem_singleton.1 hy1
      exact ⟨rfl, rfl, rfl⟩
/-- A new entry can be added. -/
theorem FG.okNew (h : FG X all en n) {e : En} (hq : ∀ o ∈ all, o.seq ≠ e.seq) (h0 : 0 ≤ e.slot) (h1 : e.slot < n) (hv : validE e = true) (ho : en e.slot ≤ e.off) : AddOk X e := by
  refine ⟨h.ne, h.has h0 h1, hv, fun o hm => badE_no (fun hh => absurd hh (hq o ((h.of _ o).1 hm).1)), fun o hm => ?_, h.clash ho⟩
  unfold sameE
  exact decide_eq_false (fun hh => hq o ((h.of _ o).1 hm).1 hh.1)
theorem FG.new (h : FG X all en n) {e : En} (hq : ∀ o ∈ all, o.seq ≠ e.seq) (h0 : 0 ≤ e.slot) (h1 : e.slot < n) (hv : validE e = true) (ho : en e.slot ≤ e.off) :
    addE X e = 0 ∧ FG (addX X e) (all ++ [e]) (upd en e.slot (e.off + e.size)) n :=
  have a := h.okNew hq h0 h1 hv ho
  ⟨ok_add a, h.push a ho (fun o hm hh => absurd hh (hq o hm))⟩
/-- A copy of what there is differs from no entry with its number. -/
theorem FG.copyBad (h : FG X all en n) {x e : En} (hx : x ∈ all) (he : e = { x with slot := e.slot, off := e.off }) : ∀ o ∈ X.of e.key, badE e o = false := by
  intro o hm
  obtain ⟨h1, h2⟩ := (h.of _ o).1 hm
  refine badE_no (fun hh => ?_)
  have e1 : e.seq = x.seq := by rw [he]
  have e3 : e.del = x.del := by rw [he]
  have e4 : e.size = x.size := by rw [he]
  obtain ⟨q1, q2, q3⟩ := h.cp o h1 x hx (by rw [hh, e1])
  exact En.ext' hh h2 (by rw [e3]; exact q2) rfl rfl (by rw [e4]; exact q3)
theorem FG.copyNo (h : FG X all en n) {x e : En} (hx : x ∈ all) (he : e = { x with slot := e.slot, off := e.off }) (h0 : 0 ≤ e.slot) (h1 : e.slot < n) (hv : validE e = true) (hd : ∃ o ∈ all, o.slot = e.slot ∧ o.seq = e.seq) : addE X e = 6 := by
  refine add_6 h.ne (h.has h0 h1) hv (h.copyBad hx he) ?_
  rw [Bool.or_eq_true]
  refine .inl ?_
  obtain ⟨o, hm, hh⟩ := hd
  have e1 : e.seq = x.seq := by rw [he]
  have e2 : e.key = x.key := by rw [he]
  obtain ⟨q1, _, _⟩ := h.cp o hm x hx (by rw [hh.2, e1])
  exact List.any_eq_true.2 ⟨o, (h.of _ o).2 ⟨hm, by rw [q1, e2]⟩, decide_eq_true ⟨hh.2, hh.1⟩⟩
theorem FG.copyYes (h : FG X all en n) {x e : En} (hx : x ∈ all) (he : e = { x with slot := e.slot, off := e.off }) (h0 : 0 ≤ e.slot) (h1 : e.slot < n) (hv : validE e = true) (ho : en e.slot ≤ e.off) (hd : ¬ ∃ o ∈ all, o.slot = e.slot ∧ o.seq = e.seq) :
    addE X e = 0 ∧ FG (addX X e) (all ++ [e]) (upd en e.slot (e.off + e.size)) n := by
  have e1 : e.seq = x.seq := by rw [he]
  have e2 : e.key = x.key := by rw [he]
  have e3 : e.del = x.del := by rw [he]
  have e4 : e.size = x.size := by rw [he]
  have a : AddOk X e := ⟨h.ne, h.has h0 h1, hv, h.copyBad hx he, fun o hm => by
    have h2 := (h.of _ o).1 hm
    unfold sameE
    exact decide_eq_false (fun hh => hd ⟨o, h2.1, hh.2, hh.1⟩), h.clash ho⟩
  refine ⟨ok_add a, h.push a ho (fun o hm hh => ?_)⟩
  rw [e2, e3, e4]
  exact h.cp o hm x hx (by rw [hh, e1])
/-- A slot is emptied. -/
theorem FG.drop (h : FG X all en n) {s : Int} (h0 : 0 ≤ s) (h1 : s < n) {en' : Int → Int} (he : ∀ t, t ≠ s → en t ≤ en' t) :
    dropC X s = 0 ∧ (X.slot s).length + (all.filter (fun o => !decide (o.slot = s))).length = all.length ∧ FG (dropX X s) (all.filter (fun o => !decide (o.slot = s))) en' n := by
  have hh := h.has h0 h1
  have hp := drop_ents h.wf hh
  have hw := drop_wf h.wf s
  have hne : ∀ o ∈ (dropX X s).ents, (!decide (o.slot = s)) = true := fun o ho => by
    simp only [Bool.not_eq_true', decide_eq_false_iff_not]
    intro e
    have h2 := (hw.slot_mem s o).2 ⟨ho, e⟩
    rw [drop_slot h.wf, if_pos rfl] at h2
    cases h2
  have hs : ∀ o ∈ X.slot s, ¬ (!decide (o.slot = s)) = true := fun o ho => by simp [((h.wf.slot_mem s o).1 ho).2]
  have hpm : (all.filter (fun o => !decide (o.slot = s))).Perm (dropX X s).ents := by
    have h2 := (h.pm.trans hp).filter (fun o => !decide (o.slot = s))
    rw [List.filter_append, List.filter_eq_nil_iff.2 hs, List.nil_append, List.filter_eq_self.2 hne] at h2
    exact h2
  refine ⟨if_pos hh, ?_, hw, ?_, h.n0, hpm, fun o ho => ?_, fun a ha b hb => h.cp a (List.mem_filter.1 ha).1 b (List.mem_filter.1 hb).1⟩
  · have h2 := (h.pm.trans hp).length_eq
    have h3 := hpm.length_eq
    rw [List.length_append] at h2
    omega
  · rw [drop_yes hh]; simp only [List.length_set]; exact h.ln
  · obtain ⟨h2, h3⟩ := List.mem_filter.1 ho
    simp only [Bool.not_eq_true', decide_eq_false_iff_not] at h3
    exact Int.le_trans (h.up o h2) (he _ h3)
end
theorem FG.start (n : Nat) (h1 : 1 ≤ n) (h2 : n ≤ 32) (en : Int → Int) : FG (ixNew n) [] en n :=
  ⟨new_wf h2, by simp [ixNew], by omega, by simp [ixNew, IX.ents], (fun _ h => by cases h), (fun _ h => by cases h)⟩
end Go.Proofs.Ythefpmmeoajaiaa

/- drumlinlaw28.built in plain Lean. No walk. -/
set_option linter.unusedVariables false
set_option linter.unusedSimpArgs false
namespace Go.Proofs.Ythefpmmeoajaiaa

structure Tr where
  a : Int
  b : Int
  c : Int
structure Tr.Ok (t : Tr) : Prop where
  a : 0 ≤ t.a ∧ t.a ≤ 255
  b : 0 ≤ t.b ∧ t.b ≤ 255
  c : 0 ≤ t.c ∧ t.c ≤ 255
def trKey (a : Int) : ByteArray := ⟨#[(97 + a % 20).toNat.toUInt8]⟩
theorem trKey_ok (a : Int) : keyChk (trKey a) = 0 ∧ (trKey a).size = 1 ∧ Low (trKey a) := by
  obtain ⟨n, hn, hl⟩ : ∃ n : Nat, a % 20 = n ∧ n < 20 := ⟨(a % 20).toNat, by omega, by omega⟩
  have e : trKey a = ⟨#[(97 + n).toUInt8]⟩ := by
    unfold trKey
    rw [hn, show ((97 : Int) + (n : Int)).toNat = 97 + n by omega]
  rw [e]
  have h : ∀ n : Nat, n < 20 → keyChk ⟨#[(97 + n).toUInt8]⟩ = 0 ∧ (⟨#[(97 + n).toUInt8]⟩ : ByteArray).size = 1 ∧ Low ⟨#[(97 + n).toUInt8]⟩ := by
    intro n hn
    have hu : ((97 + n).toUInt8).toNat = 97 + n := by
      rw [Nat.toUInt8_eq, UInt8.toNat_ofNat']
      omega
    refine ⟨?_, rfl, fun j hj => ?_⟩
    · have hk : keyC ((97 + n).toUInt8) = true := by
        unfold keyC
        simp only [Bool.or_eq_true, Bool.and_eq_true, decide_eq_true_eq]
        right
        constructor
        · rw [UInt8.le_iff_toNat_le, hu]; show 97 ≤ 97 + n; omega
        · rw [UInt8.le_iff_toNat_le, hu]; show 97 + n ≤ 122; omega
      rw [keyChk_ok (k := ⟨#[(97 + n).toUInt8]⟩) (fun j hj => by
        have hj1 : j < 1 := hj
        obtain rfl : j = 0 := by omega
        exact hk)]
      rfl
    · have hj1 : j < 1 := hj
      obtain rfl : j = 0 := by omega
      show ((97 + n).toUInt8).toNat < 128
      omega
  exact h n hl
structure TS where
  X : IX
  all : List En
  us : Int → Int
def mkT (st : TS) (t : Tr) : En := ⟨(st.all.length : Int) + 1, trKey t.a, false, t.b % 5, st.us (t.b % 5) + t.c % 3, 17 + t.c % 9⟩
def stepT (st : TS) (t : Tr) : TS := ⟨addX st.X (mkT st t), st.all ++ [mkT st t], upd st.us (t.b % 5) ((mkT st t).off + (mkT st t).size)⟩
def foldT (L : List Tr) : TS := L.foldl stepT ⟨ixNew 6, [], fun _ => 0⟩
theorem foldT_snoc (L : List Tr) (t : Tr) : foldT (L ++ [t]) = stepT (foldT L) t := by simp [foldT]
structure TS.Ok (st : TS) : Prop where
  g : FG st.X st.all st.us 6
  n : st.all.length ≤ 81
  u : ∀ s, 0 ≤ st.us s ∧ st.us s ≤ 27 * st.all.length
  e : ∀ e ∈ st.all, 1 ≤ e.seq ∧ e.seq ≤ st.all.length ∧ e.slot < 5 ∧ e.del = false ∧ Low e.key ∧ e.key.size = 1 ∧ e.size ≤ 25
theorem TS.step {st : TS} {t : Tr} (h : st.Ok) (hn : st.all.length ≤ 80) (ht : t.Ok) : addE st.X (mkT st t) = 0 ∧ (stepT st t).Ok ∧ Low (mkT st t).key ∧ En64 (mkT st t) ∧ 0 ≤ (mkT st t).off ∧ (mkT st t).off ≤ 2200 := by
  obtain ⟨k1, k2, k3⟩ := trKey_ok t.a
  have hu := h.u (t.b % 5)
  have hsz : (17 : Int) ≤ 17 + t.c % 9 ∧ 17 + t.c % 9 ≤ 25 := by omega
  have hg : 0 ≤ t.c % 3 ∧ t.c % 3 ≤ 2 := by omega
  have kz : ((trKey t.a).size : Int) = 1 := by rw [k2]; rfl
  have hv : validE (mkT st t) = true := (valid_iff _).2 ⟨k1, show (1 : Int) ≤ (st.all.length : Int) + 1 by omega, show (st.all.length : Int) + 1 ≤ 1099511627776 by omega, show (0 : Int) ≤ st.us (t.b % 5) + t.c % 3 by omega,
    show 16 + ((trKey t.a).size : Int) ≤ 17 + t.c % 9 by omega, .inr rfl, show 17 + t.c % 9 ≤ (8192 : Int) by omega, show st.us (t.b % 5) + t.c % 3 ≤ 8192 - (17 + t.c % 9) by omega⟩
  obtain ⟨q1, q2⟩ := h.g.new (e := mkT st t) (fun o ho => by have := (h.e o ho).2.1; show o.seq ≠ (st.all.length : Int) + 1; omega) (show (0 : Int) ≤ t.b % 5 by omega) (show t.b % 5 < (6 : Int) by omega) hv (show st.us (t.b % 5) ≤ st.us (t.b % 5) + t.c % 3 by omega)
  refine ⟨q1, ⟨q2, ?_, fun s => ?_, fun e he => ?_⟩, k3, ⟨?_, ?_, ?_⟩, ?_, ?_⟩
  · show (st.all ++ [_]).length ≤ 81
    rw [List.length_append]; simp; omega
  · have hs := h.u s
    show 0 ≤ upd st.us (t.b % 5) (st.us (t.b % 5) + t.c % 3 + (17 + t.c % 9)) s ∧ upd st.us (t.b % 5) (st.us (t.b % 5) + t.c % 3 + (17 + t.c % 9)) s ≤ 27 * ((st.all ++ [mkT st t]).length : Int)
    rw [List.length_append]
    simp only [List.length_singleton, Int.natCast_add]
    unfold upd
    split <;> omega
  · rcases List.mem_append.1 he with he | he
    · obtain ⟨h1, h2, h3⟩ := h.e e he
      refine ⟨h1, ?_, h3⟩
      show e.seq ≤ ((st.all ++ [mkT st t]).length : Int)
      rw [List.length_append]
      simp only [List.length_singleton, Int.natCast_add]
      omega
    · rw [List.mem_singleton.1 he]
      refine ⟨show (1 : Int) ≤ (st.all.length : Int) + 1 by omega, ?_, show t.b % 5 < (5 : Int) by omega, rfl, k3, k2, show 17 + t.c % 9 ≤ (25 : Int) by omega⟩
      show (st.all.length : Int) + 1 ≤ ((st.all ++ [mkT st t]).length : Int)
      rw [List.length_append]
      simp only [List.length_singleton, Int.natCast_add]
      omega
  · show 17 + t.c % 9 ≤ (9223372036854775807 : Int); omega
  · show (-9223372036854775808 : Int) ≤ 17 + t.c % 9; omega
  · show (trKey t.a).size ≤ 140737488351232; omega
  · show (0 : Int) ≤ st.us (t.b % 5) + t.c % 3; omega
  · show st.us (t.b % 5) + t.c % 3 ≤ (2200 : Int); omega
theorem foldT_len (L : List Tr) : (foldT L).all.length = L.length := by
  have h : ∀ (L : List Tr) (st : TS), (L.foldl stepT st).all.length = st.all.length + L.length := by
    intro L
    induction L with
    | nil => intro st; rfl
    | cons t L ih =>
      intro st
      rw [List.foldl_cons, ih]
      show (st.all ++ [_]).length + L.length = _
      simp
      omega
  have := h L ⟨ixNew 6, [], fun _ => 0⟩
  simpa [foldT] using this
theorem foldT_ok' : ∀ (n : Nat) (L : List Tr), L.length = n → n ≤ 81 → (∀ t ∈ L, t.Ok) → (foldT L).Ok
  | 0, L, hL, _, _ => by
    rw [List.eq_nil_of_length_eq_zero hL]
    exact ⟨FG.start 6 (by omega) (by omega) _, by show 0 ≤ 81; omega, fun s => ⟨Int.le_refl _, by show (0 : Int) ≤ 27 * 0; omega⟩, (fun _ h => by cases h)⟩
  | n + 1, L, hL, hn, ht => by
    have hne : L ≠ [] := fun h => by rw [h] at hL; cases hL
    have e := List.dropLast_concat_getLast hne
    have h1 := foldT_ok' n L.dropLast (by rw [List.length_dropLast]; omega) (by omega) (fun m h => ht m (List.dropLast_subset L h))
    rw [← e, foldT_snoc]
    exact (TS.step h1 (by rw [foldT_len, List.length_dropLast]; omega) (ht _ (List.getLast_mem hne))).2.1
theorem foldT_ok (L : List Tr) (hn : L.length ≤ 81) (ht : ∀ t ∈ L, t.Ok) : (foldT L).Ok := foldT_ok' _ L rfl hn ht
end Go.Proofs.Ythefpmmeoajaiaa

/- An append of however many elements to a row of the call's own; what a slice of a row is made of. No program in sight. -/
set_option linter.unusedVariables false
set_option linter.unusedSimpArgs false
namespace Go.Proofs.Ythefpmmeoajaiaa
open Go.RowKit

/-- What is appended: m elements; they lie at xa, where there are any. -/
def SrcAt (w : World) (size : Nat) (xa : Option Addr) (m : Nat) (news : List Value) : Prop :=
  news.length = m * size ∧ (∀ u ∈ news, u.oneCell' = true) ∧ (m = 0 ∨ ∃ ad, xa = some ad ∧ ∀ j u, news[j]? = some u → w.cell? (ad.add j) = some u)
/-- What an append leaves. -/
def AppV (w : World) (e : TypeId) (size : Nat) (v : Value) (n : Nat) (xs : List Value) (v' : Value) (w' : World) : Prop :=
  Own w' e size v' n xs ∧ (∀ g, v'.ownBlock = some g → v.ownBlock = some g ∨ w.heap.size ≤ g) ∧ w.grownBy w' v.ownBlock
theorem addr_add (b o j : Nat) : (⟨b, o, none⟩ : Addr).add j = ⟨b, o + j, none⟩ := by unfold Addr.add; split <;> simp_all
theorem keepAdd {w w' : World} {S : Nat → Prop} (m : Mdh S w w') {b o j : Nat} {u : Value} (h : w.cell? ((⟨b, o, none⟩ : Addr).add j) = some u) (hs : ¬ S b) : w'.cell? ((⟨b, o, none⟩ : Addr).add j) = some u := by
  rw [addr_add] at h ⊢
  exact m.keep h hs
theorem SrcAt.gr {w w' : World} {K m : Nat} {xa : Option Addr} {news : List Value} (h : SrcAt w K xa m news) (g : Gr w w') : SrcAt w' K xa m news :=
  ⟨h.1, h.2.1, h.2.2.imp id (fun ⟨ad, e, hc⟩ => ⟨ad, e, fun j u hj => (World.cell?_of_block (Below.block g _ (World.block_lt_of_cell? w _ (hc j u hj)))).trans (hc j u hj)⟩)⟩
theorem SrcAt.mdh {w w' : World} {S : Nat → Prop} {K m : Nat} {xa : Option Addr} {news : List Value} (h : SrcAt w K xa m news) (g : Mdh S w w') (hs : ∀ ad, xa = some ad → ¬ S ad.block) : SrcAt w' K xa m news :=
  ⟨h.1, h.2.1, h.2.2.imp id (fun ⟨ad, e, hc⟩ => ⟨ad, e, fun j u hj => by
    have h0 : (ad.add j).block = ad.block := by unfold Addr.add; split <;> rfl
    have h1 := World.block_lt_of_cell? w _ (hc j u hj)
    exact (World.cell?_of_block (g.blocks _ h1 (by rw [h0]; exact hs ad e))).trans (hc j u hj)⟩)⟩
/-- A whole row, as a source. -/
theorem src_all {w : World} {e : TypeId} {K n cap : Nat} {a : Option Addr} {xs : List Value} (h : Own w e K (.slice a n cap) n xs) (h1 : ∀ u ∈ xs, u.oneCell' = true) : SrcAt w K a n xs := by
  refine ⟨h.1, h1, ?_⟩
  rcases h.2 with ⟨_, h0⟩ | ⟨g, cap', cur, hv, _⟩
  · exact .inl h0
  · simp only [Value.slice.injEq] at hv
    obtain ⟨rfl, _, _⟩ := hv
    exact .inr ⟨_, rfl, h.cells rfl⟩
/-- Its first elements. -/
theorem src_take {w : World} {e : TypeId} {K n cap i : Nat} {a : Option Addr} {xs : List Value} (h : Own w e K (.slice a n cap) n xs) (h1 : ∀ u ∈ xs, u.oneCell' = true) (hi : i ≤ n) : SrcAt w K a i (xs.take (i * K)) := by
  have hl := h.1
  have hm := Nat.mul_le_mul_right K hi
  refine ⟨by rw [List.length_take]; omega, fun u hu => h1 u (List.mem_of_mem_take hu), ?_⟩
  rcases (src_all h h1).2.2 with h0 | ⟨ad, rfl, hc⟩
  · exact .inl (by omega)
  · exact .inr ⟨ad, rfl, fun j u hj => hc j u (by
      rw [List.getElem?_take] at hj
      split at hj
      · exact hj
      · cases hj)⟩
/-- Its last ones. -/
theorem src_drop {w : World} {e : TypeId} {K n cap i : Nat} {a : Option Addr} {xs : List Value} (h : Own w e K (.slice a n cap) n xs) (h1 : ∀ u ∈ xs, u.oneCell' = true) (hi : i ≤ n) (xa : Option Addr) (hxa : ∀ g, a = some ⟨g, 0, none⟩ → i < n → xa = some ⟨g, i * K, none⟩) : SrcAt w K xa (n - i) (xs.drop (i * K)) := by
  have hl := h.1
  refine ⟨by rw [List.length_drop, hl, Nat.sub_mul], fun u hu => h1 u (List.mem_of_mem_drop hu), ?_⟩
  by_cases e0 : i = n
  · exact .inl (by omega)
  · rcases h.2 with ⟨_, h0⟩ | ⟨g, cap', cur, hv, _⟩
    · omega
    · simp only [Value.slice.injEq] at hv
      obtain ⟨rfl, _, _⟩ := hv
      refine .inr ⟨_, hxa g rfl (by omega), fun j u hj => ?_⟩
      rw [List.getElem?_drop] at hj
      have := h.cells (g := g) rfl _ u hj
      rw [addr_add] at this ⊢
      rwa [Nat.zero_add] at this
section
variable {P : Program} (w : World)
theorem run_app_none (t ty e : TypeId) (i : TypeInfo) (size : Nat) (ht : P.underlying t = some (.slice e)) (hi : P.info? e = some i) (_hsize : i.size = size)
    (v : Value) (n : Nat) (xs : List Value) (hown : Own w e size v n xs) (xa : Option Addr) (c : Nat) : (Builtin.append_ #[t, t] ty #[v, .slice xa 0 c]).run P w = .ok v w := by
  rcases hown.2 with ⟨rfl, rfl⟩ | ⟨g, cap, cur, rfl, _, _, hnc, _⟩
  · cases xa <;> simp [Builtin.append_, run_underlying ht, sizeOf, typeInfo, hi, Builtin.firstCells, Builtin.lenOf, loadCells, loadCellsFrom]
  · cases xa <;> simp [Builtin.append_, run_underlying ht, sizeOf, typeInfo, hi, Builtin.firstCells, Builtin.lenOf, storeCells, loadCells, loadCellsFrom, hnc]
theorem run_appv (t ty e : TypeId) (i : TypeInfo) (z : Value) (size bytes : Nat) (ht : P.underlying t = some (.slice e)) (hi : P.info? e = some i) (hz : i.zero = some z)
    (hsize : i.size = size) (hby : i.bytes = bytes) (hzs : z.cells.size = size) (hsz : 0 < size)
    (v : Value) (n : Nat) (xs : List Value) (hown : Own w e size v n xs) (xa : Option Addr) (m c : Nat) (news : List Value) (hsrc : SrcAt w size xa m news) (h63 : n + m ≤ maxLen) (hbytes : (n + m) * bytes ≤ 140737488355328) :
    ∃ v' w', (Builtin.append_ #[t, t] ty #[v, .slice xa m c]).run P w = .ok v' w' ∧ AppV w e size v (n + m) (xs ++ news) v' w' := by
  obtain ⟨hl, h1, hs⟩ := hsrc
  by_cases hm : m = 0
  · subst hm
    obtain rfl : news = [] := List.eq_nil_of_length_eq_zero (by omega)
    exact ⟨v, w, run_app_none w t ty e i size ht hi hsize v n xs hown xa c, by simpa using hown, fun g hg => .inl hg, ⟨rfl, rfl, rfl, Nat.le_refl _, fun _ _ _ => rfl⟩⟩
  · obtain ⟨ad, rfl, hc⟩ := hs.resolve_left hm
    obtain ⟨g, cap, w', hr, h2, h3, h4⟩ := run_app w t ty e i z size bytes ht hi hz hsize hby hzs hsz v n xs hown ad m c news hl hc h1 (by omega) h63 hbytes
    exact ⟨_, w', hr, h2, fun k hk => (by simpa [Value.ownBlock] using hk : g = k) ▸ h3, h4⟩
theorem wp_appv {o : Oper} {a : Act} {K : Act → World → Prop} {Q : Exit → Act → World → Prop} (s x : Operand) (t : TypeId)
    (ho : o.op = .call { callee := .builtin .append, args := #[s, x], argTypes := #[t, t] })
    (e : TypeId) (i : TypeInfo) (z : Value) (size bytes : Nat) (ht : P.underlying t = some (.slice e)) (hi : P.info? e = some i) (hz : i.zero = some z)
    (hsize : i.size = size) (hby : i.bytes = bytes) (hzs : z.cells.size = size) (hsz : 0 < size)
    (v : Value) (n : Nat) (xs : List Value) (hs : a.eval s = v) (hown : Own w e size v n xs)
    (xa : Option Addr) (m c : Nat) (news : List Value) (hx : a.eval x = .slice xa m c) (hsrc : SrcAt w size xa m news) (h63 : n + m ≤ maxLen) (hbytes : (n + m) * bytes ≤ 140737488355328)
    (h : ∀ v' w', AppV w e size v (n + m) (xs ++ news) v' w' → K (a.put o.dst v') w') : o.wp P a w K Q := by
  obtain ⟨v', w', hr, h2⟩ := run_appv (P := P) w t o.type e i z size bytes ht hi hz hsize hby hzs hsz v n xs hown xa m c news hsrc h63 hbytes
  unfold Oper.wp execOp
  simp only [ho, resolve, invoke, builtin, Sem.run_bind, Sem.run_pure, Result.andThen_ok, List.map_toArray, List.map_cons, List.map_nil, hs, hx, hr]
  exact h v' w' h2
theorem wpList_appv {ops : Array Oper} {rest : List Oper} {o : Oper} {a : Act} {Q : Exit → Act → World → Prop} (hgd : o.guard = none) (s x : Operand) (t : TypeId)
    (ho : o.op = .call { callee := .builtin .append, args := #[s, x], argTypes := #[t, t] })
    (e : TypeId) (i : TypeInfo) (z : Value) (size bytes : Nat) (ht : P.underlying t = some (.slice e)) (hi : P.info? e = some i) (hz : i.zero = some z)
    (hsize : i.size = size) (hby : i.bytes = bytes) (hzs : z.cells.size = size) (hsz : 0 < size)
    (v : Value) (n : Nat) (xs : List Value) (hs : a.eval s = v) (hown : Own w e size v n xs)
    (xa : Option Addr) (m c : Nat) (news : List Value) (hx : a.eval x = .slice xa m c) (hsrc : SrcAt w size xa m news) (h63 : n + m ≤ maxLen) (hbytes : (n + m) * bytes ≤ 140737488355328)
    (h : ∀ v' w', AppV w e size v (n + m) (xs ++ news) v' w' → wpList P ops Q rest (a.put o.dst v') w') : wpList P ops Q (o :: rest) a w :=
  wpList_plain hgd fun _ hK => wp_appv w s x t ho e i z size bytes ht hi hz hsize hby hzs hsz v n xs hs hown xa m c news hx hsrc h63 hbytes fun v' w' h2 => hK _ _ (h v' w' h2)
theorem wpIn_appv {F : Fence} {f : Nat} {o : Oper} {a : Act} {K : Act → World → Prop} {Q : Exit → Act → World → Prop} (s x : Operand) (t : TypeId)
    (ho : o.op = .call { callee := .builtin .append, args := #[s, x], argTypes := #[t, t] })
    (e : TypeId) (i : TypeInfo) (z : Value) (size bytes : Nat) (ht : P.underlying t = some (.slice e)) (hi : P.info? e = some i) (hz : i.zero = some z)
    (hsize : i.size = size) (hby : i.bytes = bytes) (hzs : z.cells.size = size) (hsz : 0 < size)
    (v : Value) (n : Nat) (xs : List Value) (hs : a.eval s = v) (hown : Own w e size v n xs)
    (xa : Option Addr) (m c : Nat) (news : List Value) (hx : a.eval x = .slice xa m c) (hsrc : SrcAt w size xa m news) (h63 : n + m ≤ maxLen) (hbytes : (n + m) * bytes ≤ 140737488355328)
    (h : ∀ v' w', AppV w e size v (n + m) (xs ++ news) v' w' → K (a.put o.dst v') w') : o.wpIn F f P a w K Q := by
  obtain ⟨v', w', hr, h2⟩ := run_appv (P := P) w t o.type e i z size bytes ht hi hz hsize hby hzs hsz v n xs hown xa m c news hsrc h63 hbytes
  unfold Oper.wpIn
  refine ⟨?_, ?_⟩
  · simp [Oper.about, ho, resolve, Target.leads, Sem.run_pure]
  · rw [Oper.semAt_plain F _ _ (by rw [ho]; intro c hc'; cases hc')]
    simp only [execOp, ho, resolve, invoke, builtin, Sem.run_bind, Sem.run_pure, Result.andThen_ok, List.map_toArray, List.map_cons, List.map_nil, hs, hx, hr]
    exact h v' w' h2
theorem wpListIn_appv {F : Fence} {f : Nat} {ops : Array Oper} {rest : List Oper} {o : Oper} {a : Act} {Q : Exit → Act → World → Prop} (hgd : o.guard = none) (s x : Operand) (t : TypeId)
    (ho : o.op = .call { callee := .builtin .append, args := #[s, x], argTypes := #[t, t] })
    (e : TypeId) (i : TypeInfo) (z : Value) (size bytes : Nat) (ht : P.underlying t = some (.slice e)) (hi : P.info? e = some i) (hz : i.zero = some z)
    (hsize : i.size = size) (hby : i.bytes = bytes) (hzs : z.cells.size = size) (hsz : 0 < size)
    (v : Value) (n : Nat) (xs : List Value) (hs : a.eval s = v) (hown : Own w e size v n xs)
    (xa : Option Addr) (m c : Nat) (news : List Value) (hx : a.eval x = .slice xa m c) (hsrc : SrcAt w size xa m news) (h63 : n + m ≤ maxLen) (hbytes : (n + m) * bytes ≤ 140737488355328)
    (h : ∀ v' w', AppV w e size v (n + m) (xs ++ news) v' w' → wpListIn F f P ops Q rest (a.put o.dst v') w') : wpListIn F f P ops Q (o :: rest) a w :=
  wpListIn_plain hgd fun _ hK => wpIn_appv w s x t ho e i z size bytes ht hi hz hsize hby hzs hsz v n xs hs hown xa m c news hx hsrc h63 hbytes fun v' w' h2 => hK _ _ (h v' w' h2)
end
/-- Slices of a row of the call's own, whatever its value looks like. -/
theorem slice_take {P : Program} {w : World} {t e : TypeId} {i0 : TypeInfo} (ht : P.underlying t = some (.slice e)) (hi : P.info? e = some i0) {K : Nat} (hs : i0.size = K) {v : Value} {n : Nat} {xs : List Value} (h : Own w e K v n xs) (h1 : ∀ u ∈ xs, u.oneCell' = true) {i : Nat} (hin : i ≤ n) :
    ∃ xa c, (∀ w', (Instr.slice t v none (some (.int .i64 (i : Int))) none).run P w' = .ok (.slice xa i c) w') ∧ SrcAt w K xa i (xs.take (i * K)) ∧ ∀ ad, xa = some ad → v.ownBlock = some ad.block := by
  have he : P.elem t = e := by simp [Program.elem, ht]
  have ht' : P.underlying t = some (.slice (P.elem t)) := by rw [he]; exact ht
  have hz : ∀ w', (sizeOf (P.elem t)).run P w' = .ok K w' := fun w' => by rw [he]; simp [sizeOf, typeInfo, hi, hs]
  rcases h.2 with ⟨rfl, h0⟩ | ⟨g, cap, cur, rfl, _, _, hnc, _⟩
  · obtain rfl : i = 0 := by omega
    refine ⟨none, 0, fun w' => ?_, by simpa using (show SrcAt w K none 0 [] from ⟨by simp, by simp, .inl rfl⟩), fun ad e => by cases e⟩
    rw [run_slice_h w' t none 0 0 ht' .i64 _ (by omega) (by simp), hz]
    simp [Result.andThen, sliced]
  · refine ⟨some ⟨g, 0, none⟩, cap, fun w' => ?_, src_take h h1 hin, fun ad e => by obtain rfl := Option.some.inj e; rfl⟩
    rw [run_slice_h w' t _ n cap ht' .i64 _ (by omega) (by omega), hz]
    simp [Result.andThen, sliced, addr_add]
theorem slice_drop {P : Program} {w : World} {t e : TypeId} {i0 : TypeInfo} (ht : P.underlying t = some (.slice e)) (hi : P.info? e = some i0) {K : Nat} (hs : i0.size = K) {v : Value} {n : Nat} {xs : List Value} (h : Own w e K v n xs) (h1 : ∀ u ∈ xs, u.oneCell' = true) {i : Nat} (hin : i ≤ n) :
    ∃ xa c, (∀ w', (Instr.slice t v (some (.int .i64 (i : Int))) none none).run P w' = .ok (.slice xa (n - i) c) w') ∧ SrcAt w K xa (n - i) (xs.drop (i * K)) ∧ ∀ ad, xa = some ad → v.ownBlock = some ad.block := by
  have he : P.elem t = e := by simp [Program.elem, ht]
  have ht' : P.underlying t = some (.slice (P.elem t)) := by rw [he]; exact ht
  have hz : ∀ w', (sizeOf (P.elem t)).run P w' = .ok K w' := fun w' => by rw [he]; simp [sizeOf, typeInfo, hi, hs]
  rcases h.2 with ⟨rfl, h0⟩ | ⟨g, cap, cur, rfl, _, _, hnc, _⟩
  · obtain rfl : i = 0 := by omega
    have hx : xs = [] := List.eq_nil_of_length_eq_zero (by rw [h.1, h0]; simp)
    refine ⟨none, 0, fun w' => ?_, by subst h0 hx; simpa using (show SrcAt w K none 0 [] from ⟨by simp, by simp, .inl rfl⟩), fun ad e => by cases e⟩
    subst h0
    rw [run_slice_l w' t none 0 0 ht' .i64 _ (by omega) (by simp), hz]
    simp [Result.andThen, sliced]
  · refine ⟨if cap = i then some ⟨g, 0, none⟩ else some ⟨g, i * K, none⟩, cap - i, fun w' => ?_, src_drop h h1 hin _ (fun g' hg' hlt => ?_), fun ad e => ?_⟩
    · rw [run_slice_l w' t _ n cap ht' .i64 _ (by omega) (by omega), hz]
      simp [Result.andThen, sliced, addr_add]
    · obtain rfl : g = g' := by simpa using hg'
      rw [if_neg (by omega)]
    · split at e <;> (obtain rfl := Option.some.inj e; rfl)
theorem src_new (w : World) (x : Value) (t : TypeId) (hx : x.oneCell' = true) : SrcAt (w.alloc (.cells #[x] t)) 1 (some ⟨w.heap.size, 0, none⟩) 1 [x] := by
  refine ⟨rfl, fun u hu => by obtain rfl := List.mem_singleton.1 hu; exact hx, .inr ⟨_, rfl, fun j u hj => ?_⟩⟩
  match j with
  | 0 => simp at hj; subst hj; simp [go_sem, Addr.add]
  | j + 1 => simp at hj
theorem src_newK (w : World) (cs : List Value) (t : TypeId) (K : Nat) (hK : cs.length = K) (hx : ∀ u ∈ cs, u.oneCell' = true) : SrcAt (w.alloc (.cells cs.toArray t)) K (some ⟨w.heap.size, 0, none⟩) 1 cs := by
  refine ⟨by omega, hx, .inr ⟨_, rfl, fun j u hj => ?_⟩⟩
  rw [addr_add, Nat.zero_add, (cellsOf (blkNew w (.cells cs.toArray t))).1 j]
  simpa using hj
theorem own_ne {w : World} {e t : TypeId} {K n b : Nat} {v : Value} {xs : List Value} {cs : Array Value} (h : Own w e K v n xs) (hb : w.heap[b]? = some (.cells cs t)) (hte : t ≠ e) : v.ownBlock ≠ some b := by
  rcases h.2 with ⟨rfl, _⟩ | ⟨g, cap, cur, rfl, _, hg, _⟩
  · intro h; cases h
  · intro h
    obtain rfl : g = b := by simpa [Value.ownBlock] using h
    rw [hg] at hb
    simp only [Option.some.injEq, Obj.cells.injEq] at hb
    exact hte hb.2.1.symm
theorem own_ne2 {w : World} {e e' : TypeId} {K K' n n' : Nat} {v v' : Value} {xs xs' : List Value} (h : Own w e K v n xs) (h' : Own w e' K' v' n' xs') (hte : e ≠ e') : ∀ g, v.ownBlock = some g → v'.ownBlock ≠ some g := by
  intro g hg
  rcases h.2 with ⟨rfl, _⟩ | ⟨g1, cap, cur, rfl, _, hc, _⟩
  · cases hg
  · obtain rfl : g1 = g := Option.some.inj hg
    exact own_ne h' hc hte
theorem own_blk {w : World} {e : TypeId} {K n g : Nat} {v : Value} {xs : List Value} (h : Own w e K v n xs) (hg : v.ownBlock = some g) : ∃ cs, w.heap[g]? = some (.cells cs e) := by
  rcases h.2 with ⟨rfl, _⟩ | ⟨g1, cap, cur, rfl, _, hc, _⟩
  · cases hg
  · obtain rfl : g1 = g := Option.some.inj hg
    exact ⟨cur, hc⟩
theorem ownB {b n c q : Nat} (h : Value.ownBlock (.slice (some ⟨b, 0, none⟩) n c) = some q) : q = b := (Option.some.inj h).symm
/-- A row whose block is new since w0. -/
structure Nw (w0 w : World) (e : TypeId) (K : Nat) (v : Value) (n : Nat) (xs : List Value) : Prop where
  own : Own w e K v n xs
  new : ∀ q, v.ownBlock = some q → w0.heap.size ≤ q
theorem Nw.gr {w0 w w' : World} {e : TypeId} {K n : Nat} {v : Value} {xs : List Value} (h : Nw w0 w e K v n xs) (g : Gr w w') : Nw w0 w' e K v n xs := ⟨h.own.gr g, h.new⟩
theorem Nw.mdh {S : Nat → Prop} {w0 w w' : World} {e : TypeId} {K n : Nat} {v : Value} {xs : List Value} (h : Nw w0 w e K v n xs) (m : Mdh S w w') (hs : ∀ q, v.ownBlock = some q → ¬ S q) : Nw w0 w' e K v n xs := ⟨h.own.mdh m hs, h.new⟩
theorem Nw.made {w0 w : World} {e : TypeId} {K : Nat} (hz : w0.heap.size ≤ w.heap.size) : Nw w0 (w.alloc (.cells #[] e)) e K (.slice (some ⟨w.heap.size, 0, none⟩) 0 0) 0 [] :=
  ⟨Own.ofParts (blkNew w _) (Nat.le_refl _) (by simp [maxLen]) (by simp) (by simp), fun q hq => (by simpa [Value.ownBlock] using hq : w.heap.size = q) ▸ hz⟩
/-- What an append to such a row leaves. -/
theorem AppV.nw {w0 w w' : World} {e : TypeId} {K n m : Nat} {v v' : Value} {xs ys : List Value} (h : AppV w e K v n xs v' w') (hv : Nw w0 w e K v m ys) (hz : w0.heap.size ≤ w.heap.size) : Nw w0 w' e K v' n xs :=
  ⟨h.1, fun q hq => (h.2.1 q hq).elim (hv.new q) (Nat.le_trans hz)⟩
theorem AppV.gw {w0 w w' : World} {e : TypeId} {K n m : Nat} {v v' : Value} {xs ys : List Value} (h : AppV w e K v n xs v' w') (hv : Nw w0 w e K v m ys) (g : Gr w0 w) : Gr w0 w' :=
  g.md ((Mdh.refl _ w).grown h.2.2 (fun _ hr => hr)) hv.new
theorem AppV.mw {S : Nat → Prop} {w0 w w' : World} {e : TypeId} {K n m : Nat} {v v' : Value} {xs ys : List Value} (h : AppV w e K v n xs v' w') (hv : Nw w0 w e K v m ys) (g : Mdh S w0 w) : Mdh S w0 w' :=
  g.then ((Mdh.refl _ w).grown h.2.2 (fun _ hr => hr)) (fun q hq => .inr (hv.new q hq))
theorem AppV.val {w w' : World} {e : TypeId} {K n : Nat} {v v' : Value} {xs : List Value} (h : AppV w e K v n xs v' w') : ∃ a c, v' = .slice a n c := by
  rcases h.1.2 with ⟨rfl, rfl⟩ | ⟨g, cap, cur, rfl, _⟩
  · exact ⟨none, 0, rfl⟩
  · exact ⟨_, cap, rfl⟩
theorem AppV.mdh {w w' : World} {e : TypeId} {size n : Nat} {v v' : Value} {xs : List Value} (h : AppV w e size v n xs v' w') {S : Nat → Prop} (hS : ∀ g, v.ownBlock = some g → S g) : Mdh S w w' :=
  (Mdh.refl _ w).grown h.2.2 hS
end Go.Proofs.Ythefpmmeoajaiaa
