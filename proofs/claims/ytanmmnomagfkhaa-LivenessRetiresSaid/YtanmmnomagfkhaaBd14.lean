/- What a builder of chapters 21, 23, 24, 28 keeps: an index filled by moves. No walk. -/
import Derived.Test.YtanmmnomagfkhaaBd10
import Derived.Test.YtanmmnomagfkhaaBd13
import Derived.Test.YtanmmnomagfkhaaBd11
import Derived.Test.YtanmmnomagfkhaaBd12
set_option linter.unusedVariables false
set_option linter.unusedSimpArgs false
namespace Go.Proofs.Ytanmmnomagfkhaa

/-- An index behind moves: its entries in the order in which they were added, where each slot ends, the next number, how many moves. -/
structure FI (X : IX) (all : List En) (en : Int → Int) (nx j n : Int) : Prop where
  wf : X.Wf
  ln : (X.slots.length : Int) = n
  n0 : 1 ≤ n
  pm : all.Perm X.ents
  en0 : ∀ s, 0 ≤ en s ∧ en s ≤ 68 * j
  up : ∀ e ∈ all, e.off + e.size ≤ en e.slot
  j0 : 0 ≤ j
  nx0 : 1 ≤ nx
  nx1 : nx ≤ j + 1
  sq : ∀ e ∈ all, e.seq < nx
  cp : ∀ a ∈ all, ∀ b ∈ all, a.seq = b.seq → a.key = b.key ∧ a.del = b.del ∧ a.size = b.size
  sm : ∀ e ∈ all, e.size ≤ 68 ∧ e.key.size ≤ 3 ∧ Low e.key
def upd (en : Int → Int) (s v : Int) : Int → Int := fun t => if t = s then v else en t
theorem upd_same (en : Int → Int) (s v : Int) : upd en s v s = v := if_pos rfl
theorem upd_other (en : Int → Int) {s t : Int} (v : Int) (h : t ≠ s) : upd en s v t = en t := if_neg h
section
variable {X : IX} {all : List En} {en : Int → Int} {nx j n : Int}
theorem clash_end {l : List En} {e : En} (h : ∀ o ∈ l, o.off + o.size ≤ e.off) (hp : ∀ o ∈ l, 0 < o.size) : clash l e = false := by
  have hc : cnt (offP e.off) l = l.length := by
    refine (cnt_uniq (offP e.off) l l.length (Nat.le_refl _) (fun i x _ hx => ?_) (fun i x hi hx => ?_)).symm
    · have hm := List.mem_of_getElem? hx
      have := h x hm
      have := hp x hm
      unfold offP
      exact decide_eq_true (by omega)
    · have := (List.getElem?_eq_some_iff.1 hx).1; omega
  unfold clash
  rw [hc, List.getElem?_eq_none (Nat.le_refl _)]
  simp only [Bool.false_or]
  cases hl : l[l.length - 1]? with
  | none => simp
  | some o =>
    have := h o (List.mem_of_getElem? hl)
    simp only [Bool.and_eq_false_iff]
    exact .inr (decide_eq_false (by omega))
theorem FI.mem (h : FI X all en nx j n) (e : En) : e ∈ all ↔ e ∈ X.ents := h.pm.mem_iff
theorem FI.slot (h : FI X all en nx j n) (s : Int) (e : En) : e ∈ X.slot s ↔ e ∈ all ∧ e.slot = s := by rw [h.mem]; exact h.wf.slot_mem s e
theorem FI.of (h : FI X all en nx j n) (k : ByteArray) (e : En) : e ∈ X.of k ↔ e ∈ all ∧ e.key = k := by rw [h.mem]; exact h.wf.of_mem k e
theorem FI.ne (h : FI X all en nx j n) : X.slots ≠ [] := fun h0 => by have := h.ln; have := h.n0; rw [h0] at *; simp at *; omega
theorem FI.has (h : FI X all en nx j n) {s : Int} (h0 : 0 ≤ s) (h1 : s < n) : X.has s = true := by
  unfold IX.has
  exact decide_eq_true ⟨h0, by have := h.ln; omega⟩
theorem FI.clash (h : FI X all en nx j n) {e : En} (ho : e.off = en e.slot) : clash (X.slot e.slot) e = false := by
  refine clash_end (fun o hm => ?_) (fun o hm => ?_)
  · obtain ⟨h1, h2⟩ := (h.slot _ o).1 hm
    have := h.up o h1
    rw [h2] at this
    omega
  · obtain ⟨h1, h2⟩ := (h.slot _ o).1 hm
    have := (valid_iff o).1 (h.wf.valid ((h.mem o).1 h1)).1
    omega
theorem FI.later (h : FI X all en nx j n) {j' : Int} (hj : j ≤ j') : FI X all en nx j' n :=
  ⟨h.wf, h.ln, h.n0, h.pm, fun s => ⟨(h.en0 s).1, by have := (h.en0 s).2; omega⟩, h.up, by have := h.j0; omega, h.nx0, by have := h.nx1; omega, h.sq, h.cp, h.sm⟩
/-- An entry that goes behind those of its slot. -/
theorem FI.push (h : FI X all en nx j n) {e : En} {nx' : Int} (a : AddOk X e) (ho : e.off = en e.slot) (hs : e.size ≤ 68 ∧ e.key.size ≤ 3 ∧ Low e.key) (h1 : nx ≤ nx') (h2 : nx' ≤ j + 2) (h3 : e.seq < nx')
    (hc : ∀ o ∈ all, o.seq = e.seq → o.key = e.key ∧ o.del = e.del ∧ o.size = e.size) : FI (addX X e) (all ++ [e]) (upd en e.slot (e.off + e.size)) nx' (j + 1) n := by
  have hv := (valid_iff e).1 a.valid
  have he := h.en0 e.slot
  have hle : ∀ s, en s ≤ upd en e.slot (e.off + e.size) s := fun s => by
    unfold upd
    split
    · rename_i h0; subst h0; omega
    · exact Int.le_refl _
  refine ⟨add_wf h.wf a, ?_, h.n0, ?_, fun s => ?_, fun o hm => ?_, by have := h.j0; omega, by have := h.nx0; omega, by omega, fun o hm => ?_, fun x hx y hy hq => ?_, fun o hm => ?_⟩
  · rw [addX_eq a]; simp only [List.length_set]; exact h.ln
  · exact (List.perm_append_singleton e all).trans ((h.pm.cons e).trans (add_ents h.wf a).symm)
  · have := h.en0 s
    unfold upd
    split
    · omega
    · omega
  · rcases List.mem_append.1 hm with hm | hm
    · exact Int.le_trans (h.up o hm) (hle _)
    · rw [List.mem_singleton.1 hm, upd_same]
      exact Int.le_refl _
  · rcases List.mem_append.1 hm with hm | hm
    · have := h.sq o hm; omega
    · rw [List.mem_singleton.1 hm]; exact h3
  · rcases List.mem_append.1 hx with hx1 | hx1 <;> rcases List.mem_append.1 hy with hy1 | hy1
    · exact h.cp x hx1 y hy1 hq
    · obtain rfl := List.mem_singleton.1 hy1
      exact hc x hx1 hq
    · obtain rfl := List.mem_singleton.1 hx1
      obtain ⟨q1, q2, q3⟩ := hc y hy1 hq.symm
      exact ⟨q1.symm, q2.symm, q3.symm⟩
    · obtain rfl := List.mem_singleton.1 hx1
      obtain rfl := List.mem_singleton.1 hy1
      exact ⟨rfl, rfl, rfl⟩
  · rcases List.mem_append.1 hm with hm | hm
    · exact h.sm o hm
    · rw [List.mem_singleton.1 hm]; exact hs
/-- A new entry. -/
theorem FI.newOk (h : FI X all en nx j n) {e : En} (hj : j < 100) (hq : e.seq = nx) (h0 : 0 ≤ e.slot) (h1 : e.slot < n) (ho : e.off = en e.slot) (hk : keyChk e.key = 0) (hz : 16 + (e.key.size : Int) ≤ e.size) (hz2 : e.size = 16 + (e.key.size : Int) ∨ e.del = false) (hs : e.size ≤ 68) : AddOk X e := by
  have he := h.en0 e.slot
  have hx := h.nx0
  have hx1 := h.nx1
  refine ⟨h.ne, h.has h0 h1, (valid_iff e).2 ⟨hk, by omega, by omega, by omega, hz, hz2, by omega, by omega⟩, fun o hm => ?_, fun o hm => ?_, h.clash ho⟩
  · have := h.sq o ((h.of _ o).1 hm).1
    exact badE_no (fun hh => by omega)
  · have := h.sq o ((h.of _ o).1 hm).1
    unfold sameE
    exact decide_eq_false (fun hh => by omega)
theorem FI.new (h : FI X all en nx j n) {e : En} (hj : j < 100) (hq : e.seq = nx) (h0 : 0 ≤ e.slot) (h1 : e.slot < n) (ho : e.off = en e.slot) (hk : keyChk e.key = 0) (hz : 16 + (e.key.size : Int) ≤ e.size) (hz2 : e.size = 16 + (e.key.size : Int) ∨ e.del = false) (hs : e.size ≤ 68) (hkz : e.key.size ≤ 3) (hl : Low e.key) :
    addE X e = 0 ∧ FI (addX X e) (all ++ [e]) (upd en e.slot (e.off + e.size)) (nx + 1) (j + 1) n :=
  have a := h.newOk hj hq h0 h1 ho hk hz hz2 hs
  ⟨ok_add a, h.push a ho ⟨hs, hkz, hl⟩ (by omega) (by have := h.nx1; omega) (by omega) (fun o hm hh => by have := h.sq o hm; omega)⟩
/-- A copy: refused where the slot has one. -/
theorem FI.copyBad (h : FI X all en nx j n) {x e : En} (hx : x ∈ all) (he : e = { x with slot := e.slot, off := e.off }) : ∀ o ∈ X.of e.key, badE e o = false := by
  intro o hm
  obtain ⟨h1, h2⟩ := (h.of _ o).1 hm
  refine badE_no (fun hh => ?_)
  have e1 : e.seq = x.seq := by rw [he]
  have e3 : e.del = x.del := by rw [he]
  have e4 : e.size = x.size := by rw [he]
  obtain ⟨q1, q2, q3⟩ := h.cp o h1 x hx (by rw [hh, e1])
  exact En.ext' hh h2 (by rw [e3]; exact q2) rfl rfl (by rw [e4]; exact q3)
theorem FI.copyValid (h : FI X all en nx j n) {x e : En} (hj : j < 100) (hx : x ∈ all) (he : e = { x with slot := e.slot, off := e.off }) (ho : e.off = en e.slot) : validE e = true := by
  have hv := (valid_iff x).1 (h.wf.valid ((h.mem x).1 hx)).1
  have hs := h.sm x hx
  have he0 := h.en0 e.slot
  have e1 : e.seq = x.seq := by rw [he]
  have e2 : e.key = x.key := by rw [he]
  have e3 : e.del = x.del := by rw [he]
  have e4 : e.size = x.size := by rw [he]
  refine (valid_iff e).2 ⟨by rw [e2]; exact hv.1, by omega, by omega, by omega, by rw [e2]; omega, ?_, by omega, by omega⟩
  rw [e2, e3, e4]
  exact hv.2.2.2.2.2.1
theorem FI.copyNo (h : FI X all en nx j n) {x e : En} (hj : j < 100) (hx : x ∈ all) (he : e = { x with slot := e.slot, off := e.off }) (h0 : 0 ≤ e.slot) (h1 : e.slot < n) (ho : e.off = en e.slot) (hd : all.any (fun o => decide (o.slot = e.slot) && decide (o.seq = e.seq)) = true) :
    addE X e = 6 ∧ FI (addX X e) all en nx (j + 1) n := by
  have h6 : addE X e = 6 := by
    refine add_6 h.ne (h.has h0 h1) (h.copyValid hj hx he ho) (h.copyBad hx he) ?_
    rw [Bool.or_eq_true]
    refine .inl ?_
    obtain ⟨o, hm, hh⟩ := List.any_eq_true.1 hd
    simp only [Bool.and_eq_true, decide_eq_true_eq] at hh
    have e1 : e.seq = x.seq := by rw [he]
    have e2 : e.key = x.key := by rw [he]
    obtain ⟨q1, _, _⟩ := h.cp o hm x hx (by rw [hh.2, e1])
    exact List.any_eq_true.2 ⟨o, (h.of _ o).2 ⟨hm, by rw [q1, e2]⟩, decide_eq_true ⟨hh.2, hh.1⟩⟩
  refine ⟨h6, ?_⟩
  rw [addX_no (by rw [h6]; decide)]
  exact h.later (by omega)
theorem FI.copyYes (h : FI X all en nx j n) {x e : En} (hj : j < 100) (hx : x ∈ all) (he : e = { x with slot := e.slot, off := e.off }) (h0 : 0 ≤ e.slot) (h1 : e.slot < n) (ho : e.off = en e.slot) (hd : all.any (fun o => decide (o.slot = e.slot) && decide (o.seq = e.seq)) = false) :
    addE X e = 0 ∧ FI (addX X e) (all ++ [e]) (upd en e.slot (e.off + e.size)) nx (j + 1) n := by
  have e1 : e.seq = x.seq := by rw [he]
  have e2 : e.key = x.key := by rw [he]
  have e3 : e.del = x.del := by rw [he]
  have e4 : e.size = x.size := by rw [he]
  have a : AddOk X e := ⟨h.ne, h.has h0 h1, h.copyValid hj hx he ho, h.copyBad hx he, fun o hm => by
    have h2 := (h.of _ o).1 hm
    have h3 := List.any_eq_false.1 hd o h2.1
    unfold sameE
    refine decide_eq_false (fun hh => ?_)
    simp [hh.1, hh.2] at h3, h.clash ho⟩
  have hs := h.sm x hx
  refine ⟨ok_add a, h.push a ho (by rw [e4, e2]; exact hs) (Int.le_refl _) (by have := h.nx1; omega) (by rw [e1]; exact h.sq x hx) (fun o hm hh => ?_)⟩
  rw [e2, e3, e4]
  exact h.cp o hm x hx (by rw [hh, e1])
/-- A slot is emptied. -/
theorem FI.drop (h : FI X all en nx j n) {s : Int} (h0 : 0 ≤ s) (h1 : s < n) :
    dropC X s = 0 ∧ (X.slot s).length + (all.filter (fun o => !decide (o.slot = s))).length = all.length ∧ FI (dropX X s) (all.filter (fun o => !decide (o.slot = s))) (upd en s 0) nx (j + 1) n := by
  have hh := h.has h0 h1
  have hp := drop_ents h.wf hh
  have hw := drop_wf h.wf s
  have hne : ∀ o ∈ (dropX X s).ents, (!decide (o.slot = s)) = true := fun o ho => by
    simp only [Bool.not_eq_true', decide_eq_false_iff_not]
    intro e
    have h2 := (hw.slot_mem s o).2 ⟨ho, e⟩
    rw [drop_slot h.wf, if_pos rfl] at h2
    cases h2
  have hs : ∀ o ∈ X.slot s, ¬ (!decide (o.slot = s)) = true := fun o ho => by simp [((h.wf.slot_mem s o).1 ho).2]
  have hpm : (all.filter (fun o => !decide (o.slot = s))).Perm (dropX X s).ents := by
    have h2 := (h.pm.trans hp).filter (fun o => !decide (o.slot = s))
    rw [List.filter_append, List.filter_eq_nil_iff.2 hs, List.nil_append, List.filter_eq_self.2 hne] at h2
    exact h2
  refine ⟨if_pos hh, ?_, hw, ?_, h.n0, hpm, fun t => ?_, fun o ho => ?_, by have := h.j0; omega, h.nx0, by have := h.nx1; omega, fun o ho => h.sq o (List.mem_filter.1 ho).1, fun a ha b hb => h.cp a (List.mem_filter.1 ha).1 b (List.mem_filter.1 hb).1, fun o ho => h.sm o (List.mem_filter.1 ho).1⟩
  · have h2 := (h.pm.trans hp).length_eq
    have h3 := hpm.length_eq
    rw [List.length_append] at h2
    omega
  · rw [drop_yes hh]; simp only [List.length_set]; exact h.ln
  · have := h.en0 t
    have := h.j0
    unfold upd
    split <;> omega
  · obtain ⟨h2, h3⟩ := List.mem_filter.1 ho
    simp only [Bool.not_eq_true', decide_eq_false_iff_not] at h3
    rw [upd_other _ _ h3]
    exact h.up o h2
end
theorem FI.start (n : Nat) (h1 : 1 ≤ n) (h2 : n ≤ 32) : FI (ixNew n) [] (fun _ => 0) 1 0 n :=
  ⟨new_wf h2, by simp [ixNew], by omega, by simp [ixNew, IX.ents], fun _ => ⟨by omega, by omega⟩, (fun _ h => by cases h), by omega, by omega, by omega, (fun _ h => by cases h), (fun _ h => by cases h), (fun _ h => by cases h)⟩
end Go.Proofs.Ytanmmnomagfkhaa

/- An index that grows entry by entry, each behind those of its slot: what every builder of chapters 22, 23, 24, 28 keeps, without bounds. No walk. -/
set_option linter.unusedVariables false
set_option linter.unusedSimpArgs false
namespace Go.Proofs.Ytanmmnomagfkhaa

structure FG (X : IX) (all : List En) (en : Int → Int) (n : Int) : Prop where
  wf : X.Wf
  ln : (X.slots.length : Int) = n
  n0 : 1 ≤ n
  pm : all.Perm X.ents
  up : ∀ e ∈ all, e.off + e.size ≤ en e.slot
  cp : ∀ a ∈ all, ∀ b ∈ all, a.seq = b.seq → a.key = b.key ∧ a.del = b.del ∧ a.size = b.size
section
variable {X : IX} {all : List En} {en : Int → Int} {n : Int}
theorem FG.mem (h : FG X all en n) (e : En) : e ∈ all ↔ e ∈ X.ents := h.pm.mem_iff
theorem FG.slot (h : FG X all en n) (s : Int) (e : En) : e ∈ X.slot s ↔ e ∈ all ∧ e.slot = s := by rw [h.mem]; exact h.wf.slot_mem s e
theorem FG.of (h : FG X all en n) (k : ByteArray) (e : En) : e ∈ X.of k ↔ e ∈ all ∧ e.key = k := by rw [h.mem]; exact h.wf.of_mem k e
theorem FG.ne (h : FG X all en n) : X.slots ≠ [] := fun h0 => by have := h.ln; have := h.n0; rw [h0] at *; simp at *; omega
theorem FG.has (h : FG X all en n) {s : Int} (h0 : 0 ≤ s) (h1 : s < n) : X.has s = true := by
  unfold IX.has
  exact decide_eq_true ⟨h0, by have := h.ln; omega⟩
theorem FG.no (h : FG X all en n) {s : Int} (h0 : s < 0 ∨ n ≤ s) : X.has s = false := by
  unfold IX.has
  exact decide_eq_false (by have := h.ln; omega)
theorem FG.len (h : FG X all en n) : (X.ents.length : Int) = all.length := by rw [h.pm.length_eq]
theorem FG.val (h : FG X all en n) {e : En} (he : e ∈ all) : keyChk e.key = 0 ∧ 1 ≤ e.seq ∧ e.seq ≤ 1099511627776 ∧ 0 ≤ e.off ∧ 16 + (e.key.size : Int) ≤ e.size ∧ (e.size = 16 + (e.key.size : Int) ∨ e.del = false) ∧ e.size ≤ 8192 ∧ e.off ≤ 8192 - e.size := (valid_iff e).1 (h.wf.valid ((h.mem e).1 he)).1
theorem FG.slots (h : FG X all en n) {e : En} (he : e ∈ all) : 0 ≤ e.slot ∧ e.slot < n := by
  have h1 := (h.wf.valid ((h.mem e).1 he)).2
  unfold IX.has at h1
  have := of_decide_eq_true h1
  have := h.ln
  omega
theorem FG.clash (h : FG X all en n) {e : En} (ho : en e.slot ≤ e.off) : clash (X.slot e.slot) e = false := by
  refine clash_end (fun o hm => ?_) (fun o hm => ?_)
  · obtain ⟨h1, h2⟩ := (h.slot _ o).1 hm
    have := h.up o h1
    rw [h2] at this
    omega
  · have := h.val ((h.slot _ o).1 hm).1
    omega
/-- An entry that goes behind those of its slot. -/
theorem FG.push (h : FG X all en n) {e : En} (a : AddOk X e) (ho : en e.slot ≤ e.off) (hc : ∀ o ∈ all, o.seq = e.seq → o.key = e.key ∧ o.del = e.del ∧ o.size = e.size) :
    FG (addX X e) (all ++ [e]) (upd en e.slot (e.off + e.size)) n := by
  have hv := (valid_iff e).1 a.valid
  have hle : ∀ s, en s ≤ upd en e.slot (e.off + e.size) s := fun s => by
    unfold upd
    split
    · rename_i h0; subst h0; omega
    · exact Int.le_refl _
  refine ⟨add_wf h.wf a, ?_, h.n0, ?_, fun o hm => ?_, fun x hx y hy hq => ?_⟩
  · rw [addX_eq a]; simp only [List.length_set]; exact h.ln
  · exact (List.perm_append_singleton e all).trans ((h.pm.cons e).trans (add_ents h.wf a).symm)
  · rcases List.mem_append.1 hm with hm | hm
    · exact Int.le_trans (h.up o hm) (hle _)
    · rw [List.mem_singleton.1 hm, upd_same]
      exact Int.le_refl _
  · rcases List.mem_append.1 hx with hx1 | hx1 <;> rcases List.mem_append.1 hy with hy1 | hy1
    · exact h.cp x hx1 y hy1 hq
    · obtain rfl := List.mem_singleton.1 hy1
      exact hc x hx1 hq
    · obtain rfl := List.mem_singleton.1 hx1
      obtain ⟨q1, q2, q3⟩ := hc y hy1 hq.symm
      exact ⟨q1.symm, q2.symm, q3.symm⟩
    · obtain rfl := List.mem_singleton.1 hx1
      obtain rfl := List.mem_singleton.1 hy1
      exact ⟨rfl, rfl, rfl⟩
/-- A new entry can be added. -/
theorem FG.okNew (h : FG X all en n) {e : En} (hq : ∀ o ∈ all, o.seq ≠ e.seq) (h0 : 0 ≤ e.slot) (h1 : e.slot < n) (hv : validE e = true) (ho : en e.slot ≤ e.off) : AddOk X e := by
  refine ⟨h.ne, h.has h0 h1, hv, fun o hm => badE_no (fun hh => absurd hh (hq o ((h.of _ o).1 hm).1)), fun o hm => ?_, h.clash ho⟩
  unfold sameE
  exact decide_eq_false (fun hh => hq o ((h.of _ o).1 hm).1 hh.1)
theorem FG.new (h : FG X all en n) {e : En} (hq : ∀ o ∈ all, o.seq ≠ e.seq) (h0 : 0 ≤ e.slot) (h1 : e.slot < n) (hv : validE e = true) (ho : en e.slot ≤ e.off) :
    addE X e = 0 ∧ FG (addX X e) (all ++ [e]) (upd en e.slot (e.off + e.size)) n :=
  have a := h.okNew hq h0 h1 hv ho
  ⟨ok_add a, h.push a ho (fun o hm hh => absurd hh (hq o hm))⟩
/-- A copy of what there is differs from no entry with its number. -/
theorem FG.copyBad (h : FG X all en n) {x e : En} (hx : x ∈ all) (he : e = { x with slot := e.slot, off := e.off }) : ∀ o ∈ X.of e.key, badE e o = false := by
  intro o hm
  obtain ⟨h1, h2⟩ := (h.of _ o).1 hm
  refine badE_no (fun hh => ?_)
  have e1 : e.seq = x.seq := by rw [he]
  have e3 : e.del = x.del := by rw [he]
  have e4 : e.size = x.size := by rw [he]
  obtain ⟨q1, q2, q3⟩ := h.cp o h1 x hx (by rw [hh, e1])
  exact En.ext' hh h2 (by rw [e3]; exact q2) rfl rfl (by rw [e4]; exact q3)
theorem FG.copyNo (h : FG X all en n) {x e : En} (hx : x ∈ all) (he : e = { x with slot := e.slot, off := e.off }) (h0 : 0 ≤ e.slot) (h1 : e.slot < n) (hv : validE e = true) (hd : ∃ o ∈ all, o.slot = e.slot ∧ o.seq = e.seq) : addE X e = 6 := by
  refine add_6 h.ne (h.has h0 h1) hv (h.copyBad hx he) ?_
  rw [Bool.or_eq_true]
  refine .inl ?_
  obtain ⟨o, hm, hh⟩ := hd
  have e1 : e.seq = x.seq := by rw [he]
  have e2 : e.key = x.key := by rw [he]
  obtain ⟨q1, _, _⟩ := h.cp o hm x hx (by rw [hh.2, e1])
  exact List.any_eq_true.2 ⟨o, (h.of _ o).2 ⟨hm, by rw [q1, e2]⟩, decide_eq_true ⟨hh.2, hh.1⟩⟩
theorem FG.copyYes (h : FG X all en n) {x e : En} (hx : x ∈ all) (he : e = { x with slot := e.slot, off := e.off }) (h0 : 0 ≤ e.slot) (h1 : e.slot < n) (hv : validE e = true) (ho : en e.slot ≤ e.off) (hd : ¬ ∃ o ∈ all, o.slot = e.slot ∧ o.seq = e.seq) :
    addE X e = 0 ∧ FG (addX X e) (all ++ [e]) (upd en e.slot (e.off + e.size)) n := by
  have e1 : e.seq = x.seq := by rw [he]
  have e2 : e.key = x.key := by rw [he]
  have e3 : e.del = x.del := by rw [he]
  have e4 : e.size = x.size := by rw [he]
  have a : AddOk X e := ⟨h.ne, h.has h0 h1, hv, h.copyBad hx he, fun o hm => by
    have h2 := (h.of _ o).1 hm
    unfold sameE
    exact decide_eq_false (fun hh => hd ⟨o, h2.1, hh.2, hh.1⟩), h.clash ho⟩
  refine ⟨ok_add a, h.push a ho (fun o hm hh => ?_)⟩
  rw [e2, e3, e4]
  exact h.cp o hm x hx (by rw [hh, e1])
/-- A slot is emptied. -/
theorem FG.drop (h : FG X all en n) {s : Int} (h0 : 0 ≤ s) (h1 : s < n) {en' : Int → Int} (he : ∀ t, t ≠ s → en t ≤ en' t) :
    dropC X s = 0 ∧ (X.slot s).length + (all.filter (fun o => !decide (o.slot = s))).length = all.length ∧ FG (dropX X s) (all.filter (fun o => !decide (o.slot = s))) en' n := by
  have hh := h.has h0 h1
  have hp := drop_ents h.wf hh
  have hw := drop_wf h.wf s
  have hne : ∀ o ∈ (dropX X s).ents, (!decide (o.slot = s)) = true := fun o ho => by
    simp only [Bool.not_eq_true', decide_eq_false_iff_not]
    intro e
    have h2 := (hw.slot_mem s o).2 ⟨ho, e⟩
    rw [drop_slot h.wf, if_pos rfl] at h2
    cases h2
  have hs : ∀ o ∈ X.slot s, ¬ (!decide (o.slot = s)) = true := fun o ho => by simp [((h.wf.slot_mem s o).1 ho).2]
  have hpm : (all.filter (fun o => !decide (o.slot = s))).Perm (dropX X s).ents := by
    have h2 := (h.pm.trans hp).filter (fun o => !decide (o.slot = s))
    rw [List.filter_append, List.filter_eq_nil_iff.2 hs, List.nil_append, List.filter_eq_self.2 hne] at h2
    exact h2
  refine ⟨if_pos hh, ?_, hw, ?_, h.n0, hpm, fun o ho => ?_, fun a ha b hb => h.cp a (List.mem_filter.1 ha).1 b (List.mem_filter.1 hb).1⟩
  · have h2 := (h.pm.trans hp).length_eq
    have h3 := hpm.length_eq
    rw [List.length_append] at h2
    omega
  · rw [drop_yes hh]; simp only [List.length_set]; exact h.ln
  · obtain ⟨h2, h3⟩ := List.mem_filter.1 ho
    simp only [Bool.not_eq_true', decide_eq_false_iff_not] at h3
    exact Int.le_trans (h.up o h2) (he _ h3)
end
theorem FG.start (n : Nat) (h1 : 1 ≤ n) (h2 : n ≤ 32) (en : Int → Int) : FG (ixNew n) [] en n :=
  ⟨new_wf h2, by simp [ixNew], by omega, by simp [ixNew, IX.ents], (fun _ h => by cases h), (fun _ h => by cases h)⟩
end Go.Proofs.Ytanmmnomagfkhaa

/- drumlinlaw24.build in plain Lean. No walk. -/
set_option linter.unusedVariables false
set_option linter.unusedSimpArgs false
namespace Go.Proofs.Ytanmmnomagfkhaa

structure Ac where
  kind : Int
  key : Int
  slot : Int
structure Ac.Ok (t : Ac) : Prop where
  kind : 0 ≤ t.kind ∧ t.kind ≤ 255
  key : 0 ≤ t.key ∧ t.key ≤ 255
  slot : 0 ≤ t.slot ∧ t.slot ≤ 255
def acKey (a : Int) : ByteArray := ⟨#[(97 + a % 6).toNat.toUInt8]⟩
theorem acKey_ok (a : Int) : keyChk (acKey a) = 0 ∧ (acKey a).size = 1 ∧ Low (acKey a) := by
  obtain ⟨n, hn, hl⟩ : ∃ n : Nat, a % 6 = n ∧ n < 6 := ⟨(a % 6).toNat, by omega, by omega⟩
  have e : acKey a = ⟨#[(97 + n).toUInt8]⟩ := by
    unfold acKey
    rw [hn, show ((97 : Int) + (n : Int)).toNat = 97 + n by omega]
  rw [e]
  have hu : ((97 + n).toUInt8).toNat = 97 + n := by
    rw [Nat.toUInt8_eq, UInt8.toNat_ofNat']
    omega
  refine ⟨?_, rfl, fun j hj => ?_⟩
  · have hk : keyC ((97 + n).toUInt8) = true := by
      unfold keyC
      simp only [Bool.or_eq_true, Bool.and_eq_true, decide_eq_true_eq]
      right
      constructor
      · rw [UInt8.le_iff_toNat_le, hu]; show 97 ≤ 97 + n; omega
      · rw [UInt8.le_iff_toNat_le, hu]; show 97 + n ≤ 122; omega
    rw [keyChk_ok (k := ⟨#[(97 + n).toUInt8]⟩) (fun j hj => by
      have hj1 : j < 1 := hj
      obtain rfl : j = 0 := by omega
      exact hk)]
    rfl
  · have hj1 : j < 1 := hj
    obtain rfl : j = 0 := by omega
    show ((97 + n).toUInt8).toNat < 128
    omega
structure LS where
  X : IX
  all : List En
  us : Int → Int
  sq : Int
/-- An entry that is added behind those of its slot. -/
def atE (st : LS) (e : En) : En := { e with off := st.us e.slot }
def dupA (st : LS) (e : En) : Bool := st.all.any (fun o => decide (o.slot = e.slot) && decide (o.seq = e.seq))
def pushA (st : LS) (e : En) : LS := ⟨addX st.X (atE st e), st.all ++ [atE st e], upd st.us e.slot (st.us e.slot + e.size), st.sq⟩
/-- What add does. -/
def addA (st : LS) (e : En) : LS := if dupA st e = true then st else pushA st e
def putE (k : ByteArray) (q s : Int) : En := ⟨q, k, false, s, 0, 18 + (k.size : Int)⟩
def delE (k : ByteArray) (q s : Int) : En := ⟨q, k, true, s, 0, 16 + (k.size : Int)⟩
def nextA (st : LS) : LS := { st with sq := st.sq + 1 }
def stepA (st : LS) (t : Ac) : LS :=
  if t.kind % 5 = 3 then addA (nextA st) (delE (acKey t.key) (st.sq + 1) (t.slot % 5))
  else if t.kind % 5 < 3 then addA (nextA st) (putE (acKey t.key) (st.sq + 1) (t.slot % 5))
  else if st.all = [] then st else addA st { (st.all.getD (t.key % st.all.length).toNat zE) with slot := t.slot % 5 }
def foldA (L : List Ac) : LS := L.foldl stepA ⟨ixNew 6, [], fun _ => 0, 0⟩
theorem foldA_snoc (L : List Ac) (t : Ac) : foldA (L ++ [t]) = stepA (foldA L) t := by simp [foldA]
structure LS.Ok (st : LS) (j : Nat) : Prop where
  g : FG st.X st.all st.us 6
  n : st.all.length ≤ j
  q0 : 0 ≤ st.sq
  q1 : st.sq ≤ j
  u : ∀ s, 0 ≤ st.us s ∧ st.us s ≤ 19 * j
  e : ∀ e ∈ st.all, 1 ≤ e.seq ∧ e.seq ≤ st.sq ∧ Low e.key ∧ e.key.size = 1 ∧ e.size ≤ 19
theorem LS.later {st : LS} {j j' : Nat} (h : st.Ok j) (hj : j ≤ j') : st.Ok j' := ⟨h.g, Nat.le_trans h.n hj, h.q0, by have := h.q1; omega, fun s => by have := h.u s; omega, h.e⟩
/-- What add says, of a copy or of a new entry. -/
structure AddS (st : LS) (e : En) : Prop where
  slot : 0 ≤ e.slot ∧ e.slot < 6
  sq : e.seq ≤ st.sq ∧ 1 ≤ e.seq
  k : keyChk e.key = 0 ∧ e.key.size = 1 ∧ Low e.key
  z : 17 ≤ e.size ∧ e.size ≤ 19 ∧ (e.size = 17 ∨ e.del = false)
  o : (∀ o ∈ st.all, o.seq ≠ e.seq) ∨ ∃ x ∈ st.all, x.seq = e.seq ∧ x.key = e.key ∧ x.del = e.del ∧ x.size = e.size
theorem addA_ok {st : LS} {j : Nat} {e : En} (h : st.Ok j) (hj : j ≤ 200) (a : AddS st e) :
    (dupA st e = true → addE st.X (atE st e) = 6) ∧ (dupA st e = false → addE st.X (atE st e) = 0) ∧ (addA st e).Ok (j + 1) ∧ Low (atE st e).key ∧ En64 (atE st e) ∧ 0 ≤ st.us e.slot ∧ st.us e.slot ≤ 3800 ∧ 0 ≤ e.size ∧ e.size ≤ 19 := by
  have hu := h.u e.slot
  have kz : (e.key.size : Int) = 1 := by rw [a.k.2.1]; rfl
  have hz : 17 ≤ e.size ∧ e.size ≤ 19 := ⟨a.z.1, a.z.2.1⟩
  have q1 := h.q1
  have hv : validE (atE st e) = true := (valid_iff _).2 ⟨a.k.1, a.sq.2, show e.seq ≤ 1099511627776 by have := a.sq.1; omega, hu.1, show 16 + (e.key.size : Int) ≤ e.size by omega,
    (a.z.2.2.imp (fun h => (show e.size = 16 + (e.key.size : Int) by omega)) id), show e.size ≤ (8192 : Int) by omega, show st.us e.slot ≤ 8192 - e.size by omega⟩
  have hdup : dupA st e = true ↔ ∃ o ∈ st.all, o.slot = (atE st e).slot ∧ o.seq = (atE st e).seq := by
    unfold dupA
    rw [List.any_eq_true]
    simp only [Bool.and_eq_true, decide_eq_true_eq]
    exact Iff.rfl
  have hpush : FG (addX st.X (atE st e)) (st.all ++ [atE st e]) (upd st.us e.slot (st.us e.slot + e.size)) 6 → (pushA st e).Ok (j + 1) := fun g => by
    refine ⟨g, ?_, h.q0, by show st.sq ≤ ((j + 1 : Nat) : Int); omega, fun s => ?_, fun o ho => ?_⟩
    · show (st.all ++ [_]).length ≤ j + 1
      have := h.n
      rw [List.length_append]; simp; omega
    · have hs := h.u s
      show 0 ≤ upd st.us e.slot (st.us e.slot + e.size) s ∧ upd st.us e.slot (st.us e.slot + e.size) s ≤ 19 * ((j + 1 : Nat) : Int)
      unfold upd
      split <;> omega
    · rcases List.mem_append.1 ho with ho | ho
      · exact h.e o ho
      · rw [List.mem_singleton.1 ho]
        exact ⟨a.sq.2, a.sq.1, a.k.2.2, a.k.2.1, hz.2⟩
  refine ⟨fun hd => ?_, fun hd => ?_, ?_, a.k.2.2, ⟨by show e.size ≤ 9223372036854775807; omega, by show -9223372036854775808 ≤ e.size; omega, by show e.key.size ≤ 140737488351232; rw [a.k.2.1]; decide⟩, hu.1, by omega, by omega, hz.2⟩
  · have hd := hdup.1 hd
    rcases a.o with ho | ⟨x, hx, e1, e2, e3, e4⟩
    · obtain ⟨o, hm, _, hq⟩ := hd
      exact absurd hq (ho o hm)
    · exact h.g.copyNo hx (En.ext' (show e.seq = x.seq from e1.symm) (show e.key = x.key from e2.symm) (show e.del = x.del from e3.symm) rfl rfl (show e.size = x.size from e4.symm)) a.slot.1 a.slot.2 hv hd
  · have hd' : ¬ ∃ o ∈ st.all, o.slot = (atE st e).slot ∧ o.seq = (atE st e).seq := fun hh => by rw [hdup.2 hh] at hd; cases hd
    rcases a.o with ho | ⟨x, hx, e1, e2, e3, e4⟩
    · exact (h.g.new (e := atE st e) ho a.slot.1 a.slot.2 hv (Int.le_refl _)).1
    · exact (h.g.copyYes (e := atE st e) hx (En.ext' (show e.seq = x.seq from e1.symm) (show e.key = x.key from e2.symm) (show e.del = x.del from e3.symm) rfl rfl (show e.size = x.size from e4.symm)) a.slot.1 a.slot.2 hv (Int.le_refl _) hd').1
  · unfold addA
    split
    · exact LS.later h (by omega)
    · rename_i hd
      have hd' : ¬ ∃ o ∈ st.all, o.slot = (atE st e).slot ∧ o.seq = (atE st e).seq := fun hh => hd (hdup.2 hh)
      rcases a.o with ho | ⟨x, hx, e1, e2, e3, e4⟩
      · exact hpush (h.g.new (e := atE st e) ho a.slot.1 a.slot.2 hv (Int.le_refl _)).2
      · exact hpush (h.g.copyYes (e := atE st e) hx (En.ext' (show e.seq = x.seq from e1.symm) (show e.key = x.key from e2.symm) (show e.del = x.del from e3.symm) rfl rfl (show e.size = x.size from e4.symm)) a.slot.1 a.slot.2 hv (Int.le_refl _) hd').2
theorem nextA_ok {st : LS} {j : Nat} (h : st.Ok j) : (nextA st).Ok (j + 1) :=
  ⟨h.g, by have := h.n; show st.all.length ≤ j + 1; omega, by have := h.q0; show 0 ≤ st.sq + 1; omega, by have := h.q1; show st.sq + 1 ≤ ((j + 1 : Nat) : Int); omega, fun s => by have := h.u s; show 0 ≤ st.us s ∧ st.us s ≤ 19 * ((j + 1 : Nat) : Int); omega, fun e he => by
    obtain ⟨h1, h2, h3⟩ := h.e e he
    exact ⟨h1, by show e.seq ≤ st.sq + 1; omega, h3⟩⟩
theorem newA {st : LS} {j : Nat} (h : st.Ok j) (k σ : Int) (hσ : 0 ≤ σ ∧ σ < 6) (d : Bool) : AddS (nextA st) ⟨st.sq + 1, acKey k, d, σ, 0, if d = true then 16 + ((acKey k).size : Int) else 18 + ((acKey k).size : Int)⟩ := by
  have h0 := h.q0
  refine ⟨hσ, ⟨Int.le_refl _, by show 1 ≤ st.sq + 1; omega⟩, acKey_ok k, ?_, .inl (fun o ho => ?_)⟩
  · have kz : ((acKey k).size : Int) = 1 := by rw [(acKey_ok k).2.1]; rfl
    cases d
    · exact ⟨show (17 : Int) ≤ 18 + ((acKey k).size : Int) by omega, show 18 + ((acKey k).size : Int) ≤ (19 : Int) by omega, .inr rfl⟩
    · exact ⟨show (17 : Int) ≤ 16 + ((acKey k).size : Int) by omega, show 16 + ((acKey k).size : Int) ≤ (19 : Int) by omega, .inl (show 16 + ((acKey k).size : Int) = 17 by omega)⟩
  · have := (h.e o ho).2.1
    show o.seq ≠ st.sq + 1
    omega
theorem copyA {st : LS} {j : Nat} (h : st.Ok j) {x : En} (hx : x ∈ st.all) (σ : Int) (hσ : 0 ≤ σ ∧ σ < 6) : AddS st { x with slot := σ } := by
  obtain ⟨h1, h2, h3, h4, h5⟩ := h.e x hx
  have hv := h.g.val hx
  have kz : (x.key.size : Int) = 1 := by rw [h4]; rfl
  exact ⟨hσ, ⟨h2, h1⟩, ⟨hv.1, h4, h3⟩, ⟨show (17 : Int) ≤ x.size by omega, h5, hv.2.2.2.2.2.1.imp (fun h => (show x.size = 17 by omega)) id⟩, .inr ⟨x, hx, rfl, rfl, rfl, rfl⟩⟩
end Go.Proofs.Ytanmmnomagfkhaa

/- LivenessRefuses in plain Lean. No walk. -/
set_option linter.unusedVariables false
set_option linter.unusedSimpArgs false
namespace Go.Proofs.Ytanmmnomagfkhaa

theorem foldA_ok : ∀ (n : Nat) (L : List Ac), L.length = n → n ≤ 90 → (∀ t ∈ L, t.Ok) → (foldA L).Ok (2 * n) ∧ ∀ e ∈ (foldA L).all, e.slot < 5
  | 0, L, hL, _, _ => by
    rw [List.eq_nil_of_length_eq_zero hL]
    exact ⟨⟨FG.start 6 (by omega) (by omega) _, by show 0 ≤ 0; omega, by show (0 : Int) ≤ 0; omega, by show (0 : Int) ≤ 0; omega, fun s => ⟨Int.le_refl _, by show (0 : Int) ≤ 19 * 0; omega⟩, (fun _ h => by cases h)⟩, (fun _ h => by cases h)⟩
  | n + 1, L, hL, hn, ht => by
    have hne : L ≠ [] := fun h => by rw [h] at hL; cases hL
    have e := List.dropLast_concat_getLast hne
    obtain ⟨h1, h5⟩ := foldA_ok n L.dropLast (by rw [List.length_dropLast]; omega) (by omega) (fun m h => ht m (List.dropLast_subset L h))
    rw [← e, foldA_snoc]
    generalize L.getLast hne = t at *
    generalize foldA L.dropLast = st at *
    have hs : 0 ≤ t.slot % 5 ∧ t.slot % 5 < 5 := by omega
    have hadd : ∀ (s2 : LS) (e : En), s2.all = st.all → e.slot < 5 → ∀ x ∈ (addA s2 e).all, x.slot < 5 := by
      intro s2 e h2 he x hx
      unfold addA at hx
      split at hx
      · rw [h2] at hx; exact h5 x hx
      · rcases List.mem_append.1 hx with hx | hx
        · rw [h2] at hx; exact h5 x hx
        · rw [List.mem_singleton.1 hx]; exact he
    unfold stepA
    split
    · refine ⟨(addA_ok (nextA_ok h1) (by omega) (e := delE (acKey t.key) (st.sq + 1) (t.slot % 5)) ?_).2.2.1, hadd _ _ rfl hs.2⟩
      have := newA h1 t.key (t.slot % 5) ⟨hs.1, by omega⟩ true
      simpa [delE] using this
    · split
      · refine ⟨(addA_ok (nextA_ok h1) (by omega) (e := putE (acKey t.key) (st.sq + 1) (t.slot % 5)) ?_).2.2.1, hadd _ _ rfl hs.2⟩
        have := newA h1 t.key (t.slot % 5) ⟨hs.1, by omega⟩ false
        simpa [putE] using this
      · split
        · exact ⟨LS.later h1 (by omega), h5⟩
        · rename_i hne2
          have hl : 0 < st.all.length := List.length_pos_iff.2 hne2
          have hk : 0 ≤ t.key := (ht t (by rw [← e]; simp)).key.1
          have g1 := Int.emod_lt_of_pos t.key (show (0 : Int) < st.all.length by omega)
          have g2 := Int.emod_nonneg t.key (show (st.all.length : Int) ≠ 0 by omega)
          have g3 : (t.key % st.all.length).toNat < st.all.length := by omega
          have hm : st.all.getD (t.key % st.all.length).toNat zE ∈ st.all := by
            rw [List.getD_eq_getElem?_getD, List.getElem?_eq_getElem g3]
            exact List.getElem_mem g3
          exact ⟨LS.later (addA_ok h1 (by omega) (copyA h1 hm (t.slot % 5) ⟨hs.1, by omega⟩)).2.2.1 (by omega), hadd _ _ rfl hs.2⟩
section
variable {X : IX} {all : List En} {en : Int → Int} {n : Int}
theorem FG.hasE (h : FG X all en n) (e : En) : X.hasE e = decide (e ∈ all) := by
  unfold IX.hasE
  by_cases he : e ∈ all
  · rw [decide_eq_true he]
    exact List.any_eq_true.2 ⟨e, (h.of _ e).2 ⟨he, rfl⟩, decide_eq_true rfl⟩
  · rw [decide_eq_false he]
    refine List.any_eq_false.2 (fun o ho => ?_)
    have := (h.of _ o).1 ho
    simp only [decide_eq_true_eq]
    rintro rfl
    exact he this.1
theorem FG.needV (h : FG X all en n) (e : En) : (e ∈ all → neededV X e = .tuple #[.bool (X.needs e), .int .i64 0]) ∧ (e ∉ all → neededV X e = .tuple #[.bool false, .int .i64 5]) := by
  unfold neededV
  rw [if_neg h.ne, h.hasE]
  exact ⟨fun he => by rw [decide_eq_true he, if_neg (by decide)], fun he => by rw [decide_eq_false he, if_pos rfl]⟩
theorem FG.noOff (h : FG X all en n) {y : En} (hy : y ∈ all) : { y with off := y.off + 1 } ∉ all := by
  intro hz
  have hs := h.wf.slotOk y.slot
  have h1 := (h.slot y.slot y).2 ⟨hy, rfl⟩
  have h2 := (h.slot y.slot { y with off := y.off + 1 }).2 ⟨hz, rfl⟩
  have hv := h.val hy
  obtain ⟨i, hi, e1⟩ := List.mem_iff_getElem.1 h1
  obtain ⟨j, hj, e2⟩ := List.mem_iff_getElem.1 h2
  rcases Nat.lt_trichotomy i j with h3 | h3 | h3
  · have := List.pairwise_iff_getElem.1 hs.p i j hi hj h3
    rw [e1, e2] at this
    simp only at this
    omega
  · subst h3
    rw [e1] at e2
    have := congrArg En.off e2
    simp only at this
    omega
  · have := List.pairwise_iff_getElem.1 hs.p j i hj hi h3
    rw [e1, e2] at this
    simp only at this
    omega
end
/-- An entry of which one field is another one. -/
def chE (c : Int) (y : En) : En :=
  if c = 0 then { y with seq := y.seq + 1000 } else if c = 1 then { y with key := y.key ++ ⟨#[120]⟩ } else if c = 2 then { y with del := !y.del }
  else if c = 3 then { y with slot := 5 } else if c = 4 then { y with off := y.off + 1 } else { y with size := y.size + 1 }
theorem chE_no {st : LS} {j : Nat} (h : st.Ok j) (hj : j ≤ 200) (h5 : ∀ e ∈ st.all, e.slot < 5) {y : En} (hy : y ∈ st.all) (c : Int) : chE c y ∉ st.all := by
  obtain ⟨h1, h2, h3, h4, h6⟩ := h.e y hy
  have q1 := h.q1
  unfold chE
  split
  · intro hz; have := (h.e _ hz).2.1; simp only at this; omega
  · split
    · intro hz
      have := (h.e _ hz).2.2.2.1
      simp only [ByteArray.size_append, h4] at this
      cases this
    · split
      · intro hz
        have := (h.g.cp y hy _ hz rfl).2.1
        simp only at this
        cases hd : y.del <;> rw [hd] at this <;> cases this
      · split
        · intro hz; have := h5 _ hz; simp only at this; omega
        · split
          · exact h.g.noOff hy
          · intro hz
            have := (h.g.cp y hy _ hz rfl).2.2
            simp only at this
            omega
theorem q_no {st : LS} {j : Nat} (h : st.Ok j) (e : En) (he : e.key = ⟨#[113]⟩) (hk : ∀ e ∈ st.all, ∃ a, e.key = acKey a) : e ∉ st.all := by
  intro hm
  obtain ⟨a, ha⟩ := hk e hm
  rw [he] at ha
  unfold acKey at ha
  have h1 := congrArg (fun b : ByteArray => b.data.toList.map UInt8.toNat) ha
  obtain ⟨n, hn, hl⟩ : ∃ n : Nat, a % 6 = n ∧ n < 6 := ⟨(a % 6).toNat, by omega, by omega⟩
  rw [hn, show ((97 : Int) + (n : Int)).toNat = 97 + n by omega] at h1
  simp only [List.map_cons, List.map_nil, List.cons.injEq, and_true] at h1
  rw [Nat.toUInt8_eq, UInt8.toNat_ofNat'] at h1
  have : (113 : UInt8).toNat = 113 := rfl
  omega
theorem foldA_keys : ∀ (n : Nat) (L : List Ac), L.length = n → (∀ t ∈ L, t.Ok) → ∀ e ∈ (foldA L).all, ∃ a, e.key = acKey a
  | 0, L, hL, _ => by
    rw [List.eq_nil_of_length_eq_zero hL]
    exact fun _ h => by cases h
  | n + 1, L, hL, ht => by
    have hne : L ≠ [] := fun h => by rw [h] at hL; cases hL
    have e := List.dropLast_concat_getLast hne
    have h5 := foldA_keys n L.dropLast (by rw [List.length_dropLast]; omega) (fun m h => ht m (List.dropLast_subset L h))
    rw [← e, foldA_snoc]
    have hk : 0 ≤ (L.getLast hne).key := (ht _ (List.getLast_mem hne)).key.1
    generalize L.getLast hne = t at *
    generalize foldA L.dropLast = st at *
    have hadd : ∀ (s2 : LS) (e : En), s2.all = st.all → (∃ a, e.key = acKey a) → ∀ x ∈ (addA s2 e).all, ∃ a, x.key = acKey a := by
      intro s2 e h2 he x hx
      unfold addA at hx
      split at hx
      · rw [h2] at hx; exact h5 x hx
      · rcases List.mem_append.1 hx with hx | hx
        · rw [h2] at hx; exact h5 x hx
        · rw [List.mem_singleton.1 hx]; exact he
    unfold stepA
    split
    · exact hadd _ _ rfl ⟨_, rfl⟩
    · split
      · exact hadd _ _ rfl ⟨_, rfl⟩
      · split
        · exact h5
        · rename_i hne2
          have hl : 0 < st.all.length := List.length_pos_iff.2 hne2
          have g1 := Int.emod_lt_of_pos t.key (show (0 : Int) < st.all.length by omega)
          have g2 := Int.emod_nonneg t.key (show (st.all.length : Int) ≠ 0 by omega)
          have g3 : (t.key % st.all.length).toNat < st.all.length := by omega
          refine hadd _ _ rfl ?_
          show ∃ a, (st.all.getD (t.key % st.all.length).toNat zE).key = acKey a
          refine h5 _ ?_
          rw [List.getD_eq_getElem?_getD, List.getElem?_eq_getElem g3]
          exact List.getElem_mem g3
end Go.Proofs.Ytanmmnomagfkhaa

/- A box of an entry; six numbers, one for each slot. -/
set_option linter.unusedVariables false
set_option linter.unusedSimpArgs false
namespace Go.Proofs.Ytanmmnomagfkhaa
open Go.RowKit Go.Shelf

abbrev boxF (e : En) : Obj := .cells #[.int .i64 e.seq, .string e.key, .bool e.del, .int .i64 e.slot, .int .i64 e.off, .int .i64 e.size] 32
theorem SW.put {w0 w w' : World} {R : List Asn} {b : Nat} {o o' : Obj} (h : SW w0 (blkA b o :: R) w) (m : Mdh (fun k => k = b) w w') (hB : w'.heap[b]? = some o') : SW w0 (blkA b o' :: R) w' := h.step m (fun _ hk => .inl hk) hB (fun _ hk => .inl hk)
theorem us_get (us : Int → Int) (σ : Nat) (h : σ < 6) : (#[.int .i64 (us 0), .int .i64 (us 1), .int .i64 (us 2), .int .i64 (us 3), .int .i64 (us 4), .int .i64 (us 5)] : Array Value)[σ]? = some (.int .i64 (us σ)) := by
  have h' : σ = 0 ∨ σ = 1 ∨ σ = 2 ∨ σ = 3 ∨ σ = 4 ∨ σ = 5 := by omega
  rcases h' with rfl | rfl | rfl | rfl | rfl | rfl <;> rfl
theorem us_set (us : Int → Int) (σ : Nat) (h : σ < 6) (u : Int) : (#[.int .i64 (us 0), .int .i64 (us 1), .int .i64 (us 2), .int .i64 (us 3), .int .i64 (us 4), .int .i64 (us 5)] : Array Value).setIfInBounds σ (.int .i64 u) = #[.int .i64 (upd us σ u 0), .int .i64 (upd us σ u 1), .int .i64 (upd us σ u 2), .int .i64 (upd us σ u 3), .int .i64 (upd us σ u 4), .int .i64 (upd us σ u 5)] := by
  have h' : σ = 0 ∨ σ = 1 ∨ σ = 2 ∨ σ = 3 ∨ σ = 4 ∨ σ = 5 := by omega
  rcases h' with rfl | rfl | rfl | rfl | rfl | rfl <;> simp [upd]
abbrev usA (b6 : Nat) (us : Int → Int) : Asn := blkA b6 (.cells #[.int .i64 (us 0), .int .i64 (us 1), .int .i64 (us 2), .int .i64 (us 3), .int .i64 (us 4), .int .i64 (us 5)] 79)
end Go.Proofs.Ytanmmnomagfkhaa

/- drumlinlaw24's built: the walk of add. -/
set_option linter.unusedVariables false
set_option linter.unusedSimpArgs false
namespace Go.Proofs.Ytanmmnomagfkhaa
open Go.RowKit Go.Shelf
attribute [local go_sem] OvM cell_ovm obj_ovm
attribute [local go_sem] Oper.semAt_some

abbrev bdC (b : Nat) (v : Value) (us : Int → Int) (sq : Int) : Array Value := #[.pointer (some ⟨b, 0, none⟩), v, .int .i64 (us 0), .int .i64 (us 1), .int .i64 (us 2), .int .i64 (us 3), .int .i64 (us 4), .int .i64 (us 5), .int .i64 sq]
abbrev bdO (b : Nat) (v : Value) (us : Int → Int) (sq : Int) : Obj := .cells (bdC b v us sq) 81
theorem bd_get (b : Nat) (v : Value) (us : Int → Int) (sq : Int) (σ : Nat) (h : σ < 6) : (bdC b v us sq)[2 + σ]? = some (.int .i64 (us σ)) := by
  have h' : σ = 0 ∨ σ = 1 ∨ σ = 2 ∨ σ = 3 ∨ σ = 4 ∨ σ = 5 := by omega
  rcases h' with rfl | rfl | rfl | rfl | rfl | rfl <;> rfl
theorem bd_set (b : Nat) (v : Value) (us : Int → Int) (sq : Int) (σ : Nat) (h : σ < 6) (u : Int) : (bdC b v us sq).setIfInBounds (2 + σ) (.int .i64 u) = bdC b v (upd us σ u) sq := by
  have h' : σ = 0 ∨ σ = 1 ∨ σ = 2 ∨ σ = 3 ∨ σ = 4 ∨ σ = 5 := by omega
  rcases h' with rfl | rfl | rfl | rfl | rfl | rfl <;> simp [upd]
abbrev lL (b mb : Nat) (v : Value) (S : Nat → Prop) (st : LS) (R : List Asn) : List Asn := ixA b st.X S :: blkA mb (bdO b v st.us st.sq) :: rowA 32 6 v st.all.length (rowE st.all) :: R
def LdP (w0 : World) (b mb : Nat) (st : LS) (R : List Asn) (r : Ending) (w' : World) : Prop := r = .returned (.bool true) ∧ ∃ v S, SW w0 (lL b mb v S st R) w'
set_option maxRecDepth 40000 in
set_option maxHeartbeats 8000000 in
theorem bAdd {w0 w : World} {b mb : Nat} {v : Value} {S : Nat → Prop} {st : LS} {R : List Asn} {j : Nat} {e : En} (h : SW w0 (lL b mb v S st R) w) (hst : st.Ok j) (hj : j ≤ 200) (ha : AddS st e) :
    Calls Try.prog 92 #[.pointer (some ⟨mb, 0, none⟩), enV e] w (LdP w0 b mb (addA st e) R) := by
  obtain ⟨i0, hi, hz0, hz1, hz2⟩ := info_parts infoIten
  have H := Lib.hid h
  have hn : st.all.length ≤ 200 := Nat.le_trans hst.n hj
  have HOK := Lib.hid (addA_ok hst hj ha)
  have hlo : 0 ≤ st.us e.slot := HOK.out.2.2.2.2.2.1
  have hhi : st.us e.slot ≤ 3800 := HOK.out.2.2.2.2.2.2.1
  have hz3 : 0 ≤ e.size := HOK.out.2.2.2.2.2.2.2.1
  have hz4 : e.size ≤ 19 := HOK.out.2.2.2.2.2.2.2.2
  have HAM : Hid (addA st e = if dupA st e = true then st else ⟨addX st.X (atE st e), st.all ++ [atE st e], upd st.us e.slot (st.us e.slot + e.size), st.sq⟩) := Lib.hid rfl
  have HDV : Hid ((dupA st e = true → addE st.X (atE st e) = 6) ∧ (dupA st e = false → addE st.X (atE st e) = 0)) := Lib.hid ⟨HOK.out.1, HOK.out.2.1⟩
  have HLO : Hid (Low (atE st e).key ∧ En64 (atE st e)) := Lib.hid ⟨HOK.out.2.2.2.1, HOK.out.2.2.2.2.1⟩
  obtain ⟨σ, hσ⟩ : ∃ σ : Nat, e.slot = (σ : Int) := ⟨e.slot.toNat, by have := ha.slot; omega⟩
  have hσ6 : σ < 6 := by have := ha.slot; omega
  obtain ⟨am, ham⟩ : ∃ am, am = addA st e := ⟨_, rfl⟩
  obtain ⟨dv, hdv⟩ : ∃ dv, dv = dupA st e := ⟨_, rfl⟩
  obtain ⟨f, hf⟩ : ∃ f, f = atE st e := ⟨_, rfl⟩
  rw [← ham] at HAM ⊢
  rw [← hdv] at HAM HDV
  rw [← hf] at HAM HDV HLO
  have HF : Hid (f = ⟨e.seq, e.key, e.del, σ, st.us σ, e.size⟩) := Lib.hid (by rw [hf, ← hσ]; rfl)
  rw [hσ] at HAM hlo hhi
  clear h hst ha HOK ham hdv hf
  obtain ⟨e0, e1, e2, e3, e4, e5⟩ := e
  obtain ⟨X, all, us, sq⟩ := st
  simp only at hσ
  subst hσ
  simp only [enV] at *
  go_enter Try.func92, Try.ntmps92
  go_upto_region 1 with fail
  obtain ⟨b3, hb3⟩ : ∃ q, q = w.heap.size := ⟨_, rfl⟩
  obtain ⟨w1, hw1⟩ : ∃ y, y = w.alloc (boxF ⟨e0, e1, e2, σ, e4, e5⟩) := ⟨_, rfl⟩
  have H1 : Hid (SW w0 (blkA b3 (boxF ⟨e0, e1, e2, σ, e4, e5⟩) :: lL b mb v S ⟨X, all, us, sq⟩ R) w1) := Lib.hid (by rw [hw1, hb3]; exact H.out.alloc _)
  simp only [boxF] at hw1
  rw [← hb3, ← hw1]
  clear hw1 hb3 H
  have d3 := (cellsOf (show w1.heap[b3]? = _ from H1.out.get (i := 0) rfl)).1
  have d33 := (d3 3).trans (show _ = some (Value.int .i64 σ) from rfl)
  have dmu := ((cellsOf (show w1.heap[mb]? = _ from H1.out.get (i := 2) rfl)).1 (2 + σ)).trans (bd_get b v us sq σ hσ6)
  have f3 := (cellsOf (show w1.heap[b3]? = _ from H1.out.get (i := 0) rfl)).2
  have l3 := blkLt (show w1.heap[b3]? = _ from H1.out.get (i := 0) rfl)
  have hN1 : ¬ mb = b3 := fun h => (H1.out.get_ne (i := 2) (j := 0) rfl rfl (by decide)) mb rfl h
  have d35 := (d3 4).trans (show _ = some (Value.int .i64 e4) from rfl)
  clear d3
  refine wp_region_flo (fun k => k = b3) [] [8] (by kernel_rfl) (by kernel_rfl) (fun k hk => by subst hk; exact l3) ?_
  refine flo_seg 2 rfl ?_
  simp only [List.take_succ_cons, List.take_zero, List.drop_succ_cons, List.drop_zero]
  repeat (go_big_quiet_step (fail))
  refine wpQuiet_nil ?_
  refine flo_eff rfl rfl rfl rfl (fun K hK => ?_)
  have d34 := (Gr.refl w1).drew.keep d33
  go_wp2
  refine ⟨by (first | (refine Gr.mdh ?_ _; (repeat (first | (with_reducible exact Gr.refl _) | assumption | (with_reducible apply Gr.from_drew) | (with_reducible apply Gr.alloc) | (with_reducible apply Gr.drew) | (with_reducible refine Gr.trans ?_ (by assumption)) | (with_reducible refine Gr.setCell ?_ (by omega) _))); done) | (repeat (first | (with_reducible exact Mdh.refl _ _) | (with_reducible refine Mdh.setCell ?_ (by simp) _) | (with_reducible refine Mdh.setNew ?_ (by simp) _) | (with_reducible apply Mdh.alloc) | (with_reducible apply Mdh.from_drew) | (with_reducible apply Mdh.drew) | (with_reducible refine Mdh.gr ?_ (by assumption))))), ?_⟩
  refine flo_seg 5 rfl ?_
  simp only [List.take_succ_cons, List.take_zero, List.drop_succ_cons, List.drop_zero]
  repeat (go_big_quiet_step (fail))
  refine wpQuiet_nil ?_
  refine flo_eff rfl rfl rfl rfl (fun K hK => ?_)
  go_wp2
  refine ⟨by (first | (refine Gr.mdh ?_ _; (repeat (first | (with_reducible exact Gr.refl _) | assumption | (with_reducible apply Gr.from_drew) | (with_reducible apply Gr.alloc) | (with_reducible apply Gr.drew) | (with_reducible refine Gr.trans ?_ (by assumption)) | (with_reducible refine Gr.setCell ?_ (by omega) _))); done) | (repeat (first | (with_reducible exact Mdh.refl _ _) | (with_reducible refine Mdh.setCell ?_ (by simp) _) | (with_reducible refine Mdh.setNew ?_ (by simp) _) | (with_reducible apply Mdh.alloc) | (with_reducible apply Mdh.from_drew) | (with_reducible apply Mdh.drew) | (with_reducible refine Mdh.gr ?_ (by assumption))))), ?_⟩
  refine flo_nil ?_
  obtain ⟨w3, hw3⟩ : ∃ y, y = (w1.setCell ⟨b3, 4, none⟩ (.int .i64 (us σ))).drew := ⟨_, rfl⟩
  have H3 : Hid (SW w0 (blkA b3 (boxF f) :: lL b mb v S ⟨X, all, us, sq⟩ R) w3) := Lib.hid (by
    rw [hw3, HF.out]
    exact (H1.out.at (i := 0) rfl ((Mdh.refl (fun k => k = b3) w1).setCell (p := ⟨b3, 4, none⟩) rfl _) (fun k hk => .inl hk) (B := blkA b3 (boxF ⟨e0, e1, e2, σ, us σ, e5⟩)) (blkSet (j := 4) (H1.out.get (i := 0) rfl)) (fun k hk => .inl hk)).gr (Gr.refl _).drew)
  rw [← hw3]
  clear hw3 d33 d34 d35 dmu f3 l3 hN1 H1
  have HAD : ∀ {w' : World} {S' : Nat → Prop}, IXR w' b X S' → Calls Try.prog 10 #[.pointer (some ⟨b, 0, none⟩), enV f] w' fun e' w'' => e' = .returned (.int .i64 (addE X f)) ∧ IXPost b (addX X f) S' w' w'' := fun h => Add_any h _ HLO.out.1 HLO.out.2
  have HFE : Hid (f.slot = σ ∧ f.size = e5 ∧ f.off = us σ) := Lib.hid (by rw [HF.out]; exact ⟨rfl, rfl, rfl⟩)
  clear HF
  have HIX : IXR w3 b X S := H3.out.get (i := 1) rfl
  have HA := Lib.hid (HAD (HIX.gr (Gr.refl w3).drew))
  have d3 := (cellsOf (show w3.heap[b3]? = _ from H3.out.get (i := 0) rfl)).1
  (try simp only [boxF] at d3)
  have dm0 := ((cellsOf (show w3.heap[mb]? = _ from H3.out.get (i := 2) rfl)).1 0).trans (show _ = some (Value.pointer (some ⟨b, 0, none⟩)) from rfl)
  have hN1 : ¬ S mb := fun h => (H3.out.get_ne (i := 1) (j := 2) rfl rfl (by decide)) mb h rfl
  have hN2 : ¬ S b3 := fun h => (H3.out.get_ne (i := 1) (j := 0) rfl rfl (by decide)) b3 h rfl
  have HSL := Lib.hid (fun k (hk : S k) => HIX.lt k hk)
  clear HIX HAD
  obtain ⟨f0, f1, f2, f3, f4, f5⟩ := f
  obtain ⟨q3, q5, q4⟩ := HFE.out
  simp only at q3 q5 q4
  subst q3 q5 q4
  simp only [enV] at HA
  (try simp only at d3)
  go_wp2_with fail
  refine wp_region_flo (S) [] [] (by kernel_rfl) (by kernel_rfl) (HSL.out) ?_
  refine flo_seg 5 rfl ?_
  simp only [List.take_succ_cons, List.take_zero, List.drop_succ_cons, List.drop_zero]
  repeat (go_big_quiet_step (fail))
  refine wpQuiet_nil ?_
  refine flo_eff rfl rfl rfl rfl (fun K hK => ?_)
  go_wp2_with ((go_at_call 10; refine Calls.mono HA.out ?_; rintro e' w8 ⟨rfl, S8, hI8, hm8, hn8⟩; have HI8 := Lib.hid hI8; have HM8 := Lib.hid hm8; have HN8 := Lib.hid hn8; clear hI8 hm8 hn8))
  refine ⟨by exact HM8.out.mono (fun k hk => .inl hk), ?_⟩
  refine flo_seg 1 rfl ?_
  simp only [List.take_succ_cons, List.take_zero, List.drop_succ_cons, List.drop_zero]
  repeat (go_big_quiet_step (fail))
  refine wpQuiet_nil ?_
  refine flo_nil ?_
  have H8 : Hid (SW w0 (blkA b3 (boxF ⟨f0, f1, f2, σ, us σ, f5⟩) :: ixA b (addX X ⟨f0, f1, f2, σ, us σ, f5⟩) S8 :: blkA mb (bdO b v us sq) :: rowA 32 6 v all.length (rowE all) :: R) w8) := Lib.hid ((H3.out.gr (Gr.refl w3).drew).at (i := 1) rfl HM8.out (fun k hk => .inl hk) (B := ixA b (addX X ⟨f0, f1, f2, σ, us σ, f5⟩) S8) HI8.out HN8.out)
  clear d3 dm0 hN1 hN2 HA HM8 HI8 HN8 HSL H3
  cases dv with
  | true =>
    have hc6 := HDV.out.1 rfl
    have HX6 : Hid (addX X ⟨f0, f1, f2, σ, us σ, f5⟩ = X) := Lib.hid (addX_no (by rw [hc6]; decide))
    have HA6 : Hid (am = ⟨X, all, us, sq⟩) := Lib.hid (by rw [HAM.out, if_pos rfl])
    rw [hc6]
    rw [HX6.out] at H8
    clear hc6
    go_wp2_with fail
    go_ret
    exact ⟨rfl, v, S8, by rw [HA6.out]; exact H8.out.sub (.cons _ (List.Sublist.refl _))⟩
  | false =>
    have hc0 := HDV.out.2 rfl
    have HA6 : Hid (am = ⟨addX X ⟨f0, f1, f2, σ, us σ, f5⟩, all ++ [⟨f0, f1, f2, σ, us σ, f5⟩], upd us σ (us σ + f5), sq⟩) := Lib.hid (by rw [HAM.out, if_neg (by decide)])
    rw [hc0]
    clear hc0
    have d3 := (cellsOf (show w8.heap[b3]? = _ from H8.out.get (i := 0) rfl)).1
    have d33 := (d3 3).trans (show _ = some (Value.int .i64 σ) from rfl)
    have d35 := (d3 5).trans (show _ = some (Value.int .i64 f5) from rfl)
    have hbm : w8.heap[mb]? = some (bdO b v us sq) := H8.out.get (i := 2) rfl
    have dmu := ((cellsOf hbm).1 (2 + σ)).trans (bd_get b v us sq σ hσ6)
    have fm := (cellsOf hbm).2
    have lm := blkLt hbm
    have hN1 : ¬ b3 = mb := fun h => (H8.out.get_ne (i := 0) (j := 2) rfl rfl (by decide)) b3 rfl h
    have H9 : Hid (SW w0 (blkA b3 (boxF ⟨f0, f1, f2, σ, us σ, f5⟩) :: ixA b (addX X ⟨f0, f1, f2, σ, us σ, f5⟩) S8 :: blkA mb (bdO b v (upd us σ (us σ + f5)) sq) :: rowA 32 6 v all.length (rowE all) :: R) (w8.setCell ⟨mb, 2 + σ, none⟩ (.int .i64 (us σ + f5)))) := Lib.hid (by
      have h9 : (w8.setCell ⟨mb, 2 + σ, none⟩ (.int .i64 (us σ + f5))).heap[mb]? = some (bdO b v (upd us σ (us σ + f5)) sq) := by
        have := blkSet (j := 2 + σ) (u := .int .i64 (us σ + f5)) hbm
        rw [bd_set b v us sq σ hσ6 (us σ + f5)] at this
        exact this
      exact H8.out.at (i := 2) rfl ((Mdh.refl (fun k => k = mb) w8).setCell (p := ⟨mb, 2 + σ, none⟩) rfl _) (fun k hk => .inl hk) (B := blkA mb (bdO b v (upd us σ (us σ + f5)) sq)) h9 (fun k hk => .inl hk))
    clear d3 hbm
    go_wp2_with fail
    refine wp_region_flo (fun k => k = mb) [] [28] (by kernel_rfl) (by kernel_rfl) (fun k hk => by subst hk; exact lm) ?_
    refine flo_seg 6 rfl ?_
    simp only [List.take_succ_cons, List.take_zero, List.drop_succ_cons, List.drop_zero]
    repeat (go_big_quiet_step (fail))
    refine wpQuiet_nil ?_
    refine flo_eff rfl rfl rfl rfl (fun K hK => ?_)
    have dmu2 := (Gr.refl w8).drew.keep dmu
    go_wp2
    refine ⟨by (first | (refine Gr.mdh ?_ _; (repeat (first | (with_reducible exact Gr.refl _) | assumption | (with_reducible apply Gr.from_drew) | (with_reducible apply Gr.alloc) | (with_reducible apply Gr.drew) | (with_reducible refine Gr.trans ?_ (by assumption)) | (with_reducible refine Gr.setCell ?_ (by omega) _))); done) | (repeat (first | (with_reducible exact Mdh.refl _ _) | (with_reducible refine Mdh.setCell ?_ (by simp) _) | (with_reducible refine Mdh.setNew ?_ (by simp) _) | (with_reducible apply Mdh.alloc) | (with_reducible apply Mdh.from_drew) | (with_reducible apply Mdh.drew) | (with_reducible refine Mdh.gr ?_ (by assumption))))), ?_⟩
    refine flo_seg 6 rfl ?_
    simp only [List.take_succ_cons, List.take_zero, List.drop_succ_cons, List.drop_zero]
    repeat (go_big_quiet_step (fail))
    refine wpQuiet_nil ?_
    refine flo_eff rfl rfl rfl rfl (fun K hK => ?_)
    go_wp2
    refine ⟨by (first | (refine Gr.mdh ?_ _; (repeat (first | (with_reducible exact Gr.refl _) | assumption | (with_reducible apply Gr.from_drew) | (with_reducible apply Gr.alloc) | (with_reducible apply Gr.drew) | (with_reducible refine Gr.trans ?_ (by assumption)) | (with_reducible refine Gr.setCell ?_ (by omega) _))); done) | (repeat (first | (with_reducible exact Mdh.refl _ _) | (with_reducible refine Mdh.setCell ?_ (by simp) _) | (with_reducible refine Mdh.setNew ?_ (by simp) _) | (with_reducible apply Mdh.alloc) | (with_reducible apply Mdh.from_drew) | (with_reducible apply Mdh.drew) | (with_reducible refine Mdh.gr ?_ (by assumption))))), ?_⟩
    refine flo_nil ?_
    obtain ⟨w9, hw9⟩ : ∃ y, y = (w8.setCell ⟨mb, 2 + σ, none⟩ (.int .i64 (us σ + f5))).drew := ⟨_, rfl⟩
    have H10 : Hid (SW w0 (blkA b3 (boxF ⟨f0, f1, f2, σ, us σ, f5⟩) :: ixA b (addX X ⟨f0, f1, f2, σ, us σ, f5⟩) S8 :: blkA mb (bdO b v (upd us σ (us σ + f5)) sq) :: rowA 32 6 v all.length (rowE all) :: R) w9) := Lib.hid (by rw [hw9]; exact H9.out.gr (Gr.refl _).drew)
    rw [← hw9]
    clear hw9 H9 H8 d33 d35 dmu dmu2 fm lm hN1
    generalize upd us σ (us σ + f5) = us2 at *
    have HO : Hid (Own w9 32 6 v all.length (rowE all)) := Lib.hid (show Own w9 32 6 v all.length (rowE all) from H10.out.get (i := 3) rfl)
    obtain ⟨a2, c2, rfl, hc2, hm2, _⟩ := ownE_at HO.out
    unfold maxLen at hm2
    have d3 := (cellsOf (show w9.heap[b3]? = _ from H10.out.get (i := 0) rfl)).1
    (try simp only [boxF] at d3)
    have dm2 := ((cellsOf (show w9.heap[mb]? = _ from H10.out.get (i := 2) rfl)).1 1).trans (show _ = some (Value.slice a2 all.length c2) from rfl)
    have hN1 : ¬ (Value.slice a2 all.length c2).ownBlock = some mb := fun h => (H10.out.get_ne (i := 3) (j := 2) rfl rfl (by decide)) mb h rfl
    have hN2 : ¬ (Value.slice a2 all.length c2).ownBlock = some b3 := fun h => (H10.out.get_ne (i := 3) (j := 0) rfl rfl (by decide)) b3 h rfl
    go_wp2_with fail
    have HG := Gr.refl w9.drew
    refine wp_region_flt 8 (fun q => (Value.slice a2 all.length c2).ownBlock = some q) [] [] (by kernel_rfl) (by kernel_rfl) (by decide) (by kernel_rfl) (fun q hq => HO.out.lt hq) ?_
    simp only [List.take_succ_cons, List.take_zero, List.drop_succ_cons, List.drop_zero]
    refine flo_seg 6 rfl ?_
    simp only [List.take_succ_cons, List.take_zero, List.drop_succ_cons, List.drop_zero]
    repeat (go_big_quiet_step (fail))
    refine wpQuiet_nil ?_
    refine flo_eff rfl rfl rfl rfl (fun K hK => ?_)
    go_wp2
    refine ⟨by (first | (refine Gr.mdh ?_ _; (repeat (first | (with_reducible exact Gr.refl _) | assumption | (with_reducible apply Gr.from_drew) | (with_reducible apply Gr.alloc) | (with_reducible apply Gr.drew) | (with_reducible refine Gr.trans ?_ (by assumption)) | (with_reducible refine Gr.setCell ?_ (by omega) _))); done) | (repeat (first | (with_reducible exact Mdh.refl _ _) | (with_reducible refine Mdh.setCell ?_ (by simp) _) | (with_reducible refine Mdh.setNew ?_ (by simp) _) | (with_reducible apply Mdh.alloc) | (with_reducible apply Mdh.from_drew) | (with_reducible apply Mdh.drew) | (with_reducible refine Mdh.gr ?_ (by assumption))))), ?_⟩
    refine flo_eff rfl rfl rfl rfl (fun K hK => ?_)
    refine wp_appv _ (.tmp 39) (.tmp 41) 22 rfl 32 i0 _ 6 56 Try.underlying22 hi hz0 hz1 hz2 rfl (by decide) (Value.slice a2 all.length c2) all.length (rowE all) rfl (HO.out.gr (by (repeat (first | (with_reducible exact Gr.refl _) | assumption | (with_reducible apply Gr.from_drew) | (with_reducible apply Gr.alloc) | (with_reducible apply Gr.drew) | (with_reducible refine Gr.trans ?_ (by assumption)) | (with_reducible refine Gr.setCell ?_ (by omega) _))))) (some ⟨w9.heap.size, 0, none⟩) 1 1 (enC ⟨f0, f1, f2, σ, us σ, f5⟩) rfl ((show SrcAt (w9.alloc (.cells #[.int .i64 f0, .string f1, .bool f2, .int .i64 σ, .int .i64 (us σ), .int .i64 f5] 32)) 6 (some ⟨w9.heap.size, 0, none⟩) 1 (enC ⟨f0, f1, f2, σ, us σ, f5⟩) from src_newK w9 (enC ⟨f0, f1, f2, σ, us σ, f5⟩) _ 6 rfl (enC_one ⟨f0, f1, f2, σ, us σ, f5⟩)).gr (by (repeat (first | (with_reducible exact Gr.refl _) | assumption | (with_reducible apply Gr.from_drew) | (with_reducible apply Gr.alloc) | (with_reducible apply Gr.drew) | (with_reducible refine Gr.trans ?_ (by assumption)) | (with_reducible refine Gr.setCell ?_ (by omega) _))))) (by simp only [maxLen]; omega) (by omega) (fun v3 xa hk3 => ?_); obtain ⟨a3, c3, rfl⟩ := hk3.val; refine hK _ _ ⟨hk3.mdh (fun q hq => .inl hq), ?_⟩; simp only [Act.put, List.setIfInBounds_toArray, List.set_cons_succ, List.set_cons_zero]
    refine flo_nil ?_
    have H5 : Hid (SW w0 (blkA b3 (boxF ⟨f0, f1, f2, σ, us σ, f5⟩) :: ixA b (addX X ⟨f0, f1, f2, σ, us σ, f5⟩) S8 :: blkA mb (bdO b (.slice a2 all.length c2) us2 sq) :: rowA 32 6 (.slice a3 (all.length + 1) c3) (all ++ [(⟨f0, f1, f2, σ, us σ, f5⟩ : En)]).length (rowE (all ++ [(⟨f0, f1, f2, σ, us σ, f5⟩ : En)])) :: R) xa) := Lib.hid ((H10.out.gr (((Gr.refl w9).alloc _).drew)).at (i := 3) rfl (hk3.mdh (fun g h => h)) (fun k hk => .inl hk) (B := rowA 32 6 (.slice a3 (all.length + 1) c3) (all ++ [(⟨f0, f1, f2, σ, us σ, f5⟩ : En)]).length (rowE (all ++ [(⟨f0, f1, f2, σ, us σ, f5⟩ : En)]))) (by
      show Own _ _ _ _ _ _
      rw [rowE_snoc, List.length_append]
      exact hk3.1) (fun k hq => hk3.2.1 k hq))
    have hbm : xa.heap[mb]? = some (bdO b (.slice a2 all.length c2) us2 sq) := H5.out.get (i := 2) rfl
    have H6 : Hid (SW w0 (blkA b3 (boxF ⟨f0, f1, f2, σ, us σ, f5⟩) :: ixA b (addX X ⟨f0, f1, f2, σ, us σ, f5⟩) S8 :: blkA mb (bdO b (.slice a3 (all.length + 1) c3) us2 sq) :: rowA 32 6 (.slice a3 (all.length + 1) c3) (all ++ [(⟨f0, f1, f2, σ, us σ, f5⟩ : En)]).length (rowE (all ++ [(⟨f0, f1, f2, σ, us σ, f5⟩ : En)])) :: R) (xa.setCell ⟨mb, 1, none⟩ (.slice a3 (all.length + 1) c3))) := Lib.hid (H5.out.at (i := 2) rfl ((Mdh.refl (fun k => k = mb) xa).setCell (p := ⟨mb, 1, none⟩) rfl _) (fun k hk => .inl hk) (B := blkA mb (bdO b (.slice a3 (all.length + 1) c3) us2 sq)) (blkSet (j := 1) hbm) (fun k hk => .inl hk))
    obtain ⟨_, fm⟩ := cellsOf hbm
    have lm := blkLt hbm
    have HE : Hid (SW w0 (lL b mb (.slice a3 (all.length + 1) c3) S8 ⟨addX X ⟨f0, f1, f2, σ, us σ, f5⟩, all ++ [(⟨f0, f1, f2, σ, us σ, f5⟩ : En)], us2, sq⟩ R) (xa.setCell ⟨mb, 1, none⟩ (.slice a3 (all.length + 1) c3))) := Lib.hid (H6.out.sub (.cons _ (List.Sublist.refl _)))
    clear hbm hk3 HG d3 dm2 hN1 hN2 hc2 hm2 H5 H6 H10 HO
    go_wp2_with fail
    go_ret
    exact ⟨rfl, .slice a3 (all.length + 1) c3, S8, by rw [HA6.out]; exact HE.out⟩
end Go.Proofs.Ytanmmnomagfkhaa

/- drumlinlaw24's yields and has: the walks. -/
set_option linter.unusedVariables false
set_option linter.unusedSimpArgs false
namespace Go.Proofs.Ytanmmnomagfkhaa
open Go.RowKit Go.Shelf
attribute [local go_sem] OvM cell_ovm obj_ovm
attribute [local go_sem] Oper.semAt_some

set_option maxRecDepth 40000 in
theorem yields24_any (gf : Nat) (lb : Array Value) (w : World) : Calls Try.prog 39 #[.func (.func gf) #[] lb] w fun e w' => e = .returned (.func (.func gf) #[] lb) ∧ w = w' := by
  have k1 : ∀ w : World, (binOp .eql 82 (.func (.func gf) #[] lb) .nilFunc).run Try.prog w = .ok (.bool false) w := fun w => by kernel_rfl
  go_enter Try.func39, Try.ntmps39
  go_wp2
  go_ret
  exact ⟨rfl, rfl⟩
set_option maxRecDepth 40000 in
set_option maxHeartbeats 8000000 in
theorem has24_any {w : World} {b : Nat} {X : IX} {S : Nat → Prop} (h : IXR w b X S) (e : En) (hm : e ∈ X.slot e.slot) :
    Calls Try.prog 93 #[.pointer (some ⟨b, 0, none⟩), enV e] w fun r w' => r = .returned (.bool true) ∧ Gr w w' := by
  have H := Lib.hid (show IXP w (some ⟨b, 0, none⟩) X S from .inl ⟨b, rfl, h⟩)
  have HM := Lib.hid hm
  clear h hm
  obtain ⟨e0, e1, e2, e3, e4, e5⟩ := e
  simp only [enV]
  refine calls_of_wp_marks Try.func93 rfl ?_
  simp only [Try.ntmps93, List.size_toArray, List.length_cons, List.length_nil, Nat.reduceAdd, Nat.reduceSub, Array.replicate_succ, Array.replicate_zero, List.push_toArray, List.append_toArray, List.nil_append, List.cons_append]
  go_upto_region 1 with fail
  obtain ⟨b3, hb3⟩ : ∃ q, q = w.heap.size := ⟨_, rfl⟩
  obtain ⟨b4, hb4⟩ : ∃ q, q = b3 + 1 := ⟨_, rfl⟩
  obtain ⟨w0, hw0⟩ : ∃ y, y = (w.alloc (boxF ⟨e0, e1, e2, e3, e4, e5⟩)).alloc (.cells #[.bool false] 4) := ⟨_, rfl⟩
  have HSW : Hid (SW w [blkA b4 (.cells #[.bool false] 4), blkA b3 (boxF ⟨e0, e1, e2, e3, e4, e5⟩)] w0) := Lib.hid (by
    have := ((SW.start w).alloc (boxF ⟨e0, e1, e2, e3, e4, e5⟩)).alloc (.cells #[.bool false] 4)
    rw [World.size_alloc, ← hb3, ← hb4, ← hw0] at this
    exact this)
  simp only [boxF] at hw0
  rw [← hw0, ← hb3, ← hb4]
  clear hw0 hb4 hb3
  have d3 := (cellsOf (show w0.heap[b3]? = _ from HSW.out.get (i := 1) rfl)).1
  have d33 := (d3 3).trans (show _ = some (Value.int .i64 e3) from rfl)
  clear d3
  go_wp2_with fail
  refine (Slot_any _ e3 _).mono ?_
  rintro e' w1 ⟨bb, bk, rfl, h1, h2, h3, h4, hg⟩
  have HS1 := Lib.hid (HSW.out.gr hg)
  have HI := Lib.hid (H.out.gr HS1.out.g)
  have HSEQ := Lib.hid (SeqSlotP HI.out e3 bb bk h1 h2)
  have HA : Hid (∀ q, (q = bb ∨ q = bk ∨ S q) → q < w1.heap.size) := Lib.hid (fun q hq => by
    have l1 := World.block_lt_of_cell? w1 ⟨bb, 0, none⟩ h1
    have l2 := World.block_lt_of_cell? w1 ⟨bk, 0, none⟩ h2
    rcases hq with rfl | rfl | hq
    · exact l1
    · exact l2
    · exact HI.out.lt q hq)
  have HZ : Hid (SWz w w1 (fun q => q = bb ∨ q = bk ∨ S q) [blkA b4 (.cells #[.bool false] 4), blkA b3 (boxF ⟨e0, e1, e2, e3, e4, e5⟩)] (fun _ => False) w1) := Lib.hid (SWz.start HS1.out (fun B hB k hk ha => by
    have l1 := HSW.out.s.lt hB k hk
    have l2 := HSW.out.n B hB k hk
    rcases ha with rfl | rfl | ha
    · omega
    · omega
    · have := H.out.lt k ha; omega))
  clear h1 h2 h3 h4 hg d33
  go_wp2_with fail
  refine (yields24_any _ _ _).mono ?_
  rintro e' w2 ⟨rfl, rfl⟩
  go_wp2_with fail
  apply wp_rangeFunc_zx (gf := 95) (lb := #[.pointer (some ⟨bb, 0, none⟩), .pointer (some ⟨bk, 0, none⟩)]) rfl (enters_of Try.func95 (by kernel_rfl) rfl) HSEQ.out (Mdh.refl _ w1) HA.out (fun _ => rfl)
    (fun Z pre X' => (∀ y ∈ pre, y ≠ (⟨e0, e1, e2, e3, e4, e5⟩ : En)) ∧ SWz w w1 (fun q => q = bb ∨ q = bk ∨ S q) [blkA b4 (.cells #[.bool false] 4), blkA b3 (boxF ⟨e0, e1, e2, e3, e4, e5⟩)] Z X')
    (fun _ _ _ => False)
    (fun Z pre X' => SWz w w1 (fun q => q = bb ∨ q = bk ∨ S q) [blkA b4 (.cells #[.bool true] 4), blkA b3 (boxF ⟨e0, e1, e2, e3, e4, e5⟩)] Z X')
    ((Apart.pure (fun pre : List En => ∀ y ∈ pre, y ≠ (⟨e0, e1, e2, e3, e4, e5⟩ : En))).and (SWz.apart HS1.out.g.sz (fun _ : List En => [blkA b4 (.cells #[.bool false] 4), blkA b3 (boxF ⟨e0, e1, e2, e3, e4, e5⟩)]))) apart_no
    (SWz.apart HS1.out.g.sz (fun _ : List En => [blkA b4 (.cells #[.bool true] 4), blkA b3 (boxF ⟨e0, e1, e2, e3, e4, e5⟩)]))
    ⟨(fun _ h => by cases h), HZ.out⟩ (fun Z pre X' h => h.2.frm HS1.out.g) (fun x => boxE x)
    _ ?assign ?body ?hend ?hret
  case assign =>
    intro l x bx X' K hbx hK
    dsimp only [encE, enV]
    gi_wp2
    rw [← hbx]
    exact hK
  case body =>
    intro l Z pre x bx X' hI hbx hx hzx hzl hlr hsp
    have HIZ := Lib.hid hI
    have HB3 := Lib.hid (show X'.heap[b3]? = _ from hI.2.s.get (i := 1) rfl)
    have HB4 := Lib.hid (show X'.heap[b4]? = _ from hI.2.s.get (i := 0) rfl)
    have dx := (cellsOf hx).1
    have d3 := (cellsOf HB3.out).1
    obtain ⟨d4, f4⟩ := cellsOf HB4.out
    have l4 := blkLt HB4.out
    (try simp only [boxF] at d3)
    have hnx : ¬ bx = b4 := by
      have l1 := blkLt (show w1.heap[b4]? = _ from HS1.out.get (i := 0) rfl)
      omega
    clear hI hbx hx hzx hzl hlr hsp
    by_cases hxe : x = (⟨e0, e1, e2, e3, e4, e5⟩ : En)
    · subst hxe
      have k1 := fun w => (eqlE_run (⟨e0, e1, e2, e3, e4, e5⟩ : En) ⟨e0, e1, e2, e3, e4, e5⟩ w).trans (by rw [decide_eq_true rfl])
      simp only at k1 dx
      gi_wp2_with fail
      have z2 := HIZ.out.2.step (i := 0) (B' := blkA b4 (.cells #[.bool true] 4)) rfl HA.out ((Mdh.refl (fun k => k = b4) _).setCell (p := ⟨b4, 0, none⟩) rfl (.bool true)) (fun k hk => .inl hk) (blkSet (j := 0) (u := .bool true) HB4.out) (fun k hk => .inl hk)
      exact ⟨z2.2.mono (fun k h => h.2), z2.1⟩
    · have k1 := fun w => (eqlE_run x (⟨e0, e1, e2, e3, e4, e5⟩ : En) w).trans (by rw [decide_eq_false hxe])
      have HNE : Hid (∀ y ∈ pre ++ [x], y ≠ (⟨e0, e1, e2, e3, e4, e5⟩ : En)) := Lib.hid (fun y hy => by
        rcases List.mem_append.1 hy with hy | hy
        · exact HIZ.out.1 y hy
        · rw [List.mem_singleton.1 hy]; exact hxe)
      clear hxe
      obtain ⟨x0, x1, x2, x3, x4, x5⟩ := x
      simp only at k1 dx
      gi_wp2_with fail
      exact ⟨Mdh.refl _ _, HNE.out, HIZ.out.2⟩
  case hend =>
    intro Z D xs W hD hZD hcase hdef
    obtain ⟨hxs, hI⟩ := hcase.elim (fun h => h) (fun h => h.2.elim)
    exact absurd rfl (hI.1 _ (by rw [show xs = X.slot e3 from hxs]; exact HM.out))
  case hret =>
    intro Z D pre W hD hZD hsp hI hdef
    have hn4 : D ≠ b4 := fun e => hI.z _ (List.mem_cons_self ..) b4 rfl (e ▸ hZD)
    have h4 : (W.putObj D (.deferred none)).heap[b4]? = some (.cells #[.bool true] 4) := (World.putObj_heap_other (o := .deferred none) hn4.symm).trans (hI.s.get (i := 0) rfl)
    have c4 := ((cellsOf h4).1 0).trans (show _ = some (Value.bool true) from rfl)
    have hgg := hI.s.g.putObj (D := D) (Nat.le_trans HS1.out.g.sz hD) (.deferred none)
    exact retM1 (D := D) (v := .bool true) rfl hdef (by simp [results, Try.results93, go_sem, c4]) ⟨rfl, hgg⟩
end Go.Proofs.Ytanmmnomagfkhaa
