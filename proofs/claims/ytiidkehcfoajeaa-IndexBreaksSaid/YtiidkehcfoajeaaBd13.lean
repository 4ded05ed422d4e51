/- For rows: slices of structs, and bytes. -/
import Derived.Test.YtiidkehcfoajeaaBd2
import Derived.Deep.Slices
import Derived.Deep.Fields
import Derived.ChangeSame
import Derived.ChangeArms
import Derived.OpenShut
import Derived.ShutString
import Derived.ChangeOld
import Derived.Lib.SmallJoins
import Derived.Test.YtiidkehcfoajeaaBd10
import Derived.Test.YtiidkehcfoajeaaBd11
set_option linter.unusedVariables false
set_option linter.unusedSimpArgs false
namespace Go.Proofs.Ytiidkehcfoajeaa
open Go.ChangeShapes Go.WideShapes Go.Deep
section
variable {H : Type} {enc : TypeId × Value → H} {P : Program} {w : World} {base : Nat} {spare : Nat → Bool} {held : Bool}
theorem open_slice_fields {t e : TypeId} {fs : Array Field} {fuel : Nat} {cs : List Value} {x : DataW H × List MemPlace} (ht : P.underlying t = some (.slice e)) (he : P.underlying e = some (.struct fs))
    (hone : oneCellFields P fs = true) (hC : P.cellsOf e = fs.size) (h : DataW.trod enc P w base spare held fuel t cs = some x) :
    (cs = [.slice none 0 0] ∧ x = (.nil, [])) ∨
    ∃ (a : Addr) (len cap m : Nat) (D : Nat → DataW H) (Pl : Nat → List MemPlace), cs = [.slice (some a) len cap] ∧ base ≤ a.block ∧ len ≤ cap ∧ cap ≤ maxLen ∧ m = (if spare a.block then cap else len) ∧
      x = (.slice ((List.range len).map D) ((List.range (m - len)).map fun j => D (len + j)), MemPlace.row a (m * fs.size) ++ (List.range m).flatMap Pl) ∧
      ∀ i, i < m → ∃ (ys : List (DataW H × List MemPlace)) (n : Nat), D i = .agg (ys.map (·.1)) ∧ Pl i = ys.flatMap (·.2) ∧ ys.length = fs.size ∧
        ∀ (j : Nat) (f : Field), fs[j]? = some f → ∃ (v : Value) (y : DataW H × List MemPlace), w.cell? (a.add (i * fs.size + j)) = some v ∧ ys[j]? = some y ∧ DataW.trod enc P w base spare held n f.type [v] = some y := by
  rcases open_slice ht h with h0 | ⟨a, len, cap, m, n, D, Pl, hcs, hb, hl, hm, hmm, hx, hi⟩
  · exact .inl h0
  · refine .inr ⟨a, len, cap, m, D, Pl, hcs, hb, hl, hm, hmm, by rw [hC] at hx; exact hx, fun i him => ?_⟩
    obtain ⟨cs', hc, ht'⟩ := hi i him
    rw [hC] at hc
    obtain ⟨ys, n', hn', hy, hlen, hyl, hf⟩ := DataW.trod_struct he ht'
    obtain ⟨_, hcl, hat⟩ := World.cells?_some hc
    simp only [Prod.mk.injEq] at hy
    refine ⟨ys, n', hy.1, hy.2, hyl, fun j f hj => ?_⟩
    obtain ⟨ho, hk⟩ := hone_of hone j f hj
    have hjl : j < fs.size := (Array.getElem?_eq_some_iff.1 hj).1
    have hcell := hat j hjl
    have hv : cs'[j]? = some (cs'[j]'(by omega)) := List.getElem?_eq_getElem (by omega)
    have h1 := hf j f hj
    rw [ho, hk] at h1
    have hone' : (cs'.drop j).take 1 = [cs'[j]'(by omega)] := by
      rw [List.drop_eq_getElem_cons (by omega)]
      rfl
    rw [hone'] at h1
    have hys : ys[j]? = some (ys[j]'(by omega)) := List.getElem?_eq_getElem (by omega)
    refine ⟨_, _, ?_, hys, h1.trans hys⟩
    rw [← Go.Deep.add_add, hcell, hv]
end

open Go.RowKit
theorem list_of {α : Type} (len : Nat) (d : α) (R : Nat → α → Prop) (h : ∀ i, i < len → ∃ x, R i x) : ∃ l : List α, l.length = len ∧ ∀ i, i < l.length → R i (l[i]?.getD d) := by
  classical
  refine ⟨(List.range len).map (fun i => if hi : i < len then Classical.choose (h i hi) else d), by simp, fun i hi => ?_⟩
  have hi' : i < len := by simpa using hi
  simp only [List.getElem?_map, List.getElem?_range hi', Option.map_some, Option.getD_some, dif_pos hi']
  exact Classical.choose_spec (h i hi')
theorem u8_of {a : Int} (h : (Lit.int .u8 a).wf = true) : ∃ c : UInt8, a = (c.toNat : Int) := by
  have h' : (decide (IntKind.u8.min ≤ a) && decide (a ≤ IntKind.u8.max)) = true := h
  have : 0 ≤ a ∧ a ≤ 255 := by simpa [IntKind.min, IntKind.max, IntKind.signed, IntKind.bits] using h'
  refine ⟨UInt8.ofNat a.toNat, ?_⟩
  rw [UInt8.toNat_ofNat_of_lt' (by have : UInt8.size = 256 := rfl; omega)]
  omega
theorem at_add {w : World} {a : Addr} {k : Nat} {v : Value} (h : w.cell? (a.add k) = some v) (hs : a.spot = none) : a.block < w.heap.size ∧ w.cell? ⟨a.block, a.off + k, none⟩ = some v := by
  have e : a.add k = ⟨a.block, a.off + k, none⟩ := by
    unfold Addr.add
    obtain ⟨b, o, s⟩ := a
    split
    · simp_all
    · rfl
  rw [e] at h
  refine ⟨?_, h⟩
  unfold World.cell? at h
  refine Classical.byContradiction fun hc => ?_
  rw [Array.getElem?_eq_none (by simpa using hc)] at h
  cases h
theorem spot_add {w : World} {a : Addr} {v : Value} (h : w.cell? (a.add 0) = some v) : a.spot = none := by
  simpa [Addr.add] using World.cell?_spot h
end Go.Proofs.Ytiidkehcfoajeaa

/- What a builder of chapters 21, 23, 24, 28 keeps: an index filled by moves. No walk. -/
set_option linter.unusedVariables false
set_option linter.unusedSimpArgs false
namespace Go.Proofs.Ytiidkehcfoajeaa

/-- An index behind moves: its entries in the order in which they were added, where each slot ends, the next number, how many moves. -/
structure FI (X : IX) (all : List En) (en : Int → Int) (nx j n : Int) : Prop where
  wf : X.Wf
  ln : (X.slots.length : Int) = n
  n0 : 1 ≤ n
  pm : all.Perm X.ents
  en0 : ∀ s, 0 ≤ en s ∧ en s ≤ 68 * j
  up : ∀ e ∈ all, e.off + e.size ≤ en e.slot
  j0 : 0 ≤ j
  nx0 : 1 ≤ nx
  nx1 : nx ≤ j + 1
  sq : ∀ e ∈ all, e.seq < nx
  cp : ∀ a ∈ all, ∀ b ∈ all, a.seq = b.seq → a.key = b.key ∧ a.del = b.del ∧ a.size = b.size
  sm : ∀ e ∈ all, e.size ≤ 68 ∧ e.key.size ≤ 3 ∧ Low e.key
def upd (en : Int → Int) (s v : Int) : Int → Int := fun t => if t = s then v else en t
theorem upd_same (en : Int → Int) (s v : Int) : upd en s v s = v := if_pos rfl
theorem upd_other (en : Int → Int) {s t : Int} (v : Int) (h : t ≠ s) : upd en s v t = en t := if_neg h
section
variable {X : IX} {all : List En} {en : Int → Int} {nx j n : Int}
theorem clash_end {l : List En} {e : En} (h : ∀ o ∈ l, o.off + o.size ≤ e.off) (hp : ∀ o ∈ l, 0 < o.size) : clash l e = false := by
  have hc : cnt (offP e.off) l = l.length := by
    refine (cnt_uniq (offP e.off) l l.length (Nat.le_refl _) (fun i x _ hx => ?_) (fun i x hi hx => ?_)).symm
    · have hm := List.mem_of_getElem? hx
      have := h x hm
      have := hp x hm
      unfold offP
      exact decide_eq_true (by omega)
    · have := (List.getElem?_eq_some_iff.1 hx).1; omega
  unfold clash
  rw [hc, List.getElem?_eq_none (Nat.le_refl _)]
  simp only [Bool.false_or]
  cases hl : l[l.length - 1]? with
  | none => simp
  | some o =>
    have := h o (List.mem_of_getElem? hl)
    simp only [Bool.and_eq_false_iff]
    exact .inr (decide_eq_false (by omega))
theorem FI.mem (h : FI X all en nx j n) (e : En) : e ∈ all ↔ e ∈ X.ents := h.pm.mem_iff
theorem FI.slot (h : FI X all en nx j n) (s : Int) (e : En) : e ∈ X.slot s ↔ e ∈ all ∧ e.slot = s := by rw [h.mem]; exact h.wf.slot_mem s e
theorem FI.of (h : FI X all en nx j n) (k : ByteArray) (e : En) : e ∈ X.of k ↔ e ∈ all ∧ e.key = k := by rw [h.mem]; exact h.wf.of_mem k e
theorem FI.ne (h : FI X all en nx j n) : X.slots ≠ [] := fun h0 => by have := h.ln; have := h.n0; rw [h0] at *; simp at *; omega
theorem FI.has (h : FI X all en nx j n) {s : Int} (h0 : 0 ≤ s) (h1 : s < n) : X.has s = true := by
  unfold IX.has
  exact decide_eq_true ⟨h0, by have := h.ln; omega⟩
theorem FI.clash (h : FI X all en nx j n) {e : En} (ho : e.off = en e.slot) : clash (X.slot e.slot) e = false := by
  refine clash_end (fun o hm => ?_) (fun o hm => ?_)
  · obtain ⟨h1, h2⟩ := (h.slot _ o).1 hm
    have := h.up o h1
    rw [h2] at this
    omega
  · obtain ⟨h1, h2⟩ := (h.slot _ o).1 hm
    have := (valid_iff o).1 (h.wf.valid ((h.mem o).1 h1)).1
    omega
theorem FI.later (h : FI X all en nx j n) {j' : Int} (hj : j ≤ j') : FI X all en nx j' n :=
  ⟨h.wf, h.ln, h.n0, h.pm, fun s => ⟨(h.en0 s).1, by have := (h.en0 s).2; omega⟩, h.up, by have := h.j0; omega, h.nx0, by have := h.nx1; omega, h.sq, h.cp, h.sm⟩
/-- An entry that goes behind those of its slot. -/
theorem FI.push (h : FI X all en nx j n) {e : En} {nx' : Int} (a : AddOk X e) (ho : e.off = en e.slot) (hs : e.size ≤ 68 ∧ e.key.size ≤ 3 ∧ Low e.key) (h1 : nx ≤ nx') (h2 : nx' ≤ j + 2) (h3 : e.seq < nx')
    (hc : ∀ o ∈ all, o.seq = e.seq → o.key = e.key ∧ o.del = e.del ∧ o.size = e.size) : FI (addX X e) (all ++ [e]) (upd en e.slot (e.off + e.size)) nx' (j + 1) n := by
  have hv := (valid_iff e).1 a.valid
  have he := h.en0 e.slot
  have hle : ∀ s, en s ≤ upd en e.slot (e.off + e.size) s := fun s => by
    unfold upd
    split
    · rename_i h0; subst h0; omega
    · exact Int.le_refl _
  refine ⟨add_wf h.wf a, ?_, h.n0, ?_, fun s => ?_, fun o hm => ?_, by have := h.j0; omega, by have := h.nx0; omega, by omega, fun o hm => ?_, fun x hx y hy hq => ?_, fun o hm => ?_⟩
  · rw [addX_eq a]; simp only [List.length_set]; exact h.ln
  · exact (List.perm_append_singleton e all).trans ((h.pm.cons e).trans (add_ents h.wf a).symm)
  · have := h.en0 s
    unfold upd
    split
    · omega
    · omega
  · rcases List.mem_append.1 hm with hm | hm
    · exact Int.le_trans (h.up o hm) (hle _)
    · rw [List.mem_singleton.1 hm, upd_same]
      exact Int.le_refl _
  · rcases List.mem_append.1 hm with hm | hm
    · have := h.sq o hm; omega
    · rw [List.mem_singleton.1 hm]; exact h3
  · rcases List.mem_append.1 hx with hx1 | hx1 <;> rcases List.mem_append.1 hy with hy1 | hy1
    · exact h.cp x hx1 y hy1 hq
    · obtain rfl := List.mem_singleton.1 hy1
      exact hc x hx1 hq
    · obtain rfl := List.mem_singleton.1 hx1
      obtain ⟨q1, q2, q3⟩ := hc y hy1 hq.symm
      exact ⟨q1.symm, q2.symm, q3.symm⟩
    · obtain rfl := List.mem_singleton.1 hx1
      obtain rfl := List.mem_singleton.1 hy1
      exact ⟨rfl, rfl, rfl⟩
  · rcases List.mem_append.1 hm with hm | hm
    · exact h.sm o hm
    · rw [List.mem_singleton.1 hm]; exact hs
/-- A new entry. -/
theorem FI.newOk (h : FI X all en nx j n) {e : En} (hj : j < 100) (hq : e.seq = nx) (h0 : 0 ≤ e.slot) (h1 : e.slot < n) (ho : e.off = en e.slot) (hk : keyChk e.key = 0) (hz : 16 + (e.key.size : Int) ≤ e.size) (hz2 : e.size = 16 + (e.key.size : Int) ∨ e.del = false) (hs : e.size ≤ 68) : AddOk X e := by
  have he := h.en0 e.slot
  have hx := h.nx0
  have hx1 := h.nx1
  refine ⟨h.ne, h.has h0 h1, (valid_iff e).2 ⟨hk, by omega, by omega, by omega, hz, hz2, by omega, by omega⟩, fun o hm => ?_, fun o hm => ?_, h.clash ho⟩
  · have := h.sq o ((h.of _ o).1 hm).1
    exact badE_no (fun hh => by omega)
  · have := h.sq o ((h.of _ o).1 hm).1
    unfold sameE
    exact decide_eq_false (fun hh => by omega)
theorem FI.new (h : FI X all en nx j n) {e : En} (hj : j < 100) (hq : e.seq = nx) (h0 : 0 ≤ e.slot) (h1 : e.slot < n) (ho : e.off = en e.slot) (hk : keyChk e.key = 0) (hz : 16 + (e.key.size : Int) ≤ e.size) (hz2 : e.size = 16 + (e.key.size : Int) ∨ e.del = false) (hs : e.size ≤ 68) (hkz : e.key.size ≤ 3) (hl : Low e.key) :
    addE X e = 0 ∧ FI (addX X e) (all ++ [e]) (upd en e.slot (e.off + e.size)) (nx + 1) (j + 1) n :=
  have a := h.newOk hj hq h0 h1 ho hk hz hz2 hs
  ⟨ok_add a, h.push a ho ⟨hs, hkz, hl⟩ (by omega) (by have := h.nx1; omega) (by omega) (fun o hm hh => by have := h.sq o hm; omega)⟩
/-- A copy: refused where the slot has one. -/
theorem FI.copyBad (h : FI X all en nx j n) {x e : En} (hx : x ∈ all) (he : e = { x with slot := e.slot, off := e.off }) : ∀ o ∈ X.of e.key, badE e o = false := by
  intro o hm
  obtain ⟨h1, h2⟩ := (h.of _ o).1 hm
  refine badE_no (fun hh => ?_)
  have e1 : e.seq = x.seq := by rw [he]
  have e3 : e.del = x.del := by rw [he]
  have e4 : e.size = x.size := by rw [he]
  obtain ⟨q1, q2, q3⟩ := h.cp o h1 x hx (by rw [hh, e1])
  exact En.ext' hh h2 (by rw [e3]; exact q2) rfl rfl (by rw [e4]; exact q3)
theorem FI.copyValid (h : FI X all en nx j n) {x e : En} (hj : j < 100) (hx : x ∈ all) (he : e = { x with slot := e.slot, off := e.off }) (ho : e.off = en e.slot) : validE e = true := by
  have hv := (valid_iff x).1 (h.wf.valid ((h.mem x).1 hx)).1
  have hs := h.sm x hx
  have he0 := h.en0 e.slot
  have e1 : e.seq = x.seq := by rw [he]
  have e2 : e.key = x.key := by rw [he]
  have e3 : e.del = x.del := by rw [he]
  have e4 : e.size = x.size := by rw [he]
  refine (valid_iff e).2 ⟨by rw [e2]; exact hv.1, by omega, by omega, by omega, by rw [e2]; omega, ?_, by omega, by omega⟩
  rw [e2, e3, e4]
  exact hv.2.2.2.2.2.1
theorem FI.copyNo (h : FI X all en nx j n) {x e : En} (hj : j < 100) (hx : x ∈ all) (he : e = { x with slot := e.slot, off := e.off }) (h0 : 0 ≤ e.slot) (h1 : e.slot < n) (ho : e.off = en e.slot) (hd : all.any (fun o => decide (o.slot = e.slot) && decide (o.seq = e.seq)) = true) :
    addE X e = 6 ∧ FI (addX X e) all en nx (j + 1) n := by
  have h6 : addE X e = 6 := by
    refine add_6 h.ne (h.has h0 h1) (h.copyValid hj hx he ho) (h.copyBad hx he) ?_
    rw [Bool.or_eq_true]
    refine .inl ?_
    obtain ⟨o, hm, hh⟩ := List.any_eq_true.1 hd
    simp only [Bool.and_eq_true, decide_eq_true_eq] at hh
    have e1 : e.seq = x.seq := by rw [he]
    have e2 : e.key = x.key := by rw [he]
    obtain ⟨q1, _, _⟩ := h.cp o hm x hx (by rw [hh.2, e1])
    exact List.any_eq_true.2 ⟨o, (h.of _ o).2 ⟨hm, by rw [q1, e2]⟩, decide_eq_true ⟨hh.2, hh.1⟩⟩
  refine ⟨h6, ?_⟩
  rw [addX_no (by rw [h6]; decide)]
  exact h.later (by omega)
theorem FI.copyYes (h : FI X all en nx j n) {x e : En} (hj : j < 100) (hx : x ∈ all) (he : e = { x with slot := e.slot, off := e.off }) (h0 : 0 ≤ e.slot) (h1 : e.slot < n) (ho : e.off = en e.slot) (hd : all.any (fun o => decide (o.slot = e.slot) && decide (o.seq = e.seq)) = false) :
    addE X e = 0 ∧ FI (addX X e) (all ++ [e]) (upd en e.slot (e.off + e.size)) nx (j + 1) n := by
  have e1 : e.seq = x.seq := by rw [he]
  have e2 : e.key = x.key := by rw [he]
  have e3 : e.del = x.del := by rw [he]
  have e4 : e.size = x.size := by rw [he]
  have a : AddOk X e := ⟨h.ne, h.has h0 h1, h.copyValid hj hx he ho, h.copyBad hx he, fun o hm => by
    have h2 := (h.of _ o).1 hm
    have h3 := List.any_eq_false.1 hd o h2.1
    unfold sameE
    refine decide_eq_false (fun hh => ?_)
    simp [hh.1, hh.2] at h3, h.clash ho⟩
  have hs := h.sm x hx
  refine ⟨ok_add a, h.push a ho (by rw [e4, e2]; exact hs) (Int.le_refl _) (by have := h.nx1; omega) (by rw [e1]; exact h.sq x hx) (fun o hm hh => ?_)⟩
  rw [e2, e3, e4]
  exact h.cp o hm x hx (by rw [hh, e1])
/-- A slot is emptied. -/
theorem FI.drop (h : FI X all en nx j n) {s : Int} (h0 : 0 ≤ s) (h1 : s < n) :
    dropC X s = 0 ∧ (X.slot s).length + (all.filter (fun o => !decide (o.slot = s))).length = all.length ∧ FI (dropX X s) (all.filter (fun o => !decide (o.slot = s))) (upd en s 0) nx (j + 1) n := by
  have hh := h.has h0 h1
  have hp := drop_ents h.wf hh
  have hw := drop_wf h.wf s
  have hne : ∀ o ∈ (dropX X s).ents, (!decide (o.slot = s)) = true := fun o ho => by
    simp only [Bool.not_eq_true', decide_eq_false_iff_not]
    intro e
    have h2 := (hw.slot_mem s o).2 ⟨ho, e⟩
    rw [drop_slot h.wf, if_pos rfl] at h2
    cases h2
  have hs : ∀ o ∈ X.slot s, ¬ (!decide (o.slot = s)) = true := fun o ho => by simp [((h.wf.slot_mem s o).1 ho).2]
  have hpm : (all.filter (fun o => !decide (o.slot = s))).Perm (dropX X s).ents := by
    have h2 := (h.pm.trans hp).filter (fun o => !decide (o.slot = s))
    rw [List.filter_append, List.filter_eq_nil_iff.2 hs, List.nil_append, List.filter_eq_self.2 hne] at h2
    exact h2
  refine ⟨if_pos hh, ?_, hw, ?_, h.n0, hpm, fun t => ?_, fun o ho => ?_, by have := h.j0; omega, h.nx0, by have := h.nx1; omega, fun o ho => h.sq o (List.mem_filter.1 ho).1, fun a ha b hb => h.cp a (List.mem_filter.1 ha).1 b (List.mem_filter.1 hb).1, fun o ho => h.sm o (List.mem_filter.1 ho).1⟩
  · have h2 := (h.pm.trans hp).length_eq
    have h3 := hpm.length_eq
    rw [List.length_append] at h2
    omega
  · rw [drop_yes hh]; simp only [List.length_set]; exact h.ln
  · have := h.en0 t
    have := h.j0
    unfold upd
    split <;> omega
  · obtain ⟨h2, h3⟩ := List.mem_filter.1 ho
    simp only [Bool.not_eq_true', decide_eq_false_iff_not] at h3
    rw [upd_other _ _ h3]
    exact h.up o h2
end
theorem FI.start (n : Nat) (h1 : 1 ≤ n) (h2 : n ≤ 32) : FI (ixNew n) [] (fun _ => 0) 1 0 n :=
  ⟨new_wf h2, by simp [ixNew], by omega, by simp [ixNew, IX.ents], fun _ => ⟨by omega, by omega⟩, (fun _ h => by cases h), by omega, by omega, by omega, (fun _ h => by cases h), (fun _ h => by cases h), (fun _ h => by cases h)⟩
end Go.Proofs.Ytiidkehcfoajeaa

/- drumlinlaw21.filled: its function values; a move in plain Lean. -/
set_option linter.unusedVariables false
set_option linter.unusedSimpArgs false
namespace Go.Proofs.Ytiidkehcfoajeaa
open Go.RowKit Go.Shelf
attribute [local go_sem] OvM cell_ovm obj_ovm
attribute [local go_sem] Oper.semAt_some

def inSl (s : Int) (o : En) : Bool := decide (o.slot = s)
def dupP (s q : Int) (o : En) : Bool := decide (o.slot = s) && decide (o.seq = q)
set_option maxRecDepth 40000 in
theorem fil1 (o : En) (s : Int) (b12 : Nat) (w : World) (h : w.heap[b12]? = some (.cells #[.int .i64 s] 3)) :
    Calls Try.prog 91 #[enV o, .pointer (some ⟨b12, 0, none⟩)] w fun r w' => r = .returned (.bool (inSl s o)) ∧ Gr w w' := by
  have c := (cellsOf h).1
  have l := blkLt h
  have HN : Hid (inSl s o = decide (o.slot = s)) := Lib.hid rfl
  rw [HN.out]
  simp only [enV]
  by_cases h1 : o.slot = s
  all_goals
    go_enter Try.func91, Try.ntmps91
    go_wp2
    go_ret
    exact ⟨ret_bool (by first | rfl | (simp_all; done) | (simp_all; omega)), by (repeat (first | (with_reducible exact Gr.refl _) | assumption | (with_reducible apply Gr.from_drew) | (with_reducible apply Gr.alloc) | (with_reducible apply Gr.drew) | (with_reducible refine Gr.trans ?_ (by assumption)) | (with_reducible refine Gr.setCell ?_ (by omega) _)))⟩
theorem filP1 (s : Int) (b12 : Nat) (w : World) (T : Nat → Prop) (hT : ¬ T b12) (h : w.heap[b12]? = some (.cells #[.int .i64 s] 3)) :
    PredC 91 #[.pointer (some ⟨b12, 0, none⟩)] (inSl s) T w :=
  ⟨enters_of Try.func91 (by kernel_rfl) rfl, fun x w' m => fil1 x s b12 w' (m.blk h hT)⟩
set_option maxRecDepth 40000 in
theorem fil2 (o e : En) (s : Int) (b12 b13 : Nat) (w : World) (h : w.heap[b12]? = some (.cells #[.int .i64 s] 3)) (h3 : w.heap[b13]? = some (.cells #[.int .i64 e.seq, .string e.key, .bool e.del, .int .i64 e.slot, .int .i64 e.off, .int .i64 e.size] 23)) :
    Calls Try.prog 93 #[enV o, .pointer (some ⟨b12, 0, none⟩), .pointer (some ⟨b13, 0, none⟩)] w fun r w' => r = .returned (.bool (dupP s e.seq o)) ∧ Gr w w' := by
  have c := (cellsOf h).1
  have l := blkLt h
  have c3 := (cellsOf h3).1
  have l3 := blkLt h3
  have HN : Hid (dupP s e.seq o = (decide (o.slot = s) && decide (o.seq = e.seq))) := Lib.hid rfl
  rw [HN.out]
  simp only [enV]
  by_cases h1 : o.slot = s
  all_goals by_cases h2 : o.seq = e.seq
  all_goals
    go_enter Try.func93, Try.ntmps93
    go_wp2
    all_goals
      go_ret
      exact ⟨ret_bool (by first | rfl | (simp_all; done) | (simp_all; omega)), by (repeat (first | (with_reducible exact Gr.refl _) | assumption | (with_reducible apply Gr.from_drew) | (with_reducible apply Gr.alloc) | (with_reducible apply Gr.drew) | (with_reducible refine Gr.trans ?_ (by assumption)) | (with_reducible refine Gr.setCell ?_ (by omega) _)))⟩
theorem filP2 (e : En) (s : Int) (b12 b13 : Nat) (w : World) (T : Nat → Prop) (hT : ¬ T b12) (hT3 : ¬ T b13) (h : w.heap[b12]? = some (.cells #[.int .i64 s] 3)) (h3 : w.heap[b13]? = some (.cells #[.int .i64 e.seq, .string e.key, .bool e.del, .int .i64 e.slot, .int .i64 e.off, .int .i64 e.size] 23)) :
    PredC 93 #[.pointer (some ⟨b12, 0, none⟩), .pointer (some ⟨b13, 0, none⟩)] (dupP s e.seq) T w :=
  ⟨enters_of Try.func93 (by kernel_rfl) rfl, fun x w' m => fil2 x e s b12 b13 w' (m.blk h hT) (m.blk h3 hT3)⟩

/-! ### A move -/
structure Mv where
  kind : Int
  key : Int
  slot : Int
  size : Int
structure Mv.Ok (m : Mv) : Prop where
  kind : 0 ≤ m.kind ∧ m.kind ≤ 255
  key : 0 ≤ m.key ∧ m.key ≤ 255
  slot : 0 ≤ m.slot ∧ m.slot ≤ 255
  size : 0 ≤ m.size ∧ m.size ≤ 255
def mvKeys : List ByteArray := [⟨#[97]⟩, ⟨#[98]⟩, ⟨#[107, 101, 121]⟩, ⟨#[107, 45, 50]⟩]
def mvKey (k : Int) : ByteArray := mvKeys.getD (k % 4).toNat ⟨#[97]⟩
theorem mvKey_ok (k : Int) : keyChk (mvKey k) = 0 ∧ 1 ≤ (mvKey k).size ∧ (mvKey k).size ≤ 3 ∧ Low (mvKey k) := by
  have h : k % 4 = 0 ∨ k % 4 = 1 ∨ k % 4 = 2 ∨ k % 4 = 3 := by omega
  have hl : ∀ x ∈ mvKeys, keyChk x = 0 ∧ 1 ≤ x.size ∧ x.size ≤ 3 ∧ Low x := by
    intro x hx
    simp only [mvKeys, List.mem_cons, List.not_mem_nil, or_false] at hx
    rcases hx with rfl | rfl | rfl | rfl
    all_goals
      refine ⟨by kernel_rfl, by decide, by decide, ?_⟩
      unfold Low
      decide
  unfold mvKey
  rcases h with h | h | h | h <;> rw [h] <;> exact hl _ (by simp [mvKeys])
structure FS where
  X : IX
  all : List En
  en : Int → Int
  nx : Int
def newM (st : FS) (m : Mv) : En := ⟨st.nx, mvKey m.key, decide (m.size % 4 = 0), m.slot % 5, st.en (m.slot % 5), 16 + ((mvKey m.key).size : Int) + if m.size % 4 = 0 then 0 else m.size % 50⟩
def oldM (st : FS) (m : Mv) : En := { (st.all.getD (m.key % st.all.length).toNat zE) with slot := m.slot % 5, off := st.en (m.slot % 5) }
def pushF (st : FS) (e : En) (nx : Int) : FS := ⟨addX st.X e, st.all ++ [e], upd st.en e.slot (e.off + e.size), nx⟩
def stepF (st : FS) (m : Mv) : FS :=
  if 224 ≤ m.kind then ⟨dropX st.X (m.slot % 5), st.all.filter (fun o => !inSl (m.slot % 5) o), upd st.en (m.slot % 5) 0, st.nx⟩
  else if 150 ≤ m.kind ∧ st.all ≠ [] then (if st.all.any (dupP (m.slot % 5) (oldM st m).seq) = true then st else pushF st (oldM st m) st.nx)
  else pushF st (newM st m) (st.nx + 1)
def FS.Ok (st : FS) (j : Int) : Prop := FI st.X st.all st.en st.nx j 5
def filS (L : List Mv) : FS := L.foldl stepF ⟨ixNew 5, [], fun _ => 0, 1⟩
theorem filS_snoc (L : List Mv) (m : Mv) : filS (L ++ [m]) = stepF (filS L) m := by simp [filS]
section
variable {st : FS} {m : Mv} {j : Int}
theorem sl5 (s : Int) : 0 ≤ s % 5 ∧ s % 5 < 5 := by omega
theorem FS.new (h : st.Ok j) (hj : j < 100) (hm : m.Ok) : addE st.X (newM st m) = 0 ∧ (pushF st (newM st m) (st.nx + 1)).Ok (j + 1) := by
  obtain ⟨k1, k2, k3, k4⟩ := mvKey_ok m.key
  have hs := hm.size
  exact FI.new h hj rfl (sl5 _).1 (sl5 _).2 rfl k1 (by simp only [newM]; split <;> omega) (by simp only [newM]; split <;> simp_all) (by simp only [newM]; split <;> omega) k3 k4
theorem old_mem (h0 : st.all ≠ []) : (st.all.getD (m.key % st.all.length).toNat zE) ∈ st.all := by
  have hl := List.length_pos_iff.2 h0
  have h1 := Int.emod_nonneg m.key (b := (st.all.length : Int)) (by omega)
  have h2 := Int.emod_lt_of_pos m.key (b := (st.all.length : Int)) (by omega)
  have h3 : (m.key % st.all.length).toNat < st.all.length := by omega
  rw [List.getD_eq_getElem?_getD, List.getElem?_eq_getElem h3]
  exact List.getElem_mem h3
theorem FS.copyNo (h : st.Ok j) (hj : j < 100) (h0 : st.all ≠ []) (hd : st.all.any (dupP (m.slot % 5) (oldM st m).seq) = true) : addE st.X (oldM st m) = 6 ∧ addX st.X (oldM st m) = st.X ∧ st.Ok (j + 1) := by
  have h6 := FI.copyNo h hj (old_mem (m := m) h0) (e := oldM st m) rfl (sl5 _).1 (sl5 _).2 rfl hd
  exact ⟨h6.1, addX_no (by rw [h6.1]; decide), h.later (by omega)⟩
theorem FS.copyYes (h : st.Ok j) (hj : j < 100) (h0 : st.all ≠ []) (hd : st.all.any (dupP (m.slot % 5) (oldM st m).seq) = false) : addE st.X (oldM st m) = 0 ∧ (pushF st (oldM st m) st.nx).Ok (j + 1) :=
  FI.copyYes h hj (old_mem (m := m) h0) (e := oldM st m) rfl (sl5 _).1 (sl5 _).2 rfl hd
theorem FS.drop (h : st.Ok j) : dropC st.X (m.slot % 5) = 0 ∧ (st.X.slot (m.slot % 5)).length + (st.all.filter (fun o => !inSl (m.slot % 5) o)).length = st.all.length ∧
    FS.Ok ⟨dropX st.X (m.slot % 5), st.all.filter (fun o => !inSl (m.slot % 5) o), upd st.en (m.slot % 5) 0, st.nx⟩ (j + 1) := FI.drop h (sl5 _).1 (sl5 _).2
theorem FS.step (h : st.Ok j) (hj : j < 100) (hm : m.Ok) : (stepF st m).Ok (j + 1) := by
  unfold stepF
  split
  · exact (FS.drop h).2.2
  · split
    · rename_i h1
      split
      · rename_i hd
        exact (FS.copyNo h hj h1.2 hd).2.2
      · rename_i hd
        exact (FS.copyYes h hj h1.2 (by simpa using hd)).2
    · exact (FS.new h hj hm).2
end
theorem filS_ok' : ∀ (n : Nat) (L : List Mv), L.length = n → n ≤ 100 → (∀ m ∈ L, m.Ok) → (filS L).Ok n
  | 0, L, hL, _, _ => by
    rw [List.eq_nil_of_length_eq_zero hL]
    exact FI.start 5 (by omega) (by omega)
  | n + 1, L, hL, hn, hm => by
    have hne : L ≠ [] := fun h => by rw [h] at hL; cases hL
    have e := List.dropLast_concat_getLast hne
    have h1 := filS_ok' n L.dropLast (by rw [List.length_dropLast]; omega) (by omega) (fun m h => hm m (List.dropLast_subset L h))
    rw [← e, filS_snoc]
    exact FS.step h1 (by omega) (hm _ (List.getLast_mem hne))
theorem filS_ok (L : List Mv) (hn : L.length ≤ 100) (hm : ∀ m ∈ L, m.Ok) : (filS L).Ok L.length := filS_ok' _ L rfl hn hm
end Go.Proofs.Ytiidkehcfoajeaa

/- Rows of chapter 21: moves. -/
set_option linter.unusedVariables false
set_option linter.unusedSimpArgs false
namespace Go.Proofs.Ytiidkehcfoajeaa
open Go.ChangeShapes Go.WideShapes Go.Deep Go.RowKit
/-- The moves of a list lie at a. -/
def MovesAt (w : World) (a : Option Addr) (l : List Mv) : Prop :=
  ∀ i x, l[i]? = some x → ∃ b off, a = some ⟨b, off, none⟩ ∧ b < w.heap.size ∧ w.cell? ⟨b, off + i * 4, none⟩ = some (.int .u8 x.kind) ∧ w.cell? ⟨b, off + i * 4 + 1, none⟩ = some (.int .u8 x.key) ∧
    w.cell? ⟨b, off + i * 4 + 2, none⟩ = some (.int .u8 x.slot) ∧ w.cell? ⟨b, off + i * 4 + 3, none⟩ = some (.int .u8 x.size) ∧ x.Ok
theorem u8b {a : Int} (h : (Lit.int .u8 a).wf = true) : 0 ≤ a ∧ a ≤ 255 := by
  simp only [Lit.wf, Bool.and_eq_true, decide_eq_true_eq] at h
  exact h
theorem open_moves {H : Type} {enc : TypeId × Value → H} {w : World} {base : Nat} {spare : Nat → Bool} {held : Bool} {fuel : Nat} {a : Option Addr} {len cap : Nat} {x : DataW H × List MemPlace}
    (h : DataW.trod enc Try.prog w base spare held fuel 62 (Value.slice a len cap).cells.toList = some x) : len ≤ cap ∧ cap ≤ maxLen ∧ ∃ l : List Mv, l.length = len ∧ MovesAt w a l := by
  rcases open_slice_fields Try.underlying62 Try.underlying124 (by kernel_rfl) (show Try.prog.cellsOf 124 = 4 by kernel_rfl) h with ⟨hcs, _⟩ | ⟨a', l, c, m, D, Pl, hcs, _, hl, hm, hmm, _, hi⟩
  · simp [Value.cells] at hcs
    obtain ⟨rfl, rfl, rfl⟩ := hcs
    exact ⟨by omega, by simp [maxLen], [], rfl, fun i x hx => by simp at hx⟩
  · simp [Value.cells] at hcs
    obtain ⟨rfl, rfl, rfl⟩ := hcs
    refine ⟨hl, hm, ?_⟩
    by_cases h0 : 0 < len
    · have hml : len ≤ m := by rw [hmm]; split <;> omega
      have hsp : a'.spot = none := by
        obtain ⟨ys, n, _, _, _, hf⟩ := hi 0 (by omega)
        obtain ⟨v, y, hc, _, _⟩ := hf 0 _ rfl
        exact spot_add (by simpa using hc)
      obtain ⟨l, hl1, hl2⟩ := list_of len (⟨0, 0, 0, 0⟩ : Mv) (fun i t => w.cell? ⟨a'.block, a'.off + i * 4, none⟩ = some (.int .u8 t.kind) ∧ w.cell? ⟨a'.block, a'.off + i * 4 + 1, none⟩ = some (.int .u8 t.key) ∧ w.cell? ⟨a'.block, a'.off + i * 4 + 2, none⟩ = some (.int .u8 t.slot) ∧ w.cell? ⟨a'.block, a'.off + i * 4 + 3, none⟩ = some (.int .u8 t.size) ∧ a'.block < w.heap.size ∧ t.Ok) (fun i hil => by
        obtain ⟨ys, n, _, _, _, hf⟩ := hi i (by omega)
        obtain ⟨v0, y0, c0, _, t0⟩ := hf 0 _ rfl
        obtain ⟨v1, y1, c1, _, t1⟩ := hf 1 _ rfl
        obtain ⟨v2, y2, c2, _, t2⟩ := hf 2 _ rfl
        obtain ⟨v3, y3, c3, _, t3⟩ := hf 3 _ rfl
        obtain ⟨x0, e0, _, w0⟩ := DataW.trod_int Try.underlying5 t0
        obtain ⟨x1, e1, _, w1⟩ := DataW.trod_int Try.underlying5 t1
        obtain ⟨x2, e2, _, w2⟩ := DataW.trod_int Try.underlying5 t2
        obtain ⟨x3, e3, _, w3⟩ := DataW.trod_int Try.underlying5 t3
        obtain rfl := List.cons.inj e0 |>.1
        obtain rfl := List.cons.inj e1 |>.1
        obtain rfl := List.cons.inj e2 |>.1
        obtain rfl := List.cons.inj e3 |>.1
        obtain ⟨hb, d0⟩ := at_add c0 hsp
        exact ⟨⟨x0, x1, x2, x3⟩, d0, (at_add c1 hsp).2, (at_add c2 hsp).2, (at_add c3 hsp).2, hb, u8b w0, u8b w1, u8b w2, u8b w3⟩)
      refine ⟨l, hl1, fun i x hx => ?_⟩
      obtain ⟨hlt, rfl⟩ := List.getElem?_eq_some_iff.1 hx
      obtain ⟨c0, c1, c2, c3, hb, h4⟩ := hl2 i (by omega)
      rw [hx] at c0 c1 c2 c3 h4
      exact ⟨_, _, by obtain ⟨b, o, s⟩ := a'; simp_all, hb, c0, c1, c2, c3, h4⟩
    · obtain rfl : len = 0 := by omega
      exact ⟨[], rfl, fun i x hx => by simp at hx⟩
end Go.Proofs.Ytiidkehcfoajeaa
