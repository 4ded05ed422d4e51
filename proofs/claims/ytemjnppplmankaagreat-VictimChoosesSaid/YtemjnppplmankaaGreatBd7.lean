/- An index's slots and keys, one by one; how many there are. -/
import Derived.Test.YtemjnppplmankaaGreatBd6
import Derived.Deep.RegionWith
import Derived.Test.YtemjnppplmankaaGreatBd3
import Derived.WalkSpells
import Derived.Deep.DeepMust
import Derived.Laws.StructEq
set_option linter.unusedVariables false
set_option linter.unusedSimpArgs false
namespace Go.Proofs.YtemjnppplmankaaGreat
open Go.RowKit Go.Shelf
attribute [local go_sem] OvM cell_ovm obj_ovm
attribute [local go_sem] Oper.semAt_some

set_option maxRecDepth 40000 in
set_option maxHeartbeats 4000000 in
theorem SeqSlot {w : World} {b : Nat} {X : IX} {S : Nat → Prop} (h : IXR w b X S) (s : Int) (bb bs : Nat) (hbb : w.cell? ⟨bb, 0, none⟩ = some (.pointer (some ⟨b, 0, none⟩))) (hbs : w.cell? ⟨bs, 0, none⟩ = some (.int .i64 s)) :
    SeqZ Fence.wide 2 Tryz.prog 113 #[.pointer (some ⟨bb, 0, none⟩), .pointer (some ⟨bs, 0, none⟩)] encE (fun q => q = bb ∨ q = bs ∨ S q) (fun xs => xs = X.slot s) (fun pre => pre <+: X.slot s) w := by
  intro l J Jx W hW hJ hJx hY h0
  have hbW : W.cell? ⟨bb, 0, none⟩ = some (.pointer (some ⟨b, 0, none⟩)) := hW.keep hbb (fun h => h (.inl rfl))
  have hsW : W.cell? ⟨bs, 0, none⟩ = some (.int .i64 s) := hW.keep hbs (fun h => h (.inr (.inl rfl)))
  have hI := h.mdh hW (fun q hq hn => hn (.inr (.inr hq)))
  have HI := Lib.hid hI
  have HLE := Lib.hid (h.ok.slot_le s)
  cases hs : X.has s with
  | false =>
    have HS := Lib.hid hs
    have HE := Lib.hid (slot_out hs)
    have H0 := Lib.hid h0
    clear hY h0 hW h hbb hbs hs hI
    refine callsIn_wide.2 ?_
    go_enter Tryz.func113, Tryz.ntmps113
    go_wp2_with (go_at_call 59; refine (has_yes HI.out s).mono ?_; rintro e w1 ⟨rfl, rfl⟩; rw [HS.out])
    go_end0
    exact ⟨⟨_, rfl⟩, .inl ⟨_, [], HE.out.symm, H0.out⟩⟩
  | true =>
    have HS := Lib.hid hs
    obtain ⟨h1, h2, Y, h3, h4, h5⟩ := hI
    obtain ⟨i, sl, g, cap, rfl, hlt, hsl, hsx, hsv, c1, c2, hc, ho, hm⟩ := Lay.slotE h3 h4 hs
    have HV : Hid (∀ (w1 : World), Gr W w1 → ∀ b0, w1.cell? ⟨b0, 0, none⟩ = some (slV sl) → W.heap.size ≤ b0 →
        Calls Tryz.prog 131 #[.func (.yield l) #[] #[], .pointer (some ⟨b0, 0, none⟩)] w1 (SinPost (X.slot i) J Jx)) := Lib.hid (fun w1 g1 b0 hb0 hlt => by
      have hin := Val1 (slV sl) (X.slot i) (by have := HLE.out; omega) w1 (ho.gr g1) b0 hb0 (fun q => (q = bb ∨ q = bs ∨ S q) ∨ q = b0) (.inr rfl) (fun q hq => .inl (.inr (.inr ((h5 q).2 ⟨_, hm, hq⟩)))) l (plusB b0 J) (plusB b0 Jx) w1 (Mdh.refl _ _) (plusB_apart b0 hJ) (plusB_apart b0 hJx) (fun Z pre x X' hj hs => plusB_yield (hY _ pre x X' hj hs)) (hJ _ _ _ _ _ h0 (g1.mdh _) (fun q hq => hq.elim .inl (fun e => .inr ⟨by omega, by have := World.block_lt_of_cell? w1 _ hb0; simp only at this; omega⟩)))
      exact (callsIn_wide.1 hin).mono (fun e w' h => plusB_sin h))
    have hb := Lay.blk h3
    rw [hsv] at hb
    have e1 := ((cellsOf hb).1 1).trans (show _ = some (Value.slice (some ⟨g, 0, none⟩) X.slots.length cap) from rfl)
    have hlt' : (i : Int) < X.slots.length := by omega
    unfold maxLen at c2
    obtain ⟨s1, s2, s3⟩ := sl
    simp only [slV] at *
    clear hY h0 hW h hbb hbs hs hsl hsx h1 h2 h3 h4 h5 hsv ho hm hb
    refine callsIn_wide.2 ?_
    go_enter Tryz.func113, Tryz.ntmps113
    go_wp2_with (go_at_call 59; refine (has_yes HI.out i).mono ?_; rintro e w1 ⟨rfl, rfl⟩; rw [HS.out])
    go_region_with (first
      | (go_at_call 105; refine (Values_any _ _ _ _).mono ?_; rintro e w3 ⟨rfl, rfl⟩)
      | (go_at_call 131; refine (HV.out _ (by (repeat (first | (with_reducible exact Gr.refl _) | assumption | (with_reducible apply Gr.from_drew) | (with_reducible apply Gr.alloc) | (with_reducible apply Gr.drew) | (with_reducible refine Gr.trans ?_ (by assumption)) | (with_reducible refine Gr.setCell ?_ (by omega) _)))) _ (by simp [go_sem]) (by simp)).mono ?_; rintro e w4 ⟨⟨u, rfl⟩, hcc⟩))
    all_goals
      go_wp2
      go_end0
      exact ⟨⟨_, rfl⟩, hcc⟩
set_option maxRecDepth 40000 in
set_option maxHeartbeats 1000000 in
theorem SeqSlotN {w : World} {p : Option Addr} (h : IXN w p) (A : Nat → Prop) (hA : ∀ a, p = some a → A a.block) (s : Int) (bb bs : Nat) (hb : A bb) (hk : A bs) (hbb : w.cell? ⟨bb, 0, none⟩ = some (.pointer p)) (hbs : w.cell? ⟨bs, 0, none⟩ = some (.int .i64 s)) :
    SeqZ Fence.wide 2 Tryz.prog 113 #[.pointer (some ⟨bb, 0, none⟩), .pointer (some ⟨bs, 0, none⟩)] encE A (fun xs => xs = []) (fun pre => pre <+: []) w := by
  intro l J Jx W hW hJ hJx hY h0
  have hbW : W.cell? ⟨bb, 0, none⟩ = some (.pointer p) := hW.keep hbb (fun h => h hb)
  have hsW : W.cell? ⟨bs, 0, none⟩ = some (.int .i64 s) := hW.keep hbs (fun h => h hk)
  have HI : Hid (IXN W p) := Lib.hid (h.imp (fun h => h) (fun ⟨b, e, h⟩ => ⟨b, e, hW.blk h (fun hn => hn (hA _ e))⟩))
  have H0 := Lib.hid h0
  clear hY h0 hW h hbb hbs
  refine callsIn_wide.2 ?_
  go_enter Tryz.func113, Tryz.ntmps113
  go_wp2_with (go_at_call 59; refine (has_no HI.out s).mono ?_; rintro e w1 ⟨rfl, rfl⟩)
  go_end0
  exact ⟨⟨_, rfl⟩, .inl ⟨_, [], rfl, H0.out⟩⟩
theorem slot_none (s : Int) : (⟨[], []⟩ : IX).slot s = [] := slot_out (by simp [IX.has])
theorem SeqSlotP {w : World} {p : Option Addr} {X : IX} {S : Nat → Prop} (h : IXP w p X S) (s : Int) (bb bs : Nat) (hbb : w.cell? ⟨bb, 0, none⟩ = some (.pointer p)) (hbs : w.cell? ⟨bs, 0, none⟩ = some (.int .i64 s)) :
    SeqZ Fence.wide 2 Tryz.prog 113 #[.pointer (some ⟨bb, 0, none⟩), .pointer (some ⟨bs, 0, none⟩)] encE (fun q => q = bb ∨ q = bs ∨ S q) (fun xs => xs = X.slot s) (fun pre => pre <+: X.slot s) w := by
  rcases h with ⟨b, rfl, h⟩ | ⟨h, rfl, h3⟩
  · exact SeqSlot h s bb bs hbb hbs
  · rw [slot_none]; exact SeqSlotN h _ (fun a ha => .inr (.inr ((h3 _).2 ⟨a, ha, rfl⟩))) s bb bs (.inl rfl) (.inr (.inl rfl)) hbb hbs
set_option maxRecDepth 40000 in
theorem Slot_any (p : Option Addr) (s : Int) (w : World) : Calls Tryz.prog 73 #[.pointer p, .int .i64 s] w fun e w' =>
    ∃ bb bs, e = .returned (.func (.func 113) #[] #[.pointer (some ⟨bb, 0, none⟩), .pointer (some ⟨bs, 0, none⟩)]) ∧ w'.cell? ⟨bb, 0, none⟩ = some (.pointer p) ∧ w'.cell? ⟨bs, 0, none⟩ = some (.int .i64 s) ∧ w.heap.size ≤ bb ∧ w.heap.size ≤ bs ∧ Gr w w' := by
  go_enter Tryz.func73, Tryz.ntmps73
  go_wp2
  go_ret
  exact ⟨_, _, rfl, by simp [go_sem], by simp [go_sem], Nat.le_refl _, by simp, by (repeat (first | (with_reducible exact Gr.refl _) | assumption | (with_reducible apply Gr.from_drew) | (with_reducible apply Gr.alloc) | (with_reducible apply Gr.drew) | (with_reducible refine Gr.trans ?_ (by assumption)) | (with_reducible refine Gr.setCell ?_ (by omega) _)))⟩
set_option maxRecDepth 40000 in
theorem Slots_any {w : World} {p : Option Addr} {X : IX} {S : Nat → Prop} (h : IXP w p X S) : Calls Tryz.prog 42 #[.pointer p] w fun e w' => e = .returned (.int .i64 X.slots.length) ∧ w = w' := by
  rcases h with ⟨b, rfl, h⟩ | ⟨h, rfl, _⟩
  · obtain ⟨bm, g, cap, c0, c1, c2, c3, c4⟩ := h.cells
    have H := Lib.hid h
    clear h
    generalize X.slots.length = n at *
    go_enter Tryz.func42, Tryz.ntmps42
    go_wp2_with (go_at_call 34; refine (made_yes H.out).mono ?_; rintro e w1 ⟨rfl, rfl⟩)
    go_ret
    exact ⟨rfl, rfl⟩
  · have H := Lib.hid h
    clear h
    go_enter Tryz.func42, Tryz.ntmps42
    go_wp2_with (go_at_call 34; refine (made_no H.out).mono ?_; rintro e w1 ⟨rfl, rfl⟩)
    go_ret
    exact ⟨rfl, rfl⟩
theorem own_slV {w : World} {t : TypeId} {K n : Nat} {s : Sl} {xs : List Value} (h : Own w t K (slV s) n xs) : s.2.1 = n := by
  rcases h.2 with ⟨hv, h0⟩ | ⟨g, cap, cur, hv, _⟩
  · simp only [slV, Value.slice.injEq] at hv; omega
  · simp only [slV, Value.slice.injEq] at hv; exact hv.2.1
def sumL (L : List (List En)) : Nat := L.flatten.length
theorem sumL_take (L : List (List En)) (k : Nat) (l : List En) (h : L[k]? = some l) : sumL (L.take (k + 1)) = sumL (L.take k) + l.length := by
  unfold sumL
  rw [List.take_add_one, h]
  simp
theorem sumL_le (L : List (List En)) (k : Nat) : sumL (L.take k) ≤ sumL L := by
  unfold sumL
  have : L.flatten = (L.take k).flatten ++ (L.drop k).flatten := by rw [← List.flatten_append, List.take_append_drop]
  rw [this, List.length_append]
  omega
set_option maxRecDepth 40000 in
set_option maxHeartbeats 1000000 in
theorem Len_any {w : World} {p : Option Addr} {X : IX} {S : Nat → Prop} (h : IXP w p X S) : Calls Tryz.prog 14 #[.pointer p] w fun e w' => e = .returned (.int .i64 X.ents.length) ∧ w = w' := by
  rcases h with ⟨b, rfl, h⟩ | ⟨h, rfl, _⟩
  · have H := Lib.hid h
    obtain ⟨bm, g, cap, c0, c1, c2, c3, c4⟩ := h.cells
    have HC : Hid (∀ i, i < X.slots.length → ∃ l s, X.slots[i]? = some l ∧ w.cell? ⟨g, i, none⟩ = some (slV s) ∧ s.2.1 = l.length ∧ l.length ≤ 512) := Lib.hid (fun i hi => by
      obtain ⟨h1, h2, Y, h3, h4, h5⟩ := h
      obtain ⟨i', sl, g', cap', e, hlt, hsl, hsx, hsv, d1, d2, hc, ho, hm⟩ := Lay.slotE h3 h4 (s := i) (by simp [IX.has]; omega)
      obtain rfl : i = i' := by omega
      have hb := Lay.blk h3
      rw [hsv] at hb
      have e1 := ((cellsOf hb).1 1).trans (show _ = some (Value.slice (some ⟨g', 0, none⟩) X.slots.length cap') from rfl)
      rw [c1] at e1
      simp at e1
      obtain ⟨rfl, _⟩ := e1
      exact ⟨_, sl, hsx, hc, own_slV ho, h1.slot_le _⟩)
    have HN := Lib.hid (show sumL X.slots ≤ 16384 from h.ok.ents_le)
    unfold maxLen at c3
    clear h
    go_enter Tryz.func14, Tryz.ntmps14
    go_wp2_with (go_at_call 34; refine (made_yes H.out).mono ?_; rintro e w1 ⟨rfl, rfl⟩)
    go_loop [3, 13] (fun t3 t13 => ∃ k : Nat, k ≤ X.slots.length ∧ t13 = .int .i64 k ∧ t3 = .int .i64 (sumL (X.slots.take k))) (fun _ t13 => X.slots.length - (intOf t13).toNat)
    case atStart => exact ⟨0, Nat.zero_le _, rfl, rfl⟩
    case round =>
      obtain ⟨k, hk, rfl, rfl⟩ := hrel
      by_cases hlt : k < X.slots.length
      · have hlt' : (k : Int) < X.slots.length := by omega
        obtain ⟨l, s, hl, hc, hsl, hl5⟩ := HC.out k hlt
        have hm1 := sumL_le X.slots k
        have hm2 := HN.out
        have HT := Lib.hid (sumL_take X.slots k l hl)
        obtain ⟨s1, s2, s3⟩ := s
        simp only [slV] at hc hsl
        subst hsl
        clear hl
        generalize sumL (X.slots.take k) = m at *
        have hm3 : (m : Int) ≤ 16384 := by omega
        have hm4 : (l.length : Int) ≤ 512 := by omega
        go_wp2
        go_round
        case rel => exact ⟨k + 1, by omega, by go_num, by rw [HT.out]; go_num⟩
        case measure => simp [intOf]; omega
      · have hlt' : ¬ (k : Int) < X.slots.length := by omega
        go_wp2
        go_ret
        exact ⟨ret_int (by rw [List.take_of_length_le (by omega)]; rfl), rfl⟩
  · have H := Lib.hid h
    clear h
    go_enter Tryz.func14, Tryz.ntmps14
    go_wp2_with (go_at_call 34; refine (made_no H.out).mono ?_; rintro e w1 ⟨rfl, rfl⟩)
    go_ret
    exact ⟨rfl, rfl⟩
end Go.Proofs.YtemjnppplmankaaGreat

/- The keys of an index, one by one. -/
set_option linter.unusedVariables false
set_option linter.unusedSimpArgs false
namespace Go.Proofs.YtemjnppplmankaaGreat
open Go.RowKit Go.Shelf
attribute [local go_sem] OvM cell_ovm obj_ovm
attribute [local go_sem] Oper.semAt_some

def IX.ks (X : IX) : List ByteArray := X.keys.map Prod.fst
def encK (k : ByteArray) : Array Value := #[.string k]
/-- With more blocks of the iterator's own. -/
def plusS {β : Type} (B : Nat → Prop) (J : (Nat → Prop) → β → World → Prop) : (Nat → Prop) → β → World → Prop := fun Z s W => J (fun q => Z q ∨ B q) s W
theorem plusS_apart {β : Type} (B : Nat → Prop) {J : (Nat → Prop) → β → World → Prop} (h : Apart J) : Apart (plusS B J) := fun Z Z' s X Y hs hm hz =>
  h _ _ s X Y hs (hm.mono (fun k hk => .inl hk)) (fun k hk => hk.elim (fun h => (hz k h).elim (fun h => .inl (.inl h)) .inr) (fun h => .inl (.inr h)))
theorem Apart.map {β γ : Type} (f : γ → β) {J : (Nat → Prop) → β → World → Prop} (h : Apart J) : Apart (fun Z s W => J Z (f s) W) := fun Z Z' s X Y hs hm hz => h Z Z' (f s) X Y hs hm hz
theorem prefix_map {α β : Type} (f : α → β) {l m : List α} (h : l <+: m) : l.map f <+: m.map f := by
  obtain ⟨t, rfl⟩ := h
  exact ⟨t.map f, by simp⟩

end Go.Proofs.YtemjnppplmankaaGreat

/- Things side by side through a range over a function. No program in sight. -/
set_option linter.unusedVariables false
set_option linter.unusedSimpArgs false
namespace Go.Proofs.YtemjnppplmankaaGreat
open Go.RowKit

/-- Things side by side since w0, in a loop that began in wl, beside an iterator that reads A and has Z. -/
structure SWz (w0 wl : World) (A : Nat → Prop) (R : List Asn) (Z : Nat → Prop) (W : World) : Prop where
  s : SW w0 R W
  z : ∀ B ∈ R, ∀ k, B.S k → ¬ Z k
  a : ∀ B ∈ R, ∀ k, B.S k → ¬ A k
  zn : ∀ k, Z k → wl.heap.size ≤ k
  zl : ∀ k, Z k → k < W.heap.size
  sz : wl.heap.size ≤ W.heap.size
section
variable {w0 wl W W' : World} {A Z : Nat → Prop} {R : List Asn} {B B' : Asn}
theorem SWz.start (h : SW w0 R wl) (ha : ∀ B ∈ R, ∀ k, B.S k → ¬ A k) : SWz w0 wl A R (fun _ => False) wl := ⟨h, fun _ _ _ _ h => h, ha, fun _ h => h.elim, fun _ h => h.elim, Nat.le_refl _⟩
theorem SWz.apart {β : Type} (hwl : w0.heap.size ≤ wl.heap.size) (R : β → List Asn) : Apart (fun Z s W => SWz w0 wl A (R s) Z W) := fun Z Z' s X Y h hm hz =>
  ⟨⟨h.s.g.md hm (fun k hk => Nat.le_trans hwl (h.zn k hk)), h.s.s.mdh hm h.z, h.s.n⟩, fun B hB k hk hz' => (hz k hz').elim (h.z B hB k hk) (fun y => by have := h.s.s.lt hB k hk; omega), h.a,
    fun k hk => (hz k hk).elim (h.zn k) (fun y => Nat.le_trans h.sz y.1), fun k hk => (hz k hk).elim (fun y => Nat.lt_of_lt_of_le (h.zl k y) hm.size) (fun y => y.2), Nat.le_trans h.sz hm.size⟩
theorem SWz.frm (g : Gr w0 wl) (h : SWz w0 wl A R Z W) : ∃ T, Frm wl T Z W := ⟨fun _ => True, ⟨h.sz, fun _ _ hn => absurd trivial hn, (Below.os h.s.g).trans (Below.os g).symm, (Below.tape h.s.g).trans (Below.tape g).symm, (Below.output h.s.g).trans (Below.output g).symm⟩, h.zn, h.zl⟩
/-- The i-th turns. -/
theorem SWz.step {i : Nat} {T : Nat → Prop} (h : SWz w0 wl A R Z W) (hi : R[i]? = some B) (hA : ∀ k, A k → k < wl.heap.size) (m : Mdh T W W') (hT : ∀ k, T k → B.S k ∨ W.heap.size ≤ k) (hB : B'.P W') (hS : ∀ k, B'.S k → B.S k ∨ W.heap.size ≤ k) :
    SWz w0 wl A (R.set i B') Z W' ∧ Mdh (fun k => ¬ A k ∧ ¬ Z k) W W' := by
  have hBm := List.mem_of_getElem? hi
  have hnew : ∀ k, (B.S k ∨ W.heap.size ≤ k) → ¬ A k ∧ ¬ Z k := fun k hk => by
    rcases hk with hk | hk
    · exact ⟨h.a B hBm k hk, h.z B hBm k hk⟩
    · exact ⟨fun h1 => by have := hA k h1; have := h.sz; omega, fun h1 => by have := h.zl k h1; omega⟩
  refine ⟨⟨h.s.at hi m hT hB hS, fun C hC k hk => ?_, fun C hC k hk => ?_, h.zn, fun k hk => Nat.lt_of_lt_of_le (h.zl k hk) m.size, Nat.le_trans h.sz m.size⟩, m.mono (fun k hk => hnew k (hT k hk))⟩
  · rcases List.mem_or_eq_of_mem_set hC with hC | rfl
    · exact h.z C hC k hk
    · exact (hnew k (hS k hk)).2
  · rcases List.mem_or_eq_of_mem_set hC with hC | rfl
    · exact h.a C hC k hk
    · exact (hnew k (hS k hk)).1
theorem SWz.gr (h : SWz w0 wl A R Z W) (g : Gr W W') : SWz w0 wl A R Z W' ∧ Mdh (fun k => ¬ A k ∧ ¬ Z k) W W' :=
  ⟨⟨h.s.gr g, h.z, h.a, h.zn, fun k hk => Nat.lt_of_lt_of_le (h.zl k hk) g.sz, Nat.le_trans h.sz g.sz⟩, g.mdh _⟩
/-- The i-th box is stored into. -/
theorem SWz.box {i b : Nat} {t : TypeId} {cs cs' : Array Value} (h : SWz w0 wl A R Z W) (hi : R[i]? = some (blkA b (.cells cs t))) (hA : ∀ k, A k → k < wl.heap.size) (m : Mdh (fun k => k = b) W W') (hB : W'.heap[b]? = some (.cells cs' t)) :
    SWz w0 wl A (R.set i (blkA b (.cells cs' t))) Z W' ∧ Mdh (fun k => ¬ A k ∧ ¬ Z k) W W' := h.step hi hA m (fun k hk => .inl hk) hB (fun k hk => .inl hk)
end
end Go.Proofs.YtemjnppplmankaaGreat

/- The last number of an index. -/
set_option linter.unusedVariables false
set_option linter.unusedSimpArgs false
namespace Go.Proofs.YtemjnppplmankaaGreat
open Go.RowKit Go.Shelf
attribute [local go_sem] OvM cell_ovm obj_ovm
attribute [local go_sem] Oper.semAt_some

def lastF (X : IX) (l : List ByteArray) : Int := l.foldl (fun m k => max m ((X.of k).headD zE).seq) 0
theorem lastF_snoc (X : IX) (l : List ByteArray) (k : ByteArray) : lastF X (l ++ [k]) = max (lastF X l) ((X.of k).headD zE).seq := by simp [lastF]
def IX.last (X : IX) : Int := lastF X X.ks
theorem newV_eq (l : List En) : newV l = .tuple #[enV (l.headD zE), .bool (!l.isEmpty)] := by cases l <;> rfl

end Go.Proofs.YtemjnppplmankaaGreat

/- How the parts of an index lie behind a change: a slot's row, a key's row. -/
set_option linter.unusedVariables false
set_option linter.unusedSimpArgs false
namespace Go.Proofs.YtemjnppplmankaaGreat
open Go.RowKit

theorem zip_set {α β γ : Type} (f : α → β → γ) : ∀ (L : List α) (M : List β) (i : Nat) (a : α) (b : β), List.zipWith f (L.set i a) (M.set i b) = (List.zipWith f L M).set i (f a b)
  | [], _, _, _, _ => by simp
  | _ :: _, [], _, _, _ => by simp
  | x :: L, y :: M, 0, a, b => rfl
  | x :: L, y :: M, i + 1, a, b => by simp [zip_set f L M i a b]
theorem zip_erase {α β γ : Type} (f : α → β → γ) : ∀ (L : List α) (M : List β) (i : Nat), List.zipWith f (L.eraseIdx i) (M.eraseIdx i) = (List.zipWith f L M).eraseIdx i
  | [], _, _ => by simp
  | x :: L, [], i => by cases i <;> simp
  | x :: L, y :: M, 0 => rfl
  | x :: L, y :: M, i + 1 => by simp [zip_erase f L M i]
theorem erase_perm' {α : Type} {R : List α} {i : Nat} {x : α} (h : R[i]? = some x) : R.Perm (x :: R.eraseIdx i) := by
  obtain ⟨hlt, rfl⟩ := List.getElem?_eq_some_iff.1 h
  exact (erase_perm hlt).symm
theorem set_perm {α : Type} {R : List α} {i : Nat} (x : α) (h : i < R.length) : (R.set i x).Perm (x :: R.eraseIdx i) := by
  have h1 : i < (R.set i x).length := by simpa using h
  have := (erase_perm h1).symm
  rwa [List.getElem_set_self, erase_set] at this
section
variable {w w' : World} {b : Nat} {X : IX} {Y : Lay}
theorem slotRows_split {SL : List Sl} {ls : List (List En)} {i : Nat} {sl : Sl} {l : List En} (hs : SL[i]? = some sl) (hl : ls[i]? = some l) (sl' : Sl) (l' : List En) :
    ∃ R, (slotRows SL ls).Perm (enA sl l :: R) ∧ (slotRows (SL.set i sl') (ls.set i l')).Perm (enA sl' l' :: R) := by
  have h : (slotRows SL ls)[i]? = some (enA sl l) := zip_at enA hs hl
  refine ⟨(slotRows SL ls).eraseIdx i, erase_perm' h, ?_⟩
  unfold slotRows
  rw [zip_set]
  exact set_perm _ (List.getElem?_eq_some_iff.1 h).1
abbrev kf (a : ByteArray × Sl) (b : ByteArray × List En) : Asn := enA a.2 b.2
theorem keyRows_eq (KL : List (ByteArray × Sl)) (ks : List (ByteArray × List En)) : keyRows KL ks = List.zipWith kf KL ks := rfl
/-- A key's row in the map's list, set and taken out. -/
theorem keyRows_split {KL : List (ByteArray × Sl)} {ks : List (ByteArray × List En)} (hk : KL.map Prod.fst = ks.map Prod.fst) (k : ByteArray) (s' : Sl) (l' : List En) :
    ∃ old R, (keyRows KL ks).Perm (old ++ R) ∧ (∀ A ∈ old, ∃ s l, look ltS KL k = some s ∧ look ltS ks k = some l ∧ A = enA s l) ∧
      (keyRows (putL ltS KL k s') (putL ltS ks k l')).Perm (enA s' l' :: R) ∧ (keyRows (delL ltS KL k) (delL ltS ks k)).Perm R ∧
      (putL ltS KL k s').map Prod.fst = (putL ltS ks k l').map Prod.fst ∧ (delL ltS KL k).map Prod.fst = (delL ltS ks k).map Prod.fst := by
  have f : Lay.Fit ⟨0, .bool true, .bool true, KL, []⟩ ⟨[], ks⟩ := ⟨hk, rfl⟩
  have hr : rk ltS KL k = rk ltS ks k := f.rkE k
  have hlen : KL.length = ks.length := by simpa using congrArg List.length hk
  rcases f.lookE k with ⟨h1, h2⟩ | ⟨s, l, h1, h2, h3, h4⟩
  · refine ⟨[], keyRows KL ks, by simp, fun A hA => (by cases hA), ?_, ?_, ?_, ?_⟩
    · unfold putL
      simp only [show look ltS KL k = none from h1, h2, hr]
      rw [keyRows_eq, List.zipWith_append (by simp [hlen]), List.zipWith_append (by simp [hlen]), ← List.take_zipWith, ← List.drop_zipWith]
      have : (List.zipWith kf KL ks).Perm (List.take (rk ltS ks k) (List.zipWith kf KL ks) ++ List.drop (rk ltS ks k) (List.zipWith kf KL ks)) := by rw [List.take_append_drop]
      simp only [List.zipWith_cons_cons, List.zipWith_nil_left, List.append_assoc, List.singleton_append]
      exact (List.perm_middle).trans (this.symm.cons _)
    · unfold delL
      simp only [show look ltS KL k = none from h1, h2]
      exact List.Perm.refl _
    · unfold putL
      simp only [show look ltS KL k = none from h1, h2, hr]
      simp [List.map_take, List.map_drop, hk]
    · unfold delL
      simp only [show look ltS KL k = none from h1, h2]
      exact hk
  · have h : (keyRows KL ks)[rk ltS ks k]? = some (enA s l) := zip_at kf h3 h4
    refine ⟨[enA s l], (keyRows KL ks).eraseIdx (rk ltS ks k), erase_perm' h, fun A hA => ⟨s, l, h1, h2, by simpa using hA⟩, ?_, ?_, ?_, ?_⟩
    · unfold putL
      simp only [show look ltS KL k = some s from h1, h2, hr]
      rw [keyRows_eq, zip_set]
      exact set_perm _ (List.getElem?_eq_some_iff.1 h).1
    · unfold delL
      simp only [show look ltS KL k = some s from h1, h2, hr]
      rw [← List.eraseIdx_eq_take_drop_succ, ← List.eraseIdx_eq_take_drop_succ, keyRows_eq, zip_erase]
      exact List.Perm.refl _
    · unfold putL
      simp only [show look ltS KL k = some s from h1, h2, hr]
      rw [List.map_set, List.map_set, hk]
    · unfold delL
      simp only [show look ltS KL k = some s from h1, h2, hr]
      simp [List.map_take, List.map_drop, hk]
/-- A slot's row is another one, in its block or a new one. -/
theorem Lay.setSlot (h : Sep (Y.list b X) w) (f : Y.Fit X) {i : Nat} {sl sl' : Sl} {l l' : List En} (hsl : Y.SL[i]? = some sl) (hl : X.slots[i]? = some l) {T : Nat → Prop} (m : Mdh T w w')
    (hT : ∀ k, T k → (slV sl).ownBlock = some k ∨ Y.sv.ownBlock = some k ∨ w.heap.size ≤ k) (ho : Own w' 89 6 (slV sl') l'.length (rowE l')) (hn : ∀ k, (slV sl').ownBlock = some k → (slV sl).ownBlock = some k ∨ w.heap.size ≤ k)
    (hs : Own w' 85 1 Y.sv X.slots.length ((Y.SL.set i sl').map slV)) :
    Sep (({ Y with SL := Y.SL.set i sl' } : Lay).list b ⟨X.slots.set i l', X.keys⟩) w' ∧ ({ Y with SL := Y.SL.set i sl' } : Lay).Fit ⟨X.slots.set i l', X.keys⟩ ∧
      ∀ k, (∃ A ∈ ({ Y with SL := Y.SL.set i sl' } : Lay).list b ⟨X.slots.set i l', X.keys⟩, A.S k) → (∃ A ∈ Y.list b X, A.S k) ∨ w.heap.size ≤ k := by
  obtain ⟨R, p1, p2⟩ := slotRows_split hsl hl sl' l'
  have q1 : (Y.list b X).Perm ([rowA 85 1 Y.sv X.slots.length (Y.SL.map slV), enA sl l] ++ ([blkA b (.cells #[.pointer (some ⟨Y.bm, 0, none⟩), Y.sv] 84), omA Y.bm Y.v Y.KL] ++ (keyRows Y.KL X.keys ++ R))) := by
    refine ((p1.append_left (keyRows Y.KL X.keys)).append_left _).trans ?_
    simp only [Lay.hd, List.cons_append, List.nil_append]
    refine ((List.perm_middle (l₁ := [blkA b _, omA Y.bm Y.v Y.KL])).trans (List.Perm.cons _ ?_))
    exact (List.perm_middle (l₁ := blkA b _ :: omA Y.bm Y.v Y.KL :: keyRows Y.KL X.keys))
  have q2 : (({ Y with SL := Y.SL.set i sl' } : Lay).list b ⟨X.slots.set i l', X.keys⟩).Perm ([rowA 85 1 Y.sv X.slots.length ((Y.SL.set i sl').map slV), enA sl' l'] ++ ([blkA b (.cells #[.pointer (some ⟨Y.bm, 0, none⟩), Y.sv] 84), omA Y.bm Y.v Y.KL] ++ (keyRows Y.KL X.keys ++ R))) := by
    refine ((p2.append_left (keyRows Y.KL X.keys)).append_left _).trans ?_
    simp only [Lay.hd, List.cons_append, List.nil_append, List.length_set]
    refine ((List.perm_middle (l₁ := [blkA b _, omA Y.bm Y.v Y.KL])).trans (List.Perm.cons _ ?_))
    exact (List.perm_middle (l₁ := blkA b _ :: omA Y.bm Y.v Y.KL :: keyRows Y.KL X.keys))
  have h1 := h.perm q1
  have hd : Dis (rowA 85 1 Y.sv X.slots.length (Y.SL.map slV)) (enA sl l) := h1.dis _ (by simp)
  have hlt := h1.lt (A := rowA 85 1 Y.sv X.slots.length (Y.SL.map slV)) (by simp)
  have hS : ∀ B ∈ [rowA 85 1 Y.sv X.slots.length ((Y.SL.set i sl').map slV), enA sl' l'], ∀ k, B.S k → (∃ A ∈ [rowA 85 1 Y.sv X.slots.length (Y.SL.map slV), enA sl l], A.S k) ∨ w.heap.size ≤ k := fun B hB k hk => by
    simp only [List.mem_cons, List.not_mem_nil, or_false] at hB
    rcases hB with rfl | rfl
    · exact .inl ⟨rowA 85 1 Y.sv X.slots.length (Y.SL.map slV), by simp, hk⟩
    · exact (hn k hk).imp (fun h => ⟨enA sl l, by simp, h⟩) (fun h => h)
  refine ⟨(Sep.steps h1 m (fun k hk => ?_) ⟨fun B hB => ?_, List.pairwise_cons.2 ⟨fun B hB k ka kb => ?_, List.pairwise_cons.2 ⟨fun _ h => (by cases h), List.Pairwise.nil⟩⟩⟩ hS).perm q2.symm, ⟨f.k, by simpa using f.s⟩, fun k hk => ?_⟩
  · rcases hT k hk with h | h | h
    · exact .inl ⟨enA sl l, by simp, h⟩
    · exact .inl ⟨rowA 85 1 Y.sv X.slots.length (Y.SL.map slV), by simp, h⟩
    · exact .inr h
  · simp only [List.mem_cons, List.not_mem_nil, or_false] at hB
    rcases hB with rfl | rfl
    · exact hs
    · exact ho
  · simp only [List.mem_cons, List.not_mem_nil, or_false] at hB
    subst hB
    rcases hn k kb with h | h
    · exact hd k ka h
    · have := hlt k ka; omega
  · obtain ⟨A, hA, hk⟩ := hk
    rcases List.mem_append.1 (q2.mem_iff.1 hA) with hA | hA
    · rcases hS A hA k hk with ⟨B, hB, hb⟩ | h
      · exact .inl ⟨B, q1.mem_iff.2 (List.mem_append_left _ hB), hb⟩
      · exact .inr h
    · exact .inl ⟨A, q1.mem_iff.2 (List.mem_append_right _ hA), hk⟩
/-- What the map's own part takes. -/
theorem Lay.om_disj (h : Sep (Y.list b X) w) : ∀ k, (k = Y.bm ∨ Y.v.ownBlock = some k) → ∀ A ∈ (blkA b (.cells #[.pointer (some ⟨Y.bm, 0, none⟩), Y.sv] 84) :: rowA 85 1 Y.sv X.slots.length (Y.SL.map slV) :: (keyRows Y.KL X.keys ++ slotRows Y.SL X.slots)), ¬ A.S k := by
  intro k hk A hA
  have h1 : Sep (omA Y.bm Y.v Y.KL :: (blkA b (.cells #[.pointer (some ⟨Y.bm, 0, none⟩), Y.sv] 84) :: rowA 85 1 Y.sv X.slots.length (Y.SL.map slV) :: (keyRows Y.KL X.keys ++ slotRows Y.SL X.slots))) w := h.perm (by
    simp only [Lay.list, Lay.hd, List.cons_append, List.nil_append]
    exact List.Perm.swap _ _ _)
  exact h1.dis A hA k hk
/-- A key's row is another one, in new blocks; the map's list with it. -/
theorem Lay.putKey {w1 : World} (h0 : Sep (Y.list b X) w) (f : Y.Fit X) (g : Gr w w1) (k : ByteArray) {s' : Sl} {l' : List En} (ho : Own w1 89 6 (slV s') l'.length (rowE l')) (hn : ∀ q, (slV s').ownBlock = some q → w.heap.size ≤ q)
    {v' : Value} (hm : OMsl w' Y.bm v' (putL ltS Y.KL k s')) (hv : ∀ q, v'.ownBlock = some q → Y.v.ownBlock = some q ∨ w1.heap.size ≤ q) (m : Mdh (fun q => q = Y.bm ∨ Y.v.ownBlock = some q) w1 w') :
    Sep (({ Y with v := v', KL := putL ltS Y.KL k s' } : Lay).list b ⟨X.slots, putL ltS X.keys k l'⟩) w' ∧ ({ Y with v := v', KL := putL ltS Y.KL k s' } : Lay).Fit ⟨X.slots, putL ltS X.keys k l'⟩ ∧
      ∀ q, (∃ A ∈ ({ Y with v := v', KL := putL ltS Y.KL k s' } : Lay).list b ⟨X.slots, putL ltS X.keys k l'⟩, A.S q) → (∃ A ∈ Y.list b X, A.S q) ∨ w.heap.size ≤ q := by
  obtain ⟨old, R, p1, _, p2, _, e1, _⟩ := keyRows_split f.k k s' l'
  have h1 := h0.new g (A := enA s' l') ho hn
  have q1 : (enA s' l' :: Y.list b X).Perm (omA Y.bm Y.v Y.KL :: ([enA s' l', blkA b (.cells #[.pointer (some ⟨Y.bm, 0, none⟩), Y.sv] 84), rowA 85 1 Y.sv X.slots.length (Y.SL.map slV)] ++ ((old ++ R) ++ slotRows Y.SL X.slots))) := by
    refine List.Perm.trans (l₂ := enA s' l' :: omA Y.bm Y.v Y.KL :: (blkA b (.cells #[.pointer (some ⟨Y.bm, 0, none⟩), Y.sv] 84) :: rowA 85 1 Y.sv X.slots.length (Y.SL.map slV) :: ((old ++ R) ++ slotRows Y.SL X.slots))) (List.Perm.cons _ ?_) (List.Perm.swap _ _ _)
    simp only [Lay.list, Lay.hd, List.cons_append, List.nil_append]
    exact (((((p1.append_right _)).cons _).cons _).cons _).trans (List.Perm.swap _ _ _)
  have q2 : (({ Y with v := v', KL := putL ltS Y.KL k s' } : Lay).list b ⟨X.slots, putL ltS X.keys k l'⟩).Perm (omA Y.bm v' (putL ltS Y.KL k s') :: ([enA s' l', blkA b (.cells #[.pointer (some ⟨Y.bm, 0, none⟩), Y.sv] 84), rowA 85 1 Y.sv X.slots.length (Y.SL.map slV)] ++ (R ++ slotRows Y.SL X.slots))) := by
    simp only [Lay.list, Lay.hd, List.cons_append, List.nil_append]
    refine ((((p2.append_right _).cons _).cons _).cons _).trans ((List.Perm.swap _ _ _).trans (List.Perm.cons _ ?_))
    simp only [List.cons_append]
    exact (List.perm_middle (l₁ := [blkA b _, rowA 85 1 Y.sv X.slots.length (Y.SL.map slV)]))
  have h2 := h1.perm q1
  have h3 := h2.step (B := omA Y.bm v' (putL ltS Y.KL k s')) m (fun q hq => .inl hq) hm (fun q hq => hq.elim (fun e => .inl (.inl e)) (fun e => (hv q e).imp .inr (fun h => h)))
  have sub : (R ++ slotRows Y.SL X.slots).Sublist ((old ++ R) ++ slotRows Y.SL X.slots) := (List.sublist_append_right _ _).append_right _
  refine ⟨(h3.sub ((sub.append_left [enA s' l', _, _]).cons_cons _)).perm q2.symm, ⟨e1, f.s⟩, fun q hq => ?_⟩
  obtain ⟨A, hA, ha⟩ := hq
  rcases List.mem_cons.1 (q2.mem_iff.1 hA) with rfl | hA
  · rcases ha with e | e
    · exact .inl ⟨omA Y.bm Y.v Y.KL, by simp [Lay.list, Lay.hd], .inl e⟩
    · rcases hv q e with h | h
      · exact .inl ⟨omA Y.bm Y.v Y.KL, by simp [Lay.list, Lay.hd], .inr h⟩
      · exact .inr (Nat.le_trans g.sz h)
  · rcases List.mem_append.1 hA with hA | hA
    · rcases List.mem_cons.1 hA with e | hA
      · subst e; exact .inr (hn q ha)
      · refine .inl ⟨A, ?_, ha⟩
        rcases List.mem_cons.1 hA with e | hA
        · rw [e]; exact List.mem_append_left _ (List.mem_cons_self ..)
        · rw [List.mem_singleton.1 hA]; exact List.mem_append_left _ (List.mem_cons_of_mem _ (List.mem_cons_of_mem _ (List.mem_cons_self ..)))
    · refine .inl ⟨A, List.mem_append_right _ ?_, ha⟩
      rcases List.mem_append.1 hA with hA | hA
      · exact List.mem_append_left _ (p1.mem_iff.2 (List.mem_append_right _ hA))
      · exact List.mem_append_right _ hA
/-- A key is taken out. -/
theorem Lay.delKey (h0 : Sep (Y.list b X) w) (f : Y.Fit X) (k : ByteArray)
    {v' : Value} (hm : OMsl w' Y.bm v' (delL ltS Y.KL k)) (hv : ∀ q, v'.ownBlock = some q → Y.v.ownBlock = some q ∨ w.heap.size ≤ q) (m : Mdh (fun q => q = Y.bm ∨ Y.v.ownBlock = some q) w w') :
    Sep (({ Y with v := v', KL := delL ltS Y.KL k } : Lay).list b ⟨X.slots, delL ltS X.keys k⟩) w' ∧ ({ Y with v := v', KL := delL ltS Y.KL k } : Lay).Fit ⟨X.slots, delL ltS X.keys k⟩ ∧
      ∀ q, (∃ A ∈ ({ Y with v := v', KL := delL ltS Y.KL k } : Lay).list b ⟨X.slots, delL ltS X.keys k⟩, A.S q) → (∃ A ∈ Y.list b X, A.S q) ∨ w.heap.size ≤ q := by
  obtain ⟨old, R, p1, _, _, p2, _, e1⟩ := keyRows_split f.k k (none, 0, 0) []
  have q1 : (Y.list b X).Perm (omA Y.bm Y.v Y.KL :: ([blkA b (.cells #[.pointer (some ⟨Y.bm, 0, none⟩), Y.sv] 84), rowA 85 1 Y.sv X.slots.length (Y.SL.map slV)] ++ ((old ++ R) ++ slotRows Y.SL X.slots))) := by
    simp only [Lay.list, Lay.hd, List.cons_append, List.nil_append]
    exact (((((p1.append_right _)).cons _).cons _).cons _).trans (List.Perm.swap _ _ _)
  have q2 : (({ Y with v := v', KL := delL ltS Y.KL k } : Lay).list b ⟨X.slots, delL ltS X.keys k⟩).Perm (omA Y.bm v' (delL ltS Y.KL k) :: ([blkA b (.cells #[.pointer (some ⟨Y.bm, 0, none⟩), Y.sv] 84), rowA 85 1 Y.sv X.slots.length (Y.SL.map slV)] ++ (R ++ slotRows Y.SL X.slots))) := by
    simp only [Lay.list, Lay.hd, List.cons_append, List.nil_append]
    exact (((((p2.append_right _)).cons _).cons _).cons _).trans (List.Perm.swap _ _ _)
  have h2 := h0.perm q1
  have h3 := h2.step (B := omA Y.bm v' (delL ltS Y.KL k)) m (fun q hq => .inl hq) hm (fun q hq => hq.elim (fun e => .inl (.inl e)) (fun e => (hv q e).imp .inr (fun h => h)))
  have sub : (R ++ slotRows Y.SL X.slots).Sublist ((old ++ R) ++ slotRows Y.SL X.slots) := (List.sublist_append_right _ _).append_right _
  refine ⟨(h3.sub ((sub.append_left [_, _]).cons_cons _)).perm q2.symm, ⟨e1, f.s⟩, fun q hq => ?_⟩
  obtain ⟨A, hA, ha⟩ := hq
  rcases List.mem_cons.1 (q2.mem_iff.1 hA) with rfl | hA
  · rcases ha with e | e
    · exact .inl ⟨omA Y.bm Y.v Y.KL, by simp [Lay.list, Lay.hd], .inl e⟩
    · rcases hv q e with h | h
      · exact .inl ⟨omA Y.bm Y.v Y.KL, by simp [Lay.list, Lay.hd], .inr h⟩
      · exact .inr h
  · exact .inl ⟨A, q1.mem_iff.2 (List.mem_cons_of_mem _ ((sub.append_left [_, _]).subset hA)), ha⟩
end
end Go.Proofs.YtemjnppplmankaaGreat

/- An entry that is added: the index stays as it has to be. No walk. -/
set_option linter.unusedVariables false
set_option linter.unusedSimpArgs false
namespace Go.Proofs.YtemjnppplmankaaGreat

theorem flat_perm {α : Type} {L M : List (List α)} (h : L.Perm M) : L.flatten.Perm M.flatten := h.flatten
theorem set_flat {ls : List (List En)} {i : Nat} {l : List En} (h : ls[i]? = some l) (l' : List En) : ∃ R, ls.flatten.Perm (l ++ R) ∧ (ls.set i l').flatten.Perm (l' ++ R) :=
  ⟨(ls.eraseIdx i).flatten, by simpa using flat_perm (erase_perm' h), by simpa using flat_perm (set_perm l' (List.getElem?_eq_some_iff.1 h).1)⟩
theorem fm_perm {L M : List (ByteArray × List En)} (h : L.Perm M) : (L.flatMap Prod.snd).Perm (M.flatMap Prod.snd) := by
  simp only [List.flatMap]
  exact flat_perm (h.map _)
theorem put_flat (ks : List (ByteArray × List En)) (k : ByteArray) (l' : List En) : ∃ R, (ks.flatMap Prod.snd).Perm ((look ltS ks k).getD [] ++ R) ∧ ((putL ltS ks k l').flatMap Prod.snd).Perm (l' ++ R) ∧ ((delL ltS ks k).flatMap Prod.snd).Perm R := by
  cases h : look ltS ks k with
  | none =>
    refine ⟨ks.flatMap Prod.snd, by simp, ?_, ?_⟩
    · unfold putL
      rw [h]
      have h1 : (ks.take (rk ltS ks k) ++ [(k, l')] ++ ks.drop (rk ltS ks k)).Perm ((k, l') :: ks) := by
        have := List.perm_middle (a := (k, l')) (l₁ := ks.take (rk ltS ks k)) (l₂ := ks.drop (rk ltS ks k))
        rw [List.take_append_drop] at this
        simpa using this
      simpa using fm_perm h1
    · unfold delL; rw [h]
  | some l =>
    have hx := look_some h
    refine ⟨(ks.eraseIdx (rk ltS ks k)).flatMap Prod.snd, by simpa using fm_perm (erase_perm' hx), ?_, ?_⟩
    · unfold putL
      rw [h]
      simpa using fm_perm (set_perm (k, l') (List.getElem?_eq_some_iff.1 hx).1)
    · unfold delL
      rw [h]
      simp only
      rw [← List.eraseIdx_eq_take_drop_succ]
section
variable {X : IX} {e : En}
/-- What an addition that goes through says. -/
structure AddOk (X : IX) (e : En) : Prop where
  ne : X.slots ≠ []
  has : X.has e.slot = true
  valid : validE e = true
  bad : ∀ o ∈ X.of e.key, badE e o = false
  same : ∀ o ∈ X.of e.key, sameE e o = false
  clash : clash (X.slot e.slot) e = false
theorem add_ok (h : addE X e = 0) : AddOk X e := by
  unfold addE at h
  split at h
  · cases h
  rename_i h1
  split at h
  · cases h
  rename_i h2
  split at h
  · cases h
  rename_i h3
  split at h
  · cases h
  rename_i h4
  split at h
  · cases h
  rename_i h5
  simp only [Bool.or_eq_true, not_or, Bool.not_eq_true] at h4 h5
  exact ⟨h1, by simpa using h2, by simpa using h3, fun o ho => by simpa using (List.any_eq_false.1 h4) o ho, fun o ho => by simpa using (List.any_eq_false.1 h5.1) o ho, h5.2⟩
theorem ok_add (h : AddOk X e) : addE X e = 0 := by
  unfold addE
  rw [if_neg h.ne, if_neg (by rw [h.has]; simp), if_neg (by rw [h.valid]; simp), if_neg, if_neg]
  · simp only [Bool.or_eq_true, not_or, Bool.not_eq_true]
    exact ⟨List.any_eq_false.2 (fun o ho => by simp [h.same o ho]), h.clash⟩
  · simp only [Bool.not_eq_true]
    exact List.any_eq_false.2 (fun o ho => by simp [h.bad o ho])
theorem slot_lt {i : Int} {s : List En} (hs : SlotOk i s) : s.Pairwise (fun a b => a.off + a.size ≤ b.off ∧ a.off < b.off) :=
  hs.p.imp_of_mem (fun {a b} ha _ h => ⟨h, by have := (valid_iff a).1 (hs.e a ha).2; omega⟩)
theorem off_mono (off : Int) (a b : En) (h : a.off + a.size ≤ b.off ∧ a.off < b.off) (ha : offP off a = false) : offP off b = false := by
  simp [offP] at *; omega
theorem cnt_off {i : Int} {s : List En} (hs : SlotOk i s) (off : Int) : ∀ j x, cnt (offP off) s ≤ j → s[j]? = some x → offP off x = false := cnt_hi _ (slot_lt hs) (off_mono off)
theorem clash_lo {i : Int} {s : List En} (hs : SlotOk i s) (h : clash s e = false) : ∀ x ∈ s, offP e.off x = true → x.off + x.size ≤ e.off := by
  intro x hx hp
  unfold clash at h
  simp only [Bool.or_eq_false_iff, Bool.and_eq_false_iff] at h
  obtain ⟨j, hj, rfl⟩ := List.mem_iff_getElem.1 hx
  have hjc : j < cnt (offP e.off) s := by
    rcases Nat.lt_or_ge j (cnt (offP e.off) s) with h1 | h1
    · exact h1
    · have := cnt_off hs e.off j _ h1 (List.getElem?_eq_getElem hj)
      rw [this] at hp; cases hp
  have hl := cnt_le (offP e.off) s
  have hk : cnt (offP e.off) s - 1 < s.length := by omega
  have h2 := h.2.resolve_left (by simp; omega)
  rw [List.getElem?_eq_getElem hk] at h2
  simp only [decide_eq_false_iff_not] at h2
  rcases Nat.eq_or_lt_of_le (show j ≤ cnt (offP e.off) s - 1 by omega) with h3 | h3
  · subst h3; omega
  · have := List.pairwise_iff_getElem.1 (slot_lt hs) j _ hj hk h3
    have hv := (valid_iff _).1 (hs.e _ (List.getElem_mem hk)).2
    omega
theorem clash_hi {i : Int} {s : List En} (hs : SlotOk i s) (h : clash s e = false) : ∀ x ∈ s, offP e.off x = false → e.off + e.size ≤ x.off := by
  intro x hx hp
  unfold clash at h
  simp only [Bool.or_eq_false_iff, Bool.and_eq_false_iff] at h
  obtain ⟨j, hj, rfl⟩ := List.mem_iff_getElem.1 hx
  have hjc : cnt (offP e.off) s ≤ j := by
    rcases Nat.lt_or_ge j (cnt (offP e.off) s) with h1 | h1
    · rw [cnt_lo (offP e.off) s j _ h1 (List.getElem?_eq_getElem hj)] at hp; cases hp
    · exact h1
  have hk : cnt (offP e.off) s < s.length := by omega
  have h2 := h.1
  rw [List.getElem?_eq_getElem hk] at h2
  simp only [Bool.or_eq_false_iff, decide_eq_false_iff_not] at h2
  rcases Nat.eq_or_lt_of_le hjc with h3 | h3
  · subst h3; omega
  · have := List.pairwise_iff_getElem.1 (slot_lt hs) _ j hk hj h3
    omega
/-- The parts of an index behind an addition. -/
theorem add_parts (h : X.Wf) (a : AddOk X e) : ∃ (i : Nat) (R1 R2 : List En), e.slot = i ∧ X.slots[i]? = some (X.slot e.slot) ∧
    X.slots.flatten.Perm (X.slot e.slot ++ R1) ∧ (X.slots.set i (insP (offP e.off) (X.slot e.slot) e)).flatten.Perm (insP (offP e.off) (X.slot e.slot) e ++ R1) ∧
    (X.keys.flatMap Prod.snd).Perm (X.of e.key ++ R2) ∧ ((putL ltS X.keys e.key (insP (fun o => ltE o e) (X.of e.key) e)).flatMap Prod.snd).Perm (insP (fun o => ltE o e) (X.of e.key) e ++ R2) := by
  obtain ⟨i, hi, hx⟩ := has_at a.has
  obtain ⟨R1, p1, p2⟩ := set_flat hx (insP (offP e.off) (X.slot e.slot) e)
  obtain ⟨R2, p3, p4, _⟩ := put_flat X.keys e.key (insP (fun o => ltE o e) (X.of e.key) e)
  exact ⟨i, R1, R2, hi, hx, p1, p2, p3, p4⟩
theorem addX_eq (a : AddOk X e) : addX X e = ⟨X.slots.set e.slot.toNat (insP (offP e.off) (X.slot e.slot) e), putL ltS X.keys e.key (insP (fun o => ltE o e) (X.of e.key) e)⟩ := by
  unfold addX; rw [if_pos (ok_add a)]
theorem add_ents (h : X.Wf) (a : AddOk X e) : (addX X e).ents.Perm (e :: X.ents) := by
  obtain ⟨i, R1, R2, hi, hx, p1, p2, p3, p4⟩ := add_parts h a
  rw [addX_eq a]
  unfold IX.ents
  rw [hi, Int.toNat_natCast, ← hi]
  exact p2.trans ((((insP_perm _ _ _).append_right _)).trans ((List.Perm.cons _ p1.symm)))
theorem add_wf (h : X.Wf) (a : AddOk X e) : (addX X e).Wf := by
  have hE := add_ents h a
  obtain ⟨i, R1, R2, hi, hx, p1, p2, p3, p4⟩ := add_parts h a
  have hil := (List.getElem?_eq_some_iff.1 hx).1
  rw [addX_eq a] at hE ⊢
  have hto : e.slot.toNat = i := by omega
  rw [hto] at hE ⊢
  have hS := h.slotOk e.slot
  refine ⟨by simpa using h.n, fun h0 => ?_, fun j l hl => ?_, put_srt ordS h.k0 _ _, fun x hxm => ?_, ?_, ?_⟩
  · exfalso
    have := congrArg List.length h0
    simp at this
    exact a.ne this
  · simp only at hl
    rw [List.getElem?_set] at hl
    split at hl
    · rename_i hij
      obtain rfl := Option.some.inj hl
      subst hij
      rw [← hi]
      refine ⟨?_, fun x hxm => ?_⟩
      · exact (insP_pair (R := fun a b => a.off + a.size ≤ b.off ∧ a.off < b.off) (offP e.off) (slot_lt hS) e (fun x hx' hp => ⟨clash_lo hS a.clash x hx' hp, by simpa [offP] using hp⟩)
          (fun x hx' hp => ⟨clash_hi hS a.clash x hx' hp, by have := clash_hi hS a.clash x hx' hp; have hv := (valid_iff e).1 a.valid; omega⟩) (off_mono e.off)).imp (fun h => h.1)
      · rcases (insP_mem _ _ _ _).1 hxm with rfl | hxm
        · exact ⟨rfl, a.valid⟩
        · exact hS.e x hxm
    · exact h.s j l hl
  · rcases (put_mem ordS h.k0 _ _ x).1 hxm with rfl | ⟨hxm, _⟩
    · refine ⟨?_, ?_, fun y hy => ?_⟩
      · intro h0
        have := congrArg List.length h0
        rw [insP_len] at this
        simp at this
      · refine insP_pair (R := fun a b => ltE a b = true) _ (h.ofPair e.key) e (fun x _ hp => hp) (fun x hx' hp => ?_) (fun a b hab ha => ?_)
        · cases he : ltE e x with
          | true => rfl
          | false =>
            have := ltE_tri hp he
            have hs := a.same x hx'
            simp [sameE, this] at hs
        · cases hb : ltE b e with
          | false => rfl
          | true => rw [ltE_trn hab hb] at ha; cases ha
      · rcases (insP_mem _ _ _ _).1 hy with rfl | hy
        · rfl
        · exact ((h.of_mem e.key y).1 hy).2
    · exact h.k x hxm
  · refine p4.trans ((((insP_perm _ _ _).append_right R2)).trans (List.Perm.trans ?_ hE.symm))
    exact List.Perm.cons _ (p3.symm.trans h.v)
  · intro x hxm y hym hk hq
    have key : ∀ o ∈ X.ents, o.key = e.key → o.seq = e.seq → o.del = e.del ∧ o.size = e.size := fun o ho h1 h2 => by
      have hb := a.bad o ((h.of_mem e.key o).2 ⟨ho, h1⟩)
      simp only [badE, decide_eq_false_iff_not, not_and, Decidable.not_not] at hb
      have := hb h2
      exact ⟨by rw [← this], by rw [← this]⟩
    rcases List.mem_cons.1 (hE.mem_iff.1 hxm) with rfl | hx'
    · rcases List.mem_cons.1 (hE.mem_iff.1 hym) with rfl | hy'
      · exact ⟨rfl, rfl⟩
      · have := key y hy' hk.symm hq.symm; exact ⟨this.1.symm, this.2.symm⟩
    · rcases List.mem_cons.1 (hE.mem_iff.1 hym) with rfl | hy'
      · exact key x hx' hk hq
      · exact h.c x hx' y hy' hk hq
end
end Go.Proofs.YtemjnppplmankaaGreat

/- The entries of a slot that are dropped: the index stays as it has to be. No walk. -/
set_option linter.unusedVariables false
set_option linter.unusedSimpArgs false
namespace Go.Proofs.YtemjnppplmankaaGreat

/-- The entries of a key without e. -/
def leftE (X : IX) (e : En) : List En := (X.of e.key).filter (fun o => !decide (o = e))
def remE (X : IX) (e : En) : IX := ⟨X.slots, if leftE X e = [] then delL ltS X.keys e.key else putL ltS X.keys e.key (leftE X e)⟩
def dropK (X : IX) (l : List En) : IX := l.foldl remE X
def dropX (X : IX) (s : Int) : IX := if X.has s = true then ⟨X.slots.set s.toNat [], (dropK X (X.slot s)).keys⟩ else X
structure MidK (X : IX) : Prop where
  k0 : Srt ltS X.keys
  k : ∀ x ∈ X.keys, KeyOk x.1 x.2
theorem IX.Wf.mid {X : IX} (h : X.Wf) : MidK X := ⟨h.k0, h.k⟩
section
variable {X : IX} {e : En}
theorem MidK.of (h : MidK X) {k : ByteArray} (hk : X.of k ≠ []) : KeyOk k (X.of k) := by
  unfold IX.of at hk ⊢
  cases hl : look ltS X.keys k with
  | none => rw [hl] at hk; exact absurd rfl hk
  | some l => exact h.k (k, l) ((look_mem ordS h.k0 k l).1 hl)
theorem MidK.pair (h : MidK X) (k : ByteArray) : (X.of k).Pairwise (fun a b => ltE a b = true) := by
  by_cases hk : X.of k = []
  · rw [hk]; exact List.Pairwise.nil
  · exact (h.of hk).p
theorem MidK.key (h : MidK X) (k : ByteArray) : ∀ o ∈ X.of k, o.key = k := fun o ho => (h.of (fun h0 => by rw [h0] at ho; cases ho)).e o ho
theorem rem_of (h : MidK X) (e : En) (k : ByteArray) : (remE X e).of k = (X.of k).filter (fun o => !decide (o = e)) := by
  by_cases hk : k = e.key
  · subst hk
    unfold remE IX.of
    simp only
    split
    · rename_i h0
      rw [del_look ordS h.k0, if_pos rfl]
      exact h0.symm
    · rw [put_look ordS h.k0, if_pos rfl]
      rfl
  · have e1 : (remE X e).of k = X.of k := by
      unfold remE IX.of
      simp only
      split
      · rw [del_look ordS h.k0, if_neg hk]
      · rw [put_look ordS h.k0, if_neg hk]
    rw [e1]
    refine (List.filter_eq_self.2 (fun o ho => ?_)).symm
    have := h.key k o ho
    have hne : o ≠ e := fun h0 => hk (by rw [← this, h0])
    simp [hne]
theorem rem_mid (h : MidK X) (e : En) : MidK (remE X e) := by
  by_cases h0 : leftE X e = []
  · have e1 : remE X e = ⟨X.slots, delL ltS X.keys e.key⟩ := by unfold remE; rw [if_pos h0]
    rw [e1]
    exact ⟨del_srt h.k0 _, fun x hx => h.k x ((del_mem ordS h.k0 _ x).1 hx).1⟩
  · have e1 : remE X e = ⟨X.slots, putL ltS X.keys e.key (leftE X e)⟩ := by unfold remE; rw [if_neg h0]
    rw [e1]
    refine ⟨put_srt ordS h.k0 _ _, fun x hx => ?_⟩
    rcases (put_mem ordS h.k0 _ _ x).1 hx with rfl | ⟨hx, _⟩
    · exact ⟨h0, (h.pair e.key).filter _, fun o ho => h.key _ o (List.mem_filter.1 ho).1⟩
    · exact h.k x hx
theorem drop_mid : ∀ (l : List En) {X : IX}, MidK X → MidK (dropK X l)
  | [], _, h => h
  | e :: l, _, h => drop_mid l (rem_mid h e)
theorem dropK_slots : ∀ (l : List En) (X : IX), (dropK X l).slots = X.slots
  | [], _ => rfl
  | e :: l, X => by unfold dropK; rw [List.foldl_cons]; exact dropK_slots l (remE X e)
theorem dropK_snoc (X : IX) (l : List En) (e : En) : dropK X (l ++ [e]) = remE (dropK X l) e := by simp [dropK]
theorem dropK_of : ∀ (l : List En) {X : IX}, MidK X → ∀ k, (dropK X l).of k = (X.of k).filter (fun o => decide (o ∉ l))
  | [], X, _, k => by simp only [dropK, List.foldl_nil]; exact (List.filter_eq_self.2 (fun o _ => by simp)).symm
  | e :: l, X, h, k => by
    have e1 : dropK X (e :: l) = dropK (remE X e) l := rfl
    rw [e1, dropK_of l (rem_mid h e), rem_of h, List.filter_filter]
    congr 1
    funext o
    by_cases h1 : o = e <;> by_cases h2 : o ∈ l <;> simp [h1, h2]
theorem ne_perm {e : En} : ∀ {l : List En}, l.Pairwise (fun a b => ltE a b = true) → e ∈ l → l.Perm (e :: l.filter (fun o => !decide (o = e)))
  | [], _, h => by cases h
  | x :: l, hp, h => by
    have hp' := List.pairwise_cons.1 hp
    by_cases hx : x = e
    · subst hx
      have e1 : (x :: l).filter (fun o => !decide (o = x)) = l := by
        rw [List.filter_cons_of_neg (by simp)]
        refine List.filter_eq_self.2 (fun y hy => ?_)
        have hne : y ≠ x := fun h0 => by have := hp'.1 y hy; rw [h0, ltE_irr] at this; cases this
        simp [hne]
      rw [e1]
    · rw [List.filter_cons_of_pos (by simp [hx])]
      have he : e ∈ l := (List.mem_cons.1 h).resolve_left (fun h0 => hx h0.symm)
      exact ((ne_perm hp'.2 he).cons x).trans (List.Perm.swap _ _ _)
theorem rem_perm (h : MidK X) (he : e ∈ X.of e.key) : (X.keys.flatMap Prod.snd).Perm (e :: (remE X e).keys.flatMap Prod.snd) := by
  obtain ⟨R, p1, p2, p3⟩ := put_flat X.keys e.key (leftE X e)
  have h1 := ne_perm (h.pair e.key) he
  refine p1.trans ((h1.append_right R).trans ?_)
  by_cases h0 : leftE X e = []
  · have e1 : remE X e = ⟨X.slots, delL ltS X.keys e.key⟩ := by unfold remE; rw [if_pos h0]
    rw [e1]
    show ((e :: leftE X e) ++ R).Perm _
    rw [h0]
    exact List.Perm.cons _ p3.symm
  · have e1 : remE X e = ⟨X.slots, putL ltS X.keys e.key (leftE X e)⟩ := by unfold remE; rw [if_neg h0]
    rw [e1]
    exact List.Perm.cons _ p2.symm
theorem drop_perm : ∀ (l : List En) {X : IX}, MidK X → l.Nodup → (∀ e ∈ l, e ∈ X.of e.key) → (X.keys.flatMap Prod.snd).Perm (l ++ (dropK X l).keys.flatMap Prod.snd)
  | [], _, _, _, _ => List.Perm.refl _
  | e :: l, X, h, hn, hl => by
    have hn' := List.nodup_cons.1 hn
    refine (rem_perm h (hl e (by simp))).trans (List.Perm.cons _ (drop_perm l (rem_mid h e) hn'.2 (fun o ho => ?_)))
    rw [rem_of h]
    refine List.mem_filter.2 ⟨hl o (List.mem_cons_of_mem _ ho), ?_⟩
    have hne : o ≠ e := fun h0 => hn'.1 (h0 ▸ ho)
    simp [hne]
theorem slot_nodup {i : Int} {l : List En} (h : SlotOk i l) : l.Nodup := (slot_lt h).imp (fun h e => by rw [e] at h; omega)
theorem drop_yes {s : Int} (h : X.has s = true) : dropX X s = ⟨X.slots.set s.toNat [], (dropK X (X.slot s)).keys⟩ := by unfold dropX; rw [if_pos h]
theorem drop_no {s : Int} (h : X.has s = false) : dropX X s = X := by unfold dropX; rw [if_neg (by rw [h]; simp)]
theorem drop_of (h : X.Wf) (s : Int) (k : ByteArray) : (dropX X s).of k = (X.of k).filter (fun o => decide (o.slot ≠ s)) := by
  cases hs : X.has s with
  | true =>
    have e1 : (dropX X s).of k = (dropK X (X.slot s)).of k := by rw [drop_yes hs]; rfl
    rw [e1, dropK_of _ h.mid]
    refine List.filter_congr (fun o ho => ?_)
    have h1 := (h.of_mem k o).1 ho
    rw [decide_eq_decide]
    exact not_congr ⟨fun h2 => ((h.slot_mem s o).1 h2).2, fun h2 => (h.slot_mem s o).2 ⟨h1.1, h2⟩⟩
  | false =>
    rw [drop_no hs]
    refine (List.filter_eq_self.2 (fun o ho => ?_)).symm
    have h1 := (h.valid ((h.of_mem k o).1 ho).1).2
    have hne : o.slot ≠ s := fun h0 => by rw [h0, hs] at h1; cases h1
    simp [hne]
theorem drop_slot (h : X.Wf) (s t : Int) : (dropX X s).slot t = if t = s then [] else X.slot t := by
  cases hs : X.has s with
  | true =>
    obtain ⟨i, rfl, hi⟩ := has_at hs
    rw [drop_yes hs]
    have hil := (List.getElem?_eq_some_iff.1 hi).1
    unfold IX.slot
    simp only [List.getD_eq_getElem?_getD, Int.toNat_natCast]
    by_cases ht : t = i
    · subst ht
      simp [hil]
    · by_cases h0 : 0 ≤ t
      · rw [if_pos h0, if_neg ht, if_pos h0, List.getElem?_set_ne (by omega)]
      · rw [if_neg h0, if_neg ht, if_neg h0]
  | false =>
    rw [drop_no hs]
    split
    · rename_i h0; rw [h0, slot_out hs]
    · rfl
/-- What is left. -/
theorem drop_parts (h : X.Wf) {s : Int} (hs : X.has s = true) : ∃ (i : Nat) (R1 : List En), s = i ∧ X.slots[i]? = some (X.slot s) ∧ X.slots.flatten.Perm (X.slot s ++ R1) ∧ (X.slots.set i []).flatten.Perm R1 ∧ ((dropK X (X.slot s)).keys.flatMap Prod.snd).Perm R1 := by
  obtain ⟨i, hi, hx⟩ := has_at hs
  obtain ⟨R1, p1, p2⟩ := set_flat hx []
  refine ⟨i, R1, hi, hx, p1, by simpa using p2, ?_⟩
  have h1 := drop_perm (X.slot s) h.mid (slot_nodup (h.slotOk s)) (fun e he => (h.of_mem e.key e).2 ⟨((h.slot_mem s e).1 he).1, rfl⟩)
  exact (List.perm_append_left_iff _).1 ((h1.symm.trans h.v).trans p1)
theorem drop_ents (h : X.Wf) {s : Int} (hs : X.has s = true) : X.ents.Perm (X.slot s ++ (dropX X s).ents) := by
  obtain ⟨i, R1, rfl, hx, p1, p2, p3⟩ := drop_parts h hs
  rw [drop_yes hs]
  unfold IX.ents
  rw [Int.toNat_natCast]
  exact p1.trans (List.Perm.append_left _ p2.symm)
theorem drop_wf (h : X.Wf) (s : Int) : (dropX X s).Wf := by
  cases hs : X.has s with
  | false => rw [drop_no hs]; exact h
  | true =>
    have hE := drop_ents h hs
    obtain ⟨i, R1, rfl, hx, p1, p2, p3⟩ := drop_parts h hs
    have hil := (List.getElem?_eq_some_iff.1 hx).1
    have hM := drop_mid (X.slot i) h.mid
    rw [drop_yes hs, Int.toNat_natCast] at *
    refine ⟨by simpa using h.n, fun h0 => ?_, fun j l hl => ?_, hM.k0, hM.k, p3.trans p2.symm, fun a ha b hb => h.c a (hE.mem_iff.2 (List.mem_append_right _ ha)) b (hE.mem_iff.2 (List.mem_append_right _ hb))⟩
    · exfalso
      have := congrArg List.length h0
      simp at this
      rw [this] at hil
      simp at hil
    · simp only at hl
      rw [List.getElem?_set] at hl
      split at hl
      · obtain rfl := Option.some.inj hl
        exact ⟨List.Pairwise.nil, fun e he => by cases he⟩
      · exact h.s j l hl
theorem dropK_le (h : MidK X) (l : List En) : (dropK X l).keys.length ≤ X.keys.length := by
  induction l generalizing X with
  | nil => exact Nat.le_refl _
  | cons e l ih =>
    refine Nat.le_trans (ih (rem_mid h e)) ?_
    unfold remE
    simp only
    split
    · rw [del_length]; split <;> omega
    · rename_i h0
      rw [put_length, if_neg]
      · exact Nat.le_refl _
      · intro hl
        apply h0
        unfold leftE IX.of
        rw [hl]
        rfl
end
end Go.Proofs.YtemjnppplmankaaGreat

/- slices.Clone at rows of entries. -/
set_option linter.unusedVariables false
set_option linter.unusedSimpArgs false
namespace Go.Proofs.YtemjnppplmankaaGreat
open Go.RowKit
attribute [local go_sem] OvM cell_ovm obj_ovm

set_option maxRecDepth 40000 in
set_option maxHeartbeats 1000000 in
theorem CloneE (l : List En) (hlen : l.length ≤ 100000) (s : Sl) (w : World) (h : Own w 89 6 (slV s) l.length (rowE l)) :
    Calls Tryz.prog 70 #[slV s] w fun e w' => ∃ s' : Sl, e = .returned (slV s') ∧ Own w' 89 6 (slV s') l.length (rowE l) ∧ (∀ k, (slV s').ownBlock = some k → w.heap.size ≤ k) ∧ Gr w w' := by
  obtain ⟨i0, hi, hz0, hz1, hz2⟩ := info_parts infoIten
  obtain ⟨s1, s2, s3⟩ := s
  simp only [slV] at *
  rcases h.2 with ⟨hv, h0⟩ | ⟨g, cap, cur, hv, _, hg, h1, h2, h3, h4⟩
  · have k3 := @Lib.run_eql_slice_nil
    obtain rfl : l = [] := List.eq_nil_of_length_eq_zero h0
    injection hv with e1 e2 e3
    subst e1 e2 e3
    clear h
    go_enter Tryz.func70, Tryz.ntmps70
    go_wp2
    go_ret
    exact ⟨(none, 0, 0), rfl, nilRow _ _ _, fun k hk => by simp [Value.ownBlock] at hk, Gr.refl _⟩
  · injection hv with e1 e2 e3
    subst e1 e2 e3
    have k3 : ∀ w : World, (binOp .eql 85 (.slice (some ⟨g, 0, none⟩) l.length s3) (.slice none 0 0)).run Tryz.prog w = .ok (.bool false) w := fun w => Lib.run_eql_slice_nil w _ _ (some ⟨g, 0, none⟩) l.length s3 0 0 Tryz.underlying85
    have HC : Hid (∀ w1, Gr w w1 → ∀ j u, (rowE l)[j]? = some u → w1.cell? ((⟨g, 0, none⟩ : Addr).add j) = some u) := Lib.hid (fun w1 g1 j u hj => (h.gr g1).cells (g := g) rfl j u hj)
    have HR : Hid ((rowE l).length = l.length * 6) := Lib.hid (rowE_len l)
    have H1 := Lib.hid (rowE_one l)
    clear h hg h4
    go_enter Tryz.func70, Tryz.ntmps70
    go_wp2_with (at_builtin; go_must (refine wpList_append_own _ rfl (.tmp 5) (.tmp 6) 85 rfl w.heap.size 89 i0 _ 6 56 Tryz.underlying85 hi hz0 hz1 hz2 rfl (by decide) (.slice (some ⟨w.heap.size, 0, none⟩) 0 0) 0 [] rfl (World.ownsRow_made _ #[] 0 (Nat.le_refl _) (by simp only [maxLen]; omega) rfl) ⟨g, 0, none⟩ l.length s3 (rowE l) rfl HR.out (HC.out _ (by (repeat (first | (with_reducible exact Gr.refl _) | assumption | (with_reducible apply Gr.from_drew) | (with_reducible apply Gr.alloc) | (with_reducible apply Gr.drew) | (with_reducible refine Gr.trans ?_ (by assumption)) | (with_reducible refine Gr.setCell ?_ (by omega) _))))) H1.out (by simp only [maxLen]; omega) (by omega) (by simp) ?_); intro v' w2 hown2 hgrow hnil; have HO2 := Lib.hid hown2; have HG2 := Lib.hid hgrow; have HN := Lib.hid hnil; clear hown2 hgrow hnil)
    go_ret
    have ho := HO2.out
    simp only [Nat.zero_add, List.nil_append] at ho
    have hg := HG2.out
    have hv : ∃ s' : Sl, v' = slV s' := by
      rcases ho.2 with ⟨hv, _⟩ | ⟨g', cap', cur', hv, _⟩
      · exact ⟨(none, 0, 0), hv⟩
      · exact ⟨(_, _, _), hv⟩
    obtain ⟨s', rfl⟩ := hv
    refine ⟨s', rfl, Own.lift ho, fun k hk => (World.ownsRow.lt ho k hk).1, hg.os, hg.tape, hg.output, Nat.le_trans (by simp) hg.size, fun k hk => ?_⟩
    exact (hg.block k (by simp; omega) (by simp [Value.ownBlock]; omega)).trans (Below.heap_alloc w _ k hk)
end Go.Proofs.YtemjnppplmankaaGreat

/- How entries are compared by ==. -/
set_option linter.unusedVariables false
set_option linter.unusedSimpArgs false
namespace Go.Proofs.YtemjnppplmankaaGreat
open Go.RowKit
theorem eq_fields (a b : En) : decide (a = b) = (a.seq == b.seq && (a.key.toList == b.key.toList && (a.del == b.del && (a.slot == b.slot && (a.off == b.off && a.size == b.size))))) := by
  rw [str_beq, Bool.eq_iff_iff]
  simp only [decide_eq_true_eq, Bool.and_eq_true, beq_iff_eq]
  exact En.eq_iff a b
theorem and_ite (a b : Bool) : (if a = false then false else b) = (a && b) := by cases a <;> rfl
theorem run_ite_ok {P : Program} {α : Type} (c : Prop) [Decidable c] (x y : α) (w : World) : (if c then Result.ok x w else Result.ok y w) = Result.ok (if c then x else y) w := by split <;> rfl
set_option maxRecDepth 40000 in
theorem neqE_run (a b : En) (w : World) : (binOp .neq 89 (.agg #[.int .i64 a.seq, .string a.key, .bool a.del, .int .i64 a.slot, .int .i64 a.off, .int .i64 a.size]) (.agg #[.int .i64 b.seq, .string b.key, .bool b.del, .int .i64 b.slot, .int .i64 b.off, .int .i64 b.size])).run Tryz.prog w = .ok (.bool (!decide (a = b))) w := by
  rw [run_neq_struct]
  have h : (Op.equalIn 10000 89 (.agg #[.int .i64 a.seq, .string a.key, .bool a.del, .int .i64 a.slot, .int .i64 a.off, .int .i64 a.size]) (.agg #[.int .i64 b.seq, .string b.key, .bool b.del, .int .i64 b.slot, .int .i64 b.off, .int .i64 b.size])).run Tryz.prog w = .ok (decide (a = b)) w := by
    rw [eq_fields]
    simp [go_sem]
    (repeat' split) <;> simp_all
  rw [h]
  rfl
set_option maxRecDepth 40000 in
theorem eqlE_run (a b : En) (w : World) : (binOp .eql 89 (.agg #[.int .i64 a.seq, .string a.key, .bool a.del, .int .i64 a.slot, .int .i64 a.off, .int .i64 a.size]) (.agg #[.int .i64 b.seq, .string b.key, .bool b.del, .int .i64 b.slot, .int .i64 b.off, .int .i64 b.size])).run Tryz.prog w = .ok (.bool (decide (a = b))) w := by
  rw [run_eql_struct]
  have h : (Op.equalIn 10000 89 (.agg #[.int .i64 a.seq, .string a.key, .bool a.del, .int .i64 a.slot, .int .i64 a.off, .int .i64 a.size]) (.agg #[.int .i64 b.seq, .string b.key, .bool b.del, .int .i64 b.slot, .int .i64 b.off, .int .i64 b.size])).run Tryz.prog w = .ok (decide (a = b)) w := by
    rw [eq_fields]
    simp [go_sem]
    (repeat' split) <;> simp_all
  rw [h]
  rfl
end Go.Proofs.YtemjnppplmankaaGreat

/- slices.IndexFunc, ContainsFunc at rows of entries, with any predicate that leaves the world. -/
set_option linter.unusedVariables false
set_option linter.unusedSimpArgs false
namespace Go.Proofs.YtemjnppplmankaaGreat
open Go.RowKit Go.Shelf
attribute [local go_sem] OvM cell_ovm obj_ovm

/-- A function value that tells whether an entry is as p says, in all worlds in which T alone has turned. -/
structure PredC (g : Nat) (lb : Array Value) (p : En → Bool) (T : Nat → Prop) (w : World) : Prop where
  enter : ∀ args w, (callFunc g args).run Tryz.prog w = .ok (.enter g args) w
  run : ∀ x w', Mdh T w w' → Calls Tryz.prog g (#[enV x] ++ lb) w' fun e w'' => e = .returned (.bool (p x)) ∧ Gr w' w''
theorem PredC.mdh {g : Nat} {lb : Array Value} {p : En → Bool} {T : Nat → Prop} {w w' : World} (h : PredC g lb p T w) (m : Mdh T w w') : PredC g lb p T w' := ⟨h.enter, fun x w2 m2 => h.run x w2 (m.trans m2)⟩
theorem PredC.gr {g : Nat} {lb : Array Value} {p : En → Bool} {T : Nat → Prop} {w w' : World} (h : PredC g lb p T w) (m : Gr w w') : PredC g lb p T w' := h.mdh (m.mdh _)
theorem PredC.mono {g : Nat} {lb : Array Value} {p : En → Bool} {T T' : Nat → Prop} {w : World} (h : PredC g lb p T w) (ht : ∀ k, T' k → T k) : PredC g lb p T' w := ⟨h.enter, fun x w2 m2 => h.run x w2 (m2.mono ht)⟩
/-- Where the first that is as p says stands. -/
def idxP (p : En → Bool) (l : List En) : Nat := cnt (fun x => !p x) l
theorem idxP_le (p : En → Bool) (l : List En) : idxP p l ≤ l.length := cnt_le _ l
theorem idxP_any (p : En → Bool) (l : List En) : decide (idxP p l < l.length) = l.any p := by
  rw [Bool.eq_iff_iff, decide_eq_true_iff, List.any_eq_true]
  constructor
  · intro h
    refine ⟨_, List.getElem_mem h, ?_⟩
    simpa using cnt_at (fun x => !p x) l _ (List.getElem?_eq_getElem h)
  · rintro ⟨x, hx, hp⟩
    obtain ⟨i, hi, rfl⟩ := List.mem_iff_getElem.1 hx
    rcases Nat.lt_or_ge i (idxP p l) with h | h
    · have := cnt_lo (fun x => !p x) l i _ h (List.getElem?_eq_getElem hi)
      simp [hp] at this
    · omega
def idxV (p : En → Bool) (l : List En) : Int := if idxP p l < l.length then idxP p l else -1
set_option maxRecDepth 40000 in
set_option maxHeartbeats 2000000 in
theorem IndexFL (l : List En) (hn : l.length ≤ 1000000) (a : Option Addr) (cap : Nat) (w : World) (h : Own w 89 6 (.slice a l.length cap) l.length (rowE l)) {g : Nat} {lb : Array Value} {p : En → Bool} {T : Nat → Prop} (hp : PredC g lb p T w) :
    Calls Tryz.prog 114 #[.slice a l.length cap, .func (.func g) #[] lb] w fun e w' => e = .returned (.int .i64 (idxV p l)) ∧ Gr w w' := by
  obtain ⟨a', cap', hv, _, _, hat⟩ := ownE_at h
  injection hv with e1 e2 e3
  subst e1 e3
  have HAT := Lib.hid hat
  have HP := Lib.hid hp
  have heg := hp.enter
  clear h hat hp
  go_enter Tryz.func114, Tryz.ntmps114
  go_wp2_with fail
  go_loopw [8] (fun t8 wx => ∃ k : Nat, k ≤ l.length ∧ t8 = .int .i64 k ∧ Hid (k ≤ idxP p l ∧ Gr w wx)) (fun t8 _ => l.length - (intOf t8).toNat)
  case atStart => exact ⟨0, by omega, rfl, Lib.hid ⟨by omega, by (repeat (first | (with_reducible exact Gr.refl _) | assumption | (with_reducible apply Gr.from_drew) | (with_reducible apply Gr.alloc) | (with_reducible apply Gr.drew) | (with_reducible refine Gr.trans ?_ (by assumption)) | (with_reducible refine Gr.setCell ?_ (by omega) _)))⟩⟩
  case round =>
    obtain ⟨k, hk, rfl, H⟩ := hrel
    by_cases hlt : k < l.length
    · have hlt' : (k : Int) < l.length := by omega
      have hx : l[k]? = some (l[k]'hlt) := List.getElem?_eq_getElem hlt
      obtain ⟨g0, rfl, _, _, hc⟩ := HAT.out k _ hx
      have HX := Lib.hid hx
      generalize l[k]'hlt = x at *
      have hr : ∀ i u, (enC x)[i]? = some u → wr.cell? ⟨g0, k * 6 + i, none⟩ = some u := fun i u hu => H.out.2.keep (hc i u hu)
      have d0 := hr 0 _ rfl
      have d1 := hr 1 _ rfl
      have d2 := hr 2 _ rfl
      have d3 := hr 3 _ rfl
      have d4 := hr 4 _ rfl
      have d5 := hr 5 _ rfl
      simp only [Nat.add_zero] at d0 d1 d2 d3 d4 d5
      clear hr hc hx
      have HR := Lib.hid (HP.out.run x wr (H.out.2.mdh _))
      cases hpx : p x with
      | true =>
        have HPX := Lib.hid hpx
        clear hpx
        go_wp2_with fail
        refine Calls.mono HR.out ?_
        rintro e w1 ⟨rfl, hg⟩
        rw [HPX.out]
        have HG := Lib.hid hg
        clear hg
        go_wp2
        go_ret
        have hk2 : k = idxP p l := by
          rcases Nat.eq_or_lt_of_le H.out.1 with h1 | h1
          · exact h1
          · have := cnt_lo (fun x => !p x) l k x h1 HX.out
            simp [HPX.out] at this
        exact ⟨ret_int (by unfold idxV; rw [if_pos (by omega), hk2]), H.out.2.trans HG.out⟩
      | false =>
        have HPX := Lib.hid hpx
        clear hpx
        go_wp2_with fail
        refine Calls.mono HR.out ?_
        rintro e w1 ⟨rfl, hg⟩
        rw [HPX.out]
        have HG := Lib.hid hg
        clear hg
        go_wp2
        go_roundw
        case rel => exact ⟨k + 1, by omega, by go_num, Lib.hid ⟨by
          rcases Nat.eq_or_lt_of_le H.out.1 with h1 | h1
          · have := cnt_at (fun x => !p x) l x (by have := HX.out; rw [h1] at this; exact this)
            simp [HPX.out] at this
          · omega, H.out.2.trans HG.out⟩⟩
        case measure => simp [intOf]; omega
    · have hlt' : ¬ (k : Int) < l.length := by omega
      go_wp2
      go_ret
      have := H.out.1
      exact ⟨ret_int (by unfold idxV; rw [if_neg (by omega)]), H.out.2⟩
end Go.Proofs.YtemjnppplmankaaGreat
