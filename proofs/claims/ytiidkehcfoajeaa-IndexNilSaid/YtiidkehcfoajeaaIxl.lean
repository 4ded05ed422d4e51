/- An index's slots and keys, one by one; how many there are. -/
import Derived.Test.YtiidkehcfoajeaaIxj
import Derived.Deep.RegionWith
set_option linter.unusedVariables false
set_option linter.unusedSimpArgs false
namespace Go.Proofs.Ytiidkehcfoajeaa
open Go.RowKit Go.Shelf
attribute [local go_sem] OvM cell_ovm obj_ovm
attribute [local go_sem] Oper.semAt_some

set_option maxRecDepth 40000 in
set_option maxHeartbeats 4000000 in
theorem SeqSlot {w : World} {b : Nat} {X : IX} {S : Nat → Prop} (h : IXR w b X S) (s : Int) (bb bs : Nat) (hbb : w.cell? ⟨bb, 0, none⟩ = some (.pointer (some ⟨b, 0, none⟩))) (hbs : w.cell? ⟨bs, 0, none⟩ = some (.int .i64 s)) :
    SeqZ Fence.wide 2 Try.prog 98 #[.pointer (some ⟨bb, 0, none⟩), .pointer (some ⟨bs, 0, none⟩)] encE (fun q => q = bb ∨ q = bs ∨ S q) (fun xs => xs = X.slot s) (fun pre => pre <+: X.slot s) w := by
  intro l J Jx W hW hJ hJx hY h0
  have hbW : W.cell? ⟨bb, 0, none⟩ = some (.pointer (some ⟨b, 0, none⟩)) := hW.keep hbb (fun h => h (.inl rfl))
  have hsW : W.cell? ⟨bs, 0, none⟩ = some (.int .i64 s) := hW.keep hbs (fun h => h (.inr (.inl rfl)))
  have hI := h.mdh hW (fun q hq hn => hn (.inr (.inr hq)))
  have HI := Lib.hid hI
  have HLE := Lib.hid (h.ok.slot_le s)
  cases hs : X.has s with
  | false =>
    have HS := Lib.hid hs
    have HE := Lib.hid (slot_out hs)
    have H0 := Lib.hid h0
    clear hY h0 hW h hbb hbs hs hI
    refine callsIn_wide.2 ?_
    go_enter Try.func98, Try.ntmps98
    go_wp2_with (go_at_call 99; refine (has_yes HI.out s).mono ?_; rintro e w1 ⟨rfl, rfl⟩; rw [HS.out])
    go_end0
    exact ⟨⟨_, rfl⟩, .inl ⟨_, [], HE.out.symm, H0.out⟩⟩
  | true =>
    have HS := Lib.hid hs
    obtain ⟨h1, h2, Y, h3, h4, h5⟩ := hI
    obtain ⟨i, sl, g, cap, rfl, hlt, hsl, hsx, hsv, c1, c2, hc, ho, hm⟩ := Lay.slotE h3 h4 hs
    have HV : Hid (∀ (w1 : World), Gr W w1 → ∀ b0, w1.cell? ⟨b0, 0, none⟩ = some (slV sl) → W.heap.size ≤ b0 →
        Calls Try.prog 130 #[.func (.yield l) #[] #[], .pointer (some ⟨b0, 0, none⟩)] w1 (SinPost (X.slot i) J Jx)) := Lib.hid (fun w1 g1 b0 hb0 hlt => by
      have hin := Val1 (slV sl) (X.slot i) (by have := HLE.out; omega) w1 (ho.gr g1) b0 hb0 (fun q => (q = bb ∨ q = bs ∨ S q) ∨ q = b0) (.inr rfl) (fun q hq => .inl (.inr (.inr ((h5 q).2 ⟨_, hm, hq⟩)))) l (plusB b0 J) (plusB b0 Jx) w1 (Mdh.refl _ _) (plusB_apart b0 hJ) (plusB_apart b0 hJx) (fun Z pre x X' hj hs => plusB_yield (hY _ pre x X' hj hs)) (hJ _ _ _ _ _ h0 (g1.mdh _) (fun q hq => hq.elim .inl (fun e => .inr ⟨by omega, by have := World.block_lt_of_cell? w1 _ hb0; simp only at this; omega⟩)))
      exact (callsIn_wide.1 hin).mono (fun e w' h => plusB_sin h))
    have hb := Lay.blk h3
    rw [hsv] at hb
    have e1 := ((cellsOf hb).1 1).trans (show _ = some (Value.slice (some ⟨g, 0, none⟩) X.slots.length cap) from rfl)
    have hlt' : (i : Int) < X.slots.length := by omega
    unfold maxLen at c2
    obtain ⟨s1, s2, s3⟩ := sl
    simp only [slV] at *
    clear hY h0 hW h hbb hbs hs hsl hsx h1 h2 h3 h4 h5 hsv ho hm hb
    refine callsIn_wide.2 ?_
    go_enter Try.func98, Try.ntmps98
    go_wp2_with (go_at_call 99; refine (has_yes HI.out i).mono ?_; rintro e w1 ⟨rfl, rfl⟩; rw [HS.out])
    go_region_with (first
      | (go_at_call 97; refine (Values_any _ _ _ _).mono ?_; rintro e w3 ⟨rfl, rfl⟩)
      | (go_at_call 130; refine (HV.out _ (by (repeat (first | (with_reducible exact Gr.refl _) | assumption | (with_reducible apply Gr.from_drew) | (with_reducible apply Gr.alloc) | (with_reducible apply Gr.drew) | (with_reducible refine Gr.trans ?_ (by assumption)) | (with_reducible refine Gr.setCell ?_ (by omega) _)))) _ (by simp [go_sem]) (by simp)).mono ?_; rintro e w4 ⟨⟨u, rfl⟩, hcc⟩))
    all_goals
      go_wp2
      go_end0
      exact ⟨⟨_, rfl⟩, hcc⟩
set_option maxRecDepth 40000 in
set_option maxHeartbeats 1000000 in
theorem SeqSlotN {w : World} {p : Option Addr} (h : IXN w p) (A : Nat → Prop) (hA : ∀ a, p = some a → A a.block) (s : Int) (bb bs : Nat) (hb : A bb) (hk : A bs) (hbb : w.cell? ⟨bb, 0, none⟩ = some (.pointer p)) (hbs : w.cell? ⟨bs, 0, none⟩ = some (.int .i64 s)) :
    SeqZ Fence.wide 2 Try.prog 98 #[.pointer (some ⟨bb, 0, none⟩), .pointer (some ⟨bs, 0, none⟩)] encE A (fun xs => xs = []) (fun pre => pre <+: []) w := by
  intro l J Jx W hW hJ hJx hY h0
  have hbW : W.cell? ⟨bb, 0, none⟩ = some (.pointer p) := hW.keep hbb (fun h => h hb)
  have hsW : W.cell? ⟨bs, 0, none⟩ = some (.int .i64 s) := hW.keep hbs (fun h => h hk)
  have HI : Hid (IXN W p) := Lib.hid (h.imp (fun h => h) (fun ⟨b, e, h⟩ => ⟨b, e, hW.blk h (fun hn => hn (hA _ e))⟩))
  have H0 := Lib.hid h0
  clear hY h0 hW h hbb hbs
  refine callsIn_wide.2 ?_
  go_enter Try.func98, Try.ntmps98
  go_wp2_with (go_at_call 99; refine (has_no HI.out s).mono ?_; rintro e w1 ⟨rfl, rfl⟩)
  go_end0
  exact ⟨⟨_, rfl⟩, .inl ⟨_, [], rfl, H0.out⟩⟩
theorem slot_none (s : Int) : (⟨[], []⟩ : IX).slot s = [] := slot_out (by simp [IX.has])
theorem SeqSlotP {w : World} {p : Option Addr} {X : IX} {S : Nat → Prop} (h : IXP w p X S) (s : Int) (bb bs : Nat) (hbb : w.cell? ⟨bb, 0, none⟩ = some (.pointer p)) (hbs : w.cell? ⟨bs, 0, none⟩ = some (.int .i64 s)) :
    SeqZ Fence.wide 2 Try.prog 98 #[.pointer (some ⟨bb, 0, none⟩), .pointer (some ⟨bs, 0, none⟩)] encE (fun q => q = bb ∨ q = bs ∨ S q) (fun xs => xs = X.slot s) (fun pre => pre <+: X.slot s) w := by
  rcases h with ⟨b, rfl, h⟩ | ⟨h, rfl, h3⟩
  · exact SeqSlot h s bb bs hbb hbs
  · rw [slot_none]; exact SeqSlotN h _ (fun a ha => .inr (.inr ((h3 _).2 ⟨a, ha, rfl⟩))) s bb bs (.inl rfl) (.inr (.inl rfl)) hbb hbs
set_option maxRecDepth 40000 in
theorem Slot_any (p : Option Addr) (s : Int) (w : World) : Calls Try.prog 34 #[.pointer p, .int .i64 s] w fun e w' =>
    ∃ bb bs, e = .returned (.func (.func 98) #[] #[.pointer (some ⟨bb, 0, none⟩), .pointer (some ⟨bs, 0, none⟩)]) ∧ w'.cell? ⟨bb, 0, none⟩ = some (.pointer p) ∧ w'.cell? ⟨bs, 0, none⟩ = some (.int .i64 s) ∧ w.heap.size ≤ bb ∧ w.heap.size ≤ bs ∧ Gr w w' := by
  go_enter Try.func34, Try.ntmps34
  go_wp2
  go_ret
  exact ⟨_, _, rfl, by simp [go_sem], by simp [go_sem], Nat.le_refl _, by simp, by (repeat (first | (with_reducible exact Gr.refl _) | assumption | (with_reducible apply Gr.from_drew) | (with_reducible apply Gr.alloc) | (with_reducible apply Gr.drew) | (with_reducible refine Gr.trans ?_ (by assumption)) | (with_reducible refine Gr.setCell ?_ (by omega) _)))⟩
set_option maxRecDepth 40000 in
theorem Slots_any {w : World} {p : Option Addr} {X : IX} {S : Nat → Prop} (h : IXP w p X S) : Calls Try.prog 67 #[.pointer p] w fun e w' => e = .returned (.int .i64 X.slots.length) ∧ w = w' := by
  rcases h with ⟨b, rfl, h⟩ | ⟨h, rfl, _⟩
  · obtain ⟨bm, g, cap, c0, c1, c2, c3, c4⟩ := h.cells
    have H := Lib.hid h
    clear h
    generalize X.slots.length = n at *
    go_enter Try.func67, Try.ntmps67
    go_wp2_with (go_at_call 95; refine (made_yes H.out).mono ?_; rintro e w1 ⟨rfl, rfl⟩)
    go_ret
    exact ⟨rfl, rfl⟩
  · have H := Lib.hid h
    clear h
    go_enter Try.func67, Try.ntmps67
    go_wp2_with (go_at_call 95; refine (made_no H.out).mono ?_; rintro e w1 ⟨rfl, rfl⟩)
    go_ret
    exact ⟨rfl, rfl⟩
theorem own_slV {w : World} {t : TypeId} {K n : Nat} {s : Sl} {xs : List Value} (h : Own w t K (slV s) n xs) : s.2.1 = n := by
  rcases h.2 with ⟨hv, h0⟩ | ⟨g, cap, cur, hv, _⟩
  · simp only [slV, Value.slice.injEq] at hv; omega
  · simp only [slV, Value.slice.injEq] at hv; exact hv.2.1
def sumL (L : List (List En)) : Nat := L.flatten.length
theorem sumL_take (L : List (List En)) (k : Nat) (l : List En) (h : L[k]? = some l) : sumL (L.take (k + 1)) = sumL (L.take k) + l.length := by
  unfold sumL
  rw [List.take_add_one, h]
  simp
theorem sumL_le (L : List (List En)) (k : Nat) : sumL (L.take k) ≤ sumL L := by
  unfold sumL
  have : L.flatten = (L.take k).flatten ++ (L.drop k).flatten := by rw [← List.flatten_append, List.take_append_drop]
  rw [this, List.length_append]
  omega
set_option maxRecDepth 40000 in
set_option maxHeartbeats 1000000 in
theorem Len_any {w : World} {p : Option Addr} {X : IX} {S : Nat → Prop} (h : IXP w p X S) : Calls Try.prog 38 #[.pointer p] w fun e w' => e = .returned (.int .i64 X.ents.length) ∧ w = w' := by
  rcases h with ⟨b, rfl, h⟩ | ⟨h, rfl, _⟩
  · have H := Lib.hid h
    obtain ⟨bm, g, cap, c0, c1, c2, c3, c4⟩ := h.cells
    have HC : Hid (∀ i, i < X.slots.length → ∃ l s, X.slots[i]? = some l ∧ w.cell? ⟨g, i, none⟩ = some (slV s) ∧ s.2.1 = l.length ∧ l.length ≤ 512) := Lib.hid (fun i hi => by
      obtain ⟨h1, h2, Y, h3, h4, h5⟩ := h
      obtain ⟨i', sl, g', cap', e, hlt, hsl, hsx, hsv, d1, d2, hc, ho, hm⟩ := Lay.slotE h3 h4 (s := i) (by simp [IX.has]; omega)
      obtain rfl : i = i' := by omega
      have hb := Lay.blk h3
      rw [hsv] at hb
      have e1 := ((cellsOf hb).1 1).trans (show _ = some (Value.slice (some ⟨g', 0, none⟩) X.slots.length cap') from rfl)
      rw [c1] at e1
      simp at e1
      obtain ⟨rfl, _⟩ := e1
      exact ⟨_, sl, hsx, hc, own_slV ho, h1.slot_le _⟩)
    have HN := Lib.hid (show sumL X.slots ≤ 16384 from h.ok.ents_le)
    unfold maxLen at c3
    clear h
    go_enter Try.func38, Try.ntmps38
    go_wp2_with (go_at_call 95; refine (made_yes H.out).mono ?_; rintro e w1 ⟨rfl, rfl⟩)
    go_loop [3, 13] (fun t3 t13 => ∃ k : Nat, k ≤ X.slots.length ∧ t13 = .int .i64 k ∧ t3 = .int .i64 (sumL (X.slots.take k))) (fun _ t13 => X.slots.length - (intOf t13).toNat)
    case atStart => exact ⟨0, Nat.zero_le _, rfl, rfl⟩
    case round =>
      obtain ⟨k, hk, rfl, rfl⟩ := hrel
      by_cases hlt : k < X.slots.length
      · have hlt' : (k : Int) < X.slots.length := by omega
        obtain ⟨l, s, hl, hc, hsl, hl5⟩ := HC.out k hlt
        have hm1 := sumL_le X.slots k
        have hm2 := HN.out
        have HT := Lib.hid (sumL_take X.slots k l hl)
        obtain ⟨s1, s2, s3⟩ := s
        simp only [slV] at hc hsl
        subst hsl
        clear hl
        generalize sumL (X.slots.take k) = m at *
        have hm3 : (m : Int) ≤ 16384 := by omega
        have hm4 : (l.length : Int) ≤ 512 := by omega
        go_wp2
        go_round
        case rel => exact ⟨k + 1, by omega, by go_num, by rw [HT.out]; go_num⟩
        case measure => simp [intOf]; omega
      · have hlt' : ¬ (k : Int) < X.slots.length := by omega
        go_wp2
        go_ret
        exact ⟨ret_int (by rw [List.take_of_length_le (by omega)]; rfl), rfl⟩
  · have H := Lib.hid h
    clear h
    go_enter Try.func38, Try.ntmps38
    go_wp2_with (go_at_call 95; refine (made_no H.out).mono ?_; rintro e w1 ⟨rfl, rfl⟩)
    go_ret
    exact ⟨rfl, rfl⟩
end Go.Proofs.Ytiidkehcfoajeaa
