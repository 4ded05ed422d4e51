/- slices.Equal at rows of entries and of strings. -/
import Derived.Test.YtiidkehcfoajeaaBd8
import Derived.Lib.SmallJoins
set_option linter.unusedVariables false
set_option linter.unusedSimpArgs false
namespace Go.Proofs.Ytiidkehcfoajeaa
open Go.RowKit Go.Shelf
attribute [local go_sem] OvM cell_ovm obj_ovm
attribute [local go_sem] Oper.semAt_some

theorem ownS_at {w : World} {v : Value} {l : List ByteArray} (h : Own w 9 1 v l.length (kS l)) : ∃ a cap, v = .slice a l.length cap ∧ l.length ≤ cap ∧ cap ≤ maxLen ∧ ∀ i x, l[i]? = some x → ∃ g, a = some ⟨g, 0, none⟩ ∧ g < w.heap.size ∧ v.ownBlock = some g ∧ w.cell? ⟨g, i, none⟩ = some (.string x) := by
  rcases h.2 with ⟨hv, h0⟩ | ⟨g, cap, cur, hv, _, hg, h1, h2, h3, h4⟩
  · have hL : l = [] := List.eq_nil_of_length_eq_zero h0
    subst hL
    exact ⟨none, 0, hv, Nat.le_refl _, by simp [maxLen], fun i x hx => by simp at hx⟩
  · subst hv
    refine ⟨_, cap, rfl, h1, h2, fun i x hx => ⟨g, rfl, blkLt hg, rfl, ?_⟩⟩
    have hc := h.cells (g := g) rfl i (.string x) (by unfold kS; rw [List.getElem?_map, hx]; rfl)
    rwa [show (⟨g, 0, none⟩ : Addr).add i = ⟨g, i, none⟩ by unfold Addr.add; split <;> simp_all] at hc
theorem beq_len (a b : Nat) (h : a ≠ b) : ((a : Int) == (b : Int)) = false := beq_false_of_ne (by omega)
set_option maxRecDepth 40000 in
set_option maxHeartbeats 2000000 in
theorem EqualE (l1 l2 : List En) (v1 v2 : Value) (w : World) (h1 : Own w 23 6 v1 l1.length (rowE l1)) (h2 : Own w 23 6 v2 l2.length (rowE l2)) (hn : l1.length ≤ 1000000) :
    Calls Try.prog 35 #[v1, v2] w fun e w' => e = .returned (.bool (decide (l1 = l2))) ∧ Gr w w' := by
  obtain ⟨a1, cap1, rfl, hc1, hm1, hat1⟩ := ownE_at h1
  obtain ⟨a2, cap2, rfl, hc2, hm2, hat2⟩ := ownE_at h2
  have HA1 := Lib.hid hat1
  have HA2 := Lib.hid hat2
  clear h1 h2 hat1 hat2
  unfold maxLen at hm1 hm2
  by_cases hl : l1.length = l2.length
  · go_enter Try.func35, Try.ntmps35
    rw [← hl]
    rw [← hl] at hc2
    have HL := Lib.hid hl
    clear hl
    go_wp2_with fail
    go_loopw [13] (fun i wx => ∃ k : Nat, k ≤ l1.length ∧ i = .int .i64 k ∧ Hid (Gr w wx) ∧ Hid (l1.take k = l2.take k)) (fun i _ => l1.length - (intOf i).toNat)
    case atStart => exact ⟨0, by omega, rfl, Lib.hid (by (repeat (first | (with_reducible exact Gr.refl _) | assumption | (with_reducible apply Gr.from_drew) | (with_reducible apply Gr.alloc) | (with_reducible apply Gr.drew) | (with_reducible refine Gr.trans ?_ (by assumption)) | (with_reducible refine Gr.setCell ?_ (by omega) _)))), Lib.hid (by simp)⟩
    case round =>
      obtain ⟨k, hk, rfl, HG, HT⟩ := hrel
      by_cases hlt : k < l1.length
      · have hlt' : (k : Int) < l1.length := by omega
        have hx : l1[k]? = some (l1[k]'hlt) := List.getElem?_eq_getElem hlt
        have hy : l2[k]? = some (l2[k]'(by rw [← HL.out]; exact hlt)) := List.getElem?_eq_getElem _
        obtain ⟨g, rfl, z1, z2, c0⟩ := HA1.out k _ hx
        obtain ⟨g', rfl, z3, z4, c1⟩ := HA2.out k _ hy
        clear z1 z2 z3 z4
        have HX := Lib.hid hx
        have HY := Lib.hid hy
        generalize l1[k]'hlt = x at *
        generalize l2[k]'(by rw [← HL.out]; exact hlt) = y at *
        have hr : ∀ i u, (enC x)[i]? = some u → wr.cell? ⟨g, k * 6 + i, none⟩ = some u := fun i u hu => HG.out.keep (c0 i u hu)
        have hs : ∀ i u, (enC y)[i]? = some u → wr.cell? ⟨g', k * 6 + i, none⟩ = some u := fun i u hu => HG.out.keep (c1 i u hu)
        have d0 := hr 0 _ rfl
        have d1 := hr 1 _ rfl
        have d2 := hr 2 _ rfl
        have d3 := hr 3 _ rfl
        have d4 := hr 4 _ rfl
        have d5 := hr 5 _ rfl
        have e0 := hs 0 _ rfl
        have e1 := hs 1 _ rfl
        have e2 := hs 2 _ rfl
        have e3 := hs 3 _ rfl
        have e4 := hs 4 _ rfl
        have e5 := hs 5 _ rfl
        simp only [Nat.add_zero] at d0 d1 d2 d3 d4 d5 e0 e1 e2 e3 e4 e5
        have k1 := fun w => neqE_run x y w
        clear hr hs
        clear c0 c1 hx hy
        by_cases hxy : x = y
        · have hd : decide (x = y) = true := decide_eq_true hxy
          have HXY := Lib.hid hxy
          clear hxy
          go_wp2
          refine wp_region_flo (fun _ => False) [] [] (by kernel_rfl) (by kernel_rfl) (fun _ h => h.elim) ?_
          refine flo_seg 9 rfl ?_
          simp only [List.take_succ_cons, List.take_zero, List.drop_succ_cons, List.drop_zero]
          repeat (go_big_quiet_step (fail))
          refine wpQuiet_nil ?_
          refine flo_nil ?_
          go_wp2
          go_roundw
          case rel => exact ⟨k + 1, by omega, by go_num, Lib.hid (HG.out.trans (by (repeat (first | (with_reducible exact Gr.refl _) | assumption | (with_reducible apply Gr.from_drew) | (with_reducible apply Gr.alloc) | (with_reducible apply Gr.drew) | (with_reducible refine Gr.trans ?_ (by assumption)) | (with_reducible refine Gr.setCell ?_ (by omega) _))))), Lib.hid (by rw [List.take_add_one, List.take_add_one, HT.out, HX.out, HY.out, HXY.out])⟩
          case measure => simp [intOf]; omega
        · have hd : decide (x = y) = false := decide_eq_false hxy
          have HXY := Lib.hid hxy
          clear hxy
          have HNE : Hid (decide (l1 = l2) = false) := Lib.hid (by
            apply decide_eq_false
            rintro rfl
            rw [HX.out] at HY
            exact HXY.out (Option.some.inj HY.out))
          go_wp2
          refine wp_region_flo (fun _ => False) [] [] (by kernel_rfl) (by kernel_rfl) (fun _ h => h.elim) ?_
          refine flo_seg 9 rfl ?_
          simp only [List.take_succ_cons, List.take_zero, List.drop_succ_cons, List.drop_zero]
          repeat (go_big_quiet_step (fail))
          refine wpQuiet_nil ?_
          refine flo_nil ?_
          go_wp2
          go_ret
          exact ⟨ret_bool HNE.out.symm, HG.out.trans (by (repeat (first | (with_reducible exact Gr.refl _) | assumption | (with_reducible apply Gr.from_drew) | (with_reducible apply Gr.alloc) | (with_reducible apply Gr.drew) | (with_reducible refine Gr.trans ?_ (by assumption)) | (with_reducible refine Gr.setCell ?_ (by omega) _))))⟩
      · have hlt' : ¬ (k : Int) < l1.length := by omega
        have hkl : k = l1.length := by omega
        have HEQ : Hid (decide (l1 = l2) = true) := Lib.hid (by
          apply decide_eq_true
          have := HT.out
          rwa [List.take_of_length_le (by omega), List.take_of_length_le (by have := HL.out; omega)] at this)
        clear hkl
        go_wp2
        go_ret
        exact ⟨ret_bool HEQ.out.symm, HG.out⟩
  · have hb := beq_len _ _ hl
    have HNE : Hid (decide (l1 = l2) = false) := Lib.hid (decide_eq_false (fun e => hl (by rw [e])))
    clear hl
    go_enter Try.func35, Try.ntmps35
    go_wp2
    go_ret
    exact ⟨ret_bool HNE.out.symm, Gr.refl _⟩
set_option maxRecDepth 40000 in
set_option maxHeartbeats 2000000 in
theorem EqualS (l1 l2 : List ByteArray) (v1 v2 : Value) (w : World) (h1 : Own w 9 1 v1 l1.length (kS l1)) (h2 : Own w 9 1 v2 l2.length (kS l2)) (hn : l1.length ≤ 1000000) :
    Calls Try.prog 103 #[v1, v2] w fun e w' => e = .returned (.bool (decide (l1 = l2))) ∧ Gr w w' := by
  obtain ⟨a1, cap1, rfl, hc1, hm1, hat1⟩ := ownS_at h1
  obtain ⟨a2, cap2, rfl, hc2, hm2, hat2⟩ := ownS_at h2
  have HA1 := Lib.hid hat1
  have HA2 := Lib.hid hat2
  clear h1 h2 hat1 hat2
  unfold maxLen at hm1 hm2
  by_cases hl : l1.length = l2.length
  · go_enter Try.func103, Try.ntmps103
    rw [← hl]
    rw [← hl] at hc2
    have HL := Lib.hid hl
    clear hl
    go_wp2_with fail
    go_loopw [13] (fun i wx => ∃ k : Nat, k ≤ l1.length ∧ i = .int .i64 k ∧ Hid (Gr w wx) ∧ Hid (l1.take k = l2.take k)) (fun i _ => l1.length - (intOf i).toNat)
    case atStart => exact ⟨0, by omega, rfl, Lib.hid (by (repeat (first | (with_reducible exact Gr.refl _) | assumption | (with_reducible apply Gr.from_drew) | (with_reducible apply Gr.alloc) | (with_reducible apply Gr.drew) | (with_reducible refine Gr.trans ?_ (by assumption)) | (with_reducible refine Gr.setCell ?_ (by omega) _)))), Lib.hid (by simp)⟩
    case round =>
      obtain ⟨k, hk, rfl, HG, HT⟩ := hrel
      by_cases hlt : k < l1.length
      · have hlt' : (k : Int) < l1.length := by omega
        have hx : l1[k]? = some (l1[k]'hlt) := List.getElem?_eq_getElem hlt
        have hy : l2[k]? = some (l2[k]'(by rw [← HL.out]; exact hlt)) := List.getElem?_eq_getElem _
        obtain ⟨g, rfl, z1, z2, c0⟩ := HA1.out k _ hx
        obtain ⟨g', rfl, z3, z4, c1⟩ := HA2.out k _ hy
        clear z1 z2 z3 z4
        have HX := Lib.hid hx
        have HY := Lib.hid hy
        generalize l1[k]'hlt = x at *
        generalize l2[k]'(by rw [← HL.out]; exact hlt) = y at *
        have d0 := HG.out.keep c0
        have e0 := HG.out.keep c1
        clear c0 c1 hx hy
        by_cases hxy : x = y
        · have hd : (x.toList == y.toList) = true := by rw [str_beq]; exact decide_eq_true hxy
          have HXY := Lib.hid hxy
          clear hxy
          go_wp2
          refine wp_region_flo (fun _ => False) [] [] (by kernel_rfl) (by kernel_rfl) (fun _ h => h.elim) ?_
          refine flo_seg 9 rfl ?_
          simp only [List.take_succ_cons, List.take_zero, List.drop_succ_cons, List.drop_zero]
          repeat (go_big_quiet_step (fail))
          refine wpQuiet_nil ?_
          refine flo_nil ?_
          go_wp2
          go_roundw
          case rel => exact ⟨k + 1, by omega, by go_num, Lib.hid (HG.out.trans (by (repeat (first | (with_reducible exact Gr.refl _) | assumption | (with_reducible apply Gr.from_drew) | (with_reducible apply Gr.alloc) | (with_reducible apply Gr.drew) | (with_reducible refine Gr.trans ?_ (by assumption)) | (with_reducible refine Gr.setCell ?_ (by omega) _))))), Lib.hid (by rw [List.take_add_one, List.take_add_one, HT.out, HX.out, HY.out, HXY.out])⟩
          case measure => simp [intOf]; omega
        · have hd : (x.toList == y.toList) = false := by rw [str_beq]; exact decide_eq_false hxy
          have HXY := Lib.hid hxy
          clear hxy
          have HNE : Hid (decide (l1 = l2) = false) := Lib.hid (by
            apply decide_eq_false
            rintro rfl
            rw [HX.out] at HY
            exact HXY.out (Option.some.inj HY.out))
          go_wp2
          refine wp_region_flo (fun _ => False) [] [] (by kernel_rfl) (by kernel_rfl) (fun _ h => h.elim) ?_
          refine flo_seg 9 rfl ?_
          simp only [List.take_succ_cons, List.take_zero, List.drop_succ_cons, List.drop_zero]
          repeat (go_big_quiet_step (fail))
          refine wpQuiet_nil ?_
          refine flo_nil ?_
          go_wp2
          go_ret
          exact ⟨ret_bool HNE.out.symm, HG.out.trans (by (repeat (first | (with_reducible exact Gr.refl _) | assumption | (with_reducible apply Gr.from_drew) | (with_reducible apply Gr.alloc) | (with_reducible apply Gr.drew) | (with_reducible refine Gr.trans ?_ (by assumption)) | (with_reducible refine Gr.setCell ?_ (by omega) _))))⟩
      · have hlt' : ¬ (k : Int) < l1.length := by omega
        have hkl : k = l1.length := by omega
        have HEQ : Hid (decide (l1 = l2) = true) := Lib.hid (by
          apply decide_eq_true
          have := HT.out
          rwa [List.take_of_length_le (by omega), List.take_of_length_le (by have := HL.out; omega)] at this)
        clear hkl
        go_wp2
        go_ret
        exact ⟨ret_bool HEQ.out.symm, HG.out⟩
  · have hb := beq_len _ _ hl
    have HNE : Hid (decide (l1 = l2) = false) := Lib.hid (decide_eq_false (fun e => hl (by rw [e])))
    clear hl
    go_enter Try.func103, Try.ntmps103
    go_wp2
    go_ret
    exact ⟨ret_bool HNE.out.symm, Gr.refl _⟩
end Go.Proofs.Ytiidkehcfoajeaa

/- take at an index's own iterators; rows that a literal lays. -/
set_option linter.unusedVariables false
set_option linter.unusedSimpArgs false
namespace Go.Proofs.Ytiidkehcfoajeaa
open Go.RowKit Go.Shelf

theorem take_of {w : World} {p : Option Addr} {X : IX} {S : Nat → Prop} (h : IXP w p X S) (k : ByteArray) (bb bk : Nat) (hbb : w.cell? ⟨bb, 0, none⟩ = some (.pointer p)) (hbk : w.cell? ⟨bk, 0, none⟩ = some (.string k)) :
    Calls Try.prog 32 #[.func (.func 94) #[] #[.pointer (some ⟨bb, 0, none⟩), .pointer (some ⟨bk, 0, none⟩)]] w fun e w' => ∃ v, e = .returned v ∧ Nw w w' 23 6 v ((X.of k).take 5000).length (rowE ((X.of k).take 5000)) ∧ Gr w w' :=
  TakeE (enters_of Try.func94 (by kernel_rfl) rfl) (SeqOfP h k bb bk hbb hbk) (fun q hq => by
    rcases hq with rfl | rfl | hq
    · exact World.block_lt_of_cell? w _ hbb
    · exact World.block_lt_of_cell? w _ hbk
    · exact h.lt q hq)
theorem take_slot {w : World} {p : Option Addr} {X : IX} {S : Nat → Prop} (h : IXP w p X S) (s : Int) (bb bk : Nat) (hbb : w.cell? ⟨bb, 0, none⟩ = some (.pointer p)) (hbk : w.cell? ⟨bk, 0, none⟩ = some (.int .i64 s)) :
    Calls Try.prog 32 #[.func (.func 98) #[] #[.pointer (some ⟨bb, 0, none⟩), .pointer (some ⟨bk, 0, none⟩)]] w fun e w' => ∃ v, e = .returned v ∧ Nw w w' 23 6 v ((X.slot s).take 5000).length (rowE ((X.slot s).take 5000)) ∧ Gr w w' :=
  TakeE (enters_of Try.func98 (by kernel_rfl) rfl) (SeqSlotP h s bb bk hbb hbk) (fun q hq => by
    rcases hq with rfl | rfl | hq
    · exact World.block_lt_of_cell? w _ hbb
    · exact World.block_lt_of_cell? w _ hbk
    · exact h.lt q hq)
theorem take_keys {w : World} {p : Option Addr} {X : IX} {S : Nat → Prop} (h : IXP w p X S) (bb : Nat) (hbb : w.cell? ⟨bb, 0, none⟩ = some (.pointer p)) :
    Calls Try.prog 37 #[.func (.func 100) #[] #[.pointer (some ⟨bb, 0, none⟩)]] w fun e w' => ∃ v, e = .returned v ∧ Nw w w' 9 1 v (X.ks.take 5000).length (kS (X.ks.take 5000)) ∧ Gr w w' :=
  TakeS (enters_of Try.func100 (by kernel_rfl) rfl) (SeqKeysP h bb hbb) (fun q hq => by
    rcases hq with rfl | hq
    · exact World.block_lt_of_cell? w _ hbb
    · exact h.lt q hq)
theorem own_lit (w : World) (t : TypeId) (K n : Nat) (xs : List Value) (hx : xs.length = n * K) (hn : n ≤ 100000) : Own (w.alloc (.cells xs.toArray t)) t K (.slice (some ⟨w.heap.size, 0, none⟩) n n) n xs :=
  Own.ofParts (blkNew w _) (Nat.le_refl _) (by unfold maxLen; omega) (by simpa using hx) (by rw [List.take_of_length_le (by rw [← hx]; exact Nat.le_refl _)])
end Go.Proofs.Ytiidkehcfoajeaa

/- drumlinlaw21: the examples of the chapter. -/
set_option linter.unusedVariables false
set_option linter.unusedSimpArgs false
namespace Go.Proofs.Ytiidkehcfoajeaa
open Go.RowKit Go.Shelf
attribute [local go_sem] OvM cell_ovm obj_ovm
attribute [local go_sem] Oper.semAt_some

theorem low_1 {k : ByteArray} {c : UInt8} (h : k = ⟨#[c]⟩) (hc : c.toNat < 128) : Low k := by
  subst h
  intro j hj
  have h1 : j < 1 := hj
  have h0 : j = 0 := by omega
  subst h0
  exact hc
def wkA : En := ⟨1, ⟨#[97]⟩, false, 0, 0, 20⟩
def wkB : En := ⟨2, ⟨#[98]⟩, false, 0, 20, 18⟩
def wkC : En := ⟨3, ⟨#[97]⟩, true, 1, 0, 17⟩
def wkD : En := ⟨1, ⟨#[97]⟩, false, 2, 0, 20⟩
def wkL : List (En × Int) := [(wkA, 0), (wkB, 0), (wkC, 0), (wkD, 0), (⟨1, ⟨#[97]⟩, false, 2, 50, 20⟩, 6), (⟨4, ⟨#[99]⟩, false, 0, 19, 17⟩, 6), (⟨1, ⟨#[97]⟩, false, 1, 40, 21⟩, 2), (⟨1, ⟨#[97]⟩, false, 3, 0, 20⟩, 3), (⟨1, ⟨#[66]⟩, false, 0, 0, 17⟩, 2), (⟨9, ⟨#[97]⟩, false, 0, 8176, 17⟩, 2)]
def wkSt (j : Nat) : IX := (wkL.take j).foldl (fun X x => addX X x.1) (ixNew 3)
def wkX : IX := wkSt 10
def wkZ : IX := dropX wkX 0
theorem wk_of : wkX.of ⟨#[97]⟩ = [wkC, wkA, wkD] := by kernel_rfl
theorem wk_slot : wkX.slot 0 = [wkA, wkB] := by kernel_rfl
theorem wk_ks : wkX.ks = [⟨#[97]⟩, ⟨#[98]⟩] := by kernel_rfl
theorem wk_dc : dropC wkX 0 = 0 := by kernel_rfl
theorem wk_ks2 : wkZ.ks = [⟨#[97]⟩] := by kernel_rfl
theorem wk_len2 : wkZ.ents.length = 2 := by kernel_rfl
theorem wk_last2 : wkZ.last = 3 := by kernel_rfl
theorem wk_step : ∀ j x, wkL[j]? = some x → addE (wkSt j) x.1 = x.2 ∧ Low x.1.key ∧ En64 x.1 := by
  intro j x h
  match j, h with
  | 0, h => cases h; exact ⟨by kernel_rfl, low_1 rfl (by decide), by unfold En64; decide⟩
  | 1, h => cases h; exact ⟨by kernel_rfl, low_1 rfl (by decide), by unfold En64; decide⟩
  | 2, h => cases h; exact ⟨by kernel_rfl, low_1 rfl (by decide), by unfold En64; decide⟩
  | 3, h => cases h; exact ⟨by kernel_rfl, low_1 rfl (by decide), by unfold En64; decide⟩
  | 4, h => cases h; exact ⟨by kernel_rfl, low_1 rfl (by decide), by unfold En64; decide⟩
  | 5, h => cases h; exact ⟨by kernel_rfl, low_1 rfl (by decide), by unfold En64; decide⟩
  | 6, h => cases h; exact ⟨by kernel_rfl, low_1 rfl (by decide), by unfold En64; decide⟩
  | 7, h => cases h; exact ⟨by kernel_rfl, low_1 rfl (by decide), by unfold En64; decide⟩
  | 8, h => cases h; exact ⟨by kernel_rfl, low_1 rfl (by decide), by unfold En64; decide⟩
  | 9, h => cases h; exact ⟨by kernel_rfl, low_1 rfl (by decide), by unfold En64; decide⟩
  | _ + 10, h => cases h
theorem wk_next (j : Nat) (x : En × Int) (h : wkL[j]? = some x) : wkSt (j + 1) = addX (wkSt j) x.1 := by
  unfold wkSt
  rw [List.take_add_one, h, List.foldl_append]
  rfl
def row7 (l : List (En × Int)) : List Value := l.flatMap fun x => enC x.1 ++ [.int .i64 x.2]
theorem row7_get (l : List (En × Int)) : ∀ i x, l[i]? = some x → ∀ j u, (enC x.1 ++ [.int .i64 x.2])[j]? = some u → (row7 l)[i * 7 + j]? = some u := by
  induction l with
  | nil => intro i x h; simp at h
  | cons y l ih =>
    intro i x h j u hu
    have hj : j < 7 := by have := (List.getElem?_eq_some_iff.1 hu).1; simpa [enC] using this
    show ((enC y.1 ++ [.int .i64 y.2]) ++ row7 l)[i * 7 + j]? = some u
    cases i with
    | zero => simp at h; subst h; rw [List.getElem?_append_left (by simp [enC]; omega)]; simpa using hu
    | succ i =>
      rw [List.getElem?_append_right (by simp [enC]; omega), show (i + 1) * 7 + j - (enC y.1 ++ [Value.int .i64 y.2]).length = i * 7 + j by simp [enC]; omega]
      exact ih i x (by simpa using h) j u hu
set_option maxRecDepth 40000 in
theorem at_any (k : ByteArray) (q s o z : Int) (d : Bool) (w : World) : Calls Try.prog 102 #[.string k, .int .i64 q, .int .i64 s, .int .i64 o, .int .i64 z, .bool d] w fun e w' => e = .returned (.agg #[.int .i64 q, .string k, .bool d, .int .i64 s, .int .i64 o, .int .i64 z]) ∧ Gr w w' := by
  go_enter Try.func102, Try.ntmps102
  go_wp2
  refine bodyPost_ret (v := .agg #[.int .i64 q, .string k, .bool d, .int .i64 s, .int .i64 o, .int .i64 z]) ?_ rfl ⟨rfl, by (repeat (first | (with_reducible exact Gr.refl _) | assumption | (with_reducible apply Gr.from_drew) | (with_reducible apply Gr.alloc) | (with_reducible apply Gr.drew) | (with_reducible refine Gr.trans ?_ (by assumption)) | (with_reducible refine Gr.setCell ?_ (by omega) _)))⟩
  simp [results, Try.results102, go_sem]
set_option maxRecDepth 40000 in
set_option maxHeartbeats 8000000 in
theorem ix_works (w : World) : Calls Try.prog 39 #[] w fun e w' => e = .returned (.bool true) ∧ Gr w w' := by
  have HST := Lib.hid (fun j x h => And.intro (wk_step j x h) (wk_next j x h))
  go_enter Try.func39, Try.ntmps39
  go_wp2_with fail
  refine (New_any 3 w (by decide) (by decide)).mono ?_
  rintro e w1 ⟨b, S, rfl, h1, h2, h3⟩
  have HS1 : Hid (SW w [ixA b (wkSt 0) S] w1) := Lib.hid ((SW.start w).ixnew h1 h2 h3)
  have HG := Gr.refl w1
  clear h1 h2 h3
  go_wp2_with (go_at_call 102; refine (at_any _ _ _ _ _ _ _).mono ?_; rintro e w2 ⟨rfl, hg⟩; replace HG := HG.trans hg; clear hg)
  obtain ⟨w5, hw5⟩ : ∃ y, y = (((w2.alloc (.cells (enC wkA).toArray 23)).alloc (.cells (enC wkB).toArray 23)).alloc (.cells (enC wkC).toArray 23)).alloc (.cells (enC wkD).toArray 23) := ⟨_, rfl⟩
  obtain ⟨b3, hb3⟩ : ∃ q, q = w2.heap.size := ⟨_, rfl⟩
  have HS5 : Hid (SW w [ixA b (wkSt 0) S, blkA (b3 + 1 + 1 + 1) (.cells (enC wkD).toArray 23), blkA (b3 + 1 + 1) (.cells (enC wkC).toArray 23), blkA (b3 + 1) (.cells (enC wkB).toArray 23), blkA b3 (.cells (enC wkA).toArray 23)] w5) := Lib.hid (by
    have := ((((HS1.out.gr HG).allocT (.cells (enC wkA).toArray 23)).allocT (.cells (enC wkB).toArray 23)).allocT (.cells (enC wkC).toArray 23)).allocT (.cells (enC wkD).toArray 23)
    simp only [World.size_alloc, ← hb3] at this
    rw [← hw5] at this
    exact this)
  simp only [enC, wkA, wkB, wkC, wkD] at hw5
  rw [← hw5, ← hb3]
  clear hw5 hb3 HG
  have d3 := (cellsOf (show w5.heap[b3]? = _ from HS5.out.get (i := 4) rfl)).1
  have d4 := (cellsOf (show w5.heap[b3 + 1]? = _ from HS5.out.get (i := 3) rfl)).1
  have d5 := (cellsOf (show w5.heap[b3 + 1 + 1]? = _ from HS5.out.get (i := 2) rfl)).1
  have d6 := (cellsOf (show w5.heap[b3 + 1 + 1 + 1]? = _ from HS5.out.get (i := 1) rfl)).1
  simp only [enC, wkA, wkB, wkC, wkD] at d3 d4 d5 d6
  have HG := Gr.refl w5.drew
  refine wp_region_flo (fun _ => False) [] [] (by kernel_rfl) (by kernel_rfl) (fun _ h => h.elim) ?_
  refine flo_seg 8 rfl ?_
  simp only [List.take_succ_cons, List.take_zero, List.drop_succ_cons, List.drop_zero]
  repeat (go_big_quiet_step (fail))
  refine wpQuiet_nil ?_
  refine flo_eff rfl rfl rfl rfl (fun K hK => ?_)
  go_wp2_with ((go_at_call 102; refine (at_any _ _ _ _ _ _ _).mono ?_; rintro e w1 ⟨rfl, hg⟩; replace HG := HG.trans hg; (try clear hc); have hc := HG.cell; (try simp only [World.size_alloc] at hc)))
  refine ⟨by (first | (refine Gr.mdh ?_ _; (repeat (first | (with_reducible exact Gr.refl _) | assumption | (with_reducible apply Gr.from_drew) | (with_reducible apply Gr.alloc) | (with_reducible apply Gr.drew) | (with_reducible refine Gr.trans ?_ (by assumption)) | (with_reducible refine Gr.setCell ?_ (by omega) _))); done) | (repeat (first | (with_reducible exact Mdh.refl _ _) | (with_reducible refine Mdh.setCell ?_ (by simp) _) | (with_reducible refine Mdh.setNew ?_ (by simp) _) | (with_reducible apply Mdh.alloc) | (with_reducible apply Mdh.from_drew) | (with_reducible apply Mdh.drew) | (with_reducible refine Mdh.gr ?_ (by assumption))))), ?_⟩
  refine flo_seg 1 rfl ?_
  simp only [List.take_succ_cons, List.take_zero, List.drop_succ_cons, List.drop_zero]
  repeat (go_big_quiet_step (fail))
  refine wpQuiet_nil ?_
  refine flo_eff rfl rfl rfl rfl (fun K hK => ?_)
  go_wp2_with ((go_at_call 102; refine (at_any _ _ _ _ _ _ _).mono ?_; rintro e w1 ⟨rfl, hg⟩; replace HG := HG.trans hg; (try clear hc); have hc := HG.cell; (try simp only [World.size_alloc] at hc)))
  refine ⟨by (first | (refine Gr.mdh ?_ _; (repeat (first | (with_reducible exact Gr.refl _) | assumption | (with_reducible apply Gr.from_drew) | (with_reducible apply Gr.alloc) | (with_reducible apply Gr.drew) | (with_reducible refine Gr.trans ?_ (by assumption)) | (with_reducible refine Gr.setCell ?_ (by omega) _))); done) | (repeat (first | (with_reducible exact Mdh.refl _ _) | (with_reducible refine Mdh.setCell ?_ (by simp) _) | (with_reducible refine Mdh.setNew ?_ (by simp) _) | (with_reducible apply Mdh.alloc) | (with_reducible apply Mdh.from_drew) | (with_reducible apply Mdh.drew) | (with_reducible refine Mdh.gr ?_ (by assumption))))), ?_⟩
  refine flo_seg 1 rfl ?_
  simp only [List.take_succ_cons, List.take_zero, List.drop_succ_cons, List.drop_zero]
  repeat (go_big_quiet_step (fail))
  refine wpQuiet_nil ?_
  refine flo_eff rfl rfl rfl rfl (fun K hK => ?_)
  go_wp2_with ((go_at_call 102; refine (at_any _ _ _ _ _ _ _).mono ?_; rintro e w1 ⟨rfl, hg⟩; replace HG := HG.trans hg; (try clear hc); have hc := HG.cell; (try simp only [World.size_alloc] at hc)))
  refine ⟨by (first | (refine Gr.mdh ?_ _; (repeat (first | (with_reducible exact Gr.refl _) | assumption | (with_reducible apply Gr.from_drew) | (with_reducible apply Gr.alloc) | (with_reducible apply Gr.drew) | (with_reducible refine Gr.trans ?_ (by assumption)) | (with_reducible refine Gr.setCell ?_ (by omega) _))); done) | (repeat (first | (with_reducible exact Mdh.refl _ _) | (with_reducible refine Mdh.setCell ?_ (by simp) _) | (with_reducible refine Mdh.setNew ?_ (by simp) _) | (with_reducible apply Mdh.alloc) | (with_reducible apply Mdh.from_drew) | (with_reducible apply Mdh.drew) | (with_reducible refine Mdh.gr ?_ (by assumption))))), ?_⟩
  refine flo_seg 1 rfl ?_
  simp only [List.take_succ_cons, List.take_zero, List.drop_succ_cons, List.drop_zero]
  repeat (go_big_quiet_step (fail))
  refine wpQuiet_nil ?_
  refine flo_eff rfl rfl rfl rfl (fun K hK => ?_)
  go_wp2_with ((go_at_call 102; refine (at_any _ _ _ _ _ _ _).mono ?_; rintro e w1 ⟨rfl, hg⟩; replace HG := HG.trans hg; (try clear hc); have hc := HG.cell; (try simp only [World.size_alloc] at hc)))
  refine ⟨by (first | (refine Gr.mdh ?_ _; (repeat (first | (with_reducible exact Gr.refl _) | assumption | (with_reducible apply Gr.from_drew) | (with_reducible apply Gr.alloc) | (with_reducible apply Gr.drew) | (with_reducible refine Gr.trans ?_ (by assumption)) | (with_reducible refine Gr.setCell ?_ (by omega) _))); done) | (repeat (first | (with_reducible exact Mdh.refl _ _) | (with_reducible refine Mdh.setCell ?_ (by simp) _) | (with_reducible refine Mdh.setNew ?_ (by simp) _) | (with_reducible apply Mdh.alloc) | (with_reducible apply Mdh.from_drew) | (with_reducible apply Mdh.drew) | (with_reducible refine Mdh.gr ?_ (by assumption))))), ?_⟩
  refine flo_seg 1 rfl ?_
  simp only [List.take_succ_cons, List.take_zero, List.drop_succ_cons, List.drop_zero]
  repeat (go_big_quiet_step (fail))
  refine wpQuiet_nil ?_
  refine flo_eff rfl rfl rfl rfl (fun K hK => ?_)
  go_wp2_with ((go_at_call 102; refine (at_any _ _ _ _ _ _ _).mono ?_; rintro e w1 ⟨rfl, hg⟩; replace HG := HG.trans hg; (try clear hc); have hc := HG.cell; (try simp only [World.size_alloc] at hc)))
  refine ⟨by (first | (refine Gr.mdh ?_ _; (repeat (first | (with_reducible exact Gr.refl _) | assumption | (with_reducible apply Gr.from_drew) | (with_reducible apply Gr.alloc) | (with_reducible apply Gr.drew) | (with_reducible refine Gr.trans ?_ (by assumption)) | (with_reducible refine Gr.setCell ?_ (by omega) _))); done) | (repeat (first | (with_reducible exact Mdh.refl _ _) | (with_reducible refine Mdh.setCell ?_ (by simp) _) | (with_reducible refine Mdh.setNew ?_ (by simp) _) | (with_reducible apply Mdh.alloc) | (with_reducible apply Mdh.from_drew) | (with_reducible apply Mdh.drew) | (with_reducible refine Mdh.gr ?_ (by assumption))))), ?_⟩
  refine flo_seg 1 rfl ?_
  simp only [List.take_succ_cons, List.take_zero, List.drop_succ_cons, List.drop_zero]
  repeat (go_big_quiet_step (fail))
  refine wpQuiet_nil ?_
  refine flo_eff rfl rfl rfl rfl (fun K hK => ?_)
  go_wp2_with ((go_at_call 102; refine (at_any _ _ _ _ _ _ _).mono ?_; rintro e w1 ⟨rfl, hg⟩; replace HG := HG.trans hg; (try clear hc); have hc := HG.cell; (try simp only [World.size_alloc] at hc)))
  refine ⟨by (first | (refine Gr.mdh ?_ _; (repeat (first | (with_reducible exact Gr.refl _) | assumption | (with_reducible apply Gr.from_drew) | (with_reducible apply Gr.alloc) | (with_reducible apply Gr.drew) | (with_reducible refine Gr.trans ?_ (by assumption)) | (with_reducible refine Gr.setCell ?_ (by omega) _))); done) | (repeat (first | (with_reducible exact Mdh.refl _ _) | (with_reducible refine Mdh.setCell ?_ (by simp) _) | (with_reducible refine Mdh.setNew ?_ (by simp) _) | (with_reducible apply Mdh.alloc) | (with_reducible apply Mdh.from_drew) | (with_reducible apply Mdh.drew) | (with_reducible refine Mdh.gr ?_ (by assumption))))), ?_⟩
  refine flo_seg 1 rfl ?_
  simp only [List.take_succ_cons, List.take_zero, List.drop_succ_cons, List.drop_zero]
  repeat (go_big_quiet_step (fail))
  refine wpQuiet_nil ?_
  refine flo_eff rfl rfl rfl rfl (fun K hK => ?_)
  go_wp2
  refine ⟨by (first | (refine Gr.mdh ?_ _; (repeat (first | (with_reducible exact Gr.refl _) | assumption | (with_reducible apply Gr.from_drew) | (with_reducible apply Gr.alloc) | (with_reducible apply Gr.drew) | (with_reducible refine Gr.trans ?_ (by assumption)) | (with_reducible refine Gr.setCell ?_ (by omega) _))); done) | (repeat (first | (with_reducible exact Mdh.refl _ _) | (with_reducible refine Mdh.setCell ?_ (by simp) _) | (with_reducible refine Mdh.setNew ?_ (by simp) _) | (with_reducible apply Mdh.alloc) | (with_reducible apply Mdh.from_drew) | (with_reducible apply Mdh.drew) | (with_reducible refine Mdh.gr ?_ (by assumption))))), ?_⟩
  refine flo_seg 2 rfl ?_
  simp only [List.take_succ_cons, List.take_zero, List.drop_succ_cons, List.drop_zero]
  repeat (go_big_quiet_step (fail))
  refine wpQuiet_nil ?_
  refine flo_nil ?_
  obtain ⟨g, hg⟩ : ∃ q, q = w1.heap.size := ⟨_, rfl⟩
  have HS6 : Hid (SW w [ixA b (wkSt 0) S, blkA g (.cells (row7 wkL).toArray 136), blkA (b3 + 1 + 1 + 1) (.cells (enC wkD).toArray 23), blkA (b3 + 1 + 1) (.cells (enC wkC).toArray 23), blkA (b3 + 1) (.cells (enC wkB).toArray 23), blkA b3 (.cells (enC wkA).toArray 23)] (w1.alloc (.cells (row7 wkL).toArray 136))) := Lib.hid (by rw [hg]; exact (HS5.out.gr (Gr.of_drew HG)).allocT _)
  obtain ⟨w6, hw6⟩ : ∃ y, y = w1.alloc (.cells (row7 wkL).toArray 136) := ⟨_, rfl⟩
  rw [← hw6] at HS6
  simp only [row7, wkL, wkA, wkB, wkC, wkD, enC, List.flatMap_cons, List.flatMap_nil, List.cons_append, List.nil_append, List.append_nil] at hw6
  rw [← hw6, ← hg]
  clear hw6 hg HG hc d3 d4 d5 d6
  go_wp2_with fail
  go_loopw [52] (fun t52 wx => ∃ (j : Nat) (S : Nat → Prop), j ≤ 10 ∧ t52 = .int .i64 j ∧ Hid (SW w [ixA b (wkSt j) S, blkA g (.cells (row7 wkL).toArray 136), blkA (b3 + 1 + 1 + 1) (.cells (enC wkD).toArray 23), blkA (b3 + 1 + 1) (.cells (enC wkC).toArray 23), blkA (b3 + 1) (.cells (enC wkB).toArray 23), blkA b3 (.cells (enC wkA).toArray 23)] wx)) (fun t52 _ => 10 - (intOf t52).toNat)
  case atStart => exact ⟨0, S, by omega, rfl, HS6⟩
  case round =>
    obtain ⟨j, S, hj, rfl, HR⟩ := hrel
    by_cases hlt : j < 10
    · have hlt' : (j : Int) < 10 := by omega
      obtain ⟨x, hx⟩ : ∃ x, wkL[j]? = some x := ⟨_, List.getElem?_eq_getElem (show j < 10 from hlt)⟩
      have HX := Lib.hid (HST.out j x hx)
      have cc := (cellsOf (show wr.heap[g]? = _ from HR.out.get (i := 1) rfl)).1
      have hr : ∀ c u, (enC x.1 ++ [.int .i64 x.2])[c]? = some u → wr.cell? ⟨g, j * 7 + c, none⟩ = some u := fun c u hu => (cc _).trans (by rw [List.getElem?_toArray]; exact row7_get wkL j x hx c u hu)
      have d0 := hr 0 _ rfl
      have d1 := hr 1 _ rfl
      have d2 := hr 2 _ rfl
      have d3 := hr 3 _ rfl
      have d4 := hr 4 _ rfl
      have d5 := hr 5 _ rfl
      have d6 := hr 6 _ rfl
      simp only [Nat.add_zero] at d0 d1 d2 d3 d4 d5 d6
      clear hr cc hx
      obtain ⟨x, y⟩ := x
      simp only at HX d0 d1 d2 d3 d4 d5 d6
      go_wp2_with fail
      obtain ⟨b8, hb8⟩ : ∃ q, q = wr.heap.size := ⟨_, rfl⟩
      obtain ⟨w7, hw7⟩ : ∃ y', y' = wr.alloc (.cells #[.int .i64 x.seq, .string x.key, .bool x.del, .int .i64 x.slot, .int .i64 x.off, .int .i64 x.size, .int .i64 y] 136) := ⟨_, rfl⟩
      have HR7 : Hid (SW w [ixA b (wkSt j) S, blkA g (.cells (row7 wkL).toArray 136), blkA (b3 + 1 + 1 + 1) (.cells (enC wkD).toArray 23), blkA (b3 + 1 + 1) (.cells (enC wkC).toArray 23), blkA (b3 + 1) (.cells (enC wkB).toArray 23), blkA b3 (.cells (enC wkA).toArray 23)] w7) := Lib.hid (by rw [hw7]; exact HR.out.gr ((Gr.refl _).alloc _))
      have HB8 : Hid (w7.heap[b8]? = some (.cells #[.int .i64 x.seq, .string x.key, .bool x.del, .int .i64 x.slot, .int .i64 x.off, .int .i64 x.size, .int .i64 y] 136)) := Lib.hid (by rw [hw7, hb8]; exact blkNew wr _)
      have hS8 : ¬ S b8 := fun h => by have := HR.out.ix.lt _ h; omega
      have HSL : Hid (∀ k, S k → k < w7.heap.size) := Lib.hid HR7.out.ix.lt
      rw [← hw7, ← hb8]
      clear hw7 hb8 d0 d1 d2 d3 d4 d5 d6
      have d8 := (cellsOf HB8.out).1
      have HAD : Hid (Calls Try.prog 40 #[.pointer (some ⟨b, 0, none⟩), .agg #[.int .i64 x.seq, .string x.key, .bool x.del, .int .i64 x.slot, .int .i64 x.off, .int .i64 x.size]] w7.drew fun e w' => e = .returned (.int .i64 y) ∧ ∃ S', SW w [ixA b (wkSt (j + 1)) S', blkA g (.cells (row7 wkL).toArray 136), blkA (b3 + 1 + 1 + 1) (.cells (enC wkD).toArray 23), blkA (b3 + 1 + 1) (.cells (enC wkC).toArray 23), blkA (b3 + 1) (.cells (enC wkB).toArray 23), blkA b3 (.cells (enC wkA).toArray 23)] w' ∧ Mdh S w7.drew w') := Lib.hid (by
        refine (Add_any (HR7.out.ix.gr (Gr.refl _).drew) x HX.out.1.2.1 HX.out.1.2.2).mono ?_
        rintro e w' ⟨rfl, hp⟩
        rw [← HX.out.2] at hp
        obtain ⟨S', hS'⟩ := (HR7.out.gr (Gr.refl _).drew).post hp
        obtain ⟨_, _, hm, _⟩ := hp
        exact ⟨by rw [HX.out.1.1], S', hS', hm⟩)
      refine wp_region_flo (S) [] [] (by kernel_rfl) (by kernel_rfl) (HSL.out) ?_
      refine flo_seg 3 rfl ?_
      simp only [List.take_succ_cons, List.take_zero, List.drop_succ_cons, List.drop_zero]
      repeat (go_big_quiet_step (fail))
      refine wpQuiet_nil ?_
      refine flo_eff rfl rfl rfl rfl (fun K hK => ?_)
      go_wp2_with ((go_at_call 40; refine Calls.mono HAD.out ?_; rintro e w8 ⟨rfl, S', hs', hm⟩; have HS' := Lib.hid hs'; have HM := Lib.hid hm; clear hs' hm))
      refine ⟨by exact HM.out.mono (fun k hk => .inl hk), ?_⟩
      refine flo_seg 3 rfl ?_
      simp only [List.take_succ_cons, List.take_zero, List.drop_succ_cons, List.drop_zero]
      repeat (go_big_quiet_step (fail))
      refine wpQuiet_nil ?_
      refine flo_nil ?_
      go_wp2_with fail
      go_roundw
      case rel => exact ⟨j + 1, S', by omega, by go_num, HS'⟩
      case measure => simp [intOf]; omega
    · have hlt' : ¬ (j : Int) < 10 := by omega
      obtain rfl : j = 10 := by omega
      have HR0 : Hid (SW w [ixA b wkX S, blkA (b3 + 1 + 1 + 1) (.cells (enC wkD).toArray 23), blkA (b3 + 1 + 1) (.cells (enC wkC).toArray 23), blkA (b3 + 1) (.cells (enC wkB).toArray 23), blkA b3 (.cells (enC wkA).toArray 23)] wr) := Lib.hid (HR.out.sub (.cons_cons _ (.cons _ (List.Sublist.refl _))))
      clear HST HR HS6 HS5
      go_wp2_with fail
      refine (Newest_any HR0.out.ixp _).mono ?_
      rintro e w1 ⟨rfl, hg⟩
      rw [wk_of]
      obtain ⟨b9, hb9⟩ : ∃ q, q = w1.heap.size := ⟨_, rfl⟩
      have HR1 : Hid (SW w [ixA b wkX S, blkA b9 (.cells (enC wkC).toArray 23), blkA (b3 + 1 + 1 + 1) (.cells (enC wkD).toArray 23), blkA (b3 + 1 + 1) (.cells (enC wkC).toArray 23), blkA (b3 + 1) (.cells (enC wkB).toArray 23), blkA b3 (.cells (enC wkA).toArray 23)] (w1.alloc (.cells (enC wkC).toArray 23))) := Lib.hid (by rw [hb9]; exact (HR0.out.gr hg).allocT _)
      obtain ⟨w2, hw2⟩ : ∃ y, y = w1.alloc (.cells (enC wkC).toArray 23) := ⟨_, rfl⟩
      rw [← hw2] at HR1
      simp only [enC, wkC] at hw2
      simp only [newV, enV, wkC]
      clear hg
      go_wp2_with fail
      rw [← hw2, ← hb9]
      clear hw2 hb9
      refine (Of_any _ _ _).mono ?_
      rintro e w3 ⟨bb, bk, rfl, k1, k2, l1, l2, hg⟩
      have HR2 := Lib.hid (HR1.out.gr hg)
      have HT := Lib.hid (take_of HR2.out.ixp _ bb bk k1 k2)
      clear k1 k2 l1 l2 hg
      go_wp2_with fail
      refine Calls.mono HT.out ?_
      rw [wk_of]
      rintro e w4 ⟨v1, rfl, hr, hg⟩
      have HR3 := Lib.hid (HR2.out.row hr hg)
      clear hr hg
      go_wp2_with fail
      refine (Slot_any _ _ _).mono ?_
      rintro e w5 ⟨bb', bk', rfl, k1, k2, l1, l2, hg⟩
      have HR4 := Lib.hid (HR3.out.gr hg)
      have HT2 := Lib.hid (take_slot HR4.out.ixp _ bb' bk' k1 k2)
      clear k1 k2 l1 l2 hg
      go_wp2_with fail
      refine Calls.mono HT2.out ?_
      rw [wk_slot]
      rintro e w6 ⟨v2, rfl, hr, hg⟩
      have HR5 := Lib.hid (HR4.out.row hr hg)
      clear hr hg
      go_wp2_with fail
      refine (Keys_any _ _).mono ?_
      rintro e w7 ⟨bk2, rfl, k1, l1, hg⟩
      have HR6 := Lib.hid (HR5.out.gr hg)
      have HT3 := Lib.hid (take_keys HR6.out.ixp bk2 k1)
      clear k1 l1 hg
      go_wp2_with fail
      refine Calls.mono HT3.out ?_
      rw [wk_ks]
      rintro e w8 ⟨v3, rfl, hr, hg⟩
      have HR7 := Lib.hid (HR6.out.row hr hg)
      clear hr hg
      go_wp2_with fail
      refine (Drop_any HR7.out.ix 0).mono ?_
      rintro e w9 ⟨rfl, hp⟩
      rw [wk_slot, wk_dc]
      obtain ⟨S9, hS9⟩ := HR7.out.post hp
      have HR8 : Hid (SW w (ixA b wkZ S9 :: _) w9) := Lib.hid hS9
      clear hS9 hp HT HT2 HT3 HR7 HR6 HR5 HR4 HR3 HR2 HR1 HR0
      have d9 := (cellsOf (show w9.heap[b9]? = _ from HR8.out.get (i := 4) rfl)).1
      have d6 := (cellsOf (show w9.heap[b3 + 1 + 1 + 1]? = _ from HR8.out.get (i := 5) rfl)).1
      have d5 := (cellsOf (show w9.heap[b3 + 1 + 1]? = _ from HR8.out.get (i := 6) rfl)).1
      have d4 := (cellsOf (show w9.heap[b3 + 1]? = _ from HR8.out.get (i := 7) rfl)).1
      have d3 := (cellsOf (show w9.heap[b3]? = _ from HR8.out.get (i := 8) rfl)).1
      simp only [enC, wkA, wkB, wkC, wkD] at d3 d4 d5 d6 d9
      have ke : ∀ w, (binOp .eql 23 (.agg #[.int .i64 3, .string ⟨#[97]⟩, .bool true, .int .i64 1, .int .i64 0, .int .i64 17]) (.agg #[.int .i64 3, .string ⟨#[97]⟩, .bool true, .int .i64 1, .int .i64 0, .int .i64 17])).run Try.prog w = .ok (.bool true) w := fun w => (eqlE_run wkC wkC w).trans (by simp)
      have o1 : Hid (Own w9 23 6 v1 3 (rowE [wkC, wkA, wkD])) := Lib.hid (HR8.out.get (i := 3) rfl)
      have o2 : Hid (Own w9 23 6 v2 2 (rowE [wkA, wkB])) := Lib.hid (HR8.out.get (i := 2) rfl)
      have o3 : Hid (Own w9 9 1 v3 2 (kS [⟨#[97]⟩, ⟨#[98]⟩])) := Lib.hid (HR8.out.get (i := 1) rfl)
      have HB : Hid (w9.heap[b3]? = some (.cells (enC wkA).toArray 23) ∧ w9.heap[b3 + 1]? = some (.cells (enC wkB).toArray 23)) := Lib.hid ⟨HR8.out.get (i := 8) rfl, HR8.out.get (i := 7) rfl⟩
      have HZ : Hid (SW w [ixA b wkZ S9] w9) := Lib.hid (HR8.out.sub (.cons_cons _ (List.nil_sublist _)))
      clear HR8
      go_wp2_with fail
      refine (EqualE [wkC, wkA, wkD] [wkC, wkA, wkD] v1 _ _ (o1.out.gr ((Gr.refl _).alloc _)) (own_lit w9 _ 6 3 (rowE [wkC, wkA, wkD]) rfl (by decide)) (by decide)).mono ?_
      rintro e w10 ⟨rfl, hg⟩
      rw [decide_eq_true (rfl : [wkC, wkA, wkD] = [wkC, wkA, wkD])]
      have HG1 := Lib.hid (((Gr.refl w9).alloc _).trans hg)
      clear hg d9 d6 d5 d4 d3
      have d3 := (cellsOf (HG1.out.blk HB.out.1)).1
      have d4 := (cellsOf (HG1.out.blk HB.out.2)).1
      simp only [enC, wkA, wkB] at d3 d4
      go_wp2_with fail
      refine (EqualE [wkA, wkB] [wkA, wkB] v2 _ _ (o2.out.gr (HG1.out.alloc _)) (own_lit w10 _ 6 2 (rowE [wkA, wkB]) rfl (by decide)) (by decide)).mono ?_
      rintro e w11 ⟨rfl, hg⟩
      rw [decide_eq_true (rfl : [wkA, wkB] = [wkA, wkB])]
      have HG2 := Lib.hid ((HG1.out.alloc _).trans hg)
      clear hg d3 d4
      go_wp2_with fail
      refine (EqualS [⟨#[97]⟩, ⟨#[98]⟩] [⟨#[97]⟩, ⟨#[98]⟩] v3 _ _ (o3.out.gr (HG2.out.alloc _)) (own_lit w11 _ 1 2 (kS [⟨#[97]⟩, ⟨#[98]⟩]) rfl (by decide)) (by decide)).mono ?_
      rintro e w12 ⟨rfl, hg⟩
      rw [decide_eq_true (rfl : ([⟨#[97]⟩, ⟨#[98]⟩] : List ByteArray) = [⟨#[97]⟩, ⟨#[98]⟩])]
      have HG3 := Lib.hid ((HG2.out.alloc _).trans hg)
      clear hg
      go_wp2_with fail
      refine (Keys_any _ _).mono ?_
      rintro e w13 ⟨bk3, rfl, k1, l1, hg⟩
      have HZ2 := Lib.hid (HZ.out.gr (HG3.out.trans hg))
      have HT := Lib.hid (take_keys HZ2.out.ixp bk3 k1)
      clear k1 l1 hg
      go_wp2_with fail
      refine Calls.mono HT.out ?_
      rw [wk_ks2]
      rintro e w14 ⟨v4, rfl, hr, hg⟩
      have HZ3 := Lib.hid (HZ2.out.gr hg)
      have o4 : Hid (Own w14 9 1 v4 1 (kS [⟨#[97]⟩])) := Lib.hid hr.own
      clear hr hg
      go_wp2_with fail
      refine (EqualS [⟨#[97]⟩] [⟨#[97]⟩] v4 _ _ (o4.out.gr ((Gr.refl _).alloc _)) (own_lit w14 _ 1 1 (kS [⟨#[97]⟩]) rfl (by decide)) (by decide)).mono ?_
      rintro e w15 ⟨rfl, hg⟩
      rw [decide_eq_true (rfl : ([⟨#[97]⟩] : List ByteArray) = [⟨#[97]⟩])]
      have HZ4 := Lib.hid ((HZ3.out.gr ((Gr.refl _).alloc _)).gr hg)
      clear hg
      go_wp2_with fail
      refine (Len_any HZ4.out.ixp).mono ?_
      rintro e w16 ⟨rfl, rfl⟩
      rw [wk_len2]
      go_wp2_with fail
      refine (Last_any HZ4.out.ixp).mono ?_
      rintro e w17 ⟨rfl, hg⟩
      rw [wk_last2]
      have HZ5 := Lib.hid (HZ4.out.gr hg)
      clear hg
      go_wp2
      go_ret
      exact ⟨rfl, HZ5.out.g⟩
end Go.Proofs.Ytiidkehcfoajeaa

/- IndexNil. -/
set_option linter.unusedVariables false
set_option linter.unusedSimpArgs false
namespace Go.Proofs.Ytiidkehcfoajeaa
open Go.RowKit Go.Shelf
attribute [local go_sem] OvM cell_ovm obj_ovm
attribute [local go_sem] Oper.semAt_some

def ixO : IX := ⟨[], []⟩
theorem ixO_of (k : ByteArray) : ixO.of k = [] := rfl
theorem ixO_slot (s : Int) : ixO.slot s = [] := slot_none s
/-- No index, or one that was not made: the two pointers of a row. -/
structure NilP (w0 : World) (g : Nat) : Prop where
  at2 : ∀ j, j < 2 → ∃ (p : Option Addr) (S : Nat → Prop), ∀ wx, Gr w0 wx → wx.cell? ⟨g, j, none⟩ = some (.pointer p) ∧ IXP wx p ixO S
theorem nilP (w : World) (b : Nat) (hb : b = w.heap.size) : NilP ((w.alloc (.cells #[.pointer none, .slice none 0 0] 29)).alloc (.cells #[.pointer none, .pointer (some ⟨b, 0, none⟩)] 25)) (b + 1) := ⟨by
  intro j hj
  have h2 := blkNew (w.alloc (.cells #[.pointer none, .slice none 0 0] 29)) (.cells #[.pointer none, .pointer (some ⟨b, 0, none⟩)] 25)
  rw [World.size_alloc, ← hb] at h2
  have h1 : ((w.alloc (.cells #[.pointer none, .slice none 0 0] 29)).alloc (.cells #[.pointer none, .pointer (some ⟨b, 0, none⟩)] 25)).heap[b]? = some (.cells #[.pointer none, .slice none 0 0] 29) := by
    rw [hb]; exact ((Gr.refl _).alloc _).blk (blkNew w _)
  have hc := cellsOf h2
  rcases (show j = 0 ∨ j = 1 by omega) with rfl | rfl
  · exact ⟨none, fun _ => False, fun wx g => ⟨g.keep (hc.1 0), .inr ⟨.inl rfl, rfl, fun k => ⟨fun h => h.elim, (fun ⟨_, h, _⟩ => by cases h)⟩⟩⟩⟩
  · exact ⟨some ⟨b, 0, none⟩, fun k => k = b, fun wx g => ⟨g.keep (hc.1 1), .inr ⟨.inr ⟨b, rfl, g.blk h1⟩, rfl, fun k => ⟨fun h => ⟨_, rfl, h⟩, (fun ⟨a, h, hk⟩ => by cases h; exact hk)⟩⟩⟩⟩⟩
set_option maxRecDepth 40000 in
set_option maxHeartbeats 8000000 in
theorem IndexNil_any (e : En) (w : World) : Calls Try.prog 10 #[.agg #[.int .i64 e.seq, .string e.key, .bool e.del, .int .i64 e.slot, .int .i64 e.off, .int .i64 e.size]] w fun e w' => e = .returned (.bool true) ∧ Gr w w' := by
  obtain ⟨e1, e2, e3, e4, e5, e6⟩ := e
  simp only
  go_enter Try.func10, Try.ntmps10
  by_cases hk : 100 < e2.size
  · have hk' : (100 : Int) < e2.size := by omega
    go_wp2_with (go_at_call 39; refine (ix_works _).mono ?_; rintro e w1 ⟨rfl, hg⟩; have HG := Lib.hid hg; clear hg)
    go_ret
    exact ⟨rfl, ((Gr.refl w).alloc _).trans HG.out⟩
  · have hk' : ¬ (100 : Int) < e2.size := by omega
    go_wp2_with fail
    obtain ⟨b1, hb1⟩ : ∃ q, q = w.heap.size := ⟨_, rfl⟩
    obtain ⟨w0, hw0⟩ : ∃ y, y = ((w.alloc (.cells #[.int .i64 e1, .string e2, .bool e3, .int .i64 e4, .int .i64 e5, .int .i64 e6] 23)).alloc (.cells #[.pointer none, .slice none 0 0] 29)).alloc (.cells #[.pointer none, .pointer (some ⟨w.heap.size + 1, 0, none⟩)] 25) := ⟨_, rfl⟩
    have HP : Hid (NilP w0 (w.heap.size + 1 + 1)) := Lib.hid (by rw [hw0]; exact nilP _ _ (by rw [World.size_alloc]))
    have H0 : Hid (Gr w w0 ∧ w0.heap[b1]? = some (.cells #[.int .i64 e1, .string e2, .bool e3, .int .i64 e4, .int .i64 e5, .int .i64 e6] 23)) := Lib.hid (by
      rw [hw0, hb1]
      exact ⟨(((Gr.refl w).alloc _).alloc _).alloc _, (((Gr.refl _).alloc _).alloc _).blk (blkNew w _)⟩)
    rw [← hw0]
    rw [← hb1] at HP
    rw [← hb1]
    clear hw0 hb1
    have kn : ∀ w, (binOp .neq 23 (.agg #[.int .i64 0, .string ⟨#[]⟩, .bool false, .int .i64 0, .int .i64 0, .int .i64 0]) (.agg #[.int .i64 0, .string ⟨#[]⟩, .bool false, .int .i64 0, .int .i64 0, .int .i64 0])).run Try.prog w = .ok (.bool false) w := fun w => (neqE_run zE zE w).trans (by simp)
    go_loopw [20] (fun t20 wx => ∃ j : Nat, j ≤ 2 ∧ t20 = .int .i64 j ∧ Hid (Gr w0 wx)) (fun t20 _ => 2 - (intOf t20).toNat)
    case atStart => exact ⟨0, by omega, rfl, Lib.hid (Gr.refl _)⟩
    case round =>
      obtain ⟨j, hj, rfl, HR⟩ := hrel
      by_cases hlt : j < 2
      · have hlt' : (j : Int) < 2 := by omega
        obtain ⟨p, S, hp⟩ := HP.out.at2 j hlt
        have HQ := Lib.hid hp
        have d := (hp _ HR.out).1
        have db := (cellsOf (HR.out.blk H0.out.2)).1
        clear hp
        go_wp2_with fail
        refine (Newest_any (HQ.out _ HR.out).2 _).mono ?_
        rintro e w1 ⟨rfl, hg⟩
        rw [ixO_of]
        simp only [newV, enV, zE]
        have HG1 := Lib.hid (HR.out.trans hg)
        obtain ⟨b6, hb6⟩ : ∃ q, q = w1.heap.size := ⟨_, rfl⟩
        have HB6 : Hid ((w1.alloc (.cells #[.int .i64 0, .string ⟨#[]⟩, .bool false, .int .i64 0, .int .i64 0, .int .i64 0] 23)).heap[b6]? = some (.cells #[.int .i64 0, .string ⟨#[]⟩, .bool false, .int .i64 0, .int .i64 0, .int .i64 0] 23)) := Lib.hid (by rw [hb6]; exact blkNew w1 _)
        have db := (cellsOf (HG1.out.blk H0.out.2)).1
        have lb := blkLt (HG1.out.blk H0.out.2)
        clear hg d
        go_wp2_with fail
        rw [← hb6]
        clear hb6 db lb
        refine (DropN (ixp_none (HQ.out _ (HG1.out.alloc _)).2 rfl) _).mono ?_
        rintro e w2 ⟨rfl, hg⟩
        have HG2 := Lib.hid ((HG1.out.alloc _).trans hg)
        have HB2 := Lib.hid (hg.blk HB6.out)
        have db := (cellsOf (HG2.out.blk H0.out.2)).1
        clear hg
        go_wp2_with fail
        refine (AddN (ixp_none (HQ.out _ HG2.out).2 rfl) ⟨e1, e2, e3, e4, e5, e6⟩).mono ?_
        rintro e w3 ⟨rfl, hg⟩
        have HG3 := Lib.hid (HG2.out.trans hg)
        have d6 := (cellsOf (hg.blk HB2.out)).1
        clear hg db
        have db := (cellsOf (HG3.out.blk H0.out.2)).1
        go_wp2_with fail
        refine (Of_any _ _ _).mono ?_
        rintro e w4 ⟨bb, bk, rfl, k1, k2, l1, l2, hg⟩
        have HG4 := Lib.hid (HG3.out.trans hg)
        have HT := Lib.hid (take_of (HQ.out _ HG4.out).2 _ bb bk k1 k2)
        clear k1 k2 l1 l2 hg db d6
        go_wp2_with fail
        refine Calls.mono HT.out ?_
        rw [ixO_of]
        rintro e w5 ⟨v1, rfl, hr, hg⟩
        obtain ⟨a1, c1, rfl, _⟩ := ownE_at (l := []) hr.own
        have HG5 := Lib.hid (HG4.out.trans hg)
        have db := (cellsOf (HG5.out.blk H0.out.2)).1
        clear hr hg HT
        go_wp2_with fail
        refine (Slot_any _ _ _).mono ?_
        rintro e w6 ⟨bb2, bk2, rfl, k1, k2, l1, l2, hg⟩
        have HG6 := Lib.hid (HG5.out.trans hg)
        have HT := Lib.hid (take_slot (HQ.out _ HG6.out).2 _ bb2 bk2 k1 k2)
        clear k1 k2 l1 l2 hg db
        go_wp2_with fail
        refine Calls.mono HT.out ?_
        rw [ixO_slot]
        rintro e w7 ⟨v2, rfl, hr, hg⟩
        obtain ⟨a2, c2, rfl, _⟩ := ownE_at (l := []) hr.own
        have HG7 := Lib.hid (HG6.out.trans hg)
        clear hr hg HT
        go_wp2_with fail
        refine (Keys_any _ _).mono ?_
        rintro e w8 ⟨bb3, rfl, k1, l1, hg⟩
        have HG8 := Lib.hid (HG7.out.trans hg)
        have HT := Lib.hid (take_keys (HQ.out _ HG8.out).2 bb3 k1)
        clear k1 l1 hg
        go_wp2_with fail
        refine Calls.mono HT.out ?_
        rw [show ixO.ks = [] from rfl]
        rintro e w9 ⟨v3, rfl, hr, hg⟩
        obtain ⟨a3, c3, rfl, _⟩ := ownS_at (l := []) hr.own
        have HG9 := Lib.hid (HG8.out.trans hg)
        clear hr hg HT
        go_wp2_with fail
        refine (Len_any (HQ.out _ HG9.out).2).mono ?_
        rintro e w10 ⟨rfl, rfl⟩
        rw [show ((ixO.ents.length : Nat) : Int) = 0 from rfl]
        go_wp2_with fail
        refine (Last_any (HQ.out _ HG9.out).2).mono ?_
        rintro e w11 ⟨rfl, hg⟩
        rw [show ixO.last = 0 from rfl]
        have HG11 := Lib.hid (HG9.out.trans hg)
        clear hg
        go_wp2_with fail
        refine (Slots_any (HQ.out _ HG11.out).2).mono ?_
        rintro e w12 ⟨rfl, rfl⟩
        rw [show ((ixO.slots.length : Nat) : Int) = 0 from rfl]
        go_wp2_with fail
        refine (CopyN (ixp_none (HQ.out _ HG11.out).2 rfl)).mono ?_
        rintro e w13 ⟨rfl, hg⟩
        have HG13 := Lib.hid (HG11.out.trans hg)
        clear hg
        go_wp2
        go_roundw
        case rel => exact ⟨j + 1, by omega, by go_num, HG13⟩
        case measure => simp [intOf]; omega
      · have hlt' : ¬ (j : Int) < 2 := by omega
        go_wp2_with (go_at_call 39; refine (ix_works _).mono ?_; rintro e w1 ⟨rfl, hg⟩; have HG := Lib.hid hg; clear hg)
        go_ret
        exact ⟨rfl, (H0.out.1.trans HR.out).trans HG.out⟩
end Go.Proofs.Ytiidkehcfoajeaa

/- A struct of five one-cell fields by value: the howto's block (extra-structs, 2), copied as it directs. -/
set_option linter.unusedVariables false
set_option linter.unusedSimpArgs false
namespace Go.Proofs.Ytiidkehcfoajeaa
open Go.Joins Go.ChangeShapes Go.WideShapes Go.RowKit Go.Deep
section
variable {H : Type} {enc : TypeId × Value → H} {P : Program} {w : World} {base : Nat} {spare : Nat → Bool} {held : Bool}
theorem open_agg5 {r : Reach} {b0 : Nat} {t : TypeId} {f0 f1 f2 f3 f4 : Field} {v : Value} {d : DataW H} {p : List MemPlace} (hs : P.underlying t = some (.struct #[f0, f1, f2, f3, f4])) (hone : oneCellFields P #[f0, f1, f2, f3, f4] = true) (hC : P.cellsOf t = 5)
    (hv : Value.okWide P w r b0 t v) (h : DataW.Trod enc P w base spare held t v d p) :
    ∃ (v0 v1 v2 v3 v4 : Value) (y0 y1 y2 y3 y4 : DataW H × List MemPlace) (n : Nat), v = .agg #[v0, v1, v2, v3, v4] ∧ d = .agg [y0.1, y1.1, y2.1, y3.1, y4.1] ∧ p = y0.2 ++ (y1.2 ++ (y2.2 ++ (y3.2 ++ y4.2))) ∧
      DataW.trod enc P w base spare held n f0.type [v0] = some y0 ∧ DataW.trod enc P w base spare held n f1.type [v1] = some y1 ∧ DataW.trod enc P w base spare held n f2.type [v2] = some y2 ∧ DataW.trod enc P w base spare held n f3.type [v3] = some y3 ∧ DataW.trod enc P w base spare held n f4.type [v4] = some y4 := by
  obtain ⟨cs, rfl, hsz⟩ := okWide_struct hs hv
  obtain ⟨l⟩ := cs
  match l, hsz.trans hC with
  | [c0, c1, c2, c3, c4], _ =>
    obtain ⟨fuel, hf⟩ := h
    obtain ⟨xs, n, _, hx, _, hlen, hg⟩ := DataW.trod_struct hs hf
    obtain ⟨o0, k0⟩ := hone_of hone 0 f0 rfl
    obtain ⟨o1, k1⟩ := hone_of hone 1 f1 rfl
    obtain ⟨o2, k2⟩ := hone_of hone 2 f2 rfl
    obtain ⟨o3, k3⟩ := hone_of hone 3 f3 rfl
    obtain ⟨o4, k4⟩ := hone_of hone 4 f4 rfl
    match xs, hlen with
    | [y0, y1, y2, y3, y4], _ =>
      simp only [Prod.mk.injEq] at hx
      exact ⟨c0, c1, c2, c3, c4, y0, y1, y2, y3, y4, n, rfl, by simpa using hx.1, by simpa using hx.2, by simpa [Value.cells, o0, k0] using hg 0 f0 rfl, by simpa [Value.cells, o1, k1] using hg 1 f1 rfl, by simpa [Value.cells, o2, k2] using hg 2 f2 rfl, by simpa [Value.cells, o3, k3] using hg 3 f3 rfl, by simpa [Value.cells, o4, k4] using hg 4 f4 rfl⟩
theorem open_agg6 {r : Reach} {b0 : Nat} {t : TypeId} {f0 f1 f2 f3 f4 f5 : Field} {v : Value} {d : DataW H} {p : List MemPlace} (hs : P.underlying t = some (.struct #[f0, f1, f2, f3, f4, f5])) (hone : oneCellFields P #[f0, f1, f2, f3, f4, f5] = true) (hC : P.cellsOf t = 6)
    (hv : Value.okWide P w r b0 t v) (h : DataW.Trod enc P w base spare held t v d p) :
    ∃ (v0 v1 v2 v3 v4 v5 : Value) (y0 y1 y2 y3 y4 y5 : DataW H × List MemPlace) (n : Nat), v = .agg #[v0, v1, v2, v3, v4, v5] ∧ d = .agg [y0.1, y1.1, y2.1, y3.1, y4.1, y5.1] ∧ p = y0.2 ++ (y1.2 ++ (y2.2 ++ (y3.2 ++ (y4.2 ++ y5.2)))) ∧
      DataW.trod enc P w base spare held n f0.type [v0] = some y0 ∧ DataW.trod enc P w base spare held n f1.type [v1] = some y1 ∧ DataW.trod enc P w base spare held n f2.type [v2] = some y2 ∧ DataW.trod enc P w base spare held n f3.type [v3] = some y3 ∧ DataW.trod enc P w base spare held n f4.type [v4] = some y4 ∧ DataW.trod enc P w base spare held n f5.type [v5] = some y5 := by
  obtain ⟨cs, rfl, hsz⟩ := okWide_struct hs hv
  obtain ⟨l⟩ := cs
  match l, hsz.trans hC with
  | [c0, c1, c2, c3, c4, c5], _ =>
    obtain ⟨fuel, hf⟩ := h
    obtain ⟨xs, n, _, hx, _, hlen, hg⟩ := DataW.trod_struct hs hf
    obtain ⟨o0, k0⟩ := hone_of hone 0 f0 rfl
    obtain ⟨o1, k1⟩ := hone_of hone 1 f1 rfl
    obtain ⟨o2, k2⟩ := hone_of hone 2 f2 rfl
    obtain ⟨o3, k3⟩ := hone_of hone 3 f3 rfl
    obtain ⟨o4, k4⟩ := hone_of hone 4 f4 rfl
    obtain ⟨o5, k5⟩ := hone_of hone 5 f5 rfl
    match xs, hlen with
    | [y0, y1, y2, y3, y4, y5], _ =>
      simp only [Prod.mk.injEq] at hx
      exact ⟨c0, c1, c2, c3, c4, c5, y0, y1, y2, y3, y4, y5, n, rfl, by simpa using hx.1, by simpa using hx.2, by simpa [Value.cells, o0, k0] using hg 0 f0 rfl, by simpa [Value.cells, o1, k1] using hg 1 f1 rfl, by simpa [Value.cells, o2, k2] using hg 2 f2 rfl, by simpa [Value.cells, o3, k3] using hg 3 f3 rfl, by simpa [Value.cells, o4, k4] using hg 4 f4 rfl, by simpa [Value.cells, o5, k5] using hg 5 f5 rfl⟩
end
end Go.Proofs.Ytiidkehcfoajeaa
