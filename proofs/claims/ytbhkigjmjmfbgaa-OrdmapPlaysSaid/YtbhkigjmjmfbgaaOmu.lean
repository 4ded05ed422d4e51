/- 'shows': a map and the reference's map of the same pairs return the same. -/
import Derived.Test.YtbhkigjmjmfbgaaOmp
set_option linter.unusedVariables false
set_option linter.unusedSimpArgs false
namespace Go.Proofs.Ytbhkigjmjmfbgaa
open Go.RowKit Go.Shelf
attribute [local go_sem] OvM cell_ovm obj_ovm
attribute [local go_sem] Oper.semAt_some

set_option maxRecDepth 40000 in
set_option maxHeartbeats 1000000 in
theorem EqualS (l1 l2 : List ByteArray) (v1 v2 : Value) (w : World) (h1 : Own w 9 1 v1 l1.length (l1.map sv)) (h2 : Own w 9 1 v2 l2.length (l2.map sv)) (hn : l1.length ≤ 1000000) :
    Calls Try.prog 101 #[v1, v2] w fun e w' => e = .returned (.bool (decide (l1 = l2))) ∧ Gr w w' := by
  obtain ⟨a1, cap1, rfl, hc1, hm1, hat1⟩ := own_cells (by rw [List.length_map]; exact h1)
  obtain ⟨a2, cap2, rfl, hc2, hm2, hat2⟩ := own_cells (by rw [List.length_map]; exact h2)
  simp only [List.length_map] at *
  have HA1 := Lib.hid hat1
  have HA2 := Lib.hid hat2
  clear h1 h2 hat1 hat2
  unfold maxLen at hm1 hm2
  by_cases hl : l1.length = l2.length
  · go_enter Try.func101, Try.ntmps101
    rw [← hl]
    rw [← hl] at hc2
    have HL := Lib.hid hl
    clear hl
    go_wp2_with fail
    go_loopw [13] (fun i wx => ∃ k : Nat, k ≤ l1.length ∧ i = .int .i64 k ∧ Gr w wx ∧ Hid (l1.take k = l2.take k)) (fun i _ => l1.length - (intOf i).toNat)
    case atStart => exact ⟨0, by omega, rfl, by (repeat (first | (with_reducible exact Gr.refl _) | assumption | (with_reducible apply Gr.from_drew) | (with_reducible apply Gr.alloc) | (with_reducible apply Gr.drew) | (with_reducible refine Gr.trans ?_ (by assumption)) | (with_reducible refine Gr.setCell ?_ (by omega) _))), Lib.hid (by simp)⟩
    case round =>
      obtain ⟨k, hk, rfl, hg, HT⟩ := hrel
      by_cases hlt : k < l1.length
      · have hlt' : (k : Int) < l1.length := by omega
        have hx : l1[k]? = some (l1[k]'hlt) := List.getElem?_eq_getElem hlt
        have hy : l2[k]? = some (l2[k]'(by rw [← HL.out]; exact hlt)) := List.getElem?_eq_getElem _
        obtain ⟨g, rfl, c0⟩ := HA1.out k _ (by rw [List.getElem?_map, hx]; rfl)
        obtain ⟨g', rfl, c1⟩ := HA2.out k _ (by rw [List.getElem?_map, hy]; rfl)
        have d0 := hg.keep c0
        have d1 := hg.keep c1
        have HX := Lib.hid hx
        have HY := Lib.hid hy
        generalize l1[k]'hlt = x at *
        generalize l2[k]'(by rw [← HL.out]; exact hlt) = y at *
        clear c0 c1 hx hy
        by_cases hxy : x = y
        · subst hxy
          go_wp2
          refine wp_region_flo (fun _ => False) [] [] (by kernel_rfl) (by kernel_rfl) (fun _ h => h.elim) ?_
          refine flo_seg 9 rfl ?_
          simp only [List.take_succ_cons, List.take_zero, List.drop_succ_cons, List.drop_zero]
          repeat (go_big_quiet_step (fail))
          refine wpQuiet_nil ?_
          refine flo_nil ?_
          go_wp2
          go_roundw
          case rel => exact ⟨k + 1, by omega, by go_num, by (repeat (first | (with_reducible exact Gr.refl _) | assumption | (with_reducible apply Gr.from_drew) | (with_reducible apply Gr.alloc) | (with_reducible apply Gr.drew) | (with_reducible refine Gr.trans ?_ (by assumption)) | (with_reducible refine Gr.setCell ?_ (by omega) _))), Lib.hid (by rw [List.take_add_one, List.take_add_one, HT.out, HX.out, HY.out])⟩
          case measure => simp [intOf]; omega
        · have hb : (x.toList == y.toList) = false := by rw [str_beq]; exact decide_eq_false hxy
          have HNE : Hid (decide (l1 = l2) = false) := Lib.hid (by
            apply decide_eq_false
            rintro rfl
            rw [HX.out] at HY
            exact hxy (Option.some.inj HY.out))
          go_wp2
          refine wp_region_flo (fun _ => False) [] [] (by kernel_rfl) (by kernel_rfl) (fun _ h => h.elim) ?_
          refine flo_seg 9 rfl ?_
          simp only [List.take_succ_cons, List.take_zero, List.drop_succ_cons, List.drop_zero]
          repeat (go_big_quiet_step (fail))
          refine wpQuiet_nil ?_
          refine flo_nil ?_
          go_wp2
          go_ret
          exact ⟨by rw [HNE.out]; rfl, by (repeat (first | (with_reducible exact Gr.refl _) | assumption | (with_reducible apply Gr.from_drew) | (with_reducible apply Gr.alloc) | (with_reducible apply Gr.drew) | (with_reducible refine Gr.trans ?_ (by assumption)) | (with_reducible refine Gr.setCell ?_ (by omega) _)))⟩
      · have hlt' : ¬ (k : Int) < l1.length := by omega
        have HEQ : Hid (decide (l1 = l2) = true) := Lib.hid (by
          apply decide_eq_true
          have := HT.out
          rwa [List.take_of_length_le (by omega), List.take_of_length_le (by have := HL.out; omega)] at this)
        go_wp2
        go_ret
        exact ⟨by rw [HEQ.out]; rfl, hg⟩
  · have HNE : Hid (decide (l1 = l2) = false) := Lib.hid (decide_eq_false (fun e => hl (by rw [e])))
    have hb : ((l1.length : Int) == l2.length) = false := beq_false_of_ne (by omega)
    rw [HNE.out]
    go_enter Try.func101, Try.ntmps101
    go_wp2
    go_ret
    exact ⟨rfl, Gr.refl w⟩


theorem EqK (L : List Itss) (v1 v2 : Value) (w : World) (h1 : Own w 9 1 v1 L.length (ksL L)) (h2 : Own w 9 1 v2 L.length (ksL L)) (hn : L.length ≤ 1000000) :
    Calls Try.prog 101 #[v1, v2] w fun e w' => e = .returned (.bool true) ∧ Gr w w' := by
  have e : ksL L = (L.map Prod.fst).map sv := by simp [ksL, sv]
  have hl : (L.map Prod.fst).length = L.length := by simp
  rw [e, ← hl] at h1 h2
  have := EqualS (L.map Prod.fst) (L.map Prod.fst) v1 v2 w h1 h2 (by omega)
  rwa [decide_eq_true rfl] at this
theorem EqV (L : List Itss) (v1 v2 : Value) (w : World) (h1 : Own w 9 1 v1 L.length (vsL L)) (h2 : Own w 9 1 v2 L.length (vsL L)) (hn : L.length ≤ 1000000) :
    Calls Try.prog 101 #[v1, v2] w fun e w' => e = .returned (.bool true) ∧ Gr w w' := by
  have e : vsL L = (L.map Prod.snd).map sv := by simp [vsL, sv]
  have hl : (L.map Prod.snd).length = L.length := by simp
  rw [e, ← hl] at h1 h2
  have := EqualS (L.map Prod.snd) (L.map Prod.snd) v1 v2 w h1 h2 (by omega)
  rwa [decide_eq_true rfl] at this
theorem ltS_empty (a : ByteArray) : ltS a ⟨#[]⟩ = false := by
  unfold ltS
  cases h : a.toList <;> simp [Op.bytesLess]
theorem rk_empty (L : List Itss) : rk ltS L ⟨#[]⟩ = 0 := by
  cases L with
  | nil => rfl
  | cons x L => simp [rk, ltS_empty]
theorem atV_strs (o : Option Itss) : ∃ (a b : ByteArray) (c : Bool), atVss o = .tuple #[.string a, .string b, .bool c] := by
  cases o with
  | none => exact ⟨_, _, _, rfl⟩
  | some x => exact ⟨_, _, _, rfl⟩
theorem rAtV_strs (m : Bool) (o : Option Itss) : ∃ (a b : ByteArray) (c : Int), rAtV m o = .tuple #[.string a, .string b, .int .i64 c] := by
  cases o with
  | none => exact ⟨_, _, _, rfl⟩
  | some x => exact ⟨_, _, _, rfl⟩
theorem lookV_str (L : List Itss) (k : ByteArray) : ∃ s : ByteArray, lookVss L k = .string s := by
  unfold lookVss
  split
  · exact ⟨_, rfl⟩
  · exact ⟨_, rfl⟩
/-- A map and the reference's map of the same pairs: both made, or neither. -/
def BV (w : World) (p : Option Addr) (v : Value) (p' : Option Addr) (L : List Itss) : Prop :=
  (∃ b b' kv vv, p = some ⟨b, 0, none⟩ ∧ OMss w b v L ∧ p' = some ⟨b', 0, none⟩ ∧ RM w b' kv vv L) ∨ ((p = none ∨ ∃ b, p = some ⟨b, 0, none⟩ ∧ w.heap[b]? = some (.cells #[.bool false, .slice none 0 0] 78 (0, 0))) ∧ v = .slice none 0 0 ∧ L = [] ∧ p' = none)
theorem BV.gr {w w' : World} {p p' : Option Addr} {v : Value} {L : List Itss} (h : BV w p v p' L) (g : Gr w w') : BV w' p v p' L := by
  rcases h with ⟨b, b', kv, vv, h1, h2, h3, h4⟩ | ⟨h1, h2⟩
  · exact .inl ⟨b, b', kv, vv, h1, h2.gr g, h3, h4.gr g⟩
  · exact .inr ⟨h1.imp id (fun ⟨b, e, h⟩ => ⟨b, e, g.blk h⟩), h2⟩
theorem BV.vw {w : World} {p p' : Option Addr} {v : Value} {L : List Itss} (h : BV w p v p' L) : VWss w p v L := by
  rcases h with ⟨b, b', kv, vv, h1, h2, h3, h4⟩ | ⟨h1, h2, h3, h4⟩
  · exact .inl ⟨b, h1, h2⟩
  · exact .inr ⟨h1, h2, h3⟩
theorem BV.rv {w : World} {p p' : Option Addr} {v : Value} {L : List Itss} (h : BV w p v p' L) : RV w p' L := by
  rcases h with ⟨b, b', kv, vv, h1, h2, h3, h4⟩ | ⟨h1, h2, h3, h4⟩
  · exact .inl ⟨b', kv, vv, h3, h4⟩
  · exact .inr ⟨h4, h3⟩
theorem atE_rAt (p : Option Addr) (o : Option Itss) (m : Bool) : atEss p m o = rAtV m o := by cases o <;> rfl
set_option maxRecDepth 40000 in
theorem AtB (p : Option Addr) (v : Value) (p' : Option Addr) (L : List Itss) (i : Int) (w : World) (h : BV w p v p' L) :
    Calls Try.prog 38 #[.pointer p, .int .i64 i] w fun e w' => e = .returned (rAtV p'.isSome (atO _ L i)) ∧ Gr w w' := by
  have H := Lib.hid h
  rcases h with ⟨b, b', kv, vv, rfl, h2, rfl, h4⟩ | ⟨h1, rfl, rfl, rfl⟩
  · refine (Atss b v L i w h2).mono ?_
    rintro e w' ⟨rfl, hg⟩
    exact ⟨by rw [atE_rAt]; rfl, hg⟩
  · have HO := Lib.hid (show atO Itss [] i = none by unfold atO; split <;> simp)
    rw [HO.out]
    rcases h1 with rfl | ⟨b, rfl, hb⟩
    · go_enter Try.func38, Try.ntmps38
      go_wp2_with fail
      refine (atss _ _ [] i _ H.out.vw).mono ?_
      rintro e w1 ⟨rfl, hg⟩
      rw [HO.out]
      simp only [atVss]
      go_wp2
      go_ret3
      exact ⟨rfl, hg⟩
    · have c0 := ((cellsOf hb).1 0).trans (show _ = some (Value.bool false) from rfl)
      clear hb
      go_enter Try.func38, Try.ntmps38
      go_wp2_with fail
      refine (atss _ _ [] i _ H.out.vw).mono ?_
      rintro e w1 ⟨rfl, hg⟩
      rw [HO.out]
      have d0 := hg.keep c0
      simp only [atVss]
      go_wp2
      go_ret3
      exact ⟨rfl, hg⟩

set_option maxRecDepth 40000 in
set_option maxHeartbeats 8000000 in
theorem shows_any (p : Option Addr) (v : Value) (p' : Option Addr) (L : List Itss) (key : ByteArray) (i : Int) (w : World) (h : BV w p v p' L) (hn : L.length ≤ 1000) :
    Calls Try.prog 36 #[.pointer p, .pointer p', .string key, .int .i64 i] w fun e w' => e = .returned (.bool true) ∧ Gr w w' := by
  have HB := Lib.hid h
  have HV := Lib.hid h.vw
  have HR := Lib.hid h.rv
  have HN : Hid (L.length ≤ 1000000) := Lib.hid (by omega)
  obtain ⟨a1, b1, c1, f1⟩ := atV_strs (atO _ L ((up ltS L key : Nat) - 1))
  obtain ⟨a2, b2, c2, f2⟩ := atV_strs (L[rk ltS L key]?)
  obtain ⟨a3, b3, c3, f3⟩ := atV_strs (atO _ L 0)
  obtain ⟨a4, b4, c4, f4⟩ := atV_strs (atO _ L ((L.length : Int) - 1))
  obtain ⟨a5, b5, c5, f5⟩ := rAtV_strs p'.isSome (atO _ L i)
  obtain ⟨s6, f6⟩ := lookV_str L key
  have F1 := Lib.hid f1
  have F2 := Lib.hid f2
  have F3 := Lib.hid f3
  have F4 := Lib.hid f4
  have F5 := Lib.hid f5
  have F6 := Lib.hid f6
  clear h f1 f2 f3 f4 f5 f6
  have HG := Gr.refl w
  go_enter Try.func36, Try.ntmps36
  go_upto_if 193 with (first
    | (go_at_call 88; refine (Floorss p v L key _ (HV.out.gr HG) HN.out).mono ?_; rintro e w1 ⟨rfl, hg1⟩; rw [F1.out]; replace HG := HG.trans hg1; clear hg1)
    | (go_at_call 89; refine (rFloor p' L key _ (HR.out.gr HG) HN.out).mono ?_; rintro e w1 ⟨rfl, hg1⟩; rw [F1.out]; replace HG := HG.trans hg1; clear hg1)
    | (go_at_call 90; refine (Ceilss p v L key _ (HV.out.gr HG) HN.out).mono ?_; rintro e w1 ⟨rfl, hg1⟩; rw [F2.out]; replace HG := HG.trans hg1; clear hg1)
    | (go_at_call 91; refine (rCeil p' L key _ (HR.out.gr HG)).mono ?_; rintro e w1 ⟨rfl, hg1⟩; rw [F2.out]; replace HG := HG.trans hg1; clear hg1)
    | (go_at_call 92; refine (Minss p v L _ (HV.out.gr HG) HN.out).mono ?_; rintro e w1 ⟨rfl, hg1⟩; rw [F3.out]; replace HG := HG.trans hg1; clear hg1)
    | (go_at_call 93; refine (rMin p' L _ (HR.out.gr HG) HN.out).mono ?_; rintro e w1 ⟨rfl, hg1⟩; rw [F3.out]; replace HG := HG.trans hg1; clear hg1)
    | (go_at_call 94; refine (Maxss p v L _ (HV.out.gr HG) HN.out).mono ?_; rintro e w1 ⟨rfl, hg1⟩; rw [F4.out]; replace HG := HG.trans hg1; clear hg1)
    | (go_at_call 95; refine (rMax p' L _ (HR.out.gr HG) HN.out).mono ?_; rintro e w1 ⟨rfl, hg1⟩; rw [F4.out]; replace HG := HG.trans hg1; clear hg1)
    | (go_at_call 38; refine (AtB p v p' L i _ (HB.out.gr HG)).mono ?_; rintro e w1 ⟨rfl, hg1⟩; rw [F5.out]; replace HG := HG.trans hg1; clear hg1)
    | (go_at_call 96; refine (rAt p' L i _ (HR.out.gr HG)).mono ?_; rintro e w1 ⟨rfl, hg1⟩; rw [F5.out]; replace HG := HG.trans hg1; clear hg1)
    | (go_at_call 83; refine (Getss p v L key _ (HV.out.gr HG) HN.out).mono ?_; rintro e w1 ⟨rfl, hg1⟩; rw [F6.out]; replace HG := HG.trans hg1; clear hg1)
    | (go_at_call 86; refine (rGet p' L key _ (HR.out.gr HG)).mono ?_; rintro e w1 ⟨rfl, hg1⟩; rw [F6.out]; replace HG := HG.trans hg1; clear hg1)
    | (go_at_call 97; refine (Lenss p v L _ (HV.out.gr HG)).mono ?_; rintro e w1 ⟨rfl, rfl⟩)
    | (go_at_call 98; refine (rLen p' L _ (HR.out.gr HG)).mono ?_; rintro e w1 ⟨rfl, rfl⟩)
    | (go_at_call 84; refine (Rankss p v L key _ (HV.out.gr HG) HN.out).mono ?_; rintro e w1 ⟨rfl, hg1⟩; replace HG := HG.trans hg1; clear hg1)
    | (go_at_call 37; refine (rRank p' L key _ (HR.out.gr HG)).mono ?_; rintro e w1 ⟨rfl, rfl⟩)
    | fail)
  have HP := Lib.hid HG
  obtain ⟨w3, rfl⟩ : ∃ x, x = w1 := ⟨_, rfl⟩
  clear HG
  go_wp2_with (first | (go_at_call 98; refine (rLen p' L _ (HR.out.gr HG)).mono ?_; rintro e w1 ⟨rfl, rfl⟩) | fail)
  refine (AllOss p _).mono ?_
  rintro e w4 ⟨bb, rfl, hbb, hlt, hg⟩
  have HG := HP.out.trans hg
  clear HP
  have HSEQ : Hid (SeqZ Fence.wide 2 Try.prog 137 #[.pointer (some ⟨bb, 0, none⟩)] encOss (fun k => k = bb ∨ OMB p v k) (fun xs => xs = L) (fun pre => pre <+: L) w4) := Lib.hid (SeqAss p v L HN.out bb w4 (HV.out.gr HG) hbb)
  have HLT : Hid (∀ k, (k = bb ∨ OMB p v k) → k < w4.heap.size) := Lib.hid (by
    rintro k (rfl | h)
    · exact World.block_lt_of_cell? w4 ⟨k, 0, none⟩ hbb
    · exact (HV.out.gr HG).lt k h)
  clear hbb hlt hg
  go_wp2_with (first | (go_at_call 98; refine (rLen p' L _ (HR.out.gr HG)).mono ?_; rintro e w1 ⟨rfl, rfl⟩) | fail)
  refine (pairs_any _ _ _ L (L.length + 1) (by omega) HN.out _ (enters_of Try.func137 (by kernel_rfl) rfl) HSEQ.out HLT.out).mono ?_
  rintro e w5 ⟨v1, v2, rfl, ho1, ho2, hg⟩
  replace HG := HG.trans hg
  have HO1 := Lib.hid ho1
  have HO2 := Lib.hid ho2
  clear ho1 ho2 hg HSEQ HLT
  go_wp2_with fail
  refine (rFrom p' L ⟨#[]⟩ _ (HR.out.gr HG) (by omega)).mono ?_
  rintro e w6 ⟨v3, v4, rfl, ho3, ho4, hg⟩
  rw [rk_empty, List.drop_zero, Nat.sub_zero] at ho3 ho4
  replace HG := HG.trans hg
  have HO3 := Lib.hid ho3
  have HO4 := Lib.hid ho4
  replace HO1 := Lib.hid (HO1.out.gr hg)
  replace HO2 := Lib.hid (HO2.out.gr hg)
  clear ho3 ho4 hg
  go_wp2_with fail
  have HP := Lib.hid HG
  clear HG
  refine (EqK L _ _ _ HO1.out HO3.out (by omega)).mono ?_
  rintro e w7 ⟨rfl, hg7⟩
  replace HP := Lib.hid (HP.out.trans hg7)
  replace HO2 := Lib.hid (HO2.out.gr hg7)
  replace HO4 := Lib.hid (HO4.out.gr hg7)
  clear hg7 HO1 HO3
  go_wp2_with fail
  refine (EqV L _ _ _ HO2.out HO4.out (by omega)).mono ?_
  rintro e w8 ⟨rfl, hg8⟩
  have HG := HP.out.trans hg8
  clear HP hg8 HO2 HO4
  go_wp2_with (first | (go_at_call 98; refine (rLen p' L _ (HR.out.gr HG)).mono ?_; rintro e w1 ⟨rfl, rfl⟩) | fail)
  refine (FromOss p key _).mono ?_
  rintro e w4 ⟨bb, bk, rfl, hbb, hbk, hlt, hlk, hg⟩
  replace HG := HG.trans hg
  obtain ⟨T, hT⟩ : ∃ T, T = L.drop (rk ltS L key) := ⟨_, rfl⟩
  have HTL : Hid (T.length ≤ L.length ∧ T.length = L.length - rk ltS L key) := Lib.hid (by rw [hT, List.length_drop]; omega)
  have HT := Lib.hid hT
  have HSEQ : Hid (SeqZ Fence.wide 2 Try.prog 142 #[.pointer (some ⟨bb, 0, none⟩), .pointer (some ⟨bk, 0, none⟩)] encOss (fun k => k = bb ∨ k = bk ∨ OMB p v k) (fun xs => xs = T) (fun pre => pre <+: T) w4) := Lib.hid (by rw [hT]; exact SeqFss p v L key HN.out bb bk w4 (HV.out.gr HG) hbb hbk)
  have HLT : Hid (∀ k, (k = bb ∨ k = bk ∨ OMB p v k) → k < w4.heap.size) := Lib.hid (by
    rintro k (rfl | rfl | h)
    · exact World.block_lt_of_cell? w4 ⟨k, 0, none⟩ hbb
    · exact World.block_lt_of_cell? w4 ⟨k, 0, none⟩ hbk
    · exact (HV.out.gr HG).lt k h)
  clear hbb hbk hlt hlk hg hT
  go_wp2_with (first | (go_at_call 98; refine (rLen p' L _ (HR.out.gr HG)).mono ?_; rintro e w1 ⟨rfl, rfl⟩) | fail)
  refine (pairs_any _ _ _ T (L.length + 1) (by have := HTL.out; omega) (by have := HTL.out; omega) _ (enters_of Try.func142 (by kernel_rfl) rfl) HSEQ.out HLT.out).mono ?_
  rintro e w5 ⟨v1, v2, rfl, ho1, ho2, hg⟩
  replace HG := HG.trans hg
  have HO1 := Lib.hid ho1
  have HO2 := Lib.hid ho2
  clear ho1 ho2 hg HSEQ HLT
  go_wp2_with fail
  refine (rFrom p' L key _ (HR.out.gr HG) (by omega)).mono ?_
  rintro e w6 ⟨v3, v4, rfl, ho3, ho4, hg⟩
  rw [← HT.out, ← HTL.out.2] at ho3 ho4
  have HP := Lib.hid (HG.trans hg)
  have HO3 := Lib.hid ho3
  have HO4 := Lib.hid ho4
  replace HO1 := Lib.hid (HO1.out.gr hg)
  replace HO2 := Lib.hid (HO2.out.gr hg)
  clear ho3 ho4 hg HG
  go_wp2_with fail
  refine (EqK T _ _ _ HO1.out HO3.out (by have := HTL.out; omega)).mono ?_
  rintro e w7 ⟨rfl, hg7⟩
  replace HP := Lib.hid (HP.out.trans hg7)
  replace HO2 := Lib.hid (HO2.out.gr hg7)
  replace HO4 := Lib.hid (HO4.out.gr hg7)
  clear hg7 HO1 HO3
  go_wp2_with fail
  refine (EqV T _ _ _ HO2.out HO4.out (by have := HTL.out; omega)).mono ?_
  rintro e w8 ⟨rfl, hg8⟩
  have HG := HP.out.trans hg8
  clear HP hg8 HO2 HO4
  go_wp2_with fail
  go_ret
  exact ⟨rfl, HG⟩
end Go.Proofs.Ytbhkigjmjmfbgaa
