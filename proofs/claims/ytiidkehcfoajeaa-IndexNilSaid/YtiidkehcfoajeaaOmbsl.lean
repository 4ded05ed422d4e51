/- The methods of an ordered map that read it, at keys string and values drumlin/index.list. Written from YOmb.base by inst.py. -/
import Derived.Test.YtiidkehcfoajeaaOmasl
set_option linter.unusedVariables false
set_option linter.unusedSimpArgs false
namespace Go.Proofs.Ytiidkehcfoajeaa
open Go.RowKit
attribute [local go_sem] OvM cell_ovm obj_ovm

theorem Rank1sl (x : Itsl) (k : ByteArray) (bk : Nat) (w : World) (hk : w.cell? ⟨bk, 0, none⟩ = some (.string (k))) :
    Calls Try.prog 153 #[.agg #[.string (x.1), .slice (x.2).1 (x.2).2.1 (x.2).2.2], .pointer (some ⟨bk, 0, none⟩)] w fun e w' => e = .returned (.bool (!ltS x.1 k)) ∧ Gr w w' := by
  have hb := World.block_lt_of_cell? w ⟨bk, 0, none⟩ hk
  simp only at hb
  obtain ⟨x1, x2⟩ := x
  go_enter Try.func153, Try.ntmps153
  go_wp2
  all_goals
    go_ret
    exact ⟨ret_bool (by first | (simp [ltS]; done) | (simp [ltS]; exact bl_gt _ _)), by (repeat (first | (with_reducible exact Gr.refl _) | assumption | (with_reducible apply Gr.from_drew) | (with_reducible apply Gr.alloc) | (with_reducible apply Gr.drew) | (with_reducible refine Gr.trans ?_ (by assumption)) | (with_reducible refine Gr.setCell ?_ (by omega) _)))⟩

set_option maxRecDepth 40000 in
set_option maxHeartbeats 2000000 in
theorem firstRanksl (p : Option Addr) (v : Value) (L : List Itsl) (k : ByteArray) (bk : Nat) (w : World) (h : VWsl w p v L) (hn : L.length ≤ 1000000) (hk : w.cell? ⟨bk, 0, none⟩ = some (.string (k))) :
    Calls Try.prog 152 #[v, .func (.func 153) #[] #[.pointer (some ⟨bk, 0, none⟩)]] w fun e w' => e = .returned (.int .i64 (rk ltS L k)) ∧ Gr w w' := by
  obtain ⟨a, cap, rfl, hnc, hcm, hat⟩ := h.at
  have hs := h.srt
  have HAT := Lib.hid hat
  have HS := Lib.hid hs
  have HK := Lib.hid hk
  clear h hat hs hk hcm hnc
  go_enter Try.func152, Try.ntmps152
  go_wp2_with fail
  go_loopw [5, 6] (fun t5 t6 wx => ∃ lo hi : Nat, lo ≤ hi ∧ hi ≤ L.length ∧ t5 = .int .i64 lo ∧ t6 = .int .i64 hi ∧ Hid (Gr w wx ∧ (∀ j x, j < lo → L[j]? = some x → ltS x.1 k = true) ∧ (∀ j x, hi ≤ j → L[j]? = some x → ltS x.1 k = false))) (fun t5 t6 _ => (intOf t6).toNat - (intOf t5).toNat)
  case atStart => exact ⟨0, L.length, by omega, by omega, rfl, rfl, Lib.hid ⟨by (repeat (first | (with_reducible exact Gr.refl _) | assumption | (with_reducible apply Gr.from_drew) | (with_reducible apply Gr.alloc) | (with_reducible apply Gr.drew) | (with_reducible refine Gr.trans ?_ (by assumption)) | (with_reducible refine Gr.setCell ?_ (by omega) _))), by omega, fun j x hj hx => by have := (List.getElem?_eq_some_iff.1 hx).1; omega⟩⟩
  case round =>
    obtain ⟨lo, hi, h1, h2, rfl, rfl, H⟩ := hrel
    by_cases hlt : lo < hi
    · have hlt' : (lo : Int) < hi := by omega
      obtain ⟨m, hm⟩ : ∃ m : Nat, m = (lo + hi) / 2 := ⟨_, rfl⟩
      have eM : ((lo : Int) + hi) / 2 = (m : Nat) := by omega
      have hm1 : lo ≤ m := by omega
      have hm2 : m < hi := by omega
      have hmL : m < L.length := by omega
      have hmL' : (m : Int) < L.length := by omega
      have hxm : L[m]? = some (L[m]'hmL) := List.getElem?_eq_getElem hmL
      obtain ⟨g, rfl, hg, c0, c1⟩ := HAT.out m _ hxm
      have d0 := H.out.1.keep c0
      have d1 := H.out.1.keep c1
      have HXM := Lib.hid hxm
      cases e : ltS (L[m]'hmL).1 k with
      | true =>
        have HE := Lib.hid e
        generalize L[m]'hmL = x at *
        obtain ⟨x1, x2⟩ := x
        simp only at d0 d1
        clear c0 c1 hg hm e hxm hmL
        go_wp2_with (go_at_call 153; refine (Rank1sl (x1, x2) k bk _ (H.out.1.keep HK.out)).mono ?_; rintro e2 w1 ⟨rfl, hg1⟩; rw [HE.out])
        go_roundw
        case rel => exact ⟨m + 1, hi, by omega, h2, by go_num, rfl, Lib.hid ⟨H.out.1.trans hg1, mono_lo ordS HS.out HXM.out HE.out, H.out.2.2⟩⟩
        case measure => simp [intOf]; omega
      | false =>
        have HE := Lib.hid e
        generalize L[m]'hmL = x at *
        obtain ⟨x1, x2⟩ := x
        simp only at d0 d1
        clear c0 c1 hg hm e hxm hmL
        go_wp2_with (go_at_call 153; refine (Rank1sl (x1, x2) k bk _ (H.out.1.keep HK.out)).mono ?_; rintro e2 w1 ⟨rfl, hg1⟩; rw [HE.out])
        go_roundw
        case rel => exact ⟨lo, m, by omega, by omega, rfl, rfl, Lib.hid ⟨H.out.1.trans hg1, H.out.2.1, mono_hi ordS HS.out HXM.out HE.out⟩⟩
        case measure => simp [intOf]; omega
    · have hlt' : ¬ (lo : Int) < hi := by omega
      obtain rfl : lo = hi := by omega
      go_wp2
      go_ret
      exact ⟨by rw [← rk_uniq ordS HS.out k lo h2 H.out.2.1 H.out.2.2]; rfl, H.out.1⟩

set_option maxRecDepth 40000 in
theorem Ranksl (p : Option Addr) (v : Value) (L : List Itsl) (k : ByteArray) (w : World) (h : VWsl w p v L) (hn : L.length ≤ 1000000) :
    Calls Try.prog 141 #[.pointer p, .string (k)] w fun e w' => e = .returned (.int .i64 (rk ltS L k)) ∧ Gr w w' := by
  have H := Lib.hid h
  clear h
  go_enter Try.func141, Try.ntmps141
  go_wp2_with (first
    | (go_at_call 146; refine (itemssl p v L _ (H.out.gr (by (repeat (first | (with_reducible exact Gr.refl _) | assumption | (with_reducible apply Gr.from_drew) | (with_reducible apply Gr.alloc) | (with_reducible apply Gr.drew) | (with_reducible refine Gr.trans ?_ (by assumption)) | (with_reducible refine Gr.setCell ?_ (by omega) _)))))).mono ?_; rintro e w1 ⟨rfl, rfl⟩)
    | (go_at_call 152; refine (firstRanksl p v L k w.heap.size _ (H.out.gr (by (repeat (first | (with_reducible exact Gr.refl _) | assumption | (with_reducible apply Gr.from_drew) | (with_reducible apply Gr.alloc) | (with_reducible apply Gr.drew) | (with_reducible refine Gr.trans ?_ (by assumption)) | (with_reducible refine Gr.setCell ?_ (by omega) _))))) hn (by simp [go_sem])).mono ?_; rintro e w1 ⟨rfl, hg⟩))
  go_ret
  exact ⟨rfl, (Gr.alloc (Gr.refl w) _).trans hg⟩

def hasBsl (L : List Itsl) (k : ByteArray) : Bool := (look ltS L k).isSome
theorem hasB_atsl {L : List Itsl} {k : ByteArray} {x : Itsl} (h : L[rk ltS L k]? = some x) : hasBsl L k = decide (x.1 = k) := by
  unfold hasBsl look
  rw [h]
  by_cases e : x.1 = k <;> simp [e]
theorem hasB_outsl {L : List Itsl} {k : ByteArray} (h : L.length ≤ rk ltS L k) : hasBsl L k = false := by
  unfold hasBsl look
  rw [List.getElem?_eq_none h]
  rfl

set_option maxRecDepth 40000 in
set_option maxHeartbeats 1000000 in
theorem findsl (p : Option Addr) (v : Value) (L : List Itsl) (k : ByteArray) (w : World) (h : VWsl w p v L) (hn : L.length ≤ 1000000) :
    Calls Try.prog 129 #[.pointer p, .string (k)] w fun e w' => e = .returned (.tuple #[.int .i64 (rk ltS L k), .bool (hasBsl L k)]) ∧ Gr w w' := by
  have H := Lib.hid h
  obtain ⟨a, cap, rfl, hnc, hcm, hat⟩ := h.at
  have HAT := Lib.hid hat
  clear h hat
  unfold maxLen at hcm
  have hr := rk_le (lt := ltS) L k
  obtain ⟨r, hrd⟩ : ∃ r, r = rk ltS L k := ⟨_, rfl⟩
  have HRK := Lib.hid hrd
  rw [← hrd] at hr ⊢
  clear hrd
  go_enter Try.func129, Try.ntmps129
  go_wp2_with fail
  refine (Ranksl p _ L k _ H.out hn).mono ?_
  rintro e w1 ⟨rfl, hg⟩
  rw [← HRK.out]
  have H1 := Lib.hid (H.out.gr hg)
  have HG := Lib.hid hg
  clear hg
  go_wp2_with fail
  refine (itemssl p _ L _ H1.out).mono ?_
  rintro e w2 ⟨rfl, rfl⟩
  by_cases hlt : r < L.length
  · obtain ⟨x, hx⟩ : ∃ x, L[r]? = some x := ⟨_, List.getElem?_eq_getElem hlt⟩
    have HB : Hid (hasBsl L k = decide (x.1 = k)) := Lib.hid (hasB_atsl (by rw [← HRK.out]; exact hx))
    obtain ⟨g, rfl, hg, c0, c1⟩ := HAT.out _ x hx
    have d0 := HG.out.keep c0
    have hlt' : (r : Int) < L.length := by omega
    obtain ⟨x1, x2⟩ := x
    simp only at d0
    clear c0 c1 hg hx
    go_wp2
    refine wp_region_flo (fun _ => False) [] [] (by kernel_rfl) (by kernel_rfl) (fun _ h => h.elim) ?_
    refine flo_seg 16 rfl ?_
    simp only [List.take_succ_cons, List.take_zero, List.drop_succ_cons, List.drop_zero]
    repeat (go_big_quiet_step (fail))
    refine wpQuiet_nil ?_
    refine flo_nil ?_
    go_wp2
    go_ret2
    exact ⟨by rw [HB.out, ← str_beq]; rfl, HG.out.drew⟩
  · have HB := Lib.hid (hasB_outsl (L := L) (k := k) (by rw [← HRK.out]; omega))
    have hlt' : ¬ (r : Int) < L.length := by omega
    go_wp2
    refine wp_region_flo (fun _ => False) [] [] (by kernel_rfl) (by kernel_rfl) (fun _ h => h.elim) ?_
    refine flo_seg 16 rfl ?_
    simp only [List.take_succ_cons, List.take_zero, List.drop_succ_cons, List.drop_zero]
    repeat (go_big_quiet_step (fail))
    refine wpQuiet_nil ?_
    refine flo_nil ?_
    go_wp2
    go_ret2
    exact ⟨by rw [HB.out]; rfl, HG.out.drew⟩

def lookVsl (L : List Itsl) (k : ByteArray) : Value := match look ltS L k with
  | some v => .slice (v).1 (v).2.1 (v).2.2
  | none => .slice none 0 0
set_option maxRecDepth 40000 in
set_option maxHeartbeats 1000000 in
theorem Getsl (p : Option Addr) (v : Value) (L : List Itsl) (k : ByteArray) (w : World) (h : VWsl w p v L) (hn : L.length ≤ 1000000) :
    Calls Try.prog 96 #[.pointer p, .string (k)] w fun e w' => e = .returned (.tuple #[lookVsl L k, .bool (hasBsl L k)]) ∧ Gr w w' := by
  have H := Lib.hid h
  clear h
  cases hl : look ltS L k with
  | none =>
    have HB := Lib.hid (show hasBsl L k = false by unfold hasBsl; rw [hl]; rfl)
    have HV := Lib.hid (show lookVsl L k = .slice none 0 0 by unfold lookVsl; rw [hl])
    clear hl
    rw [HB.out, HV.out]
    go_enter Try.func96, Try.ntmps96
    go_wp2_with fail
    refine (findsl p v L k _ H.out hn).mono ?_
    rintro e w1 ⟨rfl, hg⟩
    rw [HB.out]
    go_wp2
    go_ret2
    exact ⟨rfl, hg⟩
  | some u =>
    have HB := Lib.hid (show hasBsl L k = true by unfold hasBsl; rw [hl]; rfl)
    have HV := Lib.hid (show lookVsl L k = .slice (u).1 (u).2.1 (u).2.2 by unfold lookVsl; rw [hl])
    have hg := look_some hl
    have hlt := (List.getElem?_eq_some_iff.1 hg).1
    obtain ⟨b, rfl, hm⟩ : ∃ b, p = some ⟨b, 0, none⟩ ∧ OMsl w b v L := by
      rcases H.out with h | ⟨_, _, rfl⟩
      · exact h
      · simp at hg
    obtain ⟨a, cap, rfl, hnc, hcm, hat⟩ := H.out.at
    obtain ⟨g, rfl, hgl, c0, c1⟩ := hat _ _ hg
    have e1 := ((cellsOf hm.blk).1 1).trans (show _ = some (Value.slice (some ⟨g, 0, none⟩) L.length cap) from rfl)
    unfold maxLen at hcm
    clear hl hg hm hat
    rw [HB.out, HV.out]
    go_enter Try.func96, Try.ntmps96
    go_wp2_with fail
    refine (findsl _ _ L k _ H.out hn).mono ?_
    rintro e w1 ⟨rfl, hg⟩
    rw [HB.out]
    have f1 := hg.keep e1
    have d1 := hg.keep c1
    generalize rk ltS L k = r at *
    have hlt' : (r : Int) < L.length := by omega
    (try simp only at d1)
    clear c0 c1 e1 hgl
    go_wp2
    go_ret2
    exact ⟨rfl, hg⟩

end Go.Proofs.Ytiidkehcfoajeaa
