/- The methods of an ordered map that read it, at keys int and values string. Written from YOmb.base by inst.py. -/
import Derived.Test.YtbhkigjmjmfbgaaOmais
set_option linter.unusedVariables false
set_option linter.unusedSimpArgs false
namespace Go.Proofs.Ytbhkigjmjmfbgaa
open Go.RowKit
attribute [local go_sem] OvM cell_ovm obj_ovm

theorem Rank1is (x : Itis) (k : Int) (bk : Nat) (w : World) (hk : w.cell? ⟨bk, 0, none⟩ = some (.int .i64 (k))) :
    Calls Try.prog 125 #[.agg #[.int .i64 (x.1), .string (x.2)], .pointer (some ⟨bk, 0, none⟩)] w fun e w' => e = .returned (.bool (!ltZ x.1 k)) ∧ Gr w w' := by
  have hb := World.block_lt_of_cell? w ⟨bk, 0, none⟩ hk
  simp only at hb
  obtain ⟨x1, x2⟩ := x
  go_enter Try.func125, Try.ntmps125
  go_wp2
  all_goals
    go_ret
    exact ⟨ret_bool (by rw [Bool.eq_iff_iff]; simp [ltZ]; try omega), by (repeat (first | (with_reducible exact Gr.refl _) | assumption | (with_reducible apply Gr.from_drew) | (with_reducible apply Gr.alloc) | (with_reducible apply Gr.drew) | (with_reducible refine Gr.trans ?_ (by assumption)) | (with_reducible refine Gr.setCell ?_ (by omega) _)))⟩
theorem Floor1is (x : Itis) (k : Int) (bk : Nat) (w : World) (hk : w.cell? ⟨bk, 0, none⟩ = some (.int .i64 (k))) :
    Calls Try.prog 119 #[.agg #[.int .i64 (x.1), .string (x.2)], .pointer (some ⟨bk, 0, none⟩)] w fun e w' => e = .returned (.bool (ltZ k x.1)) ∧ Gr w w' := by
  have hb := World.block_lt_of_cell? w ⟨bk, 0, none⟩ hk
  simp only at hb
  obtain ⟨x1, x2⟩ := x
  go_enter Try.func119, Try.ntmps119
  go_wp2
  all_goals
    go_ret
    exact ⟨ret_bool (by rw [Bool.eq_iff_iff]; simp [ltZ]; try omega), by (repeat (first | (with_reducible exact Gr.refl _) | assumption | (with_reducible apply Gr.from_drew) | (with_reducible apply Gr.alloc) | (with_reducible apply Gr.drew) | (with_reducible refine Gr.trans ?_ (by assumption)) | (with_reducible refine Gr.setCell ?_ (by omega) _)))⟩

set_option maxRecDepth 40000 in
set_option maxHeartbeats 2000000 in
theorem firstRankis (p : Option Addr) (v : Value) (L : List Itis) (k : Int) (bk : Nat) (w : World) (h : VWis w p v L) (hn : L.length ≤ 1000000) (hk : w.cell? ⟨bk, 0, none⟩ = some (.int .i64 (k))) :
    Calls Try.prog 117 #[v, .func (.func 125) #[] #[.pointer (some ⟨bk, 0, none⟩)]] w fun e w' => e = .returned (.int .i64 (rk ltZ L k)) ∧ Gr w w' := by
  obtain ⟨a, cap, rfl, hnc, hcm, hat⟩ := h.at
  have hs := h.srt
  have HAT := Lib.hid hat
  have HS := Lib.hid hs
  have HK := Lib.hid hk
  clear h hat hs hk hcm hnc
  go_enter Try.func117, Try.ntmps117
  go_wp2_with fail
  go_loopw [5, 6] (fun t5 t6 wx => ∃ lo hi : Nat, lo ≤ hi ∧ hi ≤ L.length ∧ t5 = .int .i64 lo ∧ t6 = .int .i64 hi ∧ Hid (Gr w wx ∧ (∀ j x, j < lo → L[j]? = some x → ltZ x.1 k = true) ∧ (∀ j x, hi ≤ j → L[j]? = some x → ltZ x.1 k = false))) (fun t5 t6 _ => (intOf t6).toNat - (intOf t5).toNat)
  case atStart => exact ⟨0, L.length, by omega, by omega, rfl, rfl, Lib.hid ⟨by (repeat (first | (with_reducible exact Gr.refl _) | assumption | (with_reducible apply Gr.from_drew) | (with_reducible apply Gr.alloc) | (with_reducible apply Gr.drew) | (with_reducible refine Gr.trans ?_ (by assumption)) | (with_reducible refine Gr.setCell ?_ (by omega) _))), by omega, fun j x hj hx => by have := (List.getElem?_eq_some_iff.1 hx).1; omega⟩⟩
  case round =>
    obtain ⟨lo, hi, h1, h2, rfl, rfl, H⟩ := hrel
    by_cases hlt : lo < hi
    · have hlt' : (lo : Int) < hi := by omega
      obtain ⟨m, hm⟩ : ∃ m : Nat, m = (lo + hi) / 2 := ⟨_, rfl⟩
      have eM : ((lo : Int) + hi) / 2 = (m : Nat) := by omega
      have hm1 : lo ≤ m := by omega
      have hm2 : m < hi := by omega
      have hmL : m < L.length := by omega
      have hmL' : (m : Int) < L.length := by omega
      have hxm : L[m]? = some (L[m]'hmL) := List.getElem?_eq_getElem hmL
      obtain ⟨g, rfl, hg, c0, c1⟩ := HAT.out m _ hxm
      have d0 := H.out.1.keep c0
      have d1 := H.out.1.keep c1
      have HXM := Lib.hid hxm
      cases e : ltZ (L[m]'hmL).1 k with
      | true =>
        have HE := Lib.hid e
        generalize L[m]'hmL = x at *
        obtain ⟨x1, x2⟩ := x
        simp only at d0 d1
        clear c0 c1 hg hm e hxm hmL
        go_wp2_with (go_at_call 125; refine (Rank1is (x1, x2) k bk _ (H.out.1.keep HK.out)).mono ?_; rintro e2 w1 ⟨rfl, hg1⟩; rw [HE.out])
        go_roundw
        case rel => exact ⟨m + 1, hi, by omega, h2, by go_num, rfl, Lib.hid ⟨H.out.1.trans hg1, mono_lo ordZ HS.out HXM.out HE.out, H.out.2.2⟩⟩
        case measure => simp [intOf]; omega
      | false =>
        have HE := Lib.hid e
        generalize L[m]'hmL = x at *
        obtain ⟨x1, x2⟩ := x
        simp only at d0 d1
        clear c0 c1 hg hm e hxm hmL
        go_wp2_with (go_at_call 125; refine (Rank1is (x1, x2) k bk _ (H.out.1.keep HK.out)).mono ?_; rintro e2 w1 ⟨rfl, hg1⟩; rw [HE.out])
        go_roundw
        case rel => exact ⟨lo, m, by omega, by omega, rfl, rfl, Lib.hid ⟨H.out.1.trans hg1, H.out.2.1, mono_hi ordZ HS.out HXM.out HE.out⟩⟩
        case measure => simp [intOf]; omega
    · have hlt' : ¬ (lo : Int) < hi := by omega
      obtain rfl : lo = hi := by omega
      go_wp2
      go_ret
      exact ⟨by rw [← rk_uniq ordZ HS.out k lo h2 H.out.2.1 H.out.2.2]; rfl, H.out.1⟩
set_option maxRecDepth 40000 in
set_option maxHeartbeats 2000000 in
theorem firstFlooris (p : Option Addr) (v : Value) (L : List Itis) (k : Int) (bk : Nat) (w : World) (h : VWis w p v L) (hn : L.length ≤ 1000000) (hk : w.cell? ⟨bk, 0, none⟩ = some (.int .i64 (k))) :
    Calls Try.prog 117 #[v, .func (.func 119) #[] #[.pointer (some ⟨bk, 0, none⟩)]] w fun e w' => e = .returned (.int .i64 (up ltZ L k)) ∧ Gr w w' := by
  obtain ⟨a, cap, rfl, hnc, hcm, hat⟩ := h.at
  have hs := h.srt
  have HAT := Lib.hid hat
  have HS := Lib.hid hs
  have HK := Lib.hid hk
  clear h hat hs hk hcm hnc
  go_enter Try.func117, Try.ntmps117
  go_wp2_with fail
  go_loopw [5, 6] (fun t5 t6 wx => ∃ lo hi : Nat, lo ≤ hi ∧ hi ≤ L.length ∧ t5 = .int .i64 lo ∧ t6 = .int .i64 hi ∧ Hid (Gr w wx ∧ (∀ j x, j < lo → L[j]? = some x → ltZ k x.1 = false) ∧ (∀ j x, hi ≤ j → L[j]? = some x → ltZ k x.1 = true))) (fun t5 t6 _ => (intOf t6).toNat - (intOf t5).toNat)
  case atStart => exact ⟨0, L.length, by omega, by omega, rfl, rfl, Lib.hid ⟨by (repeat (first | (with_reducible exact Gr.refl _) | assumption | (with_reducible apply Gr.from_drew) | (with_reducible apply Gr.alloc) | (with_reducible apply Gr.drew) | (with_reducible refine Gr.trans ?_ (by assumption)) | (with_reducible refine Gr.setCell ?_ (by omega) _))), by omega, fun j x hj hx => by have := (List.getElem?_eq_some_iff.1 hx).1; omega⟩⟩
  case round =>
    obtain ⟨lo, hi, h1, h2, rfl, rfl, H⟩ := hrel
    by_cases hlt : lo < hi
    · have hlt' : (lo : Int) < hi := by omega
      obtain ⟨m, hm⟩ : ∃ m : Nat, m = (lo + hi) / 2 := ⟨_, rfl⟩
      have eM : ((lo : Int) + hi) / 2 = (m : Nat) := by omega
      have hm1 : lo ≤ m := by omega
      have hm2 : m < hi := by omega
      have hmL : m < L.length := by omega
      have hmL' : (m : Int) < L.length := by omega
      have hxm : L[m]? = some (L[m]'hmL) := List.getElem?_eq_getElem hmL
      obtain ⟨g, rfl, hg, c0, c1⟩ := HAT.out m _ hxm
      have d0 := H.out.1.keep c0
      have d1 := H.out.1.keep c1
      have HXM := Lib.hid hxm
      cases e : ltZ k (L[m]'hmL).1 with
      | false =>
        have HE := Lib.hid e
        generalize L[m]'hmL = x at *
        obtain ⟨x1, x2⟩ := x
        simp only at d0 d1
        clear c0 c1 hg hm e hxm hmL
        go_wp2_with (go_at_call 119; refine (Floor1is (x1, x2) k bk _ (H.out.1.keep HK.out)).mono ?_; rintro e2 w1 ⟨rfl, hg1⟩; rw [HE.out])
        go_roundw
        case rel => exact ⟨m + 1, hi, by omega, h2, by go_num, rfl, Lib.hid ⟨H.out.1.trans hg1, up_lo ordZ HS.out HXM.out HE.out, H.out.2.2⟩⟩
        case measure => simp [intOf]; omega
      | true =>
        have HE := Lib.hid e
        generalize L[m]'hmL = x at *
        obtain ⟨x1, x2⟩ := x
        simp only at d0 d1
        clear c0 c1 hg hm e hxm hmL
        go_wp2_with (go_at_call 119; refine (Floor1is (x1, x2) k bk _ (H.out.1.keep HK.out)).mono ?_; rintro e2 w1 ⟨rfl, hg1⟩; rw [HE.out])
        go_roundw
        case rel => exact ⟨lo, m, by omega, by omega, rfl, rfl, Lib.hid ⟨H.out.1.trans hg1, H.out.2.1, up_hi ordZ HS.out HXM.out HE.out⟩⟩
        case measure => simp [intOf]; omega
    · have hlt' : ¬ (lo : Int) < hi := by omega
      obtain rfl : lo = hi := by omega
      go_wp2
      go_ret
      exact ⟨by rw [← up_uniq ordZ HS.out k lo h2 H.out.2.1 H.out.2.2]; rfl, H.out.1⟩

set_option maxRecDepth 40000 in
theorem Rankis (p : Option Addr) (v : Value) (L : List Itis) (k : Int) (w : World) (h : VWis w p v L) (hn : L.length ≤ 1000000) :
    Calls Try.prog 68 #[.pointer p, .int .i64 (k)] w fun e w' => e = .returned (.int .i64 (rk ltZ L k)) ∧ Gr w w' := by
  have H := Lib.hid h
  clear h
  go_enter Try.func68, Try.ntmps68
  go_wp2_with (first
    | (go_at_call 118; refine (itemsis p v L _ (H.out.gr (by (repeat (first | (with_reducible exact Gr.refl _) | assumption | (with_reducible apply Gr.from_drew) | (with_reducible apply Gr.alloc) | (with_reducible apply Gr.drew) | (with_reducible refine Gr.trans ?_ (by assumption)) | (with_reducible refine Gr.setCell ?_ (by omega) _)))))).mono ?_; rintro e w1 ⟨rfl, rfl⟩)
    | (go_at_call 117; refine (firstRankis p v L k w.heap.size _ (H.out.gr (by (repeat (first | (with_reducible exact Gr.refl _) | assumption | (with_reducible apply Gr.from_drew) | (with_reducible apply Gr.alloc) | (with_reducible apply Gr.drew) | (with_reducible refine Gr.trans ?_ (by assumption)) | (with_reducible refine Gr.setCell ?_ (by omega) _))))) hn (by simp [go_sem])).mono ?_; rintro e w1 ⟨rfl, hg⟩))
  go_ret
  exact ⟨rfl, (Gr.alloc (Gr.refl w) _).trans hg⟩

def hasBis (L : List Itis) (k : Int) : Bool := (look ltZ L k).isSome
theorem hasB_atis {L : List Itis} {k : Int} {x : Itis} (h : L[rk ltZ L k]? = some x) : hasBis L k = decide (x.1 = k) := by
  unfold hasBis look
  rw [h]
  by_cases e : x.1 = k <;> simp [e]
theorem hasB_outis {L : List Itis} {k : Int} (h : L.length ≤ rk ltZ L k) : hasBis L k = false := by
  unfold hasBis look
  rw [List.getElem?_eq_none h]
  rfl

set_option maxRecDepth 40000 in
set_option maxHeartbeats 1000000 in
theorem findis (p : Option Addr) (v : Value) (L : List Itis) (k : Int) (w : World) (h : VWis w p v L) (hn : L.length ≤ 1000000) :
    Calls Try.prog 114 #[.pointer p, .int .i64 (k)] w fun e w' => e = .returned (.tuple #[.int .i64 (rk ltZ L k), .bool (hasBis L k)]) ∧ Gr w w' := by
  have H := Lib.hid h
  obtain ⟨a, cap, rfl, hnc, hcm, hat⟩ := h.at
  have HAT := Lib.hid hat
  clear h hat
  unfold maxLen at hcm
  have hr := rk_le (lt := ltZ) L k
  obtain ⟨r, hrd⟩ : ∃ r, r = rk ltZ L k := ⟨_, rfl⟩
  have HRK := Lib.hid hrd
  rw [← hrd] at hr ⊢
  clear hrd
  go_enter Try.func114, Try.ntmps114
  go_wp2_with fail
  refine (Rankis p _ L k _ H.out hn).mono ?_
  rintro e w1 ⟨rfl, hg⟩
  rw [← HRK.out]
  have H1 := Lib.hid (H.out.gr hg)
  have HG := Lib.hid hg
  clear hg
  go_wp2_with fail
  refine (itemsis p _ L _ H1.out).mono ?_
  rintro e w2 ⟨rfl, rfl⟩
  by_cases hlt : r < L.length
  · obtain ⟨x, hx⟩ : ∃ x, L[r]? = some x := ⟨_, List.getElem?_eq_getElem hlt⟩
    have HB : Hid (hasBis L k = decide (x.1 = k)) := Lib.hid (hasB_atis (by rw [← HRK.out]; exact hx))
    obtain ⟨g, rfl, hg, c0, c1⟩ := HAT.out _ x hx
    have d0 := HG.out.keep c0
    have hlt' : (r : Int) < L.length := by omega
    obtain ⟨x1, x2⟩ := x
    simp only at d0
    clear c0 c1 hg hx
    go_wp2
    refine wp_region_flo (fun _ => False) [] [] (by kernel_rfl) (by kernel_rfl) (fun _ h => h.elim) ?_
    refine flo_seg 16 rfl ?_
    simp only [List.take_succ_cons, List.take_zero, List.drop_succ_cons, List.drop_zero]
    repeat (go_big_quiet_step (fail))
    refine wpQuiet_nil ?_
    refine flo_nil ?_
    go_wp2
    go_ret2
    exact ⟨by rw [HB.out]; rfl, HG.out.drew⟩
  · have HB := Lib.hid (hasB_outis (L := L) (k := k) (by rw [← HRK.out]; omega))
    have hlt' : ¬ (r : Int) < L.length := by omega
    go_wp2
    refine wp_region_flo (fun _ => False) [] [] (by kernel_rfl) (by kernel_rfl) (fun _ h => h.elim) ?_
    refine flo_seg 16 rfl ?_
    simp only [List.take_succ_cons, List.take_zero, List.drop_succ_cons, List.drop_zero]
    repeat (go_big_quiet_step (fail))
    refine wpQuiet_nil ?_
    refine flo_nil ?_
    go_wp2
    go_ret2
    exact ⟨by rw [HB.out]; rfl, HG.out.drew⟩

def lookVis (L : List Itis) (k : Int) : Value := match look ltZ L k with
  | some v => .string (v)
  | none => .string ⟨#[]⟩
set_option maxRecDepth 40000 in
set_option maxHeartbeats 1000000 in
theorem Getis (p : Option Addr) (v : Value) (L : List Itis) (k : Int) (w : World) (h : VWis w p v L) (hn : L.length ≤ 1000000) :
    Calls Try.prog 123 #[.pointer p, .int .i64 (k)] w fun e w' => e = .returned (.tuple #[lookVis L k, .bool (hasBis L k)]) ∧ Gr w w' := by
  have H := Lib.hid h
  clear h
  cases hl : look ltZ L k with
  | none =>
    have HB := Lib.hid (show hasBis L k = false by unfold hasBis; rw [hl]; rfl)
    have HV := Lib.hid (show lookVis L k = .string ⟨#[]⟩ by unfold lookVis; rw [hl])
    clear hl
    rw [HB.out, HV.out]
    go_enter Try.func123, Try.ntmps123
    go_wp2_with fail
    refine (findis p v L k _ H.out hn).mono ?_
    rintro e w1 ⟨rfl, hg⟩
    rw [HB.out]
    go_wp2
    go_ret2
    exact ⟨rfl, hg⟩
  | some u =>
    have HB := Lib.hid (show hasBis L k = true by unfold hasBis; rw [hl]; rfl)
    have HV := Lib.hid (show lookVis L k = .string (u) by unfold lookVis; rw [hl])
    have hg := look_some hl
    have hlt := (List.getElem?_eq_some_iff.1 hg).1
    obtain ⟨b, rfl, hm⟩ : ∃ b, p = some ⟨b, 0, none⟩ ∧ OMis w b v L := by
      rcases H.out with h | ⟨_, _, rfl⟩
      · exact h
      · simp at hg
    obtain ⟨a, cap, rfl, hnc, hcm, hat⟩ := H.out.at
    obtain ⟨g, rfl, hgl, c0, c1⟩ := hat _ _ hg
    have e1 := ((cellsOf hm.blk).1 1).trans (show _ = some (Value.slice (some ⟨g, 0, none⟩) L.length cap) from rfl)
    unfold maxLen at hcm
    clear hl hg hm hat
    rw [HB.out, HV.out]
    go_enter Try.func123, Try.ntmps123
    go_wp2_with fail
    refine (findis _ _ L k _ H.out hn).mono ?_
    rintro e w1 ⟨rfl, hg⟩
    rw [HB.out]
    have f1 := hg.keep e1
    have d1 := hg.keep c1
    generalize rk ltZ L k = r at *
    have hlt' : (r : Int) < L.length := by omega
    (try simp only at d1)
    clear c0 c1 e1 hgl
    go_wp2
    go_ret2
    exact ⟨rfl, hg⟩

theorem Lenis (p : Option Addr) (v : Value) (L : List Itis) (w : World) (h : VWis w p v L) :
    Calls Try.prog 69 #[.pointer p] w fun e w' => e = .returned (.int .i64 L.length) ∧ w = w' := by
  obtain ⟨a, cap, rfl, hnc, hcm, hat⟩ := h.at
  have H := Lib.hid h
  clear h hat
  go_enter Try.func69, Try.ntmps69
  go_wp2_with (go_at_call 118; refine (itemsis p _ L _ H.out).mono ?_; rintro e w1 ⟨rfl, rfl⟩)
  go_ret
  exact ⟨rfl, rfl⟩

def atVis (o : Option Itis) : Value := match o with
  | some x => .tuple #[.int .i64 (x.1), .string (x.2), .bool true]
  | none => .tuple #[.int .i64 0, .string ⟨#[]⟩, .bool false]
set_option maxRecDepth 40000 in
set_option maxHeartbeats 1000000 in
theorem atis (p : Option Addr) (v : Value) (L : List Itis) (i : Int) (w : World) (h : VWis w p v L) :
    Calls Try.prog 116 #[.pointer p, .int .i64 i] w fun e w' => e = .returned (atVis (atO _ L i)) ∧ Gr w w' := by
  obtain ⟨a, cap, rfl, hnc, hcm, hat⟩ := h.at
  have H := Lib.hid h
  have HAT := Lib.hid hat
  clear h hat
  unfold maxLen at hcm
  by_cases hr : 0 ≤ i ∧ i < L.length
  · obtain ⟨I, rfl⟩ := Int.eq_ofNat_of_zero_le hr.1
    have hI : I < L.length := by omega
    have hx : L[I]? = some (L[I]'hI) := List.getElem?_eq_getElem hI
    have HV := Lib.hid (show atO _ L (I : Int) = L[I]? by unfold atO; rw [if_pos hr.1]; simp)
    rw [HV.out, hx]
    obtain ⟨g, rfl, hg, c0, c1⟩ := HAT.out I _ hx
    obtain ⟨_, hlt'⟩ := hr
    have h0 : ¬ (I : Int) < 0 := by omega
    generalize L[I]'hI = x at *
    obtain ⟨x1, x2⟩ := x
    simp only at c0 c1
    clear hx hg hI
    go_enter Try.func116, Try.ntmps116
    go_wp2_with (go_at_call 118; refine (itemsis p _ L _ H.out).mono ?_; rintro e w1 ⟨rfl, rfl⟩)
    refine wp_region_flo (fun _ => False) [] [] (by kernel_rfl) (by kernel_rfl) (fun _ h => h.elim) ?_
    refine flo_seg 13 rfl ?_
    simp only [List.take_succ_cons, List.take_zero, List.drop_succ_cons, List.drop_zero]
    repeat (go_big_quiet_step (fail))
    refine wpQuiet_nil ?_
    refine flo_nil ?_
    go_wp2
    go_ret3
    exact ⟨rfl, (Gr.refl w).drew⟩
  · have HV := Lib.hid (show atO _ L i = none by
      unfold atO
      split
      · exact List.getElem?_eq_none (by omega)
      · rfl)
    rw [HV.out]
    rcases (show i < 0 ∨ (¬ i < 0 ∧ (L.length : Int) ≤ i) by omega) with h1 | ⟨h1, h2⟩
    all_goals
      clear hr
      go_enter Try.func116, Try.ntmps116
      go_wp2_with (go_at_call 118; refine (itemsis p _ L _ H.out).mono ?_; rintro e w1 ⟨rfl, rfl⟩)
      have b0 := blkNew w (.cells #[.int .i64 0, .string ⟨#[]⟩] 176)
      have c0 := ((cellsOf b0).1 0).trans (show _ = some (.int .i64 0) from rfl)
      have c1 := ((cellsOf b0).1 1).trans (show _ = some (.string ⟨#[]⟩) from rfl)
      have hG := Gr.alloc (Gr.refl w) (.cells #[.int .i64 0, .string ⟨#[]⟩] 176)
      generalize w.alloc (.cells #[.int .i64 0, .string ⟨#[]⟩] 176) = w2 at *
      generalize w.heap.size = b2 at *
      clear b0
      refine wp_region_flo (fun _ => False) [] [] (by kernel_rfl) (by kernel_rfl) (fun _ h => h.elim) ?_
      refine flo_seg 7 rfl ?_
      simp only [List.take_succ_cons, List.take_zero, List.drop_succ_cons, List.drop_zero]
      repeat (go_big_quiet_step (fail))
      refine wpQuiet_nil ?_
      refine flo_nil ?_
      go_wp2
      go_ret3
      exact ⟨rfl, hG.drew⟩
end Go.Proofs.Ytbhkigjmjmfbgaa
