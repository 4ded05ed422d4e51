/- Contracts of the reference's map: what reads it. -/
import Derived.Test.YtbhkigjmjmfbgaaOmdss
set_option linter.unusedVariables false
set_option linter.unusedSimpArgs false
namespace Go.Proofs.Ytbhkigjmjmfbgaa
open Go.RowKit
attribute [local go_sem] OvM cell_ovm obj_ovm

abbrev sv (x : ByteArray) : Value := .string x
def ksL (L : List Itss) : List Value := L.map fun x => .string x.1
def vsL (L : List Itss) : List Value := L.map fun x => .string x.2
structure RM (w : World) (b : Nat) (kv vv : Value) (L : List Itss) : Prop where
  blk : w.heap[b]? = some (.cells #[.bool true, kv, vv] 145 (0, 0))
  ok : Own w 9 1 kv L.length (ksL L)
  ov : Own w 9 1 vv L.length (vsL L)
  srt : Srt ltS L
/-- What a reference's map shows: nothing where there is none. -/
def RV (w : World) (p : Option Addr) (L : List Itss) : Prop := (∃ b kv vv, p = some ⟨b, 0, none⟩ ∧ RM w b kv vv L) ∨ (p = none ∧ L = [])
theorem RM.gr {w w' : World} {b : Nat} {kv vv : Value} {L : List Itss} (h : RM w b kv vv L) (g : Gr w w') : RM w' b kv vv L := ⟨g.blk h.blk, h.ok.gr g, h.ov.gr g, h.srt⟩
theorem RV.gr {w w' : World} {p : Option Addr} {L : List Itss} (h : RV w p L) (g : Gr w w') : RV w' p L := h.elim (fun ⟨b, kv, vv, e, h⟩ => .inl ⟨b, kv, vv, e, h.gr g⟩) .inr
theorem own_at {w : World} {t : TypeId} {v : Value} {n : Nat} {xs : List Value} (h : Own w t 1 v n xs) : ∃ a cap, v = .slice a n cap ∧ n ≤ cap ∧ cap ≤ maxLen ∧ ∀ i u, xs[i]? = some u → ∃ g, a = some ⟨g, 0, none⟩ ∧ w.cell? ⟨g, i, none⟩ = some u := by
  have hl : xs.length = n := by have := h.1; omega
  rcases h.2 with ⟨hv, h0⟩ | ⟨g, cap, cur, hv, _, hg, h1, h2, h3, h4⟩
  · have hL : xs = [] := List.eq_nil_of_length_eq_zero (by omega)
    subst hL
    exact ⟨none, 0, by rw [hv, h0], by omega, by simp [maxLen], fun i x hx => by simp at hx⟩
  · subst hv
    refine ⟨_, cap, rfl, h1, h2, fun i x hx => ⟨g, rfl, ?_⟩⟩
    have hc := h.cells (g := g) rfl i x hx
    rwa [show (⟨g, 0, none⟩ : Addr).add i = ⟨g, i, none⟩ by unfold Addr.add; split <;> simp_all] at hc

theorem rvalid (p : Option Addr) (L : List Itss) (w : World) (h : RV w p L) : Calls Try.prog 81 #[.pointer p] w fun e w' => e = .returned (.bool p.isSome) ∧ w = w' := by
  rcases h with ⟨b, kv, vv, rfl, h⟩ | ⟨rfl, rfl⟩
  · have c0 := ((cellsOf h.blk).1 0).trans (show _ = some (Value.bool true) from rfl)
    clear h
    go_enter Try.func81, Try.ntmps81
    go_wp2
    go_ret
    exact ⟨rfl, rfl⟩
  · go_enter Try.func81, Try.ntmps81
    go_wp2
    go_ret
    exact ⟨rfl, rfl⟩

set_option maxRecDepth 40000 in
set_option maxHeartbeats 1000000 in
theorem rRank (p : Option Addr) (L : List Itss) (k : ByteArray) (w : World) (h : RV w p L) :
    Calls Try.prog 37 #[.pointer p, .string k] w fun e w' => e = .returned (.int .i64 (rk ltS L k)) ∧ w = w' := by
  have H := Lib.hid h
  rcases h with ⟨b, kv, vv, rfl, h⟩ | ⟨rfl, rfl⟩
  · obtain ⟨a, cap, rfl, hc, hm, hat⟩ := own_at h.ok
    have c1 := ((cellsOf h.blk).1 1).trans (show _ = some (Value.slice a L.length cap) from rfl)
    have HAT := Lib.hid hat
    have HS := Lib.hid h.srt
    have hr := rk_le (lt := ltS) L k
    obtain ⟨r, hrd⟩ : ∃ r, r = rk ltS L k := ⟨_, rfl⟩
    have HRK := Lib.hid hrd
    rw [← hrd] at hr ⊢
    unfold maxLen at hm
    clear h hat hrd
    go_enter Try.func37, Try.ntmps37
    go_wp2_with (go_at_call 81; refine (rvalid _ L _ H.out).mono ?_; rintro e w1 ⟨rfl, rfl⟩)
    go_loopw [5, 6] (fun t5 t6 wx => ∃ i j : Nat, i ≤ L.length ∧ t6 = .int .i64 i ∧ t5 = .int .i64 j ∧ j = min i r ∧ wx = w) (fun _ t6 _ => L.length - (intOf t6).toNat)
    case atStart => exact ⟨0, 0, by omega, rfl, rfl, by omega, rfl⟩
    case round =>
      obtain ⟨i, j, h1, rfl, rfl, hj, rfl⟩ := hrel
      by_cases hlt : i < L.length
      · have hlt' : (i : Int) < L.length := by omega
        have hx : L[i]? = some (L[i]'hlt) := List.getElem?_eq_getElem hlt
        obtain ⟨g, rfl, c0⟩ := HAT.out i _ (by rw [ksL, List.getElem?_map, hx]; rfl)
        by_cases hir : i < r
        · have hb : Op.bytesLess (L[i]'hlt).1.toList k.toList = true := rk_lo (lt := ltS) L k i _ (by rw [← HRK.out]; exact hir) hx
          generalize L[i]'hlt = x at *
          clear hx
          go_wp2
          go_roundw
          case rel => exact ⟨i + 1, j + 1, by omega, by go_num, by go_num, by omega, trivial⟩
          case measure => simp [intOf]; omega
        · have hb : Op.bytesLess (L[i]'hlt).1.toList k.toList = false := rk_hi ordS HS.out k i _ (by rw [← HRK.out]; omega) hx
          generalize L[i]'hlt = x at *
          clear hx
          go_wp2
          go_roundw
          case rel => exact ⟨i + 1, j, by omega, by go_num, rfl, by omega, trivial⟩
          case measure => simp [intOf]; omega
      · have hlt' : ¬ (i : Int) < L.length := by omega
        have hjr : j = r := by omega
        clear hj
        subst hjr
        go_wp2
        go_ret
        exact ⟨rfl, rfl⟩
  · go_enter Try.func37, Try.ntmps37
    go_wp2_with (go_at_call 81; refine (rvalid _ [] _ H.out).mono ?_; rintro e w1 ⟨rfl, rfl⟩)
    go_ret
    exact ⟨rfl, rfl⟩

set_option maxRecDepth 40000 in
set_option maxHeartbeats 1000000 in
theorem rhas (p : Option Addr) (L : List Itss) (k : ByteArray) (w : World) (h : RV w p L) :
    Calls Try.prog 82 #[.pointer p, .string k] w fun e w' => e = .returned (.bool (hasBss L k)) ∧ w = w' := by
  have H := Lib.hid h
  rcases h with ⟨b, kv, vv, rfl, h⟩ | ⟨rfl, rfl⟩
  · obtain ⟨a, cap, rfl, hc, hm, hat⟩ := own_at h.ok
    have c1 := ((cellsOf h.blk).1 1).trans (show _ = some (Value.slice a L.length cap) from rfl)
    have HAT := Lib.hid hat
    obtain ⟨r, hrd⟩ : ∃ r, r = rk ltS L k := ⟨_, rfl⟩
    have HRK := Lib.hid hrd
    unfold maxLen at hm
    clear h hat hrd
    go_enter Try.func82, Try.ntmps82
    go_wp2_with fail
    refine (rRank _ L k _ H.out).mono ?_
    rintro e w1 ⟨rfl, rfl⟩
    rw [← HRK.out]
    by_cases hlt : r < L.length
    · have hlt' : (r : Int) < L.length := by omega
      have hx : L[r]? = some (L[r]'hlt) := List.getElem?_eq_getElem hlt
      obtain ⟨g, rfl, c0⟩ := HAT.out r _ (by rw [ksL, List.getElem?_map, hx]; rfl)
      have HB := Lib.hid (hasB_atss (L := L) (k := k) (by rw [← HRK.out]; exact hx))
      generalize L[r]'hlt = x at *
      clear hx
      go_wp2_with (go_at_call 81; refine (rvalid _ L _ H.out).mono ?_; rintro e w1 ⟨rfl, rfl⟩)
      go_ret
      exact ⟨by rw [HB.out, ← str_beq]; rfl, rfl⟩
    · have hlt' : ¬ (r : Int) < L.length := by omega
      have HB := Lib.hid (hasB_outss (L := L) (k := k) (by rw [← HRK.out]; omega))
      go_wp2_with (go_at_call 81; refine (rvalid _ L _ H.out).mono ?_; rintro e w1 ⟨rfl, rfl⟩)
      go_ret
      exact ⟨by rw [HB.out]; rfl, rfl⟩
  · go_enter Try.func82, Try.ntmps82
    go_wp2_with (first | (go_at_call 37; refine (rRank _ [] k _ H.out).mono ?_; rintro e w1 ⟨rfl, rfl⟩) | (go_at_call 81; refine (rvalid _ [] _ H.out).mono ?_; rintro e w1 ⟨rfl, rfl⟩))
    go_ret
    exact ⟨rfl, rfl⟩

theorem rLen (p : Option Addr) (L : List Itss) (w : World) (h : RV w p L) :
    Calls Try.prog 98 #[.pointer p] w fun e w' => e = .returned (.int .i64 L.length) ∧ w = w' := by
  have H := Lib.hid h
  rcases h with ⟨b, kv, vv, rfl, h⟩ | ⟨rfl, rfl⟩
  · obtain ⟨a, cap, rfl, hc, hm, _⟩ := own_at h.ok
    have c1 := ((cellsOf h.blk).1 1).trans (show _ = some (Value.slice a L.length cap) from rfl)
    clear h
    go_enter Try.func98, Try.ntmps98
    go_wp2_with (go_at_call 81; refine (rvalid _ L _ H.out).mono ?_; rintro e w1 ⟨rfl, rfl⟩)
    go_ret
    exact ⟨rfl, rfl⟩
  · go_enter Try.func98, Try.ntmps98
    go_wp2_with (go_at_call 81; refine (rvalid _ [] _ H.out).mono ?_; rintro e w1 ⟨rfl, rfl⟩)
    go_ret
    exact ⟨rfl, rfl⟩

set_option maxRecDepth 40000 in
set_option maxHeartbeats 1000000 in
theorem rGet (p : Option Addr) (L : List Itss) (k : ByteArray) (w : World) (h : RV w p L) :
    Calls Try.prog 86 #[.pointer p, .string k] w fun e w' => e = .returned (.tuple #[lookVss L k, .bool (hasBss L k)]) ∧ Gr w w' := by
  have H := Lib.hid h
  cases hl : look ltS L k with
  | none =>
    have HB := Lib.hid (show hasBss L k = false by unfold hasBss; rw [hl]; rfl)
    have HV := Lib.hid (show lookVss L k = .string ⟨#[]⟩ by unfold lookVss; rw [hl])
    clear h hl
    rw [HB.out, HV.out]
    go_enter Try.func86, Try.ntmps86
    go_wp2_with fail
    refine (rhas _ L k _ H.out).mono ?_
    rintro e w1 ⟨rfl, rfl⟩
    rw [HB.out]
    go_wp2
    go_ret2
    exact ⟨rfl, Gr.refl _⟩
  | some u =>
    have HB := Lib.hid (show hasBss L k = true by unfold hasBss; rw [hl]; rfl)
    have HV := Lib.hid (show lookVss L k = .string u by unfold lookVss; rw [hl])
    have hg := look_some hl
    have hlt := (List.getElem?_eq_some_iff.1 hg).1
    rcases h with ⟨b, kv, vv, rfl, h⟩ | ⟨rfl, rfl⟩
    · obtain ⟨a, cap, rfl, hc, hm, hat⟩ := own_at h.ov
      have c2 := ((cellsOf h.blk).1 2).trans (show _ = some (Value.slice a L.length cap) from rfl)
      obtain ⟨g, rfl, d0⟩ := hat _ _ (by rw [vsL, List.getElem?_map, hg]; rfl)
      obtain ⟨r, hrd⟩ : ∃ r, r = rk ltS L k := ⟨_, rfl⟩
      have HRK := Lib.hid hrd
      rw [← hrd] at d0 hlt
      have hlt' : (r : Int) < L.length := by omega
      unfold maxLen at hm
      clear h hat hl hg hrd
      rw [HB.out, HV.out]
      go_enter Try.func86, Try.ntmps86
      go_wp2_with fail
      refine (rhas _ L k _ H.out).mono ?_
      rintro e w1 ⟨rfl, rfl⟩
      rw [HB.out]
      go_wp2_with fail
      have HG := Gr.refl w.drew
      refine wp_region_flo (fun _ => False) [] [] (by kernel_rfl) (by kernel_rfl) (fun _ h => h.elim) ?_
      refine flo_seg 6 rfl ?_
      simp only [List.take_succ_cons, List.take_zero, List.drop_succ_cons, List.drop_zero]
      repeat (go_big_quiet_step (fail))
      refine wpQuiet_nil ?_
      refine flo_eff rfl rfl rfl rfl (fun K hK => ?_)
      go_wp2_with ((go_at_call 37; refine (rRank _ L k _ (H.out.gr (by (repeat (first | (with_reducible exact Gr.refl _) | assumption | (with_reducible apply Gr.from_drew) | (with_reducible apply Gr.alloc) | (with_reducible apply Gr.drew) | (with_reducible refine Gr.trans ?_ (by assumption)) | (with_reducible refine Gr.setCell ?_ (by omega) _)))))).mono ?_; rintro e w1 ⟨rfl, rfl⟩; rw [← HRK.out]))
      refine ⟨by (first | (refine Gr.mdh ?_ _; (repeat (first | (with_reducible exact Gr.refl _) | assumption | (with_reducible apply Gr.from_drew) | (with_reducible apply Gr.alloc) | (with_reducible apply Gr.drew) | (with_reducible refine Gr.trans ?_ (by assumption)) | (with_reducible refine Gr.setCell ?_ (by omega) _))); done) | (repeat (first | (with_reducible exact Mdh.refl _ _) | (with_reducible refine Mdh.setCell ?_ (by simp) _) | (with_reducible refine Mdh.setNew ?_ (by simp) _) | (with_reducible apply Mdh.alloc) | (with_reducible apply Mdh.drew) | (with_reducible refine Mdh.gr ?_ (by assumption))))), ?_⟩
      refine flo_seg 4 rfl ?_
      simp only [List.take_succ_cons, List.take_zero, List.drop_succ_cons, List.drop_zero]
      repeat (go_big_quiet_step (fail))
      refine wpQuiet_nil ?_
      refine flo_nil ?_
      go_wp2
      go_ret2
      exact ⟨rfl, by (repeat (first | (with_reducible exact Gr.refl _) | assumption | (with_reducible apply Gr.from_drew) | (with_reducible apply Gr.alloc) | (with_reducible apply Gr.drew) | (with_reducible refine Gr.trans ?_ (by assumption)) | (with_reducible refine Gr.setCell ?_ (by omega) _)))⟩
    · simp at hlt

def rAtV (made : Bool) (o : Option Itss) : Value := match o with
  | some x => .tuple #[.string x.1, .string x.2, .int .i64 0]
  | none => .tuple #[.string ⟨#[]⟩, .string ⟨#[]⟩, .int .i64 (if made then 3 else 1)]
set_option maxRecDepth 40000 in
set_option maxHeartbeats 1000000 in
theorem rAt (p : Option Addr) (L : List Itss) (i : Int) (w : World) (h : RV w p L) :
    Calls Try.prog 96 #[.pointer p, .int .i64 i] w fun e w' => e = .returned (rAtV p.isSome (atO _ L i)) ∧ Gr w w' := by
  have H := Lib.hid h
  rcases h with ⟨b, kv, vv, rfl, h⟩ | ⟨rfl, rfl⟩
  · obtain ⟨a, cap, rfl, hc, hm, hat⟩ := own_at h.ok
    obtain ⟨a', cap', rfl, hc', hm', hat'⟩ := own_at h.ov
    have c1 := ((cellsOf h.blk).1 1).trans (show _ = some (Value.slice a L.length cap) from rfl)
    have c2 := ((cellsOf h.blk).1 2).trans (show _ = some (Value.slice a' L.length cap') from rfl)
    unfold maxLen at hm hm'
    by_cases hr : 0 ≤ i ∧ i < L.length
    · obtain ⟨I, rfl⟩ := Int.eq_ofNat_of_zero_le hr.1
      have hI : I < L.length := by omega
      have hx : L[I]? = some (L[I]'hI) := List.getElem?_eq_getElem hI
      have HV := Lib.hid (show atO _ L (I : Int) = L[I]? by unfold atO; rw [if_pos hr.1]; simp)
      rw [HV.out, hx]
      obtain ⟨g, rfl, d0⟩ := hat I _ (by rw [ksL, List.getElem?_map, hx]; rfl)
      obtain ⟨g', rfl, d1⟩ := hat' I _ (by rw [vsL, List.getElem?_map, hx]; rfl)
      obtain ⟨_, hlt'⟩ := hr
      have h0 : ¬ (I : Int) < 0 := by omega
      generalize L[I]'hI = x at *
      clear hx h hat hat' hI
      go_enter Try.func96, Try.ntmps96
      go_wp2_with (go_at_call 81; refine (rvalid _ L _ H.out).mono ?_; rintro e w1 ⟨rfl, rfl⟩)
      refine wp_region_flo (fun _ => False) [] [] (by kernel_rfl) (by kernel_rfl) (fun _ h => h.elim) ?_
      refine flo_seg 17 rfl ?_
      simp only [List.take_succ_cons, List.take_zero, List.drop_succ_cons, List.drop_zero]
      repeat (go_big_quiet_step (fail))
      refine wpQuiet_nil ?_
      refine flo_nil ?_
      go_wp2
      go_ret3
      exact ⟨rfl, (Gr.refl w).drew⟩
    · have HV := Lib.hid (show atO _ L i = none by
        unfold atO
        split
        · exact List.getElem?_eq_none (by omega)
        · rfl)
      rw [HV.out]
      rcases (show i < 0 ∨ (¬ i < 0 ∧ (L.length : Int) ≤ i) by omega) with h1 | ⟨h1, h2⟩
      all_goals
        clear hr h hat hat'
        go_enter Try.func96, Try.ntmps96
        go_wp2_with (go_at_call 81; refine (rvalid _ L _ H.out).mono ?_; rintro e w1 ⟨rfl, rfl⟩)
        go_ret3
        exact ⟨rfl, Gr.refl w⟩
  · have HV := Lib.hid (show atO Itss [] i = none by unfold atO; split <;> simp)
    rw [HV.out]
    go_enter Try.func96, Try.ntmps96
    go_wp2_with (go_at_call 81; refine (rvalid _ [] _ H.out).mono ?_; rintro e w1 ⟨rfl, rfl⟩)
    go_ret3
    exact ⟨rfl, Gr.refl w⟩
set_option maxRecDepth 40000 in
theorem rat (p : Option Addr) (L : List Itss) (i : Int) (w : World) (h : RV w p L) :
    Calls Try.prog 140 #[.pointer p, .int .i64 i] w fun e w' => e = .returned (atVss (atO _ L i)) ∧ Gr w w' := by
  have H := Lib.hid h
  cases ho : atO _ L i with
  | none =>
    have HO := Lib.hid ho
    clear h ho
    go_enter Try.func140, Try.ntmps140
    go_wp2_with fail
    refine (rAt p L i _ H.out).mono ?_
    rintro e w1 ⟨rfl, hg⟩
    rw [HO.out]
    cases p <;> simp only [rAtV, Option.isSome]
    all_goals
      go_wp2
      go_ret3
      exact ⟨rfl, hg⟩
  | some x =>
    have HO := Lib.hid ho
    clear h ho
    go_enter Try.func140, Try.ntmps140
    go_wp2_with fail
    refine (rAt p L i _ H.out).mono ?_
    rintro e w1 ⟨rfl, hg⟩
    rw [HO.out]
    simp only [rAtV]
    go_wp2
    go_ret3
    exact ⟨rfl, hg⟩
set_option maxRecDepth 40000 in
theorem rMin (p : Option Addr) (L : List Itss) (w : World) (h : RV w p L) (hn : L.length ≤ 1000000) :
    Calls Try.prog 93 #[.pointer p] w fun e w' => e = .returned (atVss (atO _ L 0)) ∧ Gr w w' := by
  have H := Lib.hid h
  clear h
  obtain ⟨x, y, c, hf⟩ := atV_formss (atO _ L 0)
  have HF := Lib.hid hf
  rw [hf]
  clear hf
  go_enter Try.func93, Try.ntmps93
  go_wp2_with (first
    | (go_at_call 98; refine (rLen p L _ H.out).mono ?_; rintro e w1 ⟨rfl, rfl⟩)
    | (go_at_call 140; refine (rat p L _ _ H.out).mono ?_; rintro e w1 ⟨rfl, hg⟩; rw [HF.out]))
  go_ret3
  exact ⟨rfl, hg⟩
set_option maxRecDepth 40000 in
theorem rMax (p : Option Addr) (L : List Itss) (w : World) (h : RV w p L) (hn : L.length ≤ 1000000) :
    Calls Try.prog 95 #[.pointer p] w fun e w' => e = .returned (atVss (atO _ L ((L.length : Int) - 1))) ∧ Gr w w' := by
  have H := Lib.hid h
  clear h
  obtain ⟨x, y, c, hf⟩ := atV_formss (atO _ L ((L.length : Int) - 1))
  have HF := Lib.hid hf
  rw [hf]
  clear hf
  go_enter Try.func95, Try.ntmps95
  go_wp2_with (first
    | (go_at_call 98; refine (rLen p L _ H.out).mono ?_; rintro e w1 ⟨rfl, rfl⟩)
    | (go_at_call 140; refine (rat p L _ _ H.out).mono ?_; rintro e w1 ⟨rfl, hg⟩; rw [HF.out]))
  go_ret3
  exact ⟨rfl, hg⟩
theorem atO_nat {α : Type} (L : List α) (n : Nat) : atO α L (n : Int) = L[n]? := by unfold atO; rw [if_pos (by omega)]; simp
set_option maxRecDepth 40000 in
theorem rCeil (p : Option Addr) (L : List Itss) (k : ByteArray) (w : World) (h : RV w p L) :
    Calls Try.prog 91 #[.pointer p, .string k] w fun e w' => e = .returned (atVss (L[rk ltS L k]?)) ∧ Gr w w' := by
  have H := Lib.hid h
  clear h
  obtain ⟨x, y, c, hf⟩ := atV_formss (L[rk ltS L k]?)
  have HF : Hid (atVss (atO _ L (rk ltS L k : Nat)) = .tuple #[x, y, .bool c]) := Lib.hid (by rw [← hf, atO_nat])
  rw [hf]
  clear hf
  go_enter Try.func91, Try.ntmps91
  go_wp2_with fail
  refine (rRank p L k _ H.out).mono ?_
  rintro e w1 ⟨rfl, rfl⟩
  go_wp2_with fail
  refine (rat p L _ _ H.out).mono ?_
  rintro e w2 ⟨rfl, hg⟩
  rw [HF.out]
  go_wp2
  go_ret3
  exact ⟨rfl, hg⟩
set_option maxRecDepth 40000 in
theorem rFloor (p : Option Addr) (L : List Itss) (k : ByteArray) (w : World) (h : RV w p L) (hn : L.length ≤ 1000000) :
    Calls Try.prog 89 #[.pointer p, .string k] w fun e w' => e = .returned (atVss (atO _ L ((up ltS L k : Nat) - 1))) ∧ Gr w w' := by
  have H := Lib.hid h
  have hr := rk_le (lt := ltS) L k
  obtain ⟨x, y, c, hf⟩ := atV_formss (atO _ L ((up ltS L k : Nat) - 1))
  cases hh : hasBss L k with
  | true =>
    have HH := Lib.hid hh
    have HF : Hid (atVss (atO _ L (rk ltS L k : Nat)) = .tuple #[x, y, .bool c]) := Lib.hid (by
      rw [← hf]
      have : ¬ look ltS L k = none := by intro e; unfold hasBss at hh; rw [e] at hh; cases hh
      unfold up
      rw [if_neg this]
      congr 2
      omega)
    rw [hf]
    clear hf h hh
    go_enter Try.func89, Try.ntmps89
    go_wp2_with fail
    refine (rhas p L k _ H.out).mono ?_
    rintro e w1 ⟨rfl, rfl⟩
    rw [HH.out]
    go_wp2_with fail
    refine (rRank p L k _ H.out).mono ?_
    rintro e w1 ⟨rfl, rfl⟩
    go_wp2_with fail
    refine (rat p L _ _ H.out).mono ?_
    rintro e w2 ⟨rfl, hg⟩
    rw [HF.out]
    go_wp2
    go_ret3
    exact ⟨rfl, hg⟩
  | false =>
    have HH := Lib.hid hh
    have HF : Hid (atVss (atO _ L ((rk ltS L k : Nat) - 1)) = .tuple #[x, y, .bool c]) := Lib.hid (by
      rw [← hf]
      have : look ltS L k = none := by
        unfold hasBss at hh
        cases e : look ltS L k with
        | none => rfl
        | some v => rw [e] at hh; cases hh
      unfold up
      rw [if_pos this, Nat.add_zero])
    rw [hf]
    clear hf h hh
    go_enter Try.func89, Try.ntmps89
    go_wp2_with fail
    refine (rhas p L k _ H.out).mono ?_
    rintro e w1 ⟨rfl, rfl⟩
    rw [HH.out]
    go_wp2_with fail
    refine (rRank p L k _ H.out).mono ?_
    rintro e w1 ⟨rfl, rfl⟩
    go_wp2_with fail
    refine (rat p L _ _ H.out).mono ?_
    rintro e w2 ⟨rfl, hg⟩
    rw [HF.out]
    go_wp2
    go_ret3
    exact ⟨rfl, hg⟩
end Go.Proofs.Ytbhkigjmjmfbgaa
