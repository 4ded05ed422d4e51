/- drumlinref24's functions over a reference index. Printed by rl.py. -/
import Derived.Test.YtemjnppplmankaaGreatBd20
import Derived.Test.YtemjnppplmankaaGreatBd15
import Derived.Test.YtemjnppplmankaaGreatBd18
import Derived.Test.YtemjnppplmankaaGreatBd19
import Derived.Test.YtemjnppplmankaaGreatBd17
import Derived.Test.YtemjnppplmankaaGreatBd16
set_option linter.unusedVariables false
set_option linter.unusedSimpArgs false
namespace Go.Proofs.YtemjnppplmankaaGreat
open Go.RowKit Go.Shelf
attribute [local go_sem] OvM cell_ovm obj_ovm
attribute [local go_sem] Oper.semAt_some

theorem tff24 {l : List En} {p : En → Bool} {i : Nat} {x : En} (h : l[i]? = some x) : (l.take (i + 1)).filter p = (l.take i).filter p ++ if p x then [x] else [] := by
  rw [List.take_add_one, h, List.filter_append]
  congr 1
  simp only [Option.toList_some, List.filter_cons, List.filter_nil]
set_option maxRecDepth 40000 in
set_option maxHeartbeats 8000000 in
theorem rneeded {w : World} {p : Option Addr} {X : IX} (h : RP w p X) (e : En) : Calls Tryz.prog 86 #[.pointer p, enV e] w fun r w' => r = .returned (.bool (X.needs e)) ∧ Gr w w' := by
  have HN := Lib.hid (show X.needs e = if (X.of e.key).any (nd1 e) = true then false else if (X.of e.key).any (nd2 e) = true then false else if e.del = false then true else (X.of e.key).any (nd3 e) from rfl)
  have hle : (X.of e.key).length ≤ 16384 := h.ok.of_le e.key
  have HOF : Hid (∀ W, Gr w W → Calls Tryz.prog 121 #[.pointer p, .string e.key] W (fun r w' => ∃ v, r = .returned v ∧ Nw W w' 89 6 v (X.of e.key).length (rowE (X.of e.key)) ∧ Gr W w')) := Lib.hid (fun W g => rpOf (h.gr g) e.key)
  have HD1 := Lib.hid (fun y : En => show nd1 e y = decide (e.seq < y.seq) from rfl)
  have HD2 := Lib.hid (fun y : En => show nd2 e y = decide (y.seq = e.seq ∧ y.slot ≠ e.slot) from rfl)
  have HD3 := Lib.hid (fun y : En => show nd3 e y = decide (y.seq < e.seq ∧ y.slot ≠ e.slot) from rfl)
  generalize X.needs e = B at *
  generalize X.of e.key = L at *
  generalize nd1 e = N1 at *
  generalize nd2 e = N2 at *
  generalize nd3 e = N3 at *
  clear h
  obtain ⟨e0, e1, e2, e3, e4, e5⟩ := e
  simp only [enV] at *
  obtain ⟨w1, hw1⟩ : ∃ y, y = w.alloc (.cells #[.int .i64 e0, .string e1, .bool e2, .int .i64 e3, .int .i64 e4, .int .i64 e5] 89) := ⟨_, rfl⟩
  obtain ⟨b3, hb3⟩ : ∃ q, q = w.heap.size := ⟨_, rfl⟩
  have HG1 : Hid (Gr w w1) := Lib.hid (by rw [hw1]; exact (Gr.refl w).alloc _)
  have HX1 : Hid (w1.heap[b3]? = some (.cells #[.int .i64 e0, .string e1, .bool e2, .int .i64 e3, .int .i64 e4, .int .i64 e5] 89)) := Lib.hid (by rw [hw1, hb3]; exact blkNew _ _)
  go_enter Tryz.func86, Tryz.ntmps86
  go_upto_region 1 with fail
  rw [← hw1, ← hb3]
  clear hw1 hb3
  have d3 := (cellsOf HX1.out).1
  have d31 : w1.cell? ⟨b3, 1, none⟩ = some (.string e1) := d3 1
  clear d3
  go_upto_region 2 with (first
    | (go_at_call 121; refine Calls.mono (HOF.out _ HG1.out) ?_; rintro r w2 ⟨v, rfl, hn, hg⟩; have HN2 := Lib.hid hn; have HG2 := Lib.hid (HG1.out.trans hg); have HX2 := Lib.hid (hg.blk HX1.out); clear hn hg d31; obtain ⟨a5, c5, rfl, hc5, hm5, _⟩ := ownE_at HN2.out.own)
    | fail)
  unfold maxLen at hm5
  go_wp2_with fail
  go_loopw [6, 7] (fun t6 t7 wx => ∃ (i : Nat) (b : Bool), i ≤ L.length ∧ t6 = .bool b ∧ t7 = .int .i64 i ∧ Hid ((L.take i).any N1 = false ∧ (L.take i).any N2 = false ∧ b = (L.take i).any N3 ∧ Gr w2 wx)) (fun _ t7 _ => L.length - (intOf t7).toNat)
  case atStart => exact ⟨0, false, by omega, rfl, by go_num, Lib.hid ⟨rfl, rfl, rfl, Gr.refl _⟩⟩
  case round =>
    obtain ⟨i, b, hil, rfl, rfl, HR⟩ := hrel
    have z3 := (cellsOf (HR.out.2.2.2.blk HX2.out)).1
    have z30 := (z3 0).trans (show _ = some (Value.int .i64 e0) from rfl)
    have z32 := (z3 2).trans (show _ = some (Value.bool e2) from rfl)
    have z33 := (z3 3).trans (show _ = some (Value.int .i64 e3) from rfl)
    clear z3
    by_cases hlt : i < L.length
    · have hlt' : (i : Int) < L.length := by omega
      obtain ⟨x, hx⟩ : ∃ x, L[i]? = some x := ⟨_, List.getElem?_eq_getElem hlt⟩
      obtain ⟨g0, rfl, hg0, y0, y1, y2, y3, y4, y5⟩ := ent6 (HN2.out.own.gr HR.out.2.2.2) hx
      have hxm := List.mem_of_getElem? hx
      have HT1 := Lib.hid (rany_snoc (p := N1) hx)
      have HT2 := Lib.hid (rany_snoc (p := N2) hx)
      have HT3 := Lib.hid (rany_snoc (p := N3) hx)
      have HF1 : Hid (N1 x = true ∨ N2 x = true → B = false) := Lib.hid (fun h => by
        rw [HN.out]
        rcases h with h | h
        · rw [if_pos (List.any_eq_true.2 ⟨x, hxm, h⟩)]
        · split
          · rfl
          · rw [if_pos (List.any_eq_true.2 ⟨x, hxm, h⟩)])
      have HX1' := Lib.hid (HD1.out x)
      have HX2' := Lib.hid (HD2.out x)
      have HX3' := Lib.hid (HD3.out x)
      clear hx hxm
      obtain ⟨x0, x1, x2, x3, x4, x5⟩ := x
      simp only at y0 y1 y2 y3 y4 y5 HX1' HX2' HX3'
      generalize N1 ⟨x0, x1, x2, x3, x4, x5⟩ = v1 at *
      generalize N2 ⟨x0, x1, x2, x3, x4, x5⟩ = v2 at *
      generalize N3 ⟨x0, x1, x2, x3, x4, x5⟩ = v3 at *
      by_cases h1 : e0 < x0
      · have d1 : decide (e0 < x0) = true := decide_eq_true h1
        have HB : Hid (B = false) := Lib.hid (HF1.out (.inl (by rw [HX1'.out]; exact decide_eq_true h1)))
        clear h1
        go_wp2_with fail
        refine wp_region_flo (fun _ => False) [] [] (by kernel_rfl) (by kernel_rfl) (fun _ h => h.elim) ?_
        refine flo_seg 28 rfl ?_
        simp only [List.take_succ_cons, List.take_zero, List.drop_succ_cons, List.drop_zero]
        repeat (go_big_quiet_step (fail))
        refine wpQuiet_nil ?_
        refine flo_nil ?_
        go_wp2_with fail
        go_ret
        exact ⟨ret_bool HB.out.symm, (HG2.out.trans HR.out.2.2.2).trans (Gr.refl _).drew⟩
      · have d1 : decide (e0 < x0) = false := decide_eq_false h1
        by_cases h2 : x0 = e0
        · have b2 : (x0 == e0) = true := beq_iff_eq.2 h2
          by_cases h3 : x3 = e3
          · have b3' : (x3 != e3) = false := by simp [h3]
            have HV : Hid (v1 = false ∧ v2 = false ∧ v3 = false) := Lib.hid ⟨by rw [HX1'.out]; exact decide_eq_false h1, by rw [HX2'.out]; exact decide_eq_false (fun h => h.2 h3), by rw [HX3'.out]; exact decide_eq_false (fun h => h.2 h3)⟩
            have h4 : ¬ x0 < e0 := by omega
            have d4 : decide (x0 < e0) = false := decide_eq_false h4
            clear h2 h3 h1 h4
            cases b with
            | false =>
              go_wp2_with fail
              refine wp_region_flo (fun _ => False) [] [] (by kernel_rfl) (by kernel_rfl) (fun _ h => h.elim) ?_
              refine flo_seg 28 rfl ?_
              simp only [List.take_succ_cons, List.take_zero, List.drop_succ_cons, List.drop_zero]
              repeat (go_big_quiet_step (fail))
              refine wpQuiet_nil ?_
              refine flo_nil ?_
              go_wp2_with fail
              refine wp_region_flo (fun _ => False) [] [] (by kernel_rfl) (by kernel_rfl) (fun _ h => h.elim) ?_
              refine flo_seg 22 rfl ?_
              simp only [List.take_succ_cons, List.take_zero, List.drop_succ_cons, List.drop_zero]
              repeat (go_big_quiet_step (fail))
              refine wpQuiet_nil ?_
              refine flo_nil ?_
              go_wp2_with fail
              go_roundw
              case rel => exact ⟨i + 1, false, by omega, rfl, by go_num, Lib.hid ⟨by rw [HT1.out, HR.out.1, HV.out.1]; rfl, by rw [HT2.out, HR.out.2.1, HV.out.2.1]; rfl, by rw [HT3.out, ← HR.out.2.2.1, HV.out.2.2]; rfl, HR.out.2.2.2.trans ((Gr.refl _).drew).drew⟩⟩
              case measure => simp [intOf]; omega
            | true =>
              go_wp2_with fail
              refine wp_region_flo (fun _ => False) [] [] (by kernel_rfl) (by kernel_rfl) (fun _ h => h.elim) ?_
              refine flo_seg 28 rfl ?_
              simp only [List.take_succ_cons, List.take_zero, List.drop_succ_cons, List.drop_zero]
              repeat (go_big_quiet_step (fail))
              refine wpQuiet_nil ?_
              refine flo_nil ?_
              go_wp2_with fail
              refine wp_region_flo (fun _ => False) [] [] (by kernel_rfl) (by kernel_rfl) (fun _ h => h.elim) ?_
              refine flo_seg 22 rfl ?_
              simp only [List.take_succ_cons, List.take_zero, List.drop_succ_cons, List.drop_zero]
              repeat (go_big_quiet_step (fail))
              refine wpQuiet_nil ?_
              refine flo_nil ?_
              go_wp2_with fail
              go_roundw
              case rel => exact ⟨i + 1, true, by omega, rfl, by go_num, Lib.hid ⟨by rw [HT1.out, HR.out.1, HV.out.1]; rfl, by rw [HT2.out, HR.out.2.1, HV.out.2.1]; rfl, by rw [HT3.out, ← HR.out.2.2.1, HV.out.2.2]; rfl, HR.out.2.2.2.trans ((Gr.refl _).drew).drew⟩⟩
              case measure => simp [intOf]; omega
          · have b3' : (x3 != e3) = true := by simp [h3]
            have HB : Hid (B = false) := Lib.hid (HF1.out (.inr (by rw [HX2'.out]; exact decide_eq_true ⟨h2, h3⟩)))
            clear h2 h3 h1
            go_wp2_with fail
            refine wp_region_flo (fun _ => False) [] [] (by kernel_rfl) (by kernel_rfl) (fun _ h => h.elim) ?_
            refine flo_seg 28 rfl ?_
            simp only [List.take_succ_cons, List.take_zero, List.drop_succ_cons, List.drop_zero]
            repeat (go_big_quiet_step (fail))
            refine wpQuiet_nil ?_
            refine flo_nil ?_
            go_wp2_with fail
            go_ret
            exact ⟨ret_bool HB.out.symm, (HG2.out.trans HR.out.2.2.2).trans (Gr.refl _).drew⟩
        · have b2 : (x0 == e0) = false := beq_false_of_ne h2
          have h4 : x0 < e0 := by omega
          have d4 : decide (x0 < e0) = true := decide_eq_true h4
          by_cases h3 : x3 = e3
          · have b3' : (x3 != e3) = false := by simp [h3]
            have HV : Hid (v1 = false ∧ v2 = false ∧ v3 = false) := Lib.hid ⟨by rw [HX1'.out]; exact decide_eq_false h1, by rw [HX2'.out]; exact decide_eq_false (fun h => h.2 h3), by rw [HX3'.out]; exact decide_eq_false (fun h => h.2 h3)⟩
            clear h2 h3 h1 h4
            cases b with
            | false =>
              go_wp2_with fail
              refine wp_region_flo (fun _ => False) [] [] (by kernel_rfl) (by kernel_rfl) (fun _ h => h.elim) ?_
              refine flo_seg 28 rfl ?_
              simp only [List.take_succ_cons, List.take_zero, List.drop_succ_cons, List.drop_zero]
              repeat (go_big_quiet_step (fail))
              refine wpQuiet_nil ?_
              refine flo_nil ?_
              go_wp2_with fail
              refine wp_region_flo (fun _ => False) [] [] (by kernel_rfl) (by kernel_rfl) (fun _ h => h.elim) ?_
              refine flo_seg 22 rfl ?_
              simp only [List.take_succ_cons, List.take_zero, List.drop_succ_cons, List.drop_zero]
              repeat (go_big_quiet_step (fail))
              refine wpQuiet_nil ?_
              refine flo_nil ?_
              go_wp2_with fail
              go_roundw
              case rel => exact ⟨i + 1, false, by omega, rfl, by go_num, Lib.hid ⟨by rw [HT1.out, HR.out.1, HV.out.1]; rfl, by rw [HT2.out, HR.out.2.1, HV.out.2.1]; rfl, by rw [HT3.out, ← HR.out.2.2.1, HV.out.2.2]; rfl, HR.out.2.2.2.trans ((Gr.refl _).drew).drew⟩⟩
              case measure => simp [intOf]; omega
            | true =>
              go_wp2_with fail
              refine wp_region_flo (fun _ => False) [] [] (by kernel_rfl) (by kernel_rfl) (fun _ h => h.elim) ?_
              refine flo_seg 28 rfl ?_
              simp only [List.take_succ_cons, List.take_zero, List.drop_succ_cons, List.drop_zero]
              repeat (go_big_quiet_step (fail))
              refine wpQuiet_nil ?_
              refine flo_nil ?_
              go_wp2_with fail
              refine wp_region_flo (fun _ => False) [] [] (by kernel_rfl) (by kernel_rfl) (fun _ h => h.elim) ?_
              refine flo_seg 22 rfl ?_
              simp only [List.take_succ_cons, List.take_zero, List.drop_succ_cons, List.drop_zero]
              repeat (go_big_quiet_step (fail))
              refine wpQuiet_nil ?_
              refine flo_nil ?_
              go_wp2_with fail
              go_roundw
              case rel => exact ⟨i + 1, true, by omega, rfl, by go_num, Lib.hid ⟨by rw [HT1.out, HR.out.1, HV.out.1]; rfl, by rw [HT2.out, HR.out.2.1, HV.out.2.1]; rfl, by rw [HT3.out, ← HR.out.2.2.1, HV.out.2.2]; rfl, HR.out.2.2.2.trans ((Gr.refl _).drew).drew⟩⟩
              case measure => simp [intOf]; omega
          · have b3' : (x3 != e3) = true := by simp [h3]
            have HV : Hid (v1 = false ∧ v2 = false ∧ v3 = true) := Lib.hid ⟨by rw [HX1'.out]; exact decide_eq_false h1, by rw [HX2'.out]; exact decide_eq_false (fun h => h2 h.1), by rw [HX3'.out]; exact decide_eq_true ⟨h4, h3⟩⟩
            clear h2 h3 h1 h4
            cases b with
            | false =>
              go_wp2_with fail
              refine wp_region_flo (fun _ => False) [] [] (by kernel_rfl) (by kernel_rfl) (fun _ h => h.elim) ?_
              refine flo_seg 28 rfl ?_
              simp only [List.take_succ_cons, List.take_zero, List.drop_succ_cons, List.drop_zero]
              repeat (go_big_quiet_step (fail))
              refine wpQuiet_nil ?_
              refine flo_nil ?_
              go_wp2_with fail
              refine wp_region_flo (fun _ => False) [] [] (by kernel_rfl) (by kernel_rfl) (fun _ h => h.elim) ?_
              refine flo_seg 22 rfl ?_
              simp only [List.take_succ_cons, List.take_zero, List.drop_succ_cons, List.drop_zero]
              repeat (go_big_quiet_step (fail))
              refine wpQuiet_nil ?_
              refine flo_nil ?_
              go_wp2_with fail
              go_roundw
              case rel => exact ⟨i + 1, true, by omega, rfl, by go_num, Lib.hid ⟨by rw [HT1.out, HR.out.1, HV.out.1]; rfl, by rw [HT2.out, HR.out.2.1, HV.out.2.1]; rfl, by rw [HT3.out, ← HR.out.2.2.1, HV.out.2.2]; rfl, HR.out.2.2.2.trans ((Gr.refl _).drew).drew⟩⟩
              case measure => simp [intOf]; omega
            | true =>
              go_wp2_with fail
              refine wp_region_flo (fun _ => False) [] [] (by kernel_rfl) (by kernel_rfl) (fun _ h => h.elim) ?_
              refine flo_seg 28 rfl ?_
              simp only [List.take_succ_cons, List.take_zero, List.drop_succ_cons, List.drop_zero]
              repeat (go_big_quiet_step (fail))
              refine wpQuiet_nil ?_
              refine flo_nil ?_
              go_wp2_with fail
              refine wp_region_flo (fun _ => False) [] [] (by kernel_rfl) (by kernel_rfl) (fun _ h => h.elim) ?_
              refine flo_seg 22 rfl ?_
              simp only [List.take_succ_cons, List.take_zero, List.drop_succ_cons, List.drop_zero]
              repeat (go_big_quiet_step (fail))
              refine wpQuiet_nil ?_
              refine flo_nil ?_
              go_wp2_with fail
              go_roundw
              case rel => exact ⟨i + 1, true, by omega, rfl, by go_num, Lib.hid ⟨by rw [HT1.out, HR.out.1, HV.out.1]; rfl, by rw [HT2.out, HR.out.2.1, HV.out.2.1]; rfl, by rw [HT3.out, ← HR.out.2.2.1, HV.out.2.2]; rfl, HR.out.2.2.2.trans ((Gr.refl _).drew).drew⟩⟩
              case measure => simp [intOf]; omega
    · have hlt' : ¬ (i : Int) < L.length := by omega
      have HT : Hid (L.any N1 = false ∧ L.any N2 = false ∧ b = L.any N3) := Lib.hid (by
        have h1 := HR.out.1
        have h2 := HR.out.2.1
        have h3 := HR.out.2.2.1
        rw [List.take_of_length_le (by omega)] at h1 h2 h3
        exact ⟨h1, h2, h3⟩)
      have HG := Lib.hid (HG2.out.trans HR.out.2.2.2)
      have HBE : Hid (B = (!e2 || b)) := Lib.hid (by
        rw [HN.out, HT.out.1, HT.out.2.1, HT.out.2.2]
        cases e2 <;> rfl)
      cases e2 with
      | false =>
        go_wp2_with fail
        go_ret
        exact ⟨ret_bool (by rw [HBE.out]; rfl), HG.out⟩
      | true =>
        go_wp2_with fail
        go_ret
        exact ⟨ret_bool (by rw [HBE.out]; rfl), HG.out⟩
set_option maxRecDepth 40000 in
set_option maxHeartbeats 8000000 in
theorem rKeep {w : World} {p : Option Addr} {X : IX} (h : RP w p X) (s : Int) : Calls Tryz.prog 51 #[.pointer p, .int .i64 s] w (KeepPost X s w) := by
  obtain ⟨i0, hi, hz0, hz1, hz2⟩ := info_parts infoIten
  have HLE := Lib.hid (h.ok.slot_le s)
  have HHAS := Lib.hid (show X.has s = decide (0 ≤ s ∧ s < X.slots.length) from rfl)
  have HCP := Lib.hid (rpCopy h)
  have HSL := Lib.hid (fun W (g : Gr w W) => rpSlots (h.gr g))
  have HST := Lib.hid (fun W (g : Gr w W) => rpSlot (h.gr g) s)
  have HNE := Lib.hid (fun e W (g : Gr w W) => rneeded (h.gr g) e)
  clear h
  go_enter Tryz.func51, Tryz.ntmps51
  go_wp2_with fail
  refine Calls.mono HCP.out ?_
  rintro r w1 ⟨⟨q, rfl, hq⟩, hg⟩
  have HG1 := Lib.hid hg
  clear hg
  by_cases h0 : X.slots = []
  · have hq0 := hq.2 h0
    have HC : Hid (keepC X s = 1) := Lib.hid (by unfold keepC; rw [if_pos h0])
    have HL : Hid (keepL X s = []) := Lib.hid (keep_out (by rw [HC.out]; decide))
    clear h0 hq
    subst hq0
    go_wp2_with fail
    go_ret2
    exact ⟨.slice none 0 0, by rw [HC.out] <;> rfl, by rw [HL.out]; exact (Nw.nil w _ _).gr HG1.out, HG1.out⟩
  · obtain ⟨q', rfl⟩ : ∃ q', q = some q' := by
      cases q with
      | none => exact absurd (hq.1 rfl) h0
      | some q' => exact ⟨q', rfl⟩
    have HNN := Lib.hid h0
    clear h0 hq
    cases hs : X.has s with
    | false =>
      have HC : Hid (keepC X s = 3) := Lib.hid (by unfold keepC; rw [if_neg HNN.out, if_pos hs])
      have HL : Hid (keepL X s = []) := Lib.hid (keep_out (by rw [HC.out]; decide))
      have hh := HHAS.out
      rw [hs] at hh
      have hh' : ¬ (0 ≤ s ∧ s < X.slots.length) := of_decide_eq_false hh.symm
      clear hs hh
      by_cases hs0 : s < 0
      · go_wp2_with fail
        go_ret2
        exact ⟨.slice none 0 0, by rw [HC.out] <;> rfl, by rw [HL.out]; exact (Nw.nil w _ _).gr HG1.out, HG1.out⟩
      · have hs1 : (X.slots.length : Int) ≤ s := by omega
        clear hh'
        go_wp2_with (go_at_call 23; refine Calls.mono (HSL.out _ HG1.out) ?_; rintro r w2 ⟨rfl, rfl⟩)
        go_ret2
        exact ⟨.slice none 0 0, by rw [HC.out] <;> rfl, by rw [HL.out]; exact (Nw.nil w _ _).gr HG1.out, HG1.out⟩
    | true =>
      have HC : Hid (keepC X s = 0) := Lib.hid (by unfold keepC; rw [if_neg HNN.out, if_neg (by rw [hs]; simp)])
      have hh := HHAS.out
      rw [hs] at hh
      obtain ⟨hs0, hs1⟩ := of_decide_eq_true hh.symm
      have hs0' : ¬ s < 0 := by omega
      have hs1' : ¬ (X.slots.length : Int) ≤ s := by omega
      clear hs hh hs0 hs1
      have HKL : Hid (keepL X s = (X.slot s).filter X.needs) := Lib.hid rfl
      have hle := HLE.out
      go_wp2_with (first
        | (go_at_call 23; refine Calls.mono (HSL.out _ HG1.out) ?_; rintro r w2 ⟨rfl, rfl⟩)
        | (go_at_call 49; refine Calls.mono (HST.out _ HG1.out) ?_; rintro r w2 ⟨v, rfl, hn, hg⟩; have HN2 := Lib.hid hn; have HG2 := Lib.hid (HG1.out.trans hg); clear hn hg)
        | fail)
      obtain ⟨av, cv, rfl, _, _, _⟩ := ownE_at HN2.out.own
      obtain ⟨L, hL⟩ : ∃ L, L = X.slot s := ⟨_, rfl⟩
      obtain ⟨p2, hp2⟩ : ∃ p2, p2 = X.needs := ⟨_, rfl⟩
      have HNP := Lib.hid (fun e : En => congrFun hp2 e)
      have HLL := Lib.hid hL
      have HPP := Lib.hid hp2
      rw [← hL] at HN2 hle
      rw [← hL]
      clear hL hp2 HLE HST HHAS
      go_loopw [6, 8] (fun t6 t8 wx => ∃ (i : Nat) (a6 : Option Addr) (c6 : Nat), i ≤ L.length ∧ t6 = .slice a6 ((L.take i).filter p2).length c6 ∧ t8 = .int .i64 i ∧ Hid (Nw w wx 89 6 (.slice a6 ((L.take i).filter p2).length c6) ((L.take i).filter p2).length (rowE ((L.take i).filter p2)) ∧ Own wx 89 6 (.slice av L.length cv) L.length (rowE L) ∧ Gr w wx ∧ (∀ q, (Value.slice a6 ((L.take i).filter p2).length c6).ownBlock = some q → (Value.slice av L.length cv).ownBlock ≠ some q))) (fun _ t8 _ => L.length - (intOf t8).toNat)
      case atStart => exact ⟨0, none, 0, by omega, rfl, by go_num, Lib.hid ⟨(Nw.nil w _ _).gr HG2.out, HN2.out.own, HG2.out, fun q h => by cases h⟩⟩
      case round =>
        obtain ⟨i, a6, c6, hil, rfl, rfl, HR⟩ := hrel
        have HGR := Lib.hid HR.out.2.2.1
        by_cases hlt : i < L.length
        · have hlt' : (i : Int) < L.length := by omega
          obtain ⟨x, hx⟩ : ∃ x, L[i]? = some x := ⟨_, List.getElem?_eq_getElem hlt⟩
          have HTF := Lib.hid (tff24 (p := p2) hx)
          have hfl : ((L.take i).filter p2).length ≤ 512 := by
            have h1 := List.length_filter_le p2 (L.take i)
            rw [List.length_take] at h1
            omega
          have HX := Lib.hid hx
          have HQ := Lib.hid (HNP.out x)
          have HNX := Lib.hid (HNE.out x)
          have HCE := Lib.hid (show ∀ W, Own W 89 6 (.slice av L.length cv) L.length (rowE L) → ∃ g, av = some ⟨g, 0, none⟩ ∧ g < W.heap.size ∧ W.cell? ⟨g, i * 6, none⟩ = some (.int .i64 x.seq) ∧ W.cell? ⟨g, i * 6 + 1, none⟩ = some (.string x.key) ∧ W.cell? ⟨g, i * 6 + 2, none⟩ = some (.bool x.del) ∧ W.cell? ⟨g, i * 6 + 3, none⟩ = some (.int .i64 x.slot) ∧ W.cell? ⟨g, i * 6 + 4, none⟩ = some (.int .i64 x.off) ∧ W.cell? ⟨g, i * 6 + 5, none⟩ = some (.int .i64 x.size) from fun W g => ent6 g HX.out)
          generalize (L.take i).filter p2 = fl at *
          clear hx
          obtain ⟨g0, rfl, hg0, y0, y1, y2, y3, y4, y5⟩ := HCE.out _ HR.out.2.1
          obtain ⟨x0, x1, x2, x3, x4, x5⟩ := x
          simp only [enV] at HNX
          simp only at y0 y1 y2 y3 y4 y5
          go_wp2_with fail
          refine Calls.mono (HNX.out _ HGR.out) ?_
          rintro r w4 ⟨rfl, hg⟩
          rw [← HQ.out]
          have HL4 := Lib.hid (HR.out.2.1.gr hg)
          have HGW := Lib.hid (HGR.out.trans hg)
          have HN4 := Lib.hid (HR.out.1.gr hg)
          clear hg y0 y1 y2 y3 y4 y5
          cases hq : p2 ⟨x0, x1, x2, x3, x4, x5⟩ with
          | false =>
            have HQF := Lib.hid hq
            clear hq
            go_wp2_with fail
            go_roundw
            case rel => exact ⟨i + 1, a6, c6, by omega, by rw [HTF.out, HQF.out, if_neg (by decide), List.append_nil], by go_num, Lib.hid ⟨by rw [HTF.out, HQF.out, if_neg (by decide), List.append_nil]; exact HN4.out, HL4.out, HGW.out, by rw [HTF.out, HQF.out, if_neg (by decide), List.append_nil]; exact HR.out.2.2.2⟩⟩
            case measure => simp [intOf]; omega
          | true =>
            have HQF := Lib.hid hq
            clear hq
            obtain ⟨g1, hge, hg1, y0, y1, y2, y3, y4, y5⟩ := HCE.out _ HL4.out
            injection hge with hge
            injection hge with hge
            subst hge
            (try simp only at y0 y1 y2 y3 y4 y5)
            go_wp2_with (first
              | (at_builtin; go_must (refine wpList_appv _ rfl (.tmp 35) (.tmp 40) 37 rfl 89 i0 _ 6 56 Tryz.underlying37 hi hz0 hz1 hz2 rfl (by decide) (.slice a6 fl.length c6) fl.length (rowE fl) rfl (HN4.out.own.gr (by (repeat (first | (with_reducible exact Gr.refl _) | assumption | (with_reducible apply Gr.from_drew) | (with_reducible apply Gr.alloc) | (with_reducible apply Gr.drew) | (with_reducible refine Gr.trans ?_ (by assumption)) | (with_reducible refine Gr.setCell ?_ (by omega) _))))) (some ⟨w4.heap.size, 0, none⟩) 1 1 (enC ⟨x0, x1, x2, x3, x4, x5⟩) rfl (src_newK w4 (enC ⟨x0, x1, x2, x3, x4, x5⟩) _ 6 rfl (enC_one _)) (by simp only [maxLen]; omega) (by omega) ?_); intro v3 w6 hA; have N6 := Lib.hid (hA.nw (HN4.out.gr ((Gr.refl w4).alloc _)) (by have := HGW.out.sz; simp; omega)); have HG6 := Lib.hid (hA.gw (HN4.out.gr ((Gr.refl w4).alloc _)) (HGW.out.alloc _)); have HL6 := Lib.hid ((HL4.out.gr ((Gr.refl w4).alloc _)).mdh (hA.mdh (S := fun q => (Value.slice a6 fl.length c6).ownBlock = some q) (fun g h => h)) (fun q hq hs => HR.out.2.2.2 q hs hq)); have HD6 := Lib.hid (fun q (hq : v3.ownBlock = some q) => (hA.2.1 q hq).elim (fun h => HR.out.2.2.2 q h) (fun h hs => by have := HL4.out.lt hs; simp at h; omega)); obtain ⟨a7, c7, rfl⟩ := hA.val; clear hA)
              | fail)
            go_roundw
            case rel => exact ⟨i + 1, a7, c7, by omega, by rw [HTF.out, HQF.out, if_pos rfl, List.length_append]; rfl, by go_num, Lib.hid ⟨by rw [HTF.out, HQF.out, if_pos rfl, List.length_append, rowE_snoc]; exact N6.out, HL6.out, HG6.out, by rw [HTF.out, HQF.out, if_pos rfl, List.length_append]; exact HD6.out⟩⟩
            case measure => simp [intOf]; omega
        · have hlt' : ¬ (i : Int) < L.length := by omega
          have HNZ : Hid (L.take i = L) := Lib.hid (List.take_of_length_le (by omega))
          have HNF := Lib.hid HR.out.1
          rw [HNZ.out] at HNF ⊢
          go_wp2_with fail
          go_ret2
          exact ⟨.slice a6 (L.filter p2).length c6, by rw [HC.out] <;> rfl, by rw [HKL.out, ← HPP.out, ← HLL.out]; exact HNF.out, HGR.out⟩
set_option maxRecDepth 40000 in
set_option maxHeartbeats 4000000 in
theorem rSize {w : World} {p : Option Addr} {X : IX} (h : RP w p X) (s : Int) : Calls Tryz.prog 26 #[.pointer p, .int .i64 s] w fun e w' => e = .returned (.tuple #[.int .i64 (sumZ (keepL X s)), .int .i64 (keepC X s)]) ∧ Gr w w' := by
  obtain ⟨hk1, hk2⟩ := keepL_ok h.ok s
  have HK := Lib.hid (rKeep h s)
  obtain ⟨L, hL⟩ : ∃ L, L = keepL X s := ⟨_, rfl⟩
  have HL := Lib.hid hL
  obtain ⟨c, hc⟩ : ∃ c, c = keepC X s := ⟨_, rfl⟩
  have HC := Lib.hid hc
  rw [← hc]
  rw [← hL]
  rw [← hL] at hk1 hk2
  have HK2 := Lib.hid hk2
  clear h hk2 hL hc
  go_enter Tryz.func26, Tryz.ntmps26
  go_wp2_with fail
  refine Calls.mono HK.out ?_
  rintro e w1 ⟨v, rfl, hr, hg⟩
  rw [← HL.out] at hr
  rw [← HC.out]
  obtain ⟨a, cap, rfl, _, hcm, hat⟩ := ownE_at hr.own
  have HAT := Lib.hid hat
  have HG := Lib.hid hg
  unfold maxLen at hcm
  clear hr hat hg
  go_wp2_with fail
  go_loopw [8, 9] (fun t8 t9 wx => ∃ k : Nat, k ≤ L.length ∧ t9 = .int .i64 k ∧ t8 = .int .i64 (sumZ (L.take k)) ∧ Hid (Gr w1 wx)) (fun _ t9 _ => L.length - (intOf t9).toNat)
  case atStart => exact ⟨0, by omega, rfl, rfl, Lib.hid (Gr.refl _)⟩
  case round =>
    obtain ⟨k, hk, rfl, rfl, HR⟩ := hrel
    by_cases hlt : k < L.length
    · have hlt' : (k : Int) < L.length := by omega
      have hx : L[k]? = some (L[k]'hlt) := List.getElem?_eq_getElem hlt
      obtain ⟨g, rfl, z1, z2, hc⟩ := HAT.out k _ hx
      clear z1 z2
      have hv := HK2.out _ (List.mem_of_getElem? hx)
      have hs := sumZ_le (L.take k) (take_sub HK2.out)
      rw [List.length_take] at hs
      have HSN : Hid (sumZ (L.take (k + 1)) = sumZ (L.take k) + (L[k]'hlt).size) := Lib.hid (by rw [List.take_add_one, hx]; exact sumZ_snoc _ _)
      generalize L[k]'hlt = x at *
      generalize sumZ (L.take k) = m at *
      have hr : ∀ i u, (enC x)[i]? = some u → wr.cell? ⟨g, k * 6 + i, none⟩ = some u := fun i u hu => HR.out.keep (hc i u hu)
      have d5 := hr 5 _ rfl
      obtain ⟨hv1, hv2⟩ := hv
      obtain ⟨hs1, hs2⟩ := hs
      have hs3 : m ≤ 8192 * 512 := by omega
      clear hr hc hx hs2
      go_wp2
      go_roundw
      case rel => exact ⟨k + 1, by omega, by go_num, by rw [HSN.out] <;> go_num, HR⟩
      case measure => simp [intOf]; omega
    · have hlt' : ¬ (k : Int) < L.length := by omega
      have hkl : k = L.length := by omega
      have HS : Hid (sumZ (L.take k) = sumZ L) := Lib.hid (by rw [List.take_of_length_le (by omega)])
      clear hkl
      go_wp2
      go_ret2
      exact ⟨by rw [HS.out] <;> rfl, HG.out.trans HR.out⟩
end Go.Proofs.YtemjnppplmankaaGreat

/- drumlinref26.Sides, at any configuration. -/
set_option linter.unusedVariables false
set_option linter.unusedSimpArgs false
namespace Go.Proofs.YtemjnppplmankaaGreat
open Go.RowKit Go.Shelf
attribute [local go_sem] OvM cell_ovm obj_ovm
attribute [local go_sem] Oper.semAt_some

theorem infoRd : (Tryz.prog.info? 45).map (fun i => (i.zero, i.size, i.bytes)) = some (some (.agg #[.int .i64 0, .int .i64 0, .int .i64 0]), 3, 24) := by kernel_rfl
def RsP (X : IX) (c : Cfg) (l : List Int) (next : Int) (w : World) (e : Ending) (w' : World) : Prop :=
  ∃ v, e = .returned (.tuple #[v, .int .i64 (vCode X c l next true)]) ∧ Nw w w' 45 3 v (vSides X c l next true).length (rowS (vSides X c l next true)) ∧ Gr w w'
theorem rsP_bad {X : IX} {c : Cfg} {l : List Int} {next k : Int} {w w' : World} (hk : k ≠ 0) (h : vchkC X.slots.length c l next true = k) (g : Gr w w') : RsP X c l next w (.returned (.tuple #[.slice none 0 0, .int .i64 k])) w' := by
  have h0 : ¬ vchkC X.slots.length c l next true = 0 := by rw [h]; exact hk
  refine ⟨_, by unfold vCode; rw [if_neg h0, h], ?_, g⟩
  have e : vSides X c l next true = [] := by unfold vSides; rw [if_neg h0]
  rw [e]
  exact Nw.nil2 g
theorem rsP_no {X : IX} {c : Cfg} {l : List Int} {next s : Int} {w w' : World} (h : vchkC X.slots.length c l next true = 0) (hs : s ∈ l) (hc : chkS (c.size - 16) (sideOf X next s) = false) (g : Gr w w') : RsP X c l next w (.returned (.tuple #[.slice none 0 0, .int .i64 2])) w' := by
  have h3 : ¬ (sidesL X next l).all (chkS (c.size - 16)) = true := fun hh => by
    have := List.all_eq_true.1 hh _ (List.mem_map.2 ⟨s, hs, rfl⟩)
    rw [hc] at this
    cases this
  refine ⟨_, by unfold vCode sidesC; rw [if_pos h, if_neg h3], ?_, g⟩
  have e : vSides X c l next true = [] := by unfold vSides sidesK; rw [if_pos h, if_neg h3]
  rw [e]
  exact Nw.nil2 g
theorem rsP_yes {X : IX} {c : Cfg} {l : List Int} {next : Int} {w w' : World} {v : Value} {n : Nat} (hn : l.length = n) (h : vchkC X.slots.length c l next true = 0) (hc : (sidesL X next l).all (chkS (c.size - 16)) = true) (hv : Nw w w' 45 3 v n (rowS (sidesL X next l))) (g : Gr w w') : RsP X c l next w (.returned (.tuple #[v, .int .i64 0])) w' := by
  refine ⟨_, by unfold vCode sidesC; rw [if_pos h, if_pos hc], ?_, g⟩
  have e : vSides X c l next true = sidesL X next l := by unfold vSides sidesK; rw [if_pos h, if_pos hc]
  rw [e, sidesL_len, hn]
  exact hv
theorem vchk_all {n : Nat} {c : Cfg} {l : List Int} {next : Int} (h : argC n c next true = true) (h2 : ∀ s ∈ l, okS n s = true) (h3 : l.Nodup) : vchkC n c l next true = 0 := by
  have h2' : l.all (okS n) = true := List.all_eq_true.2 h2
  unfold vchkC
  rw [if_neg (by rw [h]; simp), if_neg (by rw [h2']; simp), if_neg (by simpa using h3)]
theorem vchk_two {n : Nat} {c : Cfg} {l : List Int} {next : Int} (h : argC n c next true = false) : vchkC n c l next true = 2 := if_pos h
theorem vchk_three {n : Nat} {c : Cfg} {l : List Int} {next s : Int} (h : argC n c next true = true) (hs : s ∈ l) (h2 : okS n s = false) : vchkC n c l next true = 3 := by
  unfold vchkC
  rw [if_neg (by rw [h]; simp), if_pos (List.all_eq_false.2 ⟨s, hs, by rw [h2]; simp⟩)]
theorem vchk_six {n : Nat} {c : Cfg} {l : List Int} {next : Int} (h : argC n c next true = true) (h2 : ∀ s ∈ l, okS n s = true) (h3 : ¬ l.Nodup) : vchkC n c l next true = 6 := by
  have h2' : l.all (okS n) = true := List.all_eq_true.2 h2
  unfold vchkC
  rw [if_neg (by rw [h]; simp), if_neg (by rw [h2']; simp), if_pos (by simpa using h3)]
theorem take_all {p : Int → Prop} {l : List Int} {k : Nat} {s : Int} (h : ∀ x ∈ l.take k, p x) (hx : l[k]? = some s) (hs : p s) : ∀ x ∈ l.take (k + 1), p x := fun x hm => by
  rw [List.take_add_one, hx] at hm
  rcases List.mem_append.1 hm with hm | hm
  · exact h x hm
  · simp at hm; subst hm; exact hs
theorem take_nod {l : List Int} {k : Nat} {s : Int} (h : (l.take k).Nodup) (hx : l[k]? = some s) (hs : ∀ x ∈ l.take k, x ≠ s) : (l.take (k + 1)).Nodup := by
  rw [List.take_add_one, hx]
  refine List.nodup_append.2 ⟨h, by simp, fun a ha b hb => ?_⟩
  simp at hb
  subst hb
  exact hs a ha
theorem not_nod {l : List Int} {i k : Nat} {s : Int} (hik : k < i) (h1 : l[i]? = some s) (h2 : l[k]? = some s) : ¬ l.Nodup := fun h => by
  obtain ⟨a1, b1⟩ := List.getElem?_eq_some_iff.1 h1
  obtain ⟨a2, b2⟩ := List.getElem?_eq_some_iff.1 h2
  exact List.pairwise_iff_getElem.1 h k i a2 a1 hik (b2.trans b1.symm)
set_option maxRecDepth 40000 in
set_option maxHeartbeats 16000000 in
theorem rSides26 {w : World} {p : Option Addr} {X : IX} (h : RP w p X) (hne : X.slots ≠ []) (c : Cfg) (a : Option Addr) (len cap : Nat) (l : List Int) (hl : l.length = len) (hle : len ≤ cap) (hcap : cap ≤ maxLen) (h100 : len ≤ 100) (hs : NumAt w a l) (next : Int) :
    Calls Tryz.prog 8 #[.pointer p, cfgV c, .slice a len cap, .int .i64 next] w (RsP X c l next w) := by
  have HS := Lib.hid hs
  have HLN := Lib.hid hl
  have HRM := Lib.hid (fun (w : World) => rRoom17 c w)
  have hn32 : X.slots.length ≤ 32 := h.ok.n
  have hn0 : X.slots.length ≠ 0 := fun h0 => hne (List.eq_nil_of_length_eq_zero h0)
  have HSL := Lib.hid (fun (w' : World) (g : Gr w w') => rpSlots (h.gr g))
  have HOF : Hid (∀ s, okS X.slots.length s = true → ∀ w1, Gr w w1 → Calls Tryz.prog 25 #[.pointer p, .int .i64 s] w1 fun e w' => e = .returned (.tuple #[byV (byOf X s), .int .i64 0]) ∧ Gr w1 w') := Lib.hid (fun s hsm w1 g => by
    have := rOf23 (h.gr g) s
    have e : ofL X s = (byOf X s, 0) := by
      unfold okS at hsm
      simp only [Bool.and_eq_true, decide_eq_true_eq] at hsm
      unfold ofL
      rw [if_neg hn0, if_neg (by omega)]
    rw [e] at this
    exact this)
  have HSZ : Hid (∀ s, okS X.slots.length s = true → ∀ w1, Gr w w1 → Calls Tryz.prog 26 #[.pointer p, .int .i64 s] w1 fun e w' => e = .returned (.tuple #[.int .i64 (sumZ (keepL X s)), .int .i64 0]) ∧ Gr w1 w') := Lib.hid (fun s hsm w1 g => by
    have := rSize (h.gr g) s
    have hx : X.has s = true := has_okS (l := [s]) (by simpa using hsm) s (by simp)
    have e : keepC X s = 0 := by unfold keepC; rw [if_neg hne, if_neg (by rw [hx]; simp)]
    rw [e] at this
    exact this)
  have HBL := Lib.hid (fun s => by_last h.ok s)
  have HSO : Hid (∀ s, sideOf X next s = (s, sumZ (keepL X s), next - (byOf X s).last)) := Lib.hid (fun _ => rfl)
  obtain ⟨n, hn⟩ : ∃ n, n = X.slots.length := ⟨_, rfl⟩
  have HQ2 : Hid (argC n c next true = false → ∀ w', Gr w w' → RsP X c l next w (.returned (.tuple #[.slice none 0 0, .int .i64 2])) w') := Lib.hid (fun h1 w' g => rsP_bad (by decide) (vchk_two (by rw [← hn]; exact h1)) g)
  have HQ3 : Hid (argC n c next true = true → ∀ s ∈ l, okS n s = false → ∀ w', Gr w w' → RsP X c l next w (.returned (.tuple #[.slice none 0 0, .int .i64 3])) w') := Lib.hid (fun h1 s h2 h3 w' g => rsP_bad (by decide) (vchk_three (by rw [← hn]; exact h1) h2 (by rw [← hn]; exact h3)) g)
  have HQ6 : Hid (argC n c next true = true → (∀ s ∈ l, okS n s = true) → ¬ l.Nodup → ∀ w', Gr w w' → RsP X c l next w (.returned (.tuple #[.slice none 0 0, .int .i64 6])) w') := Lib.hid (fun h1 h2 h3 w' g => rsP_bad (by decide) (vchk_six (by rw [← hn]; exact h1) (by rw [← hn]; exact h2) h3) g)
  have HQN : Hid (argC n c next true = true → (∀ s ∈ l, okS n s = true) → l.Nodup → ∀ s ∈ l, chkS (c.size - 16) (sideOf X next s) = false → ∀ w', Gr w w' → RsP X c l next w (.returned (.tuple #[.slice none 0 0, .int .i64 2])) w') := Lib.hid (fun h1 h2 h3 s h4 h5 w' g => rsP_no (vchk_all (by rw [← hn]; exact h1) (by rw [← hn]; exact h2) h3) h4 h5 g)
  have HQ0 : Hid (argC n c next true = true → (∀ s ∈ l, okS n s = true) → l.Nodup → (sidesL X next l).all (chkS (c.size - 16)) = true → ∀ v w', Nw w w' 45 3 v len (rowS (sidesL X next l)) → Gr w w' → RsP X c l next w (.returned (.tuple #[v, .int .i64 0])) w') := Lib.hid (fun h1 h2 h3 h4 v w' h5 g => rsP_yes hl (vchk_all (by rw [← hn]; exact h1) (by rw [← hn]; exact h2) h3) h4 h5 g)
  have HTK := Lib.hid (fun (k : Nat) (s : Int) (hx : l[k]? = some s) => sidesL_take (X := X) (next := next) hx)
  have HFL : Hid (sidesL X next (l.take len) = sidesL X next l) := Lib.hid (by rw [← hl, List.take_length])
  have HL0 : Hid (sidesL X next (l.take 0) = []) := Lib.hid rfl
  generalize RsP X c l next w = Q at *
  rw [← hn] at hn32 hn0 HSL HOF HSZ
  clear h hs hne hn hl
  unfold maxLen at hcap
  have HAG : Hid (argC n c next true = (cfgOk c && true && decide (c.slots = n) && decide (1 ≤ next) && decide (next ≤ 1099511627776))) := Lib.hid rfl
  obtain ⟨ag, hag⟩ : ∃ ag, ag = argC n c next true := ⟨_, rfl⟩
  rw [← hag] at HQ2 HQ3 HQ6 HQN HQ0 HAG
  clear hag
  obtain ⟨ok, hok⟩ : ∃ ok, ok = cfgOk c := ⟨_, rfl⟩
  rw [← hok] at HRM HAG
  clear hok
  obtain ⟨i0, hi, hz0, hz1, hz2⟩ := info_parts infoRd
  obtain ⟨c0, c1, c2, c3, c4, c5, c6⟩ := c
  simp only [cfgV] at HRM ⊢
  simp only at HQN HQ0 HAG
  go_enter Tryz.func8, Tryz.ntmps8
  go_upto_region 1 with fail
  obtain ⟨b0, hb0⟩ : ∃ q, q = w.heap.size := ⟨_, rfl⟩
  obtain ⟨w0, hw0⟩ : ∃ y, y = w.alloc (cfgO ⟨c0, c1, c2, c3, c4, c5, c6⟩) := ⟨_, rfl⟩
  have H0 : Hid (SW w [blkA b0 (cfgO ⟨c0, c1, c2, c3, c4, c5, c6⟩)] w0) := Lib.hid (by rw [hw0, hb0]; exact (SW.start w).alloc _)
  (try simp only [cfgO] at hw0)
  rw [← hw0, ← hb0]
  clear hw0 hb0
  have d0 := (cellsOf (show w0.heap[b0]? = _ from H0.out.get (i := 0) rfl)).1
  (try simp only [cfgO] at d0)
  go_wp2_with fail
  refine Calls.mono (HSL.out _ H0.out.g) ?_
  rintro e w1 ⟨rfl, rfl⟩
  have hnz : ¬ ((n : Int) = 0) := by omega
  cases ok with
  | false =>
    have HV := Lib.hid (HQ2.out (by rw [HAG.out]; simp))
    clear HAG HQ2 HQ3 HQ6 HQN HQ0
    go_wp2_with (go_at_call 24; refine Calls.mono (HRM.out _) ?_; rintro e w1 ⟨rfl, hg⟩; have HG1 := Lib.hid hg; clear hg)
    (try simp only [Bool.false_eq_true, if_false])
    refine wp_region_flo (fun _ => False) [] [] (by kernel_rfl) (by kernel_rfl) (fun _ h => h.elim) ?_
    refine flo_seg 6 rfl ?_
    simp only [List.take_succ_cons, List.take_zero, List.drop_succ_cons, List.drop_zero]
    repeat (go_big_quiet_step (fail))
    refine wpQuiet_nil ?_
    refine flo_pass rfl rfl rfl ?_
    (try go_simp)
    refine flo_seg 10 rfl ?_
    simp only [List.take_succ_cons, List.take_zero, List.drop_succ_cons, List.drop_zero]
    repeat (go_big_quiet_step (fail))
    refine wpQuiet_nil ?_
    refine flo_nil ?_
    have HE := Lib.hid (HV.out _ (H0.out.g.trans (HG1.out.trans (Gr.refl w1).drew)))
    go_wp2_with fail
    exact HE.out
  | true =>
    go_wp2_with (go_at_call 24; refine Calls.mono (HRM.out _) ?_; rintro e w1 ⟨rfl, hg⟩; have HG1 := Lib.hid hg; clear hg)
    (try simp only [if_true])
    have H1 := Lib.hid (H0.out.gr HG1.out)
    have d0 := (cellsOf (show w1.heap[b0]? = _ from H1.out.get (i := 0) rfl)).1
    (try simp only [cfgO] at d0)
    by_cases hsn : ¬ c0 = (n : Int)
    · have hb : (c0 != (n : Int)) = true := by simp [hsn]
      have HV := Lib.hid (HQ2.out (by rw [HAG.out]; simp; omega))
      clear HAG HQ2 HQ3 HQ6 HQN HQ0
      refine wp_region_flo (fun _ => False) [] [] (by kernel_rfl) (by kernel_rfl) (fun _ h => h.elim) ?_
      refine flo_seg 6 rfl ?_
      simp only [List.take_succ_cons, List.take_zero, List.drop_succ_cons, List.drop_zero]
      repeat (go_big_quiet_step (fail))
      refine wpQuiet_nil ?_
      refine flo_eff rfl rfl rfl rfl (fun K hK => ?_)
      go_wp2_with ((go_at_call 23; refine Calls.mono (HSL.out _ (H1.out.g.trans (Gr.refl w1).drew)) ?_; rintro e w2 ⟨rfl, rfl⟩))
      refine ⟨by exact (Gr.refl _).mdh _, ?_⟩
      refine flo_seg 10 rfl ?_
      simp only [List.take_succ_cons, List.take_zero, List.drop_succ_cons, List.drop_zero]
      repeat (go_big_quiet_step (fail))
      refine wpQuiet_nil ?_
      refine flo_nil ?_
      have HE := Lib.hid (HV.out _ (H0.out.g.trans (HG1.out.trans (Gr.refl w1).drew)))
      go_wp2_with fail
      exact HE.out
    have hsn' : c0 = (n : Int) := by omega
    have hb : (c0 != (n : Int)) = false := by simp [hsn']
    by_cases hq1 : next < 1
    · have hq1' : next < 1 := hq1
      have HV := Lib.hid (HQ2.out (by rw [HAG.out]; simp; omega))
      clear HAG HQ2 HQ3 HQ6 HQN HQ0
      refine wp_region_flo (fun _ => False) [] [] (by kernel_rfl) (by kernel_rfl) (fun _ h => h.elim) ?_
      refine flo_seg 6 rfl ?_
      simp only [List.take_succ_cons, List.take_zero, List.drop_succ_cons, List.drop_zero]
      repeat (go_big_quiet_step (fail))
      refine wpQuiet_nil ?_
      refine flo_eff rfl rfl rfl rfl (fun K hK => ?_)
      go_wp2_with ((go_at_call 23; refine Calls.mono (HSL.out _ (H1.out.g.trans (Gr.refl w1).drew)) ?_; rintro e w2 ⟨rfl, rfl⟩))
      refine ⟨by exact (Gr.refl _).mdh _, ?_⟩
      refine flo_seg 10 rfl ?_
      simp only [List.take_succ_cons, List.take_zero, List.drop_succ_cons, List.drop_zero]
      repeat (go_big_quiet_step (fail))
      refine wpQuiet_nil ?_
      refine flo_nil ?_
      have HE := Lib.hid (HV.out _ (H0.out.g.trans (HG1.out.trans (Gr.refl w1).drew)))
      go_wp2_with fail
      exact HE.out
    have hd1 : decide (next < 1) = false := decide_eq_false hq1
    by_cases hq2 : 1099511627776 < next
    · have hd2 : decide (1099511627776 < next) = true := decide_eq_true hq2
      have HV := Lib.hid (HQ2.out (by rw [HAG.out]; simp; omega))
      clear HAG HQ2 HQ3 HQ6 HQN HQ0
      refine wp_region_flo (fun _ => False) [] [] (by kernel_rfl) (by kernel_rfl) (fun _ h => h.elim) ?_
      refine flo_seg 6 rfl ?_
      simp only [List.take_succ_cons, List.take_zero, List.drop_succ_cons, List.drop_zero]
      repeat (go_big_quiet_step (fail))
      refine wpQuiet_nil ?_
      refine flo_eff rfl rfl rfl rfl (fun K hK => ?_)
      go_wp2_with ((go_at_call 23; refine Calls.mono (HSL.out _ (H1.out.g.trans (Gr.refl w1).drew)) ?_; rintro e w2 ⟨rfl, rfl⟩))
      refine ⟨by exact (Gr.refl _).mdh _, ?_⟩
      refine flo_seg 10 rfl ?_
      simp only [List.take_succ_cons, List.take_zero, List.drop_succ_cons, List.drop_zero]
      repeat (go_big_quiet_step (fail))
      refine wpQuiet_nil ?_
      refine flo_nil ?_
      have HE := Lib.hid (HV.out _ (H0.out.g.trans (HG1.out.trans (Gr.refl w1).drew)))
      go_wp2_with fail
      exact HE.out
    have hd2 : decide (1099511627776 < next) = false := decide_eq_false hq2
    have hag : ag = true := by rw [HAG.out]; simp; omega
    refine wp_region_flo (fun _ => False) [] [] (by kernel_rfl) (by kernel_rfl) (fun _ h => h.elim) ?_
    refine flo_seg 6 rfl ?_
    simp only [List.take_succ_cons, List.take_zero, List.drop_succ_cons, List.drop_zero]
    repeat (go_big_quiet_step (fail))
    refine wpQuiet_nil ?_
    refine flo_eff rfl rfl rfl rfl (fun K hK => ?_)
    go_wp2_with ((go_at_call 23; refine Calls.mono (HSL.out _ (H1.out.g.trans (Gr.refl w1).drew)) ?_; rintro e w2 ⟨rfl, rfl⟩))
    refine ⟨by exact (Gr.refl _).mdh _, ?_⟩
    refine flo_seg 10 rfl ?_
    simp only [List.take_succ_cons, List.take_zero, List.drop_succ_cons, List.drop_zero]
    repeat (go_big_quiet_step (fail))
    refine wpQuiet_nil ?_
    refine flo_nil ?_
    have HQ3' := Lib.hid (HQ3.out hag)
    have HQ6' := Lib.hid (HQ6.out hag)
    have HQN' := Lib.hid (HQN.out hag)
    have HQ0' := Lib.hid (HQ0.out hag)
    have HW1 := Lib.hid (H0.out.g.trans (HG1.out.trans (Gr.refl w1).drew))
    clear HQ2 HQ3 HQ6 HQN HQ0 HAG hag d0 H0 H1 HG1 hb hsn hd1 hd2 HRM
    generalize w1.drew = wa at *
    go_wp2_with fail
    go_loopw [12] (fun t12 wx => ∃ k : Nat, k ≤ len ∧ t12 = .int .i64 k ∧ Hid (Gr w wx ∧ ∀ s ∈ l.take k, okS n s = true)) (fun t12 _ => len - (intOf t12).toNat)
    case atStart => exact ⟨0, by omega, rfl, Lib.hid ⟨HW1.out, fun s hs => by simp at hs⟩⟩
    case round =>
      obtain ⟨k, hk, rfl, HR⟩ := hrel
      by_cases hlt : k < len
      · have hlt' : (k : Int) < len := by omega
        obtain ⟨s, hx⟩ : ∃ s, l[k]? = some s := ⟨_, List.getElem?_eq_getElem (by rw [HLN.out]; exact hlt)⟩
        obtain ⟨ba, off, rfl, hba, hca⟩ := HS.out k s hx
        have z := (HR.out.1.cell ba (off + k) hba).trans hca
        have HX := Lib.hid hx
        clear hx hca
        by_cases hs0 : s < 0
        · have HE := Lib.hid (HQ3'.out s (List.mem_of_getElem? HX.out) (by unfold okS; simp; omega) wr.drew (HR.out.1.trans (Gr.refl wr).drew))
          have hs1 : decide (s < 0) = true := decide_eq_true hs0
          go_wp2_with fail
          refine wp_region_flo (fun _ => False) [] [] (by kernel_rfl) (by kernel_rfl) (fun _ h => h.elim) ?_
          refine flo_seg 11 rfl ?_
          simp only [List.take_succ_cons, List.take_zero, List.drop_succ_cons, List.drop_zero]
          repeat (go_big_quiet_step (fail))
          refine wpQuiet_nil ?_
          refine flo_pass rfl rfl rfl ?_
          (try go_simp)
          refine flo_seg 2 rfl ?_
          simp only [List.take_succ_cons, List.take_zero, List.drop_succ_cons, List.drop_zero]
          repeat (go_big_quiet_step (fail))
          refine wpQuiet_nil ?_
          refine flo_nil ?_
          go_wp2_with fail
          exact HE.out
        have hs1 : decide (s < 0) = false := decide_eq_false hs0
        by_cases hs2 : (n : Int) ≤ s
        · have HE := Lib.hid (HQ3'.out s (List.mem_of_getElem? HX.out) (by unfold okS; simp; omega) wr.drew (HR.out.1.trans (Gr.refl wr).drew))
          have hs3 : decide ((n : Int) ≤ s) = true := decide_eq_true hs2
          go_wp2_with fail
          refine wp_region_flo (fun _ => False) [] [] (by kernel_rfl) (by kernel_rfl) (fun _ h => h.elim) ?_
          refine flo_seg 11 rfl ?_
          simp only [List.take_succ_cons, List.take_zero, List.drop_succ_cons, List.drop_zero]
          repeat (go_big_quiet_step (fail))
          refine wpQuiet_nil ?_
          refine flo_eff rfl rfl rfl rfl (fun K hK => ?_)
          go_wp2_with ((go_at_call 23; refine Calls.mono (HSL.out _ (HR.out.1.trans (Gr.refl wr).drew)) ?_; rintro e w2 ⟨rfl, rfl⟩))
          refine ⟨by exact (Gr.refl _).mdh _, ?_⟩
          refine flo_seg 2 rfl ?_
          simp only [List.take_succ_cons, List.take_zero, List.drop_succ_cons, List.drop_zero]
          repeat (go_big_quiet_step (fail))
          refine wpQuiet_nil ?_
          refine flo_nil ?_
          go_wp2_with fail
          exact HE.out
        have hs3 : decide ((n : Int) ≤ s) = false := decide_eq_false hs2
        go_wp2_with fail
        refine wp_region_flo (fun _ => False) [] [] (by kernel_rfl) (by kernel_rfl) (fun _ h => h.elim) ?_
        refine flo_seg 11 rfl ?_
        simp only [List.take_succ_cons, List.take_zero, List.drop_succ_cons, List.drop_zero]
        repeat (go_big_quiet_step (fail))
        refine wpQuiet_nil ?_
        refine flo_eff rfl rfl rfl rfl (fun K hK => ?_)
        go_wp2_with ((go_at_call 23; refine Calls.mono (HSL.out _ (HR.out.1.trans (Gr.refl wr).drew)) ?_; rintro e w2 ⟨rfl, rfl⟩))
        refine ⟨by exact (Gr.refl _).mdh _, ?_⟩
        refine flo_seg 2 rfl ?_
        simp only [List.take_succ_cons, List.take_zero, List.drop_succ_cons, List.drop_zero]
        repeat (go_big_quiet_step (fail))
        refine wpQuiet_nil ?_
        refine flo_nil ?_
        go_wp2_with fail
        go_roundw
        case rel => exact ⟨k + 1, by omega, by go_num, Lib.hid ⟨HR.out.1.trans (Gr.refl wr).drew, take_all HR.out.2 HX.out (by unfold okS; simp; omega)⟩⟩
        case measure => simp [intOf]; omega
      · have hkn : k = len := by omega
        subst hkn
        have HA : Hid (∀ s ∈ l, okS n s = true) := Lib.hid (by
          have := HR.out.2
          rwa [← HLN.out, List.take_length] at this)
        have HW2 := Lib.hid HR.out.1
        have hlt' : ¬ (k : Int) < k := by omega
        have HQ6 := Lib.hid (HQ6'.out HA.out)
        have HQN := Lib.hid (HQN'.out HA.out)
        have HQ0 := Lib.hid (HQ0'.out HA.out)
        clear HR hlt HQ6' HQN' HQ0' HQ3' hlt'
        generalize wr = wb at *
        go_wp2_with fail
        go_loopw [13] (fun t13 wx => ∃ i : Nat, i ≤ k ∧ t13 = .int .i64 i ∧ Hid (Gr w wx ∧ (l.take i).Nodup)) (fun t13 _ => k - (intOf t13).toNat)
        case atStart => exact ⟨0, by omega, rfl, Lib.hid ⟨HW2.out, by simp⟩⟩
        case round =>
          obtain ⟨i, hik, rfl, HR⟩ := hrel
          by_cases hlt : i < k
          · have hlt' : (i : Int) < k := by omega
            obtain ⟨s, hx⟩ : ∃ s, l[i]? = some s := ⟨_, List.getElem?_eq_getElem (by rw [HLN.out]; exact hlt)⟩
            obtain ⟨ba, off, rfl, hba, hca⟩ := HS.out i s hx
            have HCA := Lib.hid hca
            have HX := Lib.hid hx
            clear hx hca
            go_wp2_with fail
            go_loopw [14] (fun t14 wx => ∃ m : Nat, m ≤ i ∧ t14 = .int .i64 m ∧ Hid (Gr w wx ∧ ∀ x ∈ l.take m, x ≠ s)) (fun t14 _ => i - (intOf t14).toNat)
            case atStart => exact ⟨0, by omega, rfl, Lib.hid ⟨HR.out.1, fun x hx => by simp at hx⟩⟩
            case round =>
              obtain ⟨m, hmi, rfl, HM⟩ := hrel
              by_cases hlt2 : m < i
              · have hlt2' : (m : Int) < i := by omega
                obtain ⟨y, hy⟩ : ∃ y, l[m]? = some y := ⟨_, List.getElem?_eq_getElem (by rw [HLN.out]; omega)⟩
                have hmk : (m : Int) < k := by omega
                obtain ⟨ba', off', he, hba', hcb⟩ := HS.out m y hy
                simp only [Option.some.injEq, Addr.mk.injEq, and_true] at he
                obtain ⟨rfl, rfl⟩ := he
                have z1 := (HM.out.1.cell ba (off + i) hba).trans HCA.out
                have z2 := (HM.out.1.cell ba (off + m) hba).trans hcb
                have HY := Lib.hid hy
                clear hy hcb
                by_cases hys : y = s
                · subst hys
                  have HE := Lib.hid (HQ6.out (not_nod hlt2 HX.out HY.out) wr.drew (HM.out.1.trans (Gr.refl wr).drew))
                  go_wp2_with fail
                  refine wp_region_flo (fun _ => False) [] [] (by kernel_rfl) (by kernel_rfl) (fun _ h => h.elim) ?_
                  refine flo_seg 9 rfl ?_
                  simp only [List.take_succ_cons, List.take_zero, List.drop_succ_cons, List.drop_zero]
                  repeat (go_big_quiet_step (fail))
                  refine wpQuiet_nil ?_
                  refine flo_nil ?_
                  go_wp2_with fail
                  exact HE.out
                · have hb : (y == s) = false := beq_false_of_ne hys
                  go_wp2_with fail
                  refine wp_region_flo (fun _ => False) [] [] (by kernel_rfl) (by kernel_rfl) (fun _ h => h.elim) ?_
                  refine flo_seg 9 rfl ?_
                  simp only [List.take_succ_cons, List.take_zero, List.drop_succ_cons, List.drop_zero]
                  repeat (go_big_quiet_step (fail))
                  refine wpQuiet_nil ?_
                  refine flo_nil ?_
                  go_wp2_with fail
                  go_roundw
                  case rel => exact ⟨m + 1, by omega, by go_num, Lib.hid ⟨HM.out.1.trans (Gr.refl wr).drew, take_all (p := fun x => x ≠ s) HM.out.2 HY.out hys⟩⟩
                  case measure => simp [intOf]; omega
              · have hlt2' : ¬ (m : Int) < i := by omega
                obtain rfl : m = i := by omega
                have HE : Hid (Gr w wr ∧ (l.take (m + 1)).Nodup) := Lib.hid ⟨HM.out.1, take_nod HR.out.2 HX.out HM.out.2⟩
                go_wp2_with fail
                exact ⟨⟨m + 1, by omega, by go_num, HE⟩, by simp [intOf]; omega⟩
          · have hik2 : i = k := by omega
            subst hik2
            have HN : Hid l.Nodup := Lib.hid (by
              have := HR.out.2
              rwa [← HLN.out, List.take_length] at this)
            have HW3 := Lib.hid HR.out.1
            have hlt' : ¬ (i : Int) < i := by omega
            have HQN' := Lib.hid (HQN.out HN.out)
            have HQ0' := Lib.hid (HQ0.out HN.out)
            clear HR hlt HQ6 HQN HQ0 hlt'
            generalize wr = wb at *
            go_wp2_with fail
            go_loopw [15, 16] (fun t15 t16 wx => ∃ (k : Nat) (v : Value), k ≤ i ∧ v = t15 ∧ t16 = .int .i64 k ∧ Hid (Nw w wx 45 3 v k (rowS (sidesL X next (l.take k))) ∧ Gr w wx ∧ (sidesL X next (l.take k)).all (chkS (c1 - 16)) = true)) (fun _ t16 _ => i - (intOf t16).toNat)
            case atStart => exact ⟨0, _, by omega, rfl, rfl, Lib.hid ⟨by rw [HL0.out]; exact Nw.nil2 HW3.out, HW3.out, by rw [HL0.out]; rfl⟩⟩
            case round =>
              obtain ⟨k, v, hk, rfl, rfl, HR⟩ := hrel
              by_cases hlt : k < i
              · have hlt' : (k : Int) < i := by omega
                obtain ⟨s, hx⟩ : ∃ s, l[k]? = some s := ⟨_, List.getElem?_eq_getElem (by rw [HLN.out]; exact hlt)⟩
                obtain ⟨ba, off, rfl, hba, hca⟩ := HS.out k s hx
                have z := (HR.out.2.1.cell ba (off + k) hba).trans hca
                have hsm := List.mem_of_getElem? hx
                have HT := Lib.hid (HTK.out k s hx)
                have HOS := Lib.hid (HOF.out s (HA.out s hsm))
                have HZS := Lib.hid (HSZ.out s (HA.out s hsm))
                have HNS := Lib.hid (HQN'.out s hsm)
                obtain ⟨hb1, hb2⟩ := HBL.out s
                have HSS := Lib.hid (HSO.out s)
                rw [HSS.out] at HT HNS
                generalize sumZ (keepL X s) = kp at *
                generalize byOf X s = y at *
                obtain ⟨y0, y1, y2, y3, y4⟩ := y
                simp only [byV] at HOS
                simp only at HT HNS hb1 hb2
                have HZ := Lib.hid z
                have HBA := Lib.hid hba
                clear hx hsm hca HSS
                go_wp2_with fail
                refine Calls.mono (HOS.out wr HR.out.2.1) ?_
                rintro e w1 ⟨rfl, hg1⟩
                have HG1 := Lib.hid hg1
                have z1 := (hg1.cell ba (off + k) (Nat.lt_of_lt_of_le HBA.out HR.out.2.1.sz)).trans HZ.out
                clear hg1 z
                go_upto_region 24 with fail
                obtain ⟨b17, hb17⟩ : ∃ q, q = w1.heap.size := ⟨_, rfl⟩
                obtain ⟨w2, hw2⟩ : ∃ q, q = w1.alloc (.cells #[.int .i64 y0, .int .i64 y1, .int .i64 y2, .int .i64 y3, .int .i64 y4] 69) := ⟨_, rfl⟩
                have H2 : Hid (SW wr [blkA b17 (.cells #[.int .i64 y0, .int .i64 y1, .int .i64 y2, .int .i64 y3, .int .i64 y4] 69)] w2) := Lib.hid (by rw [hw2, hb17]; exact ((SW.start wr).gr HG1.out).alloc _)
                rw [← hw2, ← hb17]
                clear hw2 hb17 z1
                have z1 := (H2.out.g.cell ba (off + k) (Nat.lt_of_lt_of_le HBA.out HR.out.2.1.sz)).trans HZ.out
                go_wp2_with fail
                refine Calls.mono (HZS.out _ (HR.out.2.1.trans H2.out.g)) ?_
                rintro e w3 ⟨rfl, hg3⟩
                have H3 := Lib.hid (H2.out.gr hg3)
                clear z1
                have z1 := (H3.out.g.cell ba (off + k) (Nat.lt_of_lt_of_le HBA.out HR.out.2.1.sz)).trans HZ.out
                have d17 := ((cellsOf (show w3.heap[b17]? = _ from H3.out.get (i := 0) rfl)).1 4).trans (show _ = some (Value.int .i64 y4) from rfl)
                clear hg3 H2
                go_wp2_with fail
                have HG := Gr.refl w3.drew
                refine wp_region_flo (fun _ => False) [21] [] (by kernel_rfl) (by kernel_rfl) (fun _ h => h.elim) ?_
                refine flo_seg 10 rfl ?_
                simp only [List.take_succ_cons, List.take_zero, List.drop_succ_cons, List.drop_zero]
                repeat (go_big_quiet_step (fail))
                refine wpQuiet_nil ?_
                refine flo_float (fun b => .pointer (some ⟨b, 0, none⟩)) (.cells #[.int .i64 0, .int .i64 0, .int .i64 0] 45) rfl rfl (fun w => by kernel_rfl) (fun wf1 fb1 hgf1 fl1 fh1 ft1 fo1 => ?_)
                (try replace HG := Gr.trans (Gr.trans HG (by (repeat (first | (with_reducible exact Gr.refl _) | assumption | (with_reducible apply Gr.from_drew) | (with_reducible apply Gr.alloc) | (with_reducible apply Gr.drew) | (with_reducible refine Gr.trans ?_ (by assumption)) | (with_reducible refine Gr.setCell ?_ (by omega) _))))) hgf1)
                (try have fc1 := (cellsOf fo1).1)
                (try have ff1 := (cellsOf fo1).2)
                refine flo_eff rfl rfl rfl rfl (fun K hK => ?_)
                go_wp2
                refine ⟨by (first | (refine Gr.mdh ?_ _; (repeat (first | (with_reducible exact Gr.refl _) | assumption | (with_reducible apply Gr.from_drew) | (with_reducible apply Gr.alloc) | (with_reducible apply Gr.drew) | (with_reducible refine Gr.trans ?_ (by assumption)) | (with_reducible refine Gr.setCell ?_ (by omega) _))); done) | (repeat (first | (with_reducible exact Mdh.refl _ _) | (with_reducible refine Mdh.setCell ?_ (by simp) _) | (with_reducible refine Mdh.setNew ?_ (by simp) _) | (with_reducible apply Mdh.alloc) | (with_reducible apply Mdh.from_drew) | (with_reducible apply Mdh.drew) | (with_reducible refine Mdh.gr ?_ (by assumption))))), ?_⟩
                refine flo_nil ?_
                obtain ⟨w4, hw4⟩ : ∃ y, y = (((wf1.setCell ⟨fb1, 0, none⟩ (.int .i64 s)).setCell ⟨fb1, 1, none⟩ (.int .i64 kp)).setCell ⟨fb1, 2, none⟩ (.int .i64 (next - y4))) := ⟨_, rfl⟩
                have H4 : Hid (SW wr [blkA fb1 (.cells #[.int .i64 s, .int .i64 kp, .int .i64 (next - y4)] 45)] w4) := Lib.hid (by
                  have h1 := (H3.out.new (Gr.of_drew HG) (A := blkA fb1 (.cells #[.int .i64 0, .int .i64 0, .int .i64 0] 45)) fo1 (fun k hk => by rw [show k = fb1 from hk]; exact fl1)).sub (List.Sublist.cons_cons _ (List.nil_sublist _))
                  rw [hw4]
                  exact h1.step (B := blkA fb1 (.cells #[.int .i64 s, .int .i64 kp, .int .i64 (next - y4)] 45)) (T := fun k => k = fb1) ((((Mdh.refl (fun k => k = fb1) wf1).setCell (p := ⟨fb1, 0, none⟩) rfl _).setCell (p := ⟨fb1, 1, none⟩) rfl _).setCell (p := ⟨fb1, 2, none⟩) rfl _) (fun k hk => .inl hk) (blkSet (j := 2) (blkSet (j := 1) (blkSet (j := 0) fo1))) (fun k hk => .inl hk))
                rw [← hw4]
                clear hw4 fl1 fh1 ft1 fo1 fc1 ff1 HG hgf1 H3 d17 z1
                generalize fb1 = b21 at *
                have d21 := (cellsOf (show w4.heap[b21]? = _ from H4.out.get (i := 0) rfl)).1
                go_wp2_with fail
                refine (refCheck_any _ _ _ _ _).mono ?_
                rintro e w5 ⟨rfl, hg5⟩
                have H5 := Lib.hid (H4.out.gr hg5)
                clear d21
                have d21 := (cellsOf (show w5.heap[b21]? = _ from H5.out.get (i := 0) rfl)).1
                clear hg5 H4
                cases hck : chkB s kp (next - y4) (c1 - 16) with
                | false =>
                  have e0 := errOf_false hck
                  have HE := Lib.hid (HNS.out hck w5 (HR.out.2.1.trans H5.out.g))
                  clear hck
                  go_wp2
                  exact HE.out
                | true =>
                  have e0 := errOf_true hck
                  have HCK := Lib.hid hck
                  clear hck
                  have N5 := Lib.hid (HR.out.1.gr H5.out.g)
                  go_wp2_with (first
                    | (at_builtin; go_must (refine wpList_appv _ rfl (.tmp 125) (.tmp 127) 40 rfl 45 i0 _ 3 24 Tryz.underlying40 hi hz0 hz1 hz2 rfl (by decide) v k (rowS (sidesL X next (l.take k))) rfl (N5.out.own.gr (by (repeat (first | (with_reducible exact Gr.refl _) | assumption | (with_reducible apply Gr.from_drew) | (with_reducible apply Gr.alloc) | (with_reducible apply Gr.drew) | (with_reducible refine Gr.trans ?_ (by assumption)) | (with_reducible refine Gr.setCell ?_ (by omega) _))))) (some ⟨w5.heap.size, 0, none⟩) 1 1 (cellsS (s, kp, next - y4)) rfl (src_newK w5 (cellsS (s, kp, next - y4)) _ 3 rfl (by simp [cellsS, Value.oneCell'])) (by simp only [maxLen]; omega) (by omega) ?_); intro v2 w6 hA; have N6 := Lib.hid (hA.nw (N5.out.gr ((Gr.refl w5).alloc _)) (by have := (HR.out.2.1.trans H5.out.g).sz; simp; omega)); have HG6 := Lib.hid (hA.gw (N5.out.gr ((Gr.refl w5).alloc _)) ((HR.out.2.1.trans H5.out.g).alloc _)); clear hA)
                    | fail)
                  go_roundw
                  case rel => exact ⟨k + 1, v2, by omega, rfl, by go_num, Lib.hid ⟨by rw [HT.out, rowS_snoc2]; exact N6.out, HG6.out, by rw [HT.out, List.all_append, HR.out.2.2]; simp [chkS, HCK.out]⟩⟩
                  case measure => simp [intOf]; omega
              · have hkn : k = i := by omega
                subst hkn
                have hlt' : ¬ (k : Int) < k := by omega
                have HE := Lib.hid (HQ0'.out (by rw [← HFL.out]; exact HR.out.2.2) v wr (by rw [← HFL.out]; exact HR.out.1) HR.out.2.1)
                go_wp2_with fail
                exact HE.out
end Go.Proofs.YtemjnppplmankaaGreat

/- Selection again and again of the best side: what is left is sorted. No program in sight. -/
set_option linter.unusedVariables false
set_option linter.unusedSimpArgs false
namespace Go.Proofs.YtemjnppplmankaaGreat

/-- D has been taken, in order; L is left. -/
structure SelO (f : Sd → Sd → Int) (S D L : List Sd) : Prop where
  pm : (D ++ L).Perm S
  s : SrtS f D
  h : ∀ d ∈ D, ∀ x ∈ L, f d x = -1
section
variable {f : Sd → Sd → Int} {S D L : List Sd}
theorem SelO.start : SelO f S [] S := ⟨List.Perm.refl _, List.Pairwise.nil, fun d hd => by cases hd⟩
theorem SelO.done (h : SelO f S D []) : D.Perm S ∧ SrtS f D := ⟨by simpa using h.pm, h.s⟩
theorem SelO.len (h : SelO f S D L) : D.length + L.length = S.length := by
  have := h.pm.length_eq
  simpa using this
theorem SelO.step (hd : (S.map (·.1)).Nodup) (h : SelO f S D L) {b : Nat} (hb : b < L.length) (hm : IsMin f L (gS L b)) : SelO f S (D ++ [gS L b]) (L.take b ++ L.drop (b + 1)) := by
  have hg : gS L b = L[b] := by unfold gS; rw [List.getElem?_eq_getElem hb]; rfl
  have hp : L.Perm (L[b] :: (L.take b ++ L.drop (b + 1))) := by
    conv => lhs; rw [← List.take_append_drop b L, List.drop_eq_getElem_cons hb]
    exact List.perm_middle
  have hnd : (L.map (·.1)).Nodup := by
    have h1 : ((D ++ L).map (·.1)).Nodup := (h.pm.map _).nodup_iff.2 hd
    rw [List.map_append] at h1
    exact (List.nodup_append.1 h1).2.1
  have hnd2 : ((L[b] :: (L.take b ++ L.drop (b + 1))).map (·.1)).Nodup := (hp.map _).nodup_iff.1 hnd
  rw [List.map_cons] at hnd2
  have hne := (List.nodup_cons.1 hnd2).1
  refine ⟨?_, ?_, ?_⟩
  · rw [hg, List.append_assoc]
    exact ((List.Perm.refl D).append hp.symm).trans h.pm
  · refine List.pairwise_append.2 ⟨h.s, List.pairwise_singleton _ _, fun a ha x hx => ?_⟩
    rw [List.mem_singleton] at hx
    subst hx
    exact h.h a ha _ hm.1
  · intro d hdm x hx
    rcases List.mem_append.1 hdm with hdm | hdm
    · exact h.h d hdm x (hp.mem_iff.2 (List.mem_cons_of_mem _ hx))
    · rw [List.mem_singleton] at hdm
      subst hdm
      refine hm.2 x (hp.mem_iff.2 (List.mem_cons_of_mem _ hx)) (fun e => hne ?_)
      rw [hg] at e
      rw [← e]
      exact List.mem_map_of_mem hx
/-- The best of the first i + 1: at b. -/
def BsI (f : Sd → Sd → Int) (L : List Sd) (i b : Nat) : Prop := b < L.length ∧ gS L b = bestK f L (i - 1)
theorem BsI.start (h : 0 < L.length) : BsI f L 1 0 := ⟨h, rfl⟩
theorem BsI.yes {i b : Nat} (h : BsI f L i b) (h1 : 1 ≤ i) (hi : i < L.length) (hlt : f (gS L i) (gS L b) < 0) : BsI f L (i + 1) i := by
  refine ⟨hi, ?_⟩
  obtain ⟨k, rfl⟩ : ∃ k, i = k + 1 := ⟨i - 1, by omega⟩
  show gS L (k + 1) = bestK f L (k + 1)
  have h2 : gS L b = bestK f L k := h.2
  rw [h2] at hlt
  have e : bestK f L (k + 1) = if f (gS L (k + 1)) (bestK f L k) < 0 then gS L (k + 1) else bestK f L k := rfl
  rw [e, if_pos hlt]
theorem BsI.no {i b : Nat} (h : BsI f L i b) (h1 : 1 ≤ i) (hlt : ¬ f (gS L i) (gS L b) < 0) : BsI f L (i + 1) b := by
  refine ⟨h.1, ?_⟩
  obtain ⟨k, rfl⟩ : ∃ k, i = k + 1 := ⟨i - 1, by omega⟩
  show gS L b = bestK f L (k + 1)
  have h2 : gS L b = bestK f L k := h.2
  rw [h2] at hlt ⊢
  have e : bestK f L (k + 1) = if f (gS L (k + 1)) (bestK f L k) < 0 then gS L (k + 1) else bestK f L k := rfl
  rw [e, if_neg hlt]
theorem BsI.fin {b : Nat} (T : Tot f S) (hs : ∀ x ∈ L, x ∈ S) (h : BsI f L L.length b) : IsMin f L (gS L b) := by
  have h0 := h.1
  have h1 := bestK_min (T.perm hs) (L.length - 1) (by omega)
  rw [show L.length - 1 + 1 = L.length by omega, List.take_length] at h1
  rw [h.2]
  exact h1
end
end Go.Proofs.YtemjnppplmankaaGreat
