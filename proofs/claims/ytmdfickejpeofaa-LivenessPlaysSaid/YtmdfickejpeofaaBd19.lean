/- drumlinref24's functions over a reference index. Printed by rl.py. -/
import Derived.Test.YtmdfickejpeofaaBd18
import Derived.Test.YtmdfickejpeofaaBd13
import Derived.Test.YtmdfickejpeofaaBd14
import Derived.Test.YtmdfickejpeofaaBd2
import Derived.Deep.Slices
import Derived.Deep.Fields
import Derived.ChangeSame
import Derived.ChangeArms
import Derived.OpenShut
import Derived.ShutString
import Derived.ChangeOld
import Derived.Lib.SmallJoins
import Derived.Test.YtmdfickejpeofaaBd6
set_option linter.unusedVariables false
set_option linter.unusedSimpArgs false
namespace Go.Proofs.Ytmdfickejpeofaa
open Go.RowKit Go.Shelf
attribute [local go_sem] OvM cell_ovm obj_ovm
attribute [local go_sem] Oper.semAt_some

theorem tff24 {l : List En} {p : En → Bool} {i : Nat} {x : En} (h : l[i]? = some x) : (l.take (i + 1)).filter p = (l.take i).filter p ++ if p x then [x] else [] := by
  rw [List.take_add_one, h, List.filter_append]
  congr 1
  simp only [Option.toList_some, List.filter_cons, List.filter_nil]
set_option maxRecDepth 40000 in
set_option maxHeartbeats 8000000 in
theorem rneeded {w : World} {p : Option Addr} {X : IX} (h : RP w p X) (e : En) : Calls Try.prog 120 #[.pointer p, enV e] w fun r w' => r = .returned (.bool (X.needs e)) ∧ Gr w w' := by
  have HN := Lib.hid (show X.needs e = if (X.of e.key).any (nd1 e) = true then false else if (X.of e.key).any (nd2 e) = true then false else if e.del = false then true else (X.of e.key).any (nd3 e) from rfl)
  have hle : (X.of e.key).length ≤ 16384 := h.ok.of_le e.key
  have HOF : Hid (∀ W, Gr w W → Calls Try.prog 108 #[.pointer p, .string e.key] W (fun r w' => ∃ v, r = .returned v ∧ Nw W w' 53 6 v (X.of e.key).length (rowE (X.of e.key)) ∧ Gr W w')) := Lib.hid (fun W g => rpOf (h.gr g) e.key)
  have HD1 := Lib.hid (fun y : En => show nd1 e y = decide (e.seq < y.seq) from rfl)
  have HD2 := Lib.hid (fun y : En => show nd2 e y = decide (y.seq = e.seq ∧ y.slot ≠ e.slot) from rfl)
  have HD3 := Lib.hid (fun y : En => show nd3 e y = decide (y.seq < e.seq ∧ y.slot ≠ e.slot) from rfl)
  generalize X.needs e = B at *
  generalize X.of e.key = L at *
  generalize nd1 e = N1 at *
  generalize nd2 e = N2 at *
  generalize nd3 e = N3 at *
  clear h
  obtain ⟨e0, e1, e2, e3, e4, e5⟩ := e
  simp only [enV] at *
  obtain ⟨w1, hw1⟩ : ∃ y, y = w.alloc (.cells #[.int .i64 e0, .string e1, .bool e2, .int .i64 e3, .int .i64 e4, .int .i64 e5] 53) := ⟨_, rfl⟩
  obtain ⟨b3, hb3⟩ : ∃ q, q = w.heap.size := ⟨_, rfl⟩
  have HG1 : Hid (Gr w w1) := Lib.hid (by rw [hw1]; exact (Gr.refl w).alloc _)
  have HX1 : Hid (w1.heap[b3]? = some (.cells #[.int .i64 e0, .string e1, .bool e2, .int .i64 e3, .int .i64 e4, .int .i64 e5] 53)) := Lib.hid (by rw [hw1, hb3]; exact blkNew _ _)
  go_enter Try.func120, Try.ntmps120
  go_upto_region 1 with fail
  rw [← hw1, ← hb3]
  clear hw1 hb3
  have d3 := (cellsOf HX1.out).1
  have d31 : w1.cell? ⟨b3, 1, none⟩ = some (.string e1) := d3 1
  clear d3
  go_upto_region 2 with (first
    | (go_at_call 108; refine Calls.mono (HOF.out _ HG1.out) ?_; rintro r w2 ⟨v, rfl, hn, hg⟩; have HN2 := Lib.hid hn; have HG2 := Lib.hid (HG1.out.trans hg); have HX2 := Lib.hid (hg.blk HX1.out); clear hn hg d31; obtain ⟨a5, c5, rfl, hc5, hm5, _⟩ := ownE_at HN2.out.own)
    | fail)
  unfold maxLen at hm5
  go_wp2_with fail
  go_loopw [6, 7] (fun t6 t7 wx => ∃ (i : Nat) (b : Bool), i ≤ L.length ∧ t6 = .bool b ∧ t7 = .int .i64 i ∧ Hid ((L.take i).any N1 = false ∧ (L.take i).any N2 = false ∧ b = (L.take i).any N3 ∧ Gr w2 wx)) (fun _ t7 _ => L.length - (intOf t7).toNat)
  case atStart => exact ⟨0, false, by omega, rfl, by go_num, Lib.hid ⟨rfl, rfl, rfl, Gr.refl _⟩⟩
  case round =>
    obtain ⟨i, b, hil, rfl, rfl, HR⟩ := hrel
    have z3 := (cellsOf (HR.out.2.2.2.blk HX2.out)).1
    have z30 := (z3 0).trans (show _ = some (Value.int .i64 e0) from rfl)
    have z32 := (z3 2).trans (show _ = some (Value.bool e2) from rfl)
    have z33 := (z3 3).trans (show _ = some (Value.int .i64 e3) from rfl)
    clear z3
    by_cases hlt : i < L.length
    · have hlt' : (i : Int) < L.length := by omega
      obtain ⟨x, hx⟩ : ∃ x, L[i]? = some x := ⟨_, List.getElem?_eq_getElem hlt⟩
      obtain ⟨g0, rfl, hg0, y0, y1, y2, y3, y4, y5⟩ := ent6 (HN2.out.own.gr HR.out.2.2.2) hx
      have hxm := List.mem_of_getElem? hx
      have HT1 := Lib.hid (rany_snoc (p := N1) hx)
      have HT2 := Lib.hid (rany_snoc (p := N2) hx)
      have HT3 := Lib.hid (rany_snoc (p := N3) hx)
      have HF1 : Hid (N1 x = true ∨ N2 x = true → B = false) := Lib.hid (fun h => by
        rw [HN.out]
        rcases h with h | h
        · rw [if_pos (List.any_eq_true.2 ⟨x, hxm, h⟩)]
        · split
          · rfl
          · rw [if_pos (List.any_eq_true.2 ⟨x, hxm, h⟩)])
      have HX1' := Lib.hid (HD1.out x)
      have HX2' := Lib.hid (HD2.out x)
      have HX3' := Lib.hid (HD3.out x)
      clear hx hxm
      obtain ⟨x0, x1, x2, x3, x4, x5⟩ := x
      simp only at y0 y1 y2 y3 y4 y5 HX1' HX2' HX3'
      generalize N1 ⟨x0, x1, x2, x3, x4, x5⟩ = v1 at *
      generalize N2 ⟨x0, x1, x2, x3, x4, x5⟩ = v2 at *
      generalize N3 ⟨x0, x1, x2, x3, x4, x5⟩ = v3 at *
      by_cases h1 : e0 < x0
      · have d1 : decide (e0 < x0) = true := decide_eq_true h1
        have HB : Hid (B = false) := Lib.hid (HF1.out (.inl (by rw [HX1'.out]; exact decide_eq_true h1)))
        clear h1
        go_wp2_with fail
        refine wp_region_flo (fun _ => False) [] [] (by kernel_rfl) (by kernel_rfl) (fun _ h => h.elim) ?_
        refine flo_seg 28 rfl ?_
        simp only [List.take_succ_cons, List.take_zero, List.drop_succ_cons, List.drop_zero]
        repeat (go_big_quiet_step (fail))
        refine wpQuiet_nil ?_
        refine flo_nil ?_
        go_wp2_with fail
        go_ret
        exact ⟨ret_bool HB.out.symm, (HG2.out.trans HR.out.2.2.2).trans (Gr.refl _).drew⟩
      · have d1 : decide (e0 < x0) = false := decide_eq_false h1
        by_cases h2 : x0 = e0
        · have b2 : (x0 == e0) = true := beq_iff_eq.2 h2
          by_cases h3 : x3 = e3
          · have b3' : (x3 != e3) = false := by simp [h3]
            have HV : Hid (v1 = false ∧ v2 = false ∧ v3 = false) := Lib.hid ⟨by rw [HX1'.out]; exact decide_eq_false h1, by rw [HX2'.out]; exact decide_eq_false (fun h => h.2 h3), by rw [HX3'.out]; exact decide_eq_false (fun h => h.2 h3)⟩
            have h4 : ¬ x0 < e0 := by omega
            have d4 : decide (x0 < e0) = false := decide_eq_false h4
            clear h2 h3 h1 h4
            cases b with
            | false =>
              go_wp2_with fail
              refine wp_region_flo (fun _ => False) [] [] (by kernel_rfl) (by kernel_rfl) (fun _ h => h.elim) ?_
              refine flo_seg 28 rfl ?_
              simp only [List.take_succ_cons, List.take_zero, List.drop_succ_cons, List.drop_zero]
              repeat (go_big_quiet_step (fail))
              refine wpQuiet_nil ?_
              refine flo_nil ?_
              go_wp2_with fail
              refine wp_region_flo (fun _ => False) [] [] (by kernel_rfl) (by kernel_rfl) (fun _ h => h.elim) ?_
              refine flo_seg 22 rfl ?_
              simp only [List.take_succ_cons, List.take_zero, List.drop_succ_cons, List.drop_zero]
              repeat (go_big_quiet_step (fail))
              refine wpQuiet_nil ?_
              refine flo_nil ?_
              go_wp2_with fail
              go_roundw
              case rel => exact ⟨i + 1, false, by omega, rfl, by go_num, Lib.hid ⟨by rw [HT1.out, HR.out.1, HV.out.1]; rfl, by rw [HT2.out, HR.out.2.1, HV.out.2.1]; rfl, by rw [HT3.out, ← HR.out.2.2.1, HV.out.2.2]; rfl, HR.out.2.2.2.trans ((Gr.refl _).drew).drew⟩⟩
              case measure => simp [intOf]; omega
            | true =>
              go_wp2_with fail
              refine wp_region_flo (fun _ => False) [] [] (by kernel_rfl) (by kernel_rfl) (fun _ h => h.elim) ?_
              refine flo_seg 28 rfl ?_
              simp only [List.take_succ_cons, List.take_zero, List.drop_succ_cons, List.drop_zero]
              repeat (go_big_quiet_step (fail))
              refine wpQuiet_nil ?_
              refine flo_nil ?_
              go_wp2_with fail
              refine wp_region_flo (fun _ => False) [] [] (by kernel_rfl) (by kernel_rfl) (fun _ h => h.elim) ?_
              refine flo_seg 22 rfl ?_
              simp only [List.take_succ_cons, List.take_zero, List.drop_succ_cons, List.drop_zero]
              repeat (go_big_quiet_step (fail))
              refine wpQuiet_nil ?_
              refine flo_nil ?_
              go_wp2_with fail
              go_roundw
              case rel => exact ⟨i + 1, true, by omega, rfl, by go_num, Lib.hid ⟨by rw [HT1.out, HR.out.1, HV.out.1]; rfl, by rw [HT2.out, HR.out.2.1, HV.out.2.1]; rfl, by rw [HT3.out, ← HR.out.2.2.1, HV.out.2.2]; rfl, HR.out.2.2.2.trans ((Gr.refl _).drew).drew⟩⟩
              case measure => simp [intOf]; omega
          · have b3' : (x3 != e3) = true := by simp [h3]
            have HB : Hid (B = false) := Lib.hid (HF1.out (.inr (by rw [HX2'.out]; exact decide_eq_true ⟨h2, h3⟩)))
            clear h2 h3 h1
            go_wp2_with fail
            refine wp_region_flo (fun _ => False) [] [] (by kernel_rfl) (by kernel_rfl) (fun _ h => h.elim) ?_
            refine flo_seg 28 rfl ?_
            simp only [List.take_succ_cons, List.take_zero, List.drop_succ_cons, List.drop_zero]
            repeat (go_big_quiet_step (fail))
            refine wpQuiet_nil ?_
            refine flo_nil ?_
            go_wp2_with fail
            go_ret
            exact ⟨ret_bool HB.out.symm, (HG2.out.trans HR.out.2.2.2).trans (Gr.refl _).drew⟩
        · have b2 : (x0 == e0) = false := beq_false_of_ne h2
          have h4 : x0 < e0 := by omega
          have d4 : decide (x0 < e0) = true := decide_eq_true h4
          by_cases h3 : x3 = e3
          · have b3' : (x3 != e3) = false := by simp [h3]
            have HV : Hid (v1 = false ∧ v2 = false ∧ v3 = false) := Lib.hid ⟨by rw [HX1'.out]; exact decide_eq_false h1, by rw [HX2'.out]; exact decide_eq_false (fun h => h.2 h3), by rw [HX3'.out]; exact decide_eq_false (fun h => h.2 h3)⟩
            clear h2 h3 h1 h4
            cases b with
            | false =>
              go_wp2_with fail
              refine wp_region_flo (fun _ => False) [] [] (by kernel_rfl) (by kernel_rfl) (fun _ h => h.elim) ?_
              refine flo_seg 28 rfl ?_
              simp only [List.take_succ_cons, List.take_zero, List.drop_succ_cons, List.drop_zero]
              repeat (go_big_quiet_step (fail))
              refine wpQuiet_nil ?_
              refine flo_nil ?_
              go_wp2_with fail
              refine wp_region_flo (fun _ => False) [] [] (by kernel_rfl) (by kernel_rfl) (fun _ h => h.elim) ?_
              refine flo_seg 22 rfl ?_
              simp only [List.take_succ_cons, List.take_zero, List.drop_succ_cons, List.drop_zero]
              repeat (go_big_quiet_step (fail))
              refine wpQuiet_nil ?_
              refine flo_nil ?_
              go_wp2_with fail
              go_roundw
              case rel => exact ⟨i + 1, false, by omega, rfl, by go_num, Lib.hid ⟨by rw [HT1.out, HR.out.1, HV.out.1]; rfl, by rw [HT2.out, HR.out.2.1, HV.out.2.1]; rfl, by rw [HT3.out, ← HR.out.2.2.1, HV.out.2.2]; rfl, HR.out.2.2.2.trans ((Gr.refl _).drew).drew⟩⟩
              case measure => simp [intOf]; omega
            | true =>
              go_wp2_with fail
              refine wp_region_flo (fun _ => False) [] [] (by kernel_rfl) (by kernel_rfl) (fun _ h => h.elim) ?_
              refine flo_seg 28 rfl ?_
              simp only [List.take_succ_cons, List.take_zero, List.drop_succ_cons, List.drop_zero]
              repeat (go_big_quiet_step (fail))
              refine wpQuiet_nil ?_
              refine flo_nil ?_
              go_wp2_with fail
              refine wp_region_flo (fun _ => False) [] [] (by kernel_rfl) (by kernel_rfl) (fun _ h => h.elim) ?_
              refine flo_seg 22 rfl ?_
              simp only [List.take_succ_cons, List.take_zero, List.drop_succ_cons, List.drop_zero]
              repeat (go_big_quiet_step (fail))
              refine wpQuiet_nil ?_
              refine flo_nil ?_
              go_wp2_with fail
              go_roundw
              case rel => exact ⟨i + 1, true, by omega, rfl, by go_num, Lib.hid ⟨by rw [HT1.out, HR.out.1, HV.out.1]; rfl, by rw [HT2.out, HR.out.2.1, HV.out.2.1]; rfl, by rw [HT3.out, ← HR.out.2.2.1, HV.out.2.2]; rfl, HR.out.2.2.2.trans ((Gr.refl _).drew).drew⟩⟩
              case measure => simp [intOf]; omega
          · have b3' : (x3 != e3) = true := by simp [h3]
            have HV : Hid (v1 = false ∧ v2 = false ∧ v3 = true) := Lib.hid ⟨by rw [HX1'.out]; exact decide_eq_false h1, by rw [HX2'.out]; exact decide_eq_false (fun h => h2 h.1), by rw [HX3'.out]; exact decide_eq_true ⟨h4, h3⟩⟩
            clear h2 h3 h1 h4
            cases b with
            | false =>
              go_wp2_with fail
              refine wp_region_flo (fun _ => False) [] [] (by kernel_rfl) (by kernel_rfl) (fun _ h => h.elim) ?_
              refine flo_seg 28 rfl ?_
              simp only [List.take_succ_cons, List.take_zero, List.drop_succ_cons, List.drop_zero]
              repeat (go_big_quiet_step (fail))
              refine wpQuiet_nil ?_
              refine flo_nil ?_
              go_wp2_with fail
              refine wp_region_flo (fun _ => False) [] [] (by kernel_rfl) (by kernel_rfl) (fun _ h => h.elim) ?_
              refine flo_seg 22 rfl ?_
              simp only [List.take_succ_cons, List.take_zero, List.drop_succ_cons, List.drop_zero]
              repeat (go_big_quiet_step (fail))
              refine wpQuiet_nil ?_
              refine flo_nil ?_
              go_wp2_with fail
              go_roundw
              case rel => exact ⟨i + 1, true, by omega, rfl, by go_num, Lib.hid ⟨by rw [HT1.out, HR.out.1, HV.out.1]; rfl, by rw [HT2.out, HR.out.2.1, HV.out.2.1]; rfl, by rw [HT3.out, ← HR.out.2.2.1, HV.out.2.2]; rfl, HR.out.2.2.2.trans ((Gr.refl _).drew).drew⟩⟩
              case measure => simp [intOf]; omega
            | true =>
              go_wp2_with fail
              refine wp_region_flo (fun _ => False) [] [] (by kernel_rfl) (by kernel_rfl) (fun _ h => h.elim) ?_
              refine flo_seg 28 rfl ?_
              simp only [List.take_succ_cons, List.take_zero, List.drop_succ_cons, List.drop_zero]
              repeat (go_big_quiet_step (fail))
              refine wpQuiet_nil ?_
              refine flo_nil ?_
              go_wp2_with fail
              refine wp_region_flo (fun _ => False) [] [] (by kernel_rfl) (by kernel_rfl) (fun _ h => h.elim) ?_
              refine flo_seg 22 rfl ?_
              simp only [List.take_succ_cons, List.take_zero, List.drop_succ_cons, List.drop_zero]
              repeat (go_big_quiet_step (fail))
              refine wpQuiet_nil ?_
              refine flo_nil ?_
              go_wp2_with fail
              go_roundw
              case rel => exact ⟨i + 1, true, by omega, rfl, by go_num, Lib.hid ⟨by rw [HT1.out, HR.out.1, HV.out.1]; rfl, by rw [HT2.out, HR.out.2.1, HV.out.2.1]; rfl, by rw [HT3.out, ← HR.out.2.2.1, HV.out.2.2]; rfl, HR.out.2.2.2.trans ((Gr.refl _).drew).drew⟩⟩
              case measure => simp [intOf]; omega
    · have hlt' : ¬ (i : Int) < L.length := by omega
      have HT : Hid (L.any N1 = false ∧ L.any N2 = false ∧ b = L.any N3) := Lib.hid (by
        have h1 := HR.out.1
        have h2 := HR.out.2.1
        have h3 := HR.out.2.2.1
        rw [List.take_of_length_le (by omega)] at h1 h2 h3
        exact ⟨h1, h2, h3⟩)
      have HG := Lib.hid (HG2.out.trans HR.out.2.2.2)
      have HBE : Hid (B = (!e2 || b)) := Lib.hid (by
        rw [HN.out, HT.out.1, HT.out.2.1, HT.out.2.2]
        cases e2 <;> rfl)
      cases e2 with
      | false =>
        go_wp2_with fail
        go_ret
        exact ⟨ret_bool (by rw [HBE.out]; rfl), HG.out⟩
      | true =>
        go_wp2_with fail
        go_ret
        exact ⟨ret_bool (by rw [HBE.out]; rfl), HG.out⟩
set_option maxRecDepth 40000 in
set_option maxHeartbeats 2000000 in
theorem rNeeded {w : World} {p : Option Addr} {X : IX} (h : RP w p X) (e : En) : Calls Try.prog 38 #[.pointer p, enV e] w fun r w' => r = .returned (neededV X e) ∧ Gr w w' := by
  have HV : Hid (neededV X e = if X.slots = [] then .tuple #[.bool false, .int .i64 1] else if X.hasE e = false then .tuple #[.bool false, .int .i64 5] else .tuple #[.bool (X.needs e), .int .i64 0]) := Lib.hid rfl
  have HCP := Lib.hid (fun W (g : Gr w W) => rpCopy (h.gr g))
  have HHA := Lib.hid (fun W (g : Gr w W) => rHas24 (h.gr g) e)
  have HNE := Lib.hid (fun W (g : Gr w W) => rneeded (h.gr g) e)
  clear h
  obtain ⟨V, hV⟩ : ∃ V, V = neededV X e := ⟨_, rfl⟩
  rw [← hV] at HV ⊢
  clear hV
  generalize X.hasE e = B at *
  generalize X.needs e = C at *
  obtain ⟨e0, e1, e2, e3, e4, e5⟩ := e
  simp only [enV] at *
  obtain ⟨w1, hw1⟩ : ∃ y, y = w.alloc (.cells #[.int .i64 e0, .string e1, .bool e2, .int .i64 e3, .int .i64 e4, .int .i64 e5] 53) := ⟨_, rfl⟩
  obtain ⟨b3, hb3⟩ : ∃ q, q = w.heap.size := ⟨_, rfl⟩
  have HG1 : Hid (Gr w w1) := Lib.hid (by rw [hw1]; exact (Gr.refl w).alloc _)
  have HX1 : Hid (∀ W, Gr w1 W → W.heap[b3]? = some (.cells #[.int .i64 e0, .string e1, .bool e2, .int .i64 e3, .int .i64 e4, .int .i64 e5] 53)) := Lib.hid (fun W g => g.blk (by rw [hw1, hb3]; exact blkNew _ _))
  go_enter Try.func38, Try.ntmps38
  go_upto_region 1 with fail
  rw [← hw1, ← hb3]
  clear hw1 hb3
  go_wp2_with fail
  refine Calls.mono (HCP.out _ HG1.out) ?_
  rintro r w2 ⟨⟨q, rfl, hq⟩, hg⟩
  have HG2 := Lib.hid hg
  have HGW := Lib.hid (HG1.out.trans hg)
  clear hg
  by_cases h0 : X.slots = []
  · have hq0 := hq.2 h0
    have HV1 : Hid (V = .tuple #[.bool false, .int .i64 1]) := Lib.hid (by rw [HV.out, if_pos h0])
    clear h0 hq
    subst hq0
    go_wp2_with fail
    go_ret2
    exact ⟨by rw [HV1.out] <;> rfl, HGW.out⟩
  · obtain ⟨q', rfl⟩ : ∃ q', q = some q' := by
      cases q with
      | none => exact absurd (hq.1 rfl) h0
      | some q' => exact ⟨q', rfl⟩
    have HV1 : Hid (V = if B = false then .tuple #[.bool false, .int .i64 5] else .tuple #[.bool C, .int .i64 0]) := Lib.hid (by rw [HV.out, if_neg h0])
    clear h0 hq HV
    have z3 := (cellsOf (HX1.out _ HG2.out)).1
    have z30 := (z3 0).trans (show _ = some (Value.int .i64 e0) from rfl)
    have z31 := (z3 1).trans (show _ = some (Value.string e1) from rfl)
    have z32 := (z3 2).trans (show _ = some (Value.bool e2) from rfl)
    have z33 := (z3 3).trans (show _ = some (Value.int .i64 e3) from rfl)
    have z34 := (z3 4).trans (show _ = some (Value.int .i64 e4) from rfl)
    have z35 := (z3 5).trans (show _ = some (Value.int .i64 e5) from rfl)
    clear z3
    go_wp2_with fail
    refine Calls.mono (HHA.out _ HGW.out) ?_
    rintro r w3 ⟨rfl, hg⟩
    have HG3 := Lib.hid (HG2.out.trans hg)
    have HGX := Lib.hid (HGW.out.trans hg)
    clear hg z30 z31 z32 z33 z34 z35
    cases B with
    | false =>
      go_wp2_with fail
      go_ret2
      exact ⟨by rw [HV1.out] <;> rfl, HGX.out⟩
    | true =>
      have z3 := (cellsOf (HX1.out _ HG3.out)).1
      have z30 := (z3 0).trans (show _ = some (Value.int .i64 e0) from rfl)
      have z31 := (z3 1).trans (show _ = some (Value.string e1) from rfl)
      have z32 := (z3 2).trans (show _ = some (Value.bool e2) from rfl)
      have z33 := (z3 3).trans (show _ = some (Value.int .i64 e3) from rfl)
      have z34 := (z3 4).trans (show _ = some (Value.int .i64 e4) from rfl)
      have z35 := (z3 5).trans (show _ = some (Value.int .i64 e5) from rfl)
      clear z3
      go_wp2_with fail
      refine Calls.mono (HNE.out _ HGX.out) ?_
      rintro r w4 ⟨rfl, hg⟩
      have HGY := Lib.hid (HGX.out.trans hg)
      clear hg
      go_wp2_with fail
      go_ret2
      exact ⟨by rw [HV1.out] <;> rfl, HGY.out⟩
set_option maxRecDepth 40000 in
set_option maxHeartbeats 8000000 in
theorem rKeep {w : World} {p : Option Addr} {X : IX} (h : RP w p X) (s : Int) : Calls Try.prog 40 #[.pointer p, .int .i64 s] w (KeepPost X s w) := by
  obtain ⟨i0, hi, hz0, hz1, hz2⟩ := info_parts infoIten
  have HLE := Lib.hid (h.ok.slot_le s)
  have HHAS := Lib.hid (show X.has s = decide (0 ≤ s ∧ s < X.slots.length) from rfl)
  have HCP := Lib.hid (rpCopy h)
  have HSL := Lib.hid (fun W (g : Gr w W) => rpSlots (h.gr g))
  have HST := Lib.hid (fun W (g : Gr w W) => rpSlot (h.gr g) s)
  have HNE := Lib.hid (fun e W (g : Gr w W) => rneeded (h.gr g) e)
  clear h
  go_enter Try.func40, Try.ntmps40
  go_wp2_with fail
  refine Calls.mono HCP.out ?_
  rintro r w1 ⟨⟨q, rfl, hq⟩, hg⟩
  have HG1 := Lib.hid hg
  clear hg
  by_cases h0 : X.slots = []
  · have hq0 := hq.2 h0
    have HC : Hid (keepC X s = 1) := Lib.hid (by unfold keepC; rw [if_pos h0])
    have HL : Hid (keepL X s = []) := Lib.hid (keep_out (by rw [HC.out]; decide))
    clear h0 hq
    subst hq0
    go_wp2_with fail
    go_ret2
    exact ⟨.slice none 0 0, by rw [HC.out] <;> rfl, by rw [HL.out]; exact (Nw.nil w _ _).gr HG1.out, HG1.out⟩
  · obtain ⟨q', rfl⟩ : ∃ q', q = some q' := by
      cases q with
      | none => exact absurd (hq.1 rfl) h0
      | some q' => exact ⟨q', rfl⟩
    have HNN := Lib.hid h0
    clear h0 hq
    cases hs : X.has s with
    | false =>
      have HC : Hid (keepC X s = 3) := Lib.hid (by unfold keepC; rw [if_neg HNN.out, if_pos hs])
      have HL : Hid (keepL X s = []) := Lib.hid (keep_out (by rw [HC.out]; decide))
      have hh := HHAS.out
      rw [hs] at hh
      have hh' : ¬ (0 ≤ s ∧ s < X.slots.length) := of_decide_eq_false hh.symm
      clear hs hh
      by_cases hs0 : s < 0
      · go_wp2_with fail
        go_ret2
        exact ⟨.slice none 0 0, by rw [HC.out] <;> rfl, by rw [HL.out]; exact (Nw.nil w _ _).gr HG1.out, HG1.out⟩
      · have hs1 : (X.slots.length : Int) ≤ s := by omega
        clear hh'
        go_wp2_with (go_at_call 90; refine Calls.mono (HSL.out _ HG1.out) ?_; rintro r w2 ⟨rfl, rfl⟩)
        go_ret2
        exact ⟨.slice none 0 0, by rw [HC.out] <;> rfl, by rw [HL.out]; exact (Nw.nil w _ _).gr HG1.out, HG1.out⟩
    | true =>
      have HC : Hid (keepC X s = 0) := Lib.hid (by unfold keepC; rw [if_neg HNN.out, if_neg (by rw [hs]; simp)])
      have hh := HHAS.out
      rw [hs] at hh
      obtain ⟨hs0, hs1⟩ := of_decide_eq_true hh.symm
      have hs0' : ¬ s < 0 := by omega
      have hs1' : ¬ (X.slots.length : Int) ≤ s := by omega
      clear hs hh hs0 hs1
      have HKL : Hid (keepL X s = (X.slot s).filter X.needs) := Lib.hid rfl
      have hle := HLE.out
      go_wp2_with (first
        | (go_at_call 90; refine Calls.mono (HSL.out _ HG1.out) ?_; rintro r w2 ⟨rfl, rfl⟩)
        | (go_at_call 91; refine Calls.mono (HST.out _ HG1.out) ?_; rintro r w2 ⟨v, rfl, hn, hg⟩; have HN2 := Lib.hid hn; have HG2 := Lib.hid (HG1.out.trans hg); clear hn hg)
        | fail)
      obtain ⟨av, cv, rfl, _, _, _⟩ := ownE_at HN2.out.own
      obtain ⟨L, hL⟩ : ∃ L, L = X.slot s := ⟨_, rfl⟩
      obtain ⟨p2, hp2⟩ : ∃ p2, p2 = X.needs := ⟨_, rfl⟩
      have HNP := Lib.hid (fun e : En => congrFun hp2 e)
      have HLL := Lib.hid hL
      have HPP := Lib.hid hp2
      rw [← hL] at HN2 hle
      rw [← hL]
      clear hL hp2 HLE HST HHAS
      go_loopw [6, 8] (fun t6 t8 wx => ∃ (i : Nat) (a6 : Option Addr) (c6 : Nat), i ≤ L.length ∧ t6 = .slice a6 ((L.take i).filter p2).length c6 ∧ t8 = .int .i64 i ∧ Hid (Nw w wx 53 6 (.slice a6 ((L.take i).filter p2).length c6) ((L.take i).filter p2).length (rowE ((L.take i).filter p2)) ∧ Own wx 53 6 (.slice av L.length cv) L.length (rowE L) ∧ Gr w wx ∧ (∀ q, (Value.slice a6 ((L.take i).filter p2).length c6).ownBlock = some q → (Value.slice av L.length cv).ownBlock ≠ some q))) (fun _ t8 _ => L.length - (intOf t8).toNat)
      case atStart => exact ⟨0, none, 0, by omega, rfl, by go_num, Lib.hid ⟨(Nw.nil w _ _).gr HG2.out, HN2.out.own, HG2.out, fun q h => by cases h⟩⟩
      case round =>
        obtain ⟨i, a6, c6, hil, rfl, rfl, HR⟩ := hrel
        have HGR := Lib.hid HR.out.2.2.1
        by_cases hlt : i < L.length
        · have hlt' : (i : Int) < L.length := by omega
          obtain ⟨x, hx⟩ : ∃ x, L[i]? = some x := ⟨_, List.getElem?_eq_getElem hlt⟩
          have HTF := Lib.hid (tff24 (p := p2) hx)
          have hfl : ((L.take i).filter p2).length ≤ 512 := by
            have h1 := List.length_filter_le p2 (L.take i)
            rw [List.length_take] at h1
            omega
          have HX := Lib.hid hx
          have HQ := Lib.hid (HNP.out x)
          have HNX := Lib.hid (HNE.out x)
          have HCE := Lib.hid (show ∀ W, Own W 53 6 (.slice av L.length cv) L.length (rowE L) → ∃ g, av = some ⟨g, 0, none⟩ ∧ g < W.heap.size ∧ W.cell? ⟨g, i * 6, none⟩ = some (.int .i64 x.seq) ∧ W.cell? ⟨g, i * 6 + 1, none⟩ = some (.string x.key) ∧ W.cell? ⟨g, i * 6 + 2, none⟩ = some (.bool x.del) ∧ W.cell? ⟨g, i * 6 + 3, none⟩ = some (.int .i64 x.slot) ∧ W.cell? ⟨g, i * 6 + 4, none⟩ = some (.int .i64 x.off) ∧ W.cell? ⟨g, i * 6 + 5, none⟩ = some (.int .i64 x.size) from fun W g => ent6 g HX.out)
          generalize (L.take i).filter p2 = fl at *
          clear hx
          obtain ⟨g0, rfl, hg0, y0, y1, y2, y3, y4, y5⟩ := HCE.out _ HR.out.2.1
          obtain ⟨x0, x1, x2, x3, x4, x5⟩ := x
          simp only [enV] at HNX
          simp only at y0 y1 y2 y3 y4 y5
          go_wp2_with fail
          refine Calls.mono (HNX.out _ HGR.out) ?_
          rintro r w4 ⟨rfl, hg⟩
          rw [← HQ.out]
          have HL4 := Lib.hid (HR.out.2.1.gr hg)
          have HGW := Lib.hid (HGR.out.trans hg)
          have HN4 := Lib.hid (HR.out.1.gr hg)
          clear hg y0 y1 y2 y3 y4 y5
          cases hq : p2 ⟨x0, x1, x2, x3, x4, x5⟩ with
          | false =>
            have HQF := Lib.hid hq
            clear hq
            go_wp2_with fail
            go_roundw
            case rel => exact ⟨i + 1, a6, c6, by omega, by rw [HTF.out, HQF.out, if_neg (by decide), List.append_nil], by go_num, Lib.hid ⟨by rw [HTF.out, HQF.out, if_neg (by decide), List.append_nil]; exact HN4.out, HL4.out, HGW.out, by rw [HTF.out, HQF.out, if_neg (by decide), List.append_nil]; exact HR.out.2.2.2⟩⟩
            case measure => simp [intOf]; omega
          | true =>
            have HQF := Lib.hid hq
            clear hq
            obtain ⟨g1, hge, hg1, y0, y1, y2, y3, y4, y5⟩ := HCE.out _ HL4.out
            injection hge with hge
            injection hge with hge
            subst hge
            (try simp only at y0 y1 y2 y3 y4 y5)
            go_wp2_with (first
              | (at_builtin; go_must (refine wpList_appv _ rfl (.tmp 35) (.tmp 40) 45 rfl 53 i0 _ 6 56 Try.underlying45 hi hz0 hz1 hz2 rfl (by decide) (.slice a6 fl.length c6) fl.length (rowE fl) rfl (HN4.out.own.gr (by (repeat (first | (with_reducible exact Gr.refl _) | assumption | (with_reducible apply Gr.from_drew) | (with_reducible apply Gr.alloc) | (with_reducible apply Gr.drew) | (with_reducible refine Gr.trans ?_ (by assumption)) | (with_reducible refine Gr.setCell ?_ (by omega) _))))) (some ⟨w4.heap.size, 0, none⟩) 1 1 (enC ⟨x0, x1, x2, x3, x4, x5⟩) rfl (src_newK w4 (enC ⟨x0, x1, x2, x3, x4, x5⟩) _ 6 rfl (enC_one _)) (by simp only [maxLen]; omega) (by omega) ?_); intro v3 w6 hA; have N6 := Lib.hid (hA.nw (HN4.out.gr ((Gr.refl w4).alloc _)) (by have := HGW.out.sz; simp; omega)); have HG6 := Lib.hid (hA.gw (HN4.out.gr ((Gr.refl w4).alloc _)) (HGW.out.alloc _)); have HL6 := Lib.hid ((HL4.out.gr ((Gr.refl w4).alloc _)).mdh (hA.mdh (S := fun q => (Value.slice a6 fl.length c6).ownBlock = some q) (fun g h => h)) (fun q hq hs => HR.out.2.2.2 q hs hq)); have HD6 := Lib.hid (fun q (hq : v3.ownBlock = some q) => (hA.2.1 q hq).elim (fun h => HR.out.2.2.2 q h) (fun h hs => by have := HL4.out.lt hs; simp at h; omega)); obtain ⟨a7, c7, rfl⟩ := hA.val; clear hA)
              | fail)
            go_roundw
            case rel => exact ⟨i + 1, a7, c7, by omega, by rw [HTF.out, HQF.out, if_pos rfl, List.length_append]; rfl, by go_num, Lib.hid ⟨by rw [HTF.out, HQF.out, if_pos rfl, List.length_append, rowE_snoc]; exact N6.out, HL6.out, HG6.out, by rw [HTF.out, HQF.out, if_pos rfl, List.length_append]; exact HD6.out⟩⟩
            case measure => simp [intOf]; omega
        · have hlt' : ¬ (i : Int) < L.length := by omega
          have HNZ : Hid (L.take i = L) := Lib.hid (List.take_of_length_le (by omega))
          have HNF := Lib.hid HR.out.1
          rw [HNZ.out] at HNF ⊢
          go_wp2_with fail
          go_ret2
          exact ⟨.slice a6 (L.filter p2).length c6, by rw [HC.out] <;> rfl, by rw [HKL.out, ← HPP.out, ← HLL.out]; exact HNF.out, HGR.out⟩
set_option maxRecDepth 40000 in
set_option maxHeartbeats 4000000 in
theorem rSize {w : World} {p : Option Addr} {X : IX} (h : RP w p X) (s : Int) : Calls Try.prog 42 #[.pointer p, .int .i64 s] w fun e w' => e = .returned (.tuple #[.int .i64 (sumZ (keepL X s)), .int .i64 (keepC X s)]) ∧ Gr w w' := by
  obtain ⟨hk1, hk2⟩ := keepL_ok h.ok s
  have HK := Lib.hid (rKeep h s)
  obtain ⟨L, hL⟩ : ∃ L, L = keepL X s := ⟨_, rfl⟩
  have HL := Lib.hid hL
  obtain ⟨c, hc⟩ : ∃ c, c = keepC X s := ⟨_, rfl⟩
  have HC := Lib.hid hc
  rw [← hc]
  rw [← hL]
  rw [← hL] at hk1 hk2
  have HK2 := Lib.hid hk2
  clear h hk2 hL hc
  go_enter Try.func42, Try.ntmps42
  go_wp2_with fail
  refine Calls.mono HK.out ?_
  rintro e w1 ⟨v, rfl, hr, hg⟩
  rw [← HL.out] at hr
  rw [← HC.out]
  obtain ⟨a, cap, rfl, _, hcm, hat⟩ := ownE_at hr.own
  have HAT := Lib.hid hat
  have HG := Lib.hid hg
  unfold maxLen at hcm
  clear hr hat hg
  go_wp2_with fail
  go_loopw [8, 9] (fun t8 t9 wx => ∃ k : Nat, k ≤ L.length ∧ t9 = .int .i64 k ∧ t8 = .int .i64 (sumZ (L.take k)) ∧ Hid (Gr w1 wx)) (fun _ t9 _ => L.length - (intOf t9).toNat)
  case atStart => exact ⟨0, by omega, rfl, rfl, Lib.hid (Gr.refl _)⟩
  case round =>
    obtain ⟨k, hk, rfl, rfl, HR⟩ := hrel
    by_cases hlt : k < L.length
    · have hlt' : (k : Int) < L.length := by omega
      have hx : L[k]? = some (L[k]'hlt) := List.getElem?_eq_getElem hlt
      obtain ⟨g, rfl, z1, z2, hc⟩ := HAT.out k _ hx
      clear z1 z2
      have hv := HK2.out _ (List.mem_of_getElem? hx)
      have hs := sumZ_le (L.take k) (take_sub HK2.out)
      rw [List.length_take] at hs
      have HSN : Hid (sumZ (L.take (k + 1)) = sumZ (L.take k) + (L[k]'hlt).size) := Lib.hid (by rw [List.take_add_one, hx]; exact sumZ_snoc _ _)
      generalize L[k]'hlt = x at *
      generalize sumZ (L.take k) = m at *
      have hr : ∀ i u, (enC x)[i]? = some u → wr.cell? ⟨g, k * 6 + i, none⟩ = some u := fun i u hu => HR.out.keep (hc i u hu)
      have d5 := hr 5 _ rfl
      obtain ⟨hv1, hv2⟩ := hv
      obtain ⟨hs1, hs2⟩ := hs
      have hs3 : m ≤ 8192 * 512 := by omega
      clear hr hc hx hs2
      go_wp2
      go_roundw
      case rel => exact ⟨k + 1, by omega, by go_num, by rw [HSN.out] <;> go_num, HR⟩
      case measure => simp [intOf]; omega
    · have hlt' : ¬ (k : Int) < L.length := by omega
      have hkl : k = L.length := by omega
      have HS : Hid (sumZ (L.take k) = sumZ L) := Lib.hid (by rw [List.take_of_length_le (by omega)])
      clear hkl
      go_wp2
      go_ret2
      exact ⟨by rw [HS.out] <;> rfl, HG.out.trans HR.out⟩
set_option maxRecDepth 40000 in
theorem rRedundant {w : World} {p : Option Addr} {X : IX} (h : RP w p X) (s : Int) : Calls Try.prog 44 #[.pointer p, .int .i64 s] w fun e w' => e = .returned (.tuple #[.bool (decide (keepC X s = 0 ∧ keepL X s = [])), .int .i64 (keepC X s)]) ∧ Gr w w' := by
  have HK := Lib.hid (rKeep h s)
  obtain ⟨L, hL⟩ : ∃ L, L = keepL X s := ⟨_, rfl⟩
  obtain ⟨c, hc⟩ : ∃ c, c = keepC X s := ⟨_, rfl⟩
  have HL := Lib.hid hL
  have HC := Lib.hid hc
  obtain ⟨r, hr⟩ : ∃ r : Bool, r = decide (keepC X s = 0 ∧ keepL X s = []) := ⟨_, rfl⟩
  have HR : Hid (r = decide (c = 0 ∧ L = [])) := Lib.hid (by rw [hr, hc, hL])
  rw [← hr, ← hc]
  clear h hL hc hr
  go_enter Try.func44, Try.ntmps44
  go_wp2_with fail
  refine Calls.mono HK.out ?_
  rintro e w1 ⟨v, rfl, hr, hg⟩
  rw [← HL.out] at hr
  rw [← HC.out]
  obtain ⟨a, cap, rfl, _, _, _⟩ := ownE_at hr.own
  have HG := Lib.hid hg
  clear hr hg
  by_cases hc0 : c = 0
  · subst hc0
    by_cases hl0 : L.length = 0
    · have hE : Hid (r = true) := Lib.hid (by rw [HR.out, List.eq_nil_of_length_eq_zero hl0]; rfl)
      rw [hl0]
      clear hl0
      go_wp2
      go_ret2
      exact ⟨by rw [hE.out] <;> rfl, HG.out⟩
    · have hE : Hid (r = false) := Lib.hid (by rw [HR.out]; exact decide_eq_false (fun h => hl0 (by rw [h.2]; rfl)))
      have hb : ((L.length : Int) == 0) = false := beq_false_of_ne (by omega)
      clear hl0
      go_wp2
      go_ret2
      exact ⟨by rw [hE.out] <;> rfl, HG.out⟩
  · have hE : Hid (r = false) := Lib.hid (by rw [HR.out]; exact decide_eq_false (fun h => hc0 h.1))
    have hb : (c == 0) = false := beq_false_of_ne hc0
    clear hc0
    go_wp2
    go_ret2
    exact ⟨by rw [hE.out] <;> rfl, HG.out⟩
set_option maxRecDepth 40000 in
set_option maxHeartbeats 8000000 in
theorem rRetired {w : World} {p : Option Addr} {X : IX} (h : RP w p X) : Calls Try.prog 47 #[.pointer p] w (RetPost X w) := by
  obtain ⟨i0, hi, hz0, hz1, hz2⟩ := info_parts infoIten
  have HLE := Lib.hid (fun s => h.ok.slot_le s)
  have HRL := Lib.hid (retL_le h.ok)
  have hN32 := h.ok.n
  have HCP := Lib.hid (rpCopy h)
  have HSL := Lib.hid (fun W (g : Gr w W) => rpSlots (h.gr g))
  have HST : Hid (∀ s W, Gr w W → Calls Try.prog 91 #[.pointer p, .int .i64 s] W (fun e w' => ∃ v, e = .returned v ∧ Nw W w' 53 6 v (X.slot s).length (rowE (X.slot s)) ∧ Gr W w')) := Lib.hid (fun s W g => rpSlot (h.gr g) s)
  have HNE := Lib.hid (fun e W (g : Gr w W) => rneeded (h.gr g) e)
  have HRP : Hid (∀ e, retP X e = (e.del && !X.needs e)) := Lib.hid (fun e => rfl)
  have HRS := Lib.hid (retL_succ X)
  clear h
  unfold RetPost
  obtain ⟨n0, hn0⟩ : ∃ n0, n0 = X.slots.length := ⟨_, rfl⟩
  have hz : X.slots = [] ↔ n0 = 0 := by rw [hn0]; exact List.length_eq_zero_iff.symm
  have HZ := Lib.hid hz
  rw [← hn0] at HSL hN32 ⊢
  clear hn0
  have hcv : (if X.slots = [] then (1 : Int) else 0) = if n0 = 0 then 1 else 0 := by
    by_cases h0 : n0 = 0
    · rw [if_pos h0, if_pos (hz.2 h0)]
    · rw [if_neg h0, if_neg (fun h => h0 (hz.1 h))]
  rw [hcv]
  have HR0 : Hid (retL X 0 = []) := Lib.hid rfl
  generalize retP X = rP at *
  generalize retL X = rL at *
  generalize X.slot = xs at *
  generalize X.needs = nE at *
  clear hcv
  go_enter Try.func47, Try.ntmps47
  go_wp2_with fail
  refine Calls.mono HCP.out ?_
  rintro r w1 ⟨⟨q, rfl, hq⟩, hg⟩
  have HG1 := Lib.hid hg
  clear hg
  by_cases h0 : n0 = 0
  · have hq0 := hq.2 (hz.2 h0)
    subst h0
    clear hq hz
    subst hq0
    go_wp2_with fail
    go_ret2
    exact ⟨.slice none 0 0, rfl, by rw [HR0.out]; exact (Nw.nil w _ _).gr HG1.out, HG1.out⟩
  · obtain ⟨q', rfl⟩ : ∃ q', q = some q' := by
      cases q with
      | none => exact absurd (hz.1 (hq.1 rfl)) h0
      | some q' => exact ⟨q', rfl⟩
    have HN0 := Lib.hid h0
    clear h0 hq hz
    go_wp2_with fail
    go_loopw [4, 5] (fun t4 t5 wx => ∃ (n : Nat) (a4 : Option Addr) (c4 : Nat), n ≤ n0 ∧ t4 = .slice a4 (rL n).length c4 ∧ t5 = .int .i64 n ∧ Hid (Nw w wx 53 6 (.slice a4 (rL n).length c4) (rL n).length (rowE (rL n)) ∧ Gr w wx)) (fun _ t5 _ => n0 - (intOf t5).toNat)
    case atStart => exact ⟨0, none, 0, by omega, by rw [HR0.out]; rfl, by go_num, Lib.hid ⟨by rw [HR0.out]; exact (Nw.nil w _ _).gr HG1.out, HG1.out⟩⟩
    case round =>
      obtain ⟨n, a4, c4, hn, rfl, rfl, HR⟩ := hrel
      have hrl := HRL.out n
      by_cases hlt : n < n0
      · have hlt' : (n : Int) < n0 := by omega
        have HRSN := Lib.hid (HRS.out n)
        have hsl := HLE.out (n : Int)
        have HSTN := Lib.hid (HST.out (n : Int))
        generalize rL n = RL at *
        generalize xs (n : Int) = L at *
        go_wp2_with (first
          | (go_at_call 90; refine Calls.mono (HSL.out _ HR.out.2) ?_; rintro r w2 ⟨rfl, rfl⟩)
          | (go_at_call 91; refine Calls.mono (HSTN.out _ HR.out.2) ?_; rintro r w2 ⟨v, rfl, hn, hg⟩; have HN2 := Lib.hid hn; have HG2 := Lib.hid (HR.out.2.trans hg); have HNR := Lib.hid (HR.out.1.gr hg); clear hn hg; obtain ⟨av, cv, rfl, _, hcv, _⟩ := ownE_at HN2.out.own; unfold maxLen at hcv)
          | fail)
        go_loopw [4, 7] (fun t4 t7 wx => ∃ (i : Nat) (a6 : Option Addr) (c6 : Nat), i ≤ L.length ∧ t4 = .slice a6 (RL ++ (L.take i).filter rP).length c6 ∧ t7 = .int .i64 i ∧ Hid (Nw w wx 53 6 (.slice a6 (RL ++ (L.take i).filter rP).length c6) (RL ++ (L.take i).filter rP).length (rowE (RL ++ (L.take i).filter rP)) ∧ Own wx 53 6 (.slice av L.length cv) L.length (rowE L) ∧ Gr w wx ∧ (∀ q, (Value.slice a6 (RL ++ (L.take i).filter rP).length c6).ownBlock = some q → (Value.slice av L.length cv).ownBlock ≠ some q))) (fun _ t7 _ => L.length - (intOf t7).toNat)
        case atStart => exact ⟨0, a4, c4, by omega, by rw [List.take_zero, List.filter_nil, List.append_nil], by go_num, Lib.hid ⟨by rw [List.take_zero, List.filter_nil, List.append_nil]; exact HNR.out, HN2.out.own, HG2.out, fun q hq hs => by rw [List.take_zero, List.filter_nil, List.append_nil] at hq; have h1 := HR.out.1.own.lt hq; have h2 := HN2.out.new q hs; omega⟩⟩
        case round =>
          obtain ⟨i, a6, c6, hil, rfl, rfl, HI⟩ := hrel
          have HGR := Lib.hid HI.out.2.2.1
          by_cases hli : i < L.length
          · have hli' : (i : Int) < L.length := by omega
            obtain ⟨x, hx⟩ : ∃ x, L[i]? = some x := ⟨_, List.getElem?_eq_getElem hli⟩
            have HTF : Hid (RL ++ (L.take (i + 1)).filter rP = (RL ++ (L.take i).filter rP) ++ if rP x then [x] else []) := Lib.hid (by rw [tff24 (p := rP) hx, List.append_assoc])
            have hfl : (RL ++ (L.take i).filter rP).length ≤ 512 * n + 512 := by
              have h1 := List.length_filter_le rP (L.take i)
              rw [List.length_take] at h1
              rw [List.length_append]
              omega
            have HX := Lib.hid hx
            have HNX := Lib.hid (HNE.out x)
            have HQ := Lib.hid (HRP.out x)
            have HCE := Lib.hid (show ∀ W, Own W 53 6 (.slice av L.length cv) L.length (rowE L) → ∃ g, av = some ⟨g, 0, none⟩ ∧ g < W.heap.size ∧ W.cell? ⟨g, i * 6, none⟩ = some (.int .i64 x.seq) ∧ W.cell? ⟨g, i * 6 + 1, none⟩ = some (.string x.key) ∧ W.cell? ⟨g, i * 6 + 2, none⟩ = some (.bool x.del) ∧ W.cell? ⟨g, i * 6 + 3, none⟩ = some (.int .i64 x.slot) ∧ W.cell? ⟨g, i * 6 + 4, none⟩ = some (.int .i64 x.off) ∧ W.cell? ⟨g, i * 6 + 5, none⟩ = some (.int .i64 x.size) from fun W g => ent6 g HX.out)
            generalize RL ++ (L.take i).filter rP = fl at *
            clear hx
            obtain ⟨g0, rfl, hg0, y0, y1, y2, y3, y4, y5⟩ := HCE.out _ HI.out.2.1
            obtain ⟨x0, x1, x2, x3, x4, x5⟩ := x
            simp only [enV] at HNX
            simp only at y0 y1 y2 y3 y4 y5 HQ
            generalize rP ⟨x0, x1, x2, x3, x4, x5⟩ = B at *
            cases x2 with
            | false =>
              have HQF : Hid (B = false) := Lib.hid (by rw [HQ.out]; rfl)
              go_wp2_with fail
              go_roundw
              case rel => exact ⟨i + 1, a6, c6, by omega, by rw [HTF.out, HQF.out, if_neg (by decide), List.append_nil], by go_num, Lib.hid ⟨by rw [HTF.out, HQF.out, if_neg (by decide), List.append_nil]; exact HI.out.1, HI.out.2.1, HI.out.2.2.1, by rw [HTF.out, HQF.out, if_neg (by decide), List.append_nil]; exact HI.out.2.2.2⟩⟩
              case measure => simp [intOf]; omega
            | true =>
              go_wp2_with fail
              refine Calls.mono (HNX.out _ HGR.out) ?_
              rintro r w4 ⟨rfl, hg⟩
              have HL4 := Lib.hid (HI.out.2.1.gr hg)
              have HGW := Lib.hid (HGR.out.trans hg)
              have HN4 := Lib.hid (HI.out.1.gr hg)
              clear hg y0 y1 y2 y3 y4 y5
              generalize nE ⟨x0, x1, true, x3, x4, x5⟩ = ne at *
              cases ne with
              | true =>
                have HQF : Hid (B = false) := Lib.hid (by rw [HQ.out]; rfl)
                go_wp2_with fail
                go_roundw
                case rel => exact ⟨i + 1, a6, c6, by omega, by rw [HTF.out, HQF.out, if_neg (by decide), List.append_nil], by go_num, Lib.hid ⟨by rw [HTF.out, HQF.out, if_neg (by decide), List.append_nil]; exact HN4.out, HL4.out, HGW.out, by rw [HTF.out, HQF.out, if_neg (by decide), List.append_nil]; exact HI.out.2.2.2⟩⟩
                case measure => simp [intOf]; omega
              | false =>
                have HQF : Hid (B = true) := Lib.hid (by rw [HQ.out]; rfl)
                obtain ⟨g1, hge, hg1, y0, y1, y2, y3, y4, y5⟩ := HCE.out _ HL4.out
                injection hge with hge
                injection hge with hge
                subst hge
                (try simp only at y0 y1 y2 y3 y4 y5)
                go_wp2_with (first
                  | (at_builtin; go_must (refine wpList_appv _ rfl (.tmp 40) (.tmp 45) 45 rfl 53 i0 _ 6 56 Try.underlying45 hi hz0 hz1 hz2 rfl (by decide) (.slice a6 fl.length c6) fl.length (rowE fl) rfl (HN4.out.own.gr (by (repeat (first | (with_reducible exact Gr.refl _) | assumption | (with_reducible apply Gr.from_drew) | (with_reducible apply Gr.alloc) | (with_reducible apply Gr.drew) | (with_reducible refine Gr.trans ?_ (by assumption)) | (with_reducible refine Gr.setCell ?_ (by omega) _))))) (some ⟨w4.heap.size, 0, none⟩) 1 1 (enC ⟨x0, x1, true, x3, x4, x5⟩) rfl (src_newK w4 (enC ⟨x0, x1, true, x3, x4, x5⟩) _ 6 rfl (enC_one _)) (by simp only [maxLen]; omega) (by omega) ?_); intro v3 w6 hA; have N6 := Lib.hid (hA.nw (HN4.out.gr ((Gr.refl w4).alloc _)) (by have := HGW.out.sz; simp; omega)); have HG6 := Lib.hid (hA.gw (HN4.out.gr ((Gr.refl w4).alloc _)) (HGW.out.alloc _)); have HL6 := Lib.hid ((HL4.out.gr ((Gr.refl w4).alloc _)).mdh (hA.mdh (S := fun q => (Value.slice a6 fl.length c6).ownBlock = some q) (fun g h => h)) (fun q hq hs => HI.out.2.2.2 q hs hq)); have HD6 := Lib.hid (fun q (hq : v3.ownBlock = some q) => (hA.2.1 q hq).elim (fun h => HI.out.2.2.2 q h) (fun h hs => by have := HL4.out.lt hs; simp at h; omega)); obtain ⟨a7, c7, rfl⟩ := hA.val; clear hA)
                  | fail)
                go_roundw
                case rel => exact ⟨i + 1, a7, c7, by omega, by rw [HTF.out, HQF.out, if_pos rfl, List.length_append]; rfl, by go_num, Lib.hid ⟨by rw [HTF.out, HQF.out, if_pos rfl, List.length_append, rowE_snoc]; exact N6.out, HL6.out, HG6.out, by rw [HTF.out, HQF.out, if_pos rfl, List.length_append]; exact HD6.out⟩⟩
                case measure => simp [intOf]; omega
          · have hli' : ¬ (i : Int) < L.length := by omega
            have HNZ : Hid (L.take i = L) := Lib.hid (List.take_of_length_le (by omega))
            have HNF := Lib.hid HI.out.1
            rw [HNZ.out] at HNF ⊢
            go_wp2_with fail
            go_roundw
            case rel => exact ⟨n + 1, a6, c6, by omega, by rw [HRSN.out], by go_num, Lib.hid ⟨by rw [HRSN.out]; exact HNF.out, HGR.out⟩⟩
            case measure => simp [intOf]; omega
      · have hlt' : ¬ (n : Int) < n0 := by omega
        have hne : n = n0 := by omega
        have HNF := Lib.hid HR.out.1
        rw [hne] at HNF ⊢
        clear hne
        go_wp2_with (go_at_call 90; refine Calls.mono (HSL.out _ HR.out.2) ?_; rintro r w2 ⟨rfl, rfl⟩)
        go_ret2
        exact ⟨.slice a4 (rL n0).length c4, rfl, HNF.out, HR.out.2⟩
end Go.Proofs.Ytmdfickejpeofaa

/- For rows: slices of structs, and bytes. -/
set_option linter.unusedVariables false
set_option linter.unusedSimpArgs false
namespace Go.Proofs.Ytmdfickejpeofaa
open Go.ChangeShapes Go.WideShapes Go.Deep
section
variable {H : Type} {enc : TypeId × Value → H} {P : Program} {w : World} {base : Nat} {spare : Nat → Bool} {held : Bool}
theorem open_slice_fields {t e : TypeId} {fs : Array Field} {fuel : Nat} {cs : List Value} {x : DataW H × List MemPlace} (ht : P.underlying t = some (.slice e)) (he : P.underlying e = some (.struct fs))
    (hone : oneCellFields P fs = true) (hC : P.cellsOf e = fs.size) (h : DataW.trod enc P w base spare held fuel t cs = some x) :
    (cs = [.slice none 0 0] ∧ x = (.nil, [])) ∨
    ∃ (a : Addr) (len cap m : Nat) (D : Nat → DataW H) (Pl : Nat → List MemPlace), cs = [.slice (some a) len cap] ∧ base ≤ a.block ∧ len ≤ cap ∧ cap ≤ maxLen ∧ m = (if spare a.block then cap else len) ∧
      x = (.slice ((List.range len).map D) ((List.range (m - len)).map fun j => D (len + j)), MemPlace.row a (m * fs.size) ++ (List.range m).flatMap Pl) ∧
      ∀ i, i < m → ∃ (ys : List (DataW H × List MemPlace)) (n : Nat), D i = .agg (ys.map (·.1)) ∧ Pl i = ys.flatMap (·.2) ∧ ys.length = fs.size ∧
        ∀ (j : Nat) (f : Field), fs[j]? = some f → ∃ (v : Value) (y : DataW H × List MemPlace), w.cell? (a.add (i * fs.size + j)) = some v ∧ ys[j]? = some y ∧ DataW.trod enc P w base spare held n f.type [v] = some y := by
  rcases open_slice ht h with h0 | ⟨a, len, cap, m, n, D, Pl, hcs, hb, hl, hm, hmm, hx, hi⟩
  · exact .inl h0
  · refine .inr ⟨a, len, cap, m, D, Pl, hcs, hb, hl, hm, hmm, by rw [hC] at hx; exact hx, fun i him => ?_⟩
    obtain ⟨cs', hc, ht'⟩ := hi i him
    rw [hC] at hc
    obtain ⟨ys, n', hn', hy, hlen, hyl, hf⟩ := DataW.trod_struct he ht'
    obtain ⟨_, hcl, hat⟩ := World.cells?_some hc
    simp only [Prod.mk.injEq] at hy
    refine ⟨ys, n', hy.1, hy.2, hyl, fun j f hj => ?_⟩
    obtain ⟨ho, hk⟩ := hone_of hone j f hj
    have hjl : j < fs.size := (Array.getElem?_eq_some_iff.1 hj).1
    have hcell := hat j hjl
    have hv : cs'[j]? = some (cs'[j]'(by omega)) := List.getElem?_eq_getElem (by omega)
    have h1 := hf j f hj
    rw [ho, hk] at h1
    have hone' : (cs'.drop j).take 1 = [cs'[j]'(by omega)] := by
      rw [List.drop_eq_getElem_cons (by omega)]
      rfl
    rw [hone'] at h1
    have hys : ys[j]? = some (ys[j]'(by omega)) := List.getElem?_eq_getElem (by omega)
    refine ⟨_, _, ?_, hys, h1.trans hys⟩
    rw [← Go.Deep.add_add, hcell, hv]
end

open Go.RowKit
theorem list_of {α : Type} (len : Nat) (d : α) (R : Nat → α → Prop) (h : ∀ i, i < len → ∃ x, R i x) : ∃ l : List α, l.length = len ∧ ∀ i, i < l.length → R i (l[i]?.getD d) := by
  classical
  refine ⟨(List.range len).map (fun i => if hi : i < len then Classical.choose (h i hi) else d), by simp, fun i hi => ?_⟩
  have hi' : i < len := by simpa using hi
  simp only [List.getElem?_map, List.getElem?_range hi', Option.map_some, Option.getD_some, dif_pos hi']
  exact Classical.choose_spec (h i hi')
theorem u8_of {a : Int} (h : (Lit.int .u8 a).wf = true) : ∃ c : UInt8, a = (c.toNat : Int) := by
  have h' : (decide (IntKind.u8.min ≤ a) && decide (a ≤ IntKind.u8.max)) = true := h
  have : 0 ≤ a ∧ a ≤ 255 := by simpa [IntKind.min, IntKind.max, IntKind.signed, IntKind.bits] using h'
  refine ⟨UInt8.ofNat a.toNat, ?_⟩
  rw [UInt8.toNat_ofNat_of_lt' (by have : UInt8.size = 256 := rfl; omega)]
  omega
theorem at_add {w : World} {a : Addr} {k : Nat} {v : Value} (h : w.cell? (a.add k) = some v) (hs : a.spot = none) : a.block < w.heap.size ∧ w.cell? ⟨a.block, a.off + k, none⟩ = some v := by
  have e : a.add k = ⟨a.block, a.off + k, none⟩ := by
    unfold Addr.add
    obtain ⟨b, o, s⟩ := a
    split
    · simp_all
    · rfl
  rw [e] at h
  refine ⟨?_, h⟩
  unfold World.cell? at h
  refine Classical.byContradiction fun hc => ?_
  rw [Array.getElem?_eq_none (by simpa using hc)] at h
  cases h
theorem spot_add {w : World} {a : Addr} {v : Value} (h : w.cell? (a.add 0) = some v) : a.spot = none := by
  simpa [Addr.add] using World.cell?_spot h
end Go.Proofs.Ytmdfickejpeofaa

/- Rows of entries. -/
set_option linter.unusedVariables false
set_option linter.unusedSimpArgs false
namespace Go.Proofs.Ytmdfickejpeofaa
open Go.ChangeShapes Go.WideShapes Go.Deep Go.RowKit
theorem i64e {a : Int} (h : (Lit.int .i64 a).wf = true) : -9223372036854775808 ≤ a ∧ a ≤ 9223372036854775807 := by
  simp only [Lit.wf, Bool.and_eq_true, decide_eq_true_eq] at h
  exact h
/-- The entries of a list lie at a. -/
def EntAt (w : World) (a : Option Addr) (l : List En) : Prop :=
  ∀ i x, l[i]? = some x → ∃ b off, a = some ⟨b, off, none⟩ ∧ b < w.heap.size ∧ w.cell? ⟨b, off + i * 6, none⟩ = some (.int .i64 x.seq) ∧ w.cell? ⟨b, off + i * 6 + 1, none⟩ = some (.string x.key) ∧ w.cell? ⟨b, off + i * 6 + 2, none⟩ = some (.bool x.del) ∧ w.cell? ⟨b, off + i * 6 + 3, none⟩ = some (.int .i64 x.slot) ∧ w.cell? ⟨b, off + i * 6 + 4, none⟩ = some (.int .i64 x.off) ∧ w.cell? ⟨b, off + i * 6 + 5, none⟩ = some (.int .i64 x.size) ∧ -9223372036854775808 ≤ x.size ∧ x.size ≤ 9223372036854775807
theorem open_entries {H : Type} {enc : TypeId × Value → H} {w : World} {base : Nat} {spare : Nat → Bool} {held : Bool} {fuel : Nat} {a : Option Addr} {len cap : Nat} {x : DataW H × List MemPlace}
    (h : DataW.trod enc Try.prog w base spare held fuel 45 (Value.slice a len cap).cells.toList = some x) : len ≤ cap ∧ cap ≤ maxLen ∧ ∃ l : List En, l.length = len ∧ EntAt w a l := by
  rcases open_slice_fields Try.underlying45 Try.underlying53 (by kernel_rfl) (show Try.prog.cellsOf 53 = 6 by kernel_rfl) h with ⟨hcs, _⟩ | ⟨a', l, c, m, D, Pl, hcs, _, hl, hm, hmm, _, hi⟩
  · simp [Value.cells] at hcs
    obtain ⟨rfl, rfl, rfl⟩ := hcs
    exact ⟨by omega, by simp [maxLen], [], rfl, fun i x hx => by simp at hx⟩
  · simp [Value.cells] at hcs
    obtain ⟨rfl, rfl, rfl⟩ := hcs
    refine ⟨hl, hm, ?_⟩
    by_cases h0 : 0 < len
    · have hml : len ≤ m := by rw [hmm]; split <;> omega
      have hsp : a'.spot = none := by
        obtain ⟨ys, n, _, _, _, hf⟩ := hi 0 (by omega)
        obtain ⟨v, y, hc, _, _⟩ := hf 0 _ rfl
        exact spot_add (by simpa using hc)
      obtain ⟨l, hl1, hl2⟩ := list_of len (⟨0, ⟨#[]⟩, false, 0, 0, 0⟩ : En) (fun i t => w.cell? ⟨a'.block, a'.off + i * 6, none⟩ = some (.int .i64 t.seq) ∧ w.cell? ⟨a'.block, a'.off + i * 6 + 1, none⟩ = some (.string t.key) ∧ w.cell? ⟨a'.block, a'.off + i * 6 + 2, none⟩ = some (.bool t.del) ∧ w.cell? ⟨a'.block, a'.off + i * 6 + 3, none⟩ = some (.int .i64 t.slot) ∧ w.cell? ⟨a'.block, a'.off + i * 6 + 4, none⟩ = some (.int .i64 t.off) ∧ w.cell? ⟨a'.block, a'.off + i * 6 + 5, none⟩ = some (.int .i64 t.size) ∧ a'.block < w.heap.size ∧ -9223372036854775808 ≤ t.size ∧ t.size ≤ 9223372036854775807) (fun i hil => by
        obtain ⟨ys, n, _, _, _, hf⟩ := hi i (by omega)
        obtain ⟨v0, y0, c0, _, t0⟩ := hf 0 _ rfl
        obtain ⟨v1, y1, c1, _, t1⟩ := hf 1 _ rfl
        obtain ⟨v2, y2, c2, _, t2⟩ := hf 2 _ rfl
        obtain ⟨v3, y3, c3, _, t3⟩ := hf 3 _ rfl
        obtain ⟨v4, y4, c4, _, t4⟩ := hf 4 _ rfl
        obtain ⟨v5, y5, c5, _, t5⟩ := hf 5 _ rfl
        obtain ⟨x0, e0, _, w0⟩ := DataW.trod_int Try.underlying2 t0
        obtain ⟨x1, e1, _⟩ := DataW.trod_string Try.underlying9 t1
        obtain ⟨x2, e2, _⟩ := DataW.trod_bool Try.underlying4 t2
        obtain ⟨x3, e3, _, w3⟩ := DataW.trod_int Try.underlying3 t3
        obtain ⟨x4, e4, _, w4⟩ := DataW.trod_int Try.underlying3 t4
        obtain ⟨x5, e5, _, w5⟩ := DataW.trod_int Try.underlying3 t5
        obtain rfl := List.cons.inj e0 |>.1
        obtain rfl := List.cons.inj e1 |>.1
        obtain rfl := List.cons.inj e2 |>.1
        obtain rfl := List.cons.inj e3 |>.1
        obtain rfl := List.cons.inj e4 |>.1
        obtain rfl := List.cons.inj e5 |>.1
        obtain ⟨hb, d0⟩ := at_add c0 hsp
        exact ⟨⟨x0, x1, x2, x3, x4, x5⟩, d0, (at_add c1 hsp).2, (at_add c2 hsp).2, (at_add c3 hsp).2, (at_add c4 hsp).2, (at_add c5 hsp).2, hb, i64e w5⟩)
      refine ⟨l, hl1, fun i x hx => ?_⟩
      obtain ⟨hlt, rfl⟩ := List.getElem?_eq_some_iff.1 hx
      obtain ⟨c0, c1, c2, c3, c4, c5, hb, h4⟩ := hl2 i (by omega)
      rw [hx] at c0 c1 c2 c3 c4 c5 h4
      exact ⟨_, _, by obtain ⟨b, o, s⟩ := a'; simp_all, hb, c0, c1, c2, c3, c4, c5, h4⟩
    · obtain rfl : len = 0 := by omega
      exact ⟨[], rfl, fun i x hx => by simp at hx⟩
end Go.Proofs.Ytmdfickejpeofaa
