/- VictimOrder. -/
import Derived.Test.YtanmmnomagfkhaaGreatBd20
set_option linter.unusedVariables false
set_option linter.unusedSimpArgs false
namespace Go.Proofs.YtanmmnomagfkhaaGreat
open Go.RowKit Go.Shelf
attribute [local go_sem] OvM cell_ovm obj_ovm
attribute [local go_sem] Oper.semAt_some

theorem ownB26 {b q n c : Nat} (h : (Value.slice (some ⟨b, 0, none⟩) n c).ownBlock = some q) : q = b := by
  cases h
  rfl
theorem own_some {w : World} {t : TypeId} {K n cap : Nat} {a : Option Addr} {xs : List Value} (h : Own w t K (.slice a n cap) n xs) (hn : 0 < n) : ∃ g, a = some ⟨g, 0, none⟩ := by
  rcases h.2 with ⟨_, h0⟩ | ⟨g, cap', cur, hv, _⟩
  · omega
  · injection hv with e1 _ _
    exact ⟨g, e1⟩
theorem kN_one (l : List Int) : ∀ u ∈ kN l, u.oneCell' = true := fun u hu => by
  unfold kN at hu
  obtain ⟨x, _, rfl⟩ := List.mem_map.1 hu
  rfl
theorem boolN : (Tryz.prog.info? 4).map (fun i => (i.zero, i.size, i.bytes)) = some (some (.bool false), 1, 1) := by kernel_rfl
set_option maxRecDepth 40000 in
set_option maxHeartbeats 16000000 in
theorem VictimOrder_any (u : Int) (a : Option Addr) (len cap : Nat) (L : List Tn) (tn pol : Int) (w : World) (hu0 : 0 ≤ u) (hu1 : u ≤ 255) (hl : L.length = len) (hle : len ≤ cap) (hcap : cap ≤ maxLen) (hs : TurnAt w a L) (ht0 : 0 ≤ tn) (ht1 : tn ≤ 255) (hp0 : 0 ≤ pol) (hp1 : pol ≤ 255) :
    Calls Tryz.prog 7 #[.int .u8 u, .slice a len cap, .int .u8 tn, .int .u8 pol] w fun e w' => e = .returned (.bool true) ∧ Gr w w' := by
  by_cases h60 : 60 < len
  · have h60' : (60 : Int) < len := by omega
    clear hs hl
    go_enter Tryz.func7, Tryz.ntmps7
    go_wp2_with (go_at_call 10; refine (v_works _).mono ?_; rintro e w1 ⟨rfl, hg⟩; have HG := Lib.hid hg; clear hg)
    go_ret
    exact ⟨rfl, HG.out⟩
  have h60' : ¬ (60 : Int) < len := by omega
  obtain ⟨n, hn⟩ : ∃ n : Nat, 4 + u % 8 = (n : Int) := ⟨(4 + u % 8).toNat, by omega⟩
  have h4 : 4 ≤ n := by omega
  have h11 : n ≤ 11 := by omega
  have HST := Lib.hid (foldM_ok n (by omega) (by omega) len L hl (by omega) (turnOk hs))
  have HMD := Lib.hid (made_any u hu0 hu1 n hn a len cap L w hl (by omega) hle hcap hs)
  have hj : len ≤ 100 := by omega
  obtain ⟨p, hp⟩ : ∃ p, 1 + pol % 2 = p := ⟨_, rfl⟩
  have hpp : p = 1 ∨ p = 2 := by omega
  clear hs hl hn
  go_enter Tryz.func7, Tryz.ntmps7
  go_wp2_with fail
  refine Calls.mono HMD.out ?_
  rintro e w1 ⟨b, rb, mb, v1, v2, S, va, rfl, hs⟩
  have H1 := Lib.hid hs
  clear hs HMD
  generalize foldM n L = st at *
  have HOA := Lib.hid (show Own w1 3 1 va n (kN (allI n)) from H1.out.get (i := 0) rfl)
  obtain ⟨av, cv, rfl, hcv, hmv, hna⟩ := own_allI HOA.out
  have HNA := Lib.hid hna
  have hmv2 := hmv
  unfold maxLen at hmv2
  clear hna
  simp only [cfgV, cfgM]
  go_upto_region 4 with fail
  obtain ⟨b6, hb6⟩ : ∃ q, q = w1.heap.size := ⟨_, rfl⟩
  obtain ⟨w2, hw2⟩ : ∃ y, y = w1.alloc (.cells #[.int .i64 n, .int .i64 8192, .int .i64 2, .int .i64 65536, .int .i64 8, .int .i64 60, .int .i64 1] 24) := ⟨_, rfl⟩
  have H2 := Lib.hid (H1.out.alloc (.cells #[.int .i64 n, .int .i64 8192, .int .i64 2, .int .i64 65536, .int .i64 8, .int .i64 60, .int .i64 1] 24))
  have HG12 : Hid (Gr w1 w2) := Lib.hid (by rw [hw2]; exact (Gr.refl w1).alloc _)
  rw [← hw2, ← hb6] at H2
  rw [← hw2, ← hb6]
  clear hw2 hb6 H1
  have HORD := Lib.hid (fun W (g : Gr w2 W) (l : List Int) (a : Option Addr) (cap : Nat) hl hle hcap hn hin hd => made_order (len := n) HST.out hj h4 h11 (show IXR W b st.X S from (H2.out.gr g).get (i := 2) rfl) (l := l) (a := a) (cap := cap) hl hle hcap (by omega) hn hin hd p hpp)
  have HSDS := Lib.hid (fun W (g : Gr w2 W) (l : List Int) (a : Option Addr) (cap : Nat) hl hle hcap hn hin hd => made_sides26 (len := n) HST.out hj h4 h11 (show IXR W b st.X S from (H2.out.gr g).get (i := 2) rfl) (l := l) (a := a) (cap := cap) hl hle hcap (by omega) hn hin hd)
  have HCHO := Lib.hid (fun W (g : Gr w2 W) (l : List Int) (a : Option Addr) (cap : Nat) hl hle hcap hn hin hd => made_choose (len := n) HST.out hj h4 h11 (show IXR W b st.X S from (H2.out.gr g).get (i := 2) rfl) (l := l) (a := a) (cap := cap) hl hle hcap (by omega) hn hin hd p hpp)
  simp only [cfgV, cfgM] at HORD HSDS HCHO
  have HOF := Lib.hid (fun (M : List Sd) hM => ord_f (M := M) HST.out hj h11 hpp hM)
  have HC8 := Lib.hid (made_chk26 HST.out hj (show ((n : Nat) : Int) ≤ 32 by omega) (allI_in (n := n)))
  obtain ⟨X, all, nx⟩ := st
  simp only at HORD HSDS HCHO HOF HC8
  have HG2 := Lib.hid (Gr.refl w2)
  have dm0 := ((cellsOf (show w2.heap[mb]? = _ from H2.out.get (i := 5) rfl)).1 0).trans (show _ = some (Value.pointer (some ⟨b, 0, none⟩)) from rfl)
  have d6 := (cellsOf (show w2.heap[b6]? = _ from H2.out.get (i := 0) rfl)).1
  go_upto_region 8 with fail
  (try rw [hp])
  refine wp_region_flo (fun _ => False) [] [] (by kernel_rfl) (by kernel_rfl) (fun _ h => h.elim) ?_
  refine flo_seg 8 rfl ?_
  simp only [List.take_succ_cons, List.take_zero, List.drop_succ_cons, List.drop_zero]
  repeat (go_big_quiet_step (fail))
  refine wpQuiet_nil ?_
  refine flo_eff rfl rfl rfl rfl (fun K hK => ?_)
  go_wp2_with ((go_at_call 17; refine Calls.mono (HORD.out _ (Gr.refl w2).drew _ _ _ (allI_len n) hcv hmv (HNA.out.gr (HG12.out.trans (Gr.refl w2).drew)) allI_in (allI_nodup n)) ?_; rintro e w3 ⟨vo, M, rfl, hM, hml, hno, hg⟩; have HM := Lib.hid hM; have HNO := Lib.hid hno; have HGD := Lib.hid hg; clear hM hno hg))
  refine ⟨by exact HGD.out.mdh _, ?_⟩
  refine flo_seg 5 rfl ?_
  simp only [List.take_succ_cons, List.take_zero, List.drop_succ_cons, List.drop_zero]
  repeat (go_big_quiet_step (fail))
  refine wpQuiet_nil ?_
  refine flo_nil ?_
  have HF := Lib.hid (HOF.out _ HM.out)
  obtain ⟨ao, co, hvo, hco, hmo, hnao⟩ := numAt_own (l := M.map (·.1)) (by rw [List.length_map]; exact HNO.out.own)
  rw [List.length_map, hml] at hvo hco
  subst hvo
  have HAO := Lib.hid hnao
  have hmo2 := hmo
  unfold maxLen at hmo2
  clear hnao
  have HG3 := Lib.hid ((Gr.refl w2).drew.trans HGD.out)
  clear dm0 d6 HGD HNO
  have H3 := Lib.hid (H2.out.gr HG3.out)
  have dm0 := ((cellsOf (show w3.heap[mb]? = _ from H3.out.get (i := 5) rfl)).1 0).trans (show _ = some (Value.pointer (some ⟨b, 0, none⟩)) from rfl)
  have d6 := (cellsOf (show w3.heap[b6]? = _ from H3.out.get (i := 0) rfl)).1
  go_wp2_with fail
  refine wp_region_flo (fun _ => False) [] [] (by kernel_rfl) (by kernel_rfl) (fun _ h => h.elim) ?_
  refine flo_seg 7 rfl ?_
  simp only [List.take_succ_cons, List.take_zero, List.drop_succ_cons, List.drop_zero]
  repeat (go_big_quiet_step (fail))
  refine wpQuiet_nil ?_
  refine flo_eff rfl rfl rfl rfl (fun K hK => ?_)
  go_wp2_with ((go_at_call 13; refine Calls.mono (HSDS.out _ (HG3.out.trans (Gr.refl w3).drew) (M.map (·.1)) _ _ (by rw [List.length_map, hml]) hco hmo (HAO.out.gr (Gr.refl w3).drew) HF.out.sl HF.out.nd) ?_; rintro e w4 ⟨vs, rfl, hns, hg⟩; rw [HF.out.bk] at hns; have HNS := Lib.hid hns; have HGD := Lib.hid hg; clear hns hg))
  refine ⟨by exact HGD.out.mdh _, ?_⟩
  refine flo_seg 5 rfl ?_
  simp only [List.take_succ_cons, List.take_zero, List.drop_succ_cons, List.drop_zero]
  repeat (go_big_quiet_step (fail))
  refine wpQuiet_nil ?_
  refine flo_nil ?_
  obtain ⟨gs, cs, rfl, hcs1, hcs2, _⟩ := sides_of_row HNS.out.own hml (by omega)
  have hcs3 := hcs2
  unfold maxLen at hcs3
  have HG34 := Lib.hid ((Gr.refl w3).drew.trans HGD.out)
  have HG4 := Lib.hid (HG3.out.trans HG34.out)
  clear dm0 d6 HGD H3
  obtain ⟨i0, hi, hz0, hz1, hz2⟩ := info_parts boolN
  go_wp2_with (at_make; refine wpList_make_full _ rfl _ _ 93 rfl w4.heap.size 4 i0 _ 1 Tryz.underlying93 hi hz0 hz1 _ _ _ _ n rfl rfl rfl rfl (by rw [hz2]; omega) (by simp only [maxLen]; omega) (Nat.le_refl _) ?_; intro w5 hown hgr; have HSO := Lib.hid hown; have HG45 := Lib.hid hgr; clear hown hgr)
  obtain ⟨bs, hbs⟩ : ∃ q, q = w4.heap.size := ⟨_, rfl⟩
  rw [← hbs]
  have HGA5 : Hid (Gr w4 w5) := Lib.hid ⟨HG45.out.os, HG45.out.tape, HG45.out.output, HG45.out.size, fun k hk => HG45.out.block k hk (by simp)⟩
  have HC5 : Hid (CRow w5 4 bs n (fun (σ : Nat) => .bool (decide ((σ : Int) ∈ (M.take 0).map (·.1))))) := Lib.hid (by
    have h1 := Own.lift HSO.out
    rw [← hbs] at h1
    exact (CRow.ofOwn (f := fun _ => .bool false) h1 (fun i hi => made_get _ n i hi)).congr (fun i hi => by simp))
  have HBS : Hid (bs = w4.heap.size) := Lib.hid hbs
  have HAO4 := Lib.hid (HAO.out.gr HG34.out)
  have HNO4 := Lib.hid HNS.out.own
  clear HSO HG45 hbs HNS HG34
  have hlM : M.length = n := hml
  go_wp2_with fail
  go_loopw [21] (fun t21 wx => ∃ i : Nat, i ≤ n ∧ t21 = .int .i64 i ∧ Hid (Gr w4 wx ∧ CRow wx 4 bs n (fun (σ : Nat) => .bool (decide ((σ : Int) ∈ (M.take i).map (·.1)))))) (fun t21 _ => n - (intOf t21).toNat)
  case atStart => exact ⟨0, by omega, rfl, Lib.hid ⟨HGA5.out, HC5.out⟩⟩
  case round =>
    obtain ⟨i, hin, rfl, HR⟩ := hrel
    by_cases hlt : i < n
    · have hlt' : (i : Int) < n := by omega
      have hMi : M[i]? = some (gS M i) := by unfold gS; rw [List.getElem?_eq_getElem (by omega)]; rfl
      obtain ⟨σ, hσ⟩ : ∃ σ : Nat, (gS M i).1 = (σ : Int) := by
        have := HF.out.sl (gS M i).1 (List.mem_map.2 ⟨_, List.mem_of_getElem? hMi, rfl⟩)
        exact ⟨(gS M i).1.toNat, by omega⟩
      have hσn : σ < n := by
        have := HF.out.sl (gS M i).1 (List.mem_map.2 ⟨_, List.mem_of_getElem? hMi, rfl⟩)
        omega
      obtain ⟨bo, oo, rfl, hbo, zo⟩ := HAO4.out i (gS M i).1 (by rw [List.getElem?_map, hMi]; rfl)
      have z0 := (HR.out.1.cell _ _ hbo).trans zo
      obtain ⟨c0, c1, c2⟩ := own_side (HNO4.out.gr HR.out.1) hlM (x := i) hlt
      have zs := HR.out.2.cell σ hσn
      have hfr : decide ((σ : Int) ∈ (M.take i).map (·.1)) = false := decide_eq_false (by rw [← hσ]; exact HF.out.fresh i hlt)
      rw [hfr] at zs
      have fs := HR.out.2.fr σ
      have ls := HR.out.2.lt
      have HCMP : Hid (∀ (k : Nat), k < i → ∀ W, Calls Tryz.prog 48 #[.int .i64 p, .agg #[.int .i64 (gS M k).1, .int .i64 (gS M k).2.1, .int .i64 (gS M k).2.2], .agg #[.int .i64 σ, .int .i64 (gS M i).2.1, .int .i64 (gS M i).2.2], .int .i64 8176] W fun e w' => e = .returned (.tuple #[.int .i64 (-1), .int .i64 0]) ∧ Gr W w') := Lib.hid (fun k hk W => by
        obtain ⟨e1, e2⟩ := HF.out.cmp k i hk hlt
        have h1 := Compare_any p (gS M k).1 (gS M k).2.1 (gS M k).2.2 (gS M i).1 (gS M i).2.1 (gS M i).2.2 8176 W
        rw [e1, e2, hσ] at h1
        exact h1)
      have HST2 : Hid (∀ W : World, CRow W 4 bs n (fun (τ : Nat) => .bool (decide ((τ : Int) ∈ (M.take i).map (·.1)))) → CRow (W.setCell ⟨bs, σ, none⟩ (.bool true)) 4 bs n (fun (τ : Nat) => .bool (decide ((τ : Int) ∈ (M.take (i + 1)).map (·.1))))) := Lib.hid (fun W hC => by
        refine (hC.set hσn (.bool true)).congr (fun τ hτ => ?_)
        unfold updV
        rw [List.take_add_one, hMi]
        simp only [Option.toList_some, List.map_append, List.map_cons, List.map_nil]
        rw [mem_snoc', hσ]
        by_cases e : τ = σ
        · rw [if_pos e, e]; simp
        · rw [if_neg e, decide_eq_false (show ¬ (τ : Int) = (σ : Int) by omega), Bool.or_false])
      rw [hσ] at z0 c0
      clear hfr zo hMi
      have hn1 : ¬ (σ : Int) < 0 := by omega
      have hn2 : ¬ (n : Int) ≤ σ := by omega
      have hd1 : decide ((σ : Int) < 0) = false := decide_eq_false hn1
      have hd2 : decide ((n : Int) ≤ (σ : Int)) = false := decide_eq_false hn2
      have hσn' : (σ : Int) < n := by omega
      have hd3 : decide (n ≤ σ) = false := decide_eq_false (by omega)
      have hn3 : ¬ n ≤ σ := by omega
      go_wp2_with fail
      refine wp_region_flo (fun _ => False) [] [] (by kernel_rfl) (by kernel_rfl) (fun _ h => h.elim) ?_
      refine flo_seg 35 rfl ?_
      simp only [List.take_succ_cons, List.take_zero, List.drop_succ_cons, List.drop_zero]
      repeat (go_big_quiet_step (fail))
      refine wpQuiet_nil ?_
      refine flo_nil ?_
      have HRD := Lib.hid (And.intro (HR.out.1.trans (Gr.refl wr).drew) (HR.out.2.gr (Gr.refl wr).drew))
      obtain ⟨w6, hw6⟩ : ∃ y, y = wr.drew := ⟨_, rfl⟩
      rw [← hw6] at HRD
      have zo6 : w6.cell? ⟨bo, oo + i, none⟩ = some (.int .i64 σ) := by rw [hw6]; exact (Gr.refl wr).drew.keep z0
      have zs6 : w6.cell? ⟨bs, σ, none⟩ = some (.bool false) := by rw [hw6]; exact (Gr.refl wr).drew.keep zs
      have fs6 := HRD.out.2.fr σ
      have ls6 := HRD.out.2.lt
      rw [← hw6]
      clear hw6 z0 zs fs ls c0 c1 c2
      go_wp2_with fail
      obtain ⟨w7, hw7⟩ : ∃ y, y = w6.setCell ⟨bs, σ, none⟩ (.bool true) := ⟨_, rfl⟩
      have HR7 : Hid (Gr w4 w7 ∧ CRow w7 4 bs n (fun (τ : Nat) => .bool (decide ((τ : Int) ∈ (M.take (i + 1)).map (·.1))))) := Lib.hid (by
        rw [hw7]
        exact ⟨HRD.out.1.md ((Mdh.refl (fun k => k = bs) w6).setCell (p := ⟨bs, σ, none⟩) rfl _) (fun k hk => by rw [hk, HBS.out]; exact Nat.le_refl _), HST2.out w6 HRD.out.2⟩)
      rw [← hw7]
      clear hw7 zo6 zs6 fs6 ls6
      go_loopw [22] (fun t22 wx => ∃ k : Nat, k ≤ i ∧ t22 = .int .i64 k ∧ Hid (Gr w4 wx ∧ CRow wx 4 bs n (fun (τ : Nat) => .bool (decide ((τ : Int) ∈ (M.take (i + 1)).map (·.1)))))) (fun t22 _ => i - (intOf t22).toNat)
      case atStart => exact ⟨0, by omega, rfl, HR7⟩
      case round =>
        obtain ⟨k, hki, rfl, HK⟩ := hrel
        by_cases hlk : k < i
        · have hlk' : (k : Int) < i := by omega
          have hkn' : (k : Int) < n := by omega
          obtain ⟨c0, c1, c2⟩ := own_side (HNO4.out.gr HK.out.1) hlM (x := i) hlt
          obtain ⟨q0, q1, q2⟩ := own_side (HNO4.out.gr HK.out.1) hlM (x := k) (by omega)
          rw [hσ] at c0
          have HCK := Lib.hid (HCMP.out k hlk)
          generalize (gS M k).1 = x0 at *
          generalize (gS M k).2.1 = x1 at *
          generalize (gS M k).2.2 = x2 at *
          generalize (gS M i).2.1 = y1 at *
          generalize (gS M i).2.2 = y2 at *
          go_wp2_with fail
          refine wp_region_flo (fun _ => False) [] [] (by kernel_rfl) (by kernel_rfl) (fun _ h => h.elim) ?_
          refine flo_seg 10 rfl ?_
          simp only [List.take_succ_cons, List.take_zero, List.drop_succ_cons, List.drop_zero]
          repeat (go_big_quiet_step (fail))
          refine wpQuiet_nil ?_
          refine flo_eff rfl rfl rfl rfl (fun K hK => ?_)
          go_wp2_with ((go_at_call 48; refine Calls.mono (HCK.out _) ?_; rintro e w8 ⟨rfl, hg⟩; have HGD := Lib.hid hg; clear hg))
          refine ⟨by exact HGD.out.mdh _, ?_⟩
          refine flo_seg 5 rfl ?_
          simp only [List.take_succ_cons, List.take_zero, List.drop_succ_cons, List.drop_zero]
          repeat (go_big_quiet_step (fail))
          refine wpQuiet_nil ?_
          refine flo_nil ?_
          have HK8 : Hid (Gr w4 w8 ∧ CRow w8 4 bs n (fun (τ : Nat) => .bool (decide ((τ : Int) ∈ (M.take (i + 1)).map (·.1))))) := Lib.hid ⟨HK.out.1.trans ((Gr.refl wr).drew.trans HGD.out), HK.out.2.gr ((Gr.refl wr).drew.trans HGD.out)⟩
          clear c0 c1 c2 q0 q1 q2 HGD
          go_wp2_with fail
          go_roundw
          case rel => exact ⟨k + 1, by omega, by go_num, HK8⟩
          case measure => simp [intOf]; omega
        · have hlk' : ¬ (k : Int) < i := by omega
          go_wp2_with fail
          go_roundw
          case rel => exact ⟨i + 1, by omega, by go_num, HK⟩
          case measure => simp [intOf]; omega
    · have hlt' : ¬ (i : Int) < n := by omega
      have HGR := Lib.hid HR.out.1
      clear HR
      obtain ⟨ga, hga⟩ := own_some HOA.out (by omega)
      subst hga
      have HOAR := Lib.hid (HOA.out.gr (HG12.out.trans (HG4.out.trans HGR.out)))
      obtain ⟨kt, hkt⟩ : ∃ kt : Nat, tn % (n : Int) = (kt : Int) := ⟨(tn % (n : Int)).toNat, by have := Int.emod_nonneg tn (show (n : Int) ≠ 0 by omega); omega⟩
      have hktn : kt < n := by have := Int.emod_lt_of_pos tn (show (0 : Int) < n by omega); omega
      have hn0 : ((n : Int) == 0) = false := by simp; omega
      have hn0' : ¬ (n : Int) = 0 := by omega
      go_upto_region 26 with fail
      (try rw [hkt])
      clear hkt
      have hk1 : (kt : Int) ≤ n := by omega
      have hk2 : (kt : Int) ≤ cv := by omega
      have hk3 : (n : Int) ≤ cv := by omega
      obtain ⟨i1, hi1, hy0, hy1, hy2⟩ := info_parts infoN
      have HG := Gr.refl wr.drew
      obtain ⟨V, hV⟩ : ∃ V, V = Value.slice (some ⟨ga, 0, none⟩) n cv := ⟨_, rfl⟩
      have HVE := Lib.hid hV
      rw [← hV] at HOAR
      rw [← hV]
      obtain ⟨x1, n1, s1, src1, z1⟩ := slice_drop Tryz.underlying25 hi1 hy1 HOAR.out (kN_one (allI n)) (i := kt) (by omega)
      obtain ⟨x2, n2, s2, src2, z2⟩ := slice_take Tryz.underlying25 hi1 hy1 HOAR.out (kN_one (allI n)) (i := kt) (by omega)
      have SRC := Lib.hid (And.intro src1 src2)
      clear hV src1 src2 z1 z2
      go_wp2_with fail
      refine wp_region_flo (fun _ => False) [] [] (by kernel_rfl) (by kernel_rfl) (fun _ h => h.elim) ?_
      refine flo_eff rfl rfl rfl rfl (fun K hK => ?_)
      go_wp2
      refine ⟨by (first | (refine Gr.mdh ?_ _; (repeat (first | (with_reducible exact Gr.refl _) | assumption | (with_reducible apply Gr.from_drew) | (with_reducible apply Gr.alloc) | (with_reducible apply Gr.drew) | (with_reducible refine Gr.trans ?_ (by assumption)) | (with_reducible refine Gr.setCell ?_ (by omega) _))); done) | (repeat (first | (with_reducible exact Mdh.refl _ _) | (with_reducible refine Mdh.setCell ?_ (by simp) _) | (with_reducible refine Mdh.setNew ?_ (by simp) _) | (with_reducible apply Mdh.alloc) | (with_reducible apply Mdh.from_drew) | (with_reducible apply Mdh.drew) | (with_reducible refine Mdh.gr ?_ (by assumption))))), ?_⟩
      refine flo_seg 3 rfl ?_
      simp only [List.take_succ_cons, List.take_zero, List.drop_succ_cons, List.drop_zero]
      repeat (go_big_quiet_step (fail))
      refine wpQuiet_nil ?_
      refine flo_eff rfl rfl rfl rfl (fun K hK => ?_)
      refine wp_appv _ (.tmp 177) (.tmp 180) 25 rfl 3 i1 _ 1 8 Tryz.underlying25 hi1 hy0 hy1 hy2 rfl (by decide) (.slice (some ⟨wr.heap.size, 0, none⟩) 0 0) 0 [] rfl ((Nw.made (w0 := wr) (w := wr) (Nat.le_refl _)).own.gr (by (repeat (first | (with_reducible exact Gr.refl _) | assumption | (with_reducible apply Gr.from_drew) | (with_reducible apply Gr.alloc) | (with_reducible apply Gr.drew) | (with_reducible refine Gr.trans ?_ (by assumption)) | (with_reducible refine Gr.setCell ?_ (by omega) _))))) x1 (n - kt) _ ((kN (allI n)).drop (kt * 1)) rfl (SRC.out.1.gr (by (repeat (first | (with_reducible exact Gr.refl _) | assumption | (with_reducible apply Gr.from_drew) | (with_reducible apply Gr.alloc) | (with_reducible apply Gr.drew) | (with_reducible refine Gr.trans ?_ (by assumption)) | (with_reducible refine Gr.setCell ?_ (by omega) _))))) (by simp only [maxLen]; omega) (by omega) (fun k3 xa hk3 => ?_); rw [Nat.zero_add, List.nil_append] at hk3; (have n3 := hk3.nw (w0 := wr) ((Nw.made (w0 := wr) (w := wr) (e := 3) (K := 1) (Nat.le_refl _)).gr (by (repeat (first | (with_reducible exact Gr.refl _) | assumption | (with_reducible apply Gr.from_drew) | (with_reducible apply Gr.alloc) | (with_reducible apply Gr.drew) | (with_reducible refine Gr.trans ?_ (by assumption)) | (with_reducible refine Gr.setCell ?_ (by omega) _))))) (Gr.sz (by (repeat (first | (with_reducible exact Gr.refl _) | assumption | (with_reducible apply Gr.from_drew) | (with_reducible apply Gr.alloc) | (with_reducible apply Gr.drew) | (with_reducible refine Gr.trans ?_ (by assumption)) | (with_reducible refine Gr.setCell ?_ (by omega) _)))))); (have m3 := hk3.gw (w0 := wr) ((Nw.made (w0 := wr) (w := wr) (e := 3) (K := 1) (Nat.le_refl _)).gr (by (repeat (first | (with_reducible exact Gr.refl _) | assumption | (with_reducible apply Gr.from_drew) | (with_reducible apply Gr.alloc) | (with_reducible apply Gr.drew) | (with_reducible refine Gr.trans ?_ (by assumption)) | (with_reducible refine Gr.setCell ?_ (by omega) _))))) (by (repeat (first | (with_reducible exact Gr.refl _) | assumption | (with_reducible apply Gr.from_drew) | (with_reducible apply Gr.alloc) | (with_reducible apply Gr.drew) | (with_reducible refine Gr.trans ?_ (by assumption)) | (with_reducible refine Gr.setCell ?_ (by omega) _))))); refine hK _ _ ⟨hk3.mdh (fun q hq => by rw [ownB26 hq]; right; right; exact ⟨Nat.le_refl _, by simp⟩), ?_⟩; simp only [Act.put, List.setIfInBounds_toArray, List.set_cons_succ, List.set_cons_zero]
      refine flo_seg 3 rfl ?_
      simp only [List.take_succ_cons, List.take_zero, List.drop_succ_cons, List.drop_zero]
      repeat (go_big_quiet_step (fail))
      refine wpQuiet_nil ?_
      refine flo_eff rfl rfl rfl rfl (fun K hK => ?_)
      refine wp_appv _ (.tmp 181) (.tmp 184) 25 rfl 3 i1 _ 1 8 Tryz.underlying25 hi1 hy0 hy1 hy2 rfl (by decide) k3 (n - kt) ((kN (allI n)).drop (kt * 1)) rfl hk3.1 x2 kt _ ((kN (allI n)).take (kt * 1)) rfl (SRC.out.2.gr m3) (by simp only [maxLen]; omega) (by omega) (fun k5 xb hk5 => ?_); obtain ⟨a5, c5, rfl⟩ := hk5.val; refine hK _ _ ⟨hk5.mdh (fun q hq => (hk3.2.1 q hq).elim (fun h => by rw [ownB26 h]; exact .inr (.inl (.inr ⟨Nat.le_refl _, by simp⟩))) (fun h => .inr (.inr ⟨h, hk3.1.lt hq⟩))), ?_⟩; simp only [Act.put, List.setIfInBounds_toArray, List.set_cons_succ, List.set_cons_zero]
      refine flo_seg 1 rfl ?_
      simp only [List.take_succ_cons, List.take_zero, List.drop_succ_cons, List.drop_zero]
      repeat (go_big_quiet_step (fail))
      refine wpQuiet_nil ?_
      refine flo_nil ?_
      have n5 := hk5.nw n3 m3.sz
      have m5 := hk5.gw n3 m3
      have hnn : n - kt + kt = n := by omega
      have hTe : (kN (allI n)).drop (kt * 1) ++ (kN (allI n)).take (kt * 1) = kN ((allI n).drop kt ++ (allI n).take kt) := by
        rw [Nat.mul_one]
        simp [kN, List.map_drop, List.map_take]
      rw [hTe, hnn] at n5
      rw [hnn]
      obtain ⟨T, hT⟩ : ∃ T, T = (allI n).drop kt ++ (allI n).take kt := ⟨_, rfl⟩
      have HTP : Hid (T.Perm (allI n)) := Lib.hid (by
        rw [hT]
        exact (List.perm_append_comm).trans (by rw [List.take_append_drop]))
      rw [← hT] at n5
      have hTl : T.length = n := HTP.out.length_eq.trans (allI_len n)
      obtain ⟨a6, c6, hv6, hc6, hm6, hna6⟩ := numAt_own (l := T) (by rw [hTl]; exact n5.own)
      rw [hTl] at hv6 hc6
      injection hv6 with e1 _ e2
      subst e1
      subst e2
      have HA6 := Lib.hid hna6
      have hm62 := hm6
      unfold maxLen at hm62
      have HTI : Hid ((∀ s ∈ T, 0 ≤ s ∧ s < (n : Int)) ∧ T.Nodup) := Lib.hid ⟨fun s hs => allI_in s (HTP.out.mem_iff.1 hs), HTP.out.nodup_iff.2 (allI_nodup n)⟩
      have HG6 := Lib.hid (HG4.out.trans (HGR.out.trans m5))
      have HAO6 := Lib.hid (HAO4.out.gr (HGR.out.trans m5))
      clear hna6 hTe hT n5 n3 hk3 hk5 m3 m5 s1 s2 HG SRC HOAR
      have H6 := Lib.hid (H2.out.gr HG6.out)
      have dm0 := ((cellsOf (show xb.heap[mb]? = _ from H6.out.get (i := 5) rfl)).1 0).trans (show _ = some (Value.pointer (some ⟨b, 0, none⟩)) from rfl)
      have d6 := (cellsOf (show xb.heap[b6]? = _ from H6.out.get (i := 0) rfl)).1
      go_wp2_with fail
      refine wp_region_flo (fun _ => False) [] [] (by kernel_rfl) (by kernel_rfl) (fun _ h => h.elim) ?_
      refine flo_seg 8 rfl ?_
      simp only [List.take_succ_cons, List.take_zero, List.drop_succ_cons, List.drop_zero]
      repeat (go_big_quiet_step (fail))
      refine wpQuiet_nil ?_
      refine flo_eff rfl rfl rfl rfl (fun K hK => ?_)
      go_wp2_with ((go_at_call 17; refine Calls.mono (HORD.out _ (HG6.out.trans (Gr.refl xb).drew) T _ _ hTl hc6 hm6 (HA6.out.gr (Gr.refl xb).drew) HTI.out.1 HTI.out.2) ?_; rintro e w7 ⟨v7, M2, rfl, hM2, hml2, hno, hg⟩; have HM2 := Lib.hid hM2; have HNO := Lib.hid hno; have HGD := Lib.hid hg; clear hM2 hno hg))
      refine ⟨by exact HGD.out.mdh _, ?_⟩
      refine flo_seg 5 rfl ?_
      simp only [List.take_succ_cons, List.take_zero, List.drop_succ_cons, List.drop_zero]
      repeat (go_big_quiet_step (fail))
      refine wpQuiet_nil ?_
      refine flo_nil ?_
      have hMM : M2 = M := ord_same hpp (allI_nodup n) HC8.out HTP.out HM.out HM2.out
      subst hMM
      obtain ⟨a7, c7, hv7, hc7, hm7, hna7⟩ := numAt_own (l := M2.map (·.1)) (by rw [List.length_map]; exact HNO.out.own)
      rw [List.length_map, hml2] at hv7 hc7
      subst hv7
      have HA7 := Lib.hid hna7
      have hm72 := hm7
      unfold maxLen at hm72
      have HG67 := Lib.hid ((Gr.refl xb).drew.trans HGD.out)
      have HG7 := Lib.hid (HG6.out.trans HG67.out)
      clear dm0 d6 HGD HNO hna7 H6
      have H7 := Lib.hid (H2.out.gr HG7.out)
      have dm0 := ((cellsOf (show w7.heap[mb]? = _ from H7.out.get (i := 5) rfl)).1 0).trans (show _ = some (Value.pointer (some ⟨b, 0, none⟩)) from rfl)
      have d6 := (cellsOf (show w7.heap[b6]? = _ from H7.out.get (i := 0) rfl)).1
      go_wp2_with fail
      refine wp_region_flo (fun _ => False) [] [] (by kernel_rfl) (by kernel_rfl) (fun _ h => h.elim) ?_
      refine flo_seg 8 rfl ?_
      simp only [List.take_succ_cons, List.take_zero, List.drop_succ_cons, List.drop_zero]
      repeat (go_big_quiet_step (fail))
      refine wpQuiet_nil ?_
      refine flo_eff rfl rfl rfl rfl (fun K hK => ?_)
      go_wp2_with ((go_at_call 15; refine Calls.mono (HCHO.out _ (HG7.out.trans (Gr.refl w7).drew) T _ _ hTl hc6 hm6 (HA6.out.gr (HG67.out.trans (Gr.refl w7).drew)) HTI.out.1 HTI.out.2) ?_; rintro e w8 ⟨x, is, rfl, hb, hg⟩; have HBX := Lib.hid hb; have HGD := Lib.hid hg; clear hb hg))
      refine ⟨by exact HGD.out.mdh _, ?_⟩
      refine flo_seg 7 rfl ?_
      simp only [List.take_succ_cons, List.take_zero, List.drop_succ_cons, List.drop_zero]
      repeat (go_big_quiet_step (fail))
      refine wpQuiet_nil ?_
      refine flo_nil ?_
      have HG78 := Lib.hid ((Gr.refl w7).drew.trans HGD.out)
      have HGW8 := Lib.hid (H2.out.g.trans (HG7.out.trans HG78.out))
      clear dm0 d6 HGD H7
      have hbb := ord_best hpp (show inB 8176 1 8192 = true by decide) (S := sidesL X nx T) (M := M2) (by rw [sidesL_slots]; exact HTI.out.2) (fun z hz => by
        obtain ⟨s, hs, rfl⟩ := List.mem_map.1 hz
        exact HC8.out _ (List.mem_map.2 ⟨s, HTP.out.mem_iff.1 hs, rfl⟩)) HM2.out
      obtain ⟨hx, his⟩ := bestV_inj (HBX.out.symm.trans hbb)
      clear hbb HBX
      have HAO8 := Lib.hid (HAO6.out.gr (HG67.out.trans HG78.out))
      have HA78 := Lib.hid (HA7.out.gr HG78.out)
      obtain ⟨bo, oo, rfl, hbo, zo⟩ := HAO8.out 0 (M2.headD zSd).1 (by
        cases M2 with
        | nil => simp at hml2; omega
        | cons B t => rfl)
      simp only [Nat.add_zero] at zo
      have his' : is = true := by
        rw [his]
        cases M2 with
        | nil => simp at hml2; omega
        | cons B t => rfl
      have hx1 : x.1 = (M2.headD zSd).1 := by rw [hx]
      rw [hx1]
      rw [his']
      clear hx his hx1 his'
      generalize (M2.headD zSd).1 = x0 at *
      have HIN := Lib.hid (fun W (g : Gr w8 W) => Ints_any W (some ⟨bo, oo, none⟩) a7 n n co c7 (M2.map (·.1)) (M2.map (·.1)) (by rw [List.length_map, hml2]) (by rw [List.length_map, hml2]) hco hc7 hmo hm7 (by omega) (HAO8.out.gr g) (HA78.out.gr g))
      rw [decide_eq_true rfl] at HIN
      have hn00 : (0 : Int) < n := by omega
      go_wp2_with (first
        | (go_at_call 19; refine Calls.mono (HIN.out _ (Gr.refl w8)) ?_; rintro e w9 ⟨rfl, hg⟩; have HG9 := Lib.hid (HGW8.out.trans hg); have zo9 := (hg.cell _ _ hbo).trans zo; clear hg)
        | (go_at_call 10; refine (v_works _).mono ?_; rintro e w10 ⟨rfl, hg⟩; have HG10 := Lib.hid (HG9.out.trans hg); clear hg))
      go_ret
      exact ⟨rfl, HG10.out⟩
end Go.Proofs.YtanmmnomagfkhaaGreat
