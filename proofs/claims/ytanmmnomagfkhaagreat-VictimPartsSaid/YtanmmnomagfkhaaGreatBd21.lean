/- VictimParts. -/
import Derived.Test.YtanmmnomagfkhaaGreatBd20
set_option linter.unusedVariables false
set_option linter.unusedSimpArgs false
namespace Go.Proofs.YtanmmnomagfkhaaGreat
open Go.RowKit Go.Shelf
attribute [local go_sem] OvM cell_ovm obj_ovm
attribute [local go_sem] Oper.semAt_some

def btI (sm : Int) (s : Int) : Bool := bits .and .u16 (sm / 2 ^ s.toNat) 1 == 1
theorem fil_snoc (q : Int → Bool) (l : List Int) (x : Int) : (l ++ [x]).filter q = l.filter q ++ (if q x = true then [x] else []) := by
  rw [List.filter_append]
  by_cases h : q x = true
  · rw [if_pos h]; simp [h]
  · rw [if_neg h]; simp [h]
theorem head_want {M M2 : List Sd} {q : Int → Bool} (h : M2.map (·.1) = (M.map (·.1)).filter q) {B : Sd} {t : List Sd} (e : M2 = B :: t) : ((M.map (·.1)).filter q)[0]? = some B.1 := by
  rw [← h, e]
  rfl
set_option maxRecDepth 40000 in
set_option maxHeartbeats 16000000 in
theorem VictimParts_any (u : Int) (a : Option Addr) (len cap : Nat) (L : List Tn) (sm pol : Int) (w : World) (hu0 : 0 ≤ u) (hu1 : u ≤ 255) (hl : L.length = len) (hle : len ≤ cap) (hcap : cap ≤ maxLen) (hs : TurnAt w a L) (hs0 : 0 ≤ sm) (hs1 : sm ≤ 65535) (hp0 : 0 ≤ pol) (hp1 : pol ≤ 255) :
    Calls Tryz.prog 8 #[.int .u8 u, .slice a len cap, .int .u16 sm, .int .u8 pol] w fun e w' => e = .returned (.bool true) ∧ Gr w w' := by
  by_cases h60 : 60 < len
  · have h60' : (60 : Int) < len := by omega
    clear hs hl
    go_enter Tryz.func8, Tryz.ntmps8
    go_wp2_with (go_at_call 10; refine (v_works _).mono ?_; rintro e w1 ⟨rfl, hg⟩; have HG := Lib.hid hg; clear hg)
    go_ret
    exact ⟨rfl, HG.out⟩
  have h60' : ¬ (60 : Int) < len := by omega
  obtain ⟨n, hn⟩ : ∃ n : Nat, 4 + u % 8 = (n : Int) := ⟨(4 + u % 8).toNat, by omega⟩
  have h4 : 4 ≤ n := by omega
  have h11 : n ≤ 11 := by omega
  have HST := Lib.hid (foldM_ok n (by omega) (by omega) len L hl (by omega) (turnOk hs))
  have HMD := Lib.hid (made_any u hu0 hu1 n hn a len cap L w hl (by omega) hle hcap hs)
  have hj : len ≤ 100 := by omega
  obtain ⟨p, hp⟩ : ∃ p, 1 + pol % 2 = p := ⟨_, rfl⟩
  have hpp : p = 1 ∨ p = 2 := by omega
  clear hs hl hn
  go_enter Tryz.func8, Tryz.ntmps8
  go_wp2_with fail
  refine Calls.mono HMD.out ?_
  rintro e w1 ⟨b, rb, mb, v1, v2, S, va, rfl, hs⟩
  have H1 := Lib.hid hs
  clear hs HMD
  generalize foldM n L = st at *
  have HOA := Lib.hid (show Own w1 3 1 va n (kN (allI n)) from H1.out.get (i := 0) rfl)
  obtain ⟨av, cv, rfl, hcv, hmv, hna⟩ := own_allI HOA.out
  have HNA := Lib.hid hna
  have hmv2 := hmv
  unfold maxLen at hmv2
  clear hna
  simp only [cfgV, cfgM]
  go_upto_region 4 with fail
  obtain ⟨b6, hb6⟩ : ∃ q, q = w1.heap.size := ⟨_, rfl⟩
  obtain ⟨w2, hw2⟩ : ∃ y, y = w1.alloc (.cells #[.int .i64 n, .int .i64 8192, .int .i64 2, .int .i64 65536, .int .i64 8, .int .i64 60, .int .i64 1] 24) := ⟨_, rfl⟩
  have H2 := Lib.hid (H1.out.alloc (.cells #[.int .i64 n, .int .i64 8192, .int .i64 2, .int .i64 65536, .int .i64 8, .int .i64 60, .int .i64 1] 24))
  have HG12 : Hid (Gr w1 w2) := Lib.hid (by rw [hw2]; exact (Gr.refl w1).alloc _)
  rw [← hw2, ← hb6] at H2
  rw [← hw2, ← hb6]
  clear hw2 hb6 H1
  have HORD := Lib.hid (fun W (g : Gr w2 W) (l : List Int) (a : Option Addr) (m cap : Nat) hl hle hcap h12 hn hin hd => made_order (len := m) HST.out hj h4 h11 (show IXR W b st.X S from (H2.out.gr g).get (i := 2) rfl) (l := l) (a := a) (cap := cap) hl hle hcap h12 hn hin hd p hpp)
  have HCHO := Lib.hid (fun W (g : Gr w2 W) (l : List Int) (a : Option Addr) (m cap : Nat) hl hle hcap h12 hn hin hd => made_choose (len := m) HST.out hj h4 h11 (show IXR W b st.X S from (H2.out.gr g).get (i := 2) rfl) (l := l) (a := a) (cap := cap) hl hle hcap h12 hn hin hd p hpp)
  simp only [cfgV, cfgM] at HORD HCHO
  have HOF := Lib.hid (fun (M : List Sd) hM => ord_f (M := M) HST.out hj h11 hpp hM)
  have HC8 := Lib.hid (made_chk26 HST.out hj (show ((n : Nat) : Int) ≤ 32 by omega) (allI_in (n := n)))
  obtain ⟨X, all, nx⟩ := st
  simp only at HORD HCHO HOF HC8
  have HSOM := Lib.hid (fun (M M2 : List Sd) h h' => ord_some (M := M) (M' := M2) hpp (X := X) (nx := nx) (allI_nodup n) HC8.out (btI sm) h h')
  have HG2 := Lib.hid (Gr.refl w2)
  have dm0 := ((cellsOf (show w2.heap[mb]? = _ from H2.out.get (i := 5) rfl)).1 0).trans (show _ = some (Value.pointer (some ⟨b, 0, none⟩)) from rfl)
  have d6 := (cellsOf (show w2.heap[b6]? = _ from H2.out.get (i := 0) rfl)).1
  go_upto_region 7 with fail
  (try rw [hp])
  refine wp_region_flo (fun _ => False) [] [] (by kernel_rfl) (by kernel_rfl) (fun _ h => h.elim) ?_
  refine flo_seg 8 rfl ?_
  simp only [List.take_succ_cons, List.take_zero, List.drop_succ_cons, List.drop_zero]
  repeat (go_big_quiet_step (fail))
  refine wpQuiet_nil ?_
  refine flo_eff rfl rfl rfl rfl (fun K hK => ?_)
  go_wp2_with ((go_at_call 17; refine Calls.mono (HORD.out _ (Gr.refl w2).drew _ _ _ _ (allI_len n) hcv hmv (by omega) (HNA.out.gr (HG12.out.trans (Gr.refl w2).drew)) allI_in (allI_nodup n)) ?_; rintro e w3 ⟨vo, M, rfl, hM, hml, hno, hg⟩; have HM := Lib.hid hM; have HNO := Lib.hid hno; have HGD := Lib.hid hg; clear hM hno hg))
  refine ⟨by exact HGD.out.mdh _, ?_⟩
  refine flo_seg 5 rfl ?_
  simp only [List.take_succ_cons, List.take_zero, List.drop_succ_cons, List.drop_zero]
  repeat (go_big_quiet_step (fail))
  refine wpQuiet_nil ?_
  refine flo_nil ?_
  have HF := Lib.hid (HOF.out _ HM.out)
  obtain ⟨ao, co, hvo, hco, hmo, hnao⟩ := numAt_own (l := M.map (·.1)) (by rw [List.length_map]; exact HNO.out.own)
  rw [List.length_map, hml] at hvo hco
  subst hvo
  have HAO := Lib.hid hnao
  have hmo2 := hmo
  unfold maxLen at hmo2
  clear hnao
  have HG3 := Lib.hid ((Gr.refl w2).drew.trans HGD.out)
  clear dm0 d6 HGD HNO
  obtain ⟨i0, hi, hz0, hz1, hz2⟩ := info_parts infoN
  go_wp2_with fail
  go_loopw [17, 19] (fun t17 t19 wx => ∃ (k : Nat) (v : Value), k ≤ n ∧ v = t17 ∧ t19 = .int .i64 k ∧ Hid (Nw w3 wx 3 1 v ((allI k).filter (btI sm)).length (kN ((allI k).filter (btI sm))) ∧ Gr w3 wx)) (fun _ t19 _ => n - (intOf t19).toNat)
  case atStart => exact ⟨0, _, by omega, rfl, rfl, Lib.hid ⟨Nw.nil w3 _ _, Gr.refl _⟩⟩
  case round =>
    obtain ⟨k, v, hk, rfl, rfl, HR⟩ := hrel
    by_cases hlt : k < n
    · have hlt' : (k : Int) < n := by omega
      have HTK := Lib.hid (fil_snoc (btI sm) (allI k) (k : Int))
      rw [← allI_snoc] at HTK
      have hfl : ((allI k).filter (btI sm)).length ≤ k := by
        have := List.length_filter_le (btI sm) (allI k)
        rwa [allI_len] at this
      have HBT : Hid (btI sm (k : Int) = (bits .and .u16 (sm / 2 ^ k) 1 == 1)) := Lib.hid (by unfold btI; rw [Int.toNat_natCast])
      obtain ⟨bb, hbb⟩ : ∃ bb, (bits .and .u16 (sm / 2 ^ k) 1 == 1) = bb := ⟨_, rfl⟩
      rw [hbb] at HBT
      rw [HBT.out] at HTK
      obtain ⟨fl, hfle⟩ : ∃ fl, fl = (allI k).filter (btI sm) := ⟨_, rfl⟩
      rw [← hfle] at HTK hfl HR
      have HFL := Lib.hid hfle
      clear hfle
      have hk64 : k < 64 := by omega
      cases bb with
      | true =>
        go_wp2_with (first
          | (at_builtin; go_must (refine wpList_appv _ rfl (.tmp 69) (.tmp 71) 25 rfl 3 i0 _ 1 8 Tryz.underlying25 hi hz0 hz1 hz2 rfl (by decide) v fl.length (kN fl) rfl (HR.out.1.own.gr (by (repeat (first | (with_reducible exact Gr.refl _) | assumption | (with_reducible apply Gr.from_drew) | (with_reducible apply Gr.alloc) | (with_reducible apply Gr.drew) | (with_reducible refine Gr.trans ?_ (by assumption)) | (with_reducible refine Gr.setCell ?_ (by omega) _))))) (some ⟨wr.heap.size, 0, none⟩) 1 1 [.int .i64 k] rfl (src_newK wr [.int .i64 k] _ 1 rfl (by simp [Value.oneCell'])) (by simp only [maxLen]; omega) (by omega) ?_); intro v3 w6 hA; have N6 := Lib.hid (hA.nw (HR.out.1.gr ((Gr.refl wr).alloc _)) (by have := HR.out.2.sz; simp; omega)); have HG6 := Lib.hid (hA.gw (HR.out.1.gr ((Gr.refl wr).alloc _)) (HR.out.2.alloc _)); clear hA)
          | fail)
        go_roundw
        case rel => exact ⟨k + 1, v3, by omega, rfl, by go_num, Lib.hid ⟨by rw [HTK.out, if_pos rfl, List.length_append, kN_snoc]; exact N6.out, HG6.out⟩⟩
        case measure => simp [intOf]; omega
      | false =>
        go_wp2_with fail
        go_roundw
        case rel => exact ⟨k + 1, v, by omega, rfl, by go_num, Lib.hid ⟨by rw [HTK.out, if_neg (by decide), List.append_nil]; exact HR.out.1, HR.out.2⟩⟩
        case measure => simp [intOf]; omega
    · have hlt' : ¬ (k : Int) < n := by omega
      have hkn : k = n := by omega
      subst hkn
      have HGF := Lib.hid HR.out.2
      obtain ⟨F, hF⟩ : ∃ F, F = (allI k).filter (btI sm) := ⟨_, rfl⟩
      have HNF := Lib.hid HR.out.1
      rw [← hF] at HNF
      have HFI : Hid ((∀ s ∈ F, 0 ≤ s ∧ s < (k : Nat)) ∧ F.Nodup ∧ F.length ≤ 12) := Lib.hid ⟨fun s hs => by rw [hF] at hs; exact allI_in s (List.mem_filter.1 hs).1, by rw [hF]; exact (allI_nodup k).sublist List.filter_sublist, by
        have := List.length_filter_le (btI sm) (allI k)
        rw [allI_len] at this
        rw [hF]
        omega⟩
      rw [← hF] at HSOM
      clear hF HR
      obtain ⟨af, cf, hvf, hcf, hmf, hnf⟩ := numAt_own HNF.out.own
      subst hvf
      have HAF := Lib.hid hnf
      have hmf2 := hmf
      unfold maxLen at hmf2
      have hf12 := HFI.out.2.2
      clear hnf HNF
      have HAW := Lib.hid (HAO.out.gr HGF.out)
      have HOL : Hid (∀ (i : Nat) (x : Int), (M.map (fun y : Sd => y.1))[i]? = some x → (0 : Int) ≤ x ∧ x < (k : Int)) := Lib.hid (fun i x h => HF.out.sl x (List.mem_of_getElem? h))
      have HOLN : Hid ((M.map (·.1)).length = k) := Lib.hid (by rw [List.length_map, hml])
      obtain ⟨O, hO⟩ : ∃ O, O = M.map (·.1) := ⟨_, rfl⟩
      rw [← hO] at HAW HOL HOLN
      have HOE := Lib.hid hO
      clear hO
      go_wp2_with fail
      go_loopw [18, 20] (fun t18 t20 wx => ∃ (i : Nat) (v : Value), i ≤ k ∧ v = t18 ∧ t20 = .int .i64 i ∧ Hid (Nw wr wx 3 1 v ((O.take i).filter (btI sm)).length (kN ((O.take i).filter (btI sm))) ∧ Gr wr wx)) (fun _ t20 _ => k - (intOf t20).toNat)
      case atStart => exact ⟨0, _, by omega, rfl, rfl, Lib.hid ⟨Nw.nil wr _ _, Gr.refl _⟩⟩
      case round =>
        obtain ⟨i, v, hik, rfl, rfl, HR⟩ := hrel
        by_cases hlt2 : i < k
        · have hlt2' : (i : Int) < k := by omega
          obtain ⟨x, hx⟩ : ∃ x, O[i]? = some x := ⟨_, List.getElem?_eq_getElem (by rw [HOLN.out]; exact hlt2)⟩
          obtain ⟨hx0, hx1⟩ := HOL.out i x hx
          obtain ⟨σ, rfl⟩ : ∃ σ : Nat, x = (σ : Int) := ⟨x.toNat, by omega⟩
          obtain ⟨ba, oa, rfl, hba, hca⟩ := HAW.out i _ hx
          have z := (HR.out.2.cell _ _ hba).trans hca
          have HTK : Hid ((O.take (i + 1)).filter (btI sm) = (O.take i).filter (btI sm) ++ (if btI sm (σ : Int) = true then [(σ : Int)] else [])) := Lib.hid (by
            rw [List.take_add_one, hx]
            exact fil_snoc (btI sm) (O.take i) (σ : Int))
          have hfl : ((O.take i).filter (btI sm)).length ≤ i := by
            have h1 := List.length_filter_le (btI sm) (O.take i)
            have h2 : (O.take i).length ≤ i := by rw [List.length_take]; omega
            omega
          have HBT : Hid (btI sm (σ : Int) = (bits .and .u16 (sm / 2 ^ σ) 1 == 1)) := Lib.hid (by unfold btI; rw [Int.toNat_natCast])
          obtain ⟨bb, hbb⟩ : ∃ bb, (bits .and .u16 (sm / 2 ^ σ) 1 == 1) = bb := ⟨_, rfl⟩
          rw [hbb] at HBT
          rw [HBT.out] at HTK
          generalize (O.take i).filter (btI sm) = fl at *
          have hσ : σ < 64 := by omega
          clear hx hca
          cases bb with
          | true =>
            go_wp2_with (first
              | (at_builtin; go_must (refine wpList_appv _ rfl (.tmp 88) (.tmp 93) 25 rfl 3 i0 _ 1 8 Tryz.underlying25 hi hz0 hz1 hz2 rfl (by decide) v fl.length (kN fl) rfl (HR.out.1.own.gr (by (repeat (first | (with_reducible exact Gr.refl _) | assumption | (with_reducible apply Gr.from_drew) | (with_reducible apply Gr.alloc) | (with_reducible apply Gr.drew) | (with_reducible refine Gr.trans ?_ (by assumption)) | (with_reducible refine Gr.setCell ?_ (by omega) _))))) (some ⟨wr.heap.size, 0, none⟩) 1 1 [.int .i64 σ] rfl (src_newK wr [.int .i64 σ] _ 1 rfl (by simp [Value.oneCell'])) (by simp only [maxLen]; omega) (by omega) ?_); intro v3 w6 hA; have N6 := Lib.hid (hA.nw (HR.out.1.gr ((Gr.refl wr).alloc _)) (by have := HR.out.2.sz; simp; omega)); have HG6 := Lib.hid (hA.gw (HR.out.1.gr ((Gr.refl wr).alloc _)) (HR.out.2.alloc _)); clear hA)
              | fail)
            go_roundw
            case rel => exact ⟨i + 1, v3, by omega, rfl, by go_num, Lib.hid ⟨by rw [HTK.out, if_pos rfl, List.length_append, kN_snoc]; exact N6.out, HG6.out⟩⟩
            case measure => simp [intOf]; omega
          | false =>
            go_wp2_with fail
            go_roundw
            case rel => exact ⟨i + 1, v, by omega, rfl, by go_num, Lib.hid ⟨by rw [HTK.out, if_neg (by decide), List.append_nil]; exact HR.out.1, HR.out.2⟩⟩
            case measure => simp [intOf]; omega
        · have hlt2' : ¬ (i : Int) < k := by omega
          have hikk : i = k := by omega
          have HNW := Lib.hid HR.out.1
          rw [hikk, List.take_of_length_le (by rw [HOLN.out]; exact Nat.le_refl _)] at HNW
          have HGW := Lib.hid HR.out.2
          have HG4 := Lib.hid (HG3.out.trans (HGF.out.trans HGW.out))
          clear HR hikk
          obtain ⟨Wl, hWl⟩ : ∃ Wl, Wl = O.filter (btI sm) := ⟨_, rfl⟩
          rw [← hWl] at HNW
          have HWE := Lib.hid hWl
          clear hWl
          obtain ⟨aw, cw, hvw, hcw, hmw, hnw⟩ := numAt_own HNW.out.own
          subst hvw
          have HAWL := Lib.hid hnw
          have hmw2 := hmw
          unfold maxLen at hmw2
          clear hnw HNW
          have HAF4 := Lib.hid (HAF.out.gr HGW.out)
          have H4 := Lib.hid (H2.out.gr HG4.out)
          have dm0 := ((cellsOf (show wr.heap[mb]? = _ from H4.out.get (i := 5) rfl)).1 0).trans (show _ = some (Value.pointer (some ⟨b, 0, none⟩)) from rfl)
          have d6 := (cellsOf (show wr.heap[b6]? = _ from H4.out.get (i := 0) rfl)).1
          go_wp2_with fail
          refine wp_region_flo (fun _ => False) [] [] (by kernel_rfl) (by kernel_rfl) (fun _ h => h.elim) ?_
          refine flo_seg 8 rfl ?_
          simp only [List.take_succ_cons, List.take_zero, List.drop_succ_cons, List.drop_zero]
          repeat (go_big_quiet_step (fail))
          refine wpQuiet_nil ?_
          refine flo_eff rfl rfl rfl rfl (fun K hK => ?_)
          go_wp2_with ((go_at_call 17; refine Calls.mono (HORD.out _ (HG4.out.trans (Gr.refl wr).drew) _ _ _ _ rfl hcf hmf hf12 (HAF4.out.gr (Gr.refl wr).drew) HFI.out.1 HFI.out.2.1) ?_; rintro e w5 ⟨v5, M2, rfl, hM2, hml2, hno, hg⟩; have HM2 := Lib.hid hM2; have HNO := Lib.hid hno; have HGD := Lib.hid hg; clear hM2 hno hg))
          refine ⟨by exact HGD.out.mdh _, ?_⟩
          refine flo_seg 5 rfl ?_
          simp only [List.take_succ_cons, List.take_zero, List.drop_succ_cons, List.drop_zero]
          repeat (go_big_quiet_step (fail))
          refine wpQuiet_nil ?_
          refine flo_nil ?_
          have HG45 := Lib.hid ((Gr.refl wr).drew.trans HGD.out)
          have HG5 := Lib.hid (HG4.out.trans HG45.out)
          have HSE := Lib.hid (HSOM.out _ _ HM.out HM2.out)
          clear dm0 d6 HGD H4
          have H5 := Lib.hid (H2.out.gr HG5.out)
          have dm0 := ((cellsOf (show w5.heap[mb]? = _ from H5.out.get (i := 5) rfl)).1 0).trans (show _ = some (Value.pointer (some ⟨b, 0, none⟩)) from rfl)
          have d6 := (cellsOf (show w5.heap[b6]? = _ from H5.out.get (i := 0) rfl)).1
          go_wp2_with fail
          refine wp_region_flo (fun _ => False) [] [] (by kernel_rfl) (by kernel_rfl) (fun _ h => h.elim) ?_
          refine flo_seg 8 rfl ?_
          simp only [List.take_succ_cons, List.take_zero, List.drop_succ_cons, List.drop_zero]
          repeat (go_big_quiet_step (fail))
          refine wpQuiet_nil ?_
          refine flo_eff rfl rfl rfl rfl (fun K hK => ?_)
          go_wp2_with ((go_at_call 15; refine Calls.mono (HCHO.out _ (HG5.out.trans (Gr.refl w5).drew) _ _ _ _ rfl hcf hmf (by omega) (HAF4.out.gr (HG45.out.trans (Gr.refl w5).drew)) HFI.out.1 HFI.out.2.1) ?_; rintro e w6 ⟨x, is, rfl, hb, hg⟩; have HBX := Lib.hid hb; have HGD := Lib.hid hg; clear hb hg))
          refine ⟨by exact HGD.out.mdh _, ?_⟩
          refine flo_seg 7 rfl ?_
          simp only [List.take_succ_cons, List.take_zero, List.drop_succ_cons, List.drop_zero]
          repeat (go_big_quiet_step (fail))
          refine wpQuiet_nil ?_
          refine flo_nil ?_
          have HG56 := Lib.hid ((Gr.refl w5).drew.trans HGD.out)
          have HG6 := Lib.hid (HG5.out.trans HG56.out)
          clear dm0 d6 HGD H5
          have hbb := ord_best hpp (show inB 8176 1 8192 = true by decide) (S := sidesL X nx F) (M := M2) (by rw [sidesL_slots]; exact HFI.out.2.1) (fun z hz => by
            obtain ⟨s, hs, rfl⟩ := List.mem_map.1 hz
            have := HFI.out.1 s hs
            exact HC8.out _ (List.mem_map.2 ⟨s, allI_mem.2 this, rfl⟩)) HM2.out
          obtain ⟨hx, his⟩ := bestV_inj (HBX.out.symm.trans hbb)
          clear hbb HBX
          have HOW5 := Lib.hid (HNO.out.own.gr HG56.out)
          obtain ⟨a5, c5, hv5, hc5, hm5, hn5⟩ := numAt_own (l := M2.map (·.1)) (by rw [List.length_map]; exact HOW5.out)
          have HA5 := Lib.hid hn5
          have HWL6 := Lib.hid (HAWL.out.gr (HG45.out.trans HG56.out))
          have HEQ : Hid (M2.map (·.1) = Wl) := Lib.hid (by rw [HSE.out, HWE.out, HOE.out])
          have hwl : Wl.length = F.length := by rw [← HEQ.out, List.length_map, hml2]
          rw [List.length_map, hml2] at hv5 hc5
          subst hv5
          have hm52 := hm5
          unfold maxLen at hm52
          clear hn5 HNO HOW5
          have HIN := Lib.hid (fun W (g : Gr w6 W) => Ints_any W a5 aw F.length Wl.length c5 cw (M2.map (·.1)) Wl (by rw [List.length_map, hml2]) rfl hc5 hcw hm5 hmw (by omega) (HA5.out.gr g) (HWL6.out.gr g))
          rw [decide_eq_true HEQ.out] at HIN
          cases M2 with
          | nil =>
            have hF0 : F.length = 0 := by simpa using hml2.symm
            subst hx
            subst his
            have HGW6 := Lib.hid (H2.out.g.trans HG6.out)
            simp only [List.headD_nil, List.isEmpty_nil, Bool.not_true, zSd]
            rw [hF0] at HIN ⊢
            rw [hF0] at hwl
            rw [hwl] at HIN ⊢
            go_wp2_with (first
              | (go_at_call 19; refine Calls.mono (HIN.out _ (Gr.refl w6)) ?_; rintro e w7 ⟨rfl, hg⟩; have HG7 := Lib.hid (HGW6.out.trans hg); clear hg)
              | (go_at_call 10; refine (v_works _).mono ?_; rintro e w8 ⟨rfl, hg⟩; have HG8 := Lib.hid (HG7.out.trans hg); clear hg))
            go_ret
            exact ⟨rfl, HG8.out⟩
          | cons B t =>
            have hF0 : 0 < F.length := by rw [← hml2]; simp
            subst hx
            subst his
            have HGW6 := Lib.hid (H2.out.g.trans HG6.out)
            obtain ⟨bw, ow, rfl, hbw, zw⟩ := HWL6.out 0 x.1 (by rw [← HEQ.out]; rfl)
            simp only [Nat.add_zero] at zw
            simp only [List.headD_cons, List.isEmpty_cons, Bool.not_false]
            have hF1 : (0 : Int) < F.length := by omega
            rw [hwl] at HIN ⊢
            go_wp2_with (first
              | (go_at_call 19; refine Calls.mono (HIN.out _ (Gr.refl w6)) ?_; rintro e w7 ⟨rfl, hg⟩; have HG7 := Lib.hid (HGW6.out.trans hg); have zw7 := (hg.cell _ _ hbw).trans zw; clear hg)
              | (go_at_call 10; refine (v_works _).mono ?_; rintro e w8 ⟨rfl, hg⟩; have HG8 := Lib.hid (HG7.out.trans hg); clear hg))
            go_ret
            exact ⟨rfl, HG8.out⟩
end Go.Proofs.YtanmmnomagfkhaaGreat
