/- VictimEmpty. -/
import Derived.Test.YtanmmnomagfkhaaGreatBd20
set_option linter.unusedVariables false
set_option linter.unusedSimpArgs false
namespace Go.Proofs.YtanmmnomagfkhaaGreat
open Go.RowKit Go.Shelf
attribute [local go_sem] OvM cell_ovm obj_ovm
attribute [local go_sem] Oper.semAt_some

def anyZ (M : List Sd) : Bool := M.any (fun x => decide (x.2.1 = 0))
def oldZ (M : List Sd) : Int := M.foldl (fun a x => if x.2.1 = 0 then max a x.2.2 else a) 0
theorem anyZ_snoc (M : List Sd) (x : Sd) : anyZ (M ++ [x]) = (anyZ M || decide (x.2.1 = 0)) := by simp [anyZ]
theorem oldZ_snoc (M : List Sd) (x : Sd) : oldZ (M ++ [x]) = if x.2.1 = 0 then max (oldZ M) x.2.2 else oldZ M := by simp [oldZ]
/-- The oldest of those of which nothing is needed is one of them. -/
theorem oldZ_mem : ∀ (n : Nat) (M : List Sd), M.length = n → (∀ x ∈ M, 1 ≤ x.2.2) → (anyZ M = false ∧ oldZ M = 0) ∨ ∃ x ∈ M, x.2.1 = 0 ∧ oldZ M = x.2.2
  | 0, M, hM, _ => by rw [List.eq_nil_of_length_eq_zero hM]; exact .inl ⟨rfl, rfl⟩
  | n + 1, M, hM, h => by
    have hne : M ≠ [] := fun e => by rw [e] at hM; cases hM
    have e := List.dropLast_concat_getLast hne
    have ih := oldZ_mem n M.dropLast (by rw [List.length_dropLast]; omega) (fun x hx => h x (List.dropLast_subset M hx))
    have hx := h _ (List.getLast_mem hne)
    rw [← e]
    generalize M.getLast hne = x at *
    generalize M.dropLast = D at *
    rw [anyZ_snoc, oldZ_snoc]
    by_cases h0 : x.2.1 = 0
    · rw [if_pos h0]
      right
      rcases ih with ⟨_, h2⟩ | ⟨y, hy, h2, h3⟩
      · exact ⟨x, by simp, h0, by rw [h2]; omega⟩
      · by_cases hc : y.2.2 ≤ x.2.2
        · exact ⟨x, by simp, h0, by rw [h3]; omega⟩
        · exact ⟨y, by simp [hy], h2, by rw [h3]; omega⟩
    · rw [if_neg h0, decide_eq_false h0, Bool.or_false]
      rcases ih with h2 | ⟨y, hy, h2, h3⟩
      · exact .inl h2
      · exact .inr ⟨y, by simp [hy], h2, h3⟩
theorem maxE (a b : Int) : (if a < b then b else a) = max a b := by split <;> omega
/-- What is told of the two that are chosen. -/
structure EmpT (X : IX) (nx : Int) (n : Nat) (g f : Nat) : Prop where
  gl : g < n
  fl : f < n
  k : anyZ (sidesL X nx (allI n)) = true → (sideOf X nx g).2.1 = 0
  o : anyZ (sidesL X nx (allI n)) = true → (sideOf X nx f).2.1 ≠ 0 → oldZ (sidesL X nx (allI n)) < (sideOf X nx f).2.2
theorem best_in {X : IX} {nx : Int} {n : Nat} {policy : Int} (hp : policy = 1 ∨ policy = 2) (hc : ∀ x ∈ sidesL X nx (allI n), chkS 8176 x = true) (h0 : 0 < n) {x : Sd} {is : Bool} (h : bestA policy 8176 (sidesL X nx (allI n)) = bestV x is 0) : IsMin (polS policy 8176) (sidesL X nx (allI n)) x ∧ is = true ∧ ∃ i : Nat, i < n ∧ x = sideOf X nx (i : Nat) := by
  obtain ⟨B, h1, h2⟩ := best_good hp (show inB 8176 1 8192 = true by decide) hc (by rw [sidesL_slots]; exact allI_nodup n) (by rw [sidesL_len, allI_len]; omega)
  obtain ⟨rfl, rfl⟩ := bestV_inj (h.symm.trans h1)
  refine ⟨h2, rfl, ?_⟩
  obtain ⟨s, hs, rfl⟩ := List.mem_map.1 h2.1
  have := allI_mem.1 hs
  exact ⟨s.toNat, by omega, by rw [show ((s.toNat : Nat) : Int) = s by omega]⟩
theorem emp_ok {st : MS} {n j : Nat} (h : st.Ok n j) (hj : j ≤ 100) (h11 : n ≤ 11) {x y : Sd} {i k : Nat} (hx : IsMin (polS 1 8176) (sidesL st.X st.nx (allI n)) x) (hy : IsMin (polS 2 8176) (sidesL st.X st.nx (allI n)) y) (hi : i < n) (hk : k < n) (ex : x = sideOf st.X st.nx (i : Nat)) (ey : y = sideOf st.X st.nx (k : Nat)) : EmpT st.X st.nx n i k := by
  have hc := made_chk26 h hj (by omega) (allI_in (n := n))
  have T1 := pol_tot (room := 8176) (.inl rfl) hc (by rw [sidesL_slots]; exact allI_nodup n)
  have T2 := pol_tot (room := 8176) (.inr rfl) hc (by rw [sidesL_slots]; exact allI_nodup n)
  have h1 : ∀ z ∈ sidesL st.X st.nx (allI n), 1 ≤ z.2.2 := fun z hz => by
    obtain ⟨s, hs, rfl⟩ := List.mem_map.1 hz
    have := allI_mem.1 hs
    exact (made_side h hj (by omega) this.1 this.2).2.1
  have hz := oldZ_mem _ _ rfl h1
  refine ⟨hi, hk, fun ha => ?_, fun ha hne => ?_⟩
  · rcases hz with ⟨h2, _⟩ | ⟨z, hz1, hz2, _⟩
    · rw [h2] at ha; cases ha
    · rw [← ex]; exact greedy_empty T1 hx hc hz1 hz2
  · rcases hz with ⟨h2, _⟩ | ⟨z, hz1, hz2, hz3⟩
    · rw [h2] at ha; cases ha
    · rw [← ey] at hne ⊢
      rw [hz3]
      exact benefit_older T2 hy hc hz1 hz2 (h1 z hz1) hne
set_option maxRecDepth 40000 in
set_option maxHeartbeats 8000000 in
theorem VictimEmpty_any (u : Int) (a : Option Addr) (len cap : Nat) (L : List Tn) (w : World) (hu0 : 0 ≤ u) (hu1 : u ≤ 255) (hl : L.length = len) (hle : len ≤ cap) (hcap : cap ≤ maxLen) (hs : TurnAt w a L) :
    Calls Tryz.prog 9 #[.int .u8 u, .slice a len cap] w fun e w' => e = .returned (.bool true) ∧ Gr w w' := by
  by_cases h60 : 60 < len
  · have h60' : (60 : Int) < len := by omega
    clear hs hl
    go_enter Tryz.func9, Tryz.ntmps9
    go_wp2_with (go_at_call 10; refine (v_works _).mono ?_; rintro e w1 ⟨rfl, hg⟩; have HG := Lib.hid hg; clear hg)
    go_ret
    exact ⟨rfl, HG.out⟩
  have h60' : ¬ (60 : Int) < len := by omega
  obtain ⟨n, hn⟩ : ∃ n : Nat, 4 + u % 8 = (n : Int) := ⟨(4 + u % 8).toNat, by omega⟩
  have h4 : 4 ≤ n := by omega
  have h11 : n ≤ 11 := by omega
  have HST := Lib.hid (foldM_ok n (by omega) (by omega) len L hl (by omega) (turnOk hs))
  have HMD := Lib.hid (made_any u hu0 hu1 n hn a len cap L w hl (by omega) hle hcap hs)
  have hj : len ≤ 100 := by omega
  clear hs hl hn
  go_enter Tryz.func9, Tryz.ntmps9
  go_wp2_with fail
  refine Calls.mono HMD.out ?_
  rintro e w1 ⟨b, rb, mb, v1, v2, S, va, rfl, hs⟩
  have H1 := Lib.hid hs
  clear hs HMD
  generalize foldM n L = st at *
  obtain ⟨av, cv, rfl, hcv, hmv, hna⟩ := own_allI (show Own w1 3 1 va n (kN (allI n)) from H1.out.get (i := 0) rfl)
  have HNA := Lib.hid hna
  have hmv2 := hmv
  unfold maxLen at hmv2
  clear hna
  simp only [cfgV, cfgM]
  go_upto_region 4 with fail
  obtain ⟨b6, hb6⟩ : ∃ q, q = w1.heap.size := ⟨_, rfl⟩
  obtain ⟨w2, hw2⟩ : ∃ y, y = w1.alloc (.cells #[.int .i64 n, .int .i64 8192, .int .i64 2, .int .i64 65536, .int .i64 8, .int .i64 60, .int .i64 1] 24) := ⟨_, rfl⟩
  have H2 := Lib.hid (H1.out.alloc (.cells #[.int .i64 n, .int .i64 8192, .int .i64 2, .int .i64 65536, .int .i64 8, .int .i64 60, .int .i64 1] 24))
  have HG12 : Hid (Gr w1 w2) := Lib.hid (by rw [hw2]; exact (Gr.refl w1).alloc _)
  rw [← hw2, ← hb6] at H2 ⊢
  clear hw2 hb6 H1
  have HSDS := Lib.hid (fun W (g : Gr w2 W) => made_sides26 HST.out hj h4 h11 (show IXR W b st.X S from (H2.out.gr g).get (i := 2) rfl) (allI_len n) hcv hmv (by omega) (HNA.out.gr (HG12.out.trans g)) allI_in (allI_nodup n))
  have HCHO := Lib.hid (fun W (g : Gr w2 W) (p : Int) hp => made_choose HST.out hj h4 h11 (show IXR W b st.X S from (H2.out.gr g).get (i := 2) rfl) (allI_len n) hcv hmv (by omega) (HNA.out.gr (HG12.out.trans g)) allI_in (allI_nodup n) p hp)
  have HSIZ : Hid (∀ (k : Nat), k < n → ∀ W, Gr w2 W → Calls Tryz.prog 49 #[.pointer (some ⟨b, 0, none⟩), .int .i64 k] W fun e w' => e = .returned (.tuple #[.int .i64 (sumZ (keepL st.X k)), .int .i64 0]) ∧ Gr W w') := Lib.hid (fun k hk W g => by
    have h1 := Size_any (.inl ⟨b, rfl, (show IXR W b st.X S from (H2.out.gr g).get (i := 2) rfl)⟩) (k : Nat)
    have h2 : keepC st.X (k : Nat) = 0 := by
      unfold keepC
      rw [if_neg (made_ne HST.out h4), if_neg (by rw [HST.out.g.has (by omega) (by omega)]; simp)]
    rw [h2] at h1
    exact h1)
  simp only [cfgV, cfgM] at HSDS HCHO
  have HC8 := Lib.hid (made_chk26 HST.out hj (show ((n : Nat) : Int) ≤ 32 by omega) (allI_in (n := n)))
  have HSA := Lib.hid (fun (k : Nat) (hk : k < n) => made_side HST.out hj (show ((n : Nat) : Int) ≤ 32 by omega) (show (0 : Int) ≤ (k : Nat) by omega) (show ((k : Nat) : Int) < n by omega))
  have HEO := Lib.hid (fun (x y : Sd) (i k : Nat) hx hy hi hk ex ey => emp_ok (x := x) (y := y) (i := i) (k := k) HST.out hj h11 hx hy hi hk ex ey)
  have HX := Lib.hid (H2.out.gr (Gr.refl w2))
  obtain ⟨X, all, nx⟩ := st
  simp only at HSDS HCHO HSIZ HC8 HSA HEO
  have dm0 := ((cellsOf (show w2.heap[mb]? = _ from H2.out.get (i := 5) rfl)).1 0).trans (show _ = some (Value.pointer (some ⟨b, 0, none⟩)) from rfl)
  have d6 := (cellsOf (show w2.heap[b6]? = _ from H2.out.get (i := 0) rfl)).1
  clear HX
  go_wp2_with fail
  refine wp_region_flo (fun _ => False) [] [] (by kernel_rfl) (by kernel_rfl) (fun _ h => h.elim) ?_
  refine flo_seg 7 rfl ?_
  simp only [List.take_succ_cons, List.take_zero, List.drop_succ_cons, List.drop_zero]
  repeat (go_big_quiet_step (fail))
  refine wpQuiet_nil ?_
  refine flo_eff rfl rfl rfl rfl (fun K hK => ?_)
  go_wp2_with ((go_at_call 13; refine Calls.mono (HSDS.out _ (Gr.refl w2).drew) ?_; rintro e w3 ⟨vs, rfl, hns, hg⟩; have HNS := Lib.hid hns; have HGD := Lib.hid hg; clear hns hg))
  refine ⟨by exact HGD.out.mdh _, ?_⟩
  refine flo_seg 5 rfl ?_
  simp only [List.take_succ_cons, List.take_zero, List.drop_succ_cons, List.drop_zero]
  repeat (go_big_quiet_step (fail))
  refine wpQuiet_nil ?_
  refine flo_nil ?_
  obtain ⟨gs, cs, rfl, hcs1, hcs2, _⟩ := sides_of_row HNS.out.own (show (sidesL X nx (allI n)).length = n by rw [sidesL_len, allI_len]) (by omega)
  have HG3 := Lib.hid ((Gr.refl w2).drew.trans HGD.out)
  clear dm0 d6 HGD
  have H3 := Lib.hid (H2.out.gr HG3.out)
  have dm0 := ((cellsOf (show w3.heap[mb]? = _ from H3.out.get (i := 5) rfl)).1 0).trans (show _ = some (Value.pointer (some ⟨b, 0, none⟩)) from rfl)
  have d6 := (cellsOf (show w3.heap[b6]? = _ from H3.out.get (i := 0) rfl)).1
  go_wp2_with fail
  refine wp_region_flo (fun _ => False) [] [] (by kernel_rfl) (by kernel_rfl) (fun _ h => h.elim) ?_
  refine flo_seg 7 rfl ?_
  simp only [List.take_succ_cons, List.take_zero, List.drop_succ_cons, List.drop_zero]
  repeat (go_big_quiet_step (fail))
  refine wpQuiet_nil ?_
  refine flo_eff rfl rfl rfl rfl (fun K hK => ?_)
  go_wp2_with ((go_at_call 15; refine Calls.mono (HCHO.out _ (HG3.out.trans (Gr.refl w3).drew) 1 (.inl rfl)) ?_; rintro e w4 ⟨x, is, rfl, hb, hg⟩; have HBX := Lib.hid hb; have HGD := Lib.hid hg; clear hb hg))
  refine ⟨by exact HGD.out.mdh _, ?_⟩
  refine flo_seg 7 rfl ?_
  simp only [List.take_succ_cons, List.take_zero, List.drop_succ_cons, List.drop_zero]
  repeat (go_big_quiet_step (fail))
  refine wpQuiet_nil ?_
  refine flo_nil ?_
  obtain ⟨hmin, rfl, i, hi, hxe⟩ := best_in (.inl rfl) HC8.out (by omega) HBX.out
  have HX1 := Lib.hid (And.intro hmin hxe)
  have hx1 : x.1 = (i : Nat) := by rw [hxe]; rfl
  rw [hx1]
  clear hmin hxe HBX hx1
  have HG4 := Lib.hid (HG3.out.trans ((Gr.refl w3).drew.trans HGD.out))
  have HO4 := Lib.hid (HNS.out.own.gr ((Gr.refl w3).drew.trans HGD.out))
  clear dm0 d6 HGD H3
  have H4 := Lib.hid (H2.out.gr HG4.out)
  have dm0 := ((cellsOf (show w4.heap[mb]? = _ from H4.out.get (i := 5) rfl)).1 0).trans (show _ = some (Value.pointer (some ⟨b, 0, none⟩)) from rfl)
  have d6 := (cellsOf (show w4.heap[b6]? = _ from H4.out.get (i := 0) rfl)).1
  go_wp2_with fail
  refine wp_region_flo (fun _ => False) [] [] (by kernel_rfl) (by kernel_rfl) (fun _ h => h.elim) ?_
  refine flo_seg 7 rfl ?_
  simp only [List.take_succ_cons, List.take_zero, List.drop_succ_cons, List.drop_zero]
  repeat (go_big_quiet_step (fail))
  refine wpQuiet_nil ?_
  refine flo_eff rfl rfl rfl rfl (fun K hK => ?_)
  go_wp2_with ((go_at_call 15; refine Calls.mono (HCHO.out _ (HG4.out.trans (Gr.refl w4).drew) 2 (.inr rfl)) ?_; rintro e w5 ⟨y, is, rfl, hb, hg⟩; have HBX := Lib.hid hb; have HGD := Lib.hid hg; clear hb hg))
  refine ⟨by exact HGD.out.mdh _, ?_⟩
  refine flo_seg 7 rfl ?_
  simp only [List.take_succ_cons, List.take_zero, List.drop_succ_cons, List.drop_zero]
  repeat (go_big_quiet_step (fail))
  refine wpQuiet_nil ?_
  refine flo_nil ?_
  obtain ⟨hmin, rfl, q, hq, hye⟩ := best_in (.inr rfl) HC8.out (by omega) HBX.out
  have HEM := Lib.hid (HEO.out _ _ _ _ HX1.out.1 hmin hi hq HX1.out.2 hye)
  have hy1 : y.1 = (q : Nat) := by rw [hye]; rfl
  rw [hy1]
  clear hmin hye HBX HX1 hy1
  have HG5 := Lib.hid (HG4.out.trans ((Gr.refl w4).drew.trans HGD.out))
  have HO5 := Lib.hid (HO4.out.gr ((Gr.refl w4).drew.trans HGD.out))
  clear dm0 d6 H4
  have HSAT : Hid (∀ k : Nat, k < n → (sidesL X nx (allI n))[k]? = some (sideOf X nx (k : Nat))) := Lib.hid (fun k hk => by
    unfold sidesL allI
    rw [List.getElem?_map, List.getElem?_map, List.getElem?_range hk]
    rfl)
  have HSLN : Hid ((sidesL X nx (allI n)).length = n) := Lib.hid (by rw [sidesL_len, allI_len])
  have HSZ3 : Hid (∀ s, sideOf X nx s = (s, sumZ (keepL X s), nx - (byOf X s).last)) := Lib.hid (fun s => rfl)
  obtain ⟨SL, hSL⟩ : ∃ SL, SL = sidesL X nx (allI n) := ⟨_, rfl⟩
  rw [← hSL] at HO5 HSAT HSLN
  have HEM2 : Hid ((anyZ SL = true → (sideOf X nx (i : Nat)).2.1 = 0) ∧ (anyZ SL = true → (sideOf X nx (q : Nat)).2.1 ≠ 0 → oldZ SL < (sideOf X nx (q : Nat)).2.2)) := Lib.hid (by rw [hSL]; exact ⟨HEM.out.k, HEM.out.o⟩)
  clear hSL HEM HO4 HEO HC8
  unfold maxLen at hcs2
  go_wp2_with fail
  go_loopw [18, 19, 20] (fun t18 t19 t20 wx => ∃ k : Nat, k ≤ n ∧ t18 = .bool (anyZ (SL.take k)) ∧ t19 = .int .i64 (oldZ (SL.take k)) ∧ t20 = .int .i64 k ∧ Hid (Gr w5 wx)) (fun _ _ t20 _ => n - (intOf t20).toNat)
  case atStart => exact ⟨0, by omega, rfl, rfl, rfl, Lib.hid (Gr.refl _)⟩
  case round =>
    obtain ⟨k, hk, rfl, rfl, rfl, HR⟩ := hrel
    by_cases hlt : k < n
    · have hlt' : (k : Int) < n := by omega
      have HK := Lib.hid (H2.out.gr (HG5.out.trans HR.out))
      have dm0 := ((cellsOf (show wr.heap[mb]? = _ from HK.out.get (i := 5) rfl)).1 0).trans (show _ = some (Value.pointer (some ⟨b, 0, none⟩)) from rfl)
      obtain ⟨c0, c1, c2⟩ := own_side (HO5.out.gr HR.out) HSLN.out (x := k) hlt
      have hgs : gS SL k = sideOf X nx (k : Nat) := by unfold gS; rw [HSAT.out k hlt]; rfl
      rw [hgs, HSZ3.out] at c0 c1 c2
      have HTK : Hid (SL.take (k + 1) = SL.take k ++ [sideOf X nx (k : Nat)]) := Lib.hid (by rw [List.take_add_one, HSAT.out k hlt]; rfl)
      obtain ⟨_, ha1, ha2⟩ := HSA.out k hlt
      rw [HSZ3.out] at HTK ha1 ha2
      have HSK := Lib.hid (HSIZ.out k hlt wr (HG5.out.trans HR.out))
      simp only at ha1 ha2 c0 c1 c2
      have HA1 := Lib.hid (anyZ_snoc (SL.take k) ((k : Int), sumZ (keepL X (k : Nat)), nx - (byOf X (k : Nat)).last))
      have HA2 := Lib.hid (oldZ_snoc (SL.take k) ((k : Int), sumZ (keepL X (k : Nat)), nx - (byOf X (k : Nat)).last))
      rw [← HTK.out] at HA1 HA2
      simp only at HA1 HA2
      clear hgs HTK
      generalize sumZ (keepL X (k : Nat)) = kp at *
      generalize nx - (byOf X (k : Nat)).last = ag at *
      generalize anyZ (SL.take k) = az at *
      generalize oldZ (SL.take k) = oz at *
      have hag1 : ¬ ag < 1 := by omega
      have hag2 : ¬ nx < ag := by omega
      have hd1 : decide (ag < 1) = false := decide_eq_false hag1
      have hd2 : decide (nx < ag) = false := decide_eq_false hag2
      go_wp2_with fail
      refine Calls.mono HSK.out ?_
      rintro e w6 ⟨rfl, hg⟩
      have HG6 := Lib.hid (HR.out.trans hg)
      have c0' := hg.keep c0
      have c1' := hg.keep c1
      have c2' := hg.keep c2
      clear hg c0 c1 c2 dm0
      by_cases hkz : kp = 0
      · rw [decide_eq_true hkz, Bool.or_true] at HA1
        rw [if_pos hkz] at HA2
        subst hkz
        go_wp2_with fail
        exact ⟨⟨k + 1, by omega, by rw [HA1.out], congrArg (Value.int .i64) ((maxE oz ag).trans HA2.out.symm), by go_num, HG6⟩, by simp [intOf]; omega⟩
      · rw [decide_eq_false hkz, Bool.or_false] at HA1
        rw [if_neg hkz] at HA2
        have hkb : (kp == 0) = false := by simp [hkz]
        go_wp2_with fail
        exact ⟨⟨k + 1, by omega, by rw [HA1.out], by rw [HA2.out], by go_num, HG6⟩, by simp [intOf]; omega⟩
    · have hlt' : ¬ (k : Int) < n := by omega
      have hkn : k = n := by omega
      have hst : SL.take k = SL := List.take_of_length_le (by rw [HSLN.out]; omega)
      rw [hst]
      clear hst hkn
      obtain ⟨i0, i1, i2⟩ := own_side (HO5.out.gr HR.out) HSLN.out (x := i) hi
      obtain ⟨q0, q1, q2⟩ := own_side (HO5.out.gr HR.out) HSLN.out (x := q) hq
      have e1 : gS SL i = sideOf X nx (i : Nat) := by unfold gS; rw [HSAT.out i hi]; rfl
      have e2 : gS SL q = sideOf X nx (q : Nat) := by unfold gS; rw [HSAT.out q hq]; rfl
      rw [e1] at i0 i1 i2
      rw [e2] at q0 q1 q2
      have HGW := Lib.hid (H2.out.g.trans (HG5.out.trans HR.out))
      have hiq : (i : Int) < n := by omega
      have hqn : (q : Int) < n := by omega
      obtain ⟨hm1, hm2⟩ := HEM2.out
      clear e1 e2 HEM2
      generalize (sideOf X nx (i : Nat)).2.1 = ik at *
      generalize (sideOf X nx (q : Nat)).2.1 = qk at *
      generalize (sideOf X nx (q : Nat)).2.2 = qa at *
      generalize oldZ SL = oz at *
      cases hz : anyZ SL with
      | false =>
        clear hm1 hm2 hz
        go_wp2_with (go_at_call 10; refine (v_works _).mono ?_; rintro e w7 ⟨rfl, hg⟩; have HG7 := Lib.hid (HGW.out.trans hg); clear hg)
        go_ret
        exact ⟨rfl, HG7.out⟩
      | true =>
        have hik := hm1 hz
        subst hik
        by_cases hqz : qk = 0
        · subst hqz
          clear hm1 hm2 hz
          go_wp2_with (go_at_call 10; refine (v_works _).mono ?_; rintro e w7 ⟨rfl, hg⟩; have HG7 := Lib.hid (HGW.out.trans hg); clear hg)
          go_ret
          exact ⟨rfl, HG7.out⟩
        · have hqb : (qk == 0) = false := by simp [hqz]
          have hlt2 := hm2 hz hqz
          have hlt3 : decide (oz < qa) = true := decide_eq_true hlt2
          clear hm1 hm2 hz
          go_wp2_with (go_at_call 10; refine (v_works _).mono ?_; rintro e w7 ⟨rfl, hg⟩; have HG7 := Lib.hid (HGW.out.trans hg); clear hg)
          go_ret
          exact ⟨rfl, HG7.out⟩
end Go.Proofs.YtanmmnomagfkhaaGreat
