/- VictimChooses answers true. -/
import Derived.Test.YtemjnppplmankaaGreatBd22
import Derived.Test.YtemjnppplmankaaGreatBd23
import Derived.Test.YtemjnppplmankaaGreatBd17
import Derived.ChangeSlices
import Derived.Lib.SmallJoins
set_option linter.unusedVariables false
set_option linter.unusedSimpArgs false
namespace Go.Proofs.YtemjnppplmankaaGreat
open Go.RowKit Go.Shelf
attribute [local go_sem] OvM cell_ovm obj_ovm
attribute [local go_sem] Oper.semAt_some
theorem infoNm : (Tryz.prog.info? 3).map (fun i => (i.zero, i.size, i.bytes)) = some (some (.int .i64 0), 1, 8) := by kernel_rfl
/-- What Choose and Order answer, both sides. -/
def PCh (X : IX) (c : Cfg) (l : List Int) (policy next : Int) (x : Sd) (is : Bool) : Prop := (vCode X c l next (polB26 policy) = 0 → bestA policy (c.size - 16) (sidesL X next l) = bestV x is 0) ∧ (vCode X c l next (polB26 policy) ≠ 0 → x = zSd ∧ is = false)
def POr (X : IX) (c : Cfg) (l : List Int) (policy next : Int) (M : List Sd) : Prop := (vCode X c l next (polB26 policy) = 0 → OrdS policy (c.size - 16) (sidesL X next l) M) ∧ (vCode X c l next (polB26 policy) ≠ 0 → M = [])
theorem por_len {X : IX} {c : Cfg} {l : List Int} {policy next : Int} {M : List Sd} (h : POr X c l policy next M) : M.length ≤ l.length := by
  by_cases h0 : vCode X c l next (polB26 policy) = 0
  · have := (h.1 h0).pm.length_eq
    rw [sidesL_len] at this
    omega
  · rw [h.2 h0]
    simp
theorem own_nums {w : World} {v : Value} {l : List Int} {n : Nat} (hn : l.length = n) (h : Own w 3 1 v n (kN l)) : ∃ a cap, v = .slice a n cap ∧ n ≤ cap ∧ cap ≤ maxLen ∧ NumAt w a l := by
  subst hn
  exact numAt_own h
set_option maxRecDepth 40000 in
set_option maxHeartbeats 16000000 in
theorem VictimChooses_any (u : Int) (a : Option Addr) (len cap : Nat) (L : List Tn) (c : Cfg) (ao : Option Addr) (leno capo : Nat) (l : List Int) (policy next : Int) (w : World) (hu0 : 0 ≤ u) (hu1 : u ≤ 255) (hl : L.length = len) (hle : len ≤ cap) (hcap : cap ≤ maxLen) (hs : TurnAt w a L) (hlo : l.length = leno) (hleo : leno ≤ capo) (hcapo : capo ≤ maxLen) (hso : NumAt w ao l) :
    Calls Tryz.prog 3 #[.int .u8 u, .slice a len cap, cfgV c, .slice ao leno capo, .int .i64 policy, .int .i64 next] w fun e w' => e = .returned (.bool true) ∧ Gr w w' := by
  obtain ⟨b8, hb8⟩ : ∃ q, q = w.heap.size := ⟨_, rfl⟩
  obtain ⟨w0, hw0⟩ : ∃ y, y = w.alloc (cfgO c) := ⟨_, rfl⟩
  have HG0 : Hid (Gr w w0) := Lib.hid (by rw [hw0]; exact (Gr.refl w).alloc _)
  have HB8 : Hid (w0.heap[b8]? = some (cfgO c)) := Lib.hid (by rw [hb8, hw0]; exact blkNew _ _)
  have HS0 : Hid (TurnAt w0 a L) := Lib.hid (fun i x hx => by
    obtain ⟨b, off, q1, q2, c0, c1, c2, c3, q3⟩ := hs i x hx
    have := HG0.out.sz
    exact ⟨b, off, q1, by omega, HG0.out.keep c0, HG0.out.keep c1, HG0.out.keep c2, HG0.out.keep c3, q3⟩)
  have HSO : Hid (NumAt w0 ao l) := Lib.hid (hso.gr HG0.out)
  have HTO := Lib.hid (turnOk hs)
  have HL := Lib.hid hl
  have HLO := Lib.hid hlo
  clear hs hl hso hlo
  have hcapo2 := hcapo
  unfold maxLen at hcapo2
  obtain ⟨i0, hi, hz0, hz1, hz2⟩ := info_parts infoNm
  obtain ⟨C, hC⟩ : ∃ C, C = c := ⟨_, rfl⟩
  have HC := Lib.hid hC
  obtain ⟨c0, c1, c2, c3, c4, c5, c6⟩ := c
  simp only [cfgV]
  (try simp only [cfgO] at hw0)
  go_enter Tryz.func3, Tryz.ntmps3
  go_upto_region 1 with fail
  rw [← hw0, ← hb8]
  clear hw0 hb8 hC
  by_cases h60 : 60 < len
  · have h60' : (60 : Int) < len := by omega
    go_wp2_with (go_at_call 4; refine (v_works _).mono ?_; rintro e w1 ⟨rfl, hg⟩; have HG := Lib.hid hg; clear hg)
    go_ret
    exact ⟨rfl, HG0.out.trans HG.out⟩
  have h60' : ¬ (60 : Int) < len := by omega
  by_cases h40 : 40 < leno
  · have h40' : (40 : Int) < leno := by omega
    go_wp2_with (go_at_call 4; refine (v_works _).mono ?_; rintro e w1 ⟨rfl, hg⟩; have HG := Lib.hid hg; clear hg)
    go_ret
    exact ⟨rfl, HG0.out.trans HG.out⟩
  have h40' : ¬ (40 : Int) < leno := by omega
  obtain ⟨n, hn⟩ : ∃ n : Nat, 1 + u % 8 = (n : Int) := ⟨(1 + u % 8).toNat, by omega⟩
  have hn1 : 1 ≤ n := by omega
  have hn8 : n ≤ 8 := by omega
  have hn2 : n ≤ 32 := by omega
  have HST := Lib.hid (foldM_ok n hn1 hn2 len L HL.out (by omega) HTO.out)
  go_upto_region 3 with fail
  go_wp2_with fail
  (try rw [hn])
  refine (Begin_any (SW.start w0) n hn1 hn2).mono ?_
  rintro r w1 ⟨b, rb, mb, v1, v2, S, rfl, hs⟩
  have H1 := Lib.hid hs
  clear hs
  go_wp2_with fail
  refine (Play_any H1.out hn1 hn2 HL.out (by omega) hle hcap HS0.out).mono ?_
  rintro r w2 ⟨rfl, v1', v2', S', hs⟩
  have H2 := Lib.hid hs
  clear hs H1 HS0 HL HTO
  generalize foldM n L = st at *
  obtain ⟨X, all, nx⟩ := st
  have HFG := Lib.hid HST.out.g
  have hal : all.length ≤ 100 := by have := HST.out.n; simp only at this; omega
  simp only at HFG
  clear HST hn
  obtain ⟨av, cv, rfl, hcv, hmv, _⟩ := ownE_at (show Own w2 89 6 v2' all.length (rowE all) from H2.out.get (i := 4) rfl)
  unfold maxLen at hmv
  have HM : Hid (w2.heap[mb]? = some (mdO b rb (.slice av all.length cv) nx)) := Lib.hid (H2.out.get (i := 3) rfl)
  have HIX : Hid (∀ W, Gr w2 W → IXP W (some ⟨b, 0, none⟩) X S') := Lib.hid (fun W g => .inl ⟨b, rfl, (show IXR w2 b X S' from H2.out.get (i := 0) rfl).gr g⟩)
  have HXL := Lib.hid HFG.out.ln
  have HRP : Hid (∀ W, Gr w2 W → RP W (some ⟨rb, 0, none⟩) X) := Lib.hid (fun W g => RP.gr (.inr ⟨rb, rfl, v1', all, (H2.out.get (i := 1) rfl).trans (by rw [HXL.out]), HFG.out.ne, H2.out.get (i := 2) rfl, HFG.out.wf, HFG.out.pm, by omega⟩) g)
  have HG2 : Hid (Gr w w2) := Lib.hid (HG0.out.trans H2.out.g)
  have HB2 : Hid (w2.heap[b8]? = some (cfgO C)) := Lib.hid (by rw [HC.out]; exact H2.out.g.blk HB8.out)
  have HNU : Hid (∀ W, Gr w2 W → NumAt W ao l) := Lib.hid (fun W g => HSO.out.gr (H2.out.g.trans g))
  have hne : X.slots ≠ [] := HFG.out.ne
  have hxl : X.slots.length ≤ 12 := by have := HXL.out; omega
  have HSDI := Lib.hid (fun W (g : Gr w2 W) => VSides_any (HIX.out W g) hne C ao leno capo l HLO.out hleo hcapo (by omega) (HNU.out W g) next)
  have HSDR := Lib.hid (fun W (g : Gr w2 W) => rSides26 (HRP.out W g) hne C ao leno capo l HLO.out hleo hcapo (by omega) (HNU.out W g) next)
  have HCHI := Lib.hid (fun W (g : Gr w2 W) => VChoose_any (HIX.out W g) hne C ao leno capo l HLO.out hleo hcapo (by omega) (HNU.out W g) policy next)
  have HCHR := Lib.hid (fun W (g : Gr w2 W) => rChoose26 (HRP.out W g) hne C ao leno capo l HLO.out hleo hcapo (by omega) (HNU.out W g) policy next)
  have HORI := Lib.hid (fun W (g : Gr w2 W) => VOrder_any (HIX.out W g) hne C ao leno capo l HLO.out hleo hcapo (by omega) (HNU.out W g) policy next (by have := few (c := C) (l := l) (next := next) (good := polB26 policy) hxl; rw [HLO.out] at this; exact this))
  have HORR := Lib.hid (fun W (g : Gr w2 W) => rOrder26 (HRP.out W g) hne C ao leno capo l HLO.out hleo hcapo (by omega) (HNU.out W g) policy next)
  have HNI := Lib.hid (fun W (g : Gr w2 W) => Len_any (HIX.out W g))
  have HNR := Lib.hid (fun W (g : Gr w2 W) => rpLen (HRP.out W g))
  clear H2 HG0 HB8 HFG HXL hne hxl HSO
  obtain ⟨CV, hCV⟩ : ∃ v, v = cfgV C := ⟨_, rfl⟩
  have HCV : Hid (CV = .agg #[.int .i64 c0, .int .i64 c1, .int .i64 c2, .int .i64 c3, .int .i64 c4, .int .i64 c5, .int .i64 c6]) := Lib.hid (by rw [hCV, HC.out]; rfl)
  rw [← hCV] at HSDI HSDR HCHI HCHR HORI HORR
  rw [HC.out] at HB2
  rw [HCV.out] at HSDI HSDR HCHI HCHR HORI HORR
  clear hCV HCV HC
  have HCI : Hid (∀ W, Gr w2 W → Calls Tryz.prog 9 #[.pointer (some ⟨b, 0, none⟩), .agg #[.int .i64 c0, .int .i64 c1, .int .i64 c2, .int .i64 c3, .int .i64 c4, .int .i64 c5, .int .i64 c6], .slice ao leno capo, .int .i64 policy, .int .i64 next] W fun e w' => ∃ (x : Sd) (is : Bool), e = .returned (.tuple #[.int .i64 x.1, .bool is, .int .i64 (vCode X C l next (polB26 policy))]) ∧ PCh X C l policy next x is ∧ Gr W w') := Lib.hid (fun W g => (HCHI.out W g).mono (fun e w' ⟨x, is, h1, h2, h3, h4⟩ => ⟨x, is, h1, ⟨h2, h3⟩, h4⟩))
  have HCR : Hid (∀ W, Gr w2 W → Calls Tryz.prog 10 #[.pointer (some ⟨rb, 0, none⟩), .agg #[.int .i64 c0, .int .i64 c1, .int .i64 c2, .int .i64 c3, .int .i64 c4, .int .i64 c5, .int .i64 c6], .slice ao leno capo, .int .i64 policy, .int .i64 next] W fun e w' => ∃ (x : Sd) (is : Bool), e = .returned (.tuple #[.int .i64 x.1, .bool is, .int .i64 (vCode X C l next (polB26 policy))]) ∧ PCh X C l policy next x is ∧ Gr W w') := Lib.hid (fun W g => (HCHR.out W g).mono (fun e w' ⟨x, is, h1, h2, h3, h4⟩ => ⟨x, is, h1, ⟨h2, h3⟩, h4⟩))
  have HOI : Hid (∀ W, Gr w2 W → Calls Tryz.prog 11 #[.pointer (some ⟨b, 0, none⟩), .agg #[.int .i64 c0, .int .i64 c1, .int .i64 c2, .int .i64 c3, .int .i64 c4, .int .i64 c5, .int .i64 c6], .slice ao leno capo, .int .i64 policy, .int .i64 next] W fun e w' => ∃ (v : Value) (M : List Sd), e = .returned (.tuple #[v, .int .i64 (vCode X C l next (polB26 policy))]) ∧ POr X C l policy next M ∧ Nw W w' 3 1 v M.length (kN (M.map (·.1))) ∧ Gr W w') := Lib.hid (fun W g => (HORI.out W g).mono (fun e w' ⟨v, M, h1, h2, h3, h4, h5⟩ => ⟨v, M, h1, ⟨h2, h3⟩, h4, h5⟩))
  have HOR : Hid (∀ W, Gr w2 W → Calls Tryz.prog 12 #[.pointer (some ⟨rb, 0, none⟩), .agg #[.int .i64 c0, .int .i64 c1, .int .i64 c2, .int .i64 c3, .int .i64 c4, .int .i64 c5, .int .i64 c6], .slice ao leno capo, .int .i64 policy, .int .i64 next] W fun e w' => ∃ (v : Value) (M : List Sd), e = .returned (.tuple #[v, .int .i64 (vCode X C l next (polB26 policy))]) ∧ POr X C l policy next M ∧ Nw W w' 3 1 v M.length (kN (M.map (·.1))) ∧ Gr W w') := Lib.hid (fun W g => (HORR.out W g).mono (fun e w' ⟨v, M, h1, h2, h3, h4, h5⟩ => ⟨v, M, h1, ⟨h2, h3⟩, h4, h5⟩))
  have HSC : Hid (∀ x is y js, PCh X C l policy next x is → PCh X C l policy next y js → y = x ∧ js = is) := Lib.hid (fun x is y js h1 h2 => ch_same h1.1 h1.2 h2.1 h2.2)
  have HSO : Hid (∀ M M', POr X C l policy next M → POr X C l policy next M' → M' = M ∧ M.length ≤ 40) := Lib.hid (fun M M' h1 h2 => ⟨or_same h1.1 h1.2 h2.1 h2.2, by have := por_len h1; have := HLO.out; omega⟩)
  have HSL : Hid ((vSides X C l next true).length ≤ 40) := Lib.hid (by
    have h1 : (vSides X C l next true).length ≤ l.length := by
      unfold vSides sidesK
      split
      · split
        · rw [sidesL_len]; exact Nat.le_refl _
        · simp
      · simp
    have := HLO.out
    omega)
  have HDI : Hid (∀ W, Gr w2 W → Calls Tryz.prog 7 #[.pointer (some ⟨b, 0, none⟩), .agg #[.int .i64 c0, .int .i64 c1, .int .i64 c2, .int .i64 c3, .int .i64 c4, .int .i64 c5, .int .i64 c6], .slice ao leno capo, .int .i64 next] W fun e w' => ∃ v, e = .returned (.tuple #[v, .int .i64 (vCode X C l next true)]) ∧ Nw W w' 44 3 v (vSides X C l next true).length (rowS (vSides X C l next true)) ∧ Gr W w') := Lib.hid (fun W g => HSDI.out W g)
  have HDR : Hid (∀ W, Gr w2 W → Calls Tryz.prog 8 #[.pointer (some ⟨rb, 0, none⟩), .agg #[.int .i64 c0, .int .i64 c1, .int .i64 c2, .int .i64 c3, .int .i64 c4, .int .i64 c5, .int .i64 c6], .slice ao leno capo, .int .i64 next] W fun e w' => ∃ v, e = .returned (.tuple #[v, .int .i64 (vCode X C l next true)]) ∧ Nw W w' 45 3 v (vSides X C l next true).length (rowS (vSides X C l next true)) ∧ Gr W w') := Lib.hid (fun W g => HSDR.out W g)
  clear HCHI HCHR HORI HORR HSDI HSDR
  generalize vCode X C l next true = ks at *
  generalize vCode X C l next (polB26 policy) = kp at *
  generalize vSides X C l next true = S at *
  generalize PCh X C l policy next = P at *
  generalize POr X C l policy next = O at *
  generalize X.ents.length = nl at *
  clear HIX HRP
  go_wp2_with (first
    | (at_builtin; go_loud ((have HN0 := Nw.made (w0 := w2) (w := w2) (e := 3) (K := 1) (Nat.le_refl _)); (refine wpList_appv _ rfl (.tmp 56) (.tmp 57) 25 rfl 3 i0 _ 1 8 Tryz.underlying25 hi hz0 hz1 hz2 rfl (by decide) (.slice (some ⟨w2.heap.size, 0, none⟩) 0 0) 0 [] rfl HN0.own ao leno capo (kN l) rfl (numAt_src HLO.out (HNU.out _ ((Gr.refl w2).alloc _))) (by simp only [maxLen]; omega) (by omega) ?_); intro vw w3 hA; rw [Nat.zero_add, List.nil_append] at hA; have HNW := Lib.hid (hA.nw HN0 (by simp)); have HG3 := Lib.hid (hA.gw HN0 ((Gr.refl w2).alloc _)); clear hA HN0))
    | fail)
  have dm0 := ((cellsOf (HG3.out.blk HM.out)).1 0).trans (show _ = some (Value.pointer (some ⟨b, 0, none⟩)) from rfl)
  have d8 := (cellsOf (HG3.out.blk HB2.out)).1
  (try simp only [cfgO] at d8)
  go_upto_region 7 with fail
  refine wp_region_flo (fun _ => False) [] [] (by kernel_rfl) (by kernel_rfl) (fun _ h => h.elim) ?_
  refine flo_seg 7 rfl ?_
  simp only [List.take_succ_cons, List.take_zero, List.drop_succ_cons, List.drop_zero]
  repeat (go_big_quiet_step (fail))
  refine wpQuiet_nil ?_
  refine flo_eff rfl rfl rfl rfl (fun K hK => ?_)
  go_wp2_with ((go_at_call 7; refine Calls.mono (HDI.out _ (HG3.out.trans (Gr.refl w3).drew)) ?_; rintro e w4 ⟨va, rfl, hna, hg⟩; have HNA := Lib.hid hna; have HGD := Lib.hid hg; clear hna hg))
  refine ⟨by exact HGD.out.mdh _, ?_⟩
  refine flo_seg 5 rfl ?_
  simp only [List.take_succ_cons, List.take_zero, List.drop_succ_cons, List.drop_zero]
  repeat (go_big_quiet_step (fail))
  refine wpQuiet_nil ?_
  refine flo_nil ?_
  have HG4 := Lib.hid (HG3.out.trans ((Gr.refl w3).drew.trans HGD.out))
  have HNW4 := Lib.hid (HNW.out.gr ((Gr.refl w3).drew.trans HGD.out))
  clear dm0 d8 HGD
  have dm0 := ((cellsOf (HG4.out.blk HM.out)).1 1).trans (show _ = some (Value.pointer (some ⟨rb, 0, none⟩)) from rfl)
  have d8 := (cellsOf (HG4.out.blk HB2.out)).1
  (try simp only [cfgO] at d8)
  go_upto_region 8 with fail
  refine wp_region_flo (fun _ => False) [] [] (by kernel_rfl) (by kernel_rfl) (fun _ h => h.elim) ?_
  refine flo_seg 7 rfl ?_
  simp only [List.take_succ_cons, List.take_zero, List.drop_succ_cons, List.drop_zero]
  repeat (go_big_quiet_step (fail))
  refine wpQuiet_nil ?_
  refine flo_eff rfl rfl rfl rfl (fun K hK => ?_)
  go_wp2_with ((go_at_call 8; refine Calls.mono (HDR.out _ (HG4.out.trans (Gr.refl w4).drew)) ?_; rintro e w5 ⟨vb, rfl, hnb, hg⟩; have HNB := Lib.hid hnb; have HGD := Lib.hid hg; clear hnb hg))
  refine ⟨by exact HGD.out.mdh _, ?_⟩
  refine flo_seg 5 rfl ?_
  simp only [List.take_succ_cons, List.take_zero, List.drop_succ_cons, List.drop_zero]
  repeat (go_big_quiet_step (fail))
  refine wpQuiet_nil ?_
  refine flo_nil ?_
  have HG45 := Lib.hid ((Gr.refl w4).drew.trans HGD.out)
  have HG5 := Lib.hid (HG4.out.trans HG45.out)
  have HNW5 := Lib.hid (HNW4.out.gr HG45.out)
  clear HNW HNW4
  clear dm0 d8 HGD HDI HDR
  have HNA5 := Lib.hid (HNA.out.gr HG45.out)
  obtain ⟨aa, ca, rfl, hca, hma⟩ := own3_val HNA5.out.own
  obtain ⟨ab, cb, rfl, hcb, hmb⟩ := own3_val HNB.out.own
  unfold maxLen at hma hmb
  have hS40 := HSL.out
  have hks : (ks != ks) = false := by simp
  go_upto_region 9 with fail
  go_wp2_with fail
  go_loopw [20] (fun t20 wx => ∃ i : Nat, i ≤ S.length ∧ t20 = .int .i64 i ∧ Hid (Gr w5 wx)) (fun t20 _ => S.length - (intOf t20).toNat)
  case atStart => exact ⟨0, by omega, rfl, Lib.hid (Gr.refl _)⟩
  case round =>
    obtain ⟨i, hil, rfl, HR⟩ := hrel
    by_cases hlt : i < S.length
    · have hlt' : (i : Int) < S.length := by omega
      obtain ⟨ga, rfl, _, hat⟩ := own3_at (HNA5.out.own.gr HR.out) rfl (by omega)
      obtain ⟨gb, rfl, _, hbt⟩ := own3_at (HNB.out.own.gr HR.out) rfl (by omega)
      obtain ⟨x0, x1, x2⟩ := hat i hlt
      obtain ⟨y0, y1, y2⟩ := hbt i hlt
      clear hat hbt
      generalize gS S i = y at *
      obtain ⟨ya, yb, yc⟩ := y
      simp only at x0 x1 x2 y0 y1 y2
      have e1 : (ya != ya) = false := by simp
      have e2 : (yb != yb) = false := by simp
      have e3 : (yc != yc) = false := by simp
      go_wp2_with fail
      refine wp_region_flo (fun _ => False) [] [] (by kernel_rfl) (by kernel_rfl) (fun _ h => h.elim) ?_
      (try simp only [List.append_eq, List.cons_append, List.nil_append])
      refine flo_seg 37 rfl ?_
      simp only [List.take_succ_cons, List.take_zero, List.drop_succ_cons, List.drop_zero]
      repeat (go_big_quiet_step (fail))
      refine wpQuiet_nil ?_
      refine flo_nil ?_
      go_wp2_with fail
      go_roundw
      case rel => exact ⟨i + 1, by omega, by go_num, Lib.hid (HR.out.trans (Gr.refl wr).drew)⟩
      case measure => simp [intOf]; omega
    · have hil2 : i = S.length := by omega
      have hlt' : ¬ (i : Int) < S.length := by omega
      have HG6 := Lib.hid (HG5.out.trans HR.out)
      have HNW6 := Lib.hid (HNW5.out.gr HR.out)
      clear HR HNA5 HNA HNB hil2
      generalize wr = w6 at *
      go_upto_region 16 with fail
      have dm0 := ((cellsOf (HG6.out.blk HM.out)).1 0).trans (show _ = some (Value.pointer (some ⟨b, 0, none⟩)) from rfl)
      have d8 := (cellsOf (HG6.out.blk HB2.out)).1
      (try simp only [cfgO] at d8)
      refine wp_region_flo (fun _ => False) [] [] (by kernel_rfl) (by kernel_rfl) (fun _ h => h.elim) ?_
      refine flo_seg 8 rfl ?_
      simp only [List.take_succ_cons, List.take_zero, List.drop_succ_cons, List.drop_zero]
      repeat (go_big_quiet_step (fail))
      refine wpQuiet_nil ?_
      refine flo_eff rfl rfl rfl rfl (fun K hK => ?_)
      go_wp2_with ((go_at_call 9; refine Calls.mono (HCI.out _ (HG6.out.trans (Gr.refl w6).drew)) ?_; rintro e w7 ⟨x, is, rfl, hp, hg⟩; have HPX := Lib.hid hp; have HGD := Lib.hid hg; clear hp hg))
      refine ⟨by exact HGD.out.mdh _, ?_⟩
      refine flo_seg 7 rfl ?_
      simp only [List.take_succ_cons, List.take_zero, List.drop_succ_cons, List.drop_zero]
      repeat (go_big_quiet_step (fail))
      refine wpQuiet_nil ?_
      refine flo_nil ?_
      have HG7 := Lib.hid (HG6.out.trans ((Gr.refl w6).drew.trans HGD.out))
      have HNW7 := Lib.hid (HNW6.out.gr ((Gr.refl w6).drew.trans HGD.out))
      clear dm0 d8 HGD HCI
      have dm0 := ((cellsOf (HG7.out.blk HM.out)).1 1).trans (show _ = some (Value.pointer (some ⟨rb, 0, none⟩)) from rfl)
      have d8 := (cellsOf (HG7.out.blk HB2.out)).1
      (try simp only [cfgO] at d8)
      go_upto_region 17 with fail
      refine wp_region_flo (fun _ => False) [] [] (by kernel_rfl) (by kernel_rfl) (fun _ h => h.elim) ?_
      refine flo_seg 8 rfl ?_
      simp only [List.take_succ_cons, List.take_zero, List.drop_succ_cons, List.drop_zero]
      repeat (go_big_quiet_step (fail))
      refine wpQuiet_nil ?_
      refine flo_eff rfl rfl rfl rfl (fun K hK => ?_)
      go_wp2_with ((go_at_call 10; refine Calls.mono (HCR.out _ (HG7.out.trans (Gr.refl w7).drew)) ?_; rintro e w8 ⟨y, js, rfl, hp, hg⟩; obtain ⟨rfl, rfl⟩ := HSC.out _ _ _ _ HPX.out hp; have HGD := Lib.hid hg; clear hp hg))
      refine ⟨by exact HGD.out.mdh _, ?_⟩
      refine flo_seg 7 rfl ?_
      simp only [List.take_succ_cons, List.take_zero, List.drop_succ_cons, List.drop_zero]
      repeat (go_big_quiet_step (fail))
      refine wpQuiet_nil ?_
      refine flo_nil ?_
      have HG8 := Lib.hid (HG7.out.trans ((Gr.refl w7).drew.trans HGD.out))
      have HNW8 := Lib.hid (HNW7.out.gr ((Gr.refl w7).drew.trans HGD.out))
      clear dm0 d8 HGD HCR HPX HSC
      have dm0 := ((cellsOf (HG8.out.blk HM.out)).1 0).trans (show _ = some (Value.pointer (some ⟨b, 0, none⟩)) from rfl)
      have d8 := (cellsOf (HG8.out.blk HB2.out)).1
      (try simp only [cfgO] at d8)
      go_upto_region 18 with fail
      refine wp_region_flo (fun _ => False) [] [] (by kernel_rfl) (by kernel_rfl) (fun _ h => h.elim) ?_
      refine flo_seg 8 rfl ?_
      simp only [List.take_succ_cons, List.take_zero, List.drop_succ_cons, List.drop_zero]
      repeat (go_big_quiet_step (fail))
      refine wpQuiet_nil ?_
      refine flo_eff rfl rfl rfl rfl (fun K hK => ?_)
      go_wp2_with ((go_at_call 11; refine Calls.mono (HOI.out _ (HG8.out.trans (Gr.refl w8).drew)) ?_; rintro e w9 ⟨vo, M, rfl, hp, hn, hg⟩; have HPX := Lib.hid hp; have HNO := Lib.hid hn; have HGD := Lib.hid hg; clear hp hn hg))
      refine ⟨by exact HGD.out.mdh _, ?_⟩
      refine flo_seg 5 rfl ?_
      simp only [List.take_succ_cons, List.take_zero, List.drop_succ_cons, List.drop_zero]
      repeat (go_big_quiet_step (fail))
      refine wpQuiet_nil ?_
      refine flo_nil ?_
      have HG9 := Lib.hid (HG8.out.trans ((Gr.refl w8).drew.trans HGD.out))
      have HNW9 := Lib.hid (HNW8.out.gr ((Gr.refl w8).drew.trans HGD.out))
      clear dm0 d8 HGD HOI
      have dm0 := ((cellsOf (HG9.out.blk HM.out)).1 1).trans (show _ = some (Value.pointer (some ⟨rb, 0, none⟩)) from rfl)
      have d8 := (cellsOf (HG9.out.blk HB2.out)).1
      (try simp only [cfgO] at d8)
      go_upto_region 19 with fail
      refine wp_region_flo (fun _ => False) [] [] (by kernel_rfl) (by kernel_rfl) (fun _ h => h.elim) ?_
      refine flo_seg 8 rfl ?_
      simp only [List.take_succ_cons, List.take_zero, List.drop_succ_cons, List.drop_zero]
      repeat (go_big_quiet_step (fail))
      refine wpQuiet_nil ?_
      refine flo_eff rfl rfl rfl rfl (fun K hK => ?_)
      go_wp2_with ((go_at_call 12; refine Calls.mono (HOR.out _ (HG9.out.trans (Gr.refl w9).drew)) ?_; rintro e w10 ⟨vr, M', rfl, hp, hn, hg⟩; (have hmm := HSO.out _ _ HPX.out hp); (obtain ⟨hm1, hm2⟩ := hmm); subst hm1; have HNR2 := Lib.hid hn; have HM40 := Lib.hid hm2; have HGD := Lib.hid hg; clear hp hn hg hm2))
      refine ⟨by exact HGD.out.mdh _, ?_⟩
      refine flo_seg 5 rfl ?_
      simp only [List.take_succ_cons, List.take_zero, List.drop_succ_cons, List.drop_zero]
      repeat (go_big_quiet_step (fail))
      refine wpQuiet_nil ?_
      refine flo_nil ?_
      have HG910 := Lib.hid ((Gr.refl w9).drew.trans HGD.out)
      have HG10 := Lib.hid (HG9.out.trans HG910.out)
      have HNW10 := Lib.hid (HNW9.out.gr HG910.out)
      clear dm0 d8 HGD HOR HPX HSO
      obtain ⟨au, cu, rfl, hcu, hmu, hnu⟩ := own_nums (l := M'.map (·.1)) (n := M'.length) (by simp) (HNO.out.gr HG910.out).own
      obtain ⟨av2, cv2, rfl, hcv2, hmv2, hnv⟩ := own_nums (l := M'.map (·.1)) (n := M'.length) (by simp) HNR2.out.own
      obtain ⟨aw, cw, rfl, hcw, hmw, hnw⟩ := own_nums (l := l) (n := leno) HLO.out HNW10.out.own
      have HI1 : Hid (∀ W, Gr w10 W → Calls Tryz.prog 13 #[.slice au M'.length cu, .slice av2 M'.length cv2] W fun e w' => e = .returned (.bool true) ∧ Gr W w') := Lib.hid (fun W g => by
        have h1 := Ints_any W au av2 M'.length M'.length cu cv2 (M'.map (·.1)) (M'.map (·.1)) (by simp) (by simp) hcu hcv2 hmu hmv2 (by have := HM40.out; omega) (hnu.gr g) (hnv.gr g)
        rw [decide_eq_true (rfl : M'.map (·.1) = M'.map (·.1))] at h1
        exact h1)
      have HI2 : Hid (∀ W, Gr w10 W → Calls Tryz.prog 13 #[.slice aw leno cw, .slice ao leno capo] W fun e w' => e = .returned (.bool true) ∧ Gr W w') := Lib.hid (fun W g => by
        have h1 := Ints_any W aw ao leno leno cw capo l l HLO.out HLO.out hcw hleo hmw hcapo (by omega) (hnw.gr g) (HNU.out W (HG10.out.trans g))
        rw [decide_eq_true (rfl : l = l)] at h1
        exact h1)
      have dm0 := ((cellsOf (HG10.out.blk HM.out)).1 0).trans (show _ = some (Value.pointer (some ⟨b, 0, none⟩)) from rfl)
      have dm1 := ((cellsOf (HG10.out.blk HM.out)).1 1).trans (show _ = some (Value.pointer (some ⟨rb, 0, none⟩)) from rfl)
      have hk0 : (kp == kp) = true := by simp
      have hk1 : (y.1 == y.1) = true := by simp
      have hk2 : (js == js) = true := by simp
      have hk3 : ((nl : Int) == (nl : Int)) = true := by simp
      clear hcu hmu hnu hcv2 hmv2 hnv hcw hmw hnw HNO HNR2 HNW10 HM40
      go_upto_region 20 with fail
      refine wp_region_flo (fun _ => False) [] [] (by kernel_rfl) (by kernel_rfl) (fun _ h => h.elim) ?_
      (try simp only [List.append_eq, List.cons_append, List.nil_append])
      refine flo_seg 16 rfl ?_
      simp only [List.take_succ_cons, List.take_zero, List.drop_succ_cons, List.drop_zero]
      repeat (go_big_quiet_step (fail))
      refine wpQuiet_nil ?_
      refine flo_eff rfl rfl rfl rfl (fun K hK => ?_)
      go_wp2_with ((go_at_call 13; refine Calls.mono (HI1.out _ ((Gr.refl w10).drew)) ?_; rintro e w11 ⟨rfl, hg⟩; have HG11 := Lib.hid hg; clear hg))
      refine ⟨by exact HG11.out.mdh _, ?_⟩
      refine flo_seg 9 rfl ?_
      simp only [List.take_succ_cons, List.take_zero, List.drop_succ_cons, List.drop_zero]
      repeat (go_big_quiet_step (fail))
      refine wpQuiet_nil ?_
      refine flo_eff rfl rfl rfl rfl (fun K hK => ?_)
      go_wp2_with ((go_at_call 13; refine Calls.mono (HI2.out _ ((Gr.refl w10).drew.trans HG11.out)) ?_; rintro e w12 ⟨rfl, hg⟩; have HG12 := Lib.hid hg; clear hg))
      refine ⟨by exact HG12.out.mdh _, ?_⟩
      refine flo_seg 6 rfl ?_
      simp only [List.take_succ_cons, List.take_zero, List.drop_succ_cons, List.drop_zero]
      repeat (go_big_quiet_step (fail))
      refine wpQuiet_nil ?_
      refine flo_eff rfl rfl rfl rfl (fun K hK => ?_)
      go_wp2_with ((go_at_call 14; refine Calls.mono (HNI.out _ (HG10.out.trans ((Gr.refl w10).drew.trans (HG11.out.trans HG12.out)))) ?_; rintro e wl1 ⟨rfl, rfl⟩))
      refine ⟨by exact (Gr.refl _).mdh _, ?_⟩
      refine flo_seg 4 rfl ?_
      simp only [List.take_succ_cons, List.take_zero, List.drop_succ_cons, List.drop_zero]
      repeat (go_big_quiet_step (fail))
      refine wpQuiet_nil ?_
      refine flo_eff rfl rfl rfl rfl (fun K hK => ?_)
      go_wp2_with ((go_at_call 15; refine Calls.mono (HNR.out _ (HG10.out.trans ((Gr.refl w10).drew.trans (HG11.out.trans HG12.out)))) ?_; rintro e wl2 ⟨rfl, rfl⟩))
      refine ⟨by exact (Gr.refl _).mdh _, ?_⟩
      refine flo_seg 3 rfl ?_
      simp only [List.take_succ_cons, List.take_zero, List.drop_succ_cons, List.drop_zero]
      repeat (go_big_quiet_step (fail))
      refine wpQuiet_nil ?_
      refine flo_eff rfl rfl rfl rfl (fun K hK => ?_)
      go_wp2_with ((go_at_call 4; refine (v_works _).mono ?_; rintro e w13 ⟨rfl, hg⟩; have HG13 := Lib.hid hg; clear hg))
      refine ⟨by exact HG13.out.mdh _, ?_⟩
      refine flo_seg 2 rfl ?_
      simp only [List.take_succ_cons, List.take_zero, List.drop_succ_cons, List.drop_zero]
      repeat (go_big_quiet_step (fail))
      refine wpQuiet_nil ?_
      refine flo_nil ?_
      go_wp2_with fail
      go_ret
      exact ⟨rfl, HG2.out.trans (HG10.out.trans ((Gr.refl w10).drew.trans (HG11.out.trans (HG12.out.trans HG13.out))))⟩
end Go.Proofs.YtemjnppplmankaaGreat

/- A row of numbers that lies somewhere. -/
set_option linter.unusedVariables false
set_option linter.unusedSimpArgs false
namespace Go.Proofs.YtemjnppplmankaaGreat
open Go.ChangeShapes Go.WideShapes Go.Deep Go.RowKit
theorem open_nums {H : Type} {enc : TypeId × Value → H} {w : World} {base : Nat} {spare : Nat → Bool} {held : Bool} {fuel : Nat} {a : Option Addr} {len cap : Nat} {x : DataW H × List MemPlace}
    (h : DataW.trod enc Tryz.prog w base spare held fuel 25 (Value.slice a len cap).cells.toList = some x) : len ≤ cap ∧ cap ≤ maxLen ∧ ∃ l : List Int, l.length = len ∧ NumAt w a l := by
  rcases open_ints Tryz.underlying25 Tryz.underlying3 (by kernel_rfl) h with ⟨hcs, _⟩ | ⟨a', l, c, zs, hcs, _, hl, hm, hz, _, hcell, hwz⟩
  · simp [Value.cells] at hcs
    obtain ⟨rfl, rfl, rfl⟩ := hcs
    exact ⟨by omega, by simp [maxLen], [], rfl, fun i x hx => by simp at hx⟩
  · simp [Value.cells] at hcs
    obtain ⟨rfl, rfl, rfl⟩ := hcs
    have hlz : len ≤ zs.length := by rw [hz]; split <;> omega
    refine ⟨hl, hm, zs.take len, by rw [List.length_take]; omega, fun i x hx => ?_⟩
    have hi : i < len := by
      have := (List.getElem?_eq_some_iff.1 hx).1
      rw [List.length_take] at this
      omega
    rw [List.getElem?_take, if_pos hi] at hx
    have hc := hcell i (by omega)
    rw [List.getD_eq_getElem?_getD, hx, Option.getD_some] at hc
    have hsp : a'.spot = none := spot_add (hcell 0 (by omega))
    obtain ⟨hb, d0⟩ := at_add hc hsp
    exact ⟨_, _, by obtain ⟨b, o, s⟩ := a'; simp_all, hb, d0⟩
end Go.Proofs.YtemjnppplmankaaGreat

/- A struct of seven one-cell fields by value: the howto's block (extra-structs, 2), copied as it directs. -/
set_option linter.unusedVariables false
set_option linter.unusedSimpArgs false
namespace Go.Proofs.YtemjnppplmankaaGreat
open Go.Joins Go.ChangeShapes Go.WideShapes Go.RowKit Go.Deep
section
variable {H : Type} {enc : TypeId × Value → H} {P : Program} {w : World} {base : Nat} {spare : Nat → Bool} {held : Bool}
theorem open_agg7 {r : Reach} {b0 : Nat} {t : TypeId} {f0 f1 f2 f3 f4 f5 f6 : Field} {v : Value} {d : DataW H} {p : List MemPlace} (hs : P.underlying t = some (.struct #[f0, f1, f2, f3, f4, f5, f6])) (hone : oneCellFields P #[f0, f1, f2, f3, f4, f5, f6] = true) (hC : P.cellsOf t = 7)
    (hv : Value.okWide P w r b0 t v) (h : DataW.Trod enc P w base spare held t v d p) :
    ∃ (v0 v1 v2 v3 v4 v5 v6 : Value) (y0 y1 y2 y3 y4 y5 y6 : DataW H × List MemPlace) (n : Nat), v = .agg #[v0, v1, v2, v3, v4, v5, v6] ∧ d = .agg [y0.1, y1.1, y2.1, y3.1, y4.1, y5.1, y6.1] ∧ p = y0.2 ++ (y1.2 ++ (y2.2 ++ (y3.2 ++ (y4.2 ++ (y5.2 ++ y6.2))))) ∧
      DataW.trod enc P w base spare held n f0.type [v0] = some y0 ∧ DataW.trod enc P w base spare held n f1.type [v1] = some y1 ∧ DataW.trod enc P w base spare held n f2.type [v2] = some y2 ∧ DataW.trod enc P w base spare held n f3.type [v3] = some y3 ∧ DataW.trod enc P w base spare held n f4.type [v4] = some y4 ∧ DataW.trod enc P w base spare held n f5.type [v5] = some y5 ∧ DataW.trod enc P w base spare held n f6.type [v6] = some y6 := by
  obtain ⟨cs, rfl, hsz⟩ := okWide_struct hs hv
  obtain ⟨l⟩ := cs
  match l, hsz.trans hC with
  | [c0, c1, c2, c3, c4, c5, c6], _ =>
    obtain ⟨fuel, hf⟩ := h
    obtain ⟨xs, n, _, hx, _, hlen, hg⟩ := DataW.trod_struct hs hf
    obtain ⟨o0, k0⟩ := hone_of hone 0 f0 rfl
    obtain ⟨o1, k1⟩ := hone_of hone 1 f1 rfl
    obtain ⟨o2, k2⟩ := hone_of hone 2 f2 rfl
    obtain ⟨o3, k3⟩ := hone_of hone 3 f3 rfl
    obtain ⟨o4, k4⟩ := hone_of hone 4 f4 rfl
    obtain ⟨o5, k5⟩ := hone_of hone 5 f5 rfl
    obtain ⟨o6, k6⟩ := hone_of hone 6 f6 rfl
    match xs, hlen with
    | [y0, y1, y2, y3, y4, y5, y6], _ =>
      simp only [Prod.mk.injEq] at hx
      exact ⟨c0, c1, c2, c3, c4, c5, c6, y0, y1, y2, y3, y4, y5, y6, n, rfl, by simpa using hx.1, by simpa using hx.2, by simpa [Value.cells, o0, k0] using hg 0 f0 rfl, by simpa [Value.cells, o1, k1] using hg 1 f1 rfl, by simpa [Value.cells, o2, k2] using hg 2 f2 rfl, by simpa [Value.cells, o3, k3] using hg 3 f3 rfl, by simpa [Value.cells, o4, k4] using hg 4 f4 rfl, by simpa [Value.cells, o5, k5] using hg 5 f5 rfl, by simpa [Value.cells, o6, k6] using hg 6 f6 rfl⟩
end
end Go.Proofs.YtemjnppplmankaaGreat
