/- drumlinref26.Order: the best side again and again. -/
import Derived.Test.YtemjnppplmankaaGreatBd21
import Derived.Test.YtemjnppplmankaaGreatBd18
import Derived.Test.YtemjnppplmankaaGreatBd19
import Derived.Test.YtemjnppplmankaaGreatBd14
import Derived.Test.YtemjnppplmankaaGreatBd15
import Derived.Test.YtemjnppplmankaaGreatBd16
set_option linter.unusedVariables false
set_option linter.unusedSimpArgs false
namespace Go.Proofs.YtemjnppplmankaaGreat
open Go.RowKit Go.Shelf
attribute [local go_sem] OvM cell_ovm obj_ovm
attribute [local go_sem] Oper.semAt_some

theorem own3_val {w : World} {t : TypeId} {v : Value} {n : Nat} {xs : List Value} (h : Own w t 3 v n xs) : ∃ a cap, v = .slice a n cap ∧ n ≤ cap ∧ cap ≤ maxLen := by
  rcases h.2 with ⟨rfl, rfl⟩ | ⟨g, cap, cur, rfl, _, _, h1, h2, _⟩
  · exact ⟨none, 0, rfl, Nat.le_refl _, by simp [maxLen]⟩
  · exact ⟨_, cap, rfl, h1, h2⟩
theorem own3_at {w : World} {t : TypeId} {a : Option Addr} {cap n : Nat} {M : List Sd} (h : Own w t 3 (.slice a n cap) n (rowS M)) (hl : M.length = n) (hn : 0 < n) : ∃ g, a = some ⟨g, 0, none⟩ ∧ g < w.heap.size ∧ ∀ x, x < n →
    w.cell? ⟨g, x * 3, none⟩ = some (.int .i64 (gS M x).1) ∧ w.cell? ⟨g, x * 3 + 1, none⟩ = some (.int .i64 (gS M x).2.1) ∧ w.cell? ⟨g, x * 3 + 2, none⟩ = some (.int .i64 (gS M x).2.2) := by
  rcases h.2 with ⟨hv, h0⟩ | ⟨g, cap', cur, hv, _⟩
  · omega
  · simp only [Value.slice.injEq, true_and] at hv
    obtain ⟨rfl, rfl⟩ := hv
    have hs := sides_of_own h hl
    refine ⟨g, rfl, hs.2.2.1, fun x hx => ?_⟩
    have := hs.2.2.2 x (by omega)
    simp only [Nat.zero_add] at this
    exact this
theorem rowS_tk (L : List Sd) : ∀ i : Nat, (rowS L).take (i * 3) = rowS (L.take i) := by
  induction L with
  | nil => intro i; simp [rowS]
  | cons y L ih =>
    intro i
    cases i with
    | zero => simp [rowS]
    | succ i =>
      have e : rowS (y :: L) = cellsS y ++ rowS L := rfl
      rw [e, show (i + 1) * 3 = 3 + i * 3 by omega, List.take_succ_cons, show rowS (y :: L.take i) = cellsS y ++ rowS (L.take i) from rfl, ← ih i]
      exact List.take_length_add_append (l₁ := cellsS y) (l₂ := rowS L) (i * 3)
theorem rowS_dr (L : List Sd) : ∀ i : Nat, (rowS L).drop (i * 3) = rowS (L.drop i) := by
  induction L with
  | nil => intro i; simp [rowS]
  | cons y L ih =>
    intro i
    cases i with
    | zero => simp [rowS]
    | succ i =>
      have e : rowS (y :: L) = cellsS y ++ rowS L := rfl
      rw [e, show (i + 1) * 3 = 3 + i * 3 by omega, List.drop_succ_cons, ← ih i]
      exact List.drop_length_add_append (l₁ := cellsS y) (l₂ := rowS L) (i * 3)
theorem rowS_ap (l m : List Sd) : rowS (l ++ m) = rowS l ++ rowS m := by simp [rowS]
theorem nil_or {X : IX} {c : Cfg} {l : List Int} {policy next k : Int} {w w' : World} (hk : vCode X c l next (polB26 policy) = k) (h0 : k ≠ 0) (g : Gr w w') : OrP X c l policy next w (.returned (.tuple #[.slice none 0 0, .int .i64 k])) w' :=
  ⟨_, [], by rw [hk], fun h => absurd (hk.symm.trans h) h0, fun _ => rfl, Nw.nil2 g, g⟩
/-- What is known where nothing is refused. -/
structure VGood (X : IX) (c : Cfg) (l : List Int) (policy next : Int) : Prop where
  p : policy = 1 ∨ policy = 2
  ok : cfgOk c = true
  ck : ∀ x ∈ sidesL X next l, chkS (c.size - 16) x = true
  nd : l.Nodup
  e : vSides X c l next true = sidesL X next l
theorem vgood {X : IX} {c : Cfg} {l : List Int} {policy next : Int} (hp : polB26 policy = true) (h : vCode X c l next true = 0) : VGood X c l policy next := by
  have h0 : vchkC X.slots.length c l next true = 0 := by
    unfold vCode at h
    split at h
    · assumption
    · exact h
  have h1 : sidesC X next (c.size - 16) l = 0 := by unfold vCode at h; rwa [if_pos h0] at h
  obtain ⟨a1, a2, a3, a4, a5⟩ := vcode_ok h0 h1
  exact ⟨pol26 hp, (argC_ok (vchk_ok h0).1).1, a1, a2, by unfold vSides; rw [if_pos h0, a5]⟩
theorem VGood.tot {X : IX} {c : Cfg} {l : List Int} {policy next : Int} (h : VGood X c l policy next) : Tot (polS policy (c.size - 16)) (sidesL X next l) := pol_tot h.p h.ck (by rw [sidesL_slots]; exact h.nd)
theorem infoNn : (Tryz.prog.info? 3).map (fun i => (i.zero, i.size, i.bytes)) = some (some (.int .i64 0), 1, 8) := by kernel_rfl
set_option maxRecDepth 40000 in
set_option maxHeartbeats 16000000 in
theorem rOrder26 {w : World} {p : Option Addr} {X : IX} (h : RP w p X) (hne : X.slots ≠ []) (c : Cfg) (a : Option Addr) (len cap : Nat) (l : List Int) (hl : l.length = len) (hle : len ≤ cap) (hcap : cap ≤ maxLen) (h100 : len ≤ 100) (hs : NumAt w a l) (policy next : Int) :
    Calls Tryz.prog 12 #[.pointer p, cfgV c, .slice a len cap, .int .i64 policy, .int .i64 next] w (OrP X c l policy next w) := by
  have HRM := Lib.hid (fun (w : World) => rRoom17 c w)
  have hn32 : X.slots.length ≤ 32 := h.ok.n
  have hn0 : X.slots.length ≠ 0 := fun h0 => hne (List.eq_nil_of_length_eq_zero h0)
  have HSL := Lib.hid (fun (w' : World) (g : Gr w w') => rpSlots (h.gr g))
  have HSD := Lib.hid (fun (w1 : World) (g : Gr w w1) => rSides26 (h.gr g) hne c a len cap l hl hle hcap h100 (hs.gr g) next)
  have HBAD : Hid (polB26 policy = false → ∀ w', Gr w w' → OrP X c l policy next w (.returned (.tuple #[.slice none 0 0, .int .i64 2])) w') := Lib.hid (fun h1 w' g => nil_or (by
    rw [h1]
    have : vchkC X.slots.length c l next false = 2 := if_pos (by unfold argC; simp)
    unfold vCode
    rw [if_neg (by rw [this]; decide), this]) (by decide) g)
  have HERR : Hid (polB26 policy = true → vCode X c l next true ≠ 0 → ∀ w', Gr w w' → OrP X c l policy next w (.returned (.tuple #[.slice none 0 0, .int .i64 (vCode X c l next true)])) w') := Lib.hid (fun h1 h2 w' g => nil_or (by rw [h1]) h2 g)
  have HEND : Hid (polB26 policy = true → vCode X c l next true = 0 → ∀ v D w', SelO (polS policy (c.size - 16)) (sidesL X next l) D [] → Nw w w' 3 1 v D.length (kN (D.map (·.1))) → Gr w w' → OrP X c l policy next w (.returned (.tuple #[v, .int .i64 0])) w') := Lib.hid (fun h1 h2 v D w' h3 h4 g => by
    have e : vCode X c l next (polB26 policy) = 0 := by rw [h1]; exact h2
    exact ⟨v, D, by rw [e], fun _ => ⟨h3.done.1, h3.done.2⟩, fun hh => absurd e hh, h4, g⟩)
  have HVG := Lib.hid (@vgood X c l policy next)
  have HPB : Hid (polB26 policy = (decide (policy = 1) || decide (policy = 2))) := Lib.hid rfl
  have HLEN := Lib.hid (sidesL_len X next l)
  rw [hl] at HLEN
  generalize OrP X c l policy next w = Q at *
  obtain ⟨n, hn⟩ : ∃ n, n = X.slots.length := ⟨_, rfl⟩
  rw [← hn] at hn32 hn0 HSL
  obtain ⟨vc, hvc⟩ : ∃ vc, vc = vCode X c l next true := ⟨_, rfl⟩
  have HVC := Lib.hid hvc
  rw [← hvc] at HERR HEND HVG
  obtain ⟨pb, hpb⟩ : ∃ pb, pb = polB26 policy := ⟨_, rfl⟩
  rw [← hpb] at HBAD HERR HEND HVG HPB
  clear h hs hne hn hvc hl hpb
  unfold maxLen at hcap
  obtain ⟨i0, hi, hz0, hz1, hz2⟩ := info_parts infoRd
  obtain ⟨j0, hj, hy0, hy1, hy2⟩ := info_parts infoNn
  have HCF : Hid (∃ sz, sz = c.size - 16) := Lib.hid ⟨_, rfl⟩
  obtain ⟨c0, c1, c2, c3, c4, c5, c6⟩ := c
  simp only [cfgV] at HRM HSD ⊢
  simp only at HEND
  go_enter Tryz.func12, Tryz.ntmps12
  go_upto_region 1 with fail
  obtain ⟨b0, hb0⟩ : ∃ q, q = w.heap.size := ⟨_, rfl⟩
  obtain ⟨w0, hw0⟩ : ∃ y, y = w.alloc (cfgO ⟨c0, c1, c2, c3, c4, c5, c6⟩) := ⟨_, rfl⟩
  have H0 : Hid (SW w [blkA b0 (cfgO ⟨c0, c1, c2, c3, c4, c5, c6⟩)] w0) := Lib.hid (by rw [hw0, hb0]; exact (SW.start w).alloc _)
  (try simp only [cfgO] at hw0)
  rw [← hw0, ← hb0]
  clear hw0 hb0
  have hnz : (0 : Int) < (n : Int) := by omega
  by_cases hnp : ¬ (policy = 1 ∨ policy = 2)
  · have hp1 : (policy != 1) = true := by simp; omega
    have hp2 : (policy != 2) = true := by simp; omega
    have hp1' : ¬ policy = 1 := by omega
    have hp2' : ¬ policy = 2 := by omega
    have HE := Lib.hid (HBAD.out (by rw [HPB.out]; simp; omega) w0 H0.out.g)
    go_wp2_with (go_at_call 23; refine Calls.mono (HSL.out _ H0.out.g) ?_; rintro e w1 ⟨rfl, rfl⟩)
    exact HE.out
  have hpp : policy = 1 ∨ policy = 2 := by omega
  have hpb : pb = true := by rw [HPB.out]; simp; omega
  have HPP := Lib.hid hpp
  clear hnp
  go_cut [31] (fun t31 wx => t31 = .bool false ∧ wx = w0)
  case first =>
    have hp1 : (1 : Int) != 2 := by decide
    have hp2 : (2 : Int) != 1 := by decide
    rcases hpp with rfl | rfl
    all_goals
      go_wp2_with (go_at_call 23; refine Calls.mono (HSL.out _ H0.out.g) ?_; rintro e w1 ⟨rfl, rfl⟩)
      go_meet
      exact ⟨rfl, rfl⟩
  case rest =>
    obtain ⟨rfl, hwc⟩ := hcut
    subst hwc
    clear hpp
    have d0 := (cellsOf (show wc.heap[b0]? = _ from H0.out.get (i := 0) rfl)).1
    (try simp only [cfgO] at d0)
    go_wp2_with fail
    refine Calls.mono (HSD.out _ H0.out.g) ?_
    rintro e w2 ⟨v, rfl, hv, hg⟩
    rw [← HVC.out]
    have H2 := Lib.hid (H0.out.gr hg)
    have HV := Lib.hid hv
    clear d0 hg hv HSD
    by_cases hvc : ¬ vc = 0
    · have hvb : (vc != 0) = true := by simp [hvc]
      have HE := Lib.hid (HERR.out hpb hvc w2 H2.out.g)
      go_wp2_with fail
      exact HE.out
    have hvc0 : vc = 0 := by omega
    have hvb : (vc != 0) = false := by simp [hvc0]
    have HG := Lib.hid (HVG.out hpb hvc0)
    have HE := Lib.hid (HEND.out hpb hvc0)
    have HV2 : Hid (Nw w w2 45 3 v (sidesL X next l).length (rowS (sidesL X next l))) := Lib.hid (by
      have h1 := HG.out.e
      have h2 := HV.out
      rw [h1] at h2
      exact ⟨h2.own, fun q hq => Nat.le_trans H0.out.g.sz (h2.new q hq)⟩)
    have HT := Lib.hid HG.out.tot
    have HND : Hid (((sidesL X next l).map (·.1)).Nodup) := Lib.hid (by rw [sidesL_slots]; exact HG.out.nd)
    have HCK := Lib.hid HG.out.ck
    have HOK : Hid (cfgOk ⟨c0, c1, c2, c3, c4, c5, c6⟩ = true) := Lib.hid HG.out.ok
    have HCM : Hid (∀ x ∈ sidesL X next l, ∀ y ∈ sidesL X next l, cmpC policy x.1 x.2.1 x.2.2 y.1 y.2.1 y.2.2 (c1 - 16) = polS policy (c1 - 16) x y) := Lib.hid (fun x hx y hy => cmpC_of HPP.out (HCK.out x hx) (HCK.out y hy))
    clear HERR HEND HVG HBAD HPB hpb HG HVC HV hvc
    subst hvc0
    generalize sidesL X next l = S at *
    have HSP : Hid (S.length ≤ 100) := Lib.hid (by rw [HLEN.out]; exact h100)
    have d0 := (cellsOf (show w2.heap[b0]? = _ from H2.out.get (i := 0) rfl)).1
    (try simp only [cfgO] at d0)
    go_wp2_with fail
    refine Calls.mono (HRM.out _) ?_
    rintro e w3 ⟨rfl, hg⟩
    rw [if_pos HOK.out, if_pos HOK.out]
    have HW3 := Lib.hid (H2.out.g.trans hg)
    have HV3 := Lib.hid (HV2.out.gr hg)
    clear d0 hg HV2 H2 H0 HRM
    generalize polS policy (c1 - 16) = f at *
    go_wp2_with fail
    go_loopw [12, 16] (fun t12 t16 wx => ∃ (D L : List Sd) (v12 v16 : Value), v12 = t12 ∧ v16 = t16 ∧ Hid (Nw w wx 45 3 v12 L.length (rowS L) ∧ Nw w wx 3 1 v16 D.length (kN (D.map (·.1))) ∧ Gr w wx ∧ (∀ q, v16.ownBlock = some q → v12.ownBlock ≠ some q) ∧ SelO f S D L)) (fun t12 _ _ => match t12 with | .slice _ m _ => m | _ => 0)
    case atStart => exact ⟨[], S, _, _, rfl, rfl, Lib.hid ⟨HV3.out, Nw.nil2 HW3.out, HW3.out, (fun q hq => by cases hq), SelO.start⟩⟩
    case round =>
      obtain ⟨D, L, v12, v16, rfl, rfl, HI⟩ := hrel
      obtain ⟨a6, c6', rfl, hc6, hm6⟩ := own3_val HI.out.1.own
      have hm62 := hm6
      unfold maxLen at hm62
      have hLS : L.length ≤ 100 ∧ D.length ≤ 100 := by have := HI.out.2.2.2.2.len; have := HSP.out; omega
      obtain ⟨hL100, hD100⟩ := hLS
      by_cases hl0 : L.length = 0
      · have hLn : L = [] := List.eq_nil_of_length_eq_zero hl0
        subst hLn
        have HE2 := Lib.hid (HE.out v16 D wr HI.out.2.2.2.2 HI.out.2.1 HI.out.2.2.1)
        have hz : ¬ (0 : Int) < (([] : List Sd).length : Int) := by simp
        go_wp2_with fail
        exact HE2.out
      · have hz : (0 : Int) < L.length := by omega
        obtain ⟨g1, rfl, hg1, hat⟩ := own3_at HI.out.1.own rfl (by omega)
        have HAT := Lib.hid hat
        have HG1 := Lib.hid hg1
        have HSUB : Hid (∀ x, x < L.length → gS L x ∈ S) := Lib.hid (fun x hx => HI.out.2.2.2.2.pm.mem_iff.1 (List.mem_append_right _ (gS_mem hx)))
        clear hat hg1
        go_wp2_with fail
        generalize decide (0 < L.length) = B50
        go_loopw [17, 18] (fun t17 t18 wx => ∃ i bi : Nat, 1 ≤ i ∧ i ≤ L.length ∧ bi < L.length ∧ t17 = .int .i64 bi ∧ t18 = .int .i64 i ∧ Hid (BsI f L i bi ∧ Gr wr wx)) (fun _ t18 _ => L.length - (intOf t18).toNat)
        case atStart => exact ⟨1, 0, by omega, by omega, by omega, by go_num, by go_num, Lib.hid ⟨BsI.start (by omega), Gr.refl _⟩⟩
        case round =>
          clear hz
          obtain ⟨i2, bi, hi1, hi2, hbi, rfl, rfl, HS⟩ := hrel
          by_cases hlt2 : i2 < L.length
          · have hlt2' : (i2 : Int) < L.length := by omega
            have hbi' : (bi : Int) < L.length := by omega
            obtain ⟨y0, y1, y2⟩ := HAT.out i2 hlt2
            obtain ⟨z0, z1, z2⟩ := HAT.out bi hbi
            have e0 := HS.out.2.keep y0
            have e1 := HS.out.2.keep y1
            have e2 := HS.out.2.keep y2
            have x0 := HS.out.2.keep z0
            have x1 := HS.out.2.keep z1
            have x2 := HS.out.2.keep z2
            have HNO := Lib.hid (fun h => HS.out.1.no hi1 h)
            have HYE := Lib.hid (fun h => HS.out.1.yes hi1 hlt2 h)
            have HCC := Lib.hid (HCM.out _ (HSUB.out i2 hlt2) _ (HSUB.out bi hbi))
            clear y0 y1 y2 z0 z1 z2
            obtain ⟨r, hr⟩ : ∃ r, r = f (gS L i2) (gS L bi) := ⟨_, rfl⟩
            rw [← hr] at HNO HYE HCC
            clear hr
            generalize gS L i2 = y at *
            generalize gS L bi = x at *
            obtain ⟨ya, yb, yc⟩ := y
            obtain ⟨xa, xb, xc⟩ := x
            simp only at e0 e1 e2 x0 x1 x2 HCC
            go_wp2_with fail
            refine wp_region_flo (fun _ => False) [] [] (by kernel_rfl) (by kernel_rfl) (fun _ h => h.elim) ?_
            refine flo_seg 10 rfl ?_
            simp only [List.take_succ_cons, List.take_zero, List.drop_succ_cons, List.drop_zero]
            repeat (go_big_quiet_step (fail))
            refine wpQuiet_nil ?_
            refine flo_eff rfl rfl rfl rfl (fun K hK => ?_)
            go_wp2_with ((go_at_call 33; refine (refCompare_any _ _ _ _ _ _ _ _ _).mono ?_; rintro e wq ⟨rfl, hgq⟩; rw [HCC.out]; have HGQ := Lib.hid hgq; clear hgq))
            refine ⟨by exact HGQ.out.mdh _, ?_⟩
            refine flo_seg 5 rfl ?_
            simp only [List.take_succ_cons, List.take_zero, List.drop_succ_cons, List.drop_zero]
            repeat (go_big_quiet_step (fail))
            refine wpQuiet_nil ?_
            refine flo_nil ?_
            have HGW := Lib.hid (HS.out.2.trans ((Gr.refl wr).drew.trans HGQ.out))
            by_cases hr0 : r < 0
            · have HN2 := Lib.hid (HYE.out hr0)
              have hrb : decide (r < 0) = true := decide_eq_true hr0
              go_wp2_with fail
              go_roundw
              case rel => exact ⟨i2 + 1, i2, by omega, by omega, by omega, rfl, by go_num, Lib.hid ⟨HN2.out, HGW.out⟩⟩
              case measure => simp [intOf]; omega
            · have HN2 := Lib.hid (HNO.out (by omega))
              have hrb : decide (r < 0) = false := decide_eq_false hr0
              go_wp2_with fail
              go_roundw
              case rel => exact ⟨i2 + 1, bi, by omega, by omega, by omega, rfl, by go_num, Lib.hid ⟨HN2.out, HGW.out⟩⟩
              case measure => simp [intOf]; omega
          · have hlt2' : ¬ (i2 : Int) < L.length := by omega
            obtain rfl : i2 = L.length := by omega
            have hbi' : (bi : Int) < L.length := by omega
            have HMIN : Hid (IsMin f L (gS L bi)) := Lib.hid (HS.out.1.fin HT.out (fun x hx => HI.out.2.2.2.2.pm.mem_iff.1 (List.mem_append_right _ hx)))
            have HSL2 : Hid (SelO f S (D ++ [gS L bi]) (L.take bi ++ L.drop (bi + 1))) := Lib.hid (HI.out.2.2.2.2.step HND.out hbi HMIN.out)
            obtain ⟨z0, z1, z2⟩ := HAT.out bi hbi
            have x0 := HS.out.2.keep z0
            obtain ⟨s, hs⟩ : ∃ s, s = (gS L bi).1 := ⟨_, rfl⟩
            have HSS := Lib.hid hs
            rw [← hs] at x0
            clear z0 z1 z2 hs HMIN
            go_wp2_with (first
              | (at_builtin; go_must (refine wpList_appv _ rfl (.tmp 74) (.tmp 80) 25 rfl 3 j0 _ 1 8 Tryz.underlying25 hj hy0 hy1 hy2 rfl (by decide) v16 D.length (kN (D.map (·.1))) rfl ((HI.out.2.1.own.gr HS.out.2).gr (by (repeat (first | (with_reducible exact Gr.refl _) | assumption | (with_reducible apply Gr.from_drew) | (with_reducible apply Gr.alloc) | (with_reducible apply Gr.drew) | (with_reducible refine Gr.trans ?_ (by assumption)) | (with_reducible refine Gr.setCell ?_ (by omega) _))))) (some ⟨wr.heap.size, 0, none⟩) 1 1 [.int .i64 s] rfl (src_newK wr [.int .i64 s] _ 1 rfl (by simp [Value.oneCell'])) (by simp only [maxLen]; omega) (by omega) ?_); intro v7 w5 hA; have N5 := Lib.hid (hA.nw ((HI.out.2.1.gr HS.out.2).gr ((Gr.refl wr).alloc _)) (by have h1 := HI.out.2.2.1.sz; have h2 := HS.out.2.sz; simp; omega)); have HG5 := Lib.hid (hA.gw ((HI.out.2.1.gr HS.out.2).gr ((Gr.refl wr).alloc _)) ((HI.out.2.2.1.trans HS.out.2).alloc _)); have HL5 := Lib.hid (((HI.out.1.gr HS.out.2).gr ((Gr.refl wr).alloc _)).mdh (hA.mdh (S := fun q => v16.ownBlock = some q) (fun g h => h)) (fun q hq hs => HI.out.2.2.2.1 q hs hq)); clear hA)
              | fail)
            have hel : (L.take bi ++ L.drop (bi + 1)).length = bi + (L.length - (bi + 1)) := by rw [List.length_append, List.length_take, List.length_drop]; omega
            have HEL := Lib.hid hel
            obtain ⟨V, hV⟩ : ∃ V, V = Value.slice (some ⟨g1, 0, none⟩) L.length c6' := ⟨_, rfl⟩
            rw [← hV] at HL5 ⊢
            obtain ⟨z1, n1, s1, src1, _⟩ := slice_take Tryz.underlying40 hi hz1 HL5.out.own (rowS_one L) (i := bi) (by omega)
            obtain ⟨z2, n2, s2', src2, _⟩ := slice_drop Tryz.underlying40 hi hz1 HL5.out.own (rowS_one L) (i := bi + 1) (by omega)
            have s2 : ∀ w' : World, (Instr.slice 40 V (some (.int .i64 ((bi : Int) + 1))) none none).run Tryz.prog w' = .ok (.slice z2 (L.length - (bi + 1)) n2) w' := fun w' => by rw [show ((bi : Int) + 1) = ((bi + 1 : Nat) : Int) by omega]; exact s2' w'
            rw [rowS_tk] at src1
            rw [rowS_dr] at src2
            have SRC := Lib.hid (And.intro src1 src2)
            clear hel hV src1 src2 s2' x0
            have hib : (bi : Int) ≤ 1000 := by omega
            have hle3 : L.length ≤ 1000 := by omega
            go_wp2_with fail
            refine wp_region_flo (fun _ => False) [] [] (by kernel_rfl) (by kernel_rfl) (fun _ h => h.elim) ?_
            refine flo_eff rfl rfl rfl rfl (fun K hK => ?_)
            go_wp2
            refine ⟨by (first | (refine Gr.mdh ?_ _; (repeat (first | (with_reducible exact Gr.refl _) | assumption | (with_reducible apply Gr.from_drew) | (with_reducible apply Gr.alloc) | (with_reducible apply Gr.drew) | (with_reducible refine Gr.trans ?_ (by assumption)) | (with_reducible refine Gr.setCell ?_ (by omega) _))); done) | (repeat (first | (with_reducible exact Mdh.refl _ _) | (with_reducible refine Mdh.setCell ?_ (by simp) _) | (with_reducible refine Mdh.setNew ?_ (by simp) _) | (with_reducible apply Mdh.alloc) | (with_reducible apply Mdh.from_drew) | (with_reducible apply Mdh.drew) | (with_reducible refine Mdh.gr ?_ (by assumption))))), ?_⟩
            refine flo_seg 3 rfl ?_
            simp only [List.take_succ_cons, List.take_zero, List.drop_succ_cons, List.drop_zero]
            repeat (go_big_quiet_step (fail))
            refine wpQuiet_nil ?_
            refine flo_eff rfl rfl rfl rfl (fun K hK => ?_)
            refine wp_appv _ (.tmp 82) (.tmp 85) 40 rfl 45 i0 _ 3 24 Tryz.underlying40 hi hz0 hz1 hz2 rfl (by decide) (.slice (some ⟨w5.heap.size, 0, none⟩) 0 0) 0 [] rfl ((Nw.made (w0 := w5) (w := w5) (Nat.le_refl _)).own.gr (by (repeat (first | (with_reducible exact Gr.refl _) | assumption | (with_reducible apply Gr.from_drew) | (with_reducible apply Gr.alloc) | (with_reducible apply Gr.drew) | (with_reducible refine Gr.trans ?_ (by assumption)) | (with_reducible refine Gr.setCell ?_ (by omega) _))))) z1 bi _ (rowS (L.take bi)) rfl (SRC.out.1.gr (by (repeat (first | (with_reducible exact Gr.refl _) | assumption | (with_reducible apply Gr.from_drew) | (with_reducible apply Gr.alloc) | (with_reducible apply Gr.drew) | (with_reducible refine Gr.trans ?_ (by assumption)) | (with_reducible refine Gr.setCell ?_ (by omega) _))))) (by simp only [maxLen]; omega) (by omega) (fun k3 xa hk3 => ?_); rw [Nat.zero_add, List.nil_append] at hk3; (have n3 := hk3.nw (w0 := w5) ((Nw.made (w0 := w5) (w := w5) (e := 45) (K := 3) (Nat.le_refl _)).gr (by (repeat (first | (with_reducible exact Gr.refl _) | assumption | (with_reducible apply Gr.from_drew) | (with_reducible apply Gr.alloc) | (with_reducible apply Gr.drew) | (with_reducible refine Gr.trans ?_ (by assumption)) | (with_reducible refine Gr.setCell ?_ (by omega) _))))) (Gr.sz (by (repeat (first | (with_reducible exact Gr.refl _) | assumption | (with_reducible apply Gr.from_drew) | (with_reducible apply Gr.alloc) | (with_reducible apply Gr.drew) | (with_reducible refine Gr.trans ?_ (by assumption)) | (with_reducible refine Gr.setCell ?_ (by omega) _)))))); (have m3 := hk3.gw (w0 := w5) ((Nw.made (w0 := w5) (w := w5) (e := 45) (K := 3) (Nat.le_refl _)).gr (by (repeat (first | (with_reducible exact Gr.refl _) | assumption | (with_reducible apply Gr.from_drew) | (with_reducible apply Gr.alloc) | (with_reducible apply Gr.drew) | (with_reducible refine Gr.trans ?_ (by assumption)) | (with_reducible refine Gr.setCell ?_ (by omega) _))))) (by (repeat (first | (with_reducible exact Gr.refl _) | assumption | (with_reducible apply Gr.from_drew) | (with_reducible apply Gr.alloc) | (with_reducible apply Gr.drew) | (with_reducible refine Gr.trans ?_ (by assumption)) | (with_reducible refine Gr.setCell ?_ (by omega) _))))); refine hK _ _ ⟨hk3.mdh (fun q hq => by rw [ownB hq]; right; right; exact ⟨Nat.le_refl _, by simp⟩), ?_⟩; simp only [Act.put, List.setIfInBounds_toArray, List.set_cons_succ, List.set_cons_zero]
            refine flo_seg 4 rfl ?_
            simp only [List.take_succ_cons, List.take_zero, List.drop_succ_cons, List.drop_zero]
            repeat (go_big_quiet_step (fail))
            refine wpQuiet_nil ?_
            refine flo_eff rfl rfl rfl rfl (fun K hK => ?_)
            refine wp_appv _ (.tmp 86) (.tmp 90) 40 rfl 45 i0 _ 3 24 Tryz.underlying40 hi hz0 hz1 hz2 rfl (by decide) k3 bi (rowS (L.take bi)) rfl hk3.1 z2 (L.length - (bi + 1)) _ (rowS (L.drop (bi + 1))) rfl (SRC.out.2.gr m3) (by simp only [maxLen]; omega) (by omega) (fun k5 xb hk5 => ?_); obtain ⟨a5, c5', rfl⟩ := hk5.val; refine hK _ _ ⟨hk5.mdh (fun q hq => (hk3.2.1 q hq).elim (fun h => by rw [ownB h]; exact .inr (.inl (.inr ⟨Nat.le_refl _, by simp⟩))) (fun h => .inr (.inr ⟨h, hk3.1.lt hq⟩))), ?_⟩; simp only [Act.put, List.setIfInBounds_toArray, List.set_cons_succ, List.set_cons_zero]
            refine flo_seg 1 rfl ?_
            simp only [List.take_succ_cons, List.take_zero, List.drop_succ_cons, List.drop_zero]
            repeat (go_big_quiet_step (fail))
            refine wpQuiet_nil ?_
            refine flo_nil ?_
            have n5 := hk5.nw n3 m3.sz
            have m5 := hk5.gw n3 m3
            rw [← rowS_ap] at n5
            have hsm : bi + (L.length - (bi + 1)) < L.length := by omega
            have HNN : Hid (Nw w xb 45 3 (.slice a5 (bi + (L.length - (bi + 1))) c5') (L.take bi ++ L.drop (bi + 1)).length (rowS (L.take bi ++ L.drop (bi + 1)))) := Lib.hid (by rw [HEL.out]; exact ⟨n5.own, fun q hq => Nat.le_trans HG5.out.sz (n5.new q hq)⟩)
            have HNE : Hid (∀ q, v7.ownBlock = some q → (Value.slice a5 (bi + (L.length - (bi + 1))) c5').ownBlock ≠ some q) := Lib.hid (fun q hq hs => absurd (n5.new q hs) (Nat.not_le.2 (N5.out.own.lt hq)))
            have HM5 := Lib.hid m5
            clear hk3 hk5 n3 m3 n5 m5 s1 s2 SRC
            go_wp2_with fail
            exact ⟨⟨D ++ [gS L bi], L.take bi ++ L.drop (bi + 1), _, v7, rfl, rfl, Lib.hid ⟨HNN.out, by rw [List.length_append, List.map_append, List.map_cons, List.map_nil, ← HSS.out, kN_snoc]; exact N5.out.gr HM5.out, HG5.out.trans HM5.out, HNE.out, HSL2.out⟩⟩, hsm⟩
end Go.Proofs.YtemjnppplmankaaGreat

/- drumlinref26.Choose. -/
set_option linter.unusedVariables false
set_option linter.unusedSimpArgs false
namespace Go.Proofs.YtemjnppplmankaaGreat
open Go.RowKit Go.Shelf
attribute [local go_sem] OvM cell_ovm obj_ovm
attribute [local go_sem] Oper.semAt_some

theorem vgood' {X : IX} {c : Cfg} {l : List Int} {policy next : Int} (h : vCode X c l next (polB26 policy) = 0) : VGood X c l policy next := by
  have hp : polB26 policy = true := by
    cases hb : polB26 policy with
    | true => rfl
    | false =>
      rw [hb] at h
      have : vchkC X.slots.length c l next false = 2 := if_pos (by unfold argC; simp)
      unfold vCode at h
      rw [if_neg (by rw [this]; decide), this] at h
      cases h
  exact vgood hp (by rw [hp] at h; exact h)
theorem chP_no {X : IX} {c : Cfg} {l : List Int} {policy next vc : Int} {w w' : World} (hv : vCode X c l next (polB26 policy) = vc) (h : vc ≠ 0) (g : Gr w w') : ChP X c l policy next w (.returned (.tuple #[.int .i64 0, .bool false, .int .i64 vc])) w' :=
  ⟨zSd, false, by rw [hv]; rfl, fun h0 => absurd (hv.symm.trans h0) h, fun _ => ⟨rfl, rfl⟩, g⟩
theorem chP_yes {X : IX} {c : Cfg} {l : List Int} {policy next : Int} {M : List Sd} {w w' : World} (hv : vCode X c l next (polB26 policy) = 0) (hM : OrdS policy (c.size - 16) (sidesL X next l) M) (g : Gr w w') : ChP X c l policy next w (.returned (.tuple #[.int .i64 (M.headD zSd).1, .bool (!M.isEmpty), .int .i64 0])) w' := by
  have hg := vgood' hv
  exact ⟨M.headD zSd, !M.isEmpty, by rw [hv], fun _ => ord_best hg.p (cfg_room hg.ok) (by rw [sidesL_slots]; exact hg.nd) hg.ck hM, fun h0 => absurd hv h0, g⟩
set_option maxRecDepth 40000 in
set_option maxHeartbeats 8000000 in
theorem rChoose26 {w : World} {p : Option Addr} {X : IX} (h : RP w p X) (hne : X.slots ≠ []) (c : Cfg) (a : Option Addr) (len cap : Nat) (l : List Int) (hl : l.length = len) (hle : len ≤ cap) (hcap : cap ≤ maxLen) (h100 : len ≤ 100) (hs : NumAt w a l) (policy next : Int) :
    Calls Tryz.prog 10 #[.pointer p, cfgV c, .slice a len cap, .int .i64 policy, .int .i64 next] w (ChP X c l policy next w) := by
  have HOR := Lib.hid (fun (w1 : World) (g : Gr w w1) => rOrder26 (h.gr g) hne c a len cap l hl hle hcap h100 (hs.gr g) policy next)
  have HNO := Lib.hid (fun vc (hv : vCode X c l next (polB26 policy) = vc) (h0 : vc ≠ 0) w' (g : Gr w w') => chP_no hv h0 g)
  have HYE := Lib.hid (fun (hv : vCode X c l next (polB26 policy) = 0) M (hM : OrdS policy (c.size - 16) (sidesL X next l) M) w' (g : Gr w w') => chP_yes hv hM g)
  obtain ⟨vc, hvc⟩ : ∃ vc, vc = vCode X c l next (polB26 policy) := ⟨_, rfl⟩
  have HVC := Lib.hid hvc
  have HO2 : Hid (∀ w1, Gr w w1 → Calls Tryz.prog 12 #[.pointer p, cfgV c, .slice a len cap, .int .i64 policy, .int .i64 next] w1 fun e w' => ∃ (v : Value) (M : List Sd), e = .returned (.tuple #[v, .int .i64 vc]) ∧ (vc = 0 → OrdS policy (c.size - 16) (sidesL X next l) M) ∧ Own w' 3 1 v (M.map (·.1)).length (kN (M.map (·.1))) ∧ Gr w1 w') := Lib.hid (fun w1 g => (HOR.out w1 g).mono (by
    rintro e w' ⟨v, M, rfl, h1, _, h3, h4⟩
    exact ⟨v, M, by rw [hvc], fun h0 => h1 (by rw [← hvc]; exact h0), by rw [List.length_map]; exact h3.own, h4⟩))
  have HQN : Hid (vc ≠ 0 → ∀ w', Gr w w' → ChP X c l policy next w (.returned (.tuple #[.int .i64 0, .bool false, .int .i64 vc])) w') := Lib.hid (HNO.out vc hvc.symm)
  have HQY : Hid (vc = 0 → ∀ M, OrdS policy (c.size - 16) (sidesL X next l) M → ∀ w', Gr w w' → ChP X c l policy next w (.returned (.tuple #[.int .i64 (M.headD zSd).1, .bool (!M.isEmpty), .int .i64 0])) w') := Lib.hid (fun h0 => HYE.out (hvc.symm.trans h0))
  generalize ChP X c l policy next w = Q at *
  clear h hs hne hl hvc HVC HNO HYE HOR
  unfold maxLen at hcap
  obtain ⟨c0, c1, c2, c3, c4, c5, c6⟩ := c
  simp only [cfgV] at HO2 ⊢
  simp only at HQY
  go_enter Tryz.func10, Tryz.ntmps10
  go_upto_region 1 with fail
  obtain ⟨b0, hb0⟩ : ∃ q, q = w.heap.size := ⟨_, rfl⟩
  obtain ⟨w0, hw0⟩ : ∃ y, y = w.alloc (cfgO ⟨c0, c1, c2, c3, c4, c5, c6⟩) := ⟨_, rfl⟩
  have H0 : Hid (SW w [blkA b0 (cfgO ⟨c0, c1, c2, c3, c4, c5, c6⟩)] w0) := Lib.hid (by rw [hw0, hb0]; exact (SW.start w).alloc _)
  (try simp only [cfgO] at hw0)
  rw [← hw0, ← hb0]
  clear hw0 hb0
  have d0 := (cellsOf (show w0.heap[b0]? = _ from H0.out.get (i := 0) rfl)).1
  (try simp only [cfgO] at d0)
  go_wp2_with fail
  refine Calls.mono (HO2.out _ H0.out.g) ?_
  rintro e w1 ⟨v, M, rfl, hM, hown, hg⟩
  have HG := Lib.hid (H0.out.g.trans hg)
  have HM := Lib.hid hM
  have HOW := Lib.hid hown
  clear d0 hM hown hg HO2
  by_cases hvc : ¬ vc = 0
  · have hvb : (vc != 0) = true := by simp [hvc]
    have HE := Lib.hid (HQN.out hvc w1 HG.out)
    go_wp2_with fail
    go_ret3
    exact HE.out
  have hvc0 : vc = 0 := by omega
  subst hvc0
  have HE := Lib.hid (HQY.out rfl M (HM.out rfl) w1 HG.out)
  obtain ⟨av, cv, rfl, hcv, hcm, hat⟩ := ownN_at HOW.out
  unfold maxLen at hcm
  cases M with
  | nil =>
    clear hvc hat
    go_wp2_with fail
    go_ret3
    exact HE.out
  | cons x M =>
    obtain ⟨g, rfl, hg, _, z0⟩ := hat 0 x.1 (by simp)
    have hm0 : 0 < (List.map (fun x => x.1) (x :: M)).length := by simp
    have HE2 : Hid (Q (.returned (.tuple #[.int .i64 x.1, .bool true, .int .i64 0])) w1) := Lib.hid HE.out
    generalize (List.map (fun x => x.1) (x :: M)).length = m at *
    have hb : ((m : Int) == 0) = false := beq_false_of_ne (by omega)
    have hm1 : (0 : Int) < m := by omega
    clear hvc hat HE HM HOW
    generalize x.1 = x1 at *
    go_wp2_with fail
    go_ret3
    exact HE2.out
end Go.Proofs.YtemjnppplmankaaGreat

/- VictimChooses, plain: what the two sides answer is one thing. -/
set_option linter.unusedVariables false
set_option linter.unusedSimpArgs false
namespace Go.Proofs.YtemjnppplmankaaGreat
open Go.RowKit

theorem nod_bd : ∀ (n : Nat) (l : List Int), l.Nodup → (∀ s ∈ l, 0 ≤ s ∧ s < n) → l.length ≤ n
  | 0, l, _, h => by
    cases l with
    | nil => simp
    | cons x l => have := h x (by simp); omega
  | n + 1, l, hd, h => by
    have h1 := nod_bd n (l.erase (n : Int)) (hd.erase _) (fun s hs => by
      obtain ⟨h1, h2⟩ := hd.mem_erase_iff.1 hs
      have := h s h2
      omega)
    rw [List.length_erase] at h1
    split at h1 <;> omega
theorem few {X : IX} {c : Cfg} {l : List Int} {next : Int} {good : Bool} {N : Nat} (hN : X.slots.length ≤ N) : l.length ≤ N ∨ vchkC X.slots.length c l next good ≠ 0 := by
  by_cases h : vchkC X.slots.length c l next good = 0
  · obtain ⟨_, h2, h3⟩ := vchk_ok h
    refine .inl (Nat.le_trans (nod_bd _ l h3 (fun s hs => ?_)) hN)
    have := List.all_eq_true.1 h2 s hs
    unfold okS at this
    simpa using this
  · exact .inr h
theorem ch_same {X : IX} {c : Cfg} {l : List Int} {policy next : Int} {x y : Sd} {a b : Bool}
    (h1 : vCode X c l next (polB26 policy) = 0 → bestA policy (c.size - 16) (sidesL X next l) = bestV x a 0) (h2 : vCode X c l next (polB26 policy) ≠ 0 → x = zSd ∧ a = false)
    (g1 : vCode X c l next (polB26 policy) = 0 → bestA policy (c.size - 16) (sidesL X next l) = bestV y b 0) (g2 : vCode X c l next (polB26 policy) ≠ 0 → y = zSd ∧ b = false) : y = x ∧ b = a := by
  by_cases h : vCode X c l next (polB26 policy) = 0
  · exact bestV_inj ((g1 h).symm.trans (h1 h))
  · obtain ⟨rfl, rfl⟩ := h2 h
    exact g2 h
theorem or_same {X : IX} {c : Cfg} {l : List Int} {policy next : Int} {M M' : List Sd}
    (h1 : vCode X c l next (polB26 policy) = 0 → OrdS policy (c.size - 16) (sidesL X next l) M) (h2 : vCode X c l next (polB26 policy) ≠ 0 → M = [])
    (g1 : vCode X c l next (polB26 policy) = 0 → OrdS policy (c.size - 16) (sidesL X next l) M') (g2 : vCode X c l next (polB26 policy) ≠ 0 → M' = []) : M' = M := by
  by_cases h : vCode X c l next (polB26 policy) = 0
  · exact srt_uniq (vgood' h).tot (g1 h).pm (h1 h).pm (g1 h).s (h1 h).s
  · rw [h2 h, g2 h]
theorem numAt_src {w : World} {a : Option Addr} {l : List Int} {n : Nat} (hn : l.length = n) (h : NumAt w a l) : SrcAt w 1 a n (kN l) := by
  refine ⟨by rw [kN_len]; omega, fun u hu => ?_, ?_⟩
  · unfold kN at hu
    obtain ⟨x, _, rfl⟩ := List.mem_map.1 hu
    rfl
  · by_cases h0 : n = 0
    · exact .inl h0
    · obtain ⟨x, hx⟩ : ∃ x, l[0]? = some x := ⟨_, List.getElem?_eq_getElem (by omega)⟩
      obtain ⟨b, off, rfl, _, _⟩ := h 0 x hx
      refine .inr ⟨_, rfl, fun j u hj => ?_⟩
      unfold kN at hj
      rw [List.getElem?_map] at hj
      obtain ⟨y, hy, rfl⟩ := Option.map_eq_some_iff.1 hj
      obtain ⟨b', off', e, _, hc⟩ := h j y hy
      simp only [Option.some.injEq, Addr.mk.injEq, and_true] at e
      obtain ⟨rfl, rfl⟩ := e
      rw [addr_add]
      exact hc
end Go.Proofs.YtemjnppplmankaaGreat

/- drumlinref21's index: the walk of Add. -/
set_option linter.unusedVariables false
set_option linter.unusedSimpArgs false
namespace Go.Proofs.YtemjnppplmankaaGreat
open Go.RowKit Go.Shelf
attribute [local go_sem] OvM cell_ovm obj_ovm
attribute [local go_sem] Oper.semAt_some

/-- An element of a new block, as a source of an append. -/
theorem src_blk {w : World} {b : Nat} {e : En} {t : TypeId} (h : w.heap[b]? = some (.cells #[.int .i64 e.seq, .string e.key, .bool e.del, .int .i64 e.slot, .int .i64 e.off, .int .i64 e.size] t)) : SrcAt w 6 (some ⟨b, 0, none⟩) 1 (enC e) :=
  ⟨rfl, enC_one e, .inr ⟨_, rfl, fun j u hj => by
    rw [addr_add, Nat.zero_add]
    refine ((cellsOf h).1 j).trans ?_
    rw [← hj, List.getElem?_toArray]
    rfl⟩⟩
abbrev rIx (rb : Nat) (N : Int) (v : Value) (all : List En) (R : List Asn) : List Asn := blkA rb (rmO N v) :: rowA 89 6 v all.length (rowE all) :: R
def RAddP (w0 w : World) (rb : Nat) (N : Int) (all : List En) (R : List Asn) (e : En) (r : Ending) (w' : World) : Prop :=
  r = .returned (.int .i64 (rAddC N all e)) ∧ Mdh (fun k => k = rb) w w' ∧ ∃ v', SW w0 (rIx rb N v' (rAddL N all e) R) w'
theorem rAddP_no {w0 w w' : World} {rb : Nat} {N : Int} {v : Value} {all : List En} {R : List Asn} {e : En} {b : Nat} {o : Obj} {c : Int} (h : SW w0 (blkA b o :: rIx rb N v all R) w') (g : Gr w w') (hc : rAddC N all e = c) (h0 : c ≠ 0) : RAddP w0 w rb N all R e (.returned (.int .i64 c)) w' := by
  refine ⟨ret_int hc.symm, g.mdh _, v, ?_⟩
  unfold rAddL
  rw [hc, if_neg h0]
  exact h.sub (.cons _ (List.Sublist.refl _))
set_option maxRecDepth 40000 in
set_option maxHeartbeats 8000000 in
theorem rAdd {w0 w : World} {rb : Nat} {N : Int} {v : Value} {all : List En} {R : List Asn} (e : En) (h : SW w0 (rIx rb N v all R) w) (hN : 1 ≤ N) (hb : ∀ o ∈ all, 0 ≤ o.off ∧ o.off ≤ 8192 ∧ 0 ≤ o.size ∧ o.size ≤ 8192) (hk : e.key.size ≤ 140737488351232) (hn : all.length ≤ 200) :
    Calls Tryz.prog 72 #[.pointer (some ⟨rb, 0, none⟩), enV e] w (RAddP w0 w rb N all R e) := by
  obtain ⟨i0, hi, hz0, hz1, hz2⟩ := info_parts infoIten
  have H := Lib.hid h
  have HB := Lib.hid hb
  have HVE := Lib.hid (rValid e hk)
  have hN0 : 0 < N := by omega
  obtain ⟨av, cv, rfl, hcv, hmv, _⟩ := ownE_at (show Own w 89 6 v all.length (rowE all) from h.get (i := 1) rfl)
  unfold maxLen at hmv
  have HVI := Lib.hid (valid_iff e)
  have HRC : Hid (rAddC N all e = if e.slot < 0 ∨ N ≤ e.slot then 3 else if validE e = false then 2 else if all.any (rBad e) = true then 2 else if all.any (rHav e) = true then 6 else 0) := Lib.hid rfl
  have HRL : Hid (rAddC N all e = 0 → rAddL N all e = all ++ [e]) := Lib.hid (fun h => if_pos h)
  have HTB := Lib.hid (fun (i : Nat) (x : En) (hx : all[i]? = some x) => rany_snoc (p := rBad e) hx)
  have HTH := Lib.hid (fun (i : Nat) (x : En) (hx : all[i]? = some x) => rany_snoc (p := rHav e) hx)
  have HBE : Hid (∀ x : En, rBad e x = decide (x.seq = e.seq ∧ x.key = e.key ∧ (x.del ≠ e.del ∨ x.size ≠ e.size))) := Lib.hid (fun x => rfl)
  have HHE : Hid (∀ x : En, rHav e x = decide (x.slot = e.slot ∧ ((x.seq = e.seq ∧ x.key = e.key) ∨ (x.off < e.off + e.size ∧ e.off < x.off + x.size)))) := Lib.hid (fun x => rfl)
  have HTK := Lib.hid (fun (i : Nat) => rany_take (p := rBad e) (l := all) (i := i))
  clear h hb hk
  obtain ⟨rB, hrB⟩ : ∃ f, f = rBad e := ⟨_, rfl⟩
  obtain ⟨rH, hrH⟩ : ∃ f, f = rHav e := ⟨_, rfl⟩
  rw [← hrB] at HRC HTB HBE HTK
  rw [← hrH] at HRC HTH HHE
  clear hrB hrH
  obtain ⟨e0, e1, e2, e3, e4, e5⟩ := e
  simp only [enV] at HVE HVI HRC HHE HBE ⊢
  go_enter Tryz.func72, Tryz.ntmps72
  go_upto_region 1 with fail
  obtain ⟨b3, hb3⟩ : ∃ q, q = w.heap.size := ⟨_, rfl⟩
  obtain ⟨w1, hw1⟩ : ∃ y, y = w.alloc (boxF ⟨e0, e1, e2, e3, e4, e5⟩) := ⟨_, rfl⟩
  have H1 : Hid (SW w0 (blkA b3 (boxF ⟨e0, e1, e2, e3, e4, e5⟩) :: rIx rb N (.slice av all.length cv) all R) w1 ∧ Gr w w1) := Lib.hid (by rw [hw1, hb3]; exact ⟨H.out.alloc _, (Gr.refl w).alloc _⟩)
  simp only [boxF] at hw1
  rw [← hb3, ← hw1]
  clear hw1 hb3 H
  have d3 := (cellsOf (show w1.heap[b3]? = _ from H1.out.1.get (i := 0) rfl)).1
  have l3 := blkLt (show w1.heap[b3]? = _ from H1.out.1.get (i := 0) rfl)
  simp only [boxF] at d3
  have dr0 := ((cellsOf (show w1.heap[rb]? = _ from H1.out.1.get (i := 1) rfl)).1 0).trans (show _ = some (Value.int .i64 N) from rfl)
  go_wp2_with (go_at_call 35; refine (rvalid (H1.out.1.get (i := 1) rfl) hN0).mono ?_; rintro e w2 ⟨rfl, rfl⟩)
  have HD1 : Hid (SW w0 (blkA b3 (boxF ⟨e0, e1, e2, e3, e4, e5⟩) :: rIx rb N (.slice av all.length cv) all R) w1.drew ∧ Gr w w1.drew) := Lib.hid ⟨H1.out.1.gr (Gr.refl w1).drew, H1.out.2.drew⟩
  clear H1
  by_cases n0 : e3 < 0
  · have HR3 : Hid (rAddC N all ⟨e0, e1, e2, e3, e4, e5⟩ = 3) := Lib.hid (by rw [HRC.out, if_pos (.inl n0)])
    refine wp_region_flo (fun _ => False) [] [] (by kernel_rfl) (by kernel_rfl) (fun _ h => h.elim) ?_
    refine flo_seg 12 rfl ?_
    simp only [List.take_succ_cons, List.take_zero, List.drop_succ_cons, List.drop_zero]
    repeat (go_big_quiet_step (fail))
    refine wpQuiet_nil ?_
    refine flo_nil ?_
    go_wp2_with fail
    go_ret
    exact rAddP_no HD1.out.1 HD1.out.2 HR3.out (by decide)
  by_cases n1 : N ≤ e3
  · have HR3 : Hid (rAddC N all ⟨e0, e1, e2, e3, e4, e5⟩ = 3) := Lib.hid (by rw [HRC.out, if_pos (.inr n1)])
    refine wp_region_flo (fun _ => False) [] [] (by kernel_rfl) (by kernel_rfl) (fun _ h => h.elim) ?_
    refine flo_seg 12 rfl ?_
    simp only [List.take_succ_cons, List.take_zero, List.drop_succ_cons, List.drop_zero]
    repeat (go_big_quiet_step (fail))
    refine wpQuiet_nil ?_
    refine flo_nil ?_
    go_wp2_with fail
    go_ret
    exact rAddP_no HD1.out.1 HD1.out.2 HR3.out (by decide)
  have HRC2 : Hid (rAddC N all ⟨e0, e1, e2, e3, e4, e5⟩ = if validE ⟨e0, e1, e2, e3, e4, e5⟩ = false then 2 else if all.any rB = true then 2 else if all.any rH = true then 6 else 0) := Lib.hid (by rw [HRC.out, if_neg (by omega)])
  clear HRC
  refine wp_region_flo (fun _ => False) [] [] (by kernel_rfl) (by kernel_rfl) (fun _ h => h.elim) ?_
  refine flo_seg 12 rfl ?_
  simp only [List.take_succ_cons, List.take_zero, List.drop_succ_cons, List.drop_zero]
  repeat (go_big_quiet_step (fail))
  refine wpQuiet_nil ?_
  refine flo_nil ?_
  cases hv : validE ⟨e0, e1, e2, e3, e4, e5⟩ with
  | false =>
    rw [hv] at HVE
    have HR3 : Hid (rAddC N all ⟨e0, e1, e2, e3, e4, e5⟩ = 2) := Lib.hid (by rw [HRC2.out, if_pos hv])
    clear hv
    go_wp2_with (go_at_call 112; refine (HVE.out _).mono ?_; rintro e w2 ⟨rfl, hg⟩; have HG2 := Lib.hid hg; clear hg)
    go_ret
    exact rAddP_no (HD1.out.1.gr HG2.out) (HD1.out.2.trans HG2.out) HR3.out (by decide)
  | true =>
    have HRC3 : Hid (rAddC N all ⟨e0, e1, e2, e3, e4, e5⟩ = if all.any rB = true then 2 else if all.any rH = true then 6 else 0) := Lib.hid (by rw [HRC2.out, hv, if_neg (by decide)])
    have hvi := HVI.out.1 hv
    rw [hv] at HVE
    have hb4 : 0 ≤ e4 ∧ e4 ≤ 8192 ∧ 0 ≤ e5 ∧ e5 ≤ 8192 := by omega
    obtain ⟨v1, v2, v3, v4⟩ := hb4
    clear hv hvi HVI HRC2
    go_wp2_with (go_at_call 112; refine (HVE.out _).mono ?_; rintro e w2 ⟨rfl, hg⟩; have HD2 : Hid (SW w0 (blkA b3 (boxF ⟨e0, e1, e2, e3, e4, e5⟩) :: rIx rb N (.slice av all.length cv) all R) w2 ∧ Gr w w2) := Lib.hid ⟨HD1.out.1.gr hg, HD1.out.2.trans hg⟩; clear hg)
    clear HD1 HVE d3 l3 dr0
    go_loopw [5, 6] (fun t5 t6 wx => ∃ i : Nat, i ≤ all.length ∧ t5 = .bool ((all.take i).any rH) ∧ t6 = .int .i64 i ∧ Hid ((all.take i).any rB = false) ∧ Hid (SW w0 (blkA b3 (boxF ⟨e0, e1, e2, e3, e4, e5⟩) :: rIx rb N (.slice av all.length cv) all R) wx ∧ Gr w wx)) (fun _ t6 _ => all.length - (intOf t6).toNat)
    case atStart => exact ⟨0, by omega, rfl, rfl, Lib.hid rfl, HD2⟩
    case round =>
      obtain ⟨i, hil, rfl, rfl, HNB, HI⟩ := hrel
      clear HD2
      have hrb : wr.heap[rb]? = _ := HI.out.1.get (i := 1) rfl
      have dr1 := ((cellsOf hrb).1 1).trans (show _ = some (Value.slice av all.length cv) from rfl)
      clear hrb
      by_cases hli : i < all.length
      · have hli' : (i : Int) < all.length := by omega
        obtain ⟨x, hx⟩ : ∃ x, all[i]? = some x := ⟨_, List.getElem?_eq_getElem hli⟩
        obtain ⟨_, _, hve, _, _, hat⟩ := ownE_at (show Own wr 89 6 (.slice av all.length cv) all.length (rowE all) from HI.out.1.get (i := 2) rfl)
        injection hve with g1 g2 g3
        subst g1
        obtain ⟨g0, rfl, hg0, _, hc⟩ := hat i _ hx
        have y0 := hc 0 _ rfl
        have y1 := hc 1 _ rfl
        have y2 := hc 2 _ rfl
        have y3 := hc 3 _ rfl
        have y4 := hc 4 _ rfl
        have y5 := hc 5 _ rfl
        simp only [Nat.add_zero] at y0 y1 y2 y3 y4 y5
        have HTB1 := Lib.hid (HTB.out i x hx)
        have HTH1 := Lib.hid (HTH.out i x hx)
        have HBE1 := Lib.hid (HBE.out x)
        have HHE1 := Lib.hid (HHE.out x)
        obtain ⟨q1, q2, q3, q4⟩ := HB.out x (List.mem_of_getElem? hx)
        clear hat hc g2 g3 hx
        obtain ⟨bB, hbB⟩ : ∃ b, b = rB x := ⟨_, rfl⟩
        obtain ⟨bH, hbH⟩ : ∃ b, b = rH x := ⟨_, rfl⟩
        rw [← hbB] at HTB1 HBE1
        rw [← hbH] at HTH1 HHE1
        clear hbB hbH
        obtain ⟨x0, x1, x2, x3, x4, x5⟩ := x
        simp only at y0 y1 y2 y3 y4 y5 q1 q2 q3 q4 HBE1 HHE1
        go_upto_region 12 with fail
        obtain ⟨b7, hb7⟩ : ∃ q, q = wr.heap.size := ⟨_, rfl⟩
        obtain ⟨w9, hw9⟩ : ∃ y, y = wr.alloc (boxF ⟨x0, x1, x2, x3, x4, x5⟩) := ⟨_, rfl⟩
        have H9 : Hid (SW w0 (blkA b7 (boxF ⟨x0, x1, x2, x3, x4, x5⟩) :: blkA b3 (boxF ⟨e0, e1, e2, e3, e4, e5⟩) :: rIx rb N (.slice (some ⟨g0, 0, none⟩) all.length cv) all R) w9 ∧ Gr w w9) := Lib.hid (by rw [hw9, hb7]; exact ⟨HI.out.1.alloc _, HI.out.2.alloc _⟩)
        simp only [boxF] at hw9
        rw [← hb7, ← hw9]
        clear hw9 hb7 HI y0 y1 y2 y3 y4 y5 hg0 dr1
        have d3 := (cellsOf (show w9.heap[b3]? = _ from H9.out.1.get (i := 1) rfl)).1
        have d7 := (cellsOf (show w9.heap[b7]? = _ from H9.out.1.get (i := 0) rfl)).1
        simp only [boxF] at d3 d7
        have H10 : Hid (SW w0 (blkA b3 (boxF ⟨e0, e1, e2, e3, e4, e5⟩) :: rIx rb N (.slice (some ⟨g0, 0, none⟩) all.length cv) all R) w9 ∧ Gr w w9) := Lib.hid ⟨H9.out.1.sub (.cons _ (List.Sublist.refl _)), H9.out.2⟩
        clear H9
        obtain ⟨bb, hbb⟩ : ∃ b, b = (all.take i).any rH := ⟨_, rfl⟩
        rw [← hbb] at HTH1 ⊢
        clear hbb
        have hcl : ∀ (c : Prop) [Decidable c], (c → False) → decide c = false := fun c _ h => decide_eq_false h
        by_cases hcp : x0 = e0 ∧ x1 = e1
        · obtain ⟨hq, hk⟩ := hcp
          subst hq hk
          clear hcl
          go_wp2_with fail
          all_goals
            try
              (refine ⟨⟨i + 1, by omega, ?_, by simp, Lib.hid ?_, H10⟩, by simp [intOf]; omega⟩
               · rw [HTH1.out, HHE1.out]
                 first
                 | (rw [decide_eq_true ⟨by assumption, .inl ⟨rfl, rfl⟩⟩, Bool.or_true]; done)
                 | (rw [decide_eq_false (fun hh => by have := hh.1; first | (exact absurd this (by assumption)) | (simp_all; done)), Bool.or_false]; done)
               · rw [HTB1.out, HNB.out, HBE1.out, Bool.false_or]
                 refine decide_eq_false (fun hh => ?_)
                 have hh2 := hh.2.2
                 clear hh HTB HTH HBE HHE HTK HRC3
                 simp_all)
          all_goals
            go_ret
            refine rAddP_no H10.out.1 H10.out.2 (c := 2) ?_ (by decide)
            rw [HRC3.out, if_pos]
            refine HTK.out (i + 1) ?_
            rw [HTB1.out, HBE1.out, Bool.or_eq_true]
            refine .inr (decide_eq_true (And.intro (by first | trivial | rfl) (And.intro (by first | trivial | rfl) ?_)))
            first | exact .inl (by assumption) | exact .inr (bne_iff_ne.1 (by assumption)) | (simp_all; done)
        · have HNC := Lib.hid hcp
          have HB2 : Hid (bB = false) := Lib.hid (HBE1.out.trans (decide_eq_false (fun hh => hcp ⟨hh.1, hh.2.1⟩)))
          have HH2 : Hid (bH = decide (x3 = e3 ∧ x4 < e4 + e5 ∧ e4 < x4 + x5)) := Lib.hid (HHE1.out.trans (by
            congr 1
            exact propext ⟨fun hh => ⟨hh.1, hh.2.resolve_left hcp⟩, fun hh => ⟨hh.1, .inr hh.2⟩⟩))
          clear HBE1 HHE1 hcl
          have fin : ∀ b : Bool, (b = (bb || bH)) → ∃ i', i' ≤ all.length ∧ Value.bool b = Value.bool ((all.take i').any rH) ∧ Value.int .i64 ((i : Int) + 1) = .int .i64 (i' : Nat) ∧ Hid ((all.take i').any rB = false) ∧ Hid (SW w0 (blkA b3 (boxF ⟨e0, e1, e2, e3, e4, e5⟩) :: rIx rb N (.slice (some ⟨g0, 0, none⟩) all.length cv) all R) w9 ∧ Gr w w9) := fun b hb =>
            ⟨i + 1, by omega, by rw [HTH1.out, hb], by simp, Lib.hid (by rw [HTB1.out, HNB.out, HB2.out]; rfl), H10⟩
          have HF := Lib.hid fin
          clear fin
          by_cases hq : x0 = e0
          · have hk : ¬ x1 = e1 := fun h => hcp ⟨hq, h⟩
            have hkb : (x1.toList == e1.toList) = false := (str_beq x1 e1).trans (decide_eq_false hk)
            clear hcp hk
            subst hq
            go_wp2_with fail
            all_goals
              refine ⟨HF.out _ ?_, by simp [intOf]; omega⟩
              rw [HH2.out]
              first
              | (rw [decide_eq_true (by omega), Bool.or_true]; done)
              | (rw [decide_eq_false (by omega), Bool.or_false]; done)
          · have hqb : (x0 == e0) = false := beq_false_of_ne hq
            clear hcp hq
            go_wp2_with fail
            all_goals
              refine ⟨HF.out _ ?_, by simp [intOf]; omega⟩
              rw [HH2.out]
              first
              | (rw [decide_eq_true (by omega), Bool.or_true]; done)
              | (rw [decide_eq_false (by omega), Bool.or_false]; done)
      · have hli' : ¬ (i : Int) < all.length := by omega
        obtain rfl : i = all.length := by omega
        rw [List.take_length] at HNB ⊢
        cases hH : all.any rH with
        | true =>
          have HR6 : Hid (rAddC N all ⟨e0, e1, e2, e3, e4, e5⟩ = 6) := Lib.hid (by rw [HRC3.out, HNB.out, hH, if_neg (by decide), if_pos rfl])
          clear hH
          go_wp2_with fail
          go_ret
          exact rAddP_no HI.out.1 HI.out.2 HR6.out (by decide)
        | false =>
          have HR0 : Hid (rAddC N all ⟨e0, e1, e2, e3, e4, e5⟩ = 0) := Lib.hid (by rw [HRC3.out, HNB.out, hH, if_neg (by decide), if_neg (by decide)])
          clear hH
          have d3 := (cellsOf (show wr.heap[b3]? = _ from HI.out.1.get (i := 0) rfl)).1
          simp only [boxF] at d3
          have SRC : Hid (SrcAt wr.drew 6 av all.length (rowE all)) := Lib.hid ((src_all (show Own wr 89 6 (.slice av all.length cv) all.length (rowE all) from HI.out.1.get (i := 2) rfl) (rowE_one all)).gr (Gr.refl wr).drew)
          go_wp2_with fail
          have HG := Gr.refl wr.drew
          refine wp_region_flt 10 (fun _ => False) [107] [] (by kernel_rfl) (by kernel_rfl) (by decide) (by kernel_rfl) (fun _ h => h.elim) ?_
          simp only [List.take_succ_cons, List.take_zero, List.drop_succ_cons, List.drop_zero]
          refine flo_seg 1 rfl ?_
          simp only [List.take_succ_cons, List.take_zero, List.drop_succ_cons, List.drop_zero]
          repeat (go_big_quiet_step (fail))
          refine wpQuiet_nil ?_
          refine flo_effg rfl rfl rfl (fun wg1 hgg1 K hK => ?_)
          (try replace HG := Gr.trans (Gr.trans HG (by (repeat (first | (with_reducible exact Gr.refl _) | assumption | (with_reducible apply Gr.from_drew) | (with_reducible apply Gr.alloc) | (with_reducible apply Gr.drew) | (with_reducible refine Gr.trans ?_ (by assumption)) | (with_reducible refine Gr.setCell ?_ (by omega) _))))) hgg1)
          go_wp2
          refine ⟨by (first | (refine Gr.mdh ?_ _; (repeat (first | (with_reducible exact Gr.refl _) | assumption | (with_reducible apply Gr.from_drew) | (with_reducible apply Gr.alloc) | (with_reducible apply Gr.drew) | (with_reducible refine Gr.trans ?_ (by assumption)) | (with_reducible refine Gr.setCell ?_ (by omega) _))); done) | (repeat (first | (with_reducible exact Mdh.refl _ _) | (with_reducible refine Mdh.setCell ?_ (by simp) _) | (with_reducible refine Mdh.setNew ?_ (by simp) _) | (with_reducible apply Mdh.alloc) | (with_reducible apply Mdh.from_drew) | (with_reducible apply Mdh.drew) | (with_reducible refine Mdh.gr ?_ (by assumption))))), ?_⟩
          refine flo_seg 4 rfl ?_
          simp only [List.take_succ_cons, List.take_zero, List.drop_succ_cons, List.drop_zero]
          repeat (go_big_quiet_step (fail))
          refine wpQuiet_nil ?_
          refine flo_effg rfl rfl rfl (fun wg2 hgg2 K hK => ?_)
          (try replace HG := Gr.trans (Gr.trans HG (by (repeat (first | (with_reducible exact Gr.refl _) | assumption | (with_reducible apply Gr.from_drew) | (with_reducible apply Gr.alloc) | (with_reducible apply Gr.drew) | (with_reducible refine Gr.trans ?_ (by assumption)) | (with_reducible refine Gr.setCell ?_ (by omega) _))))) hgg2)
          refine wp_appv _ (.tmp 100) (.tmp 104) 37 rfl 89 i0 _ 6 56 Tryz.underlying37 hi hz0 hz1 hz2 rfl (by decide) (.slice (some ⟨wg1.heap.size, 0, none⟩) 0 0) 0 [] rfl ((Nw.made (w0 := wr.drew) (w := wg1) hgg1.sz).own.gr hgg2) av all.length cv (rowE all) rfl (SRC.out.gr HG) (by simp only [maxLen]; omega) (by omega) (fun k1 x1 hk1 => ?_); rw [Nat.zero_add, List.nil_append] at hk1; (have n1 := hk1.nw ((Nw.made (w0 := wr.drew) (w := wg1) hgg1.sz).gr hgg2) HG.sz); (replace HG := hk1.gw ((Nw.made (w0 := wr.drew) (w := wg1) hgg1.sz).gr hgg2) HG); obtain ⟨a1, c1, rfl⟩ := hk1.val; refine hK _ _ ⟨hk1.mdh (fun q hq => by rw [ownB hq]; simp), ?_⟩; simp only [Act.put, List.setIfInBounds_toArray, List.set_cons_succ, List.set_cons_zero]
          refine flo_seg 1 rfl ?_
          simp only [List.take_succ_cons, List.take_zero, List.drop_succ_cons, List.drop_zero]
          repeat (go_big_quiet_step (fail))
          refine wpQuiet_nil ?_
          refine flo_float (fun b => .slice (some ⟨b, 0, none⟩) 1 1) (_) rfl rfl (fun w => by simp [go_sem]; rfl) (fun wf1 fb1 hgf1 fl1 fh1 ft1 fo1 => ?_)
          (try replace HG := Gr.trans (Gr.trans HG (by (repeat (first | (with_reducible exact Gr.refl _) | assumption | (with_reducible apply Gr.from_drew) | (with_reducible apply Gr.alloc) | (with_reducible apply Gr.drew) | (with_reducible refine Gr.trans ?_ (by assumption)) | (with_reducible refine Gr.setCell ?_ (by omega) _))))) hgf1)
          (try have fc1 := (cellsOf fo1).1)
          (try have ff1 := (cellsOf fo1).2)
          refine flo_eff rfl rfl rfl rfl (fun K hK => ?_)
          refine wp_appv _ (.tmp 105) (.tmp 107) 37 rfl 89 i0 _ 6 56 Tryz.underlying37 hi hz0 hz1 hz2 rfl (by decide) (.slice a1 all.length c1) all.length (rowE all) rfl (n1.own.gr hgf1) (some ⟨fb1, 0, none⟩) 1 1 (enC ⟨e0, e1, e2, e3, e4, e5⟩) rfl (src_blk (e := ⟨e0, e1, e2, e3, e4, e5⟩) fo1) (by simp only [maxLen]; omega) (by omega) (fun k2 x2 hk2 => ?_); (have n2 := hk2.nw (n1.gr hgf1) HG.sz); (have m2 := hk2.gw (n1.gr hgf1) HG); obtain ⟨a2, c2, rfl⟩ := hk2.val; refine hK _ _ ⟨hk2.mdh (fun q hq => (hk1.2.1 q hq).elim (fun h => by rw [ownB h]; exact .inr (.inl (.inl (.inr ⟨Nat.le_refl _, by simp⟩)))) (fun h => .inr (.inl (.inr ⟨h, hk1.1.lt hq⟩)))), ?_⟩; simp only [Act.put, List.setIfInBounds_toArray, List.set_cons_succ, List.set_cons_zero]
          refine flo_nil ?_
          have g0 : Gr wr x2 := (Gr.refl wr).drew.trans m2
          have h1 := HI.out.1.new g0 (A := rowA 89 6 (.slice a2 (all.length + 1) c2) (all ++ [(⟨e0, e1, e2, e3, e4, e5⟩ : En)]).length (rowE (all ++ [(⟨e0, e1, e2, e3, e4, e5⟩ : En)]))) (by
            show Own _ _ _ _ _ _
            rw [rowE_snoc, List.length_append]
            exact n2.own) (fun k hk => by have := n2.new k hk; simpa using this)
          have hb2 : x2.heap[rb]? = some (rmO N (.slice av all.length cv)) := h1.get (i := 2) rfl
          have h2 := h1.at (i := 2) rfl ((Mdh.refl (fun k => k = rb) x2).setCell (p := ⟨rb, 1, none⟩) rfl (.slice a2 (all.length + 1) c2)) (fun k hk => .inl hk) (B := blkA rb (rmO N (.slice a2 (all.length + 1) c2))) (blkSet (j := 1) hb2) (fun k hk => .inl hk)
          have HE := Lib.hid ((h2.sub (.cons_cons _ (.cons _ (.cons_cons _ (.cons _ (List.Sublist.refl _)))))).perm (List.Perm.swap _ _ _))
          have HM : Hid (Mdh (fun k => k = rb) w (x2.setCell ⟨rb, 1, none⟩ (.slice a2 (all.length + 1) c2))) := Lib.hid (((HI.out.2.trans g0).mdh (fun k => k = rb)).setCell (p := ⟨rb, 1, none⟩) rfl _)
          obtain ⟨_, f2⟩ := cellsOf hb2
          have l2 := blkLt hb2
          clear h1 h2 hb2 g0 n1 n2 m2 hk1 hk2 HG d3
          go_wp2_with fail
          go_ret
          exact ⟨ret_int HR0.out.symm, HM.out, _, by rw [HRL.out HR0.out]; exact HE.out⟩
end Go.Proofs.YtemjnppplmankaaGreat

/- drumlinref21's Drop; drumlinlaw22's Made: end. -/
set_option linter.unusedVariables false
set_option linter.unusedSimpArgs false
namespace Go.Proofs.YtemjnppplmankaaGreat
open Go.RowKit Go.Shelf
attribute [local go_sem] OvM cell_ovm obj_ovm
attribute [local go_sem] Oper.semAt_some

def nsP (s : Int) (o : En) : Bool := !decide (o.slot = s)
theorem tfs {l : List En} {p : En → Bool} {i : Nat} {x : En} (h : l[i]? = some x) : (l.take (i + 1)).filter p = (l.take i).filter p ++ if p x then [x] else [] := by
  rw [List.take_add_one, h, List.filter_append]
  congr 1
  simp only [Option.toList_some, List.filter_cons, List.filter_nil]
set_option maxRecDepth 40000 in
set_option maxHeartbeats 8000000 in
theorem rDrop {w0 w : World} {rb : Nat} {N : Int} {v : Value} {all : List En} {R : List Asn} (h : SW w0 (rIx rb N v all R) w) (s : Int) (h0 : 0 ≤ s) (h1 : s < N) (hn : all.length ≤ 200) :
    Calls Tryz.prog 41 #[.pointer (some ⟨rb, 0, none⟩), .int .i64 s] w fun r w' => r = .returned (.tuple #[.int .i64 ((all.length : Int) - (all.filter (nsP s)).length), .int .i64 0]) ∧ ∃ v', SW w0 (rIx rb N v' (all.filter (nsP s)) R) w' := by
  obtain ⟨i0, hi, hz0, hz1, hz2⟩ := info_parts infoIten
  have H := Lib.hid h
  obtain ⟨av, cv, rfl, hcv, hmv, hat⟩ := ownE_at (show Own w 89 6 v all.length (rowE all) from h.get (i := 1) rfl)
  have HAT := Lib.hid hat
  unfold maxLen at hmv
  have hN0 : 0 < N := by omega
  have n0 : ¬ s < 0 := by omega
  have n1 : ¬ N ≤ s := by omega
  have dr0 := ((cellsOf (show w.heap[rb]? = _ from H.out.get (i := 0) rfl)).1 0).trans (show _ = some (Value.int .i64 N) from rfl)
  clear h hat
  go_enter Tryz.func41, Tryz.ntmps41
  go_wp2_with (go_at_call 35; refine (rvalid (H.out.get (i := 0) rfl) hN0).mono ?_; rintro e w2 ⟨rfl, rfl⟩)
  go_loopw [6, 7] (fun t6 t7 wx => ∃ i : Nat, i ≤ all.length ∧ t7 = .int .i64 i ∧ Hid (Nw w wx 89 6 t6 ((all.take i).filter (nsP s)).length (rowE ((all.take i).filter (nsP s))) ∧ Gr w wx)) (fun _ t7 _ => all.length - (intOf t7).toNat)
  case atStart => exact ⟨0, by omega, rfl, Lib.hid ⟨⟨nilRow _ _ _, fun q hq => by cases hq⟩, Gr.refl _⟩⟩
  case round =>
    obtain ⟨i, hil, rfl, HI⟩ := hrel
    clear dr0
    have hrb : wr.heap[rb]? = _ := HI.out.2.blk (H.out.get (i := 0) rfl)
    have dr1 := ((cellsOf hrb).1 1).trans (show _ = some (Value.slice av all.length cv) from rfl)
    have HRB := Lib.hid hrb
    clear hrb
    by_cases hli : i < all.length
    · have hli' : (i : Int) < all.length := by omega
      obtain ⟨x, hx⟩ : ∃ x, all[i]? = some x := ⟨_, List.getElem?_eq_getElem hli⟩
      obtain ⟨g0, rfl, _, _, hc⟩ := HAT.out i x hx
      have hr : ∀ i' u, (enC x)[i']? = some u → wr.cell? ⟨g0, i * 6 + i', none⟩ = some u := fun i' u hu => HI.out.2.keep (hc i' u hu)
      have d0 := hr 0 _ rfl
      have d1 := hr 1 _ rfl
      have d2 := hr 2 _ rfl
      have d3 := hr 3 _ rfl
      have d4 := hr 4 _ rfl
      have d5 := hr 5 _ rfl
      simp only [Nat.add_zero] at d0 d1 d2 d3 d4 d5
      have HTF := Lib.hid (tfs (p := nsP s) hx)
      have hfl : ((all.take i).filter (nsP s)).length ≤ 1000 := by
        have h1 := List.length_filter_le (nsP s) (all.take i)
        rw [List.length_take] at h1
        omega
      clear hr hc hx
      by_cases hxs : x.slot = s
      · have hb : (x.slot == s) = true := beq_iff_eq.2 hxs
        have hb2 : (x.slot != s) = false := by simp [bne, hb]
        have HTG : Hid ((all.take (i + 1)).filter (nsP s) = (all.take i).filter (nsP s)) := Lib.hid (by rw [HTF.out, show nsP s x = false by unfold nsP; rw [decide_eq_true hxs]; rfl, if_neg (by decide), List.append_nil])
        clear hxs
        go_wp2_with fail
        exact ⟨⟨i + 1, by omega, by simp, Lib.hid ⟨by rw [HTG.out]; exact HI.out.1, HI.out.2⟩⟩, by simp [intOf]; omega⟩
      · have hb : (x.slot == s) = false := beq_false_of_ne hxs
        have hb2 : (x.slot != s) = true := by simp [bne, hb]
        have HTG : Hid ((all.take (i + 1)).filter (nsP s) = (all.take i).filter (nsP s) ++ [x]) := Lib.hid (by rw [HTF.out, show nsP s x = true by unfold nsP; rw [decide_eq_false hxs]; rfl, if_pos rfl])
        clear hxs
        go_wp2_with (first
          | (at_builtin; go_must (refine wpList_appv _ rfl (.tmp 41) (.tmp 49) 37 rfl 89 i0 _ 6 56 Tryz.underlying37 hi hz0 hz1 hz2 rfl (by decide) u6 ((all.take i).filter (nsP s)).length (rowE ((all.take i).filter (nsP s))) rfl (HI.out.1.own.gr (by (repeat (first | (with_reducible exact Gr.refl _) | assumption | (with_reducible apply Gr.from_drew) | (with_reducible apply Gr.alloc) | (with_reducible apply Gr.drew) | (with_reducible refine Gr.trans ?_ (by assumption)) | (with_reducible refine Gr.setCell ?_ (by omega) _))))) (some ⟨wr.heap.size, 0, none⟩) 1 1 (enC x) rfl (src_newK wr (enC x) _ 6 rfl (enC_one x)) (by simp only [maxLen]; omega) (by omega) ?_); intro v2 w2 hA; have N2 := Lib.hid (hA.nw (HI.out.1.gr ((Gr.refl wr).alloc _)) (by have := HI.out.2.sz; simp; omega)); have HG2 := Lib.hid (hA.gw (HI.out.1.gr ((Gr.refl wr).alloc _)) (HI.out.2.alloc _)); clear hA)
          | fail)
        exact ⟨⟨i + 1, by omega, by simp, Lib.hid ⟨by rw [HTG.out, rowE_snoc, List.length_append]; exact N2.out, HG2.out⟩⟩, by simp [intOf]; omega⟩
    · have hli' : ¬ (i : Int) < all.length := by omega
      obtain rfl : i = all.length := by omega
      rw [List.take_length] at HI
      obtain ⟨a6, c6, rfl, _, _, _⟩ := ownE_at HI.out.1.own
      have hfl : (all.filter (nsP s)).length ≤ all.length := List.length_filter_le _ _
      obtain ⟨_, fr⟩ := cellsOf HRB.out
      have lr := blkLt HRB.out
      generalize hfn : (all.filter (nsP s)).length = fn at *
      go_wp2_with fail
      go_ret2
      rw [← hfn] at HI ⊢
      refine ⟨rfl, .slice a6 (all.filter (nsP s)).length c6, ?_⟩
      have h1 := H.out.new HI.out.2 (A := rowA 89 6 (.slice a6 (all.filter (nsP s)).length c6) (all.filter (nsP s)).length (rowE (all.filter (nsP s)))) HI.out.1.own (fun k hk => HI.out.1.new k hk)
      have h2 := h1.at (i := 1) rfl ((Mdh.refl (fun k => k = rb) wr).setCell (p := ⟨rb, 1, none⟩) rfl (.slice a6 (all.filter (nsP s)).length c6)) (fun k hk => .inl hk) (B := blkA rb (rmO N (.slice a6 (all.filter (nsP s)).length c6))) (blkSet (j := 1) HRB.out) (fun k hk => .inl hk)
      exact (h2.sub (.cons_cons _ (.cons_cons _ (.cons _ (List.Sublist.refl _))))).perm (List.Perm.swap _ _ _)

abbrev mdO (b rb : Nat) (v : Value) (nx : Int) : Obj := .cells #[.pointer (some ⟨b, 0, none⟩), .pointer (some ⟨rb, 0, none⟩), v, .int .i64 nx] 39
theorem endL_take {all : List En} {i : Nat} {x : En} (h : all[i]? = some x) (s : Int) : endL (all.take (i + 1)) s = endF s (endL (all.take i) s) x := by
  rw [List.take_add_one, h]
  exact endL_snoc _ _ _
theorem endL_le {all : List En} {m : Int} (hm : 0 ≤ m) (h : ∀ o ∈ all, o.off + o.size ≤ m) (s : Int) : endL all s ≤ m := by
  have h2 : ∀ (l : List En) (a : Int), a ≤ m → (∀ o ∈ l, o.off + o.size ≤ m) → l.foldl (endF s) a ≤ m := by
    intro l
    induction l with
    | nil => intro a ha _; exact ha
    | cons e l ih =>
      intro a ha hl
      refine ih _ ?_ (fun o ho => hl o (List.mem_cons_of_mem _ ho))
      have := hl e (List.mem_cons_self ..)
      unfold endF
      split <;> omega
  exact h2 all 0 hm h
set_option maxRecDepth 40000 in
set_option maxHeartbeats 8000000 in
theorem mEnd {w : World} {mb b rb : Nat} {v : Value} {nx : Int} {all : List En} (hm : w.heap[mb]? = some (mdO b rb v nx)) (hr : Own w 89 6 v all.length (rowE all)) (hn : all.length ≤ 200) (hb : ∀ o ∈ all, 0 ≤ o.off ∧ o.off ≤ 8192 ∧ 0 ≤ o.size ∧ o.size ≤ 8192) (s : Int) :
    Calls Tryz.prog 71 #[.pointer (some ⟨mb, 0, none⟩), .int .i64 s] w fun r w' => r = .returned (.int .i64 (endL all s)) ∧ Gr w w' := by
  obtain ⟨av, cv, rfl, hcv, hmv, hat⟩ := ownE_at hr
  have HAT := Lib.hid hat
  have HM := Lib.hid hm
  have HB := Lib.hid hb
  unfold maxLen at hmv
  clear hm hr hat hb
  go_enter Tryz.func71, Tryz.ntmps71
  go_wp2_with fail
  go_loopw [5, 6] (fun t5 t6 wx => ∃ i : Nat, i ≤ all.length ∧ t5 = .int .i64 (endL (all.take i) s) ∧ t6 = .int .i64 i ∧ Hid (Gr w wx)) (fun _ t6 _ => all.length - (intOf t6).toNat)
  case atStart => exact ⟨0, by omega, rfl, rfl, Lib.hid (Gr.refl _)⟩
  case round =>
    obtain ⟨i, hil, rfl, rfl, HI⟩ := hrel
    have dm := ((cellsOf (HI.out.blk HM.out)).1 2).trans (show _ = some (Value.slice av all.length cv) from rfl)
    by_cases hli : i < all.length
    · have hli' : (i : Int) < all.length := by omega
      obtain ⟨x, hx⟩ : ∃ x, all[i]? = some x := ⟨_, List.getElem?_eq_getElem hli⟩
      obtain ⟨g0, rfl, _, _, hc⟩ := HAT.out i x hx
      have d3 := HI.out.keep (hc 3 _ rfl)
      have d4 := HI.out.keep (hc 4 _ rfl)
      have d5 := HI.out.keep (hc 5 _ rfl)
      have HTE := Lib.hid (endL_take hx s)
      obtain ⟨q1, q2, q3, q4⟩ := HB.out x (List.mem_of_getElem? hx)
      have p1 := endL_nn (all.take i) s
      have p2 := endL_le (all := all.take i) (m := 16384) (by omega) (fun o ho => by have := HB.out o (List.mem_of_mem_take ho); omega) s
      generalize endL (all.take i) s = en at *
      clear hc hx
      by_cases hxs : x.slot = s
      · have hbb : (x.slot == s) = true := beq_iff_eq.2 hxs
        have HTG : Hid (endL (all.take (i + 1)) s = max en (x.off + x.size)) := Lib.hid (by rw [HTE.out]; exact if_pos hxs)
        clear hxs
        go_wp2_with fail
        refine wp_region_flo (fun _ => False) [] [] (by kernel_rfl) (by kernel_rfl) (fun _ h => h.elim) ?_
        refine flo_seg 20 rfl ?_
        simp only [List.take_succ_cons, List.take_zero, List.drop_succ_cons, List.drop_zero]
        repeat (go_big_quiet_step (fail))
        refine wpQuiet_nil ?_
        refine flo_nil ?_
        go_wp2_with fail
        all_goals
          refine ⟨⟨i + 1, by omega, by rw [HTG.out]; congr 1; omega, by simp, Lib.hid (HI.out.trans (Gr.refl _).drew)⟩, by simp [intOf]; omega⟩
      · have hbb : (x.slot == s) = false := beq_false_of_ne hxs
        have HTG : Hid (endL (all.take (i + 1)) s = en) := Lib.hid (by rw [HTE.out]; exact if_neg hxs)
        clear hxs
        go_wp2_with fail
        exact ⟨⟨i + 1, by omega, by rw [HTG.out], by simp, HI⟩, by simp [intOf]; omega⟩
    · have hli' : ¬ (i : Int) < all.length := by omega
      obtain rfl : i = all.length := by omega
      rw [List.take_length]
      go_wp2_with fail
      go_ret
      exact ⟨rfl, HI.out⟩
end Go.Proofs.YtemjnppplmankaaGreat
