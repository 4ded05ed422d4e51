/- PqueueApart, walked. -/
import Derived.Test.YthialloenkbpnaaPqO
import Derived.Test.YthialloenkbpnaaPqW
import Derived.Deep.LoopGhost
namespace Go.Proofs.Ythialloenkbpnaa
open Go.RowKit
attribute [local go_sem] OvM cell_ovm obj_ovm

theorem u8_wrap (c : UInt8) : IntKind.u8.wrap (c.toNat : Int) = (c.toNat : Int) := by
  have := c.toNat_lt
  rw [IntKind.wrap_u8]
  omega
theorem bad_or {n : Nat} {id : Int} (h : ¬ (0 ≤ id ∧ id < n)) : id < 0 ∨ (0 ≤ id ∧ (n : Int) ≤ id) := by omega

set_option maxRecDepth 40000 in
set_option maxHeartbeats 4000000 in
theorem PqueueApart_any (c p : UInt8) (id : Int) (a : Option Addr) (len cap : Nat) (l : List Tn) (w : World) (hl : l.length = len) (hle : len ≤ cap) (hcap : cap ≤ maxLen) (hs : TurnsAt w a l) :
    Calls Try.prog 4 #[.int .u8 (c.toNat : Int), .slice a len cap, .int .i64 id, .int .u8 (p.toNat : Int)] w fun e w' => e = .returned (.bool true) ∧ Gr w w' := by
  by_cases hlong : (150 : Int) < len
  · go_enter Try.func4, Try.ntmps4
    go_wp2_with fail
    refine (works_any _).mono ?_
    rintro e w1 ⟨rfl, hg⟩
    go_wp2
    go_ret
    exact ⟨rfl, hg⟩
  have HS := Lib.hid hs
  have HL := Lib.hid hl
  clear hs hl
  have hp0 : (0 : Int) ≤ p.toNat := by omega
  have hp1 : (p.toNat : Int) < 256 := by have := p.toNat_lt; omega
  obtain ⟨q, hqx⟩ : ∃ q : UInt8, q = p ^^^ 1 := ⟨_, rfl⟩
  have hx : bits .xor .u8 (p.toNat : Int) 1 = (q.toNat : Int) := by rw [hqx]; exact xor1 p
  have hq0 : (0 : Int) ≤ q.toNat := by omega
  have hq1 : (q.toNat : Int) < 256 := by have := q.toNat_lt; omega
  have hqw := u8_wrap q
  clear hqx
  go_enter Try.func4, Try.ntmps4
  go_wp2_with fail
  refine (made_any c a len cap l _ HL.out hle hcap HS.out).mono ?_
  rintro e w1 ⟨bq, gw, n, qlen, M, S, rfl, hq, hrow, hS, hgw, hSg, hn50, hg⟩
  have hn1 := hq.1
  have HQ : Hid (SQ w w1 bq gw n qlen M M S) := Lib.hid ⟨hq, hrow, hS, hSg, hgw, hg⟩
  clear hq hg hS hrow hSg
  by_cases hin : 0 ≤ id ∧ id < n
  · obtain ⟨I, rfl⟩ : ∃ I : Nat, id = I := ⟨id.toNat, by omega⟩
    have hI : I < n := by omega
    have hI0 : (0 : Int) ≤ I := by omega
    have hI1 : (I : Int) < n := by omega
    have hcell := HQ.out.cell hI
    have hfr := HQ.out.r.fr
    clear hin
    cases hM : M I with
    | none =>
      have HM := Lib.hid hM
      rw [hM] at hcell
      simp only [wv] at hcell
      clear hM
      go_wp2_with fail
      refine (letter_any p _).mono ?_
      rintro e w3 ⟨rfl, hg3⟩
      have HQ3 := Lib.hid (HQ.out.gr hg3)
      go_wp2_with fail
      refine (Push_okS _ n qlen M S I p _ HQ3.out.q hI HM.out).mono ?_
      rintro e w4 ⟨rfl, S', q', m', hs'⟩
      have HQ4 := Lib.hid (HQ3.out.mdh q' m' hs')
      clear q' m' hs'
      go_wp2_with fail
      refine (letter_any q _).mono ?_
      rintro e w5 ⟨rfl, hg5⟩
      have HQ5 := Lib.hid (HQ4.out.gr hg5)
      go_wp2_with fail
      refine (Change_okS _ n _ _ S' I q _ HQ5.out.q hI (by rw [upd_same]; simp)).mono ?_
      rintro e w6 ⟨rfl, q', m'⟩
      have HQ6 := Lib.hid (HQ5.out.mdh' q' m')
      clear q' m'
      have hcell6 := HQ6.out.cell hI
      have hfr6 := HQ6.out.r.fr
      rw [HM.out] at hcell6
      simp only [wv] at hcell6
      obtain ⟨L, Mx, Sx, HX⟩ : ∃ L Mx Sx, Hid (SQ w (w6.setCell ⟨gw, I, none⟩ (.int .i64 (wv (some q)))) bq gw n L Mx Mx Sx ∧ Mx I = some q) :=
        ⟨_, _, _, Lib.hid ⟨(HQ6.out.set hI (some q)).congr (fun i _ => by unfold upd; split <;> simp_all), upd_same _ _ _⟩⟩
      simp only [wv] at HX
      clear hg3 hg5 hcell hfr HM HQ HQ3 HQ4 HQ5 HQ6
      go_wp2_with fail
      go_loopw [15] (fun t15 wx => ∃ k : Nat, k ≤ n ∧ t15 = .int .i64 k ∧ Hid (SQ w wx bq gw n L Mx Mx Sx)) (fun t15 _ => n - (intOf t15).toNat)
      case atStart => exact ⟨0, by omega, rfl, Lib.hid HX.out.1⟩
      case round =>
        obtain ⟨k, hk, rfl, HR⟩ := hrel
        by_cases hlt : k < n
        · have hlt' : (k : Int) < n := by omega
          have hcellk := HR.out.cell hlt
          cases hMk : Mx k with
          | none =>
            have HMk := Lib.hid hMk
            rw [hMk] at hcellk
            simp only [wv] at hcellk
            clear hMk
            go_wp2_with fail
            refine (Priority_noneS _ n _ _ _ k _ HR.out.q hlt HMk.out).mono ?_
            rintro e w9 ⟨rfl, rfl⟩
            go_wp2
            go_roundw
            case rel => exact ⟨k + 1, by omega, by go_num, HR⟩
            case measure => simp [intOf]; omega
          | some r =>
            have HMk := Lib.hid hMk
            rw [hMk] at hcellk
            simp only [wv] at hcellk
            have hr0 : (0 : Int) ≤ r.toNat := by omega
            have hr1 : (r.toNat : Int) < 256 := by have := r.toNat_lt; omega
            have hrw := u8_wrap r
            clear hMk
            go_wp2_with fail
            refine (Priority_someS _ n _ _ _ k r _ HR.out.q hlt HMk.out).mono ?_
            rintro e w9 ⟨rfl, hg9⟩
            have HR9 := Lib.hid (HR.out.gr hg9)
            have hcell9 := (hg9.cell _ k HR.out.r.lt).trans hcellk
            clear hcellk hg9
            go_wp2_with fail
            refine (letter_any r _).mono ?_
            rintro e w10 ⟨rfl, hg10⟩
            have HR10 := Lib.hid (HR9.out.gr hg10)
            clear hg10
            go_wp2
            go_roundw
            case rel => exact ⟨k + 1, by omega, by go_num, HR10⟩
            case measure => simp [intOf]; omega
        · obtain rfl : k = n := by omega
          have hexit : ¬ (k : Int) < k := by omega
          have hI1' : (I : Int) < k := by omega
          go_wp2_with fail
          refine (Remove_okS _ k _ _ _ I q _ HR.out.q hI HX.out.2).mono ?_
          rintro e w11 ⟨rfl, q11, m11⟩
          have HQ11 := Lib.hid (HR.out.mdh' q11 m11)
          clear q11 m11
          go_wp2_with fail
          refine (Remove_noneS _ k _ _ _ I _ HQ11.out.q hI (upd_same _ _ _)).mono ?_
          rintro e w12 ⟨rfl, rfl⟩
          go_wp2_with fail
          refine (letter_any q _).mono ?_
          rintro e w13 ⟨rfl, hg13⟩
          have HQ13 := Lib.hid (HQ11.out.gr hg13)
          clear hg13
          go_wp2_with fail
          refine (Change_noneS _ k _ _ _ I _ _ HQ13.out.q hI (upd_same _ _ _)).mono ?_
          rintro e w14 ⟨rfl, rfl⟩
          have hcell14 := HQ13.out.cell hI
          have hfr14 := HQ13.out.r.fr
          have HQ15 := Lib.hid (HQ13.out.set hI none)
          simp only [wv] at HQ15
          go_wp2_with fail
          refine (LenS _ _ _ _ _ _ HQ15.out.q).mono ?_
          rintro e w16 ⟨rfl, rfl⟩
          go_wp2_with fail
          refine (count_any _ _ _ _ HQ15.out.r (by omega)).mono ?_
          rintro e w17 ⟨rfl, rfl⟩
          rw [HQ15.out.q.count]
          go_wp2_with fail
          refine (works_any _).mono ?_
          rintro e w18 ⟨rfl, hg18⟩
          go_wp2
          go_ret
          exact ⟨rfl, HQ15.out.g.trans hg18⟩
    | some p0 =>
      have HM := Lib.hid hM
      rw [hM] at hcell
      simp only [wv] at hcell
      have hpp : (0 : Int) ≤ p0.toNat := by omega
      clear hM
      go_wp2_with fail
      refine (letter_any p _).mono ?_
      rintro e w3 ⟨rfl, hg3⟩
      have HQ3 := Lib.hid (HQ.out.gr hg3)
      go_wp2_with fail
      refine (Push_haveS _ n qlen M S I _ _ HQ3.out.q hI (by rw [HM.out]; simp)).mono ?_
      rintro e w4 ⟨rfl, rfl⟩
      go_wp2_with fail
      refine (letter_any q _).mono ?_
      rintro e w5 ⟨rfl, hg5⟩
      have HQ5 := Lib.hid (HQ3.out.gr hg5)
      go_wp2_with fail
      refine (Change_okS _ n _ _ S I q _ HQ5.out.q hI (by rw [HM.out]; simp)).mono ?_
      rintro e w6 ⟨rfl, q', m'⟩
      have HQ6 := Lib.hid (HQ5.out.mdh' q' m')
      clear q' m'
      have hcell6 := HQ6.out.cell hI
      have hfr6 := HQ6.out.r.fr
      rw [HM.out] at hcell6
      simp only [wv] at hcell6
      obtain ⟨L, Mx, Sx, HX⟩ : ∃ L Mx Sx, Hid (SQ w (w6.setCell ⟨gw, I, none⟩ (.int .i64 (wv (some q)))) bq gw n L Mx Mx Sx ∧ Mx I = some q) :=
        ⟨_, _, _, Lib.hid ⟨HQ6.out.set hI (some q), upd_same _ _ _⟩⟩
      simp only [wv] at HX
      clear hg3 hg5 hcell hfr HM HQ HQ3 HQ5 HQ6
      go_wp2_with fail
      go_loopw [15] (fun t15 wx => ∃ k : Nat, k ≤ n ∧ t15 = .int .i64 k ∧ Hid (SQ w wx bq gw n L Mx Mx Sx)) (fun t15 _ => n - (intOf t15).toNat)
      case atStart => exact ⟨0, by omega, rfl, Lib.hid HX.out.1⟩
      case round =>
        obtain ⟨k, hk, rfl, HR⟩ := hrel
        by_cases hlt : k < n
        · have hlt' : (k : Int) < n := by omega
          have hcellk := HR.out.cell hlt
          cases hMk : Mx k with
          | none =>
            have HMk := Lib.hid hMk
            rw [hMk] at hcellk
            simp only [wv] at hcellk
            clear hMk
            go_wp2_with fail
            refine (Priority_noneS _ n _ _ _ k _ HR.out.q hlt HMk.out).mono ?_
            rintro e w9 ⟨rfl, rfl⟩
            go_wp2
            go_roundw
            case rel => exact ⟨k + 1, by omega, by go_num, HR⟩
            case measure => simp [intOf]; omega
          | some r =>
            have HMk := Lib.hid hMk
            rw [hMk] at hcellk
            simp only [wv] at hcellk
            have hr0 : (0 : Int) ≤ r.toNat := by omega
            have hr1 : (r.toNat : Int) < 256 := by have := r.toNat_lt; omega
            have hrw := u8_wrap r
            clear hMk
            go_wp2_with fail
            refine (Priority_someS _ n _ _ _ k r _ HR.out.q hlt HMk.out).mono ?_
            rintro e w9 ⟨rfl, hg9⟩
            have HR9 := Lib.hid (HR.out.gr hg9)
            have hcell9 := (hg9.cell _ k HR.out.r.lt).trans hcellk
            clear hcellk hg9
            go_wp2_with fail
            refine (letter_any r _).mono ?_
            rintro e w10 ⟨rfl, hg10⟩
            have HR10 := Lib.hid (HR9.out.gr hg10)
            clear hg10
            go_wp2
            go_roundw
            case rel => exact ⟨k + 1, by omega, by go_num, HR10⟩
            case measure => simp [intOf]; omega
        · obtain rfl : k = n := by omega
          have hexit : ¬ (k : Int) < k := by omega
          have hI1' : (I : Int) < k := by omega
          go_wp2_with fail
          refine (Remove_okS _ k _ _ _ I q _ HR.out.q hI HX.out.2).mono ?_
          rintro e w11 ⟨rfl, q11, m11⟩
          have HQ11 := Lib.hid (HR.out.mdh' q11 m11)
          clear q11 m11
          go_wp2_with fail
          refine (Remove_noneS _ k _ _ _ I _ HQ11.out.q hI (upd_same _ _ _)).mono ?_
          rintro e w12 ⟨rfl, rfl⟩
          go_wp2_with fail
          refine (letter_any q _).mono ?_
          rintro e w13 ⟨rfl, hg13⟩
          have HQ13 := Lib.hid (HQ11.out.gr hg13)
          clear hg13
          go_wp2_with fail
          refine (Change_noneS _ k _ _ _ I _ _ HQ13.out.q hI (upd_same _ _ _)).mono ?_
          rintro e w14 ⟨rfl, rfl⟩
          have hcell14 := HQ13.out.cell hI
          have hfr14 := HQ13.out.r.fr
          have HQ15 := Lib.hid (HQ13.out.set hI none)
          simp only [wv] at HQ15
          go_wp2_with fail
          refine (LenS _ _ _ _ _ _ HQ15.out.q).mono ?_
          rintro e w16 ⟨rfl, rfl⟩
          go_wp2_with fail
          refine (count_any _ _ _ _ HQ15.out.r (by omega)).mono ?_
          rintro e w17 ⟨rfl, rfl⟩
          rw [HQ15.out.q.count]
          go_wp2_with fail
          refine (works_any _).mono ?_
          rintro e w18 ⟨rfl, hg18⟩
          go_wp2
          go_ret
          exact ⟨rfl, HQ15.out.g.trans hg18⟩
  · have hb : id < 0 ∨ (n : Int) ≤ id := by omega
    have HB := Lib.hid hb
    rcases bad_or hin with h | ⟨h, h'⟩
    all_goals
      clear hin hb
      go_wp2_with fail
      refine (letter_any p _).mono ?_
      rintro e w3 ⟨rfl, hg3⟩
      have HQ3 := Lib.hid (HQ.out.gr hg3)
      go_wp2_with fail
      refine (Push_badS _ n qlen M S id _ _ HQ3.out.q HB.out).mono ?_
      rintro e w4 ⟨rfl, rfl⟩
      go_wp2_with fail
      refine (letter_any q _).mono ?_
      rintro e w5 ⟨rfl, hg5⟩
      have HQ5 := Lib.hid (HQ3.out.gr hg5)
      go_wp2_with fail
      refine (Change_badS _ n _ _ S id _ _ HQ5.out.q HB.out).mono ?_
      rintro e w6 ⟨rfl, rfl⟩
      obtain ⟨L, Mx, Sx, HX⟩ : ∃ L Mx Sx, Hid (SQ w w5 bq gw n L Mx Mx Sx ∧ True) := ⟨_, _, _, Lib.hid ⟨HQ5.out, trivial⟩⟩
      clear hg3 hg5 HQ HQ3 HQ5
      go_wp2_with fail
      go_loopw [15] (fun t15 wx => ∃ k : Nat, k ≤ n ∧ t15 = .int .i64 k ∧ Hid (SQ w wx bq gw n L Mx Mx Sx)) (fun t15 _ => n - (intOf t15).toNat)
      case atStart => exact ⟨0, by omega, rfl, Lib.hid HX.out.1⟩
      case round =>
        obtain ⟨k, hk, rfl, HR⟩ := hrel
        by_cases hlt : k < n
        · have hlt' : (k : Int) < n := by omega
          have hcellk := HR.out.cell hlt
          cases hMk : Mx k with
          | none =>
            have HMk := Lib.hid hMk
            rw [hMk] at hcellk
            simp only [wv] at hcellk
            clear hMk
            go_wp2_with fail
            refine (Priority_noneS _ n _ _ _ k _ HR.out.q hlt HMk.out).mono ?_
            rintro e w9 ⟨rfl, rfl⟩
            go_wp2
            go_roundw
            case rel => exact ⟨k + 1, by omega, by go_num, HR⟩
            case measure => simp [intOf]; omega
          | some r =>
            have HMk := Lib.hid hMk
            rw [hMk] at hcellk
            simp only [wv] at hcellk
            have hr0 : (0 : Int) ≤ r.toNat := by omega
            have hr1 : (r.toNat : Int) < 256 := by have := r.toNat_lt; omega
            have hrw := u8_wrap r
            clear hMk
            go_wp2_with fail
            refine (Priority_someS _ n _ _ _ k r _ HR.out.q hlt HMk.out).mono ?_
            rintro e w9 ⟨rfl, hg9⟩
            have HR9 := Lib.hid (HR.out.gr hg9)
            have hcell9 := (hg9.cell _ k HR.out.r.lt).trans hcellk
            clear hcellk hg9
            go_wp2_with fail
            refine (letter_any r _).mono ?_
            rintro e w10 ⟨rfl, hg10⟩
            have HR10 := Lib.hid (HR9.out.gr hg10)
            clear hg10
            go_wp2
            go_roundw
            case rel => exact ⟨k + 1, by omega, by go_num, HR10⟩
            case measure => simp [intOf]; omega
        · obtain rfl : k = n := by omega
          have hexit : ¬ (k : Int) < k := by omega
          go_wp2_with fail
          refine (LenS _ _ _ _ _ _ HR.out.q).mono ?_
          rintro e w16 ⟨rfl, rfl⟩
          go_wp2_with fail
          refine (count_any _ _ _ _ HR.out.r (by omega)).mono ?_
          rintro e w17 ⟨rfl, rfl⟩
          rw [HR.out.q.count]
          go_wp2_with fail
          refine (works_any _).mono ?_
          rintro e w18 ⟨rfl, hg18⟩
          go_wp2
          go_ret
          exact ⟨rfl, HR.out.g.trans hg18⟩
end Go.Proofs.Ythialloenkbpnaa
