/- PqueueCopies, walked. -/
import Derived.Test.YthialloenkbpnaaPqO
import Derived.Test.YthialloenkbpnaaPqW
import Derived.Test.YthialloenkbpnaaPqHS
import Derived.Test.YthialloenkbpnaaPqL2
import Derived.Deep.LoopGhost
namespace Go.Proofs.Ythialloenkbpnaa
open Go.RowKit
attribute [local go_sem] OvM cell_ovm obj_ovm

/-- Push, whatever it answers. -/
theorem Push_anyS (b n len : Nat) (M : Nat → Option UInt8) (S : Nat → Prop) (id : Nat) (p : UInt8) (w : World) (q : QRS w b n len M S) (hid : id < n) :
    Calls Try.prog 14 #[.pointer (some ⟨b, 0, none⟩), .int .i64 id, .string ⟨#[p]⟩] w fun e w' => ∃ v, e = .returned v ∧ Mdh S w w' := by
  cases h : M id with
  | none => exact (Push_okS b n len M S id p w q hid h).mono fun e w' ⟨he, S', q', m, _⟩ => ⟨_, he, m⟩
  | some x => exact (Push_haveS b n len M S id _ w q hid (by rw [h]; simp)).mono fun e w' ⟨he, hw⟩ => ⟨_, he, by subst hw; exact Mdh.refl _ _⟩
/-- Pop, whatever it answers. -/
theorem Pop_anyS (b n len : Nat) (M : Nat → Option UInt8) (S : Nat → Prop) (w : World) (q : QRS w b n len M S) :
    Calls Try.prog 17 #[.pointer (some ⟨b, 0, none⟩)] w fun e w' => ∃ v, e = .returned v ∧ ∃ len' M', (0 < len → len' < len) ∧ QRS w' b n len' M' S ∧ Mdh S w w' := by
  by_cases h : 0 < len
  · exact (Pop_someS b n len M S w q h).mono fun e w' ⟨i, p, he, _, _, q', m⟩ => ⟨_, he, _, _, fun _ => by omega, q', m⟩
  · obtain rfl : len = 0 := by omega
    exact (Pop_noneS b n M S w q).mono fun e w' ⟨he, hw⟩ => ⟨_, he, 0, M, fun h => by omega, by subst hw; exact q, by subst hw; exact Mdh.refl _ _⟩

set_option maxRecDepth 40000 in
set_option maxHeartbeats 4000000 in
theorem PqueueCopies_any (c f : UInt8) (a : Option Addr) (len cap : Nat) (l : List Tn) (w : World) (hl : l.length = len) (hle : len ≤ cap) (hcap : cap ≤ maxLen) (hs : TurnsAt w a l) :
    Calls Try.prog 6 #[.int .u8 (c.toNat : Int), .slice a len cap, .int .u8 (f.toNat : Int)] w fun e w' => e = .returned (.bool true) ∧ Gr w w' := by
  by_cases hlong : (100 : Int) < len
  · go_enter Try.func6, Try.ntmps6
    go_wp2_with fail
    refine (works_any _).mono ?_
    rintro e w1 ⟨rfl, hg⟩
    go_wp2
    go_ret
    exact ⟨rfl, hg⟩
  have HS := Lib.hid hs
  have HL := Lib.hid hl
  clear hs hl
  have hf0 : (0 : Int) ≤ f.toNat := by omega
  have hf1 : (f.toNat : Int) < 256 := by have := f.toNat_lt; omega
  go_enter Try.func6, Try.ntmps6
  go_wp2_with fail
  refine (made_any c a len cap l _ HL.out hle hcap HS.out).mono ?_
  rintro e w1 ⟨bq, gw, n, L, Mx, Sx, rfl, hq, hrow, hS, hgw, hSg, hn50, hg⟩
  have hn1 := hq.1
  have HQ : Hid (SQ w w1 bq gw n L Mx Mx Sx) := Lib.hid ⟨hq, hrow, hS, hSg, hgw, hg⟩
  clear hq hg hS hrow hSg
  go_wp2_with fail
  refine (CopyS bq n L Mx Sx _ HQ.out.q).mono ?_
  rintro e w2 ⟨bc, Sc, rfl, hc, hSc, hg2⟩
  have HF : Hid (∀ k, Sc k → ¬ Sx k ∧ k ≠ gw ∧ w.heap.size ≤ k) := Lib.hid (fun k hk => by
    have h1 := hSc k hk
    have h2 := HQ.out.q.sub
    have h3 := HQ.out.r.lt
    have h4 := HQ.out.g.sz
    exact ⟨fun h => by have := h2 k h; omega, by omega, by omega⟩)
  have HC := Lib.hid hc
  have HQ2 := Lib.hid (HQ.out.gr hg2)
  clear hc hg2 hSc
  go_wp2_with fail
  go_loopw [10] (fun t10 wx => ∃ (k Lc : Nat) (Mc : Nat → Option UInt8), k ≤ f.toNat ∧ t10 = .int .i64 k ∧ Hid (SQ w wx bq gw n L Mx Mx Sx ∧ QRS wx bc n Lc Mc Sc)) (fun t10 _ => f.toNat - (intOf t10).toNat)
  case atStart => exact ⟨0, L, Mx, by omega, rfl, Lib.hid ⟨HQ2.out, HC.out⟩⟩
  case round =>
    obtain ⟨k0, Lc, Mc, hk0, rfl, H⟩ := hrel
    clear HQ2 HC
    by_cases hlt0 : k0 < f.toNat
    · have hlt0' : (k0 : Int) < f.toNat := by omega
      go_wp2_with fail
      refine (Pop_anyS bc n Lc Mc Sc _ H.out.2).mono ?_
      rintro e w3 ⟨v3, rfl, Lc', Mc', _, q3, m3⟩
      have H3 : Hid (SQ w w3 bq gw n L Mx Mx Sx ∧ QRS w3 bc n Lc' Mc' Sc) := Lib.hid ⟨H.out.1.other m3 HF.out, q3⟩
      clear q3 m3
      go_wp2
      go_roundw
      case rel => exact ⟨k0 + 1, Lc', Mc', by omega, by go_num, H3⟩
      case measure => simp [intOf]; omega
    · have hexit0 : ¬ (k0 : Int) < f.toNat := by omega
      go_wp2_with fail
      refine (Push_anyS bc n Lc Mc Sc 0 120 _ H.out.2 hn1).mono ?_
      rintro e w4 ⟨v4, rfl, m4⟩
      have HX : Hid (SQ w w4 bq gw n L Mx Mx Sx ∧ True) := Lib.hid ⟨H.out.1.other m4 HF.out, trivial⟩
      clear m4
      go_wp2_with fail
      go_loopw [11] (fun t11 wx => ∃ k : Nat, k ≤ n ∧ t11 = .int .i64 k ∧ Hid (SQ w wx bq gw n L Mx Mx Sx)) (fun t11 _ => n - (intOf t11).toNat)
      case atStart => exact ⟨0, by omega, rfl, Lib.hid HX.out.1⟩
      case round =>
        obtain ⟨k, hk, rfl, HR⟩ := hrel
        by_cases hlt : k < n
        · have hlt' : (k : Int) < n := by omega
          have hcellk := HR.out.cell hlt
          cases hMk : Mx k with
          | none =>
            have HMk := Lib.hid hMk
            rw [hMk] at hcellk
            simp only [wv] at hcellk
            clear hMk
            go_wp2_with fail
            refine (Priority_noneS _ n _ _ _ k _ HR.out.q hlt HMk.out).mono ?_
            rintro e w9 ⟨rfl, rfl⟩
            go_wp2
            go_roundw
            case rel => exact ⟨k + 1, by omega, by go_num, HR⟩
            case measure => simp [intOf]; omega
          | some r =>
            have HMk := Lib.hid hMk
            rw [hMk] at hcellk
            simp only [wv] at hcellk
            have hr0 : (0 : Int) ≤ r.toNat := by omega
            have hr1 : (r.toNat : Int) < 256 := by have := r.toNat_lt; omega
            have hrw := u8_wrap r
            clear hMk
            go_wp2_with fail
            refine (Priority_someS _ n _ _ _ k r _ HR.out.q hlt HMk.out).mono ?_
            rintro e w9 ⟨rfl, hg9⟩
            have HR9 := Lib.hid (HR.out.gr hg9)
            have hcell9 := (hg9.cell _ k HR.out.r.lt).trans hcellk
            clear hcellk hg9
            go_wp2_with fail
            refine (letter_any r _).mono ?_
            rintro e w10 ⟨rfl, hg10⟩
            have HR10 := Lib.hid (HR9.out.gr hg10)
            clear hg10
            go_wp2
            go_roundw
            case rel => exact ⟨k + 1, by omega, by go_num, HR10⟩
            case measure => simp [intOf]; omega
        · obtain rfl : k = n := by omega
          have hexit : ¬ (k : Int) < k := by omega
          go_wp2_with fail
          refine (CopyS bq k L Mx Sx _ HR.out.q).mono ?_
          rintro e w11 ⟨bd, Sd, rfl, hd, hSd, hg11⟩
          have HD : Hid (QRS w11 bd k L Mx Sd) := Lib.hid hd
          have HSD : Hid (∀ x, Sd x → ¬ Sx x) := Lib.hid (fun x hx h => by have h1 := hSd x hx; have h2 := HR.out.q.sub x h; omega)
          have HR11 := Lib.hid (HR.out.gr hg11)
          clear hd hSd hg11
          go_wp2_with fail
          go_loopg [] L (fun g wx => ∃ (M' : Nat → Option UInt8), Hid (SQ w wx bq gw k g M' Mx Sx ∧ QRS wx bd k L Mx Sd))
          case atStart => exact ⟨Mx, Lib.hid ⟨HR11.out, HD.out⟩⟩
          case round =>
            obtain ⟨M', H'⟩ := hrel
            clear HR11 HD
            by_cases hpos : 0 < gk
            · have hposI : (0 : Int) < gk := by omega
              go_wp2_with fail
              refine (LenS _ _ _ _ _ _ H'.out.1.q).mono ?_
              rintro e w12 ⟨rfl, rfl⟩
              go_wp2_with fail
              refine (Pop_anyS _ _ _ _ _ _ H'.out.1.q).mono ?_
              rintro e w13 ⟨v13, rfl, L13, M13, hL13, q13, m13⟩
              have H13 : Hid (SQ w w13 bq gw k L13 M13 Mx Sx ∧ QRS w13 bd k L Mx Sd) := Lib.hid ⟨H'.out.1.mdh' q13 m13, H'.out.2.mdh m13 (fun x hx h => HSD.out x hx h)⟩
              have hL := hL13 hpos
              clear q13 m13
              go_wp2
              go_roundg L13
              case rel => exact ⟨M13, H13⟩
              case measure => exact hL
            · obtain rfl : gk = 0 := by omega
              go_wp2_with fail
              refine (LenS _ _ _ _ _ _ H'.out.1.q).mono ?_
              rintro e w12 ⟨rfl, rfl⟩
              go_wp2_with fail
              refine (LenS _ _ _ _ _ _ H'.out.2).mono ?_
              rintro e w13 ⟨rfl, rfl⟩
              go_wp2_with fail
              refine (count_any _ _ _ _ H'.out.1.r (by omega)).mono ?_
              rintro e w14 ⟨rfl, rfl⟩
              rw [H'.out.2.count]
              go_wp2_with fail
              refine (works_any _).mono ?_
              rintro e w15 ⟨rfl, hg15⟩
              go_wp2
              go_ret
              exact ⟨rfl, H'.out.1.g.trans hg15⟩
end Go.Proofs.Ythialloenkbpnaa
