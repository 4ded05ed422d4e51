/- PqueueSame, walked. -/
import Derived.Test.YthialloenkbpnaaPqM
import Derived.Test.YthialloenkbpnaaPqW
import Derived.Deep.LoopGhost
namespace Go.Proofs.Ythialloenkbpnaa
open Go.RowKit
attribute [local go_sem] OvM cell_ovm obj_ovm

theorem QRS.none_all {w : World} {b n len : Nat} {M : Nat → Option UInt8} {S : Nat → Prop} (q : QRS w b n len M S) (h : len = 0) : ∀ m, M m = none := by
  subst h
  obtain ⟨h1, h2, h3, ⟨_, _, h5, rfl⟩ | ⟨cap, g, pl, h, k, h4, rfl⟩⟩ := q
  · exact h5
  · intro m
    by_cases hm : m < 1024
    · rw [h4 m hm]
      unfold Mo
      split
      · rfl
      · rename_i hp
        have := (k.p.bwd m hm hp).1
        omega
    · exact h3 m (by omega)
theorem QRS.len_zero {w : World} {b n len : Nat} {M : Nat → Option UInt8} {S : Nat → Prop} (q : QRS w b n len M S) (h : ∀ m, M m = none) : len = 0 := by
  obtain ⟨h1, h2, h3, ⟨e, _, h5, rfl⟩ | ⟨cap, g, pl, h', k, h4, rfl⟩⟩ := q
  · exact e
  · refine Classical.byContradiction fun hl => ?_
    have i0 := k.p.inr 0 (by omega)
    have e := h4 (h' 0).1 (by omega)
    rw [h] at e
    unfold Mo at e
    rw [if_neg (by rw [k.p.fwd 0 (by omega)]; omega)] at e
    cases e
theorem QRS.len_pos {w : World} {b n len : Nat} {M : Nat → Option UInt8} {S : Nat → Prop} (q : QRS w b n len M S) {i : Nat} {p : UInt8} (h : M i = some p) : 0 < len := by
  refine Classical.byContradiction fun hl => ?_
  rw [q.none_all (by omega) i] at h
  cases h

theorem u8_wrap (c : UInt8) : IntKind.u8.wrap (c.toNat : Int) = (c.toNat : Int) := by
  have := c.toNat_lt
  rw [IntKind.wrap_u8]
  omega

set_option maxRecDepth 40000 in
set_option maxHeartbeats 2000000 in
theorem PqueueSame_any (c f : UInt8) (a : Option Addr) (len cap : Nat) (l : List Tn) (w : World) (hl : l.length = len) (hle : len ≤ cap) (hcap : cap ≤ maxLen) (hs : TurnsAt w a l) :
    Calls Try.prog 3 #[.int .u8 (c.toNat : Int), .slice a len cap, .int .u8 (f.toNat : Int)] w fun e w' => e = .returned (.bool true) ∧ Gr w w' := by
  by_cases hlong : (150 : Int) < len
  · go_enter Try.func3, Try.ntmps3
    go_wp2_with fail
    refine (works_any _).mono ?_
    rintro e w1 ⟨rfl, hg⟩
    go_wp2
    go_ret
    exact ⟨rfl, hg⟩
  have HS := Lib.hid hs
  have HL := Lib.hid hl
  clear hs hl
  go_enter Try.func3, Try.ntmps3
  go_wp2_with fail
  refine (made_any c a len cap l _ HL.out hle hcap HS.out).mono ?_
  rintro e w1 ⟨bq, gw, n, qlen, M, S, rfl, hq, hrow, hS, hgw, hSg, hn50, hg⟩
  have hn1 := hq.1
  have HQ := Lib.hid hq
  have HW := Lib.hid hrow
  have HG := Lib.hid hg
  have HSS := Lib.hid hS
  clear hq hrow hg hS
  go_wp2_with fail
  refine (NewS n w1 (by omega) (by omega)).mono ?_
  rintro e w2 ⟨rfl, hq2, hg2⟩
  rw [Int.toNat_natCast] at hq2
  have HQ2 : Hid (QRS w2 w1.heap.size n 0 (fun _ => none) (fun k => k = w1.heap.size)) := Lib.hid ⟨by omega, by omega, fun _ _ => rfl, .inl ⟨rfl, ⟨_, hq2, fun _ _ => rfl⟩, fun _ => rfl, rfl⟩⟩
  have HG2 := Lib.hid hg2
  clear hq2 hg2
  have hf0 : (0 : Int) ≤ f.toNat := by omega
  have hf1 : (f.toNat : Int) < 256 := by have := f.toNat_lt; omega
  go_wp2_with fail
  go_loopw [11] (fun t11 wx => ∃ (k rlen : Nat) (Mr : Nat → Option UInt8) (Sr : Nat → Prop), k ≤ n ∧ t11 = .int .i64 k ∧ Hid (QRS wx w1.heap.size n rlen Mr Sr ∧ (∀ k, Sr k → w1.heap.size ≤ k) ∧ (∀ j, (∃ i, i < k ∧ (i + f.toNat) % n = j) → Mr j = M j) ∧ (∀ j, ¬ (∃ i, i < k ∧ (i + f.toNat) % n = j) → Mr j = none) ∧ Gr w1 wx)) (fun t11 _ => n - (intOf t11).toNat)
  case atStart => exact ⟨0, 0, fun _ => none, _, by omega, rfl, Lib.hid ⟨HQ2.out, fun k hk => by omega, fun j ⟨i, hi, _⟩ => by omega, fun _ _ => rfl, HG2.out⟩⟩
  case round =>
    obtain ⟨k, rlen, Mr, Sr, hk, rfl, H⟩ := hrel
    clear HQ2 HG2
    by_cases hlt : k < n
    · obtain ⟨I, eI⟩ : ∃ I : Nat, ((k : Int) + f.toNat) % n = I := ⟨(k + f.toNat) % n, by simp⟩
      have hIn : (k + f.toNat) % n = I := by have : (((k + f.toNat) % n : Nat) : Int) = I := by rw [← eI]; simp
                                             omega
      have hI : I < n := by rw [← hIn]; exact Nat.mod_lt _ (by omega)
      have HIN := Lib.hid hIn
      have hlt' : (k : Int) < n := by omega
      have hI' : (I : Int) < n := by omega
      have hrow := HW.out.gr H.out.2.2.2.2
      have hcell := hrow.cell I hI
      have hMrI : Hid (Mr I = none) := Lib.hid (H.out.2.2.2.1 I (fun ⟨i, hi, e⟩ => by
        have h1 : (i + f.toNat) % n = (k + f.toNat) % n := by rw [e, HIN.out]
        have h2 := Nat.sub_mod_eq_zero_of_mod_eq h1.symm
        have h3 : k + f.toNat - (i + f.toNat) = k - i := by omega
        rw [h3] at h2
        have := Nat.le_of_dvd (by omega) (Nat.dvd_of_mod_eq_zero h2)
        omega))
      clear hIn hrow
      have ext1 : Hid (∀ M' : Nat → Option UInt8, (∀ j, j ≠ I → M' j = Mr j) → M' I = M I → (∀ j, (∃ i, i < k + 1 ∧ (i + f.toNat) % n = j) → M' j = M j) ∧ (∀ j, ¬ (∃ i, i < k + 1 ∧ (i + f.toNat) % n = j) → M' j = none)) := Lib.hid (fun M' h1 h2 => ⟨fun j ⟨i, hi, e⟩ => by
          by_cases hj : j = I
          · rw [hj]; exact h2
          · rw [h1 j hj]
            refine H.out.2.2.1 j ⟨i, ?_, e⟩
            by_cases hik : i = k
            · subst hik; exact absurd (e.symm.trans HIN.out) hj
            · omega, fun j hj => by
          have hjI : j ≠ I := fun e => hj ⟨k, by omega, by rw [e]; exact HIN.out⟩
          rw [h1 j hjI]
          exact H.out.2.2.2.1 j (fun ⟨i, hi, e⟩ => hj ⟨i, by omega, e⟩)⟩)
      cases hM : M I with
      | none =>
        have HM := Lib.hid hM
        rw [hM] at hcell
        simp only [wv] at hcell
        clear hM
        go_wp2
        go_roundw
        case rel => exact ⟨k + 1, rlen, Mr, Sr, by omega, by go_num, Lib.hid ⟨H.out.1, H.out.2.1, (ext1.out Mr (fun _ _ => rfl) (by rw [hMrI.out, HM.out])).1, (ext1.out Mr (fun _ _ => rfl) (by rw [hMrI.out, HM.out])).2, H.out.2.2.2.2⟩⟩
        case measure => simp [intOf]; omega
      | some p =>
        have HM := Lib.hid hM
        rw [hM] at hcell
        simp only [wv] at hcell
        have hp0 : (0 : Int) ≤ p.toNat := by omega
        have hp1 : (p.toNat : Int) < 256 := by have := p.toNat_lt; omega
        have hpw := u8_wrap p
        clear hM
        go_wp2_with fail
        refine (letter_any p _).mono ?_
        rintro e w3 ⟨rfl, hg3⟩
        have HG3 := Lib.hid hg3
        go_wp2_with fail
        refine (Push_okS _ n rlen Mr Sr I p _ (H.out.1.gr HG3.out) hI hMrI.out).mono ?_
        rintro e w4 ⟨rfl, S', q', m', hs'⟩
        have HQ4 := Lib.hid q'
        have HM4 := Lib.hid m'
        have HS4 := Lib.hid hs'
        clear q' m' hs'
        go_wp2
        go_roundw
        case rel =>
          have hz := HG3.out.sz
          have hz2 := H.out.2.2.2.2.sz
          refine ⟨k + 1, rlen + 1, upd Mr I (some p), S', by omega, by go_num, Lib.hid ⟨HQ4.out, fun x hx => ?_, (ext1.out (upd Mr I (some p)) (fun j hj => by simp [upd, hj]) (by simp [upd, HM.out])).1, (ext1.out (upd Mr I (some p)) (fun j hj => by simp [upd, hj]) (by simp [upd, HM.out])).2, (H.out.2.2.2.2.trans HG3.out).md HM4.out H.out.2.1⟩⟩
          rcases HS4.out x hx with h | h
          · exact H.out.2.1 x h
          · omega
        case measure => simp [intOf]; omega
    · have hk' : k = n := by omega
      subst hk'
      have HMr : Hid (∀ j, Mr j = M j) := Lib.hid (fun j => by
        by_cases hj : j < k
        · refine H.out.2.2.1 j ⟨(j + k * 256 - f.toNat) % k, Nat.mod_lt _ (by omega), ?_⟩
          have hmul : k * 256 = 256 * k := Nat.mul_comm _ _
          have h256 : 256 * 1 ≤ 256 * k := Nat.mul_le_mul_left _ (by omega)
          have hf := f.toNat_lt
          have e1 : j + k * 256 - f.toNat + f.toNat = j + k * 256 := by omega
          rw [Nat.mod_add_mod, e1, Nat.add_mul_mod_self_left, Nat.mod_eq_of_lt hj]
        · rw [HQ.out.2.2.1 j (by omega), H.out.1.2.2.1 j (by omega)])
      have hexit : ¬ (k : Int) < k := by omega
      have HR0 : Hid (QRS wr w1.heap.size k rlen M Sr) := Lib.hid (by rw [← (funext HMr.out : Mr = M)]; exact H.out.1)
      have HSR : Hid (∀ x, Sr x → w1.heap.size ≤ x) := Lib.hid H.out.2.1
      have HSL : Hid (∀ x, S x → x < w1.heap.size) := Lib.hid HQ.out.sub
      have HQ0 : Hid (QRS wr bq k qlen M S) := Lib.hid (HQ.out.gr H.out.2.2.2.2)
      have HGW : Hid (w.heap.size ≤ w1.heap.size) := Lib.hid HG.out.sz
      have HG0 : Hid (Gr w wr) := Lib.hid (HG.out.trans H.out.2.2.2.2)
      clear HMr H HW
      go_wp2_with fail
      go_loopg [] qlen (fun g wx => ∃ (M' : Nat → Option UInt8) (rl : Nat), QRS wx bq k g M' S ∧ QRS wx w1.heap.size k rl M' Sr ∧ Gr w wx)
      case atStart => exact ⟨M, rlen, HQ0.out, HR0.out, HG0.out⟩
      case round =>
        obtain ⟨M', rl, hq', hr', hg'⟩ := hrel
        have hn := hq'.1
        have HQ' := Lib.hid hq'
        have HR' := Lib.hid hr'
        have HG' := Lib.hid hg'
        clear hq' hr' hg' HQ0 HR0 HG0 HQ HG
        by_cases hpos : 0 < gk
        · have hposI : (0 : Int) < gk := by omega
          obtain ⟨j, pj, hj⟩ : ∃ j pj, M' j = some pj := by
            refine Classical.byContradiction fun hc => ?_
            have := HQ'.out.len_zero (fun m => by
              cases h : M' m with
              | none => rfl
              | some x => exact absurd ⟨m, x, h⟩ hc)
            omega
          have hrl := HR'.out.len_pos hj
          go_wp2_with (go_at_call 16; refine (LenS _ _ _ _ _ _ HQ'.out).mono ?_; rintro e w5 ⟨rfl, rfl⟩)
          refine (Pop_someS _ _ _ _ _ _ HQ'.out hpos).mono ?_
          rintro e w5 ⟨i1, p1, rfl, hi1, hmin1, hq5, hm5⟩
          have HQ5 := Lib.hid hq5
          have HM5 := Lib.hid hm5
          have HMIN1 := Lib.hid hmin1
          clear hq5 hm5 hmin1
          go_wp2_with fail
          refine (Pop_someS _ _ _ _ _ _ (HR'.out.mdh HM5.out (fun x h1 h2 => by have := HSR.out x h1; have := HSL.out x h2; omega)) hrl).mono ?_
          rintro e w6 ⟨i2, p2, rfl, hi2, hmin2, hq6, hm6⟩
          obtain ⟨rfl, rfl⟩ := HMIN1.out.uniq hmin2
          have HQ6 := Lib.hid hq6
          have HM6 := Lib.hid hm6
          clear hq6 hm6 hmin2
          go_wp2
          go_roundg (gk - 1)
          case rel =>
            refine ⟨upd M' i1 none, rl - 1, HQ5.out.mdh HM6.out (fun x h1 h2 => by have := HSR.out x h2; have := HSL.out x h1; omega), HQ6.out, ?_⟩
            have g5 := HG'.out.md HM5.out HSS.out
            refine g5.md HM6.out (fun x hx => ?_)
            have := HSR.out x hx
            have := HGW.out
            omega
          case measure => omega
        · obtain rfl : gk = 0 := by omega
          obtain rfl := HR'.out.len_zero (HQ'.out.none_all rfl)
          go_wp2_with fail
          refine (LenS _ _ _ _ _ _ HQ'.out).mono ?_
          rintro e w5 ⟨rfl, rfl⟩
          go_wp2_with fail
          refine (LenS _ _ _ _ _ _ HR'.out).mono ?_
          rintro e w5 ⟨rfl, rfl⟩
          go_wp2_with fail
          refine (works_any _).mono ?_
          rintro e w6 ⟨rfl, hg6⟩
          go_wp2
          go_ret
          exact ⟨rfl, HG'.out.trans hg6⟩
end Go.Proofs.Ythialloenkbpnaa
