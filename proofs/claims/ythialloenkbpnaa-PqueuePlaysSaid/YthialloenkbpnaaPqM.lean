/- Contracts of the helpers of chapter 4's laws: letter, made, count. -/
import Derived.Test.YthialloenkbpnaaPqNS
import Derived.Laws.BytesArg
set_option linter.unusedVariables false
set_option linter.unusedSimpArgs false
namespace Go.Proofs.Ythialloenkbpnaa
open Go.RowKit
attribute [local go_sem] OvM cell_ovm obj_ovm

set_option maxRecDepth 40000 in
theorem letter_any (c : UInt8) (w : World) : Calls Try.prog 15 #[.int .u8 (c.toNat : Int)] w fun e w' => e = .returned (.string ⟨#[c]⟩) ∧ Gr w w' := by
  go_enter Try.func15, Try.ntmps15
  have hs : strOfNums [(c.toNat : Int)] = ⟨#[c]⟩ := by simp [strOfNums]
  have hcv : ∀ w1 : World, w1.cell? ⟨w.heap.size, 0, none⟩ = some (.int .u8 (c.toNat : Int)) → (convert 108 9 (.slice (some ⟨w.heap.size, 0, none⟩) 1 1)).run Try.prog w1 = .ok (.string ⟨#[c]⟩) w1 := fun w1 hw1 => by
    have := run_convert_bytes_arg (P := Try.prog) (w := w1) 108 5 Try.underlying108 Try.underlying5 w.heap.size 0 1 1 [(c.toNat : Int)] rfl (by
      intro i hi
      obtain rfl : i = 0 := by omega
      simpa using hw1) 9 Try.underlying9
    rw [hs] at this
    exact this
  clear hs
  go_wp2
  go_ret
  exact ⟨rfl, by (repeat (first | (with_reducible exact Gr.refl _) | assumption | (with_reducible apply Gr.from_drew) | (with_reducible apply Gr.alloc) | (with_reducible apply Gr.drew) | (with_reducible refine Gr.trans ?_ (by assumption)) | (with_reducible refine Gr.setCell ?_ (by omega) _)))⟩

/-- What a law notes of an id. -/
def wv : Option UInt8 → Int
  | none => -1
  | some c => c.toNat
theorem wv_nonneg (x : Option UInt8) : 0 ≤ wv x ↔ x ≠ none := by
  cases x with
  | none => simp [wv]
  | some c => simp [wv]

theorem wv_upd (M : Nat → Option UInt8) (I : Nat) (x : Option UInt8) (i : Nat) : Value.int .i64 (wv (upd M I x i)) = updV (fun i => .int .i64 (wv (M i))) I (.int .i64 (wv x)) i := by
  unfold updV upd
  split <;> rfl
theorem wv_same (M : Nat → Option UInt8) (I : Nat) (h : M I = none) (i : Nat) : Value.int .i64 (wv (M i)) = updV (fun i => .int .i64 (wv (M i))) I (.int .i64 (-1)) i := by
  unfold updV
  split
  · rename_i e; rw [e, h]; rfl
  · rfl
/-- The turns lie in w. -/
abbrev Tn := Bool × UInt8 × UInt8
def TurnsAt (w : World) (a : Option Addr) (l : List Tn) : Prop :=
  ∀ i, i < l.length → ∃ b off, a = some ⟨b, off, none⟩ ∧ b < w.heap.size ∧ w.cell? ⟨b, off + i * 3, none⟩ = some (.bool (l[i]?.getD (false, 0, 0)).1) ∧ w.cell? ⟨b, off + i * 3 + 1, none⟩ = some (.int .u8 ((l[i]?.getD (false, 0, 0)).2.1.toNat : Int)) ∧
    w.cell? ⟨b, off + i * 3 + 2, none⟩ = some (.int .u8 ((l[i]?.getD (false, 0, 0)).2.2.toNat : Int))

theorem Try.infoInt : (Try.prog.info? 3).map (fun i => (i.zero, i.size, i.bytes)) = some (some (.int .i64 0), 1, 8) := by kernel_rfl

def MadePost (w : World) (e : Ending) (w' : World) : Prop := ∃ (bq gw n qlen : Nat) (M : Nat → Option UInt8) (S : Nat → Prop),
  e = .returned (.tuple #[.pointer (some ⟨bq, 0, none⟩), .slice (some ⟨gw, 0, none⟩) n n]) ∧ QRS w' bq n qlen M S ∧ CRow w' 3 gw n (fun i => .int .i64 (wv (M i))) ∧ (∀ k, S k → w.heap.size ≤ k) ∧ w.heap.size ≤ gw ∧ ¬ S gw ∧ n ≤ 50 ∧ Gr w w'

set_option maxRecDepth 40000 in
set_option maxHeartbeats 2000000 in
theorem made_any (c : UInt8) (a : Option Addr) (len cap : Nat) (l : List Tn) (w : World) (hl : l.length = len) (hle : len ≤ cap) (hcap : cap ≤ maxLen) (hs : TurnsAt w a l) :
    Calls Try.prog 12 #[.int .u8 (c.toNat : Int), .slice a len cap] w (MadePost w) := by
  obtain ⟨i0, hi, hz0, hz1, hz2⟩ := info_parts Try.infoInt
  have hc : (c.toNat : Int) < 256 := by have := c.toNat_lt; omega
  obtain ⟨n, hn⟩ : ∃ n : Nat, (n : Int) = 1 + (c.toNat : Int) % 50 := ⟨1 + c.toNat % 50, by omega⟩
  have hn1 : 1 ≤ n := by omega
  have hn2 : n ≤ 50 := by omega
  unfold maxLen at hcap
  have HL := Lib.hid hl
  have HS := Lib.hid hs
  have HN := Lib.hid hn
  clear hl hs hn
  go_enter Try.func12, Try.ntmps12
  go_wp2_with fail
  rw [← HN.out]
  refine (NewS n w (by omega) (by omega)).mono ?_
  rintro e w1 ⟨rfl, hq, hg⟩
  rw [Int.toNat_natCast] at hq
  have HQ := Lib.hid hq
  have HG := Lib.hid hg
  clear hq hg
  go_wp2_with (at_make; refine wpList_make_full _ rfl _ _ 25 rfl w1.heap.size 3 i0 _ 1 Try.underlying25 hi hz0 hz1 _ _ _ _ n rfl rfl rfl rfl (by rw [hz2]; omega) (by simp only [maxLen]; omega) (Nat.le_refl _) ?_; intro w2 hown hgr; have HO := Lib.hid (Own.lift hown); have HG2 := Lib.hid hgr; clear hown hgr)
  obtain ⟨gw, hgw⟩ : ∃ gw, gw = w1.heap.size := ⟨_, rfl⟩
  have hbq : w.heap.size < gw := by rw [hgw]; exact HQ.out.lt
  rw [← hgw]
  have HW0 : Hid (CRow w2 3 gw n (fun _ => .int .i64 0)) := Lib.hid (by
    have := HO.out
    rw [← hgw] at this
    exact CRow.ofOwn this (fun i hi => made_get _ n i hi))
  have HG3 : Hid (Gr w1 w2) := Lib.hid ⟨HG2.out.os, HG2.out.tape, HG2.out.output, HG2.out.size, fun k hk => HG2.out.block k hk (by simp)⟩
  have HGW := Lib.hid hgw
  clear hgw
  go_loopw [10] (fun t10 wx => ∃ k : Nat, k ≤ n ∧ t10 = .int .i64 k ∧ CRow wx 3 gw n (fun j => .int .i64 (if j < k then -1 else 0)) ∧ Gr w1 wx) (fun t10 _ => n - (intOf t10).toNat)
  case atStart => exact ⟨0, by omega, rfl, HW0.out.congr (fun i _ => by simp), HG3.out⟩
  case round =>
    obtain ⟨k, hk, rfl, hrow, hg⟩ := hrel
    clear HG2 HO HW0 HG3
    have HR := Lib.hid hrow
    have HG4 := Lib.hid hg
    clear hg
    by_cases hlt : k < n
    · have hlt' : (k : Int) < n := by omega
      have hcell := hrow.cell k hlt
      have hfr := hrow.fr
      have HR2 : Hid (CRow (wr.setCell ⟨gw, k, none⟩ (.int .i64 (-1))) 3 gw n (fun j => .int .i64 (if j < k + 1 then -1 else 0))) := Lib.hid ((hrow.set hlt (.int .i64 (-1))).congr (fun j _ => by
        unfold updV
        by_cases e : j = k
        · subst e; simp
        · simp only [e, if_false]
          by_cases h : j < k
          · simp [h, show j < k + 1 by omega]
          · simp [h, show ¬ j < k + 1 by omega]))
      clear hrow
      go_wp2
      go_roundw
      case rel => exact ⟨k + 1, by omega, by go_num, HR2.out, HG4.out.setCell (by rw [HGW.out]; exact Nat.le_refl _) _⟩
      case measure => simp [intOf]; omega
    · have hlt' : ¬ (k : Int) < n := by omega
      obtain ⟨wo, rfl⟩ : ∃ wo : World, wo = wr := ⟨_, rfl⟩
      clear hrow
      go_wp2
      go_loopw [11] (fun t11 wx => ∃ (k qlen : Nat) (M : Nat → Option UInt8) (S : Nat → Prop), k ≤ len ∧ t11 = .int .i64 k ∧ QRS wx w.heap.size n qlen M S ∧ CRow wx 3 gw n (fun i => .int .i64 (wv (M i))) ∧ Hid ((∀ k, S k → w.heap.size ≤ k) ∧ ¬ S gw ∧ Gr w wx)) (fun t11 _ => len - (intOf t11).toNat)
      case atStart =>
        refine ⟨0, 0, fun _ => none, fun k => k = w.heap.size, by omega, rfl, ⟨by omega, by omega, fun _ _ => rfl, .inl ⟨rfl, ⟨_, HQ.out.gr HG4.out, fun _ _ => rfl⟩, fun _ => rfl, rfl⟩⟩, HR.out.congr (fun i hi => ?_), Lib.hid ⟨fun k hk => by omega, by omega, HG.out.trans HG4.out⟩⟩
        simp [wv, show i < k by omega]
      case round =>
        obtain ⟨k', qlen, M, S, hk', rfl, hq, hrow, H⟩ := hrel
        have HQ2 := Lib.hid hq
        have HW2 := Lib.hid hrow
        by_cases hlt2 : k' < len
        · obtain ⟨t, ht⟩ : ∃ t, t = l[k']?.getD (false, 0, 0) := ⟨_, rfl⟩
          obtain ⟨d, x, p⟩ := t
          have hT := HS.out k' (by rw [HL.out]; exact hlt2)
          rw [← ht] at hT
          obtain ⟨b, off, rfl, hb, x1, x2, x3⟩ := hT
          have y1 := (H.out.2.2.cell _ (off + k' * 3) hb).trans x1
          have y2 := (H.out.2.2.cell _ (off + k' * 3 + 1) hb).trans x2
          have y3 := (H.out.2.2.cell _ (off + k' * 3 + 2) hb).trans x3
          simp only at y1 y2 y3
          obtain ⟨I, eI⟩ : ∃ I : Nat, (x.toNat : Int) % n = I := ⟨x.toNat % n, by simp⟩
          have hI : I < n := by have := Int.emod_lt_of_pos (x.toNat : Int) (show (0 : Int) < n by omega); omega
          have hlt2' : (k' : Int) < len := by omega
          have hI' : (I : Int) < n := by omega
          have hcell := hrow.cell I hI
          have hfr := hrow.fr
          have hx0 : (0 : Int) ≤ x.toNat := by omega
          have hx1 : (x.toNat : Int) < 256 := by have := x.toNat_lt; omega
          have hpx0 : (0 : Int) ≤ p.toNat := by omega
          have hpx1 : (p.toNat : Int) < 256 := by have := p.toNat_lt; omega
          clear x1 x2 x3 ht hq hrow
          have HGN : Hid (w.heap.size ≤ gw) := Lib.hid (by omega)
          cases hM : M I with
          | none =>
            have HM := Lib.hid hM
            rw [hM] at hcell
            simp only [wv] at hcell
            have HR3 := Lib.hid ((HW2.out.set hI (.int .i64 (-1))).congr (fun i _ => wv_same M I HM.out i))
            cases d with
            | true =>
              clear hM
              go_wp2_with fail
              refine (Remove_noneS _ n qlen M S I _ HQ2.out hI HM.out).mono ?_
              rintro e w3 ⟨rfl, rfl⟩
              go_wp2
              go_roundw
              case rel => exact ⟨k' + 1, qlen, M, S, by omega, by go_num, HQ2.out.set H.out.2.1 _, HR3.out, Lib.hid ⟨H.out.1, H.out.2.1, H.out.2.2.setCell HGN.out _⟩⟩
              case measure => simp [intOf]; omega
            | false =>
              clear hM
              go_wp2_with fail
              refine (letter_any p _).mono ?_
              rintro e w3 ⟨rfl, hg3⟩
              have HQ3 := Lib.hid (HQ2.out.gr hg3)
              have HG5 := Lib.hid hg3
              clear hg3
              go_wp2_with fail
              refine (Push_okS _ n qlen M S I p _ HQ3.out hI HM.out).mono ?_
              rintro e w4 ⟨rfl, S', hq4, hm4, hs4⟩
              have HQ4 := Lib.hid hq4
              have HS4 : Hid ((∀ k, S' k → w.heap.size ≤ k) ∧ ¬ S' gw ∧ Gr w w4) := Lib.hid ⟨fun k hk => (hs4 k hk).elim (H.out.1 k) (fun y => Nat.le_trans (H.out.2.2.trans HG5.out).sz y), fun hk => (hs4 _ hk).elim H.out.2.1 (fun y => by have h1 := (HW2.out.gr HG5.out).lt; omega), (H.out.2.2.trans HG5.out).md hm4 H.out.1⟩
              have HW4 := Lib.hid ((HW2.out.gr HG5.out).mdh hm4 H.out.2.1)
              have hcell4 := HW4.out.cell I hI
              have hfr4 := HW4.out.fr
              rw [HM.out] at hcell4
              simp only [wv] at hcell4
              have y3' := (HS4.out.2.2.cell _ (off + k' * 3 + 2) hb).trans ((H.out.2.2.cell _ (off + k' * 3 + 2) hb).symm.trans y3)
              have HR5 : Hid (CRow (w4.setCell ⟨gw, I, none⟩ (.int .i64 (p.toNat : Int))) 3 gw n (fun i => .int .i64 (wv (upd M I (some p) i)))) := Lib.hid ((HW4.out.set hI (.int .i64 (wv (some p)))).congr (fun i _ => wv_upd M I (some p) i))
              clear hq4 hm4 hs4 hcell hfr y1 y2 y3
              go_wp2
              go_roundw
              case rel => exact ⟨k' + 1, _, _, S', by omega, by go_num, HQ4.out.set HS4.out.2.1 _, HR5.out, Lib.hid ⟨HS4.out.1, HS4.out.2.1, HS4.out.2.2.setCell HGN.out _⟩⟩
              case measure => simp [intOf]; omega
          | some p0 =>
            have HM := Lib.hid hM
            rw [hM] at hcell
            simp only [wv] at hcell
            have hp0 : (0 : Int) ≤ p0.toNat := by omega
            cases d with
            | true =>
              clear hM
              go_wp2_with fail
              refine (Remove_okS _ n qlen M S I p0 _ HQ2.out hI HM.out).mono ?_
              rintro e w3 ⟨rfl, hq3, hm3⟩
              have HQ3 := Lib.hid hq3
              have HG3 : Hid (Gr w w3) := Lib.hid (H.out.2.2.md hm3 H.out.1)
              have HW3 := Lib.hid (HW2.out.mdh hm3 H.out.2.1)
              have hcell3 := HW3.out.cell I hI
              have hfr3 := HW3.out.fr
              rw [HM.out] at hcell3
              simp only [wv] at hcell3
              have HR3 := Lib.hid ((HW3.out.set hI (.int .i64 (-1))).congr (fun i _ => wv_upd M I none i))
              clear hq3 hm3 hcell hfr y1 y2 y3
              go_wp2
              go_roundw
              case rel => exact ⟨k' + 1, _, _, S, by omega, by go_num, HQ3.out.set H.out.2.1 _, HR3.out, Lib.hid ⟨H.out.1, H.out.2.1, HG3.out.setCell HGN.out _⟩⟩
              case measure => simp [intOf]; omega
            | false =>
              clear hM
              go_wp2_with fail
              refine (letter_any p _).mono ?_
              rintro e w3 ⟨rfl, hg3⟩
              have HQ3 := Lib.hid (HQ2.out.gr hg3)
              have HG5 := Lib.hid hg3
              clear hg3
              go_wp2_with fail
              refine (Change_okS _ n qlen M S I p _ HQ3.out hI (by rw [HM.out]; simp)).mono ?_
              rintro e w4 ⟨rfl, hq4, hm4⟩
              have HQ4 := Lib.hid hq4
              have HG4' : Hid (Gr w w4) := Lib.hid ((H.out.2.2.trans HG5.out).md hm4 H.out.1)
              have HW4 := Lib.hid ((HW2.out.gr HG5.out).mdh hm4 H.out.2.1)
              have hcell4 := HW4.out.cell I hI
              have hfr4 := HW4.out.fr
              rw [HM.out] at hcell4
              simp only [wv] at hcell4
              have y3' := (HG4'.out.cell _ (off + k' * 3 + 2) hb).trans ((H.out.2.2.cell _ (off + k' * 3 + 2) hb).symm.trans y3)
              have HR5 : Hid (CRow (w4.setCell ⟨gw, I, none⟩ (.int .i64 (p.toNat : Int))) 3 gw n (fun i => .int .i64 (wv (upd M I (some p) i)))) := Lib.hid ((HW4.out.set hI (.int .i64 (wv (some p)))).congr (fun i _ => wv_upd M I (some p) i))
              clear hq4 hm4 hcell hfr y1 y2 y3
              go_wp2
              go_roundw
              case rel => exact ⟨k' + 1, _, _, S, by omega, by go_num, HQ4.out.set H.out.2.1 _, HR5.out, Lib.hid ⟨H.out.1, H.out.2.1, HG4'.out.setCell HGN.out _⟩⟩
              case measure => simp [intOf]; omega
        · have hlt2' : ¬ (k' : Int) < len := by omega
          clear hq hrow
          go_wp2
          go_ret2
          exact ⟨_, gw, n, qlen, M, S, rfl, HQ2.out, HW2.out, H.out.1, by omega, H.out.2.1, hn2, H.out.2.2⟩
end Go.Proofs.Ythialloenkbpnaa
