/- Contracts of a queue's Remove, Pop and Copy, at the priorities string. Written from YPqG.base by inst.py. -/
import Derived.Test.YthialloenkbpnaaPqFS
import Derived.Laws.Tables
set_option linter.unusedVariables false
set_option linter.unusedSimpArgs false
namespace Go.Proofs.Ythialloenkbpnaa
open Go.RowKit
attribute [local go_sem] OvM cell_ovm obj_ovm

set_option maxRecDepth 40000 in
set_option maxHeartbeats 1000000 in
theorem Remove_badS (b n len : Nat) (M : Nat → Option UInt8) (S : Nat → Prop) (id : Int) (w : World) (q : QRS w b n len M S) (h : id < 0 ∨ (n : Int) ≤ id) :
    Calls Try.prog 20 #[.pointer (some ⟨b, 0, none⟩), .int .i64 id] w fun e w' => e = .returned (.tuple #[.string ⟨#[]⟩, .bool false]) ∧ w = w' := by
  go_enter Try.func20, Try.ntmps20
  go_wp2_with (go_at_call 19; refine (Priority_badS _ _ _ _ _ _ _ q h).mono ?_; rintro e w1 ⟨rfl, rfl⟩)
  go_ret2
  exact ⟨rfl, rfl⟩
set_option maxRecDepth 40000 in
set_option maxHeartbeats 1000000 in
theorem Remove_noneS (b n len : Nat) (M : Nat → Option UInt8) (S : Nat → Prop) (id : Nat) (w : World) (q : QRS w b n len M S) (h : id < n) (h' : M id = none) :
    Calls Try.prog 20 #[.pointer (some ⟨b, 0, none⟩), .int .i64 id] w fun e w' => e = .returned (.tuple #[.string ⟨#[]⟩, .bool false]) ∧ w = w' := by
  have H' := Lib.hid h'
  clear h'
  go_enter Try.func20, Try.ntmps20
  go_wp2_with (go_at_call 19; refine (Priority_noneS _ _ _ _ _ _ _ q h H'.out).mono ?_; rintro e w1 ⟨rfl, rfl⟩)
  go_ret2
  exact ⟨rfl, rfl⟩

set_option maxRecDepth 40000 in
set_option maxHeartbeats 2000000 in
theorem Remove_okS (b n len : Nat) (M : Nat → Option UInt8) (S : Nat → Prop) (id : Nat) (p : UInt8) (w : World) (q : QRS w b n len M S) (hid : id < n) (h' : M id = some p) :
    Calls Try.prog 20 #[.pointer (some ⟨b, 0, none⟩), .int .i64 id] w fun e w' => e = .returned (.tuple #[.string ⟨#[p]⟩, .bool true]) ∧ QRS w' b n (len - 1) (upd M id none) S ∧ Mdh S w w' := by
  obtain ⟨cap, g, pl, h, i, k, hM, rfl, hi, hhi, hpl⟩ := q.find hid h'
  obtain ⟨last, rfl⟩ : ∃ l, len = l + 1 := ⟨len - 1, by omega⟩
  have hn := q.1
  have hn2 := q.2.1
  have H3 := Lib.hid q.2.2.1
  have HH := Lib.hid h'
  have hidb : (id : Int) < 1024 := by omega
  have hle := k.c.r.le
  have hmx := k.c.r.most
  unfold maxLen at hmx
  have hfew := k.p.few
  have HK := Lib.hid k
  have HM := Lib.hid hM
  have HPL := Lib.hid hpl
  have HHI := Lib.hid hhi
  have e1 : IntKind.i64.wrap ((i : Int) + 1 - 1) = i := by rw [IntKind.wrap_i64]; omega
  have e2 : IntKind.i64.wrap ((last : Int) + 1 - 1) = last := by rw [IntKind.wrap_i64]; omega
  have HQR := Lib.hid q
  clear hpl k hM q h' hhi
  go_enter Try.func20, Try.ntmps20
  go_wp2_with fail
  refine (Priority_someS _ _ _ _ _ _ p _ HQR.out hid HH.out).mono ?_
  rintro e w1 ⟨rfl, hg⟩
  have HC1 := Lib.hid (HK.out.c.gr hg)
  have HG1 := Lib.hid hg
  have q1 := HC1.out.q.c1
  have hp := HC1.out.q.cp id (by omega)
  rw [HPL.out] at hp
  have hp' : w1.cell? ⟨b, 2 + id, none⟩ = some (.int .i64 ((i : Int) + 1)) := by rw [hp]; rfl
  clear hp hg
  go_upto_region 4 with fail
  refine wp_region_flo (fun _ => False) [] [] (by kernel_rfl) (by kernel_rfl) (fun _ h => h.elim) ?_
  refine flo_seg 15 rfl ?_
  simp only [List.take_succ_cons, List.take_zero, List.drop_succ_cons, List.drop_zero]
  repeat (go_big_quiet_step (fail))
  refine wpQuiet_nil ?_
  refine flo_nil ?_
  go_wp2_with fail
  refine (swapS b n (last + 1) cap g pl h i last _ (HC1.out.gr (Gr.drew (Gr.refl _))) HK.out.p hi (by omega)).mono ?_
  rintro e w2 ⟨⟨v, rfl⟩, hqc, hm2⟩
  have HC2 := Lib.hid hqc
  have HM2 : Hid (Mdh (QS b g) w w2) := Lib.hid (((Mdh.refl (QS b g) w).gr HG1.out).drew.trans hm2)
  have q21 := hqc.q.c1
  have q2p := hqc.q.cp id (by omega)
  have q2f := hqc.q.fr
  have eid : (swpH h i last last).1 = id := by rw [swpH_at, if_pos rfl, HHI.out]
  have HP1 := Lib.hid (HK.out.p.swp hi (show last < last + 1 by omega))
  have HP2 : Hid (PI n last (swpH h i last) (upd (swpP h pl i last) id 0)) := Lib.hid (by have := HP1.out.cut; rw [eid] at this; exact this)
  have HMo : Hid (∀ m, m < 1024 → Mo (swpH h i last) (upd (swpP h pl i last) id 0) m = upd M id none m) := Lib.hid (fun m hm => by
    have e := HP1.out.mo_cut m
    rw [eid] at e
    rw [e, HK.out.p.mo_swp hi (show last < last + 1 by omega) m hm]
    unfold upd
    split
    · rfl
    · exact (HM.out m hm).symm)
  have HC3 : Hid (QCS ((w2.setCell ⟨b, 1, none⟩ (.slice (some ⟨g, 0, none⟩) last cap)).setCell ⟨b, 2 + id, none⟩ (.int .i64 0)) b n last cap g (upd (swpP h pl i last) id 0) (swpH h i last)) :=
    Lib.hid ⟨(hqc.q.setHv _).setPl' (by omega) 0 rfl, ((hqc.r.less (Nat.le_succ last)).other (fun e => hqc.ne e.symm) _).other (fun e => hqc.ne e.symm) _, hqc.ne⟩
  have HM3 : Hid (Mdh (QS b g) w ((w2.setCell ⟨b, 1, none⟩ (.slice (some ⟨g, 0, none⟩) last cap)).setCell ⟨b, 2 + id, none⟩ (.int .i64 0))) := Lib.hid ((HM2.out.setCell (.inl rfl) _).setCell (.inl rfl) _)
  have H3' : Hid (∀ m, n ≤ m → upd M id none m = none) := Lib.hid (fun m hm => by unfold upd; split; rfl; exact H3.out m hm)
  have hlc : (last : Int) ≤ cap := by omega
  clear hqc eid q1 hp'
  by_cases hil : i < last
  · have HU := Lib.hid ((HK.out.k.less (Nat.le_succ last)).up ordrS (h' := swpH h i last) (fun j hj hn => by rw [swpH_at, if_neg (by omega), if_neg hn]) hil)
    have hil' : (i : Int) < last := by omega
    go_wp2_with fail
    refine (settleS b n last cap g _ _ i _ HC3.out HP2.out HU.out hil).mono ?_
    rintro e w3 ⟨⟨v, rfl⟩, pl', h2, hqk, hmo, hm3⟩
    go_wp2
    go_ret2
    refine ⟨rfl, ⟨hn, hn2, H3'.out, .inr ⟨cap, g, pl', h2, hqk, fun m hm' => ?_, rfl⟩⟩, HM3.out.trans hm3⟩
    rw [hmo m hm', HMo.out m hm']
  · have hil' : ¬ (i : Int) < last := by omega
    go_wp2
    go_ret2
    refine ⟨rfl, ⟨hn, hn2, H3'.out, .inr ⟨cap, g, _, _, ⟨HC3.out, HP2.out, ?_⟩, fun m hm' => (HMo.out m hm').symm, rfl⟩⟩, HM3.out⟩
    exact (HK.out.k.less (Nat.le_succ last)).congr (fun j hj => by rw [swpH_at, if_neg (by omega), if_neg (by omega)])

set_option maxRecDepth 40000 in
set_option maxHeartbeats 1000000 in
theorem Pop_noneS (b n : Nat) (M : Nat → Option UInt8) (S : Nat → Prop) (w : World) (q : QRS w b n 0 M S) :
    Calls Try.prog 17 #[.pointer (some ⟨b, 0, none⟩)] w fun e w' => e = .returned (.tuple #[.int .i64 0, .string ⟨#[]⟩, .bool false]) ∧ w = w' := by
  go_enter Try.func17, Try.ntmps17
  go_wp2_with (go_at_call 50; refine (Peek_noneS _ _ _ _ _ q).mono ?_; rintro e w1 ⟨rfl, rfl⟩)
  go_ret3
  exact ⟨rfl, rfl⟩
set_option maxRecDepth 40000 in
set_option maxHeartbeats 1000000 in
theorem Pop_someS (b n len : Nat) (M : Nat → Option UInt8) (S : Nat → Prop) (w : World) (q : QRS w b n len M S) (hl : 0 < len) :
    Calls Try.prog 17 #[.pointer (some ⟨b, 0, none⟩)] w fun e w' => ∃ (i : Nat) (p : UInt8), e = .returned (.tuple #[.int .i64 i, .string ⟨#[p]⟩, .bool true]) ∧ i < n ∧ IsMinS M i p ∧ QRS w' b n (len - 1) (upd M i none) S ∧ Mdh S w w' := by
  have HQ := Lib.hid q
  clear q
  go_enter Try.func17, Try.ntmps17
  go_wp2_with fail
  refine (Peek_someS _ _ _ _ _ _ HQ.out hl).mono ?_
  rintro e w1 ⟨i, p, rfl, hi, hmin, hg⟩
  have HMIN := Lib.hid hmin
  have HQ1 := Lib.hid (HQ.out.gr hg)
  clear hmin
  go_wp2_with fail
  refine (Remove_okS _ _ _ _ _ i p _ HQ1.out hi HMIN.out.1).mono ?_
  rintro e w2 ⟨rfl, hq, hm⟩
  go_wp2
  go_ret3
  exact ⟨i, p, rfl, hi, HMIN.out, hq, ((Mdh.refl S w).gr hg).trans hm⟩

end Go.Proofs.Ythialloenkbpnaa
