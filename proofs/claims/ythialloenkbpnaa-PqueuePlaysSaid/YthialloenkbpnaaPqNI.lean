/- Contracts of a queue's Len and Change, at the priorities int. Written from YPqN.base by inst.py. -/
import Derived.Test.YthialloenkbpnaaPqGI
set_option linter.unusedVariables false
set_option linter.unusedSimpArgs false
namespace Go.Proofs.Ythialloenkbpnaa
open Go.RowKit
attribute [local go_sem] OvM cell_ovm obj_ovm

set_option maxRecDepth 40000 in
set_option maxHeartbeats 1000000 in
theorem LenI (b n len : Nat) (M : Nat → Option Int) (S : Nat → Prop) (w : World) (q : QRI w b n len M S) :
    Calls Try.prog 56 #[.pointer (some ⟨b, 0, none⟩)] w fun e w' => e = .returned (.int .i64 len) ∧ w = w' := by
  obtain ⟨hv, pl, qb, _, a, cap, rfl⟩ := q.open
  have hn := q.1
  have q1 := qb.c1
  have hd : decide (0 < n) = true := by simp [hn]
  go_enter Try.func56, Try.ntmps56
  go_wp2_with (go_at_call 85; refine (validI _ _ _ _ _ qb).mono ?_; rintro e w1 ⟨rfl, rfl⟩)
  go_ret
  exact ⟨rfl, rfl⟩

set_option maxRecDepth 40000 in
set_option maxHeartbeats 1000000 in
theorem Change_badI (b n len : Nat) (M : Nat → Option Int) (S : Nat → Prop) (id : Int) (v : Value) (w : World) (q : QRI w b n len M S) (h : id < 0 ∨ (n : Int) ≤ id) :
    Calls Try.prog 53 #[.pointer (some ⟨b, 0, none⟩), .int .i64 id, v] w fun e w' => e = .returned (.int .i64 3) ∧ w = w' := by
  obtain ⟨hv, pl, qb, _⟩ := q.open
  have hn := q.1
  have hc : chkQ n id = 3 := by unfold chkQ; rw [if_neg (by omega), if_pos h]
  go_enter Try.func53, Try.ntmps53
  go_wp2_with (go_at_call 83; refine (checkI _ _ _ _ _ _ qb).mono ?_; rintro e w1 ⟨rfl, rfl⟩)
  go_ret
  exact ⟨rfl, rfl⟩


set_option maxRecDepth 40000 in
set_option maxHeartbeats 1000000 in
theorem Change_noneI (b n len : Nat) (M : Nat → Option Int) (S : Nat → Prop) (id : Nat) (v : Value) (w : World) (q : QRI w b n len M S) (h : id < n) (h' : M id = none) :
    Calls Try.prog 53 #[.pointer (some ⟨b, 0, none⟩), .int .i64 id, v] w fun e w' => e = .returned (.int .i64 5) ∧ w = w' := by
  obtain ⟨hv, pl, qb, hM, _⟩ := q.open
  have hn := q.1
  have hn2 := q.2.1
  have hc : chkQ n id = 0 := by unfold chkQ; rw [if_neg (by omega), if_neg (by omega)]
  have hp := qb.cp id (by omega)
  rw [(hM id (by omega)).2 h'] at hp
  have hidb : (id : Int) < 1024 := by omega
  go_enter Try.func53, Try.ntmps53
  go_wp2_with (go_at_call 83; refine (checkI _ _ _ _ _ _ qb).mono ?_; rintro e w1 ⟨rfl, rfl⟩)
  go_ret
  exact ⟨rfl, rfl⟩

set_option maxRecDepth 40000 in
set_option maxHeartbeats 1000000 in
theorem Change_okI (b n len : Nat) (M : Nat → Option Int) (S : Nat → Prop) (id : Nat) (p : Int) (w : World) (q : QRI w b n len M S) (hid : id < n) (h' : M id ≠ none) :
    Calls Try.prog 53 #[.pointer (some ⟨b, 0, none⟩), .int .i64 id, .int .i64 (p)] w fun e w' => e = .returned (.int .i64 0) ∧ QRI w' b n len (upd M id (some p)) S ∧ Mdh S w w' := by
  obtain ⟨p0, hp0⟩ := Option.ne_none_iff_exists'.1 h'
  obtain ⟨cap, g, pl, h, i, k, hM, rfl, hi, hhi, hpl⟩ := q.find hid hp0
  have hn := q.1
  have hn2 := q.2.1
  have H3 := Lib.hid q.2.2.1
  have hc : chkQ n id = 0 := by unfold chkQ; rw [if_neg (by omega), if_neg (by omega)]
  have hp := k.c.q.cp id (by omega)
  rw [hpl] at hp
  have hp' : w.cell? ⟨b, 2 + id, none⟩ = some (.int .i64 ((i : Int) + 1)) := by rw [hp]; rfl
  have hidb : (id : Int) < 1024 := by omega
  have hi' : (i : Int) < len := by omega
  have q1 := k.c.q.c1
  have r1 := k.c.r.c1 i hi
  have rf := k.c.r.fr
  have hle := k.c.r.le
  have hmx := k.c.r.most
  unfold maxLen at hmx
  have hfew := k.p.few
  have HK := Lib.hid k
  have HM := Lib.hid hM
  have HPL := Lib.hid hpl
  have HQ := Lib.hid k.c.q
  have ehi : (h i).1 = id := by rw [hhi]
  have HEI := Lib.hid ehi
  have HU := Lib.hid (k.k.up ordrI (h' := upd h i ((h i).1, p)) (fun j _ hj => upd_ne _ _ _ hj) hi)
  have HP2 := Lib.hid (k.p.chg (i := i) p)
  have HC2 : Hid (QCI (w.setCell ⟨g, i * 2 + 1, none⟩ (.int .i64 (p))) b n len cap g pl (upd h i ((h i).1, p))) := Lib.hid ⟨k.c.q.other k.c.ne _, k.c.r.set1 hi p, k.c.ne⟩
  clear hp hpl k hM q h' hp0 hhi ehi
  go_enter Try.func53, Try.ntmps53
  go_wp2_with (go_at_call 83; refine (checkI _ _ _ _ _ _ HQ.out).mono ?_; rintro e w1 ⟨rfl, rfl⟩)
  refine (settleI b n len cap g pl _ i _ HC2.out HP2.out HU.out hi).mono ?_
  rintro e w3 ⟨⟨v, rfl⟩, pl', h2, hqk, hmo, hm3⟩
  go_wp2
  go_ret
  refine ⟨rfl, ⟨hn, hn2, fun m hm' => ?_, .inr ⟨cap, g, pl', h2, hqk, fun m hm' => ?_, rfl⟩⟩, ?_⟩
  · rw [upd_ne _ _ _ (by omega)]; exact H3.out m hm'
  · have e := HK.out.p.mo_chg (id := id) (by omega) (by rw [HPL.out]; omega) p m hm'
    rw [HPL.out, show i + 1 - 1 = i by omega] at e
    rw [hmo m hm', e]
    unfold upd
    split
    · rfl
    · exact HM.out m hm'
  · exact ((Mdh.refl (QS b g) w).setCell (.inr rfl) _).trans hm3

end Go.Proofs.Ythialloenkbpnaa
