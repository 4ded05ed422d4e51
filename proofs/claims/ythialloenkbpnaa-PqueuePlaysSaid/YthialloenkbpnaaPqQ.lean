/- The reference's queue (drumlinref04): what it is in memory; valid, id, Push, Change, Priority, Remove, Peek, Pop, Len. -/
import Derived.Test.YthialloenkbpnaaPqHL
import Derived.Test.YthialloenkbpnaaPqO
set_option linter.unusedVariables false
set_option linter.unusedSimpArgs false
namespace Go.Proofs.Ythialloenkbpnaa
open Go.RowKit
attribute [local go_sem] OvM cell_ovm obj_ovm

theorem ltL_iff (a b : Nat × Int) : ltL a b ↔ ((a.2) < (b.2) ∨ ((a.2) = (b.2) ∧ a.1 < b.1)) := by
  simp only [ltL, ltbL, decide_eq_true_eq, orL2_neg, cmpZ_neg, cmpZ_zero, cmpZ_neg]
  omega
theorem crow_ne {w : World} {t t' : TypeId} {g g' n n' : Nat} {f f' : Nat → Value} (r : CRow w t g n f) (r' : CRow w t' g' n' f') (h : t ≠ t') : g ≠ g' := by
  rintro rfl
  obtain ⟨cs, h1, _⟩ := r.blk
  obtain ⟨cs', h2, _⟩ := r'.blk
  rw [h1] at h2
  simp only [Option.some.injEq, Obj.cells.injEq] at h2
  exact h h2.2.1
theorem crow_nb {w : World} {t t' : TypeId} {g n b : Nat} {f : Nat → Value} {cs : Array Value} (r : CRow w t g n f) (hb : w.heap[b]? = some (.cells cs t')) (h : t ≠ t') : g ≠ b := by
  rintro rfl
  obtain ⟨cs', h1, _⟩ := r.blk
  rw [h1] at hb
  simp only [Option.some.injEq, Obj.cells.injEq] at hb
  exact h hb.2.1
/-- The reference's queue in the block b: rows of bools and of priorities. -/
structure RQ (w : World) (b n gi ci gp cp : Nat) (M : Nat → Option Int) (P : Nat → Int) : Prop where
  n0 : 0 < n
  n1 : n ≤ 1024
  blk : w.heap[b]? = some (.cells #[.slice (some ⟨gi, 0, none⟩) n ci, .slice (some ⟨gp, 0, none⟩) n cp] 130)
  hi : n ≤ ci ∧ ci ≤ maxLen
  hp : n ≤ cp ∧ cp ≤ maxLen
  ri : CRow w 4 gi n (fun i => .bool (M i).isSome)
  rp : CRow w 2 gp n (fun i => .int .i64 (P i))
  pm : ∀ i p, M i = some p → P i = p
  out : ∀ m, n ≤ m → M m = none
section
variable {w w' : World} {b n gi ci gp cp : Nat} {M : Nat → Option Int} {P : Nat → Int}
theorem RQ.gr (q : RQ w b n gi ci gp cp M P) (g : Gr w w') : RQ w' b n gi ci gp cp M P := { q with blk := g.blk q.blk, ri := q.ri.gr g, rp := q.rp.gr g }
theorem RQ.mdh {S : Nat → Prop} (q : RQ w b n gi ci gp cp M P) (m : Mdh S w w') (h : ∀ k, k = b ∨ k = gi ∨ k = gp → ¬ S k) : RQ w' b n gi ci gp cp M P :=
  { q with blk := m.blk q.blk (h b (.inl rfl)), ri := q.ri.mdh m (h gi (.inr (.inl rfl))), rp := q.rp.mdh m (h gp (.inr (.inr rfl))) }
theorem RQ.ne (q : RQ w b n gi ci gp cp M P) : gi ≠ b ∧ gp ≠ b ∧ gi ≠ gp := ⟨crow_nb q.ri q.blk (by decide), crow_nb q.rp q.blk (by decide), crow_ne q.ri q.rp (by decide)⟩
theorem RQ.c (q : RQ w b n gi ci gp cp M P) : w.cell? ⟨b, 0, none⟩ = some (.slice (some ⟨gi, 0, none⟩) n ci) ∧ w.cell? ⟨b, 1, none⟩ = some (.slice (some ⟨gp, 0, none⟩) n cp) := ⟨(cellsOf q.blk).1 0, (cellsOf q.blk).1 1⟩
/-- An id is in. -/
theorem RQ.setIn (q : RQ w b n gi ci gp cp M P) {i : Nat} (hi : i < n) (p : Int) : RQ ((w.setCell ⟨gi, i, none⟩ (.bool true)).setCell ⟨gp, i, none⟩ (.int .i64 p)) b n gi ci gp cp (upd M i (some p)) (updV P i p) := by
  obtain ⟨h1, h2, h3⟩ := q.ne
  refine { q with blk := blkSetO (blkSetO q.blk h1.symm) h2.symm, ri := ?_, rp := ?_, pm := ?_, out := ?_ }
  · exact ((q.ri.set hi _).other (p := ⟨gp, i, none⟩) h3 _).congr (fun j _ => by
      unfold upd updV
      by_cases e : j = i <;> simp [e])
  · exact ((q.rp.other (p := ⟨gi, i, none⟩) h3.symm _).set hi _).congr (fun j _ => by
      unfold updV
      by_cases e : j = i <;> simp [e])
  · intro j p' hj
    unfold upd at hj
    unfold updV
    split at hj
    · rename_i e; rw [if_pos e]; exact Option.some.inj hj
    · rename_i e; rw [if_neg e]; exact q.pm j p' hj
  · intro m hm
    rw [upd_ne _ _ _ (by omega)]
    exact q.out m hm
theorem RQ.setP (q : RQ w b n gi ci gp cp M P) {i : Nat} (hi : i < n) (p : Int) (hin : (M i).isSome = true) : RQ (w.setCell ⟨gp, i, none⟩ (.int .i64 p)) b n gi ci gp cp (upd M i (some p)) (updV P i p) := by
  obtain ⟨h1, h2, h3⟩ := q.ne
  refine { q with blk := blkSetO q.blk h2.symm, ri := ?_, rp := ?_, pm := ?_, out := ?_ }
  · exact (q.ri.other (p := ⟨gp, i, none⟩) h3 _).congr (fun j _ => by
      unfold upd
      by_cases e : j = i
      · subst e; simp [hin]
      · simp [e])
  · exact (q.rp.set hi _).congr (fun j _ => by
      unfold updV
      by_cases e : j = i <;> simp [e])
  · intro j p' hj
    unfold upd at hj
    unfold updV
    split at hj
    · rename_i e; rw [if_pos e]; exact Option.some.inj hj
    · rename_i e; rw [if_neg e]; exact q.pm j p' hj
  · intro m hm
    rw [upd_ne _ _ _ (by omega)]
    exact q.out m hm
theorem RQ.setOut (q : RQ w b n gi ci gp cp M P) {i : Nat} (hi : i < n) : RQ (w.setCell ⟨gi, i, none⟩ (.bool false)) b n gi ci gp cp (upd M i none) P := by
  obtain ⟨h1, h2, h3⟩ := q.ne
  refine { q with blk := blkSetO q.blk h1.symm, ri := ?_, rp := ?_, pm := ?_, out := ?_ }
  · exact (q.ri.set hi _).congr (fun j _ => by
      unfold upd updV
      by_cases e : j = i <;> simp [e])
  · exact q.rp.other (p := ⟨gi, i, none⟩) h3.symm _
  · intro j p' hj
    unfold upd at hj
    split at hj
    · cases hj
    · exact q.pm j p' hj
  · intro m hm
    rw [upd_ne _ _ _ (by omega)]
    exact q.out m hm
end
/-- What a call on the reference's queue leaves. -/
def RQPost (b n gi ci gp cp : Nat) (M' : Nat → Option Int) (w w' : World) : Prop := (∃ P', RQ w' b n gi ci gp cp M' P') ∧ Mdh (fun k => k = gi ∨ k = gp) w w'

section
variable (b n gi ci gp cp : Nat) (M : Nat → Option Int) (P : Nat → Int) (w : World)
theorem validR (q : RQ w b n gi ci gp cp M P) : Calls Try.prog 78 #[.pointer (some ⟨b, 0, none⟩)] w fun e w' => e = .returned (.bool true) ∧ w = w' := by
  obtain ⟨c0, _⟩ := q.c
  have hn : decide (0 < n) = true := by have := q.n0; simpa using this
  clear q
  go_enter Try.func78, Try.ntmps78
  go_wp2
  go_ret
  exact ⟨rfl, rfl⟩
theorem idR (q : RQ w b n gi ci gp cp M P) (i : Int) (h : 0 ≤ i ∧ i < n) : Calls Try.prog 72 #[.pointer (some ⟨b, 0, none⟩), .int .i64 i] w fun e w' => e = .returned (.int .i64 0) ∧ w = w' := by
  have HQ := Lib.hid q
  obtain ⟨c0, _⟩ := q.c
  have h1 : ¬ i < 0 := by omega
  have h2 : ¬ (n : Int) ≤ i := by omega
  clear q h
  go_enter Try.func72, Try.ntmps72
  go_wp2_with (go_at_call 78; refine (validR _ _ _ _ _ _ _ _ _ HQ.out).mono ?_; rintro e w1 ⟨rfl, rfl⟩)
  go_ret
  exact ⟨rfl, rfl⟩
theorem id_badR (q : RQ w b n gi ci gp cp M P) (i : Int) (h : i < 0 ∨ (n : Int) ≤ i) : Calls Try.prog 72 #[.pointer (some ⟨b, 0, none⟩), .int .i64 i] w fun e w' => e = .returned (.int .i64 3) ∧ w = w' := by
  have HQ := Lib.hid q
  obtain ⟨c0, _⟩ := q.c
  have h' : i < 0 ∨ (¬ i < 0 ∧ (n : Int) ≤ i) := by omega
  clear q h
  rcases h' with h | ⟨h1, h2⟩
  all_goals
    go_enter Try.func72, Try.ntmps72
    go_wp2_with (go_at_call 78; refine (validR _ _ _ _ _ _ _ _ _ HQ.out).mono ?_; rintro e w1 ⟨rfl, rfl⟩)
    go_ret
    exact ⟨rfl, rfl⟩
theorem Push_badR (q : RQ w b n gi ci gp cp M P) (i p : Int) (h : i < 0 ∨ (n : Int) ≤ i) : Calls Try.prog 33 #[.pointer (some ⟨b, 0, none⟩), .int .i64 i, .int .i64 p] w fun e w' => e = .returned (.int .i64 3) ∧ w = w' := by
  have HQ := Lib.hid q
  have HH := Lib.hid h
  clear q h
  go_enter Try.func33, Try.ntmps33
  go_wp2_with (go_at_call 72; refine (id_badR _ _ _ _ _ _ _ _ _ HQ.out _ HH.out).mono ?_; rintro e w1 ⟨rfl, rfl⟩)
  go_ret
  exact ⟨rfl, rfl⟩
theorem Change_badR (q : RQ w b n gi ci gp cp M P) (i p : Int) (h : i < 0 ∨ (n : Int) ≤ i) : Calls Try.prog 35 #[.pointer (some ⟨b, 0, none⟩), .int .i64 i, .int .i64 p] w fun e w' => e = .returned (.int .i64 3) ∧ w = w' := by
  have HQ := Lib.hid q
  have HH := Lib.hid h
  clear q h
  go_enter Try.func35, Try.ntmps35
  go_wp2_with (go_at_call 72; refine (id_badR _ _ _ _ _ _ _ _ _ HQ.out _ HH.out).mono ?_; rintro e w1 ⟨rfl, rfl⟩)
  go_ret
  exact ⟨rfl, rfl⟩
theorem Push_haveR (q : RQ w b n gi ci gp cp M P) (i : Nat) (p : Int) (h : i < n) (hm : M i ≠ none) : Calls Try.prog 33 #[.pointer (some ⟨b, 0, none⟩), .int .i64 i, .int .i64 p] w fun e w' => e = .returned (.int .i64 6) ∧ w = w' := by
  have HQ := Lib.hid q
  obtain ⟨c0, _⟩ := q.c
  have ci' := q.ri.cell i h
  rw [show (M i).isSome = true by cases e : M i; exact absurd e hm; rfl] at ci'
  have h' : (i : Int) < n := by omega
  clear q hm
  go_enter Try.func33, Try.ntmps33
  go_wp2_with (go_at_call 72; refine (idR _ _ _ _ _ _ _ _ _ HQ.out _ (by omega)).mono ?_; rintro e w1 ⟨rfl, rfl⟩)
  go_ret
  exact ⟨rfl, rfl⟩
theorem Push_okR (q : RQ w b n gi ci gp cp M P) (i : Nat) (p : Int) (h : i < n) (hm : M i = none) : Calls Try.prog 33 #[.pointer (some ⟨b, 0, none⟩), .int .i64 i, .int .i64 p] w fun e w' => e = .returned (.int .i64 0) ∧ RQPost b n gi ci gp cp (upd M i (some p)) w w' := by
  have HQ := Lib.hid q
  obtain ⟨c0, c1⟩ := q.c
  have ci' := q.ri.cell i h
  rw [hm] at ci'
  have fi := q.ri.fr i
  have fp := q.rp.fr i
  have cp' := q.rp.cell i h
  obtain ⟨n1, n2, n3⟩ := q.ne
  have h' : (i : Int) < n := by omega
  clear q hm
  go_enter Try.func33, Try.ntmps33
  go_wp2_with (go_at_call 72; refine (idR _ _ _ _ _ _ _ _ _ HQ.out _ (by omega)).mono ?_; rintro e w1 ⟨rfl, rfl⟩)
  go_ret
  exact ⟨rfl, ⟨_, HQ.out.setIn h p⟩, ((Mdh.refl (fun k => k = gi ∨ k = gp) w).setCell (p := ⟨gi, i, none⟩) (.inl rfl) _).setCell (p := ⟨gp, i, none⟩) (.inr rfl) _⟩
theorem Change_noneR (q : RQ w b n gi ci gp cp M P) (i : Nat) (p : Int) (h : i < n) (hm : M i = none) : Calls Try.prog 35 #[.pointer (some ⟨b, 0, none⟩), .int .i64 i, .int .i64 p] w fun e w' => e = .returned (.int .i64 5) ∧ w = w' := by
  have HQ := Lib.hid q
  obtain ⟨c0, _⟩ := q.c
  have ci' := q.ri.cell i h
  rw [hm] at ci'
  have h' : (i : Int) < n := by omega
  clear q hm
  go_enter Try.func35, Try.ntmps35
  go_wp2_with (go_at_call 72; refine (idR _ _ _ _ _ _ _ _ _ HQ.out _ (by omega)).mono ?_; rintro e w1 ⟨rfl, rfl⟩)
  go_ret
  exact ⟨rfl, rfl⟩
theorem Change_okR (q : RQ w b n gi ci gp cp M P) (i : Nat) (p : Int) (h : i < n) (hm : M i ≠ none) : Calls Try.prog 35 #[.pointer (some ⟨b, 0, none⟩), .int .i64 i, .int .i64 p] w fun e w' => e = .returned (.int .i64 0) ∧ RQPost b n gi ci gp cp (upd M i (some p)) w w' := by
  have HQ := Lib.hid q
  obtain ⟨c0, c1⟩ := q.c
  have ci' := q.ri.cell i h
  have hs : (M i).isSome = true := by cases e : M i; exact absurd e hm; rfl
  have HS := Lib.hid hs
  rw [hs] at ci'
  have fp := q.rp.fr i
  have cp' := q.rp.cell i h
  have h' : (i : Int) < n := by omega
  clear q hm hs
  go_enter Try.func35, Try.ntmps35
  go_wp2_with (go_at_call 72; refine (idR _ _ _ _ _ _ _ _ _ HQ.out _ (by omega)).mono ?_; rintro e w1 ⟨rfl, rfl⟩)
  go_ret
  exact ⟨rfl, ⟨_, HQ.out.setP h p HS.out⟩, (Mdh.refl (fun k => k = gi ∨ k = gp) w).setCell (p := ⟨gp, i, none⟩) (.inr rfl) _⟩
theorem Priority_badR (q : RQ w b n gi ci gp cp M P) (i : Int) (h : i < 0 ∨ (n : Int) ≤ i) : Calls Try.prog 74 #[.pointer (some ⟨b, 0, none⟩), .int .i64 i] w fun e w' => e = .returned (.tuple #[.int .i64 0, .bool false]) ∧ w = w' := by
  have HQ := Lib.hid q
  have HH := Lib.hid h
  clear q h
  go_enter Try.func74, Try.ntmps74
  go_wp2_with (go_at_call 72; refine (id_badR _ _ _ _ _ _ _ _ _ HQ.out _ HH.out).mono ?_; rintro e w1 ⟨rfl, rfl⟩)
  go_ret2
  exact ⟨rfl, rfl⟩
theorem Priority_noneR (q : RQ w b n gi ci gp cp M P) (i : Nat) (h : i < n) (hm : M i = none) : Calls Try.prog 74 #[.pointer (some ⟨b, 0, none⟩), .int .i64 i] w fun e w' => e = .returned (.tuple #[.int .i64 0, .bool false]) ∧ w = w' := by
  have HQ := Lib.hid q
  obtain ⟨c0, _⟩ := q.c
  have ci' := q.ri.cell i h
  rw [hm] at ci'
  have h' : (i : Int) < n := by omega
  clear q hm
  go_enter Try.func74, Try.ntmps74
  go_wp2_with (go_at_call 72; refine (idR _ _ _ _ _ _ _ _ _ HQ.out _ (by omega)).mono ?_; rintro e w1 ⟨rfl, rfl⟩)
  go_ret2
  exact ⟨rfl, rfl⟩
theorem Priority_someR (q : RQ w b n gi ci gp cp M P) (i : Nat) (p : Int) (h : i < n) (hm : M i = some p) : Calls Try.prog 74 #[.pointer (some ⟨b, 0, none⟩), .int .i64 i] w fun e w' => e = .returned (.tuple #[.int .i64 p, .bool true]) ∧ w = w' := by
  have HQ := Lib.hid q
  obtain ⟨c0, c1⟩ := q.c
  have ci' := q.ri.cell i h
  have cp' := q.rp.cell i h
  rw [q.pm i p hm] at cp'
  rw [hm] at ci'
  have h' : (i : Int) < n := by omega
  clear q hm
  go_enter Try.func74, Try.ntmps74
  go_wp2_with (go_at_call 72; refine (idR _ _ _ _ _ _ _ _ _ HQ.out _ (by omega)).mono ?_; rintro e w1 ⟨rfl, rfl⟩)
  go_ret2
  exact ⟨rfl, rfl⟩
theorem Remove_badR (q : RQ w b n gi ci gp cp M P) (i : Int) (h : i < 0 ∨ (n : Int) ≤ i) : Calls Try.prog 37 #[.pointer (some ⟨b, 0, none⟩), .int .i64 i] w fun e w' => e = .returned (.tuple #[.int .i64 0, .bool false]) ∧ w = w' := by
  have HQ := Lib.hid q
  have HH := Lib.hid h
  clear q h
  go_enter Try.func37, Try.ntmps37
  go_wp2_with (go_at_call 74; refine (Priority_badR _ _ _ _ _ _ _ _ _ HQ.out _ HH.out).mono ?_; rintro e w1 ⟨rfl, rfl⟩)
  go_ret2
  exact ⟨rfl, rfl⟩
theorem Remove_noneR (q : RQ w b n gi ci gp cp M P) (i : Nat) (h : i < n) (hm : M i = none) : Calls Try.prog 37 #[.pointer (some ⟨b, 0, none⟩), .int .i64 i] w fun e w' => e = .returned (.tuple #[.int .i64 0, .bool false]) ∧ w = w' := by
  have HQ := Lib.hid q
  have HH := Lib.hid hm
  clear q hm
  go_enter Try.func37, Try.ntmps37
  go_wp2_with (go_at_call 74; refine (Priority_noneR _ _ _ _ _ _ _ _ _ HQ.out _ h HH.out).mono ?_; rintro e w1 ⟨rfl, rfl⟩)
  go_ret2
  exact ⟨rfl, rfl⟩
theorem Remove_okR (q : RQ w b n gi ci gp cp M P) (i : Nat) (p : Int) (h : i < n) (hm : M i = some p) : Calls Try.prog 37 #[.pointer (some ⟨b, 0, none⟩), .int .i64 i] w fun e w' => e = .returned (.tuple #[.int .i64 p, .bool true]) ∧ RQPost b n gi ci gp cp (upd M i none) w w' := by
  have HQ := Lib.hid q
  have HH := Lib.hid hm
  obtain ⟨c0, c1⟩ := q.c
  have ci' := q.ri.cell i h
  rw [hm] at ci'
  have fi := q.ri.fr i
  have h' : (i : Int) < n := by omega
  clear q hm
  go_enter Try.func37, Try.ntmps37
  go_wp2_with (go_at_call 74; refine (Priority_someR _ _ _ _ _ _ _ _ _ HQ.out _ _ h HH.out).mono ?_; rintro e w1 ⟨rfl, rfl⟩)
  go_ret2
  exact ⟨rfl, ⟨_, HQ.out.setOut h⟩, (Mdh.refl (fun k => k = gi ∨ k = gp) w).setCell (p := ⟨gi, i, none⟩) (.inl rfl) _⟩

set_option maxRecDepth 40000 in
set_option maxHeartbeats 1000000 in
theorem LenR (q : RQ w b n gi ci gp cp M P) : Calls Try.prog 79 #[.pointer (some ⟨b, 0, none⟩)] w fun e w' => e = .returned (.int .i64 (cnt M n : Nat)) ∧ w = w' := by
  have HQ := Lib.hid q
  obtain ⟨c0, c1⟩ := q.c
  have hn1 := q.n1
  clear q
  go_enter Try.func79, Try.ntmps79
  go_wp2
  go_loopw [3, 4] (fun t3 t4 wx => ∃ k C : Nat, k ≤ n ∧ Hid (C = cnt M k) ∧ t3 = .int .i64 C ∧ t4 = .int .i64 k ∧ wx = w) (fun _ t4 _ => n - (intOf t4).toNat)
  case atStart => exact ⟨0, 0, by omega, Lib.hid rfl, rfl, rfl, rfl⟩
  case round =>
    obtain ⟨k, C, hk, HC, rfl, rfl, rfl⟩ := hrel
    have hCk : C ≤ k := by rw [HC.out]; exact cnt_le M k
    by_cases hlt : k < n
    · have hlt' : (k : Int) < n := by omega
      have cI := HQ.out.ri.cell k hlt
      cases hm : M k with
      | none =>
        rw [hm] at cI
        have HM := Lib.hid hm
        clear hm
        go_wp2_with (go_at_call 78; refine (validR _ _ _ _ _ _ _ _ _ HQ.out).mono ?_; rintro e w1 ⟨rfl, rfl⟩)
        go_roundw
        case rel => exact ⟨k + 1, C, by omega, Lib.hid (by rw [cnt_succ, HM.out, HC.out]; rfl), rfl, by go_num, by first | rfl | trivial⟩
        case measure => simp [intOf]; omega
      | some p =>
        rw [hm] at cI
        have HM := Lib.hid hm
        clear hm
        go_wp2_with (go_at_call 78; refine (validR _ _ _ _ _ _ _ _ _ HQ.out).mono ?_; rintro e w1 ⟨rfl, rfl⟩)
        go_roundw
        case rel => exact ⟨k + 1, C + 1, by omega, Lib.hid (by rw [cnt_succ, HM.out, HC.out]; rfl), by go_num, by go_num, by first | rfl | trivial⟩
        case measure => simp [intOf]; omega
    · have hlt' : ¬ (k : Int) < n := by omega
      obtain rfl : k = n := by omega
      go_wp2_with (go_at_call 78; refine (validR _ _ _ _ _ _ _ _ _ HQ.out).mono ?_; rintro e w1 ⟨rfl, rfl⟩)
      go_ret
      exact ⟨by rw [HC.out]; rfl, rfl⟩

/-- The best of the first i. -/
def BestTo (M : Nat → Option Int) (i : Nat) (best : Int) : Prop := (best = -1 ∧ ∀ j, j < i → M j = none) ∨ ∃ (B : Nat) (p : Int), best = B ∧ B < i ∧ M B = some p ∧ ∀ j q, j < i → M j = some q → ¬ ltL (j, q) (B, p)
def PeekPost (n : Nat) (M : Nat → Option Int) (w : World) (e : Ending) (w' : World) : Prop := ((e = .returned (.tuple #[.int .i64 0, .int .i64 0, .bool false]) ∧ ∀ j, M j = none) ∨ ∃ (i : Nat) (p : Int), e = .returned (.tuple #[.int .i64 i, .int .i64 p, .bool true]) ∧ i < n ∧ IsMinL M i p) ∧ Gr w w'

set_option maxRecDepth 40000 in
set_option maxHeartbeats 2000000 in
theorem PeekR (q : RQ w b n gi ci gp cp M P) : Calls Try.prog 75 #[.pointer (some ⟨b, 0, none⟩)] w (PeekPost n M w) := by
  have HQ := Lib.hid q
  have hn1 := q.n1
  have HO := Lib.hid q.out
  clear q
  go_enter Try.func75, Try.ntmps75
  go_wp2
  go_loopw [5, 6] (fun t5 t6 wx => ∃ (k : Nat) (best : Int), k ≤ n ∧ t5 = .int .i64 best ∧ t6 = .int .i64 k ∧ Hid (BestTo M k best ∧ Gr w wx)) (fun _ t6 _ => n - (intOf t6).toNat)
  case atStart => exact ⟨0, -1, by omega, rfl, rfl, Lib.hid ⟨.inl ⟨rfl, fun j hj => by omega⟩, Gr.refl w⟩⟩
  case round =>
    obtain ⟨k, best, hk, rfl, rfl, H⟩ := hrel
    have HQ1 := Lib.hid (HQ.out.gr H.out.2)
    obtain ⟨c0, c1⟩ := HQ1.out.c
    have HG := Gr.refl wr
    by_cases hlt : k < n
    · have hlt' : (k : Int) < n := by omega
      have cI := HQ1.out.ri.cell k hlt
      have cP := HQ1.out.rp.cell k hlt
      cases hm : M k with
      | none =>
        rw [hm] at cI
        have HM := Lib.hid hm
        have HN : Hid (BestTo M (k + 1) best) := Lib.hid (by
          rcases H.out.1 with ⟨h1, h2⟩ | ⟨B, p, h1, h2, h3, h4⟩
          · exact .inl ⟨h1, fun j hj => by
              rcases Nat.lt_or_ge j k with h | h
              · exact h2 j h
              · obtain rfl : j = k := by omega
                exact hm⟩
          · refine .inr ⟨B, p, h1, by omega, h3, fun j q hj hq => ?_⟩
            rcases Nat.lt_or_ge j k with h | h
            · exact h4 j q h hq
            · obtain rfl : j = k := by omega
              rw [hm] at hq; cases hq)
        have hb : -1 ≤ best ∧ best < 1024 := by
          rcases H.out.1 with ⟨h1, _⟩ | ⟨B, p, h1, h2, _⟩ <;> omega
        obtain ⟨hb1, hb2⟩ := hb
        clear hm
        go_wp2_with (go_at_call 78; refine (validR _ _ _ _ _ _ _ _ _ HQ1.out).mono ?_; rintro e w1 ⟨rfl, rfl⟩)
        refine wp_region_flo (fun _ => False) [] [] (by kernel_rfl) (by kernel_rfl) (fun _ h => h.elim) ?_
        refine flo_seg 28 rfl ?_
        simp only [List.take_succ_cons, List.take_zero, List.drop_succ_cons, List.drop_zero]
        repeat (go_big_quiet_step (fail))
        refine wpQuiet_nil ?_
        refine flo_nil ?_
        go_wp2
        go_roundw
        case rel => exact ⟨k + 1, best, by omega, rfl, by go_num, Lib.hid ⟨HN.out, H.out.2.drew⟩⟩
        case measure => simp [intOf]; omega
      | some q =>
        rw [hm] at cI
        rw [HQ1.out.pm k q hm] at cP
        have HM := Lib.hid hm
        have hcase : best = -1 ∧ (∀ j, j < k → M j = none) ∨ ∃ (B : Nat) (p : Int), best = B ∧ B < k ∧ M B = some p ∧ (∀ j q, j < k → M j = some q → ¬ ltL (j, q) (B, p)) := H.out.1
        have HK : Hid (∀ j q', j < k + 1 → M j = some q' → j < k ∨ (j = k ∧ q' = q)) := Lib.hid (fun j q' hj hq => by
          rcases Nat.lt_or_ge j k with h | h
          · exact .inl h
          · obtain rfl : j = k := by omega
            rw [hm] at hq
            exact .inr ⟨rfl, (Option.some.inj hq).symm⟩)
        rcases hcase with ⟨rfl, hno⟩ | ⟨B, p, rfl, hBk, hMB, hall⟩
        · have HN : Hid (BestTo M (k + 1) k) := Lib.hid (.inr ⟨k, q, rfl, by omega, hm, fun j q' hj hq => by
            rcases HK.out j q' hj hq with h | ⟨rfl, rfl⟩
            · rw [hno j h] at hq; cases hq
            · rw [ltL_iff]; simp⟩)
          clear hm hno
          go_wp2_with (go_at_call 78; refine (validR _ _ _ _ _ _ _ _ _ HQ1.out).mono ?_; rintro e w1 ⟨rfl, rfl⟩)
          refine wp_region_flo (fun _ => False) [] [] (by kernel_rfl) (by kernel_rfl) (fun _ h => h.elim) ?_
          refine flo_seg 28 rfl ?_
          simp only [List.take_succ_cons, List.take_zero, List.drop_succ_cons, List.drop_zero]
          repeat (go_big_quiet_step (fail))
          refine wpQuiet_nil ?_
          refine flo_nil ?_
          go_wp2
          go_roundw
          case rel => exact ⟨k + 1, k, by omega, rfl, by go_num, Lib.hid ⟨HN.out, H.out.2.drew⟩⟩
          case measure => simp [intOf]; omega
        · have hBn : (B : Int) < n := by omega
          have cB := HQ1.out.rp.cell B (by omega)
          rw [HQ1.out.pm B p hMB] at cB
          have hB0 : ¬ (B : Int) < 0 := by omega
          have hB0d : decide ((B : Int) < 0) = false := decide_eq_false hB0
          by_cases hqp : q < p
          · have hqd : decide (q < p) = true := decide_eq_true hqp
            have HN : Hid (BestTo M (k + 1) k) := Lib.hid (.inr ⟨k, q, rfl, by omega, hm, fun j q' hj hq => by
              rcases HK.out j q' hj hq with h | ⟨rfl, rfl⟩
              · have := hall j q' h hq
                rw [ltL_iff] at this ⊢
                simp only at this ⊢
                omega
              · rw [ltL_iff]; simp⟩)
            clear hm hMB hall
            go_wp2_with (go_at_call 78; refine (validR _ _ _ _ _ _ _ _ _ HQ1.out).mono ?_; rintro e w1 ⟨rfl, rfl⟩)
            refine wp_region_flo (fun _ => False) [] [] (by kernel_rfl) (by kernel_rfl) (fun _ h => h.elim) ?_
            refine flo_seg 28 rfl ?_
            simp only [List.take_succ_cons, List.take_zero, List.drop_succ_cons, List.drop_zero]
            repeat (go_big_quiet_step (fail))
            refine wpQuiet_nil ?_
            refine flo_nil ?_
            go_wp2
            go_roundw
            case rel => exact ⟨k + 1, k, by omega, rfl, by go_num, Lib.hid ⟨HN.out, H.out.2.drew⟩⟩
            case measure => simp [intOf]; omega
          · have hqd : decide (q < p) = false := decide_eq_false hqp
            have HN : Hid (BestTo M (k + 1) B) := Lib.hid (.inr ⟨B, p, rfl, by omega, hMB, fun j q' hj hq => by
              rcases HK.out j q' hj hq with h | ⟨rfl, rfl⟩
              · exact hall j q' h hq
              · rw [ltL_iff]; simp only; omega⟩)
            clear hm hMB hall
            go_wp2_with (go_at_call 78; refine (validR _ _ _ _ _ _ _ _ _ HQ1.out).mono ?_; rintro e w1 ⟨rfl, rfl⟩)
            refine wp_region_flo (fun _ => False) [] [] (by kernel_rfl) (by kernel_rfl) (fun _ h => h.elim) ?_
            refine flo_seg 28 rfl ?_
            simp only [List.take_succ_cons, List.take_zero, List.drop_succ_cons, List.drop_zero]
            repeat (go_big_quiet_step (fail))
            refine wpQuiet_nil ?_
            refine flo_nil ?_
            go_wp2
            go_roundw
            case rel => exact ⟨k + 1, B, by omega, rfl, by go_num, Lib.hid ⟨HN.out, H.out.2.drew⟩⟩
            case measure => simp [intOf]; omega
    · have hlt' : ¬ (k : Int) < n := by omega
      obtain rfl : k = n := by omega
      have hcase : best = -1 ∧ (∀ j, j < k → M j = none) ∨ ∃ (B : Nat) (p : Int), best = B ∧ B < k ∧ M B = some p ∧ (∀ j q, j < k → M j = some q → ¬ ltL (j, q) (B, p)) := H.out.1
      rcases hcase with ⟨rfl, hno⟩ | ⟨B, p, rfl, hBk, hMB, hall⟩
      · have HNO := Lib.hid hno
        clear hno
        go_wp2_with (go_at_call 78; refine (validR _ _ _ _ _ _ _ _ _ HQ1.out).mono ?_; rintro e w1 ⟨rfl, rfl⟩)
        go_ret3
        exact ⟨.inl ⟨rfl, fun j => by
          rcases Nat.lt_or_ge j k with h | h
          · exact HNO.out j h
          · exact HO.out j h⟩, H.out.2⟩
      · have cB := HQ1.out.rp.cell B (by omega)
        rw [HQ1.out.pm B p hMB] at cB
        have hB0 : ¬ (B : Int) < 0 := by omega
        have hBn : (B : Int) < k := by omega
        have HMIN : Hid (IsMinL M B p) := Lib.hid ⟨hMB, fun j q hq => hall j q (by
          rcases Nat.lt_or_ge j k with h | h
          · exact h
          · rw [HO.out j h] at hq; cases hq) hq⟩
        have HBK := Lib.hid hBk
        clear hMB hall
        go_wp2_with (go_at_call 78; refine (validR _ _ _ _ _ _ _ _ _ HQ1.out).mono ?_; rintro e w1 ⟨rfl, rfl⟩)
        refine wp_region_flo (fun _ => False) [] [] (by kernel_rfl) (by kernel_rfl) (fun _ h => h.elim) ?_
        refine flo_seg 11 rfl ?_
        simp only [List.take_succ_cons, List.take_zero, List.drop_succ_cons, List.drop_zero]
        repeat (go_big_quiet_step (fail))
        refine wpQuiet_nil ?_
        refine flo_nil ?_
        go_wp2
        go_ret3
        exact ⟨.inr ⟨B, p, rfl, HBK.out, HMIN.out⟩, H.out.2.drew⟩
end
end Go.Proofs.Ythialloenkbpnaa
