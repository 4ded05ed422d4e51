/- The reference's queue (drumlinref04): New, Pop, Copy, All, and the methods of none. -/
import Derived.Test.YthialloenkbpnaaPqQ
import Derived.Test.YthialloenkbpnaaAppv
import Derived.Test.YthialloenkbpnaaPqIL
set_option linter.unusedVariables false
set_option linter.unusedSimpArgs false
namespace Go.Proofs.Ythialloenkbpnaa
open Go.RowKit
attribute [local go_sem] OvM cell_ovm obj_ovm

theorem Try.infoBoolQ : (Try.prog.info? 4).map (fun i => (i.zero, i.size, i.bytes)) = some (some (.bool false), 1, 1) := by kernel_rfl
theorem Try.infoI64Q : (Try.prog.info? 2).map (fun i => (i.zero, i.size, i.bytes)) = some (some (.int .i64 0), 1, 8) := by kernel_rfl
theorem Try.infoIntQ : (Try.prog.info? 3).map (fun i => (i.zero, i.size, i.bytes)) = some (some (.int .i64 0), 1, 8) := by kernel_rfl

theorem own_made {w : World} {t : TypeId} {B : Nat} (h : w.heap[B]? = some (.cells #[] t)) : Own w t 1 (.slice (some ⟨B, 0, none⟩) 0 0) 0 [] := Own.ofParts h (Nat.le_refl _) (by simp [maxLen]) rfl rfl
theorem New_badR (n : Int) (w : World) (h : n < 1 ∨ 1024 < n) : Calls Try.prog 31 #[.int .i64 n] w fun e w' => e = .returned (.tuple #[.pointer none, .int .i64 2]) ∧ w = w' := by
  have h' : n < 1 ∨ (¬ n < 1 ∧ 1024 < n) := by omega
  clear h
  rcases h' with h | ⟨h1, h⟩
  all_goals
    go_enter Try.func31, Try.ntmps31
    go_wp2
    go_ret2
    exact ⟨rfl, rfl⟩
theorem crow_made {w : World} {t : TypeId} {g n : Nat} {v : Value} (h : w.heap[g]? = some (.cells (madeCells #[v] (n * 1)) t)) : CRow w t g n (fun _ => v) :=
  ⟨_, h, by rw [size_madeCells]; omega, fun i hi => by have := made_get v n i hi; simpa using this⟩
set_option maxRecDepth 40000 in
set_option maxHeartbeats 1000000 in
theorem NewR (n : Nat) (w : World) (h1 : 1 ≤ n) (h2 : n ≤ 1024) : Calls Try.prog 31 #[.int .i64 n] w fun e w' => ∃ b gi gp, e = .returned (.tuple #[.pointer (some ⟨b, 0, none⟩), .int .i64 0]) ∧ RQ w' b n gi n gp n (fun _ => none) (fun _ => 0) ∧ w.heap.size ≤ b ∧ w.heap.size ≤ gi ∧ w.heap.size ≤ gp ∧ Gr w w' := by
  obtain ⟨i0, hi, hz0, hz1, hz2⟩ := info_parts Try.infoBoolQ
  obtain ⟨j0, hj, hy0, hy1, hy2⟩ := info_parts Try.infoI64Q
  have hn1 : ¬ (n : Int) < 1 := by omega
  have hn2 : ¬ (1024 : Int) < n := by omega
  have hm1 : ∀ w : World, (Instr.makeSlice 128 (.int .i64 (n : Int)) (.int .i64 (n : Int))).run Try.prog w = .ok (.slice (some ⟨w.heap.size, 0, none⟩) n n) (w.alloc (.cells (madeCells #[.bool false] (n * 1)) 4)) := fun w => by
    have := run_make (P := Try.prog) w 128 4 i0 _ Try.underlying128 hi hz0 .i64 .i64 n n (by omega) (by omega) (by rw [hz2]; omega) (by omega)
    rw [hz1] at this
    simp only [Int.toNat_natCast] at this
    exact this
  have hm2 : ∀ w : World, (Instr.makeSlice 75 (.int .i64 (n : Int)) (.int .i64 (n : Int))).run Try.prog w = .ok (.slice (some ⟨w.heap.size, 0, none⟩) n n) (w.alloc (.cells (madeCells #[.int .i64 0] (n * 1)) 2)) := fun w => by
    have := run_make (P := Try.prog) w 75 2 j0 _ Try.underlying75 hj hy0 .i64 .i64 n n (by omega) (by omega) (by rw [hy2]; omega) (by omega)
    rw [hy1] at this
    simp only [Int.toNat_natCast] at this
    exact this
  have HM1 := Lib.hid hm1
  have HM2 := Lib.hid hm2
  clear hm1 hm2 hi hz0 hz1 hz2 hj hy0 hy1 hy2
  go_enter Try.func31, Try.ntmps31
  go_wp2
  have HG := Gr.refl w.drew
  refine wp_region_flo (fun _ => False) [11, 13] [] (by kernel_rfl) (by kernel_rfl) (fun _ h => h.elim) ?_
  refine flo_seg 1 rfl ?_
  simp only [List.take_succ_cons, List.take_zero, List.drop_succ_cons, List.drop_zero]
  repeat (go_big_quiet_step (fail))
  refine wpQuiet_nil ?_
  refine flo_float (fun b ↦ .slice (some ⟨b, 0, none⟩) n n) (.cells (madeCells #[.bool false] (n * 1)) 4 ) rfl rfl ( fun w ↦ by simp [go_sem, HM1.out w] ) (fun wf1 fb1 hgf1 fl1 fh1 ft1 fo1 => ?_)
  (try replace HG := Gr.trans (Gr.trans HG (by (repeat (first | (with_reducible exact Gr.refl _) | assumption | (with_reducible apply Gr.from_drew) | (with_reducible apply Gr.alloc) | (with_reducible apply Gr.drew) | (with_reducible refine Gr.trans ?_ (by assumption)) | (with_reducible refine Gr.setCell ?_ (by omega) _))))) hgf1)
  simp only [Act.put, List.setIfInBounds_toArray, List.set_cons_succ, List.set_cons_zero]
  refine flo_seg 1 rfl ?_
  simp only [List.take_succ_cons, List.take_zero, List.drop_succ_cons, List.drop_zero]
  repeat (go_big_quiet_step (fail))
  refine wpQuiet_nil ?_
  refine flo_float (fun b ↦ .slice (some ⟨b, 0, none⟩) n n) (.cells (madeCells #[.int .i64 0] (n * 1)) 2 ) rfl rfl ( fun w ↦ by simp [go_sem, HM2.out w] ) (fun wf2 fb2 hgf2 fl2 fh2 ft2 fo2 => ?_)
  (try replace HG := Gr.trans (Gr.trans HG (by (repeat (first | (with_reducible exact Gr.refl _) | assumption | (with_reducible apply Gr.from_drew) | (with_reducible apply Gr.alloc) | (with_reducible apply Gr.drew) | (with_reducible refine Gr.trans ?_ (by assumption)) | (with_reducible refine Gr.setCell ?_ (by omega) _))))) hgf2)
  (try replace fo1 := Gr.blk hgf2 fo1)
  (try have fc1 := (cellsOf fo1).1)
  (try have ff1 := (cellsOf fo1).2)
  (try have fc2 := (cellsOf fo2).1)
  (try have ff2 := (cellsOf fo2).2)
  simp only [Act.put, List.setIfInBounds_toArray, List.set_cons_succ, List.set_cons_zero]
  refine flo_seg 1 rfl ?_
  simp only [List.take_succ_cons, List.take_zero, List.drop_succ_cons, List.drop_zero]
  repeat (go_big_quiet_step (fail))
  refine wpQuiet_nil ?_
  refine flo_eff rfl rfl rfl rfl (fun K hK => ?_)
  go_wp2
  refine ⟨by (first | (refine Gr.mdh ?_ _; (repeat (first | (with_reducible exact Gr.refl _) | assumption | (with_reducible apply Gr.from_drew) | (with_reducible apply Gr.alloc) | (with_reducible apply Gr.drew) | (with_reducible refine Gr.trans ?_ (by assumption)) | (with_reducible refine Gr.setCell ?_ (by omega) _))); done) | (repeat (first | (with_reducible exact Mdh.refl _ _) | (with_reducible refine Mdh.setCell ?_ (by simp) _) | (with_reducible refine Mdh.setNew ?_ (by simp) _) | (with_reducible apply Mdh.alloc) | (with_reducible apply Mdh.drew) | (with_reducible refine Mdh.gr ?_ (by assumption))))), ?_⟩
  refine flo_seg 2 rfl ?_
  simp only [List.take_succ_cons, List.take_zero, List.drop_succ_cons, List.drop_zero]
  repeat (go_big_quiet_step (fail))
  refine wpQuiet_nil ?_
  refine flo_nil ?_
  have hf := Lib.hid (And.intro fo1 (And.intro fo2 (And.intro HG (And.intro fl1 fl2))))
  clear fo1 fo2 HG fl1 fl2 fh1 fh2 ft1 ft2 hgf1 hgf2
  (try clear fc1 ff1 fc2 ff2)
  go_wp2
  go_ret2
  obtain ⟨fo1, fo2, HG, fl1, fl2⟩ := hf.out
  exact ⟨_, _, _, rfl, ⟨by omega, h2, blkNew _ _, ⟨Nat.le_refl _, by simp only [maxLen]; omega⟩, ⟨Nat.le_refl _, by simp only [maxLen]; omega⟩, (crow_made fo1).gr ((Gr.refl _).alloc _), (crow_made fo2).gr ((Gr.refl _).alloc _), fun i p h => (by cases h), fun _ _ => rfl⟩, HG.sz, fl1, fl2, (Gr.of_drew HG).alloc _⟩

def PopPost (b n gi ci gp cp : Nat) (M : Nat → Option Int) (w : World) (e : Ending) (w' : World) : Prop :=
  (e = .returned (.tuple #[.int .i64 0, .int .i64 0, .bool false]) ∧ (∀ j, M j = none) ∧ RQPost b n gi ci gp cp M w w') ∨
  ∃ (i : Nat) (p : Int), e = .returned (.tuple #[.int .i64 i, .int .i64 p, .bool true]) ∧ i < n ∧ IsMinL M i p ∧ RQPost b n gi ci gp cp (upd M i none) w w'
theorem RQPost.of_gr {b n gi ci gp cp : Nat} {M : Nat → Option Int} {w w0 w' : World} (h : RQPost b n gi ci gp cp M w0 w') (g : Gr w w0) : RQPost b n gi ci gp cp M w w' := ⟨h.1, (g.mdh _).trans h.2⟩
theorem RQPost.then_gr {b n gi ci gp cp : Nat} {M : Nat → Option Int} {w w0 w' : World} (h : RQPost b n gi ci gp cp M w w0) (g : Gr w0 w') : RQPost b n gi ci gp cp M w w' := let ⟨⟨P, hP⟩, m⟩ := h; ⟨⟨P, hP.gr g⟩, m.gr g⟩
theorem PopR (b n gi ci gp cp : Nat) (M : Nat → Option Int) (P : Nat → Int) (w : World) (q : RQ w b n gi ci gp cp M P) : Calls Try.prog 39 #[.pointer (some ⟨b, 0, none⟩)] w (PopPost b n gi ci gp cp M w) := by
  have HQ := Lib.hid q
  have hn0 := q.n0
  clear q
  go_enter Try.func39, Try.ntmps39
  go_wp2_with fail
  refine (PeekR _ _ _ _ _ _ _ _ _ HQ.out).mono ?_
  rintro e w1 ⟨⟨rfl, hno⟩ | ⟨i, p, rfl, hi, hmin⟩, hg⟩
  · have HN := Lib.hid hno
    have HG := Lib.hid hg
    clear hno hg
    go_wp2_with fail
    refine (Remove_noneR _ _ _ _ _ _ _ _ _ (HQ.out.gr HG.out) 0 hn0 (HN.out 0)).mono ?_
    rintro e w2 ⟨rfl, rfl⟩
    go_wp2
    go_ret3
    exact .inl ⟨rfl, HN.out, ⟨P, HQ.out.gr HG.out⟩, HG.out.mdh _⟩
  · have HN := Lib.hid hmin
    have HG := Lib.hid hg
    clear hmin hg
    go_wp2_with fail
    refine (Remove_okR _ _ _ _ _ _ _ _ _ (HQ.out.gr HG.out) i p hi HN.out.1).mono ?_
    rintro e w2 ⟨rfl, hp⟩
    have HP := Lib.hid hp
    clear hp
    go_wp2
    go_ret3
    exact .inr ⟨i, p, rfl, hi, HN.out, HP.out.of_gr HG.out⟩

theorem crow_src {w : World} {t : TypeId} {g n : Nat} {f : Nat → Value} (r : CRow w t g n f) (h1 : ∀ i, (f i).oneCell' = true) : SrcAt w 1 (some ⟨g, 0, none⟩) n ((List.range n).map f) :=
  ⟨by simp, fun u hu => by obtain ⟨i, _, rfl⟩ := List.mem_map.1 hu; exact h1 i, .inr ⟨_, rfl, fun j u hj => by
    rw [List.getElem?_map] at hj
    rw [addr_add, Nat.zero_add]
    rcases Nat.lt_or_ge j n with h | h
    · rw [List.getElem?_range h] at hj
      simp only [Option.map_some, Option.some.injEq] at hj
      rw [← hj]; exact r.cell j h
    · rw [List.getElem?_eq_none (by simpa using h)] at hj; cases hj⟩⟩
def CopPost (n : Nat) (M : Nat → Option Int) (P : Nat → Int) (w : World) (e : Ending) (w' : World) : Prop := ∃ b gi ci gp cp, e = .returned (.pointer (some ⟨b, 0, none⟩)) ∧ RQ w' b n gi ci gp cp M P ∧ w.heap.size ≤ b ∧ w.heap.size ≤ gi ∧ w.heap.size ≤ gp ∧ Gr w w'
set_option maxRecDepth 40000 in
set_option maxHeartbeats 2000000 in
theorem CopyR (b n gi ci gp cp : Nat) (M : Nat → Option Int) (P : Nat → Int) (w : World) (q : RQ w b n gi ci gp cp M P) : Calls Try.prog 41 #[.pointer (some ⟨b, 0, none⟩)] w (CopPost n M P w) := by
  have HQ := Lib.hid q
  obtain ⟨i0, hi, hz0, hz1, hz2⟩ := info_parts Try.infoBoolQ
  obtain ⟨j0, hj, hy0, hy1, hy2⟩ := info_parts Try.infoI64Q
  have hbl := blkLt q.blk
  obtain ⟨c0, c1⟩ := q.c
  have hn := q.n1
  have SRC := Lib.hid (And.intro (crow_src q.ri (fun _ => rfl)) (crow_src q.rp (fun _ => rfl)))
  clear q
  go_enter Try.func41, Try.ntmps41
  go_wp2_with (go_at_call 78; refine (validR _ _ _ _ _ _ _ _ _ HQ.out).mono ?_; rintro e w1 ⟨rfl, rfl⟩)
  have HG := Gr.refl w.drew
  refine wp_region_flo (fun _ => False) [6, 12] [] (by kernel_rfl) (by kernel_rfl) (fun _ h => h.elim) ?_
  refine flo_float (fun b ↦ .slice (some ⟨b, 0, none⟩) 0 0) (_ ) rfl rfl ( fun w ↦ by simp [go_sem]; rfl ) (fun wf1 fb1 hgf1 fl1 fh1 ft1 fo1 => ?_)
  (try replace HG := Gr.trans (Gr.trans HG (by (repeat (first | (with_reducible exact Gr.refl _) | assumption | (with_reducible apply Gr.from_drew) | (with_reducible apply Gr.alloc) | (with_reducible apply Gr.drew) | (with_reducible refine Gr.trans ?_ (by assumption)) | (with_reducible refine Gr.setCell ?_ (by omega) _))))) hgf1)
  simp only [Act.put, List.setIfInBounds_toArray, List.set_cons_succ, List.set_cons_zero]
  refine flo_seg 4 rfl ?_
  simp only [List.take_succ_cons, List.take_zero, List.drop_succ_cons, List.drop_zero]
  repeat (go_big_quiet_step (fail))
  refine wpQuiet_nil ?_
  refine flo_effg rfl rfl rfl (fun wg2 hgg2 K hK => ?_)
  (try replace HG := Gr.trans (Gr.trans HG (by (repeat (first | (with_reducible exact Gr.refl _) | assumption | (with_reducible apply Gr.from_drew) | (with_reducible apply Gr.alloc) | (with_reducible apply Gr.drew) | (with_reducible refine Gr.trans ?_ (by assumption)) | (with_reducible refine Gr.setCell ?_ (by omega) _))))) hgg2)
  (try replace fo1 := Gr.blk hgg2 (Gr.blk (by (repeat (first | (with_reducible exact Gr.refl _) | assumption | (with_reducible apply Gr.from_drew) | (with_reducible apply Gr.alloc) | (with_reducible apply Gr.drew) | (with_reducible refine Gr.trans ?_ (by assumption)) | (with_reducible refine Gr.setCell ?_ (by omega) _)))) fo1))
  refine wp_appv _ (.tmp 6) (.tmp 10) 128 rfl 4 i0 _ 1 1 Try.underlying128 hi hz0 hz1 hz2 rfl (by decide) (.slice (some ⟨fb1, 0, none⟩) 0 0) 0 [] rfl (own_made fo1) _ n ci _ rfl (SRC.out.1.gr (Gr.of_drew HG)) (by simp only [maxLen]; omega) (by omega) (fun k1 x1 hk1 => ?_); rw [Nat.zero_add, List.nil_append] at hk1; (replace HG := Gr.md HG (hk1.mdh (fun g h => h)) (fun q hq => by rw [ownB hq]; exact fl1)); obtain ⟨a1, n1, rfl⟩ := hk1.val; refine hK _ _ ⟨hk1.mdh (fun q hq => by rw [ownB hq]; simp), ?_⟩; simp only [Act.put, List.setIfInBounds_toArray, List.set_cons_succ, List.set_cons_zero]
  refine flo_float (fun b ↦ .slice (some ⟨b, 0, none⟩) 0 0) (_ ) rfl rfl ( fun w ↦ by simp [go_sem]; rfl ) (fun wf2 fb2 hgf2 fl2 fh2 ft2 fo2 => ?_)
  (try replace HG := Gr.trans (Gr.trans HG (by (repeat (first | (with_reducible exact Gr.refl _) | assumption | (with_reducible apply Gr.from_drew) | (with_reducible apply Gr.alloc) | (with_reducible apply Gr.drew) | (with_reducible refine Gr.trans ?_ (by assumption)) | (with_reducible refine Gr.setCell ?_ (by omega) _))))) hgf2)
  (try replace fo1 := Gr.blk hgf2 fo1)
  (try have fc1 := (cellsOf fo1).1)
  (try have ff1 := (cellsOf fo1).2)
  (try have fc2 := (cellsOf fo2).1)
  (try have ff2 := (cellsOf fo2).2)
  simp only [Act.put, List.setIfInBounds_toArray, List.set_cons_succ, List.set_cons_zero]
  refine flo_seg 4 rfl ?_
  simp only [List.take_succ_cons, List.take_zero, List.drop_succ_cons, List.drop_zero]
  repeat (go_big_quiet_step (fail))
  refine wpQuiet_nil ?_
  refine flo_eff rfl rfl rfl rfl (fun K hK => ?_)
  refine wp_appv _ (.tmp 12) (.tmp 16) 75 rfl 2 j0 _ 1 8 Try.underlying75 hj hy0 hy1 hy2 rfl (by decide) (.slice (some ⟨fb2, 0, none⟩) 0 0) 0 [] rfl (own_made fo2) _ n cp _ rfl (SRC.out.2.gr (Gr.of_drew HG)) (by simp only [maxLen]; omega) (by omega) (fun k2 x2 hk2 => ?_); rw [Nat.zero_add, List.nil_append] at hk2; (replace HG := Gr.md HG (hk2.mdh (fun g h => h)) (fun q hq => by rw [ownB hq]; exact fl2)); obtain ⟨a2, n2, rfl⟩ := hk2.val; refine hK _ _ ⟨hk2.mdh (fun q hq => by rw [ownB hq]; simp), ?_⟩; simp only [Act.put, List.setIfInBounds_toArray, List.set_cons_succ, List.set_cons_zero]
  refine flo_seg 1 rfl ?_
  simp only [List.take_succ_cons, List.take_zero, List.drop_succ_cons, List.drop_zero]
  repeat (go_big_quiet_step (fail))
  refine wpQuiet_nil ?_
  refine flo_eff rfl rfl rfl rfl (fun K hK => ?_)
  go_wp2
  refine ⟨by (first | (refine Gr.mdh ?_ _; (repeat (first | (with_reducible exact Gr.refl _) | assumption | (with_reducible apply Gr.from_drew) | (with_reducible apply Gr.alloc) | (with_reducible apply Gr.drew) | (with_reducible refine Gr.trans ?_ (by assumption)) | (with_reducible refine Gr.setCell ?_ (by omega) _))); done) | (repeat (first | (with_reducible exact Mdh.refl _ _) | (with_reducible refine Mdh.setCell ?_ (by simp) _) | (with_reducible refine Mdh.setNew ?_ (by simp) _) | (with_reducible apply Mdh.alloc) | (with_reducible apply Mdh.drew) | (with_reducible refine Mdh.gr ?_ (by assumption))))), ?_⟩
  refine flo_seg 1 rfl ?_
  simp only [List.take_succ_cons, List.take_zero, List.drop_succ_cons, List.drop_zero]
  repeat (go_big_quiet_step (fail))
  refine wpQuiet_nil ?_
  refine flo_nil ?_
  have o1 : Own x2 4 1 (.slice a1 n n1) n ((List.range n).map fun i => .bool (M i).isSome) := (hk1.1.gr hgf2).mdh (hk2.mdh (fun g h => h)) (fun q hq h => by
    rw [ownB h] at hq
    refine ft2 ((hk1.2.1 _ hq).elim (fun h => .inl (.inr (ownB h))) (fun h => .inr ⟨h, hk1.1.lt hq⟩)))
  have nw1 : ∀ q, (Value.slice a1 n n1).ownBlock = some q → w.heap.size ≤ q := fun q hq => (hk1.2.1 q hq).elim (fun h => by rw [ownB h]; exact fl1) (fun h => Nat.le_trans (Nat.le_trans fl1 (Nat.le_of_lt fh1)) (Nat.le_trans hgg2.sz h))
  have nw2 : ∀ q, (Value.slice a2 n n2).ownBlock = some q → w.heap.size ≤ q := fun q hq => (hk2.2.1 q hq).elim (fun h => by rw [ownB h]; exact fl2) (fun h => Nat.le_trans (Nat.le_trans fl2 (Nat.le_of_lt fh2)) h)
  have HE := Lib.hid (And.intro o1 (And.intro hk2.1 (And.intro nw1 (And.intro nw2 HG))))
  clear o1 nw1 nw2 hk1 hk2 HG hgf1 hgf2 hgg2 fl1 fl2 fh1 fh2 ft1 ft2 fo1 fo2 fc1 fc2 ff1 ff2
  go_wp2
  go_ret
  have hn0 := HQ.out.n0
  have hcr : ∀ {w : World} {t : TypeId} {a : Option Addr} {c : Nat} {f : Nat → Value}, Own w t 1 (.slice a n c) n ((List.range n).map f) → ∃ g, a = some ⟨g, 0, none⟩ ∧ n ≤ c ∧ c ≤ maxLen ∧ CRow w t g n f := fun {w t a c f} h => by
    rcases h.2 with ⟨_, h0⟩ | ⟨g, cap, cur, hv, _, hb, h1, h2, _⟩
    · omega
    · simp only [Value.slice.injEq] at hv
      obtain ⟨rfl, _, rfl⟩ := hv
      exact ⟨g, rfl, h1, h2, CRow.ofOwn h (fun i hi => by rw [List.getElem?_map, List.getElem?_range hi]; rfl)⟩
  obtain ⟨g1, rfl, l1, l2, r1⟩ := hcr HE.out.1
  obtain ⟨g2, rfl, l3, l4, r2⟩ := hcr HE.out.2.1
  exact ⟨_, g1, n1, g2, n2, rfl, ⟨hn0, hn, blkNew _ _, ⟨l1, l2⟩, ⟨l3, l4⟩, r1.gr ((Gr.refl _).alloc _), r2.gr ((Gr.refl _).alloc _), HQ.out.pm, HQ.out.out⟩, HE.out.2.2.2.2.sz, HE.out.2.2.1 g1 rfl, HE.out.2.2.2.1 g2 rfl, (Gr.of_drew HE.out.2.2.2.2).alloc _⟩

/-! ### Of no queue -/
theorem validN (w : World) : Calls Try.prog 78 #[.pointer none] w fun e w' => e = .returned (.bool false) ∧ w = w' := by
  go_enter Try.func78, Try.ntmps78
  go_wp2
  go_ret
  exact ⟨rfl, rfl⟩
theorem idN (i : Int) (w : World) : Calls Try.prog 72 #[.pointer none, .int .i64 i] w fun e w' => e = .returned (.int .i64 1) ∧ w = w' := by
  go_enter Try.func72, Try.ntmps72
  go_wp2_with (go_at_call 78; refine (validN _).mono ?_; rintro e w1 ⟨rfl, rfl⟩)
  go_ret
  exact ⟨rfl, rfl⟩
theorem PushN (i p : Int) (w : World) : Calls Try.prog 33 #[.pointer none, .int .i64 i, .int .i64 p] w fun e w' => e = .returned (.int .i64 1) ∧ w = w' := by
  go_enter Try.func33, Try.ntmps33
  go_wp2_with (go_at_call 72; refine (idN _ _).mono ?_; rintro e w1 ⟨rfl, rfl⟩)
  go_ret
  exact ⟨rfl, rfl⟩
theorem ChangeN (i p : Int) (w : World) : Calls Try.prog 35 #[.pointer none, .int .i64 i, .int .i64 p] w fun e w' => e = .returned (.int .i64 1) ∧ w = w' := by
  go_enter Try.func35, Try.ntmps35
  go_wp2_with (go_at_call 72; refine (idN _ _).mono ?_; rintro e w1 ⟨rfl, rfl⟩)
  go_ret
  exact ⟨rfl, rfl⟩
theorem PriorityN (i : Int) (w : World) : Calls Try.prog 74 #[.pointer none, .int .i64 i] w fun e w' => e = .returned (.tuple #[.int .i64 0, .bool false]) ∧ w = w' := by
  go_enter Try.func74, Try.ntmps74
  go_wp2_with (go_at_call 72; refine (idN _ _).mono ?_; rintro e w1 ⟨rfl, rfl⟩)
  go_ret2
  exact ⟨rfl, rfl⟩
theorem RemoveN (i : Int) (w : World) : Calls Try.prog 37 #[.pointer none, .int .i64 i] w fun e w' => e = .returned (.tuple #[.int .i64 0, .bool false]) ∧ w = w' := by
  go_enter Try.func37, Try.ntmps37
  go_wp2_with (go_at_call 74; refine (PriorityN _ _).mono ?_; rintro e w1 ⟨rfl, rfl⟩)
  go_ret2
  exact ⟨rfl, rfl⟩
theorem PeekN (w : World) : Calls Try.prog 75 #[.pointer none] w fun e w' => e = .returned (.tuple #[.int .i64 0, .int .i64 0, .bool false]) ∧ w = w' := by
  go_enter Try.func75, Try.ntmps75
  go_wp2
  refine wp_loop_rounds 1 ?_
  rw [rounds_succ]
  go_wp2_with (go_at_call 78; refine (validN _).mono ?_; rintro e w1 ⟨rfl, rfl⟩)
  go_ret3
  exact ⟨rfl, rfl⟩
theorem PopN (w : World) : Calls Try.prog 39 #[.pointer none] w fun e w' => e = .returned (.tuple #[.int .i64 0, .int .i64 0, .bool false]) ∧ w = w' := by
  go_enter Try.func39, Try.ntmps39
  go_wp2_with (first | (go_at_call 75; refine (PeekN _).mono ?_; rintro e w1 ⟨rfl, rfl⟩) | (go_at_call 37; refine (RemoveN _ _).mono ?_; rintro e w1 ⟨rfl, rfl⟩))
  go_ret3
  exact ⟨rfl, rfl⟩
theorem LenN (w : World) : Calls Try.prog 79 #[.pointer none] w fun e w' => e = .returned (.int .i64 0) ∧ w = w' := by
  go_enter Try.func79, Try.ntmps79
  go_wp2
  refine wp_loop_rounds 1 ?_
  rw [rounds_succ]
  go_wp2_with (go_at_call 78; refine (validN _).mono ?_; rintro e w1 ⟨rfl, rfl⟩)
  go_ret
  exact ⟨rfl, rfl⟩
theorem CopyN (w : World) : Calls Try.prog 41 #[.pointer none] w fun e w' => e = .returned (.pointer none) ∧ w = w' := by
  go_enter Try.func41, Try.ntmps41
  go_wp2_with (go_at_call 78; refine (validN _).mono ?_; rintro e w1 ⟨rfl, rfl⟩)
  go_ret
  exact ⟨rfl, rfl⟩
theorem AllN (w : World) : Calls Try.prog 43 #[.pointer none] w fun e w' => e = .returned (.tuple #[.slice none 0 0, .slice none 0 0]) ∧ w = w' := by
  go_enter Try.func43, Try.ntmps43
  go_wp2_with (go_at_call 41; refine (CopyN _).mono ?_; rintro e w1 ⟨rfl, rfl⟩)
  refine wp_loop_rounds 1 ?_
  rw [rounds_succ]
  go_wp2_with (go_at_call 79; refine (LenN _).mono ?_; rintro e w1 ⟨rfl, rfl⟩)
  go_ret2
  exact ⟨rfl, rfl⟩
end Go.Proofs.Ythialloenkbpnaa
