/- Contracts of a queue's inner methods, at the priorities int64. Written from YPqC.base by inst.py. -/
import Derived.Test.YthialloenkbpnaaPqK
import Derived.BigQuiet
import Derived.Deep.QuietTactic
import Derived.Deep.CutBlock
import Derived.Deep.DeepCutAuto
set_option linter.unusedVariables false
set_option linter.unusedSimpArgs false
namespace Go.Proofs.Ythialloenkbpnaa
open Go.RowKit
attribute [local go_sem] OvM cell_ovm obj_ovm

def encL (p : Int) : Value := .int .i64 (p)
def ltbL (a b : Nat × Int) : Bool := decide (orL [cmpZ a.2 b.2, cmpZ a.1 b.1] < 0)
def ltL (a b : Nat × Int) : Prop := ltbL a b = true

theorem valid_nilL (w : World) : Calls Try.prog 76 #[.pointer none] w fun e w' => e = .returned (.bool false) ∧ w = w' := by
  go_enter Try.func76, Try.ntmps76
  go_wp2
  go_ret
  exact ⟨rfl, rfl⟩
theorem validL (b n : Nat) (hv : Value) (pl : Nat → Nat) (w : World) (q : QB w 86 b n hv pl) :
    Calls Try.prog 76 #[.pointer (some ⟨b, 0, none⟩)] w fun e w' => e = .returned (.bool (decide (0 < n))) ∧ w = w' := by
  have q0 := q.c0
  go_enter Try.func76, Try.ntmps76
  go_wp2
  go_ret
  exact ⟨ret_bool (by simp), rfl⟩

theorem check_nilL (id : Int) (w : World) : Calls Try.prog 70 #[.pointer none, .int .i64 id] w fun e w' => e = .returned (.int .i64 1) ∧ w = w' := by
  go_enter Try.func70, Try.ntmps70
  go_wp2_with (go_at_call 76; refine (valid_nilL _).mono ?_; rintro e w1 ⟨rfl, rfl⟩)
  go_ret
  exact ⟨rfl, rfl⟩
theorem checkL (b n : Nat) (hv : Value) (pl : Nat → Nat) (id : Int) (w : World) (q : QB w 86 b n hv pl) :
    Calls Try.prog 70 #[.pointer (some ⟨b, 0, none⟩), .int .i64 id] w fun e w' => e = .returned (.int .i64 (chkQ n id)) ∧ w = w' := by
  have q0 := q.c0
  go_enter Try.func70, Try.ntmps70
  go_wp2_with (go_at_call 76; refine (validL _ _ _ _ _ q).mono ?_; rintro e w1 ⟨rfl, rfl⟩)
  all_goals
    go_ret
    refine ⟨ret_int ?_, rfl⟩
    unfold chkQ
    (repeat' split) <;> simp_all <;> omega

set_option maxRecDepth 40000 in
set_option maxHeartbeats 1000000 in
theorem beforeL (b n len cap g : Nat) (pl : Nat → Nat) (h : Nat → Nat × Int) (i k : Nat) (w : World) (q : QB w 86 b n (.slice (some ⟨g, 0, none⟩) len cap) pl) (r : RG w 132 encL len cap g h) (hi : i < len) (hk : k < len) :
    Calls Try.prog 97 #[.pointer (some ⟨b, 0, none⟩), .int .i64 i, .int .i64 k] w fun e w' => e = .returned (.bool (ltbL (h i) (h k))) ∧ Gr w w' := by
  have q1 := q.c1
  have a0 := r.c0 i hi
  have a1 := r.c1 i hi
  have b0 := r.c0 k hk
  have b1 := r.c1 k hk
  have hi' : (i : Int) < len := by omega
  have hk' : (k : Int) < len := by omega
  have hm := r.most
  have hle := r.le
  unfold maxLen at hm
  have HD := Lib.hid (show ltbL (h i) (h k) = decide (orL [cmpZ (h i).2 (h k).2, cmpZ (h i).1 (h k).1] < 0) from rfl)
  revert a0 a1 b0 b1 HD
  generalize h i = x
  generalize h k = y
  obtain ⟨x1, x2⟩ := x
  obtain ⟨y1, y2⟩ := y
  intro a0 a1 b0 b1 HD
  simp only [encL] at a0 a1 b0 b1
  clear r q
  go_enter Try.func97, Try.ntmps97
  go_upto_region 1 with fail
  go_cut [7, 8] (fun t7 t8 wx => ∃ b1 b2, t7 = .pointer (some ⟨b1, 0, none⟩) ∧ t8 = .pointer (some ⟨b2, 0, none⟩) ∧ wx.heap[b1]? = some (.cells #[.int .i64 x1, .int .i64 (x2)] 132) ∧ wx.heap[b2]? = some (.cells #[.int .i64 y1, .int .i64 (y2)] 132) ∧ Gr w wx)
  case first =>
    have HG := Gr.refl w.drew
    refine wp_region_flo (fun _ => False) [7, 8] [] (by kernel_rfl) (by kernel_rfl) (fun _ h => h.elim) ?_
    refine flo_seg 14 rfl ?_
    simp only [List.take_succ_cons, List.take_zero, List.drop_succ_cons, List.drop_zero]
    repeat (go_big_quiet_step (fail))
    refine wpQuiet_nil ?_
    refine flo_float (fun b => .pointer (some ⟨b, 0, none⟩)) (.cells #[.int .i64 0, .int .i64 0] 132) rfl rfl (fun w => by kernel_rfl) (fun wf1 fb1 hgf1 fl1 fh1 ft1 fo1 => ?_)
    (try replace HG := Gr.trans (Gr.trans HG (by (repeat (first | (with_reducible exact Gr.refl _) | assumption | (with_reducible apply Gr.from_drew) | (with_reducible apply Gr.alloc) | (with_reducible apply Gr.drew) | (with_reducible refine Gr.trans ?_ (by assumption)) | (with_reducible refine Gr.setCell ?_ (by omega) _))))) hgf1)
    refine flo_float (fun b => .pointer (some ⟨b, 0, none⟩)) (.cells #[.int .i64 0, .int .i64 0] 132) rfl rfl (fun w => by kernel_rfl) (fun wf2 fb2 hgf2 fl2 fh2 ft2 fo2 => ?_)
    (try replace HG := Gr.trans (Gr.trans HG (by (repeat (first | (with_reducible exact Gr.refl _) | assumption | (with_reducible apply Gr.from_drew) | (with_reducible apply Gr.alloc) | (with_reducible apply Gr.drew) | (with_reducible refine Gr.trans ?_ (by assumption)) | (with_reducible refine Gr.setCell ?_ (by omega) _))))) hgf2)
    (try replace fo1 := Gr.blk hgf2 fo1)
    (try have fc1 := (cellsOf fo1).1)
    (try have ff1 := (cellsOf fo1).2)
    (try have fc2 := (cellsOf fo2).1)
    (try have ff2 := (cellsOf fo2).2)
    refine flo_eff rfl rfl rfl rfl (fun K hK => ?_)
    go_wp2
    refine ⟨by (first | (refine Gr.mdh ?_ _; (repeat (first | (with_reducible exact Gr.refl _) | assumption | (with_reducible apply Gr.from_drew) | (with_reducible apply Gr.alloc) | (with_reducible apply Gr.drew) | (with_reducible refine Gr.trans ?_ (by assumption)) | (with_reducible refine Gr.setCell ?_ (by omega) _))); done) | (repeat (first | (with_reducible exact Mdh.refl _ _) | (with_reducible refine Mdh.setCell ?_ (by simp) _) | (with_reducible refine Mdh.setNew ?_ (by simp) _) | (with_reducible apply Mdh.alloc) | (with_reducible apply Mdh.drew) | (with_reducible refine Mdh.gr ?_ (by assumption))))), ?_⟩
    refine flo_eff rfl rfl rfl rfl (fun K hK => ?_)
    go_wp2
    refine ⟨by (first | (refine Gr.mdh ?_ _; (repeat (first | (with_reducible exact Gr.refl _) | assumption | (with_reducible apply Gr.from_drew) | (with_reducible apply Gr.alloc) | (with_reducible apply Gr.drew) | (with_reducible refine Gr.trans ?_ (by assumption)) | (with_reducible refine Gr.setCell ?_ (by omega) _))); done) | (repeat (first | (with_reducible exact Mdh.refl _ _) | (with_reducible refine Mdh.setCell ?_ (by simp) _) | (with_reducible refine Mdh.setNew ?_ (by simp) _) | (with_reducible apply Mdh.alloc) | (with_reducible apply Mdh.drew) | (with_reducible refine Mdh.gr ?_ (by assumption))))), ?_⟩
    refine flo_nil ?_
    go_wp2
    go_meet
    have hne : fb1 ≠ fb2 := fun e => ft2 (.inr e.symm)
    exact ⟨fb1, fb2, rfl, rfl, blkSetO (blkSetO (blk2 fo1) hne) hne, blk2 (blkSetO (blkSetO fo2 hne.symm) hne.symm), Gr.of_drew (by (repeat (first | (with_reducible exact Gr.refl _) | assumption | (with_reducible apply Gr.from_drew) | (with_reducible apply Gr.alloc) | (with_reducible apply Gr.drew) | (with_reducible refine Gr.trans ?_ (by assumption)) | (with_reducible refine Gr.setCell ?_ (by omega) _))))⟩
  case rest =>
    obtain ⟨b1, b2, rfl, rfl, hb1, hb2, hG⟩ := hcut
    have d1 := (cellsOf hb1).1
    have d2 := (cellsOf hb2).1
    clear hb1 hb2
    have HG := Gr.refl wc.drew
    go_upto_region 2 with fail
    refine wp_region_flo (fun _ => False) [] [] (by kernel_rfl) (by kernel_rfl) (fun _ h => h.elim) ?_
    refine flo_seg 4 rfl ?_
    simp only [List.take_succ_cons, List.take_zero, List.drop_succ_cons, List.drop_zero]
    repeat (go_big_quiet_step (fail))
    refine wpQuiet_nil ?_
    refine flo_eff rfl rfl rfl rfl (fun K hK => ?_)
    go_wp2_with ((go_at_call 104; refine (Compare_int64 _ _ _).mono ?_; rintro e w1 ⟨rfl, rfl⟩))
    refine ⟨by (first | (refine Gr.mdh ?_ _; (repeat (first | (with_reducible exact Gr.refl _) | assumption | (with_reducible apply Gr.from_drew) | (with_reducible apply Gr.alloc) | (with_reducible apply Gr.drew) | (with_reducible refine Gr.trans ?_ (by assumption)) | (with_reducible refine Gr.setCell ?_ (by omega) _))); done) | (repeat (first | (with_reducible exact Mdh.refl _ _) | (with_reducible refine Mdh.setCell ?_ (by simp) _) | (with_reducible refine Mdh.setNew ?_ (by simp) _) | (with_reducible apply Mdh.alloc) | (with_reducible apply Mdh.drew) | (with_reducible refine Mdh.gr ?_ (by assumption))))), ?_⟩
    refine flo_seg 4 rfl ?_
    simp only [List.take_succ_cons, List.take_zero, List.drop_succ_cons, List.drop_zero]
    repeat (go_big_quiet_step (fail))
    refine wpQuiet_nil ?_
    refine flo_eff rfl rfl rfl rfl (fun K hK => ?_)
    go_wp2_with ((go_at_call 101; refine (Compare_int _ _ _).mono ?_; rintro e w1 ⟨rfl, rfl⟩))
    refine ⟨by (first | (refine Gr.mdh ?_ _; (repeat (first | (with_reducible exact Gr.refl _) | assumption | (with_reducible apply Gr.from_drew) | (with_reducible apply Gr.alloc) | (with_reducible apply Gr.drew) | (with_reducible refine Gr.trans ?_ (by assumption)) | (with_reducible refine Gr.setCell ?_ (by omega) _))); done) | (repeat (first | (with_reducible exact Mdh.refl _ _) | (with_reducible refine Mdh.setCell ?_ (by simp) _) | (with_reducible refine Mdh.setNew ?_ (by simp) _) | (with_reducible apply Mdh.alloc) | (with_reducible apply Mdh.drew) | (with_reducible refine Mdh.gr ?_ (by assumption))))), ?_⟩
    refine flo_eff rfl rfl rfl rfl (fun K hK => ?_)
    go_wp2
    refine ⟨by (first | (refine Gr.mdh ?_ _; (repeat (first | (with_reducible exact Gr.refl _) | assumption | (with_reducible apply Gr.from_drew) | (with_reducible apply Gr.alloc) | (with_reducible apply Gr.drew) | (with_reducible refine Gr.trans ?_ (by assumption)) | (with_reducible refine Gr.setCell ?_ (by omega) _))); done) | (repeat (first | (with_reducible exact Mdh.refl _ _) | (with_reducible refine Mdh.setCell ?_ (by simp) _) | (with_reducible refine Mdh.setNew ?_ (by simp) _) | (with_reducible apply Mdh.alloc) | (with_reducible apply Mdh.drew) | (with_reducible refine Mdh.gr ?_ (by assumption))))), ?_⟩
    refine flo_eff rfl rfl rfl rfl (fun K hK => ?_)
    go_wp2_with ((go_at_call 99; refine (Or_two _ (cmpZ x2 y2) (cmpZ x1 y1) _ (by simp [go_sem]) (by simp [go_sem])).mono ?_; rintro e w1 ⟨rfl, rfl⟩))
    refine ⟨by (first | (refine Gr.mdh ?_ _; (repeat (first | (with_reducible exact Gr.refl _) | assumption | (with_reducible apply Gr.from_drew) | (with_reducible apply Gr.alloc) | (with_reducible apply Gr.drew) | (with_reducible refine Gr.trans ?_ (by assumption)) | (with_reducible refine Gr.setCell ?_ (by omega) _))); done) | (repeat (first | (with_reducible exact Mdh.refl _ _) | (with_reducible refine Mdh.setCell ?_ (by simp) _) | (with_reducible refine Mdh.setNew ?_ (by simp) _) | (with_reducible apply Mdh.alloc) | (with_reducible apply Mdh.drew) | (with_reducible refine Mdh.gr ?_ (by assumption))))), ?_⟩
    refine flo_seg 2 rfl ?_
    simp only [List.take_succ_cons, List.take_zero, List.drop_succ_cons, List.drop_zero]
    repeat (go_big_quiet_step (fail))
    refine wpQuiet_nil ?_
    refine flo_nil ?_
    go_wp2
    go_ret
    exact ⟨ret_bool (by rw [HD.out]), hG.trans (Gr.of_drew (by (repeat (first | (with_reducible exact Gr.refl _) | assumption | (with_reducible apply Gr.from_drew) | (with_reducible apply Gr.alloc) | (with_reducible apply Gr.drew) | (with_reducible refine Gr.trans ?_ (by assumption)) | (with_reducible refine Gr.setCell ?_ (by omega) _)))))⟩

/-- What a queue of the kit's lies in: the struct, and the row of its heap. -/
structure QCL (w : World) (b n len cap g : Nat) (pl : Nat → Nat) (h : Nat → Nat × Int) : Prop where
  q : QB w 86 b n (.slice (some ⟨g, 0, none⟩) len cap) pl
  r : RG w 132 encL len cap g h
  ne : b ≠ g
theorem QCL.gr {w w' : World} {b n len cap g : Nat} {pl : Nat → Nat} {h : Nat → Nat × Int} (c : QCL w b n len cap g pl h) (k : Gr w w') : QCL w' b n len cap g pl h := ⟨c.q.gr k, c.r.gr k, c.ne⟩

set_option maxRecDepth 40000 in
set_option maxHeartbeats 1000000 in
theorem swapL (b n len cap g : Nat) (pl : Nat → Nat) (h : Nat → Nat × Int) (i k : Nat) (w : World) (c : QCL w b n len cap g pl h) (P : PI n len h pl) (hi : i < len) (hk : k < len) :
    Calls Try.prog 73 #[.pointer (some ⟨b, 0, none⟩), .int .i64 i, .int .i64 k] w fun e w' => (∃ v, e = .returned v) ∧ QCL w' b n len cap g (swpP h pl i k) (swpH h i k) ∧ Mdh (QS b g) w w' := by
  obtain ⟨q, r, hne⟩ := c
  have q1 := q.c1
  have a0 := r.c0 i hi
  have a1 := r.c1 i hi
  have b0 := r.c0 k hk
  have b1 := r.c1 k hk
  have hi' : (i : Int) < len := by omega
  have hk' : (k : Int) < len := by omega
  have hm := r.most
  have hle := r.le
  unfold maxLen at hm
  have rf := r.fr
  have HQ := Lib.hid q
  have HR := Lib.hid r
  have HP := Lib.hid P
  clear r q P
  have hne' := hne.symm
  go_enter Try.func73, Try.ntmps73
  go_upto_region 0 with fail
  go_cut [] (fun wx => QB wx 86 b n (.slice (some ⟨g, 0, none⟩) len cap) pl ∧ RG wx 132 encL len cap g (swpH h i k) ∧ Mdh (QS b g) w wx)
  case first =>
    have HX := Lib.hid (show swpH h i k = upd (upd h i (h k)) k (h i) from rfl)
    simp only [encL] at a0 a1 b0 b1
    obtain ⟨v1, e1⟩ := cell?_setCell_some (w := w) (p := ⟨g, i * 2, none⟩) (x := .int .i64 (h k).1) (q := ⟨g, k * 2, none⟩) b0
    obtain ⟨v2, e2⟩ := cell?_setCell_some (w := w) (p := ⟨g, i * 2 + 1, none⟩) (x := .int .i64 ((h k).2)) (q := ⟨g, k * 2 + 1, none⟩) b1
    obtain ⟨v3, e3⟩ := cell?_setCell_some (w := w) (p := ⟨g, i * 2, none⟩) (x := .int .i64 (h k).1) (q := ⟨g, k * 2 + 1, none⟩) b1
    obtain ⟨v4, e4⟩ := cell?_setCell_some (w := w.setCell ⟨g, i * 2, none⟩ (.int .i64 (h k).1)) (p := ⟨g, i * 2 + 1, none⟩) (x := .int .i64 ((h k).2)) (q := ⟨g, k * 2 + 1, none⟩) e3
    clear e3
    go_region
    all_goals
      go_wp2
      go_meet
      exact ⟨(((HQ.out.other hne _).other hne _).other hne _).other hne _ |>.gr (Gr.drew (Gr.refl _)), ((HR.out.set hi (h k)).set hk (h i)).gr (Gr.drew (Gr.refl _)), ((((Mdh.refl (QS b g) w).setCell (.inr rfl) _).setCell (.inr rfl) _).setCell (.inr rfl) _).setCell (.inr rfl) _ |>.drew⟩
  case rest =>
    obtain ⟨q, r, hM⟩ := hcut
    have PS := HP.out.swp hi hk
    have f1 : (swpH h i k i) = h k := by rw [swpH_at]; split; (rename_i e; rw [e]); simp
    have f2 : (swpH h i k k) = h i := by rw [swpH_at]; simp
    have q1 := q.c1
    have a0 := r.c0 i hi
    have b0 := r.c0 k hk
    rw [f1] at a0
    rw [f2] at b0
    have m1 := HP.out.inr i hi
    have m2 := HP.out.inr k hk
    have m3 := HP.out.most
    have qi := q.cp (h i).1 (by omega)
    have qk := q.cp (h k).1 (by omega)
    have qf := q.fr
    have HQ := Lib.hid q
    have HR := Lib.hid r
    clear q r PS f1 f2 a1 b1 rf HP
    go_upto_region 1 with fail
    obtain ⟨v5, e5⟩ := cell?_setCell_some (w := wc) (p := ⟨b, 2 + (h k).1, none⟩) (x := .int .i64 (i + 1)) (q := ⟨b, 2 + (h i).1, none⟩) qi
    go_region
    all_goals
      go_end0
      exact ⟨⟨_, rfl⟩, ⟨((HQ.out.setPl' (i := (h k).1) (by omega) (i + 1) (by omega)).setPl' (i := (h i).1) (by omega) (k + 1) (by omega)).gr (Gr.drew (Gr.refl _)), ((HR.out.other hne' _).other hne' _).gr (Gr.drew (Gr.refl _)), hne⟩,
        ((hM.setCell (.inl rfl) _).setCell (.inl rfl) _).drew⟩
end Go.Proofs.Ythialloenkbpnaa
