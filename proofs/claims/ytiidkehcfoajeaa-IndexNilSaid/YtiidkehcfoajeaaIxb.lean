/- Contracts of slices.BinarySearchFunc at rows of entries: by offset, and by how entries of a key compare. -/
import Derived.Test.YtiidkehcfoajeaaIxc
set_option linter.unusedVariables false
set_option linter.unusedSimpArgs false
namespace Go.Proofs.Ytiidkehcfoajeaa
open Go.RowKit
attribute [local go_sem] OvM cell_ovm obj_ovm

def foundO (l : List En) (off : Int) : Bool := match l[cnt (offP off) l]? with | some o => decide (o.off = off) | none => false
def foundN (l : List En) (e : En) : Bool := match l[cnt (fun o => ltE o e) l]? with | some o => decide (newerZ o e = 0) | none => false
theorem cmpZ_tests (x y : Int) : (decide (cmpZ x y < 0) = decide (x < y)) ∧ ((cmpZ x y == 0) = decide (x = y)) := by
  constructor
  · rw [Bool.eq_iff_iff]; simp [cmpZ_neg]
  · rw [Bool.eq_iff_iff]; simp [cmpZ_zero]
set_option maxRecDepth 40000 in
set_option maxHeartbeats 4000000 in
theorem BsfOff (l : List En) (off : Int) (a : Option Addr) (cap : Nat) (w : World) (h : Own w 23 6 (.slice a l.length cap) l.length (rowE l)) (hn : l.length ≤ 1000000) (hmono : ∀ j x, cnt (offP off) l ≤ j → l[j]? = some x → (offP off) x = false) :
    Calls Try.prog 105 #[.slice a l.length cap, .int .i64 off, .func (.func 106) #[] #[]] w fun e' w' => e' = .returned (.tuple #[.int .i64 (cnt (offP off) l), .bool (foundO l off)]) ∧ Gr w w' := by
  obtain ⟨n, hnn⟩ : ∃ n, n = l.length := ⟨_, rfl⟩
  obtain ⟨r, hr⟩ : ∃ r, r = cnt (offP off) l := ⟨_, rfl⟩
  have hrn : r ≤ n := by rw [hr, hnn]; exact cnt_le _ l
  have HO : Hid (∀ j, j < n → ∃ g x, a = some ⟨g, 0, none⟩ ∧ l[j]? = some x ∧ ∀ i u, (enC x)[i]? = some u → w.cell? ⟨g, j * 6 + i, none⟩ = some u) := Lib.hid (by
    intro j hj
    rw [hnn] at hj
    obtain ⟨a', cap', hv, _, _, hat⟩ := ownE_at h
    obtain ⟨g, ha, _, _, hc⟩ := hat j _ (List.getElem?_eq_getElem hj)
    injection hv with e1 _ _
    exact ⟨g, _, e1.trans ha, List.getElem?_eq_getElem hj, hc⟩)
  have hnegs : ∀ x : En, (offP off) x = true ↔ cmpZ x.off off < 0 := fun x => by unfold offP; rw [decide_eq_true_iff]; exact (cmpZ_neg _ _).symm
  have HM : Hid ((∀ j x, j < r → l[j]? = some x → cmpZ x.off off < 0) ∧ (∀ j x, r ≤ j → l[j]? = some x → ¬ cmpZ x.off off < 0)) := Lib.hid ⟨fun j x hj hx => (hnegs x).1 (cnt_lo _ l j x (by rw [← hr]; exact hj) hx), fun j x hj hx hz => by
    have h1 := hmono j x (by rw [← hr]; exact hj) hx
    rw [(hnegs x).2 hz] at h1
    cases h1⟩
  have HF : Hid ((∀ x, l[r]? = some x → foundO l off = decide (cmpZ x.off off = 0)) ∧ (l[r]? = none → foundO l off = false)) := Lib.hid ⟨fun x hx => by
    rw [hr] at hx
    exact by unfold foundO; rw [hx]; simp [cmpZ_zero], fun hx => by
    rw [hr] at hx
    exact by unfold foundO; rw [hx]⟩
  have HR : Hid (n = l.length) := Lib.hid hnn
  rw [← hr, ← hnn]
  rw [← hnn] at hn
  generalize foundO l off = fb at *
  have HRR := Lib.hid hr
  clear h hnn hmono hnegs hr
  skip
  go_enter Try.func105, Try.ntmps105
  go_wp2_with fail
  obtain ⟨wb, hwb⟩ : ∃ y, y = w := ⟨_, rfl⟩
  have HG0 : Hid (Gr w wb ∧ True) := Lib.hid (by rw [hwb]; exact ⟨Gr.refl w, trivial⟩)
  rw [← hwb]
  clear hwb
  go_loopw [9, 10] (fun t9 t10 wx => ∃ i j : Nat, t9 = .int .i64 i ∧ t10 = .int .i64 j ∧ i ≤ r ∧ r ≤ j ∧ j ≤ n ∧ Hid (Gr wb wx)) (fun t9 t10 _ => (intOf t10).toNat - (intOf t9).toNat)
  case atStart => exact ⟨0, n, rfl, rfl, by omega, hrn, by omega, Lib.hid (Gr.refl _)⟩
  case round =>
    obtain ⟨i, j, rfl, rfl, h1, h2, h3, HG⟩ := hrel
    by_cases hij : i < j
    · have hij' : (i : Int) < j := by omega
      obtain ⟨m, hm⟩ : ∃ m, m = (i + j) / 2 := ⟨_, rfl⟩
      have hmj : m < j := by omega
      have him : i ≤ m := by omega
      obtain ⟨g, x, rfl, hx, hc⟩ := HO.out m (by omega)
      have hmn : (m : Int) < n := by omega
      have e2 : ((i : Int) + (j : Int)) / 2 = (m : Int) := by omega
      have HW := Lib.hid (HG0.out.1.trans HG.out)
      have d0 := HW.out.keep (hc 0 _ rfl)
      have d1 := HW.out.keep (hc 1 _ rfl)
      have d2 := HW.out.keep (hc 2 _ rfl)
      have d3 := HW.out.keep (hc 3 _ rfl)
      have d4 := HW.out.keep (hc 4 _ rfl)
      have d5 := HW.out.keep (hc 5 _ rfl)
      simp only [Nat.add_zero] at d0 d1 d2 d3 d4 d5
      skip
      clear hm hc
      by_cases hlt : cmpZ x.off off < 0
      · have hmr : m + 1 ≤ r := by
          rcases Nat.lt_or_ge m r with h | h
          · exact h
          · exfalso; have := HM.out.2 m x h hx; omega
        clear hx
        generalize hzz : cmpZ x.off off = z at *
        have HZ := Lib.hid hzz
        clear hzz
        go_wp2_with (go_at_call 106; refine (cmp_off x off _).mono ?_; rintro e w1 ⟨rfl, hg⟩; rw [HZ.out]; have HG1 := Lib.hid hg; clear hg)
        go_roundw
        case rel => exact ⟨m + 1, j, by go_num, rfl, by omega, by omega, by omega, Lib.hid (HG.out.trans HG1.out)⟩
        case measure => simp [intOf]; omega
      · have hmr : r ≤ m := by
          rcases Nat.lt_or_ge m r with h | h
          · exfalso; have := HM.out.1 m x h hx; omega
          · exact h
        clear hx
        generalize hzz : cmpZ x.off off = z at *
        have HZ := Lib.hid hzz
        clear hzz
        go_wp2_with (go_at_call 106; refine (cmp_off x off _).mono ?_; rintro e w1 ⟨rfl, hg⟩; rw [HZ.out]; have HG1 := Lib.hid hg; clear hg)
        go_roundw
        case rel => exact ⟨i, m, rfl, rfl, by omega, by omega, by omega, Lib.hid (HG.out.trans HG1.out)⟩
        case measure => simp [intOf]; omega
    · have hij' : ¬ (i : Int) < j := by omega
      obtain rfl : i = r := by omega
      obtain rfl : j = i := by omega
      by_cases hjn : j < n
      · have hjn' : (j : Int) < n := by omega
        obtain ⟨g, x, rfl, hx, hc⟩ := HO.out j hjn
        have F1 : Hid (fb = decide (cmpZ x.off off = 0)) := Lib.hid (HF.out.1 x hx)
        have HW := Lib.hid (HG0.out.1.trans HG.out)
        have d0 := HW.out.keep (hc 0 _ rfl)
        have d1 := HW.out.keep (hc 1 _ rfl)
        have d2 := HW.out.keep (hc 2 _ rfl)
        have d3 := HW.out.keep (hc 3 _ rfl)
        have d4 := HW.out.keep (hc 4 _ rfl)
        have d5 := HW.out.keep (hc 5 _ rfl)
        simp only [Nat.add_zero] at d0 d1 d2 d3 d4 d5
        skip
        clear hx hc HM HF
        generalize hzz : cmpZ x.off off = z at *
        have HZ := Lib.hid hzz
        clear hzz
        have F2 : Hid ((z == 0) = fb) := Lib.hid (by rw [F1.out]; by_cases h : z = 0 <;> simp [h])
        go_wp2_with (go_at_call 106; refine (cmp_off x off _).mono ?_; rintro e w1 ⟨rfl, hg⟩; rw [HZ.out]; have HG1 := Lib.hid hg; clear hg)
        go_ret2
        exact ⟨by rw [F2.out]; rfl, HW.out.trans HG1.out⟩
      · have hjn' : ¬ (j : Int) < n := by omega
        have F1 : Hid (fb = false) := Lib.hid (HF.out.2 (List.getElem?_eq_none (by have := HR.out; omega)))
        go_wp2
        go_ret2
        exact ⟨by rw [F1.out]; rfl, HG0.out.1.trans HG.out⟩
set_option maxRecDepth 40000 in
set_option maxHeartbeats 4000000 in
theorem BsfNew (l : List En) (e : En) (a : Option Addr) (cap : Nat) (w : World) (h : Own w 23 6 (.slice a l.length cap) l.length (rowE l)) (hn : l.length ≤ 1000000) (hmono : ∀ j x, cnt (fun o => ltE o e) l ≤ j → l[j]? = some x → (fun o => ltE o e) x = false) :
    Calls Try.prog 109 #[.slice a l.length cap, enV e, .func (.func 110) #[] #[]] w fun e' w' => e' = .returned (.tuple #[.int .i64 (cnt (fun o => ltE o e) l), .bool (foundN l e)]) ∧ Gr w w' := by
  obtain ⟨n, hnn⟩ : ∃ n, n = l.length := ⟨_, rfl⟩
  obtain ⟨r, hr⟩ : ∃ r, r = cnt (fun o => ltE o e) l := ⟨_, rfl⟩
  have hrn : r ≤ n := by rw [hr, hnn]; exact cnt_le _ l
  have HO : Hid (∀ j, j < n → ∃ g x, a = some ⟨g, 0, none⟩ ∧ l[j]? = some x ∧ ∀ i u, (enC x)[i]? = some u → w.cell? ⟨g, j * 6 + i, none⟩ = some u) := Lib.hid (by
    intro j hj
    rw [hnn] at hj
    obtain ⟨a', cap', hv, _, _, hat⟩ := ownE_at h
    obtain ⟨g, ha, _, _, hc⟩ := hat j _ (List.getElem?_eq_getElem hj)
    injection hv with e1 _ _
    exact ⟨g, _, e1.trans ha, List.getElem?_eq_getElem hj, hc⟩)
  have hnegs : ∀ x : En, (fun o => ltE o e) x = true ↔ newerZ x e < 0 := fun x => (newer_neg _ _).symm
  have HM : Hid ((∀ j x, j < r → l[j]? = some x → newerZ x e < 0) ∧ (∀ j x, r ≤ j → l[j]? = some x → ¬ newerZ x e < 0)) := Lib.hid ⟨fun j x hj hx => (hnegs x).1 (cnt_lo _ l j x (by rw [← hr]; exact hj) hx), fun j x hj hx hz => by
    have h1 := hmono j x (by rw [← hr]; exact hj) hx
    rw [(hnegs x).2 hz] at h1
    cases h1⟩
  have HF : Hid ((∀ x, l[r]? = some x → foundN l e = decide (newerZ x e = 0)) ∧ (l[r]? = none → foundN l e = false)) := Lib.hid ⟨fun x hx => by
    rw [hr] at hx
    exact by unfold foundN; rw [hx], fun hx => by
    rw [hr] at hx
    exact by unfold foundN; rw [hx]⟩
  have HR : Hid (n = l.length) := Lib.hid hnn
  rw [← hr, ← hnn]
  rw [← hnn] at hn
  generalize foundN l e = fb at *
  have HRR := Lib.hid hr
  clear h hnn hmono hnegs hr
  simp only [enV]
  go_enter Try.func109, Try.ntmps109
  go_wp2_with fail
  obtain ⟨wb, hwb⟩ : ∃ y, y = w.alloc (.cells #[.int .i64 e.seq, .string e.key, .bool e.del, .int .i64 e.slot, .int .i64 e.off, .int .i64 e.size] 23) := ⟨_, rfl⟩
  have HG0 : Hid (Gr w wb ∧ wb.heap[w.heap.size]? = some (.cells #[.int .i64 e.seq, .string e.key, .bool e.del, .int .i64 e.slot, .int .i64 e.off, .int .i64 e.size] 23)) := Lib.hid (by rw [hwb]; exact ⟨(Gr.refl w).alloc _, blkNew w _⟩)
  rw [← hwb]
  clear hwb
  go_loopw [9, 10] (fun t9 t10 wx => ∃ i j : Nat, t9 = .int .i64 i ∧ t10 = .int .i64 j ∧ i ≤ r ∧ r ≤ j ∧ j ≤ n ∧ Hid (Gr wb wx)) (fun t9 t10 _ => (intOf t10).toNat - (intOf t9).toNat)
  case atStart => exact ⟨0, n, rfl, rfl, by omega, hrn, by omega, Lib.hid (Gr.refl _)⟩
  case round =>
    obtain ⟨i, j, rfl, rfl, h1, h2, h3, HG⟩ := hrel
    by_cases hij : i < j
    · have hij' : (i : Int) < j := by omega
      obtain ⟨m, hm⟩ : ∃ m, m = (i + j) / 2 := ⟨_, rfl⟩
      have hmj : m < j := by omega
      have him : i ≤ m := by omega
      obtain ⟨g, x, rfl, hx, hc⟩ := HO.out m (by omega)
      have hmn : (m : Int) < n := by omega
      have e2 : ((i : Int) + (j : Int)) / 2 = (m : Int) := by omega
      have HW := Lib.hid (HG0.out.1.trans HG.out)
      have d0 := HW.out.keep (hc 0 _ rfl)
      have d1 := HW.out.keep (hc 1 _ rfl)
      have d2 := HW.out.keep (hc 2 _ rfl)
      have d3 := HW.out.keep (hc 3 _ rfl)
      have d4 := HW.out.keep (hc 4 _ rfl)
      have d5 := HW.out.keep (hc 5 _ rfl)
      simp only [Nat.add_zero] at d0 d1 d2 d3 d4 d5
      have ce := (cellsOf (HG.out.blk HG0.out.2)).1
      clear hm hc
      by_cases hlt : newerZ x e < 0
      · have hmr : m + 1 ≤ r := by
          rcases Nat.lt_or_ge m r with h | h
          · exact h
          · exfalso; have := HM.out.2 m x h hx; omega
        clear hx
        generalize hzz : newerZ x e = z at *
        have HZ := Lib.hid hzz
        clear hzz
        go_wp2_with fail
        have HGx := Gr.refl wr.drew
        refine wp_region_flo (fun _ => False) [] [] (by kernel_rfl) (by kernel_rfl) (fun _ h => h.elim) ?_
        refine flo_seg 6 rfl ?_
        simp only [List.take_succ_cons, List.take_zero, List.drop_succ_cons, List.drop_zero]
        repeat (go_big_quiet_step (fail))
        refine wpQuiet_nil ?_
        refine flo_eff rfl rfl rfl rfl (fun K hK => ?_)
        go_wp2_with fail; refine (newer_any x e _).mono ?_; rintro e' w1 ⟨rfl, hg⟩; rw [HZ.out]; have HG1 := Lib.hid (Gr.of_drew hg); clear hg; go_wp2_with fail; refine ⟨by (first | (refine Gr.mdh ?_ _; (repeat (first | (with_reducible exact Gr.refl _) | assumption | (with_reducible apply Gr.from_drew) | (with_reducible apply Gr.alloc) | (with_reducible apply Gr.drew) | (with_reducible refine Gr.trans ?_ (by assumption)) | (with_reducible refine Gr.setCell ?_ (by omega) _))); done) | (repeat (first | (with_reducible exact Mdh.refl _ _) | (with_reducible refine Mdh.setCell ?_ (by simp) _) | (with_reducible refine Mdh.setNew ?_ (by simp) _) | (with_reducible apply Mdh.alloc) | (with_reducible apply Mdh.from_drew) | (with_reducible apply Mdh.drew) | (with_reducible refine Mdh.gr ?_ (by assumption))))), ?_⟩
        refine flo_seg 1 rfl ?_
        simp only [List.take_succ_cons, List.take_zero, List.drop_succ_cons, List.drop_zero]
        repeat (go_big_quiet_step (fail))
        refine wpQuiet_nil ?_
        refine flo_nil ?_
        go_wp2_with fail
        go_roundw
        case rel => exact ⟨m + 1, j, by go_num, rfl, by omega, by omega, by omega, Lib.hid (HG.out.trans HG1.out)⟩
        case measure => simp [intOf]; omega
      · have hmr : r ≤ m := by
          rcases Nat.lt_or_ge m r with h | h
          · exfalso; have := HM.out.1 m x h hx; omega
          · exact h
        clear hx
        generalize hzz : newerZ x e = z at *
        have HZ := Lib.hid hzz
        clear hzz
        go_wp2_with fail
        have HGx := Gr.refl wr.drew
        refine wp_region_flo (fun _ => False) [] [] (by kernel_rfl) (by kernel_rfl) (fun _ h => h.elim) ?_
        refine flo_seg 6 rfl ?_
        simp only [List.take_succ_cons, List.take_zero, List.drop_succ_cons, List.drop_zero]
        repeat (go_big_quiet_step (fail))
        refine wpQuiet_nil ?_
        refine flo_eff rfl rfl rfl rfl (fun K hK => ?_)
        go_wp2_with fail; refine (newer_any x e _).mono ?_; rintro e' w1 ⟨rfl, hg⟩; rw [HZ.out]; have HG1 := Lib.hid (Gr.of_drew hg); clear hg; go_wp2_with fail; refine ⟨by (first | (refine Gr.mdh ?_ _; (repeat (first | (with_reducible exact Gr.refl _) | assumption | (with_reducible apply Gr.from_drew) | (with_reducible apply Gr.alloc) | (with_reducible apply Gr.drew) | (with_reducible refine Gr.trans ?_ (by assumption)) | (with_reducible refine Gr.setCell ?_ (by omega) _))); done) | (repeat (first | (with_reducible exact Mdh.refl _ _) | (with_reducible refine Mdh.setCell ?_ (by simp) _) | (with_reducible refine Mdh.setNew ?_ (by simp) _) | (with_reducible apply Mdh.alloc) | (with_reducible apply Mdh.from_drew) | (with_reducible apply Mdh.drew) | (with_reducible refine Mdh.gr ?_ (by assumption))))), ?_⟩
        refine flo_seg 1 rfl ?_
        simp only [List.take_succ_cons, List.take_zero, List.drop_succ_cons, List.drop_zero]
        repeat (go_big_quiet_step (fail))
        refine wpQuiet_nil ?_
        refine flo_nil ?_
        go_wp2_with fail
        go_roundw
        case rel => exact ⟨i, m, rfl, rfl, by omega, by omega, by omega, Lib.hid (HG.out.trans HG1.out)⟩
        case measure => simp [intOf]; omega
    · have hij' : ¬ (i : Int) < j := by omega
      obtain rfl : i = r := by omega
      obtain rfl : j = i := by omega
      by_cases hjn : j < n
      · have hjn' : (j : Int) < n := by omega
        obtain ⟨g, x, rfl, hx, hc⟩ := HO.out j hjn
        have F1 : Hid (fb = decide (newerZ x e = 0)) := Lib.hid (HF.out.1 x hx)
        have HW := Lib.hid (HG0.out.1.trans HG.out)
        have d0 := HW.out.keep (hc 0 _ rfl)
        have d1 := HW.out.keep (hc 1 _ rfl)
        have d2 := HW.out.keep (hc 2 _ rfl)
        have d3 := HW.out.keep (hc 3 _ rfl)
        have d4 := HW.out.keep (hc 4 _ rfl)
        have d5 := HW.out.keep (hc 5 _ rfl)
        simp only [Nat.add_zero] at d0 d1 d2 d3 d4 d5
        have ce := (cellsOf (HG.out.blk HG0.out.2)).1
        clear hx hc HM HF
        generalize hzz : newerZ x e = z at *
        have HZ := Lib.hid hzz
        clear hzz
        have F2 : Hid ((z == 0) = fb) := Lib.hid (by rw [F1.out]; by_cases h : z = 0 <;> simp [h])
        go_wp2_with fail
        refine wp_region_flo (fun _ => False) [] [] (by kernel_rfl) (by kernel_rfl) (fun _ h => h.elim) ?_
        refine flo_seg 11 rfl ?_
        simp only [List.take_succ_cons, List.take_zero, List.drop_succ_cons, List.drop_zero]
        repeat (go_big_quiet_step (fail))
        refine wpQuiet_nil ?_
        refine flo_eff rfl rfl rfl rfl (fun K hK => ?_)
        go_wp2_with fail; refine (newer_any x e _).mono ?_; rintro e' w1 ⟨rfl, hg⟩; rw [HZ.out]; have HG1 := Lib.hid (Gr.of_drew hg); clear hg; go_wp2_with fail; refine ⟨by (first | (refine Gr.mdh ?_ _; (repeat (first | (with_reducible exact Gr.refl _) | assumption | (with_reducible apply Gr.from_drew) | (with_reducible apply Gr.alloc) | (with_reducible apply Gr.drew) | (with_reducible refine Gr.trans ?_ (by assumption)) | (with_reducible refine Gr.setCell ?_ (by omega) _))); done) | (repeat (first | (with_reducible exact Mdh.refl _ _) | (with_reducible refine Mdh.setCell ?_ (by simp) _) | (with_reducible refine Mdh.setNew ?_ (by simp) _) | (with_reducible apply Mdh.alloc) | (with_reducible apply Mdh.from_drew) | (with_reducible apply Mdh.drew) | (with_reducible refine Mdh.gr ?_ (by assumption))))), ?_⟩
        refine flo_seg 4 rfl ?_
        simp only [List.take_succ_cons, List.take_zero, List.drop_succ_cons, List.drop_zero]
        repeat (go_big_quiet_step (fail))
        refine wpQuiet_nil ?_
        refine flo_nil ?_
        go_wp2_with fail
        go_ret2
        exact ⟨by rw [F2.out]; rfl, HW.out.trans HG1.out⟩
      · have hjn' : ¬ (j : Int) < n := by omega
        have F1 : Hid (fb = false) := Lib.hid (HF.out.2 (List.getElem?_eq_none (by have := HR.out; omega)))
        go_wp2_with fail
        refine wp_region_flo (fun _ => False) [] [] (by kernel_rfl) (by kernel_rfl) (fun _ h => h.elim) ?_
        refine flo_seg 11 rfl ?_
        simp only [List.take_succ_cons, List.take_zero, List.drop_succ_cons, List.drop_zero]
        repeat (go_big_quiet_step (fail))
        refine wpQuiet_nil ?_
        refine flo_pass rfl rfl rfl ?_
        (try go_simp)
        refine flo_seg 4 rfl ?_
        simp only [List.take_succ_cons, List.take_zero, List.drop_succ_cons, List.drop_zero]
        repeat (go_big_quiet_step (fail))
        refine wpQuiet_nil ?_
        refine flo_nil ?_
        go_wp2_with fail
        go_ret2
        exact ⟨by rw [F1.out]; rfl, (HG0.out.1.trans HG.out).drew⟩
end Go.Proofs.Ytiidkehcfoajeaa
