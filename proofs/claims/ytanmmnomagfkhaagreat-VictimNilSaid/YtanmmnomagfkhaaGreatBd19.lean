/- VictimNil. -/
import Derived.Test.YtanmmnomagfkhaaGreatBd18
import Derived.Test.YtanmmnomagfkhaaGreatBd17
import Derived.Test.YtanmmnomagfkhaaGreatBd2
import Derived.Deep.Slices
import Derived.Deep.Fields
import Derived.ChangeSame
import Derived.ChangeArms
import Derived.OpenShut
import Derived.ShutString
import Derived.ChangeOld
import Derived.Lib.SmallJoins
import Derived.ChangeSlices
set_option linter.unusedVariables false
set_option linter.unusedSimpArgs false
namespace Go.Proofs.YtanmmnomagfkhaaGreat
open Go.RowKit Go.Shelf
attribute [local go_sem] OvM cell_ovm obj_ovm
attribute [local go_sem] Oper.semAt_some

theorem Vcheck_nil {w : World} {p : Option Addr} {S : Nat → Prop} (h : IXP w p ixO S) (c0 c1 c2 c3 c4 c5 c6 next : Int) (a : Option Addr) (len cap : Nat) (good : Bool) :
    Calls Tryz.prog 53 #[.pointer p, .agg #[.int .i64 c0, .int .i64 c1, .int .i64 c2, .int .i64 c3, .int .i64 c4, .int .i64 c5, .int .i64 c6], .slice a len cap, .int .i64 next, .bool good] w fun e w' => e = .returned (.tuple #[.int .i64 0, .int .i64 1]) ∧ Gr w w' := by
  have HSL := Lib.hid (Slots_any (h.gr ((Gr.refl w).alloc (cfgO ⟨c0, c1, c2, c3, c4, c5, c6⟩))))
  rw [show (ixO.slots.length : Int) = 0 from rfl] at HSL
  (try simp only [cfgO] at HSL)
  clear h
  go_enter Tryz.func53, Tryz.ntmps53
  go_wp2_with (go_at_call 91; refine Calls.mono HSL.out ?_; rintro e w1 ⟨rfl, rfl⟩)
  go_ret2
  exact ⟨rfl, by (repeat (first | (with_reducible exact Gr.refl _) | assumption | (with_reducible apply Gr.from_drew) | (with_reducible apply Gr.alloc) | (with_reducible apply Gr.drew) | (with_reducible refine Gr.trans ?_ (by assumption)) | (with_reducible refine Gr.setCell ?_ (by omega) _)))⟩
theorem VSides_nil {w : World} {p : Option Addr} {S : Nat → Prop} (h : IXP w p ixO S) (c0 c1 c2 c3 c4 c5 c6 next : Int) (a : Option Addr) (len cap : Nat) :
    Calls Tryz.prog 13 #[.pointer p, .agg #[.int .i64 c0, .int .i64 c1, .int .i64 c2, .int .i64 c3, .int .i64 c4, .int .i64 c5, .int .i64 c6], .slice a len cap, .int .i64 next] w fun e w' => e = .returned (.tuple #[.slice none 0 0, .int .i64 1]) ∧ Gr w w' := by
  have HCK := Lib.hid (fun W (g : Gr w W) => Vcheck_nil (h.gr g) c0 c1 c2 c3 c4 c5 c6 next a len cap true)
  clear h
  go_enter Tryz.func13, Tryz.ntmps13
  go_wp2_with (go_at_call 53; refine Calls.mono (HCK.out _ (by (repeat (first | (with_reducible exact Gr.refl _) | assumption | (with_reducible apply Gr.from_drew) | (with_reducible apply Gr.alloc) | (with_reducible apply Gr.drew) | (with_reducible refine Gr.trans ?_ (by assumption)) | (with_reducible refine Gr.setCell ?_ (by omega) _))))) ?_; rintro e w1 ⟨rfl, hg⟩; have HG := Lib.hid (((Gr.refl w).alloc _).trans hg); clear hg)
  go_ret2
  exact ⟨rfl, HG.out⟩
set_option maxRecDepth 40000 in
theorem VChoose_nil {w : World} {p : Option Addr} {S : Nat → Prop} (h : IXP w p ixO S) (c0 c1 c2 c3 c4 c5 c6 policy next : Int) (a : Option Addr) (len cap : Nat) :
    Calls Tryz.prog 15 #[.pointer p, .agg #[.int .i64 c0, .int .i64 c1, .int .i64 c2, .int .i64 c3, .int .i64 c4, .int .i64 c5, .int .i64 c6], .slice a len cap, .int .i64 policy, .int .i64 next] w fun e w' => e = .returned (.tuple #[.int .i64 0, .bool false, .int .i64 1]) ∧ Gr w w' := by
  have HCK := Lib.hid (fun W (g : Gr w W) => Vcheck_nil (h.gr g) c0 c1 c2 c3 c4 c5 c6 next a len cap (polB26 policy))
  have HKN := Lib.hid (fun w1 => known_any policy w1)
  clear h
  generalize polB26 policy = good at *
  go_enter Tryz.func15, Tryz.ntmps15
  go_upto_region 1 with fail
  obtain ⟨b0, hb0⟩ : ∃ q, q = w.heap.size := ⟨_, rfl⟩
  obtain ⟨w0, hw0⟩ : ∃ y, y = w.alloc (cfgO ⟨c0, c1, c2, c3, c4, c5, c6⟩) := ⟨_, rfl⟩
  have H0 : Hid (SW w [blkA b0 (cfgO ⟨c0, c1, c2, c3, c4, c5, c6⟩)] w0) := Lib.hid (by rw [hw0, hb0]; exact (SW.start w).alloc _)
  (try simp only [cfgO] at hw0)
  have d0 := (cellsOf (show w0.heap[b0]? = _ from H0.out.get (i := 0) rfl)).1
  (try simp only [cfgO] at d0)
  rw [← hw0, ← hb0]
  clear hw0 hb0
  refine wp_region_flo (fun _ => False) [] [] (by kernel_rfl) (by kernel_rfl) (fun _ h => h.elim) ?_
  refine flo_seg 5 rfl ?_
  simp only [List.take_succ_cons, List.take_zero, List.drop_succ_cons, List.drop_zero]
  repeat (go_big_quiet_step (fail))
  refine wpQuiet_nil ?_
  refine flo_eff rfl rfl rfl rfl (fun K hK => ?_)
  go_wp2_with ((go_at_call 60; refine Calls.mono (HKN.out _) ?_; rintro e w1 ⟨rfl, rfl⟩))
  refine ⟨by exact (Gr.refl _).mdh _, ?_⟩
  refine flo_eff rfl rfl rfl rfl (fun K hK => ?_)
  go_wp2_with ((go_at_call 53; refine Calls.mono (HCK.out _ (H0.out.g.trans (Gr.refl w0).drew)) ?_; rintro e w1 ⟨rfl, hg⟩; have HG1 := Lib.hid (H0.out.g.trans ((Gr.refl w0).drew.trans hg)); have HG0 := Lib.hid hg; clear hg))
  refine ⟨by exact HG0.out.mdh _, ?_⟩
  refine flo_seg 5 rfl ?_
  simp only [List.take_succ_cons, List.take_zero, List.drop_succ_cons, List.drop_zero]
  repeat (go_big_quiet_step (fail))
  refine wpQuiet_nil ?_
  refine flo_nil ?_
  go_wp2_with fail
  exact bodyPost_ret (v := .tuple #[.int .i64 0, .bool false, .int .i64 1]) (by simp [results, Tryz.results15, go_sem]) rfl ⟨rfl, HG1.out⟩
set_option maxRecDepth 40000 in
theorem VOrder_nil {w : World} {p : Option Addr} {S : Nat → Prop} (h : IXP w p ixO S) (c0 c1 c2 c3 c4 c5 c6 policy next : Int) (a : Option Addr) (len cap : Nat) :
    Calls Tryz.prog 17 #[.pointer p, .agg #[.int .i64 c0, .int .i64 c1, .int .i64 c2, .int .i64 c3, .int .i64 c4, .int .i64 c5, .int .i64 c6], .slice a len cap, .int .i64 policy, .int .i64 next] w fun e w' => e = .returned (.tuple #[.slice none 0 0, .int .i64 1]) ∧ Gr w w' := by
  have HCK := Lib.hid (fun W (g : Gr w W) => Vcheck_nil (h.gr g) c0 c1 c2 c3 c4 c5 c6 next a len cap (polB26 policy))
  have HKN := Lib.hid (fun w1 => known_any policy w1)
  clear h
  generalize polB26 policy = good at *
  go_enter Tryz.func17, Tryz.ntmps17
  go_upto_region 1 with fail
  obtain ⟨b0, hb0⟩ : ∃ q, q = w.heap.size := ⟨_, rfl⟩
  obtain ⟨w0, hw0⟩ : ∃ y, y = (w.alloc (cfgO ⟨c0, c1, c2, c3, c4, c5, c6⟩)).alloc (.cells #[.int .i64 policy] 3) := ⟨_, rfl⟩
  have H0 : Hid (SW w [blkA (b0 + 1) (.cells #[.int .i64 policy] 3), blkA b0 (cfgO ⟨c0, c1, c2, c3, c4, c5, c6⟩)] w0) := Lib.hid (by
    have h := ((SW.start w).alloc (cfgO ⟨c0, c1, c2, c3, c4, c5, c6⟩)).alloc (.cells #[.int .i64 policy] 3)
    rw [← hw0] at h
    simp only [World.size_alloc, ← hb0] at h
    exact h)
  (try simp only [cfgO] at hw0)
  have d0 := (cellsOf (show w0.heap[b0]? = _ from H0.out.get (i := 1) rfl)).1
  have d8 := ((cellsOf (show w0.heap[b0 + 1]? = _ from H0.out.get (i := 0) rfl)).1 0).trans (show _ = some (Value.int .i64 policy) from rfl)
  (try simp only [cfgO] at d0)
  rw [← hw0, ← hb0]
  clear hw0 hb0
  have HG := Gr.refl w0.drew
  refine wp_region_flo (fun _ => False) [12] [] (by kernel_rfl) (by kernel_rfl) (fun _ h => h.elim) ?_
  refine flo_seg 5 rfl ?_
  simp only [List.take_succ_cons, List.take_zero, List.drop_succ_cons, List.drop_zero]
  repeat (go_big_quiet_step (fail))
  refine wpQuiet_nil ?_
  refine flo_effg rfl rfl rfl (fun wg1 hgg1 K hK => ?_)
  (try replace HG := Gr.trans (Gr.trans HG (by (repeat (first | (with_reducible exact Gr.refl _) | assumption | (with_reducible apply Gr.from_drew) | (with_reducible apply Gr.alloc) | (with_reducible apply Gr.drew) | (with_reducible refine Gr.trans ?_ (by assumption)) | (with_reducible refine Gr.setCell ?_ (by omega) _))))) hgg1)
  go_wp2_with ((go_at_call 60; refine Calls.mono (HKN.out _) ?_; rintro e w1 ⟨rfl, rfl⟩))
  refine ⟨by exact (Gr.refl _).mdh _, ?_⟩
  refine flo_effg rfl rfl rfl (fun wg2 hgg2 K hK => ?_)
  (try replace HG := Gr.trans (Gr.trans HG (by (repeat (first | (with_reducible exact Gr.refl _) | assumption | (with_reducible apply Gr.from_drew) | (with_reducible apply Gr.alloc) | (with_reducible apply Gr.drew) | (with_reducible refine Gr.trans ?_ (by assumption)) | (with_reducible refine Gr.setCell ?_ (by omega) _))))) hgg2)
  go_wp2_with ((go_at_call 53; refine Calls.mono (HCK.out _ (H0.out.g.trans ((Gr.refl w0).drew.trans HG))) ?_; rintro e w1 ⟨rfl, hg⟩; have HG0 := Lib.hid hg))
  refine ⟨by exact HG0.out.mdh _, ?_⟩
  refine flo_seg 3 rfl ?_
  simp only [List.take_succ_cons, List.take_zero, List.drop_succ_cons, List.drop_zero]
  repeat (go_big_quiet_step (fail))
  refine wpQuiet_nil ?_
  refine flo_float (fun b => .pointer (some ⟨b, 0, none⟩)) (.cells #[.int .i64 0] 3) rfl rfl (fun w => by kernel_rfl) (fun wf1 fb1 hgf1 fl1 fh1 ft1 fo1 => ?_)
  (try replace HG := Gr.trans (Gr.trans HG (by (repeat (first | (with_reducible exact Gr.refl _) | assumption | (with_reducible apply Gr.from_drew) | (with_reducible apply Gr.alloc) | (with_reducible apply Gr.drew) | (with_reducible refine Gr.trans ?_ (by assumption)) | (with_reducible refine Gr.setCell ?_ (by omega) _))))) hgf1)
  (try have fc1 := (cellsOf fo1).1)
  (try have ff1 := (cellsOf fo1).2)
  refine flo_eff rfl rfl rfl rfl (fun K hK => ?_)
  go_wp2
  refine ⟨by (first | (refine Gr.mdh ?_ _; (repeat (first | (with_reducible exact Gr.refl _) | assumption | (with_reducible apply Gr.from_drew) | (with_reducible apply Gr.alloc) | (with_reducible apply Gr.drew) | (with_reducible refine Gr.trans ?_ (by assumption)) | (with_reducible refine Gr.setCell ?_ (by omega) _))); done) | (repeat (first | (with_reducible exact Mdh.refl _ _) | (with_reducible refine Mdh.setCell ?_ (by simp) _) | (with_reducible refine Mdh.setNew ?_ (by simp) _) | (with_reducible apply Mdh.alloc) | (with_reducible apply Mdh.from_drew) | (with_reducible apply Mdh.drew) | (with_reducible refine Mdh.gr ?_ (by assumption))))), ?_⟩
  refine flo_seg 1 rfl ?_
  simp only [List.take_succ_cons, List.take_zero, List.drop_succ_cons, List.drop_zero]
  repeat (go_big_quiet_step (fail))
  refine wpQuiet_nil ?_
  refine flo_nil ?_
  have HGW : Hid (Gr w (wf1.setCell ⟨fb1, 0, none⟩ (.int .i64 0))) := Lib.hid ((H0.out.g.trans ((Gr.refl w0).drew.trans HG)).md ((Mdh.refl (fun k => k = fb1) wf1).setCell (p := ⟨fb1, 0, none⟩) rfl (.int .i64 0)) (fun k hk => by rw [hk]; exact Nat.le_trans H0.out.g.sz fl1))
  go_wp2_with fail
  go_ret2
  exact ⟨rfl, HGW.out⟩
set_option maxRecDepth 40000 in
set_option maxHeartbeats 8000000 in
theorem VictimNil_any (c0 c1 c2 c3 c4 c5 c6 : Int) (a : Option Addr) (len cap : Nat) (hle : len ≤ cap) (hcap : cap ≤ maxLen) (policy next : Int) (w : World) : Calls Tryz.prog 6 #[.agg #[.int .i64 c0, .int .i64 c1, .int .i64 c2, .int .i64 c3, .int .i64 c4, .int .i64 c5, .int .i64 c6], .slice a len cap, .int .i64 policy, .int .i64 next] w fun e w' => e = .returned (.bool true) ∧ Gr w w' := by
  unfold maxLen at hcap
  go_enter Tryz.func6, Tryz.ntmps6
  by_cases hk : 40 < len
  · have hk' : (40 : Int) < len := by omega
    go_wp2_with (go_at_call 10; refine (v_works _).mono ?_; rintro e w1 ⟨rfl, hg⟩; have HG := Lib.hid hg; clear hg)
    go_ret
    exact ⟨rfl, ((Gr.refl w).alloc _).trans HG.out⟩
  · have hk' : ¬ (40 : Int) < len := by omega
    go_wp2_with fail
    obtain ⟨b1, hb1⟩ : ∃ q, q = w.heap.size := ⟨_, rfl⟩
    obtain ⟨w0, hw0⟩ : ∃ y, y = ((w.alloc (.cells #[.int .i64 c0, .int .i64 c1, .int .i64 c2, .int .i64 c3, .int .i64 c4, .int .i64 c5, .int .i64 c6] 24)).alloc (.cells #[.pointer none, .slice none 0 0] 90)).alloc (.cells #[.pointer none, .pointer (some ⟨w.heap.size + 1, 0, none⟩)] 35) := ⟨_, rfl⟩
    have HP : Hid (NilP w0 (w.heap.size + 1 + 1)) := Lib.hid (by rw [hw0]; exact nilP _ _ (by rw [World.size_alloc]))
    have H0 : Hid (Gr w w0 ∧ w0.heap[b1]? = some (.cells #[.int .i64 c0, .int .i64 c1, .int .i64 c2, .int .i64 c3, .int .i64 c4, .int .i64 c5, .int .i64 c6] 24)) := Lib.hid (by
      rw [hw0, hb1]
      exact ⟨(((Gr.refl w).alloc _).alloc _).alloc _, (((Gr.refl _).alloc _).alloc _).blk (blkNew w _)⟩)
    rw [← hw0]
    rw [← hb1] at HP
    rw [← hb1]
    clear hw0 hb1
    go_loopw [28] (fun t28 wx => ∃ j : Nat, j ≤ 2 ∧ t28 = .int .i64 j ∧ Hid (Gr w0 wx)) (fun t28 _ => 2 - (intOf t28).toNat)
    case atStart => exact ⟨0, by omega, rfl, Lib.hid (Gr.refl _)⟩
    case round =>
      obtain ⟨j, hj, rfl, HR⟩ := hrel
      by_cases hlt : j < 2
      · have hlt' : (j : Int) < 2 := by omega
        obtain ⟨p, S, hp⟩ := HP.out.at2 j hlt
        have HQ := Lib.hid hp
        have d := (hp _ HR.out).1
        have dc := (cellsOf (HR.out.blk H0.out.2)).1
        clear hp
        go_wp2_with fail
        refine (VSides_nil (HQ.out _ HR.out).2 c0 c1 c2 c3 c4 c5 c6 next a len cap).mono ?_
        rintro e w1 ⟨rfl, hg⟩
        have HG1 := Lib.hid (HR.out.trans hg)
        clear hg d dc
        have dc := (cellsOf (HG1.out.blk H0.out.2)).1
        go_wp2_with fail
        refine (VChoose_nil (HQ.out _ HG1.out).2 c0 c1 c2 c3 c4 c5 c6 policy next a len cap).mono ?_
        rintro e w2 ⟨rfl, hg⟩
        have HG2 := Lib.hid (HG1.out.trans hg)
        clear hg dc
        have dc := (cellsOf (HG2.out.blk H0.out.2)).1
        go_wp2_with fail
        refine (VOrder_nil (HQ.out _ HG2.out).2 c0 c1 c2 c3 c4 c5 c6 policy next a len cap).mono ?_
        rintro e w3 ⟨rfl, hg⟩
        have HG3 := Lib.hid (HG2.out.trans hg)
        clear hg dc
        go_wp2_with fail
        go_roundw
        case rel => exact ⟨j + 1, by omega, by go_num, Lib.hid HG3.out⟩
        case measure => simp [intOf]; omega
      · have hlt' : ¬ (j : Int) < 2 := by omega
        go_wp2_with fail
        refine (v_works _).mono ?_
        rintro e w4 ⟨rfl, hg⟩
        have HG4 := Lib.hid ((H0.out.1.trans HR.out).trans hg)
        clear hg
        go_wp2
        go_ret
        exact ⟨rfl, HG4.out⟩
end Go.Proofs.YtanmmnomagfkhaaGreat

/- For rows: slices of structs, and bytes. -/
set_option linter.unusedVariables false
set_option linter.unusedSimpArgs false
namespace Go.Proofs.YtanmmnomagfkhaaGreat
open Go.ChangeShapes Go.WideShapes Go.Deep
section
variable {H : Type} {enc : TypeId × Value → H} {P : Program} {w : World} {base : Nat} {spare : Nat → Bool} {held : Bool}
theorem open_slice_fields {t e : TypeId} {fs : Array Field} {fuel : Nat} {cs : List Value} {x : DataW H × List MemPlace} (ht : P.underlying t = some (.slice e)) (he : P.underlying e = some (.struct fs))
    (hone : oneCellFields P fs = true) (hC : P.cellsOf e = fs.size) (h : DataW.trod enc P w base spare held fuel t cs = some x) :
    (cs = [.slice none 0 0] ∧ x = (.nil, [])) ∨
    ∃ (a : Addr) (len cap m : Nat) (D : Nat → DataW H) (Pl : Nat → List MemPlace), cs = [.slice (some a) len cap] ∧ base ≤ a.block ∧ len ≤ cap ∧ cap ≤ maxLen ∧ m = (if spare a.block then cap else len) ∧
      x = (.slice ((List.range len).map D) ((List.range (m - len)).map fun j => D (len + j)), MemPlace.row a (m * fs.size) ++ (List.range m).flatMap Pl) ∧
      ∀ i, i < m → ∃ (ys : List (DataW H × List MemPlace)) (n : Nat), D i = .agg (ys.map (·.1)) ∧ Pl i = ys.flatMap (·.2) ∧ ys.length = fs.size ∧
        ∀ (j : Nat) (f : Field), fs[j]? = some f → ∃ (v : Value) (y : DataW H × List MemPlace), w.cell? (a.add (i * fs.size + j)) = some v ∧ ys[j]? = some y ∧ DataW.trod enc P w base spare held n f.type [v] = some y := by
  rcases open_slice ht h with h0 | ⟨a, len, cap, m, n, D, Pl, hcs, hb, hl, hm, hmm, hx, hi⟩
  · exact .inl h0
  · refine .inr ⟨a, len, cap, m, D, Pl, hcs, hb, hl, hm, hmm, by rw [hC] at hx; exact hx, fun i him => ?_⟩
    obtain ⟨cs', hc, ht'⟩ := hi i him
    rw [hC] at hc
    obtain ⟨ys, n', hn', hy, hlen, hyl, hf⟩ := DataW.trod_struct he ht'
    obtain ⟨_, hcl, hat⟩ := World.cells?_some hc
    simp only [Prod.mk.injEq] at hy
    refine ⟨ys, n', hy.1, hy.2, hyl, fun j f hj => ?_⟩
    obtain ⟨ho, hk⟩ := hone_of hone j f hj
    have hjl : j < fs.size := (Array.getElem?_eq_some_iff.1 hj).1
    have hcell := hat j hjl
    have hv : cs'[j]? = some (cs'[j]'(by omega)) := List.getElem?_eq_getElem (by omega)
    have h1 := hf j f hj
    rw [ho, hk] at h1
    have hone' : (cs'.drop j).take 1 = [cs'[j]'(by omega)] := by
      rw [List.drop_eq_getElem_cons (by omega)]
      rfl
    rw [hone'] at h1
    have hys : ys[j]? = some (ys[j]'(by omega)) := List.getElem?_eq_getElem (by omega)
    refine ⟨_, _, ?_, hys, h1.trans hys⟩
    rw [← Go.Deep.add_add, hcell, hv]
end

open Go.RowKit
theorem list_of {α : Type} (len : Nat) (d : α) (R : Nat → α → Prop) (h : ∀ i, i < len → ∃ x, R i x) : ∃ l : List α, l.length = len ∧ ∀ i, i < l.length → R i (l[i]?.getD d) := by
  classical
  refine ⟨(List.range len).map (fun i => if hi : i < len then Classical.choose (h i hi) else d), by simp, fun i hi => ?_⟩
  have hi' : i < len := by simpa using hi
  simp only [List.getElem?_map, List.getElem?_range hi', Option.map_some, Option.getD_some, dif_pos hi']
  exact Classical.choose_spec (h i hi')
theorem u8_of {a : Int} (h : (Lit.int .u8 a).wf = true) : ∃ c : UInt8, a = (c.toNat : Int) := by
  have h' : (decide (IntKind.u8.min ≤ a) && decide (a ≤ IntKind.u8.max)) = true := h
  have : 0 ≤ a ∧ a ≤ 255 := by simpa [IntKind.min, IntKind.max, IntKind.signed, IntKind.bits] using h'
  refine ⟨UInt8.ofNat a.toNat, ?_⟩
  rw [UInt8.toNat_ofNat_of_lt' (by have : UInt8.size = 256 := rfl; omega)]
  omega
theorem at_add {w : World} {a : Addr} {k : Nat} {v : Value} (h : w.cell? (a.add k) = some v) (hs : a.spot = none) : a.block < w.heap.size ∧ w.cell? ⟨a.block, a.off + k, none⟩ = some v := by
  have e : a.add k = ⟨a.block, a.off + k, none⟩ := by
    unfold Addr.add
    obtain ⟨b, o, s⟩ := a
    split
    · simp_all
    · rfl
  rw [e] at h
  refine ⟨?_, h⟩
  unfold World.cell? at h
  refine Classical.byContradiction fun hc => ?_
  rw [Array.getElem?_eq_none (by simpa using hc)] at h
  cases h
theorem spot_add {w : World} {a : Addr} {v : Value} (h : w.cell? (a.add 0) = some v) : a.spot = none := by
  simpa [Addr.add] using World.cell?_spot h
end Go.Proofs.YtanmmnomagfkhaaGreat

/- A row of numbers that lies somewhere. -/
set_option linter.unusedVariables false
set_option linter.unusedSimpArgs false
namespace Go.Proofs.YtanmmnomagfkhaaGreat
open Go.ChangeShapes Go.WideShapes Go.Deep Go.RowKit
theorem open_nums {H : Type} {enc : TypeId × Value → H} {w : World} {base : Nat} {spare : Nat → Bool} {held : Bool} {fuel : Nat} {a : Option Addr} {len cap : Nat} {x : DataW H × List MemPlace}
    (h : DataW.trod enc Tryz.prog w base spare held fuel 25 (Value.slice a len cap).cells.toList = some x) : len ≤ cap ∧ cap ≤ maxLen ∧ ∃ l : List Int, l.length = len ∧ NumAt w a l := by
  rcases open_ints Tryz.underlying25 Tryz.underlying3 (by kernel_rfl) h with ⟨hcs, _⟩ | ⟨a', l, c, zs, hcs, _, hl, hm, hz, _, hcell, hwz⟩
  · simp [Value.cells] at hcs
    obtain ⟨rfl, rfl, rfl⟩ := hcs
    exact ⟨by omega, by simp [maxLen], [], rfl, fun i x hx => by simp at hx⟩
  · simp [Value.cells] at hcs
    obtain ⟨rfl, rfl, rfl⟩ := hcs
    have hlz : len ≤ zs.length := by rw [hz]; split <;> omega
    refine ⟨hl, hm, zs.take len, by rw [List.length_take]; omega, fun i x hx => ?_⟩
    have hi : i < len := by
      have := (List.getElem?_eq_some_iff.1 hx).1
      rw [List.length_take] at this
      omega
    rw [List.getElem?_take, if_pos hi] at hx
    have hc := hcell i (by omega)
    rw [List.getD_eq_getElem?_getD, hx, Option.getD_some] at hc
    have hsp : a'.spot = none := spot_add (hcell 0 (by omega))
    obtain ⟨hb, d0⟩ := at_add hc hsp
    exact ⟨_, _, by obtain ⟨b, o, s⟩ := a'; simp_all, hb, d0⟩
end Go.Proofs.YtanmmnomagfkhaaGreat

/- A struct of seven one-cell fields by value: the howto's block (extra-structs, 2), copied as it directs. -/
set_option linter.unusedVariables false
set_option linter.unusedSimpArgs false
namespace Go.Proofs.YtanmmnomagfkhaaGreat
open Go.Joins Go.ChangeShapes Go.WideShapes Go.RowKit Go.Deep
section
variable {H : Type} {enc : TypeId × Value → H} {P : Program} {w : World} {base : Nat} {spare : Nat → Bool} {held : Bool}
theorem open_agg7 {r : Reach} {b0 : Nat} {t : TypeId} {f0 f1 f2 f3 f4 f5 f6 : Field} {v : Value} {d : DataW H} {p : List MemPlace} (hs : P.underlying t = some (.struct #[f0, f1, f2, f3, f4, f5, f6])) (hone : oneCellFields P #[f0, f1, f2, f3, f4, f5, f6] = true) (hC : P.cellsOf t = 7)
    (hv : Value.okWide P w r b0 t v) (h : DataW.Trod enc P w base spare held t v d p) :
    ∃ (v0 v1 v2 v3 v4 v5 v6 : Value) (y0 y1 y2 y3 y4 y5 y6 : DataW H × List MemPlace) (n : Nat), v = .agg #[v0, v1, v2, v3, v4, v5, v6] ∧ d = .agg [y0.1, y1.1, y2.1, y3.1, y4.1, y5.1, y6.1] ∧ p = y0.2 ++ (y1.2 ++ (y2.2 ++ (y3.2 ++ (y4.2 ++ (y5.2 ++ y6.2))))) ∧
      DataW.trod enc P w base spare held n f0.type [v0] = some y0 ∧ DataW.trod enc P w base spare held n f1.type [v1] = some y1 ∧ DataW.trod enc P w base spare held n f2.type [v2] = some y2 ∧ DataW.trod enc P w base spare held n f3.type [v3] = some y3 ∧ DataW.trod enc P w base spare held n f4.type [v4] = some y4 ∧ DataW.trod enc P w base spare held n f5.type [v5] = some y5 ∧ DataW.trod enc P w base spare held n f6.type [v6] = some y6 := by
  obtain ⟨cs, rfl, hsz⟩ := okWide_struct hs hv
  obtain ⟨l⟩ := cs
  match l, hsz.trans hC with
  | [c0, c1, c2, c3, c4, c5, c6], _ =>
    obtain ⟨fuel, hf⟩ := h
    obtain ⟨xs, n, _, hx, _, hlen, hg⟩ := DataW.trod_struct hs hf
    obtain ⟨o0, k0⟩ := hone_of hone 0 f0 rfl
    obtain ⟨o1, k1⟩ := hone_of hone 1 f1 rfl
    obtain ⟨o2, k2⟩ := hone_of hone 2 f2 rfl
    obtain ⟨o3, k3⟩ := hone_of hone 3 f3 rfl
    obtain ⟨o4, k4⟩ := hone_of hone 4 f4 rfl
    obtain ⟨o5, k5⟩ := hone_of hone 5 f5 rfl
    obtain ⟨o6, k6⟩ := hone_of hone 6 f6 rfl
    match xs, hlen with
    | [y0, y1, y2, y3, y4, y5, y6], _ =>
      simp only [Prod.mk.injEq] at hx
      exact ⟨c0, c1, c2, c3, c4, c5, c6, y0, y1, y2, y3, y4, y5, y6, n, rfl, by simpa using hx.1, by simpa using hx.2, by simpa [Value.cells, o0, k0] using hg 0 f0 rfl, by simpa [Value.cells, o1, k1] using hg 1 f1 rfl, by simpa [Value.cells, o2, k2] using hg 2 f2 rfl, by simpa [Value.cells, o3, k3] using hg 3 f3 rfl, by simpa [Value.cells, o4, k4] using hg 4 f4 rfl, by simpa [Value.cells, o5, k5] using hg 5 f5 rfl, by simpa [Value.cells, o6, k6] using hg 6 f6 rfl⟩
end
end Go.Proofs.YtanmmnomagfkhaaGreat
