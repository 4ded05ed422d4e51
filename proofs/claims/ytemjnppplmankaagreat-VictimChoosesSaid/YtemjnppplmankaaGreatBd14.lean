/- A box of an entry; six numbers, one for each slot. -/
import Derived.Test.YtemjnppplmankaaGreatBd12
import Derived.Test.YtemjnppplmankaaGreatBd13
import Derived.Test.YtemjnppplmankaaGreatBd3
import Derived.Deep.RegionWith
import Derived.Deep.DeepCutAuto
import Derived.Deep.CutBlock
import Derived.Deep.DeepMust
set_option linter.unusedVariables false
set_option linter.unusedSimpArgs false
namespace Go.Proofs.YtemjnppplmankaaGreat
open Go.RowKit Go.Shelf

abbrev boxF (e : En) : Obj := .cells #[.int .i64 e.seq, .string e.key, .bool e.del, .int .i64 e.slot, .int .i64 e.off, .int .i64 e.size] 89
theorem SW.put {w0 w w' : World} {R : List Asn} {b : Nat} {o o' : Obj} (h : SW w0 (blkA b o :: R) w) (m : Mdh (fun k => k = b) w w') (hB : w'.heap[b]? = some o') : SW w0 (blkA b o' :: R) w' := h.step m (fun _ hk => .inl hk) hB (fun _ hk => .inl hk)
theorem us_get (us : Int → Int) (σ : Nat) (h : σ < 6) : (#[.int .i64 (us 0), .int .i64 (us 1), .int .i64 (us 2), .int .i64 (us 3), .int .i64 (us 4), .int .i64 (us 5)] : Array Value)[σ]? = some (.int .i64 (us σ)) := by
  have h' : σ = 0 ∨ σ = 1 ∨ σ = 2 ∨ σ = 3 ∨ σ = 4 ∨ σ = 5 := by omega
  rcases h' with rfl | rfl | rfl | rfl | rfl | rfl <;> rfl
theorem us_set (us : Int → Int) (σ : Nat) (h : σ < 6) (u : Int) : (#[.int .i64 (us 0), .int .i64 (us 1), .int .i64 (us 2), .int .i64 (us 3), .int .i64 (us 4), .int .i64 (us 5)] : Array Value).setIfInBounds σ (.int .i64 u) = #[.int .i64 (upd us σ u 0), .int .i64 (upd us σ u 1), .int .i64 (upd us σ u 2), .int .i64 (upd us σ u 3), .int .i64 (upd us σ u 4), .int .i64 (upd us σ u 5)] := by
  have h' : σ = 0 ∨ σ = 1 ∨ σ = 2 ∨ σ = 3 ∨ σ = 4 ∨ σ = 5 := by omega
  rcases h' with rfl | rfl | rfl | rfl | rfl | rfl <;> simp [upd]
end Go.Proofs.YtemjnppplmankaaGreat

/- config.Check and config.Room, at any numbers (Cfg.Bd and the contracts that take it are of older texts). -/
set_option linter.unusedVariables false
set_option linter.unusedSimpArgs false
namespace Go.Proofs.YtemjnppplmankaaGreat
open Go.RowKit
attribute [local go_sem] OvM cell_ovm obj_ovm

structure Cfg where
  slots : Int
  size : Int
  reserve : Int
  work : Int
  key : Int
  value : Int
  policy : Int
structure Cfg.Bd (c : Cfg) : Prop where
  slots : -1000000 ≤ c.slots ∧ c.slots ≤ 1000000
  size : -1000000 ≤ c.size ∧ c.size ≤ 1000000
  reserve : -1000000 ≤ c.reserve ∧ c.reserve ≤ 1000000
  work : -1000000 ≤ c.work ∧ c.work ≤ 1000000
  key : -1000000 ≤ c.key ∧ c.key ≤ 1000000
  value : -1000000 ≤ c.value ∧ c.value ≤ 1000000
  policy : -1000000 ≤ c.policy ∧ c.policy ≤ 1000000
/-- Numbers that wrap to themselves. -/
theorem wrap64_of {n : Int} (h : -9223372036854775808 ≤ n ∧ n ≤ 9223372036854775807) : wrap64 n = n := by unfold wrap64; omega
def cfgV (c : Cfg) : Value := .agg #[.int .i64 c.slots, .int .i64 c.size, .int .i64 c.reserve, .int .i64 c.work, .int .i64 c.key, .int .i64 c.value, .int .i64 c.policy]
abbrev cfgO (c : Cfg) : Obj := .cells #[.int .i64 c.slots, .int .i64 c.size, .int .i64 c.reserve, .int .i64 c.work, .int .i64 c.key, .int .i64 c.value, .int .i64 c.policy] 24
def spans (c : Cfg) : List Sd := [(c.reserve, 2, 8), (c.slots, c.reserve + 2, 32), (c.key, 1, 32), (c.value, 0, 512), (c.size, 16 + (16 + c.key + c.value), 8192), (c.work, 2 * (16 + c.key + c.value + 16), 65536), (c.policy, 1, 2)]
def spanB (x : Sd) : Bool := decide (x.2.1 ≤ x.1) && decide (x.1 ≤ x.2.2)
def cfgOk (c : Cfg) : Bool := (spans c).all spanB
/-- The size of a record, as it is computed. -/
def recW (c : Cfg) : Int := wrap64 (wrap64 (16 + c.key) + c.value)
theorem recW_eq {c : Cfg} (h : 1 ≤ c.key ∧ c.key ≤ 32) (h2 : 0 ≤ c.value ∧ c.value ≤ 512) : recW c = 16 + c.key + c.value := by
  unfold recW
  rw [wrap64_of (n := 16 + c.key) (by omega), wrap64_of (by omega)]
set_option maxRecDepth 40000 in
theorem record_any (c : Cfg) (w : World) : Calls Tryz.prog 139 #[cfgV c] w fun e w' => e = .returned (.int .i64 (recW c)) ∧ Gr w w' := by
  simp only [cfgV]
  go_enter Tryz.func139, Tryz.ntmps139
  go_wp2
  go_ret
  exact ⟨rfl, by (repeat (first | (with_reducible exact Gr.refl _) | assumption | (with_reducible apply Gr.from_drew) | (with_reducible apply Gr.alloc) | (with_reducible apply Gr.drew) | (with_reducible refine Gr.trans ?_ (by assumption)) | (with_reducible refine Gr.setCell ?_ (by omega) _)))⟩
set_option maxRecDepth 40000 in
theorem croom_any (c : Cfg) (h1 : -1000000 ≤ c.size) (h1' : c.size ≤ 1000000) (w : World) : Calls Tryz.prog 79 #[cfgV c] w fun e w' => e = .returned (.int .i64 (c.size - 16)) ∧ Gr w w' := by
  simp only [cfgV]
  go_enter Tryz.func79, Tryz.ntmps79
  go_wp2
  go_ret
  exact ⟨rfl, by (repeat (first | (with_reducible exact Gr.refl _) | assumption | (with_reducible apply Gr.from_drew) | (with_reducible apply Gr.alloc) | (with_reducible apply Gr.drew) | (with_reducible refine Gr.trans ?_ (by assumption)) | (with_reducible refine Gr.setCell ?_ (by omega) _)))⟩
set_option maxRecDepth 40000 in
theorem croom1_any (c : Cfg) (h1 : -1000000 ≤ c.size) (h1' : c.size ≤ 1000000) (b : Nat) (w : World) (hb : w.heap[b]? = some (cfgO c)) : Calls Tryz.prog 78 #[.pointer (some ⟨b, 0, none⟩)] w fun e w' => e = .returned (.int .i64 (c.size - 16)) ∧ Gr w w' := by
  have d := (cellsOf hb).1
  have l := blkLt hb
  have HC := Lib.hid (croom_any c h1 h1')
  clear h1 h1' hb
  simp only [cfgV] at HC
  go_enter Tryz.func78, Tryz.ntmps78
  go_wp2_with (go_at_call 79; refine Calls.mono (HC.out _) ?_; rintro e w1 ⟨rfl, hg⟩; have HG := Lib.hid hg; clear hg)
  go_ret
  exact ⟨rfl, HG.out⟩
/-- The spans as they are computed. -/
def spanW (c : Cfg) (R : Int) : List Sd := [(c.reserve, 2, 8), (c.slots, wrap64 (c.reserve + 2), 32), (c.key, 1, 32), (c.value, 0, 512), (c.size, wrap64 (16 + R), 8192), (c.work, wrap64 (2 * wrap64 (R + 16)), 65536), (c.policy, 1, 2)]
theorem spanW_ok {c : Cfg} {R : Int} (hR : 1 ≤ c.key ∧ c.key ≤ 32 → 0 ≤ c.value ∧ c.value ≤ 512 → R = 16 + c.key + c.value) : (spanW c R).all spanB = cfgOk c := by
  unfold cfgOk spans spanW
  simp only [List.all_cons, List.all_nil, Bool.and_true, spanB]
  by_cases h1 : 2 ≤ c.reserve ∧ c.reserve ≤ 8
  · rw [wrap64_of (n := c.reserve + 2) (by omega)]
    by_cases h2 : (1 ≤ c.key ∧ c.key ≤ 32) ∧ 0 ≤ c.value ∧ c.value ≤ 512
    · obtain ⟨⟨k1, k2⟩, v1, v2⟩ := h2
      rw [hR ⟨k1, k2⟩ ⟨v1, v2⟩, wrap64_of (n := 16 + (16 + c.key + c.value)) (by omega), wrap64_of (n := 16 + c.key + c.value + 16) (by omega), wrap64_of (n := 2 * (16 + c.key + c.value + 16)) (by omega)]
    · have hf : (decide (1 ≤ c.key) && decide (c.key ≤ 32)) = false ∨ (decide (0 ≤ c.value) && decide (c.value ≤ 512)) = false := by
        simp only [Bool.and_eq_false_iff, decide_eq_false_iff_not]
        omega
      rcases hf with h | h <;> rw [h] <;> simp
  · have hf : (decide (2 ≤ c.reserve) && decide (c.reserve ≤ 8)) = false := by
      simp only [Bool.and_eq_false_iff, decide_eq_false_iff_not]
      omega
    rw [hf]
    simp
set_option maxRecDepth 40000 in
set_option maxHeartbeats 2000000 in
theorem cfgCheck_any (c : Cfg) (w : World) : Calls Tryz.prog 117 #[cfgV c] w fun e w' => e = .returned (.int .i64 (if cfgOk c = true then 0 else 2)) ∧ Gr w w' := by
  have HC := Lib.hid (record_any c)
  have hRE := @recW_eq c
  obtain ⟨R, hR⟩ : ∃ R, R = recW c := ⟨_, rfl⟩
  rw [← hR] at HC hRE
  clear hR
  have HL : Hid (∀ b W, W.heap[b]? = some (.cells #[.int .i64 c.reserve, .int .i64 2, .int .i64 8, .int .i64 c.slots, .int .i64 (wrap64 (c.reserve + 2)), .int .i64 32, .int .i64 c.key, .int .i64 1, .int .i64 32, .int .i64 c.value, .int .i64 0, .int .i64 512, .int .i64 c.size, .int .i64 (wrap64 (16 + R)), .int .i64 8192, .int .i64 c.work, .int .i64 (wrap64 (2 * wrap64 (R + 16))), .int .i64 65536, .int .i64 c.policy, .int .i64 1, .int .i64 2] 193) → SidesAt W b 0 (spanW c R)) := Lib.hid (fun b W hb i hi => by
    have d := (cellsOf hb).1
    have hi' : i < 7 := hi
    rcases (show i = 0 ∨ i = 1 ∨ i = 2 ∨ i = 3 ∨ i = 4 ∨ i = 5 ∨ i = 6 by omega) with rfl | rfl | rfl | rfl | rfl | rfl | rfl
    all_goals exact ⟨(d _).trans rfl, (d _).trans rfl, (d _).trans rfl⟩)
  have HOK : Hid ((∀ i, i < 7 → spanB ((spanW c R)[i]?.getD (0, 0, 0)) = true) ↔ cfgOk c = true) := Lib.hid (by
    rw [← spanW_ok hRE, List.all_eq_true]
    constructor
    · intro h x hx
      obtain ⟨i, hi, rfl⟩ := List.mem_iff_getElem.1 hx
      have := h i hi
      rwa [List.getElem?_eq_getElem hi] at this
    · intro h i hi
      rw [List.getElem?_eq_getElem (show i < (spanW c R).length from hi)]
      exact h _ (List.getElem_mem _))
  clear hRE
  obtain ⟨ok, hok⟩ : ∃ ok, ok = cfgOk c := ⟨_, rfl⟩
  rw [← hok] at HOK ⊢
  clear hok
  obtain ⟨r, hr⟩ : ∃ r : Int, r = (if ok = true then 0 else 2) := ⟨_, rfl⟩
  rw [← hr]
  have HRR := Lib.hid hr
  clear hr
  obtain ⟨sp, hsp⟩ : ∃ sp, sp = spanW c R := ⟨_, rfl⟩
  rw [← hsp] at HL HOK
  have hsl : sp.length = 7 := by rw [hsp]; rfl
  clear hsp
  obtain ⟨c0, c1, c2, c3, c4, c5, c6⟩ := c
  simp only [cfgV] at HC ⊢
  simp only at HC HL
  go_enter Tryz.func117, Tryz.ntmps117
  go_upto_region 1 with fail
  obtain ⟨b0, hb0⟩ : ∃ q, q = w.heap.size := ⟨_, rfl⟩
  obtain ⟨w0, hw0⟩ : ∃ y, y = w.alloc (cfgO ⟨c0, c1, c2, c3, c4, c5, c6⟩) := ⟨_, rfl⟩
  have H0 : Hid (SW w [blkA b0 (cfgO ⟨c0, c1, c2, c3, c4, c5, c6⟩)] w0) := Lib.hid (by rw [hw0, hb0]; exact (SW.start w).alloc _)
  (try simp only [cfgO] at hw0)
  rw [← hw0, ← hb0]
  clear hw0 hb0
  have d0 := (cellsOf (show w0.heap[b0]? = _ from H0.out.get (i := 0) rfl)).1
  (try simp only [cfgO] at d0)
  have HG := Gr.refl w0.drew
  refine wp_region_flo (fun _ => False) [] [] (by kernel_rfl) (by kernel_rfl) (fun _ h => h.elim) ?_
  refine flo_seg 18 rfl ?_
  simp only [List.take_succ_cons, List.take_zero, List.drop_succ_cons, List.drop_zero]
  repeat (go_big_quiet_step (fail))
  refine wpQuiet_nil ?_
  refine flo_eff rfl rfl rfl rfl (fun K hK => ?_)
  go_wp2_with ((go_at_call 139; refine (HC.out _).mono ?_; rintro e w1 ⟨rfl, hg⟩; replace HG := HG.trans hg; (try clear hc); have hc := HG.cell; (try simp only [World.size_alloc] at hc)))
  refine ⟨by (first | (refine Gr.mdh ?_ _; (repeat (first | (with_reducible exact Gr.refl _) | assumption | (with_reducible apply Gr.from_drew) | (with_reducible apply Gr.alloc) | (with_reducible apply Gr.drew) | (with_reducible refine Gr.trans ?_ (by assumption)) | (with_reducible refine Gr.setCell ?_ (by omega) _))); done) | (repeat (first | (with_reducible exact Mdh.refl _ _) | (with_reducible refine Mdh.setCell ?_ (by simp) _) | (with_reducible refine Mdh.setNew ?_ (by simp) _) | (with_reducible apply Mdh.alloc) | (with_reducible apply Mdh.from_drew) | (with_reducible apply Mdh.drew) | (with_reducible refine Mdh.gr ?_ (by assumption))))), ?_⟩
  refine flo_seg 5 rfl ?_
  simp only [List.take_succ_cons, List.take_zero, List.drop_succ_cons, List.drop_zero]
  repeat (go_big_quiet_step (fail))
  refine wpQuiet_nil ?_
  refine flo_eff rfl rfl rfl rfl (fun K hK => ?_)
  go_wp2_with ((go_at_call 139; refine (HC.out _).mono ?_; rintro e w1 ⟨rfl, hg⟩; replace HG := HG.trans hg; (try clear hc); have hc := HG.cell; (try simp only [World.size_alloc] at hc)))
  refine ⟨by (first | (refine Gr.mdh ?_ _; (repeat (first | (with_reducible exact Gr.refl _) | assumption | (with_reducible apply Gr.from_drew) | (with_reducible apply Gr.alloc) | (with_reducible apply Gr.drew) | (with_reducible refine Gr.trans ?_ (by assumption)) | (with_reducible refine Gr.setCell ?_ (by omega) _))); done) | (repeat (first | (with_reducible exact Mdh.refl _ _) | (with_reducible refine Mdh.setCell ?_ (by simp) _) | (with_reducible refine Mdh.setNew ?_ (by simp) _) | (with_reducible apply Mdh.alloc) | (with_reducible apply Mdh.from_drew) | (with_reducible apply Mdh.drew) | (with_reducible refine Mdh.gr ?_ (by assumption))))), ?_⟩
  refine flo_seg 6 rfl ?_
  simp only [List.take_succ_cons, List.take_zero, List.drop_succ_cons, List.drop_zero]
  repeat (go_big_quiet_step (fail))
  refine wpQuiet_nil ?_
  refine flo_eff rfl rfl rfl rfl (fun K hK => ?_)
  go_wp2
  refine ⟨by (first | (refine Gr.mdh ?_ _; (repeat (first | (with_reducible exact Gr.refl _) | assumption | (with_reducible apply Gr.from_drew) | (with_reducible apply Gr.alloc) | (with_reducible apply Gr.drew) | (with_reducible refine Gr.trans ?_ (by assumption)) | (with_reducible refine Gr.setCell ?_ (by omega) _))); done) | (repeat (first | (with_reducible exact Mdh.refl _ _) | (with_reducible refine Mdh.setCell ?_ (by simp) _) | (with_reducible refine Mdh.setNew ?_ (by simp) _) | (with_reducible apply Mdh.alloc) | (with_reducible apply Mdh.from_drew) | (with_reducible apply Mdh.drew) | (with_reducible refine Mdh.gr ?_ (by assumption))))), ?_⟩
  refine flo_seg 2 rfl ?_
  simp only [List.take_succ_cons, List.take_zero, List.drop_succ_cons, List.drop_zero]
  repeat (go_big_quiet_step (fail))
  refine wpQuiet_nil ?_
  refine flo_nil ?_
  obtain ⟨b2, hb2⟩ : ∃ q, q = w1.heap.size := ⟨_, rfl⟩
  obtain ⟨w2, hw2⟩ : ∃ y, y = w1.alloc (.cells #[.int .i64 c2, .int .i64 2, .int .i64 8, .int .i64 c0, .int .i64 (wrap64 (c2 + 2)), .int .i64 32, .int .i64 c4, .int .i64 1, .int .i64 32, .int .i64 c5, .int .i64 0, .int .i64 512, .int .i64 c1, .int .i64 (wrap64 (16 + R)), .int .i64 8192, .int .i64 c3, .int .i64 (wrap64 (2 * wrap64 (R + 16))), .int .i64 65536, .int .i64 c6, .int .i64 1, .int .i64 2] 193) := ⟨_, rfl⟩
  have HS : Hid (SidesAt w2 b2 0 sp) := Lib.hid (HL.out b2 w2 (by rw [hw2, hb2]; exact blkNew w1 _))
  have HLT : Hid (b2 < w2.heap.size) := Lib.hid (by rw [hw2, hb2]; exact blkLt (blkNew w1 _))
  have HGG : Hid (Gr w w2) := Lib.hid (by rw [hw2]; exact (H0.out.g.trans ((Gr.refl w0).drew.trans HG)).alloc _)
  rw [← hw2, ← hb2]
  clear hw2 hb2 HG hg H0 d0 HC HL
  go_wp2_with fail
  go_loopw [38] (fun t38 wx => ∃ k : Nat, k ≤ 7 ∧ t38 = .int .i64 k ∧ Hid (Gr w2 wx ∧ ∀ i, i < k → spanB (sp[i]?.getD (0, 0, 0)) = true)) (fun t38 _ => 7 - (intOf t38).toNat)
  case atStart => exact ⟨0, by omega, rfl, Lib.hid ⟨Gr.refl _, fun i hi => by omega⟩⟩
  case round =>
    obtain ⟨k, hk, rfl, HR⟩ := hrel
    by_cases hlt : k < 7
    · have hlt' : (k : Int) < 7 := by omega
      have hx := HS.out k (by rw [hsl]; exact hlt)
      obtain ⟨s, hsd⟩ : ∃ s, s = sp[k]?.getD (0, 0, 0) := ⟨_, rfl⟩
      rw [← hsd] at hx
      have HSD := Lib.hid hsd
      obtain ⟨x1, x2, x3⟩ := hx
      obtain ⟨s1, s2, s3⟩ := s
      have y1 := (HR.out.1.cell _ _ HLT.out).trans x1
      have y2 := (HR.out.1.cell _ _ HLT.out).trans x2
      have y3 := (HR.out.1.cell _ _ HLT.out).trans x3
      simp only [Nat.zero_add] at y1 y2 y3
      clear x1 x2 x3 hsd
      have HBD : Hid (spanB (s1, s2, s3) = (decide (s2 ≤ s1) && decide (s1 ≤ s3))) := Lib.hid rfl
      by_cases e1 : s1 < s2
      · have hno : spanB (s1, s2, s3) = false := by rw [HBD.out]; simp [e1]; try omega
        have hok : ¬ ok = true := fun h => by
          have := HOK.out.2 h k hlt
          rw [← HSD.out, hno] at this
          cases this
        have HR2 : Hid (r = 2) := Lib.hid (by rw [HRR.out, if_neg hok])
        clear hok hno
        go_wp2
        go_ret
        exact ⟨ret_int HR2.out.symm, (HGG.out.trans HR.out.1).alloc _⟩
      · by_cases e2 : s3 < s1
        · have hno : spanB (s1, s2, s3) = false := by rw [HBD.out]; simp [e1, e2]; try omega
          have hok : ¬ ok = true := fun h => by
            have := HOK.out.2 h k hlt
            rw [← HSD.out, hno] at this
            cases this
          have HR2 : Hid (r = 2) := Lib.hid (by rw [HRR.out, if_neg hok])
          clear hok hno
          go_wp2
          go_ret
          exact ⟨ret_int HR2.out.symm, (HGG.out.trans HR.out.1).alloc _⟩
        · have hys : spanB (s1, s2, s3) = true := by rw [HBD.out]; simp; omega
          have HYS := Lib.hid hys
          clear hys
          go_wp2
          go_roundw
          case rel =>
            refine ⟨k + 1, by omega, by go_num, Lib.hid ⟨HR.out.1.alloc _, fun i hi => ?_⟩⟩
            by_cases hik : i = k
            · rw [hik, ← HSD.out]; exact HYS.out
            · exact HR.out.2 i (by omega)
          case measure => simp [intOf]; omega
    · have hlt' : ¬ (k : Int) < 7 := by omega
      obtain rfl : k = 7 := by omega
      have e1 : ok = true := HOK.out.1 HR.out.2
      have HR2 : Hid (r = 0) := Lib.hid (by rw [HRR.out, if_pos e1])
      clear e1
      go_wp2
      go_ret
      exact ⟨ret_int HR2.out.symm, HGG.out.trans HR.out.1⟩
theorem cfg_size {c : Cfg} (h : cfgOk c = true) : -1000000 ≤ c.size ∧ c.size ≤ 1000000 := by
  unfold cfgOk spans at h
  simp only [List.all_cons, spanB, Bool.and_eq_true, decide_eq_true_eq] at h
  omega
set_option maxRecDepth 40000 in
theorem Room_any (c : Cfg) (w : World) : Calls Tryz.prog 43 #[cfgV c] w fun e w' => e = .returned (.tuple #[.int .i64 (if cfgOk c = true then c.size - 16 else 0), .int .i64 (if cfgOk c = true then 0 else 2)]) ∧ Gr w w' := by
  have HC := Lib.hid (fun (w : World) => cfgCheck_any c w)
  have HR := Lib.hid (fun (hk : cfgOk c = true) b w hb => croom1_any c (cfg_size hk).1 (cfg_size hk).2 b w hb)
  obtain ⟨ok, hok⟩ : ∃ ok, ok = cfgOk c := ⟨_, rfl⟩
  rw [← hok] at HC HR ⊢
  clear hok
  obtain ⟨c0, c1, c2, c3, c4, c5, c6⟩ := c
  simp only [cfgV] at HC ⊢
  simp only at HR ⊢
  have HK : Hid (∀ b w, w.heap[b]? = some (cfgO ⟨c0, c1, c2, c3, c4, c5, c6⟩) → Calls Tryz.prog 77 #[.agg #[.int .i64 c0, .int .i64 c1, .int .i64 c2, .int .i64 c3, .int .i64 c4, .int .i64 c5, .int .i64 c6], .func (.func 78) #[] #[.pointer (some ⟨b, 0, none⟩)]] w fun e w' => e = .returned (.tuple #[.int .i64 (if ok = true then c1 - 16 else 0), .int .i64 (if ok = true then 0 else 2)]) ∧ Gr w w') := Lib.hid (fun b w hb => by
    have HBB := Lib.hid hb
    clear hb
    cases ok
    · go_enter Tryz.func77, Tryz.ntmps77
      go_wp2_with (go_at_call 117; refine Calls.mono (HC.out _) ?_; rintro e w1 ⟨rfl, hg⟩; have HG := Lib.hid (((Gr.refl w).alloc _).trans hg); clear hg)
      go_ret2
      exact ⟨rfl, HG.out⟩
    · have HR1 := HR.out rfl
      have HR2 := Lib.hid HR1
      clear HR1
      go_enter Tryz.func77, Tryz.ntmps77
      go_wp2_with (first | (go_at_call 117; refine Calls.mono (HC.out _) ?_; rintro e w1 ⟨rfl, hg⟩; have HG := Lib.hid (((Gr.refl w).alloc _).trans hg); clear hg) | (go_at_call 78; refine Calls.mono (HR2.out b _ (HG.out.blk HBB.out)) ?_; rintro e w2 ⟨rfl, hg⟩; have HG2 := Lib.hid (HG.out.trans hg); clear hg))
      go_ret2
      exact ⟨rfl, HG2.out⟩)
  clear HC HR
  generalize (if ok = true then c1 - 16 else 0) = r1 at *
  generalize (if ok = true then (0 : Int) else 2) = r2 at *
  go_enter Tryz.func43, Tryz.ntmps43
  go_wp2_with (go_at_call 77; refine Calls.mono (HK.out _ _ (blkNew w _)) ?_; rintro e w1 ⟨rfl, hg⟩; have HG := Lib.hid (((Gr.refl w).alloc _).trans hg); clear hg)
  go_ret2
  exact ⟨rfl, HG.out⟩
end Go.Proofs.YtemjnppplmankaaGreat

/- The law's examples (works): every run of them answers true. -/
set_option linter.unusedVariables false
set_option linter.unusedSimpArgs false
namespace Go.Proofs.YtemjnppplmankaaGreat
open Go.RowKit
attribute [local go_sem] Ovs cell_ov obj_ov shape_ov

/-- Best with what is refused ahead of any side. -/
theorem Best_bad (policy room : Int) (s : Value) (h : (policy = 1 ∨ policy = 2) → inB room 1 8192 = false) (w : World) :
    Calls Tryz.prog 29 #[.int .i64 policy, s, .int .i64 room] w fun e w' => e = .returned (bestV zSd false 2) ∧ Gr w w' := by
  have k1 := eqF1
  have k2 := eqF2
  have k3 := eqF3
  go_enter Tryz.func29, Tryz.ntmps29
  by_cases hp : policy = 1
  · have h1 := h (.inl hp)
    subst hp
    go_wp2_with (first
      | (go_at_call 52; refine (by_any _ _ _).mono ?_; rintro e w1 ⟨rfl, rfl⟩; simp only [byF, if_true])
      | (go_at_call 53; refine (in_int _ _ _ _).mono ?_; rintro e w1 ⟨rfl, rfl⟩))
    refine bodyPost_ret (v := bestV zSd false 2) ?_ rfl ⟨rfl, by (repeat (first | (with_reducible exact Gr.refl _) | assumption | (with_reducible apply Gr.from_drew) | (with_reducible apply Gr.alloc) | (with_reducible apply Gr.drew) | (with_reducible refine Gr.trans ?_ (by assumption)) | (with_reducible refine Gr.setCell ?_ (by omega) _)))⟩
    simp [results, Tryz.results29, go_sem, bestV, zSd]
  · by_cases hp2 : policy = 2
    · have h1 := h (.inr hp2)
      subst hp2
      go_wp2_with (first
        | (go_at_call 52; refine (by_any _ _ _).mono ?_; rintro e w1 ⟨rfl, rfl⟩; simp only [byF, if_true, if_neg (show ¬ (2 : Int) = 1 by decide)])
        | (go_at_call 53; refine (in_int _ _ _ _).mono ?_; rintro e w1 ⟨rfl, rfl⟩))
      refine bodyPost_ret (v := bestV zSd false 2) ?_ rfl ⟨rfl, by (repeat (first | (with_reducible exact Gr.refl _) | assumption | (with_reducible apply Gr.from_drew) | (with_reducible apply Gr.alloc) | (with_reducible apply Gr.drew) | (with_reducible refine Gr.trans ?_ (by assumption)) | (with_reducible refine Gr.setCell ?_ (by omega) _)))⟩
      simp [results, Tryz.results29, go_sem, bestV, zSd]
    · go_wp2_with (first
        | (go_at_call 52; refine (by_any _ _ _).mono ?_; rintro e w1 ⟨rfl, rfl⟩; simp only [byF, if_neg hp, if_neg hp2])
        | (go_at_call 53; refine (in_int _ _ _ _).mono ?_; rintro e w1 ⟨rfl, rfl⟩))
      all_goals
        refine bodyPost_ret (v := bestV zSd false 2) ?_ rfl ⟨rfl, by (repeat (first | (with_reducible exact Gr.refl _) | assumption | (with_reducible apply Gr.from_drew) | (with_reducible apply Gr.alloc) | (with_reducible apply Gr.drew) | (with_reducible refine Gr.trans ?_ (by assumption)) | (with_reducible refine Gr.setCell ?_ (by omega) _)))⟩
        simp [results, Tryz.results29, go_sem, bestV, zSd]

/-- Best of the nil slice. -/
theorem Best_nil_1 (room : Int) (hr : inB room 1 8192 = true) (w : World) :
    Calls Tryz.prog 29 #[.int .i64 1, .slice none 0 0, .int .i64 room] w fun e w' => e = .returned (bestV zSd false 0) ∧ Gr w w' := by
  have k1 := eqF1
  have k2 := eqF2
  have k3 := eqF3
  go_enter Tryz.func29, Tryz.ntmps29
  go_wp2_with (first
    | (go_at_call 52; refine (by_any _ _ _).mono ?_; rintro e w1 ⟨rfl, rfl⟩; simp only [byF, if_true])
    | (go_at_call 53; refine (in_int _ _ _ _).mono ?_; rintro e w1 ⟨rfl, rfl⟩))
  go_loopw [11, 30] (fun tw i wr => i = .int .i64 0 ∧ tw = .bool false ∧ BI w w.heap.size room (fun _ => 0) wr) (fun _ _ _ => 0)
  case atStart =>
    refine ⟨rfl, rfl, ?_⟩
    refine ⟨by (repeat (first | (with_reducible exact Gr.refl _) | assumption | (with_reducible apply Gr.from_drew) | (with_reducible apply Gr.alloc) | (with_reducible apply Gr.drew) | (with_reducible refine Gr.trans ?_ (by assumption)) | (with_reducible refine Gr.setCell ?_ (by omega) _))), by simp, by simp [go_sem], fun j hj => ?_, fun j => by simp [go_sem], fun j hj => ?_, fun j => by simp [go_sem]⟩
    · exact zerosN 32 ((w.alloc (.cells #[.int .i64 0, .int .i64 0, .int .i64 0] 44)).alloc (.cells #[.int .i64 room] 3)) _ _ j (by simp) hj
    · match j, hj with
      | 0, _ => exact ⟨.int .i64 0, by simp [go_sem]⟩
      | 1, _ => exact ⟨.int .i64 0, by simp [go_sem]⟩
      | 2, _ => exact ⟨.int .i64 0, by simp [go_sem]⟩
  case round =>
    obtain ⟨rfl, rfl, hBI⟩ := hrel
    have HB := Lib.hid hBI
    have ⟨r0, hr0⟩ := hBI.res 0 (by decide)
    have ⟨r1, hr1⟩ := hBI.res 1 (by decide)
    have ⟨r2, hr2⟩ := hBI.res 2 (by decide)
    have rf := hBI.rfree
    have hz := hBI.sz
    clear hBI
    go_wp2
    refine bodyPost_ret (v := bestV zSd false 0) ?_ rfl ⟨rfl, ?_⟩
    · simp [results, Tryz.results29, go_sem, hr0, hr1, hr2, bestV, zSd]
    · exact ((HB.out.gr.setCell (by simp) _).setCell (by simp) _).setCell (by simp) _
/-- Best of the nil slice. -/
theorem Best_nil_2 (room : Int) (hr : inB room 1 8192 = true) (w : World) :
    Calls Tryz.prog 29 #[.int .i64 2, .slice none 0 0, .int .i64 room] w fun e w' => e = .returned (bestV zSd false 0) ∧ Gr w w' := by
  have k1 := eqF1
  have k2 := eqF2
  have k3 := eqF3
  go_enter Tryz.func29, Tryz.ntmps29
  go_wp2_with (first
    | (go_at_call 52; refine (by_any _ _ _).mono ?_; rintro e w1 ⟨rfl, rfl⟩; simp only [byF, if_true, if_neg (show ¬ (2 : Int) = 1 by decide)])
    | (go_at_call 53; refine (in_int _ _ _ _).mono ?_; rintro e w1 ⟨rfl, rfl⟩))
  go_loopw [11, 30] (fun tw i wr => i = .int .i64 0 ∧ tw = .bool false ∧ BI w w.heap.size room (fun _ => 0) wr) (fun _ _ _ => 0)
  case atStart =>
    refine ⟨rfl, rfl, ?_⟩
    refine ⟨by (repeat (first | (with_reducible exact Gr.refl _) | assumption | (with_reducible apply Gr.from_drew) | (with_reducible apply Gr.alloc) | (with_reducible apply Gr.drew) | (with_reducible refine Gr.trans ?_ (by assumption)) | (with_reducible refine Gr.setCell ?_ (by omega) _))), by simp, by simp [go_sem], fun j hj => ?_, fun j => by simp [go_sem], fun j hj => ?_, fun j => by simp [go_sem]⟩
    · exact zerosN 32 ((w.alloc (.cells #[.int .i64 0, .int .i64 0, .int .i64 0] 44)).alloc (.cells #[.int .i64 room] 3)) _ _ j (by simp) hj
    · match j, hj with
      | 0, _ => exact ⟨.int .i64 0, by simp [go_sem]⟩
      | 1, _ => exact ⟨.int .i64 0, by simp [go_sem]⟩
      | 2, _ => exact ⟨.int .i64 0, by simp [go_sem]⟩
  case round =>
    obtain ⟨rfl, rfl, hBI⟩ := hrel
    have HB := Lib.hid hBI
    have ⟨r0, hr0⟩ := hBI.res 0 (by decide)
    have ⟨r1, hr1⟩ := hBI.res 1 (by decide)
    have ⟨r2, hr2⟩ := hBI.res 2 (by decide)
    have rf := hBI.rfree
    have hz := hBI.sz
    clear hBI
    go_wp2
    refine bodyPost_ret (v := bestV zSd false 0) ?_ rfl ⟨rfl, ?_⟩
    · simp [results, Tryz.results29, go_sem, hr0, hr1, hr2, bestV, zSd]
    · exact ((HB.out.gr.setCell (by simp) _).setCell (by simp) _).setCell (by simp) _

theorem SidesAt.grow {w w1 : World} {b off : Nat} {l : List Sd} (h : SidesAt w b off l) (hb : b < w.heap.size) (g : Gr w w1) : SidesAt w1 b off l := fun i hi => by
  obtain ⟨h1, h2, h3⟩ := h i hi
  exact ⟨(g.cell _ _ hb).trans h1, (g.cell _ _ hb).trans h2, (g.cell _ _ hb).trans h3⟩

def lw : List Sd := [(3, 20, 1), (1, 30, 9), (2, 20, 5)]
theorem Best_w1 (b : Nat) (w : World) (hs : SidesAt w b 0 lw) (hb : b < w.heap.size) : Calls Tryz.prog 29 #[.int .i64 1, .slice (some ⟨b, 0, none⟩) 3 3, .int .i64 100] w fun e w' => e = .returned (bestV (2, 20, 5) true 0) ∧ Gr w w' := by
  refine (Best_1 100 rfl b 0 3 3 lw rfl (by omega) (by omega) (by decide) w hs hb).mono ?_
  rintro e w' ⟨rfl, h⟩
  exact ⟨by rw [best_some (by decide) (by decide) (by decide)]; rfl, h⟩
theorem Best_w2 (b : Nat) (w : World) (hs : SidesAt w b 0 lw) (hb : b < w.heap.size) : Calls Tryz.prog 29 #[.int .i64 2, .slice (some ⟨b, 0, none⟩) 3 3, .int .i64 100] w fun e w' => e = .returned (bestV (1, 30, 9) true 0) ∧ Gr w w' := by
  refine (Best_2 100 rfl b 0 3 3 lw rfl (by omega) (by omega) (by decide) w hs hb).mono ?_
  rintro e w' ⟨rfl, h⟩
  exact ⟨by rw [best_some (by decide) (by decide) (by decide)]; rfl, h⟩
theorem Best_w3 (b : Nat) (w : World) (hs : SidesAt w b 0 [(3, 20, 1), (3, 20, 1)]) (hb : b < w.heap.size) : Calls Tryz.prog 29 #[.int .i64 1, .slice (some ⟨b, 0, none⟩) 2 2, .int .i64 100] w fun e w' => e = .returned (bestV zSd false 6) ∧ Gr w w' := by
  refine (Best_1 100 rfl b 0 2 2 _ rfl (by omega) (by omega) (by decide) w hs hb).mono ?_
  rintro e w' ⟨rfl, h⟩
  exact ⟨by rw [best_twice (by decide) (by decide)], h⟩

/-- What the examples' blocks hold. -/
structure WF (w : World) (b b5 b6 : Nat) : Prop where
  hb : b < w.heap.size
  hb5 : b5 < w.heap.size
  hb6 : b6 < w.heap.size
  l0 : w.cell? ⟨b5, 0, none⟩ = some (.int .i64 2)
  l1 : w.cell? ⟨b5, 1, none⟩ = some (.int .i64 20)
  l2 : w.cell? ⟨b5, 2, none⟩ = some (.int .i64 5)
  m0 : w.cell? ⟨b6, 0, none⟩ = some (.int .i64 1)
  m1 : w.cell? ⟨b6, 1, none⟩ = some (.int .i64 30)
  m2 : w.cell? ⟨b6, 2, none⟩ = some (.int .i64 9)
  n0 : w.cell? ⟨b, 0, none⟩ = some (.int .i64 3)
  n1 : w.cell? ⟨b, 1, none⟩ = some (.int .i64 20)
  n2 : w.cell? ⟨b, 2, none⟩ = some (.int .i64 1)
  n3 : w.cell? ⟨b, 3, none⟩ = some (.int .i64 1)
  n4 : w.cell? ⟨b, 4, none⟩ = some (.int .i64 30)
  n5 : w.cell? ⟨b, 5, none⟩ = some (.int .i64 9)
  n6 : w.cell? ⟨b, 6, none⟩ = some (.int .i64 2)
  n7 : w.cell? ⟨b, 7, none⟩ = some (.int .i64 20)
  n8 : w.cell? ⟨b, 8, none⟩ = some (.int .i64 5)
theorem WF.grow {w w1 : World} {b b5 b6 : Nat} (h : WF w b b5 b6) (g : Gr w w1) : WF w1 b b5 b6 := by
  obtain ⟨h0, h1, h2, l0, l1, l2, m0, m1, m2, n0, n1, n2, n3, n4, n5, n6, n7, n8⟩ := h
  exact ⟨Nat.lt_of_lt_of_le h0 g.sz, Nat.lt_of_lt_of_le h1 g.sz, Nat.lt_of_lt_of_le h2 g.sz, (g.cell _ _ h1).trans l0, (g.cell _ _ h1).trans l1, (g.cell _ _ h1).trans l2, (g.cell _ _ h2).trans m0, (g.cell _ _ h2).trans m1, (g.cell _ _ h2).trans m2,
    (g.cell _ _ h0).trans n0, (g.cell _ _ h0).trans n1, (g.cell _ _ h0).trans n2, (g.cell _ _ h0).trans n3, (g.cell _ _ h0).trans n4, (g.cell _ _ h0).trans n5, (g.cell _ _ h0).trans n6, (g.cell _ _ h0).trans n7, (g.cell _ _ h0).trans n8⟩

end Go.Proofs.YtemjnppplmankaaGreat

/- Contracts of the law's helpers: room, made, less. -/
set_option linter.unusedVariables false
set_option linter.unusedSimpArgs false
namespace Go.Proofs.YtemjnppplmankaaGreat
open Go.RowKit
attribute [local go_sem] Ovs cell_ov obj_ov shape_ov OvX cell_ovx obj_ovx

theorem benZ_neg (s k a s' k' a' room : Int) : benZ s k a s' k' a' room < 0 ↔ (benP k' a' k room < benP k a k' room ∨ benP k a k' room = benP k' a' k room ∧ s < s') := by
  unfold benZ
  generalize benP k' a' k room = q
  generalize benP k a k' room = p
  unfold cmpZ
  (repeat' split) <;> constructor <;> intro h <;> omega

/-! ### made -/
abbrev Nm := Int × Int
def NumsAt (w : World) (b off : Nat) (l : List Nm) : Prop :=
  ∀ i, i < l.length → w.cell? ⟨b, off + i * 2, none⟩ = some (.int .u16 (l[i]?.getD (0, 0)).1) ∧ w.cell? ⟨b, off + i * 2 + 1, none⟩ = some (.int .u64 (l[i]?.getD (0, 0)).2)
def NumsOk (l : List Nm) : Prop := ∀ i, i < l.length → 0 ≤ (l[i]?.getD (0, 0)).1 ∧ (l[i]?.getD (0, 0)).1 ≤ 65535 ∧ 0 ≤ (l[i]?.getD (0, 0)).2 ∧ (l[i]?.getD (0, 0)).2 ≤ 18446744073709551615
def mkS (room : Int) (i : Nat) (x : Nm) : Sd := (i, x.1 % (room + 1), x.2 % 1099511627777)
/-- The first k sides. -/
def madeK (l : List Nm) (room : Int) : Nat → List Sd
  | 0 => []
  | k + 1 => madeK l room k ++ [mkS room k (l[k]?.getD (0, 0))]
theorem madeK_length (l : List Nm) (room : Int) : ∀ k, (madeK l room k).length = k
  | 0 => rfl
  | k + 1 => by simp [madeK, madeK_length l room k]
def cellsS (x : Sd) : List Value := [.int .i64 x.1, .int .i64 x.2.1, .int .i64 x.2.2]
def rowS (l : List Sd) : List Value := l.flatMap cellsS
theorem rowS_snoc (l : List Sd) (x : Sd) : rowS (l ++ [x]) = rowS l ++ cellsS x := by simp [rowS]
theorem rowS_length (l : List Sd) : (rowS l).length = l.length * 3 := by
  induction l with
  | nil => rfl
  | cons x l ih => simp only [rowS, List.flatMap_cons, List.length_append, List.length_cons] at *; rw [ih]; simp [cellsS]; omega
theorem Tryz.infoSide : (Tryz.prog.info? 44).map (fun i => (i.zero, i.size, i.bytes)) = some (some (.agg #[.int .i64 0, .int .i64 0, .int .i64 0]), 3, 24) := by kernel_rfl

theorem news_cells (w1 : World) (x : Sd) (t : TypeId) : ∀ j u, (cellsS x)[j]? = some u → (w1.alloc (.cells #[.int .i64 x.1, .int .i64 x.2.1, .int .i64 x.2.2] t)).cell? ((⟨w1.heap.size, 0, none⟩ : Addr).add j) = some u := by
  intro j u hj
  match j with
  | 0 => simp [cellsS] at hj; subst hj; simp [go_sem, Addr.add]
  | 1 => simp [cellsS] at hj; subst hj; simp [go_sem, Addr.add]
  | 2 => simp [cellsS] at hj; subst hj; simp [go_sem, Addr.add]
  | j + 3 => simp [cellsS] at hj
theorem one_cells (x : Sd) : ∀ u ∈ cellsS x, u.oneCell' = true := by
  intro u hu
  simp only [cellsS, List.mem_cons, List.not_mem_nil, or_false] at hu
  rcases hu with rfl | rfl | rfl <;> rfl

theorem made_step {w2 : World} {base k : Nat} {v' : Value} {l : List Nm} {room x1 x2 : Int} (hx : (x1, x2) = l[k]?.getD (0, 0)) (h : w2.ownsRow base 44 3 v' (k + 1) (rowS (madeK l room k) ++ cellsS (mkS room k (x1, x2)))) :
    w2.ownsRow base 44 3 v' (k + 1) (rowS (madeK l room (k + 1))) := by
  rw [show rowS (madeK l room (k + 1)) = rowS (madeK l room k) ++ cellsS (mkS room k (x1, x2)) by rw [madeK, rowS_snoc, ← hx]]
  exact h

end Go.Proofs.YtemjnppplmankaaGreat

/- Sides made of numbers are valid; the policies order them totally. Mostly plain. -/
set_option linter.unusedVariables false
set_option linter.unusedSimpArgs false
namespace Go.Proofs.YtemjnppplmankaaGreat
open Go.RowKit

theorem madeK_get (l : List Nm) (room : Int) : ∀ n i, i < n → (madeK l room n)[i]? = some (mkS room i (l[i]?.getD (0, 0)))
  | 0, i, h => by omega
  | n + 1, i, h => by
    rw [madeK]
    by_cases hin : i < n
    · rw [List.getElem?_append_left (by rw [madeK_length]; exact hin)]
      exact madeK_get l room n i hin
    · obtain rfl : i = n := by omega
      rw [List.getElem?_append_right (by rw [madeK_length]; omega), madeK_length]
      simp

theorem rowS_get (l : List Sd) : ∀ i, i < l.length → (rowS l)[i * 3]? = some (.int .i64 (l[i]?.getD (0, 0, 0)).1) ∧ (rowS l)[i * 3 + 1]? = some (.int .i64 (l[i]?.getD (0, 0, 0)).2.1) ∧ (rowS l)[i * 3 + 2]? = some (.int .i64 (l[i]?.getD (0, 0, 0)).2.2) := by
  induction l with
  | nil => intro i h; simp at h
  | cons x l ih =>
    intro i h
    have e : rowS (x :: l) = cellsS x ++ rowS l := rfl
    rw [e]
    cases i with
    | zero => simp [cellsS]
    | succ i =>
      have := ih i (by simpa using h)
      have e1 : (i + 1) * 3 = i * 3 + 3 := by omega
      rw [e1, List.getElem?_append_right (by simp [cellsS]), List.getElem?_append_right (by simp [cellsS]), List.getElem?_append_right (by simp [cellsS])]
      simpa [cellsS, show i * 3 + 3 + 1 - 3 = i * 3 + 1 by omega, show i * 3 + 3 + 2 - 3 = i * 3 + 2 by omega] using this

/-- A row of sides that is not empty. -/
theorem sides_of_row {w : World} {base n : Nat} {v : Value} {t : TypeId} {l : List Sd} (h : w.ownsRow base t 3 v n (rowS l)) (_hl : l.length = n) (hn : 0 < n) :
    ∃ g cap, v = .slice (some ⟨g, 0, none⟩) n cap ∧ n ≤ cap ∧ cap ≤ maxLen ∧ g < w.heap.size ∧ base ≤ g ∧ SidesAt w g 0 l := by
  rcases h.2 with ⟨_, h0⟩ | ⟨g, cap, cur, rfl, hb, hg, h1, h2, h3, h4⟩
  · omega
  · refine ⟨g, cap, rfl, h1, h2, (Array.getElem?_eq_some_iff.1 hg).1, hb, fun i hi => ?_⟩
    have hc := h.cells (g := g) rfl
    obtain ⟨r1, r2, r3⟩ := rowS_get l i hi
    have hadd : ∀ j, (⟨g, 0, none⟩ : Addr).add j = ⟨g, j, none⟩ := fun j => by unfold Addr.add; split <;> simp_all
    rw [Nat.zero_add]
    exact ⟨by rw [← hadd]; exact hc _ _ r1, by rw [← hadd]; exact hc _ _ r2, by rw [← hadd]; exact hc _ _ r3⟩

theorem mkS_chk (room : Int) (i : Nat) (x : Nm) (h1 : 1 ≤ room) (h2 : room ≤ 8192) (hi : i < 32) (_hx : 0 ≤ x.1) (_hx2 : 0 ≤ x.2) : chkB (mkS room i x).1 (mkS room i x).2.1 (mkS room i x).2.2 room = true := by
  have q1 : 0 ≤ x.1 % (room + 1) := Int.emod_nonneg _ (by omega)
  have q2 : x.1 % (room + 1) < room + 1 := Int.emod_lt_of_pos _ (by omega)
  have q3 : 0 ≤ x.2 % 1099511627777 := Int.emod_nonneg _ (by omega)
  have q4 : x.2 % 1099511627777 < 1099511627777 := Int.emod_lt_of_pos _ (by omega)
  show chkB (i : Int) (x.1 % (room + 1)) (x.2 % 1099511627777) room = true
  simp only [chkB, inB, Bool.and_eq_true, decide_eq_true_eq]
  exact ⟨⟨⟨⟨h1, h2⟩, ⟨by omega, by omega⟩⟩, ⟨q1, by omega⟩⟩, ⟨q3, by omega⟩⟩

/-! ### Both policies are one shape -/
def lexZ (q p s s' : Int) : Int := if q < p then -1 else if p < q then 1 else cmpZ s s'
theorem lexZ_neg (q p s s' : Int) : lexZ q p s s' = -1 ↔ (q < p ∨ q = p ∧ s < s') := by
  unfold lexZ cmpZ
  (repeat' split) <;> constructor <;> intro h <;> omega
theorem lexZ_pos (q p s s' : Int) : lexZ q p s s' = 1 ↔ (p < q ∨ q = p ∧ s' < s) := by
  unfold lexZ cmpZ
  (repeat' split) <;> constructor <;> intro h <;> omega
theorem lexZ_zero (q p s s' : Int) : lexZ q p s s' = 0 ↔ (q = p ∧ s = s') := by
  unfold lexZ cmpZ
  (repeat' split) <;> constructor <;> intro h <;> omega

theorem lexZ_cases (q p s s' : Int) (h : s ≠ s') : (lexZ q p s s' = -1 ∧ (q < p ∨ q = p ∧ s < s')) ∨ (lexZ q p s s' = 1 ∧ (p < q ∨ q = p ∧ s' < s)) := by
  unfold lexZ cmpZ
  (repeat' split) <;> omega

theorem greedy_lex (s k s' k' : Int) : greedy s k s' k' = lexZ k k' s s' := by
  simp only [greedy, orL, lexZ, cmpZ]
  (repeat' split) <;> omega
theorem pol1_lex (s k a s' k' a' room : Int) : polC 1 s k a s' k' a' room = lexZ k k' s s' := by
  simp only [polC, if_true, greedy_lex]
theorem pol2_lex (s k a s' k' a' room : Int) (c1 : chkB s k a room = true) (c2 : chkB s' k' a' room = true) : polC 2 s k a s' k' a' room = lexZ (benP k' a' k room) (benP k a k' room) s s' := by
  simp [polC, benefit, c1, c2, benZ, lexZ]

theorem cross (p1 p2 p3 q1 q2 q3 : Int) (h1 : 0 < q1) (h2 : 0 < q2) (h3 : 0 < q3) (ha : p2 * q1 ≤ p1 * q2) (hb : p3 * q2 ≤ p2 * q3) : p3 * q1 ≤ p1 * q3 ∧ ((p2 * q1 < p1 * q2 ∨ p3 * q2 < p2 * q3) → p3 * q1 < p1 * q3) := by
  have e1 : p3 * q1 * q2 = p3 * q2 * q1 := by rw [Int.mul_right_comm]
  have e2 : p2 * q3 * q1 = p2 * q1 * q3 := by rw [Int.mul_right_comm]
  have e3 : p1 * q2 * q3 = p1 * q3 * q2 := by rw [Int.mul_right_comm]
  have i1 : p3 * q2 * q1 ≤ p2 * q3 * q1 := Int.mul_le_mul_of_nonneg_right hb (by omega)
  have i2 : p2 * q1 * q3 ≤ p1 * q2 * q3 := Int.mul_le_mul_of_nonneg_right ha (by omega)
  constructor
  · exact Int.le_of_mul_le_mul_right (a := q2) (by omega) h2
  · rintro (h | h)
    · have := Int.mul_lt_mul_of_pos_right h h3
      exact Int.lt_of_mul_lt_mul_right (a := q2) (by omega) (by omega)
    · have := Int.mul_lt_mul_of_pos_right h h1
      exact Int.lt_of_mul_lt_mul_right (a := q2) (by omega) (by omega)

/-- What is true of three sides with different slots. -/
theorem total3 (policy room : Int) (hp : policy = 1 ∨ policy = 2) (s1 k1 a1 s2 k2 a2 s3 k3 a3 : Int) (c1 : chkB s1 k1 a1 room = true) (c2 : chkB s2 k2 a2 room = true) (c3 : chkB s3 k3 a3 room = true) (h12 : s1 ≠ s2) (h23 : s2 ≠ s3) (h13 : s1 ≠ s3) :
    (polC policy s1 k1 a1 s2 k2 a2 room = 1 ∨ polC policy s1 k1 a1 s2 k2 a2 room = -1) ∧ (polC policy s2 k2 a2 s3 k3 a3 room = 1 ∨ polC policy s2 k2 a2 s3 k3 a3 room = -1) ∧ (polC policy s1 k1 a1 s3 k3 a3 room = 1 ∨ polC policy s1 k1 a1 s3 k3 a3 room = -1) ∧
    polC policy s2 k2 a2 s1 k1 a1 room = - polC policy s1 k1 a1 s2 k2 a2 room ∧
    (polC policy s1 k1 a1 s2 k2 a2 room = polC policy s2 k2 a2 s3 k3 a3 room → polC policy s1 k1 a1 s3 k3 a3 room = polC policy s1 k1 a1 s2 k2 a2 room) := by
  rcases hp with rfl | rfl
  · simp only [pol1_lex]
    rcases lexZ_cases k1 k2 s1 s2 h12 with ⟨e1, f1⟩ | ⟨e1, f1⟩ <;> rcases lexZ_cases k2 k3 s2 s3 h23 with ⟨e2, f2⟩ | ⟨e2, f2⟩ <;> rcases lexZ_cases k1 k3 s1 s3 h13 with ⟨e3, f3⟩ | ⟨e3, f3⟩ <;> rcases lexZ_cases k2 k1 s2 s1 h12.symm with ⟨e4, f4⟩ | ⟨e4, f4⟩ <;> refine ⟨by omega, by omega, by omega, by omega, fun h => by omega⟩
  · simp only [pol2_lex _ _ _ _ _ _ _ c1 c2, pol2_lex _ _ _ _ _ _ _ c2 c3, pol2_lex _ _ _ _ _ _ _ c1 c3, pol2_lex _ _ _ _ _ _ _ c2 c1]
    obtain ⟨r1, r2, _, _, x1, x2, _, _⟩ := chk_bd c1
    obtain ⟨_, _, _, _, y1, y2, _, _⟩ := chk_bd c2
    obtain ⟨_, _, _, _, z1, z2, _, _⟩ := chk_bd c3
    have t1 := cross ((room - k1) * a1) ((room - k2) * a2) ((room - k3) * a3) (room + k1) (room + k2) (room + k3) (by omega) (by omega) (by omega)
    have t2 := cross ((room - k3) * a3) ((room - k2) * a2) ((room - k1) * a1) (room + k3) (room + k2) (room + k1) (by omega) (by omega) (by omega)
    simp only [← benP.eq_1] at t1 t2
    revert t1 t2
    generalize benP k1 a1 k2 room = p12
    generalize benP k2 a2 k1 room = p21
    generalize benP k2 a2 k3 room = p23
    generalize benP k3 a3 k2 room = p32
    generalize benP k1 a1 k3 room = p13
    generalize benP k3 a3 k1 room = p31
    intro t1 t2
    rcases lexZ_cases p21 p12 s1 s2 h12 with ⟨e1, f1⟩ | ⟨e1, f1⟩ <;> rcases lexZ_cases p32 p23 s2 s3 h23 with ⟨e2, f2⟩ | ⟨e2, f2⟩ <;> rcases lexZ_cases p31 p13 s1 s3 h13 with ⟨e3, f3⟩ | ⟨e3, f3⟩ <;> rcases lexZ_cases p12 p21 s2 s1 h12.symm with ⟨e4, f4⟩ | ⟨e4, f4⟩ <;> refine ⟨by omega, by omega, by omega, by omega, fun h => by omega⟩
end Go.Proofs.YtemjnppplmankaaGreat

/- Contracts for lists of sides: slices.Clone, slices.Equal, Best at any policy, the reference's Best. -/
set_option linter.unusedVariables false
set_option linter.unusedSimpArgs false
namespace Go.Proofs.YtemjnppplmankaaGreat
open Go.RowKit
attribute [local go_sem] Ovs cell_ov obj_ov shape_ov

theorem rowS_lt (l : List Sd) (j : Nat) (u : Value) (h : (rowS l)[j]? = some u) : j / 3 < l.length := by
  have := (List.getElem?_eq_some_iff.1 h).1
  rw [rowS_length] at this
  omega
theorem add_none (b off j : Nat) : (⟨b, off, none⟩ : Addr).add j = ⟨b, off + j, none⟩ := by unfold Addr.add; split <;> simp_all
theorem SidesAt.cells {w : World} {b off : Nat} {l : List Sd} (h : SidesAt w b off l) : ∀ j u, (rowS l)[j]? = some u → w.cell? ((⟨b, off, none⟩ : Addr).add j) = some u := by
  intro j u hj
  have hi := rowS_lt l j u hj
  obtain ⟨i, e⟩ : ∃ i, i = j / 3 := ⟨_, rfl⟩
  rw [← e] at hi
  obtain ⟨r0, r1, r2⟩ := rowS_get l i hi
  obtain ⟨c0, c1, c2⟩ := h i hi
  rw [add_none]
  rcases (show j = i * 3 ∨ j = i * 3 + 1 ∨ j = i * 3 + 2 by omega) with e | e | e
  · rw [e] at hj ⊢; rw [c0, ← hj, r0]
  · rw [e] at hj ⊢; rw [← Nat.add_assoc, c1, ← hj, r1]
  · rw [e] at hj ⊢; rw [← Nat.add_assoc, c2, ← hj, r2]
theorem rowS_one (l : List Sd) : ∀ u ∈ rowS l, u.oneCell' = true := by
  intro u hu
  simp only [rowS, List.mem_flatMap] at hu
  obtain ⟨x, _, hx⟩ := hu
  exact one_cells x u hx
/-- A row of the call's own that holds sides. -/
theorem sides_of_own {w : World} {g n cap : Nat} {t : TypeId} {l : List Sd} (h : Own w t 3 (.slice (some ⟨g, 0, none⟩) n cap) n (rowS l)) (_hl : l.length = n) : n ≤ cap ∧ cap ≤ maxLen ∧ g < w.heap.size ∧ SidesAt w g 0 l := by
  rcases h.2 with ⟨h0, _⟩ | ⟨g', cap', cur, hv, _, hg, h1, h2, h3, h4⟩
  · cases h0
  · simp only [Value.slice.injEq, Option.some.injEq, Addr.mk.injEq, and_true, true_and] at hv
    obtain ⟨rfl, rfl⟩ := hv
    refine ⟨h1, h2, (Array.getElem?_eq_some_iff.1 hg).1, fun i hi => ?_⟩
    have hc := h.cells rfl
    obtain ⟨r1, r2, r3⟩ := rowS_get l i hi
    have hadd : ∀ j, (⟨g, 0, none⟩ : Addr).add j = ⟨g, j, none⟩ := fun j => by rw [add_none, Nat.zero_add]
    rw [Nat.zero_add]
    exact ⟨by rw [← hadd]; exact hc _ _ r1, by rw [← hadd]; exact hc _ _ r2, by rw [← hadd]; exact hc _ _ r3⟩

/-- A slice of sides that came in. -/
def SdIn (w : World) (a : Option Addr) (len cap : Nat) (l : List Sd) : Prop :=
  l.length = len ∧ ((a = none ∧ len = 0 ∧ cap = 0) ∨ ∃ ad, a = some ad ∧ (0 < len → ad.spot = none ∧ ad.block < w.heap.size ∧ SidesAt w ad.block ad.off l))
theorem SdIn.grow {w w1 : World} {a : Option Addr} {len cap : Nat} {l : List Sd} (h : SdIn w a len cap l) (g : Gr w w1) : SdIn w1 a len cap l := by
  obtain ⟨h1, h2 | ⟨ad, rfl, h2⟩⟩ := h
  · exact ⟨h1, .inl h2⟩
  · exact ⟨h1, .inr ⟨ad, rfl, fun h0 => let ⟨a1, a2, a3⟩ := h2 h0; ⟨a1, Nat.lt_of_lt_of_le a2 g.sz, a3.grow a2 g⟩⟩⟩
theorem SdIn.at {w : World} {a : Option Addr} {len cap : Nat} {l : List Sd} (h : SdIn w a len cap l) : ∀ i, i < len → ∃ b off, a = some ⟨b, off, none⟩ ∧ b < w.heap.size ∧
    w.cell? ⟨b, off + i * 3, none⟩ = some (.int .i64 (l[i]?.getD (0, 0, 0)).1) ∧ w.cell? ⟨b, off + i * 3 + 1, none⟩ = some (.int .i64 (l[i]?.getD (0, 0, 0)).2.1) ∧ w.cell? ⟨b, off + i * 3 + 2, none⟩ = some (.int .i64 (l[i]?.getD (0, 0, 0)).2.2) := by
  intro i hi
  obtain ⟨h1, ⟨_, h2, _⟩ | ⟨ad, rfl, h2⟩⟩ := h
  · omega
  · obtain ⟨a1, a2, a3⟩ := h2 (by omega)
    obtain ⟨b, off, sp⟩ := ad
    simp only at a1 a2 a3
    subst a1
    obtain ⟨c0, c1, c2⟩ := a3 i (by omega)
    exact ⟨b, off, rfl, a2, c0, c1, c2⟩
theorem SdIn.ofOwn {w : World} {v : Value} {n : Nat} {t : TypeId} {l : List Sd} (h : Own w t 3 v n (rowS l)) (hl : l.length = n) : ∃ a cap, v = .slice a n cap ∧ SdIn w a n cap l ∧ n ≤ cap ∧ cap ≤ maxLen := by
  rcases h.2 with ⟨rfl, rfl⟩ | ⟨g, cap, cur, rfl, hb, hg, h1, h2, h3, h4⟩
  · exact ⟨none, 0, rfl, ⟨hl, .inl ⟨rfl, rfl, rfl⟩⟩, by omega, by simp [maxLen]⟩
  · obtain ⟨a1, a2, a3, a4⟩ := sides_of_own h hl
    exact ⟨_, cap, rfl, ⟨hl, .inr ⟨_, rfl, fun _ => ⟨rfl, a3, a4⟩⟩⟩, a1, a2⟩

open Classical in
noncomputable def bestA (policy room : Int) (l : List Sd) : Value := if (policy = 1 ∨ policy = 2) ∧ inB room 1 8192 = true then bestR policy room l l.length else bestV zSd false 2
theorem bestA_yes {policy room : Int} {l : List Sd} (hp : policy = 1 ∨ policy = 2) (hr : inB room 1 8192 = true) : bestA policy room l = bestR policy room l l.length := if_pos ⟨hp, hr⟩
theorem bestA_no {policy room : Int} {l : List Sd} (h : ¬ ((policy = 1 ∨ policy = 2) ∧ inB room 1 8192 = true)) : bestA policy room l = bestV zSd false 2 := if_neg h

/-- Best at any policy, room and row. -/
theorem BestAny (policy room : Int) (v : Value) (n : Nat) (l : List Sd) (hl : l.length = n) (hn : n ≤ 100) (w : World) (hown : Own w 44 3 v n (rowS l)) :
    Calls Tryz.prog 29 #[.int .i64 policy, v, .int .i64 room] w fun e w' => e = .returned (bestA policy room l) ∧ Gr w w' := by
  by_cases hpr : (policy = 1 ∨ policy = 2) ∧ inB room 1 8192 = true
  · obtain ⟨hp, hr⟩ := hpr
    rw [bestA_yes hp hr, hl]
    have hown2 := hown
    rcases hown.2 with ⟨rfl, rfl⟩ | ⟨g, cap, cur, rfl, hb, hg, h1, h2, h3, h4⟩
    · obtain rfl : l = [] := List.eq_nil_of_length_eq_zero hl
      rw [best_none]
      rcases hp with rfl | rfl
      · exact Best_nil_1 room hr w
      · exact Best_nil_2 room hr w
    · obtain ⟨a1, a2, a3, a4⟩ := sides_of_own hown hl
      rcases hp with rfl | rfl
      · exact Best_1 room hr g 0 n cap l hl (by omega) a1 a2 w a4 a3
      · exact Best_2 room hr g 0 n cap l hl (by omega) a1 a2 w a4 a3
  · rw [bestA_no hpr]
    refine Best_bad policy room v (fun hp => ?_) w
    cases hr : inB room 1 8192 with
    | true => exact absurd ⟨hp, hr⟩ hpr
    | false => rfl
end Go.Proofs.YtemjnppplmankaaGreat

/- Contract of the reference's Best. -/
set_option linter.unusedVariables false
set_option linter.unusedSimpArgs false
namespace Go.Proofs.YtemjnppplmankaaGreat
open Go.RowKit
attribute [local go_sem] Ovs cell_ov obj_ov shape_ov

def polB (p : Int) : Bool := p == 1 || p == 2
theorem policy_b (p : Int) (w : World) : Calls Tryz.prog 56 #[.int .i64 p] w fun e w' => e = .returned (.bool (polB p)) ∧ w = w' := policy_any p w
theorem bestK_chk {room : Int} {l : List Sd} {n : Nat} (f : Sd → Sd → Int) (h : ∀ i, i < n → chkS room (l[i]?.getD (0, 0, 0)) = true) : ∀ j, j < n → chkS room (bestK f l j) = true
  | 0, hj => h 0 hj
  | j + 1, hj => by
    simp only [bestK]
    split
    · exact h (j + 1) hj
    · exact bestK_chk f h j (by omega)
theorem cmpC_of {policy room s1 s2 s3 q1 q2 q3 : Int} (hp : policy = 1 ∨ policy = 2) (h1 : chkS room (s1, s2, s3) = true) (h2 : chkS room (q1, q2, q3) = true) : cmpC policy s1 s2 s3 q1 q2 q3 room = polS policy room (s1, s2, s3) (q1, q2, q3) := by
  have e1 : chkB s1 s2 s3 room = true := h1
  have e2 : chkB q1 q2 q3 room = true := h2
  have e0 : (policy == 1 || policy == 2) = true := by rcases hp with rfl | rfl <;> rfl
  have : okC policy s1 s2 s3 q1 q2 q3 room = true := by simp only [okC, e0, e1, e2, Bool.and_true]
  simp only [cmpC, this, if_true]
  rfl

/-- The memory of the call: block B the result. -/
structure RB (w : World) (B : Nat) (wr : World) : Prop where
  gr : Gr w wr
  lo : w.heap.size ≤ B
  sz : B < wr.heap.size
  res : ∀ j, j < 3 → ∃ v, wr.cell? ⟨B, j, none⟩ = some v
  rfree : ∀ j, wr.frozen? ⟨B, j, none⟩ = false
theorem RB.grow {w : World} {B : Nat} {wr w1 : World} (h : RB w B wr) (g : Gr wr w1) : RB w B w1 :=
  ⟨h.gr.trans g, h.lo, Nat.lt_of_lt_of_le h.sz g.sz, fun j hj => let ⟨v, hv⟩ := h.res j hj; ⟨v, (g.cell _ _ h.sz).trans hv⟩, fun j => (g.frozen _ _ h.sz).trans (h.rfree j)⟩
/-- Beside it the best so far, in the block Bb. -/
structure RJ (w : World) (B Bb : Nat) (x : Sd) (wr : World) : Prop where
  rb : RB w B wr
  lo : B < Bb
  hi : Bb < wr.heap.size
  c0 : wr.cell? ⟨Bb, 0, none⟩ = some (.int .i64 x.1)
  c1 : wr.cell? ⟨Bb, 1, none⟩ = some (.int .i64 x.2.1)
  c2 : wr.cell? ⟨Bb, 2, none⟩ = some (.int .i64 x.2.2)
  fr : ∀ j, wr.frozen? ⟨Bb, j, none⟩ = false
theorem RJ.grow {w : World} {B Bb : Nat} {x : Sd} {wr w1 : World} (h : RJ w B Bb x wr) (g : Gr wr w1) : RJ w B Bb x w1 :=
  ⟨h.rb.grow g, h.lo, Nat.lt_of_lt_of_le h.hi g.sz, (g.cell _ _ h.hi).trans h.c0, (g.cell _ _ h.hi).trans h.c1, (g.cell _ _ h.hi).trans h.c2, fun j => (g.frozen _ _ h.hi).trans (h.fr j)⟩
theorem RB.setOther {w : World} {B : Nat} {wr : World} (h : RB w B wr) {a : Addr} (ha : B < a.block) (v : Value) : RB w B (wr.setCell a v) := by
  have hl := h.lo
  refine ⟨h.gr.setCell (by omega) _, h.lo, by simpa using h.sz, fun j hj => ?_, fun j => ?_⟩
  · obtain ⟨v', hv⟩ := h.res j hj
    exact ⟨v', by rw [World.cell?_setCell_other _ _ _ _ (fun e => by have := congrArg Addr.block e; dsimp only at this; omega)]; exact hv⟩
  · rw [World.frozen?_setCell]; exact h.rfree j
theorem RJ.set {w : World} {B Bb : Nat} {x y : Sd} {wr : World} (h : RJ w B Bb x wr) :
    RJ w B Bb y (((wr.setCell ⟨Bb, 0, none⟩ (.int .i64 y.1)).setCell ⟨Bb, 1, none⟩ (.int .i64 y.2.1)).setCell ⟨Bb, 2, none⟩ (.int .i64 y.2.2)) := by
  have hl := h.lo
  have hz := h.hi
  refine ⟨((h.rb.setOther hl _).setOther hl _).setOther hl _, h.lo, by simpa using hz, ?_, ?_, ?_, fun j => ?_⟩
  · rw [World.cell?_setCell_other _ _ _ _ (by simp), World.cell?_setCell_other _ _ _ _ (by simp)]
    exact World.cell?_setCell_same' _ _ _ (by rw [h.c0]; rfl)
  · rw [World.cell?_setCell_other _ _ _ _ (by simp)]
    exact World.cell?_setCell_same' _ _ _ (by rw [World.cell?_setCell_other _ _ _ _ (by simp), h.c1]; rfl)
  · exact World.cell?_setCell_same' _ _ _ (by rw [World.cell?_setCell_other _ _ _ _ (by simp), World.cell?_setCell_other _ _ _ _ (by simp), h.c2]; rfl)
  · rw [World.frozen?_setCell, World.frozen?_setCell, World.frozen?_setCell]; exact h.fr j

theorem twB_step (l : List Sd) (k : Nat) (hk : k < l.length) (h : twB l k = false) (hn : ∀ m, m < k → (l[k]?.getD (0, 0, 0)).1 ≠ (l[m]?.getD (0, 0, 0)).1) : twB l (k + 1) = false := by
  cases e : twB l (k + 1) with
  | false => rfl
  | true =>
    obtain ⟨i, j, h1, h2, h3⟩ := (twB_iff l (k + 1) (by omega)).1 e
    by_cases hik : i = k
    · subst hik; exact absurd h3 (hn j h1)
    · have := (twB_iff l k (by omega)).2 ⟨i, j, h1, by omega, h3⟩
      rw [h] at this; cases this
theorem twB_hit (l : List Sd) (k m : Nat) (hk : k < l.length) (hm : m < k) (h : (l[k]?.getD (0, 0, 0)).1 = (l[m]?.getD (0, 0, 0)).1) : twB l l.length = true :=
  (twB_iff l l.length (Nat.le_refl _)).2 ⟨k, m, hm, hk, h⟩

theorem polS_of {policy room : Int} {l : List Sd} {j : Nat} {s q : Sd} (h1 : s = l[j + 1]?.getD (0, 0, 0)) (h2 : q = bestK (polS policy room) l j) :
    bestK (polS policy room) l (j + 1) = if polS policy room s q < 0 then s else q := by
  simp only [bestK, ← h1, ← h2]

end Go.Proofs.YtemjnppplmankaaGreat

/- The plain law of the best side: it is preferred to all others, whatever the order. No program in sight. -/
set_option linter.unusedVariables false
set_option linter.unusedSimpArgs false
namespace Go.Proofs.YtemjnppplmankaaGreat

structure Tot (f : Sd → Sd → Int) (S : List Sd) : Prop where
  refl : ∀ a ∈ S, f a a = 0
  anti : ∀ a ∈ S, ∀ b ∈ S, a.1 ≠ b.1 → (f a b = 1 ∨ f a b = -1) ∧ f b a = - f a b
  trans : ∀ a ∈ S, ∀ b ∈ S, ∀ c ∈ S, a.1 ≠ b.1 → b.1 ≠ c.1 → a.1 ≠ c.1 → f a b = -1 → f b c = -1 → f a c = -1
  inj : ∀ a ∈ S, ∀ b ∈ S, a.1 = b.1 → a = b
def IsMin (f : Sd → Sd → Int) (S : List Sd) (B : Sd) : Prop := B ∈ S ∧ ∀ s ∈ S, s.1 ≠ B.1 → f B s = -1
theorem IsMin.uniq {f : Sd → Sd → Int} {S : List Sd} {B B' : Sd} (T : Tot f S) (h : IsMin f S B) (h' : IsMin f S B') : B = B' := by
  by_cases e : B.1 = B'.1
  · exact T.inj _ h.1 _ h'.1 e
  · have h1 := h.2 B' h'.1 (fun x => e x.symm)
    have h2 := h'.2 B h.1 e
    have h3 := (T.anti B h.1 B' h'.1 e).2
    omega
theorem IsMin.snoc {f : Sd → Sd → Int} {S L : List Sd} {B x : Sd} (T : Tot f S) (hL : ∀ s ∈ L, s ∈ S) (hx : x ∈ S) (h : IsMin f L B) : IsMin f (L ++ [x]) (if f x B < 0 then x else B) := by
  have hB := hL _ h.1
  have h0 := T.refl B hB
  split
  · rename_i hlt
    have hne : x.1 ≠ B.1 := fun e => by
      rw [T.inj _ hx _ hB e] at hlt; omega
    have hxb : f x B = -1 := by have := (T.anti x hx B hB hne).1; omega
    refine ⟨by simp, fun s hs hsx => ?_⟩
    rcases List.mem_append.1 hs with hs | hs
    · by_cases e : s.1 = B.1
      · rw [T.inj _ (hL s hs) _ hB e]; exact hxb
      · exact T.trans x hx B hB s (hL s hs) hne (fun y => e y.symm) (fun y => hsx y.symm) hxb (h.2 s hs e)
    · rw [List.mem_singleton.1 hs] at hsx
      exact absurd rfl hsx
  · rename_i hlt
    refine ⟨List.mem_append.2 (.inl h.1), fun s hs hsx => ?_⟩
    rcases List.mem_append.1 hs with hs | hs
    · exact h.2 s hs hsx
    · rw [List.mem_singleton.1 hs] at hsx ⊢
      obtain ⟨h1, h2⟩ := T.anti x hx B hB hsx
      omega
theorem bestK_min {f : Sd → Sd → Int} {S : List Sd} (T : Tot f S) : ∀ j, j < S.length → IsMin f (S.take (j + 1)) (bestK f S j)
  | 0, h => by
    rw [take_snoc' S 0 h]
    exact ⟨by simp [bestK], fun s hs hne => by simp at hs; subst hs; simp [bestK] at hne⟩
  | j + 1, h => by
    rw [take_snoc' S (j + 1) h]
    have := (bestK_min T j (by omega)).snoc T (fun s hs => List.mem_of_mem_take hs) (x := S[j + 1]?.getD (0, 0, 0)) (by rw [List.getElem?_eq_getElem h]; exact List.getElem_mem h)
    simpa only [bestK] using this

theorem get_slot {S : List Sd} (hd : (S.map (·.1)).Nodup) {i j : Nat} (hi : i < S.length) (hj : j < S.length) (h : S[i].1 = S[j].1) : i = j := by
  have hp := List.pairwise_iff_getElem.1 hd
  rcases Nat.lt_trichotomy i j with hij | hij | hij
  · exact absurd (by rw [List.getElem_map, List.getElem_map]; exact h) (hp i j (by simpa using hi) (by simpa using hj) hij)
  · exact hij
  · exact absurd (by rw [List.getElem_map, List.getElem_map]; exact h.symm) (hp j i (by simpa using hj) (by simpa using hi) hij)
theorem slot_inj {S : List Sd} (hd : (S.map (·.1)).Nodup) : ∀ a ∈ S, ∀ b ∈ S, a.1 = b.1 → a = b := by
  intro a ha b hb h
  obtain ⟨i, hi, rfl⟩ := List.mem_iff_getElem.1 ha
  obtain ⟨j, hj, rfl⟩ := List.mem_iff_getElem.1 hb
  obtain rfl := get_slot hd hi hj h
  rfl
theorem twB_nodup {S : List Sd} (hd : (S.map (·.1)).Nodup) : twB S S.length = false := by
  cases e : twB S S.length with
  | false => rfl
  | true =>
    obtain ⟨i, k, h1, h2, h3⟩ := (twB_iff S S.length (Nat.le_refl _)).1 e
    rw [List.getElem?_eq_getElem h2, List.getElem?_eq_getElem (show k < S.length by omega)] at h3
    have := get_slot hd h2 (show k < S.length by omega) h3
    omega

theorem pol_pair {policy room : Int} (hp : policy = 1 ∨ policy = 2) {a b : Sd} (ha : chkS room a = true) (hb : chkS room b = true) (h : a.1 ≠ b.1) :
    (polS policy room a b = 1 ∨ polS policy room a b = -1) ∧ polS policy room b a = - polS policy room a b := by
  have hbd := chk_bd ha
  obtain ⟨t, ht, h1, h2⟩ : ∃ t : Int, (0 ≤ t ∧ t ≤ 2) ∧ b.1 ≠ t ∧ a.1 ≠ t := by
    by_cases e0 : b.1 ≠ 0 ∧ a.1 ≠ 0
    · exact ⟨0, by omega, e0.1, e0.2⟩
    · by_cases e1 : b.1 ≠ 1 ∧ a.1 ≠ 1
      · exact ⟨1, by omega, e1.1, e1.2⟩
      · exact ⟨2, by omega, by omega, by omega⟩
  have ht3 : chkB t 0 0 room = true := by
    simp only [chkB, inB, Bool.and_eq_true, decide_eq_true_eq]
    omega
  have := total3 policy room hp a.1 a.2.1 a.2.2 b.1 b.2.1 b.2.2 t 0 0 ha hb ht3 h h1 h2
  exact ⟨this.1, this.2.2.2.1⟩
theorem pol_self {policy room : Int} (hp : policy = 1 ∨ policy = 2) {a : Sd} (ha : chkS room a = true) : polS policy room a a = 0 := by
  rcases hp with rfl | rfl
  · exact (pol1_lex _ _ _ _ _ _ _).trans ((lexZ_zero _ _ _ _).2 ⟨rfl, rfl⟩)
  · exact (pol2_lex _ _ _ _ _ _ _ ha ha).trans ((lexZ_zero _ _ _ _).2 ⟨rfl, rfl⟩)
theorem pol_tot {policy room : Int} (hp : policy = 1 ∨ policy = 2) {S : List Sd} (hc : ∀ x ∈ S, chkS room x = true) (hd : (S.map (·.1)).Nodup) : Tot (polS policy room) S where
  refl a ha := pol_self hp (hc a ha)
  anti a ha b hb h := pol_pair hp (hc a ha) (hc b hb) h
  trans a ha b hb c hc' h1 h2 h3 e1 e2 := by
    have := total3 policy room hp a.1 a.2.1 a.2.2 b.1 b.2.1 b.2.2 c.1 c.2.1 c.2.2 (hc a ha) (hc b hb) (hc c hc') h1 h2 h3
    exact (this.2.2.2.2 (e1.trans e2.symm)).trans e1
  inj := slot_inj hd

theorem best_good {policy room : Int} (hp : policy = 1 ∨ policy = 2) (hr : inB room 1 8192 = true) {S : List Sd} (hc : ∀ x ∈ S, chkS room x = true) (hd : (S.map (·.1)).Nodup) (hne : S.length ≠ 0) :
    ∃ B, bestA policy room S = bestV B true 0 ∧ IsMin (polS policy room) S B := by
  refine ⟨bestK (polS policy room) S (S.length - 1), ?_, ?_⟩
  · rw [bestA_yes hp hr, best_some (fun i hi => ?_) (twB_nodup hd) hne]
    rw [List.getElem?_eq_getElem hi]; exact hc _ (List.getElem_mem hi)
  · have := bestK_min (pol_tot hp hc hd) (S.length - 1) (by omega)
    rwa [show S.length - 1 + 1 = S.length by omega, List.take_length] at this
theorem best_empty {policy room : Int} (hp : policy = 1 ∨ policy = 2) (hr : inB room 1 8192 = true) : bestA policy room [] = bestV zSd false 0 := by
  rw [bestA_yes hp hr]; exact best_none
theorem made_nodup (l : List Nm) (room : Int) (n : Nat) : ((madeK l room n).map (·.1)).Nodup := by
  refine List.pairwise_iff_getElem.2 fun i j hi hj hij e => ?_
  simp only [List.length_map, madeK_length] at hi hj
  have e1 := madeK_get l room n i hi
  have e2 := madeK_get l room n j hj
  rw [List.getElem?_eq_getElem (by rw [madeK_length]; exact hi)] at e1
  rw [List.getElem?_eq_getElem (by rw [madeK_length]; exact hj)] at e2
  simp only [List.getElem_map, Option.some.inj e1, Option.some.inj e2, mkS] at e
  omega
theorem made_chk (l : List Nm) (room : Int) (n : Nat) (h1 : 1 ≤ room) (h2 : room ≤ 8192) (hn : n ≤ 20) (hl : ∀ i, i < n → 0 ≤ (l[i]?.getD (0, 0)).1 ∧ 0 ≤ (l[i]?.getD (0, 0)).2) : ∀ x ∈ madeK l room n, chkS room x = true := by
  intro x hx
  obtain ⟨i, hi, rfl⟩ := List.mem_iff_getElem.1 hx
  rw [madeK_length] at hi
  have e1 := madeK_get l room n i hi
  rw [List.getElem?_eq_getElem (by rw [madeK_length]; exact hi)] at e1
  rw [Option.some.inj e1]
  exact mkS_chk room i _ h1 h2 (by omega) (hl i hi).1 (hl i hi).2
theorem rot_mem {S : List Sd} (k : Nat) (x : Sd) : x ∈ S.drop k ++ S.take k ↔ x ∈ S := by
  constructor
  · intro h
    rcases List.mem_append.1 h with h | h
    · exact List.mem_of_mem_drop h
    · exact List.mem_of_mem_take h
  · intro h
    rw [← List.take_append_drop k S] at h
    rcases List.mem_append.1 h with h | h
    · exact List.mem_append.2 (.inr h)
    · exact List.mem_append.2 (.inl h)
theorem rot_nodup {S : List Sd} (k : Nat) (hd : (S.map (·.1)).Nodup) : ((S.drop k ++ S.take k).map (·.1)).Nodup := by
  have hp : (S.drop k ++ S.take k).Perm S := (List.perm_append_comm).trans (by rw [List.take_append_drop])
  exact (hp.map _).nodup_iff.2 hd
/-- The same best one, whatever the turn. -/
theorem best_turned {policy room : Int} (hp : policy = 1 ∨ policy = 2) (hr : inB room 1 8192 = true) {S : List Sd} (hc : ∀ x ∈ S, chkS room x = true) (hd : (S.map (·.1)).Nodup) (hne : S.length ≠ 0) (k : Nat) :
    bestA policy room (S.drop k ++ S.take k) = bestA policy room S := by
  obtain ⟨B, h1, h2⟩ := best_good hp hr hc hd hne
  obtain ⟨B', h3, h4⟩ := best_good hp hr (S := S.drop k ++ S.take k) (fun x hx => hc x ((rot_mem k x).1 hx)) (rot_nodup k hd) (by rw [List.length_append, List.length_drop, List.length_take]; omega)
  have : B' = B := IsMin.uniq (pol_tot hp hc hd) ⟨(rot_mem k _).1 h4.1, fun s hs => h4.2 s ((rot_mem k s).2 hs)⟩ h2
  rw [h1, h3, this]
end Go.Proofs.YtemjnppplmankaaGreat
