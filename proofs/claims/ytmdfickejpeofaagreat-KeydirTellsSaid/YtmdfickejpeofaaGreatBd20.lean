/- drumlinref21's Len, Last, Copy; which entries it has, as drumlinref22 and drumlinref24 ask. -/
import Derived.Test.YtmdfickejpeofaaGreatBd19
import Derived.Test.YtmdfickejpeofaaGreatBd13
import Derived.Test.YtmdfickejpeofaaGreatBd15
import Derived.Test.YtmdfickejpeofaaGreatBd12
import Derived.Test.YtmdfickejpeofaaGreatBd14
set_option linter.unusedVariables false
set_option linter.unusedSimpArgs false
namespace Go.Proofs.YtmdfickejpeofaaGreat
open Go.RowKit Go.Shelf
attribute [local go_sem] OvM cell_ovm obj_ovm
attribute [local go_sem] Oper.semAt_some

set_option maxRecDepth 40000 in
theorem rLen_any {w : World} {rb : Nat} {N : Int} {a : Option Addr} {k cap : Nat} (h : w.heap[rb]? = some (rmO N (.slice a k cap))) (hN : 0 < N) : Calls Tryz.prog 17 #[.pointer (some ⟨rb, 0, none⟩)] w fun e w' => e = .returned (.int .i64 k) ∧ w = w' := by
  have c1 := ((cellsOf h).1 1).trans (show _ = some (Value.slice a k cap) from rfl)
  have HV := Lib.hid (rvalid h hN)
  clear h
  go_enter Tryz.func17, Tryz.ntmps17
  go_wp2_with (go_at_call 71; refine Calls.mono HV.out ?_; rintro e w1 ⟨rfl, rfl⟩)
  go_ret
  exact ⟨rfl, rfl⟩
theorem rpLen {w : World} {p : Option Addr} {X : IX} (h : RP w p X) : Calls Tryz.prog 17 #[.pointer p] w fun e w' => e = .returned (.int .i64 X.ents.length) ∧ w = w' := by
  rcases h with ⟨rfl, rfl⟩ | ⟨rb, rfl, h⟩
  · go_enter Tryz.func17, Tryz.ntmps17
    go_wp2_with (go_at_call 71; refine Calls.mono (rvalid_no _) ?_; rintro e w1 ⟨rfl, rfl⟩)
    go_ret
    exact ⟨rfl, rfl⟩
  · have hN := h.pos
    obtain ⟨v, all, h1, _, h3, h4, h5, h6⟩ := h
    obtain ⟨a, c, rfl, _, _, _⟩ := ownE_at h3
    rw [← h5.length_eq]
    exact rLen_any h1 hN
set_option maxRecDepth 40000 in
set_option maxHeartbeats 2000000 in
theorem rCopy_any {w : World} {rb : Nat} {N : Int} {v : Value} {all : List En} (h : w.heap[rb]? = some (rmO N v)) (hN : 0 < N) (ho : Own w 56 6 v all.length (rowE all)) (h1000 : all.length ≤ 1000) :
    Calls Tryz.prog 109 #[.pointer (some ⟨rb, 0, none⟩)] w fun e w' => ∃ rb' v', e = .returned (.pointer (some ⟨rb', 0, none⟩)) ∧ w.heap.size ≤ rb' ∧ w'.heap[rb']? = some (rmO N v') ∧ Nw w w' 56 6 v' all.length (rowE all) ∧ v'.ownBlock ≠ some rb' ∧ Gr w w' := by
  obtain ⟨i0, hi, hz0, hz1, hz2⟩ := info_parts infoIten
  have HO := Lib.hid ho
  have HV := Lib.hid (rvalid h hN)
  obtain ⟨a, c, rfl, hc, hm, _⟩ := ownE_at ho
  unfold maxLen at hm
  have c0 := ((cellsOf h).1 0).trans (show _ = some (Value.int .i64 N) from rfl)
  have c1 := ((cellsOf h).1 1).trans (show _ = some (Value.slice a all.length c) from rfl)
  clear h ho
  go_enter Tryz.func109, Tryz.ntmps109
  go_wp2_with (go_at_call 71; refine Calls.mono HV.out ?_; rintro e w1 ⟨rfl, rfl⟩)
  have SRC := Lib.hid (src_all HO.out (rowE_one all))
  refine wp_region_flo (fun _ => False) [] [] (by kernel_rfl) (by kernel_rfl) (fun _ h => h.elim) ?_
  refine flo_seg 4 rfl ?_
  simp only [List.take_succ_cons, List.take_zero, List.drop_succ_cons, List.drop_zero]
  repeat (go_big_quiet_step (fail))
  refine wpQuiet_nil ?_
  refine flo_eff rfl rfl rfl rfl (fun K hK => ?_)
  go_wp2
  refine ⟨by (first | (refine Gr.mdh ?_ _; (repeat (first | (with_reducible exact Gr.refl _) | assumption | (with_reducible apply Gr.from_drew) | (with_reducible apply Gr.alloc) | (with_reducible apply Gr.drew) | (with_reducible refine Gr.trans ?_ (by assumption)) | (with_reducible refine Gr.setCell ?_ (by omega) _))); done) | (repeat (first | (with_reducible exact Mdh.refl _ _) | (with_reducible refine Mdh.setCell ?_ (by simp) _) | (with_reducible refine Mdh.setNew ?_ (by simp) _) | (with_reducible apply Mdh.alloc) | (with_reducible apply Mdh.from_drew) | (with_reducible apply Mdh.drew) | (with_reducible refine Mdh.gr ?_ (by assumption))))), ?_⟩
  refine flo_seg 4 rfl ?_
  simp only [List.take_succ_cons, List.take_zero, List.drop_succ_cons, List.drop_zero]
  repeat (go_big_quiet_step (fail))
  refine wpQuiet_nil ?_
  refine flo_eff rfl rfl rfl rfl (fun K hK => ?_)
  refine wp_appv _ (.tmp 10) (.tmp 14) 37 rfl 56 i0 _ 6 56 Tryz.underlying37 hi hz0 hz1 hz2 rfl (by decide) (.slice (some ⟨w.heap.size, 0, none⟩) 0 0) 0 [] rfl ((Nw.made (w0 := w) (w := w) (Nat.le_refl _)).own.gr (by (repeat (first | (with_reducible exact Gr.refl _) | assumption | (with_reducible apply Gr.from_drew) | (with_reducible apply Gr.alloc) | (with_reducible apply Gr.drew) | (with_reducible refine Gr.trans ?_ (by assumption)) | (with_reducible refine Gr.setCell ?_ (by omega) _))))) a all.length _ (rowE all) rfl (SRC.out.gr (by (repeat (first | (with_reducible exact Gr.refl _) | assumption | (with_reducible apply Gr.from_drew) | (with_reducible apply Gr.alloc) | (with_reducible apply Gr.drew) | (with_reducible refine Gr.trans ?_ (by assumption)) | (with_reducible refine Gr.setCell ?_ (by omega) _))))) (by simp only [maxLen]; omega) (by omega) (fun k3 xa hk3 => ?_); rw [Nat.zero_add, List.nil_append] at hk3; (have n3 := hk3.nw (w0 := w) ((Nw.made (w0 := w) (w := w) (e := 56) (K := 6) (Nat.le_refl _)).gr (by (repeat (first | (with_reducible exact Gr.refl _) | assumption | (with_reducible apply Gr.from_drew) | (with_reducible apply Gr.alloc) | (with_reducible apply Gr.drew) | (with_reducible refine Gr.trans ?_ (by assumption)) | (with_reducible refine Gr.setCell ?_ (by omega) _))))) (Gr.sz (by (repeat (first | (with_reducible exact Gr.refl _) | assumption | (with_reducible apply Gr.from_drew) | (with_reducible apply Gr.alloc) | (with_reducible apply Gr.drew) | (with_reducible refine Gr.trans ?_ (by assumption)) | (with_reducible refine Gr.setCell ?_ (by omega) _)))))); (have m3 := hk3.gw (w0 := w) ((Nw.made (w0 := w) (w := w) (e := 56) (K := 6) (Nat.le_refl _)).gr (by (repeat (first | (with_reducible exact Gr.refl _) | assumption | (with_reducible apply Gr.from_drew) | (with_reducible apply Gr.alloc) | (with_reducible apply Gr.drew) | (with_reducible refine Gr.trans ?_ (by assumption)) | (with_reducible refine Gr.setCell ?_ (by omega) _))))) (by (repeat (first | (with_reducible exact Gr.refl _) | assumption | (with_reducible apply Gr.from_drew) | (with_reducible apply Gr.alloc) | (with_reducible apply Gr.drew) | (with_reducible refine Gr.trans ?_ (by assumption)) | (with_reducible refine Gr.setCell ?_ (by omega) _))))); obtain ⟨a3, c3, rfl⟩ := hk3.val; refine hK _ _ ⟨hk3.mdh (fun q hq => by rw [ownB hq]; right; right; exact ⟨Nat.le_refl _, by simp⟩), ?_⟩; simp only [Act.put, List.setIfInBounds_toArray, List.set_cons_succ, List.set_cons_zero]
  refine flo_seg 1 rfl ?_
  simp only [List.take_succ_cons, List.take_zero, List.drop_succ_cons, List.drop_zero]
  repeat (go_big_quiet_step (fail))
  refine wpQuiet_nil ?_
  refine flo_eff rfl rfl rfl rfl (fun K hK => ?_)
  go_wp2
  refine ⟨by (first | (refine Gr.mdh ?_ _; (repeat (first | (with_reducible exact Gr.refl _) | assumption | (with_reducible apply Gr.from_drew) | (with_reducible apply Gr.alloc) | (with_reducible apply Gr.drew) | (with_reducible refine Gr.trans ?_ (by assumption)) | (with_reducible refine Gr.setCell ?_ (by omega) _))); done) | (repeat (first | (with_reducible exact Mdh.refl _ _) | (with_reducible refine Mdh.setCell ?_ (by simp) _) | (with_reducible refine Mdh.setNew ?_ (by simp) _) | (with_reducible apply Mdh.alloc) | (with_reducible apply Mdh.from_drew) | (with_reducible apply Mdh.drew) | (with_reducible refine Mdh.gr ?_ (by assumption))))), ?_⟩
  refine flo_seg 1 rfl ?_
  simp only [List.take_succ_cons, List.take_zero, List.drop_succ_cons, List.drop_zero]
  repeat (go_big_quiet_step (fail))
  refine wpQuiet_nil ?_
  refine flo_nil ?_
  have N3 := Lib.hid n3
  have M3 := Lib.hid m3
  clear hK hk3 n3 m3
  go_wp2_with fail
  go_ret
  exact ⟨xa.heap.size, .slice a3 all.length c3, rfl, M3.out.sz, blkNew _ _, N3.out.gr ((Gr.refl xa).alloc _), fun h => absurd (N3.out.own.lt h) (Nat.lt_irrefl _), M3.out.alloc _⟩
theorem rCopy_no (w : World) : Calls Tryz.prog 109 #[.pointer none] w fun e w' => e = .returned (.pointer none) ∧ w = w' := by
  go_enter Tryz.func109, Tryz.ntmps109
  go_wp2_with (go_at_call 71; refine Calls.mono (rvalid_no _) ?_; rintro e w1 ⟨rfl, rfl⟩)
  go_ret
  exact ⟨rfl, rfl⟩
/-- Whether there is a copy. -/
theorem rpCopy {w : World} {p : Option Addr} {X : IX} (h : RP w p X) : Calls Tryz.prog 109 #[.pointer p] w fun e w' => (∃ q, e = .returned (.pointer q) ∧ (q = none ↔ X.slots = [])) ∧ Gr w w' := by
  rcases h with ⟨rfl, rfl⟩ | ⟨rb, rfl, h⟩
  · refine (rCopy_no w).mono ?_
    rintro e w' ⟨rfl, rfl⟩
    exact ⟨⟨none, rfl, ⟨fun _ => rfl, fun _ => rfl⟩⟩, Gr.refl w⟩
  · have hN := h.pos
    obtain ⟨v, all, h1, h2, h3, h4, h5, h6⟩ := h
    refine (rCopy_any h1 hN h3 h6).mono ?_
    rintro e w' ⟨rb', v', rfl, _, _, _, _, hg⟩
    exact ⟨⟨_, rfl, ⟨(fun h => by cases h), fun h => absurd h h2⟩⟩, hg⟩
set_option maxRecDepth 40000 in
set_option maxHeartbeats 2000000 in
theorem rHas22 {w : World} {p : Option Addr} {X : IX} (h : RP w p X) (e : En) : Calls Tryz.prog 83 #[.pointer p, enV e] w fun r w' => r = .returned (.bool (X.hasE e)) ∧ Gr w w' := by
  have HHE : Hid (X.hasE e = (X.of e.key).any (fun o => decide (o = e))) := Lib.hid rfl
  have hle : (X.of e.key).length ≤ 16384 := h.ok.of_le e.key
  have HOF : Hid (∀ W, Gr w W → Calls Tryz.prog 75 #[.pointer p, .string e.key] W (fun r w' => ∃ v, r = .returned v ∧ Nw W w' 56 6 v (X.of e.key).length (rowE (X.of e.key)) ∧ Gr W w')) := Lib.hid (fun W g => rpOf (h.gr g) e.key)
  generalize X.hasE e = B at *
  generalize X.of e.key = L at *
  clear h
  obtain ⟨e0, e1, e2, e3, e4, e5⟩ := e
  simp only [enV] at *
  obtain ⟨w1, hw1⟩ : ∃ y, y = w.alloc (.cells #[.int .i64 e0, .string e1, .bool e2, .int .i64 e3, .int .i64 e4, .int .i64 e5] 56) := ⟨_, rfl⟩
  obtain ⟨b3, hb3⟩ : ∃ q, q = w.heap.size := ⟨_, rfl⟩
  have HG1 : Hid (Gr w w1) := Lib.hid (by rw [hw1]; exact (Gr.refl w).alloc _)
  have HX1 : Hid (w1.heap[b3]? = some (.cells #[.int .i64 e0, .string e1, .bool e2, .int .i64 e3, .int .i64 e4, .int .i64 e5] 56)) := Lib.hid (by rw [hw1, hb3]; exact blkNew _ _)
  go_enter Tryz.func83, Tryz.ntmps83
  go_upto_region 1 with fail
  rw [← hw1, ← hb3]
  clear hw1 hb3
  have d3 := (cellsOf HX1.out).1
  have d31 : w1.cell? ⟨b3, 1, none⟩ = some (.string e1) := d3 1
  clear d3
  go_upto_region 2 with (first
    | (go_at_call 75; refine Calls.mono (HOF.out _ HG1.out) ?_; rintro r w2 ⟨v, rfl, hn, hg⟩; have HN2 := Lib.hid hn; have HG2 := Lib.hid (HG1.out.trans hg); have HX2 := Lib.hid (hg.blk HX1.out); clear hn hg d31; obtain ⟨a5, c5, rfl, hc5, hm5, _⟩ := ownE_at HN2.out.own)
    | fail)
  unfold maxLen at hm5
  go_wp2_with fail
  go_loopw [6] (fun t6 wx => ∃ i : Nat, i ≤ L.length ∧ t6 = .int .i64 i ∧ Hid ((∀ (j : Nat) x, j < i → L[j]? = some x → x ≠ (⟨e0, e1, e2, e3, e4, e5⟩ : En)) ∧ Gr w2 wx)) (fun t6 _ => L.length - (intOf t6).toNat)
  case atStart => exact ⟨0, by omega, by go_num, Lib.hid ⟨fun j x h => by omega, Gr.refl _⟩⟩
  case round =>
    obtain ⟨i, hil, rfl, HR⟩ := hrel
    by_cases hlt : i < L.length
    · have hlt' : (i : Int) < L.length := by omega
      obtain ⟨x, hx⟩ : ∃ x, L[i]? = some x := ⟨_, List.getElem?_eq_getElem hlt⟩
      obtain ⟨g0, rfl, hg0, y0, y1, y2, y3, y4, y5⟩ := ent6 (HN2.out.own.gr HR.out.2) hx
      have HXI := Lib.hid hx
      have z3 := (cellsOf (HR.out.2.blk HX2.out)).1
      have z30 := (z3 0).trans (show _ = some (Value.int .i64 e0) from rfl)
      have z31 := (z3 1).trans (show _ = some (Value.string e1) from rfl)
      have z32 := (z3 2).trans (show _ = some (Value.bool e2) from rfl)
      have z33 := (z3 3).trans (show _ = some (Value.int .i64 e3) from rfl)
      have z34 := (z3 4).trans (show _ = some (Value.int .i64 e4) from rfl)
      have z35 := (z3 5).trans (show _ = some (Value.int .i64 e5) from rfl)
      clear hx z3
      by_cases hxe : x = (⟨e0, e1, e2, e3, e4, e5⟩ : En)
      · have HB : Hid (B = true) := Lib.hid (by rw [HHE.out]; exact List.any_eq_true.2 ⟨x, List.mem_of_getElem? HXI.out, decide_eq_true hxe⟩)
        have k1 := fun w => (eqlE_run x (⟨e0, e1, e2, e3, e4, e5⟩ : En) w).trans (by rw [decide_eq_true hxe])
        clear hxe
        obtain ⟨x0, x1, x2, x3, x4, x5⟩ := x
        simp only at k1 y0 y1 y2 y3 y4 y5
        go_wp2_with fail
        refine wp_region_flo (fun _ => False) [] [] (by kernel_rfl) (by kernel_rfl) (fun _ h => h.elim) ?_
        refine flo_seg 6 rfl ?_
        simp only [List.take_succ_cons, List.take_zero, List.drop_succ_cons, List.drop_zero]
        repeat (go_big_quiet_step (fail))
        refine wpQuiet_nil ?_
        refine flo_nil ?_
        go_wp2_with fail
        go_ret
        exact ⟨ret_bool HB.out.symm, (HG2.out.trans HR.out.2).trans (Gr.refl _).drew⟩
      · have HNX : Hid (x ≠ (⟨e0, e1, e2, e3, e4, e5⟩ : En)) := Lib.hid hxe
        have k1 := fun w => (eqlE_run x (⟨e0, e1, e2, e3, e4, e5⟩ : En) w).trans (by rw [decide_eq_false hxe])
        clear hxe
        obtain ⟨x0, x1, x2, x3, x4, x5⟩ := x
        simp only at k1 y0 y1 y2 y3 y4 y5
        go_wp2_with fail
        refine wp_region_flo (fun _ => False) [] [] (by kernel_rfl) (by kernel_rfl) (fun _ h => h.elim) ?_
        refine flo_seg 6 rfl ?_
        simp only [List.take_succ_cons, List.take_zero, List.drop_succ_cons, List.drop_zero]
        repeat (go_big_quiet_step (fail))
        refine wpQuiet_nil ?_
        refine flo_nil ?_
        go_wp2_with fail
        go_roundw
        case rel => exact ⟨i + 1, by omega, by go_num, Lib.hid ⟨fun j y hj hy => by
          by_cases hji : j < i
          · exact HR.out.1 j y hji hy
          · obtain rfl : j = i := by omega
            rw [HXI.out] at hy
            exact (Option.some.inj hy) ▸ HNX.out, HR.out.2.trans (Gr.refl _).drew⟩⟩
        case measure => simp [intOf]; omega
    · have hlt' : ¬ (i : Int) < L.length := by omega
      have HB : Hid (B = false) := Lib.hid (by
        rw [HHE.out]
        refine List.any_eq_false.2 (fun x hx => ?_)
        obtain ⟨j, hj⟩ := List.mem_iff_getElem?.1 hx
        have := HR.out.1 j x (by have := (List.getElem?_eq_some_iff.1 hj).1; omega) hj
        simpa using this)
      go_wp2_with fail
      go_ret
      exact ⟨ret_bool HB.out.symm, HG2.out.trans HR.out.2⟩
set_option maxRecDepth 40000 in
set_option maxHeartbeats 2000000 in
theorem rHas24 {w : World} {p : Option Addr} {X : IX} (h : RP w p X) (e : En) : Calls Tryz.prog 151 #[.pointer p, enV e] w fun r w' => r = .returned (.bool (X.hasE e)) ∧ Gr w w' := by
  have HHE : Hid (X.hasE e = (X.of e.key).any (fun o => decide (o = e))) := Lib.hid rfl
  have hle : (X.of e.key).length ≤ 16384 := h.ok.of_le e.key
  have HOF : Hid (∀ W, Gr w W → Calls Tryz.prog 75 #[.pointer p, .string e.key] W (fun r w' => ∃ v, r = .returned v ∧ Nw W w' 56 6 v (X.of e.key).length (rowE (X.of e.key)) ∧ Gr W w')) := Lib.hid (fun W g => rpOf (h.gr g) e.key)
  generalize X.hasE e = B at *
  generalize X.of e.key = L at *
  clear h
  obtain ⟨e0, e1, e2, e3, e4, e5⟩ := e
  simp only [enV] at *
  obtain ⟨w1, hw1⟩ : ∃ y, y = w.alloc (.cells #[.int .i64 e0, .string e1, .bool e2, .int .i64 e3, .int .i64 e4, .int .i64 e5] 56) := ⟨_, rfl⟩
  obtain ⟨b3, hb3⟩ : ∃ q, q = w.heap.size := ⟨_, rfl⟩
  have HG1 : Hid (Gr w w1) := Lib.hid (by rw [hw1]; exact (Gr.refl w).alloc _)
  have HX1 : Hid (w1.heap[b3]? = some (.cells #[.int .i64 e0, .string e1, .bool e2, .int .i64 e3, .int .i64 e4, .int .i64 e5] 56)) := Lib.hid (by rw [hw1, hb3]; exact blkNew _ _)
  go_enter Tryz.func151, Tryz.ntmps151
  go_upto_region 1 with fail
  rw [← hw1, ← hb3]
  clear hw1 hb3
  have d3 := (cellsOf HX1.out).1
  have d31 : w1.cell? ⟨b3, 1, none⟩ = some (.string e1) := d3 1
  clear d3
  go_upto_region 2 with (first
    | (go_at_call 75; refine Calls.mono (HOF.out _ HG1.out) ?_; rintro r w2 ⟨v, rfl, hn, hg⟩; have HN2 := Lib.hid hn; have HG2 := Lib.hid (HG1.out.trans hg); have HX2 := Lib.hid (hg.blk HX1.out); clear hn hg d31; obtain ⟨a5, c5, rfl, hc5, hm5, _⟩ := ownE_at HN2.out.own)
    | fail)
  unfold maxLen at hm5
  go_wp2_with fail
  go_loopw [6] (fun t6 wx => ∃ i : Nat, i ≤ L.length ∧ t6 = .int .i64 i ∧ Hid ((∀ (j : Nat) x, j < i → L[j]? = some x → x ≠ (⟨e0, e1, e2, e3, e4, e5⟩ : En)) ∧ Gr w2 wx)) (fun t6 _ => L.length - (intOf t6).toNat)
  case atStart => exact ⟨0, by omega, by go_num, Lib.hid ⟨fun j x h => by omega, Gr.refl _⟩⟩
  case round =>
    obtain ⟨i, hil, rfl, HR⟩ := hrel
    by_cases hlt : i < L.length
    · have hlt' : (i : Int) < L.length := by omega
      obtain ⟨x, hx⟩ : ∃ x, L[i]? = some x := ⟨_, List.getElem?_eq_getElem hlt⟩
      obtain ⟨g0, rfl, hg0, y0, y1, y2, y3, y4, y5⟩ := ent6 (HN2.out.own.gr HR.out.2) hx
      have HXI := Lib.hid hx
      have z3 := (cellsOf (HR.out.2.blk HX2.out)).1
      have z30 := (z3 0).trans (show _ = some (Value.int .i64 e0) from rfl)
      have z31 := (z3 1).trans (show _ = some (Value.string e1) from rfl)
      have z32 := (z3 2).trans (show _ = some (Value.bool e2) from rfl)
      have z33 := (z3 3).trans (show _ = some (Value.int .i64 e3) from rfl)
      have z34 := (z3 4).trans (show _ = some (Value.int .i64 e4) from rfl)
      have z35 := (z3 5).trans (show _ = some (Value.int .i64 e5) from rfl)
      clear hx z3
      by_cases hxe : x = (⟨e0, e1, e2, e3, e4, e5⟩ : En)
      · have HB : Hid (B = true) := Lib.hid (by rw [HHE.out]; exact List.any_eq_true.2 ⟨x, List.mem_of_getElem? HXI.out, decide_eq_true hxe⟩)
        have k1 := fun w => (eqlE_run x (⟨e0, e1, e2, e3, e4, e5⟩ : En) w).trans (by rw [decide_eq_true hxe])
        clear hxe
        obtain ⟨x0, x1, x2, x3, x4, x5⟩ := x
        simp only at k1 y0 y1 y2 y3 y4 y5
        go_wp2_with fail
        refine wp_region_flo (fun _ => False) [] [] (by kernel_rfl) (by kernel_rfl) (fun _ h => h.elim) ?_
        refine flo_seg 6 rfl ?_
        simp only [List.take_succ_cons, List.take_zero, List.drop_succ_cons, List.drop_zero]
        repeat (go_big_quiet_step (fail))
        refine wpQuiet_nil ?_
        refine flo_nil ?_
        go_wp2_with fail
        go_ret
        exact ⟨ret_bool HB.out.symm, (HG2.out.trans HR.out.2).trans (Gr.refl _).drew⟩
      · have HNX : Hid (x ≠ (⟨e0, e1, e2, e3, e4, e5⟩ : En)) := Lib.hid hxe
        have k1 := fun w => (eqlE_run x (⟨e0, e1, e2, e3, e4, e5⟩ : En) w).trans (by rw [decide_eq_false hxe])
        clear hxe
        obtain ⟨x0, x1, x2, x3, x4, x5⟩ := x
        simp only at k1 y0 y1 y2 y3 y4 y5
        go_wp2_with fail
        refine wp_region_flo (fun _ => False) [] [] (by kernel_rfl) (by kernel_rfl) (fun _ h => h.elim) ?_
        refine flo_seg 6 rfl ?_
        simp only [List.take_succ_cons, List.take_zero, List.drop_succ_cons, List.drop_zero]
        repeat (go_big_quiet_step (fail))
        refine wpQuiet_nil ?_
        refine flo_nil ?_
        go_wp2_with fail
        go_roundw
        case rel => exact ⟨i + 1, by omega, by go_num, Lib.hid ⟨fun j y hj hy => by
          by_cases hji : j < i
          · exact HR.out.1 j y hji hy
          · obtain rfl : j = i := by omega
            rw [HXI.out] at hy
            exact (Option.some.inj hy) ▸ HNX.out, HR.out.2.trans (Gr.refl _).drew⟩⟩
        case measure => simp [intOf]; omega
    · have hlt' : ¬ (i : Int) < L.length := by omega
      have HB : Hid (B = false) := Lib.hid (by
        rw [HHE.out]
        refine List.any_eq_false.2 (fun x hx => ?_)
        obtain ⟨j, hj⟩ := List.mem_iff_getElem?.1 hx
        have := HR.out.1 j x (by have := (List.getElem?_eq_some_iff.1 hj).1; omega) hj
        simpa using this)
      go_wp2_with fail
      go_ret
      exact ⟨ret_bool HB.out.symm, HG2.out.trans HR.out.2⟩
end Go.Proofs.YtmdfickejpeofaaGreat

/- A string of a row. -/
set_option linter.unusedVariables false
set_option linter.unusedSimpArgs false
namespace Go.Proofs.YtmdfickejpeofaaGreat
open Go.RowKit

theorem str1g {w : World} {g n c i : Nat} {l : List ByteArray} {k : ByteArray} (hn : l.length = n) (h : Own w 9 1 (.slice (some ⟨g, 0, none⟩) n c) n (kS l)) (hx : l[i]? = some k) : g < w.heap.size ∧ w.cell? ⟨g, i, none⟩ = some (.string k) := by
  subst hn
  obtain ⟨_, _, hve, _, _, hat⟩ := ownS_at h
  injection hve with g1 g2 g3
  subst g1
  obtain ⟨g', hg, hl, _, hc⟩ := hat i _ hx
  simp only [Option.some.injEq, Addr.mk.injEq, and_true] at hg
  subst hg
  exact ⟨hl, hc⟩
theorem str1 {w : World} {a : Option Addr} {n c i : Nat} {l : List ByteArray} {k : ByteArray} (hn : l.length = n) (h : Own w 9 1 (.slice a n c) n (kS l)) (hx : l[i]? = some k) : ∃ g, a = some ⟨g, 0, none⟩ ∧ g < w.heap.size ∧ w.cell? ⟨g, i, none⟩ = some (.string k) := by
  have hn' := hn
  subst hn
  obtain ⟨_, _, hve, _, _, hat⟩ := ownS_at h
  injection hve with g1 g2 g3
  subst g1
  obtain ⟨g', rfl, _⟩ := hat i _ hx
  exact ⟨g', rfl, str1g hn' h hx⟩
end Go.Proofs.YtmdfickejpeofaaGreat

/- drumlinref22's functions over a reference index. -/
set_option linter.unusedVariables false
set_option linter.unusedSimpArgs false
namespace Go.Proofs.YtmdfickejpeofaaGreat
open Go.RowKit Go.Shelf
attribute [local go_sem] OvM cell_ovm obj_ovm
attribute [local go_sem] Oper.semAt_some

theorem findV_no {X : IX} {k : ByteArray} (h : findE X k = none) : findV X k = .tuple #[.agg #[.int .i64 0, .string ⟨#[]⟩, .bool false, .int .i64 0, .int .i64 0, .int .i64 0], .bool false, .int .i64 (codeX X)] := by
  unfold findV; rw [h]; rfl
theorem findV_is {X : IX} {k : ByteArray} {x : En} (h : findE X k = some x) : findV X k = .tuple #[.agg #[.int .i64 x.seq, .string x.key, .bool x.del, .int .i64 x.slot, .int .i64 x.off, .int .i64 x.size], .bool true, .int .i64 (codeX X)] := by
  unfold findV; rw [h]; rfl
set_option maxRecDepth 40000 in
set_option maxHeartbeats 4000000 in
theorem rpFind {w : World} {p : Option Addr} {X : IX} (h : RP w p X) (k : ByteArray) : Calls Tryz.prog 21 #[.pointer p, .string k] w fun e w' => e = .returned (findV X k) ∧ Gr w w' := by
  have H := Lib.hid h
  have hle : (X.of k).length ≤ 16384 := h.ok.of_le k
  have HNS := Lib.hid (fun h0 => of_noslots h.ok h0 k)
  clear h
  obtain ⟨w0, hw0⟩ : ∃ y, y = w.alloc (.cells #[.int .i64 0, .string ⟨#[]⟩, .bool false, .int .i64 0, .int .i64 0, .int .i64 0] 56) := ⟨_, rfl⟩
  obtain ⟨b4, hb4⟩ : ∃ q, q = w.heap.size := ⟨_, rfl⟩
  have HG0 : Hid (Gr w w0) := Lib.hid (by rw [hw0]; exact (Gr.refl w).alloc _)
  have HX0 : Hid (w0.heap[b4]? = some (.cells #[.int .i64 0, .string ⟨#[]⟩, .bool false, .int .i64 0, .int .i64 0, .int .i64 0] 56)) := Lib.hid (by rw [hw0, hb4]; exact blkNew _ _)
  have HBW : Hid (w.heap.size ≤ b4) := Lib.hid (Nat.le_of_eq hb4.symm)
  have HSL := Lib.hid (rpSlots (H.out.gr HG0.out))
  have HOF : Hid (∀ W, Gr w W → Calls Tryz.prog 75 #[.pointer p, .string k] W (fun e w' => ∃ v, e = .returned v ∧ Nw W w' 56 6 v (X.of k).length (rowE (X.of k)) ∧ Gr W w')) := Lib.hid (fun W g => rpOf (H.out.gr g) k)
  clear H
  by_cases h0 : X.slots = []
  · have hl0 : X.slots.length = 0 := by rw [h0]; rfl
    have HV : Hid (findV X k = .tuple #[.agg #[.int .i64 0, .string ⟨#[]⟩, .bool false, .int .i64 0, .int .i64 0, .int .i64 0], .bool false, .int .i64 1]) := Lib.hid (by
      have h1 : findE X k = none := by unfold findE; rw [HNS.out h0]
      rw [findV_no h1]
      unfold codeX
      rw [if_pos h0])
    rw [hl0] at HSL
    generalize findV X k = V at *
    clear h0 hl0
    go_enter Tryz.func21, Tryz.ntmps21
    go_upto_region 1 with fail
    rw [← hw0, ← hb4]
    clear hw0 hb4
    go_wp2_with fail
    refine Calls.mono HSL.out ?_
    rintro e w1 ⟨rfl, rfl⟩
    obtain ⟨d4, f4⟩ := cellsOf HX0.out
    go_upto_region 2 with fail
    repeat (first | go_values | go_skip | go_guarded | go_step | go_upon)
    have hb6 := blk6 (y0 := .int .i64 0) (y1 := .string ⟨#[]⟩) (y2 := .bool false) (y3 := .int .i64 0) (y4 := .int .i64 0) (y5 := .int .i64 0) HX0.out
    obtain ⟨d6, _⟩ := cellsOf hb6
    refine bodyPost_ret (v := V) ?_ rfl ⟨rfl, HG0.out.cell6 HBW.out _ _ _ _ _ _⟩
    simp [results, Tryz.results21, go_sem, d6, HV.out]
  · have hb : ((X.slots.length : Int) == 0) = false := beq_false_of_ne (by have := List.length_pos_iff.2 h0; omega)
    have HCO : Hid (codeX X = 0) := Lib.hid (if_neg h0)
    clear h0
    rcases hL : X.of k with _ | ⟨x, L⟩
    · have HV : Hid (findV X k = .tuple #[.agg #[.int .i64 0, .string ⟨#[]⟩, .bool false, .int .i64 0, .int .i64 0, .int .i64 0], .bool false, .int .i64 0]) := Lib.hid (by rw [findV_no (by unfold findE; rw [hL]), HCO.out])
      rw [hL] at HOF
      generalize findV X k = V at *
      generalize X.slots.length = n0 at *
      clear hL
      go_enter Tryz.func21, Tryz.ntmps21
      go_upto_region 1 with fail
      rw [← hw0, ← hb4]
      clear hw0 hb4
      go_wp2_with fail
      refine Calls.mono HSL.out ?_
      rintro e w1 ⟨rfl, rfl⟩
      go_wp2_with fail
      refine Calls.mono (HOF.out _ HG0.out) ?_
      rintro e w1 ⟨v, rfl, hn, hg⟩
      obtain ⟨a1, c1, rfl, _, _, _⟩ := ownE_at hn.own
      have HG1 := Lib.hid (HG0.out.trans hg)
      have HX1 := Lib.hid (hg.blk HX0.out)
      clear hn hg
      simp only [List.length_nil]
      obtain ⟨d4, f4⟩ := cellsOf HX1.out
      go_upto_region 5 with fail
      repeat (first | go_values | go_skip | go_guarded | go_step | go_upon)
      have hb6 := blk6 (y0 := .int .i64 0) (y1 := .string ⟨#[]⟩) (y2 := .bool false) (y3 := .int .i64 0) (y4 := .int .i64 0) (y5 := .int .i64 0) HX1.out
      obtain ⟨d6, _⟩ := cellsOf hb6
      refine bodyPost_ret (v := V) ?_ rfl ⟨rfl, HG1.out.cell6 HBW.out _ _ _ _ _ _⟩
      simp [results, Tryz.results21, go_sem, d6, HV.out]
    · have HV : Hid (findV X k = if x.del = true then .tuple #[.agg #[.int .i64 0, .string ⟨#[]⟩, .bool false, .int .i64 0, .int .i64 0, .int .i64 0], .bool false, .int .i64 0] else .tuple #[.agg #[.int .i64 x.seq, .string x.key, .bool x.del, .int .i64 x.slot, .int .i64 x.off, .int .i64 x.size], .bool true, .int .i64 0]) := Lib.hid (by
        by_cases hd : x.del = true
        · rw [if_pos hd, findV_no (by unfold findE; rw [hL]; simp only; rw [if_pos hd]), HCO.out]
        · rw [if_neg hd, findV_is (x := x) (by unfold findE; rw [hL]; simp only; rw [if_neg hd]), HCO.out])
      rw [hL] at HOF hle
      generalize findV X k = V at *
      generalize X.slots.length = n0 at *
      clear hL
      go_enter Tryz.func21, Tryz.ntmps21
      go_upto_region 1 with fail
      rw [← hw0, ← hb4]
      clear hw0 hb4
      go_wp2_with fail
      refine Calls.mono HSL.out ?_
      rintro e w1 ⟨rfl, rfl⟩
      go_wp2_with fail
      refine Calls.mono (HOF.out _ HG0.out) ?_
      rintro e w1 ⟨v, rfl, hn, hg⟩
      obtain ⟨a1, c1, rfl, hc1, hm1, _⟩ := ownE_at hn.own
      unfold maxLen at hm1
      have HN1 := Lib.hid hn
      have HG1 := Lib.hid (HG0.out.trans hg)
      have HX1 := Lib.hid (hg.blk HX0.out)
      clear hn hg
      obtain ⟨g1, rfl, hg1, y0, y1, y2, y3, y4, y5⟩ := ent6 HN1.out.own (i := 0) rfl
      simp only [Nat.zero_mul, Nat.zero_add] at y0 y1 y2 y3 y4 y5
      have hl : (0 : Int) < (x :: L).length := by simp
      have hl2 : (((x :: L).length : Int) == 0) = false := beq_false_of_ne (by omega)
      obtain ⟨n, hn⟩ : ∃ n, n = (x :: L).length := ⟨_, rfl⟩
      rw [← hn] at hl hl2 hle hc1 ⊢
      have hne : g1 ≠ b4 := fun e => by
        have h1 := HN1.out.new g1 rfl
        have h2 := blkLt HX0.out
        omega
      have hne' : b4 ≠ g1 := fun e => hne e.symm
      obtain ⟨x0, x1, x2, x3, x4, x5⟩ := x
      simp only at y0 y1 y2 y3 y4 y5
      obtain ⟨d4, f4⟩ := cellsOf HX1.out
      cases x2 with
      | true =>
        have HV1 := Lib.hid (HV.out.trans (if_pos rfl))
        go_upto_region 5 with fail
        repeat (first | go_values | go_skip | go_guarded | go_step | go_upon)
        have hb6 := blk6 (y0 := .int .i64 0) (y1 := .string ⟨#[]⟩) (y2 := .bool false) (y3 := .int .i64 0) (y4 := .int .i64 0) (y5 := .int .i64 0) HX1.out
        obtain ⟨d6, _⟩ := cellsOf hb6
        refine bodyPost_ret (v := V) ?_ rfl ⟨rfl, HG1.out.cell6 HBW.out _ _ _ _ _ _⟩
        simp [results, Tryz.results21, go_sem, d6, HV1.out]
      | false =>
        have HV1 := Lib.hid (HV.out.trans (if_neg Bool.false_ne_true))
        go_upto_region 6 with fail
        repeat (first | go_values | go_skip | go_guarded | go_step | go_upon)
        have hb6 := blk6 (y0 := .int .i64 x0) (y1 := .string x1) (y2 := .bool false) (y3 := .int .i64 x3) (y4 := .int .i64 x4) (y5 := .int .i64 x5) HX1.out
        obtain ⟨d6, _⟩ := cellsOf hb6
        refine bodyPost_ret (v := V) ?_ rfl ⟨rfl, HG1.out.cell6 HBW.out _ _ _ _ _ _⟩
        simp [results, Tryz.results21, go_sem, d6, HV1.out]
/-- The live entries of the first keys. -/
def lvE (X : IX) (l : List ByteArray) : List En := (lvF X l).map (fun x => x.2)
theorem lvE_no {X : IX} {l : List ByteArray} {k : ByteArray} (h : findE X k = none) : lvE X (l ++ [k]) = lvE X l := by unfold lvE; rw [lvF_none h]
theorem lvE_is {X : IX} {l : List ByteArray} {k : ByteArray} {e : En} (h : findE X k = some e) : lvE X (l ++ [k]) = lvE X l ++ [e] := by unfold lvE; rw [lvF_some h, List.map_append]; rfl
theorem lvE_le (X : IX) (l : List ByteArray) : (lvE X l).length ≤ l.length := by
  unfold lvE lvF
  rw [List.length_map]
  exact List.length_filterMap_le _ _
def LvP (X : IX) (w : World) (e : Ending) (w' : World) : Prop := ∃ v, e = .returned v ∧ Nw w w' 56 6 v (lvE X X.ks).length (rowE (lvE X X.ks)) ∧ Gr w w'
theorem ks_16 {X : IX} (h : X.Wf) : X.ks.length ≤ 16384 := by
  unfold IX.ks
  rw [List.length_map]
  exact h.keys_le
set_option maxRecDepth 40000 in
set_option maxHeartbeats 8000000 in
theorem rpLive {w : World} {p : Option Addr} {X : IX} (h : RP w p X) : Calls Tryz.prog 23 #[.pointer p] w (LvP X w) := by
  obtain ⟨i0, hi, hz0, hz1, hz2⟩ := info_parts infoIten
  have HK : Hid (Calls Tryz.prog 78 #[.pointer p] w (fun e w' => ∃ v, e = .returned v ∧ Nw w w' 9 1 v X.ks.length (kS X.ks) ∧ Gr w w')) := Lib.hid (rpKeys h)
  have HF := Lib.hid (fun k W (g : Gr w W) => rpFind (h.gr g) k)
  have hks := ks_16 h.ok
  have HLE := Lib.hid (fun (l : List ByteArray) => lvE_le X l)
  have HNO := Lib.hid (fun (l : List ByteArray) (k : ByteArray) (hf : findE X k = none) => And.intro (lvE_no (l := l) hf) (findV_no hf))
  have HIS := Lib.hid (fun (l : List ByteArray) (k : ByteArray) (x : En) (hf : findE X k = some x) => And.intro (lvE_is (l := l) hf) (findV_is hf))
  have HZ : Hid (lvE X [] = []) := Lib.hid rfl
  unfold LvP
  generalize findV X = fV at *
  generalize codeX X = cX at *
  generalize lvE X = lE at *
  obtain ⟨fE, hfE⟩ : ∃ fE, fE = findE X := ⟨_, rfl⟩
  rw [← hfE] at HNO HIS
  obtain ⟨K, hK⟩ : ∃ K, K = X.ks := ⟨_, rfl⟩
  rw [← hK] at HK hks ⊢
  clear h hfE hK
  go_enter Tryz.func23, Tryz.ntmps23
  go_wp2_with fail
  refine Calls.mono HK.out ?_
  rintro e w1 ⟨v, rfl, hn, hg⟩
  obtain ⟨a4, c4, rfl, hc4, hm4⟩ : ∃ a c, v = .slice a K.length c ∧ K.length ≤ c ∧ c ≤ maxLen := by
    rcases hn.own.2 with ⟨h1, h0⟩ | ⟨g, cap, cur, hv, _, _, h1, h2, _⟩
    · exact ⟨none, 0, by rw [h1, h0], by omega, by simp [maxLen]⟩
    · exact ⟨_, cap, hv, h1, h2⟩
  unfold maxLen at hm4
  have HN1 := Lib.hid hn.own
  have HG1 := Lib.hid hg
  clear hn hg
  go_wp2_with fail
  go_loopw [3, 5] (fun t3 t5 wx => ∃ (i : Nat) (a3 : Option Addr) (c3 : Nat), i ≤ K.length ∧ t3 = .slice a3 (lE (K.take i)).length c3 ∧ t5 = .int .i64 i ∧ Hid (Nw w wx 56 6 (.slice a3 (lE (K.take i)).length c3) (lE (K.take i)).length (rowE (lE (K.take i))) ∧ Own wx 9 1 (.slice a4 K.length c4) K.length (kS K) ∧ Gr w wx ∧ (∀ q, (Value.slice a3 (lE (K.take i)).length c3).ownBlock = some q → (Value.slice a4 K.length c4).ownBlock ≠ some q))) (fun _ t5 _ => K.length - (intOf t5).toNat)
  case atStart => exact ⟨0, none, 0, by omega, by rw [List.take_zero, HZ.out]; rfl, by go_num, Lib.hid ⟨by rw [List.take_zero, HZ.out]; exact (Nw.nil w _ _).gr HG1.out, HN1.out, HG1.out, fun q h => by cases h⟩⟩
  case round =>
    obtain ⟨i, a3, c3, hil, rfl, rfl, HR⟩ := hrel
    have HGR := Lib.hid HR.out.2.2.1
    by_cases hlt : i < K.length
    · have hlt' : (i : Int) < K.length := by omega
      obtain ⟨k, hk⟩ : ∃ k, K[i]? = some k := ⟨_, List.getElem?_eq_getElem hlt⟩
      obtain ⟨g0, rfl, hg0, y0⟩ := str1 rfl HR.out.2.1 hk
      have HTK : Hid (K.take (i + 1) = K.take i ++ [k]) := Lib.hid (by rw [List.take_add_one, hk]; rfl)
      have hfl : (lE (K.take i)).length ≤ 16384 := by
        have h1 := HLE.out (K.take i)
        rw [List.length_take] at h1
        omega
      have HFK := Lib.hid (HF.out k)
      have HNK := Lib.hid (HNO.out (K.take i) k)
      have HIK := Lib.hid (HIS.out (K.take i) k)
      generalize lE (K.take i) = fl at *
      clear hk
      cases hf : fE k with
      | none =>
        have HV := Lib.hid (HNK.out hf)
        have HFK2 := HFK.out
        rw [HV.out.2] at HFK2
        have HFV := Lib.hid HFK2
        clear HFK2 hf
        go_wp2_with fail
        refine Calls.mono (HFV.out _ HGR.out) ?_
        rintro r w4 ⟨rfl, hg⟩
        have HL4 := Lib.hid (HR.out.2.1.gr hg)
        have HGW := Lib.hid (HGR.out.trans hg)
        have HN4 := Lib.hid (HR.out.1.gr hg)
        clear hg y0
        go_wp2_with fail
        go_roundw
        case rel => exact ⟨i + 1, a3, c3, by omega, by rw [HTK.out, HV.out.1], by go_num, Lib.hid ⟨by rw [HTK.out, HV.out.1]; exact HN4.out.gr ((Gr.refl w4).alloc _), HL4.out.gr ((Gr.refl w4).alloc _), HGW.out.alloc _, by rw [HTK.out, HV.out.1]; exact HR.out.2.2.2⟩⟩
        case measure => simp [intOf]; omega
      | some x =>
        have HV := Lib.hid (HIK.out x hf)
        have HFK2 := HFK.out
        rw [HV.out.2] at HFK2
        have HFV := Lib.hid HFK2
        clear HFK2 hf
        obtain ⟨x0, x1, x2, x3, x4, x5⟩ := x
        simp only at HFV
        go_wp2_with fail
        refine Calls.mono (HFV.out _ HGR.out) ?_
        rintro r w4 ⟨rfl, hg⟩
        have HL4 := Lib.hid (HR.out.2.1.gr hg)
        have HGW := Lib.hid (HGR.out.trans hg)
        have HN4 := Lib.hid (HR.out.1.gr hg)
        clear hg y0
        go_upto_region 7 with fail
        obtain ⟨b6, hb6⟩ : ∃ q, q = w4.heap.size := ⟨_, rfl⟩
        obtain ⟨w5, hw5⟩ : ∃ y, y = w4.alloc (.cells #[.int .i64 x0, .string x1, .bool x2, .int .i64 x3, .int .i64 x4, .int .i64 x5] 56) := ⟨_, rfl⟩
        have HX5 : Hid (w5.heap[b6]? = some (.cells #[.int .i64 x0, .string x1, .bool x2, .int .i64 x3, .int .i64 x4, .int .i64 x5] 56)) := Lib.hid (by rw [hw5, hb6]; exact blkNew _ _)
        have HG5 : Hid (Gr w4 w5) := Lib.hid (by rw [hw5]; exact (Gr.refl w4).alloc _)
        rw [← hb6, ← hw5]
        clear hb6 hw5
        have HN5 := Lib.hid (HN4.out.gr HG5.out)
        have HL5 := Lib.hid (HL4.out.gr HG5.out)
        have HGX := Lib.hid (HGW.out.trans HG5.out)
        have d6 := (cellsOf HX5.out).1
        have z0 := (d6 0).trans (show _ = some (Value.int .i64 x0) from rfl)
        have z1 := (d6 1).trans (show _ = some (Value.string x1) from rfl)
        have z2 := (d6 2).trans (show _ = some (Value.bool x2) from rfl)
        have z3 := (d6 3).trans (show _ = some (Value.int .i64 x3) from rfl)
        have z4 := (d6 4).trans (show _ = some (Value.int .i64 x4) from rfl)
        have z5 := (d6 5).trans (show _ = some (Value.int .i64 x5) from rfl)
        clear d6
        go_wp2_with (first
          | (at_builtin; go_must (refine wpList_appv _ rfl (.tmp 28) (.tmp 30) 37 rfl 56 i0 _ 6 56 Tryz.underlying37 hi hz0 hz1 hz2 rfl (by decide) (.slice a3 fl.length c3) fl.length (rowE fl) rfl (HN5.out.own.gr (by (repeat (first | (with_reducible exact Gr.refl _) | assumption | (with_reducible apply Gr.from_drew) | (with_reducible apply Gr.alloc) | (with_reducible apply Gr.drew) | (with_reducible refine Gr.trans ?_ (by assumption)) | (with_reducible refine Gr.setCell ?_ (by omega) _))))) (some ⟨w5.heap.size, 0, none⟩) 1 1 (enC ⟨x0, x1, x2, x3, x4, x5⟩) rfl (src_newK w5 (enC ⟨x0, x1, x2, x3, x4, x5⟩) _ 6 rfl (enC_one _)) (by simp only [maxLen]; omega) (by omega) ?_); intro v3 w6 hA; have N6 := Lib.hid (hA.nw (HN5.out.gr ((Gr.refl w5).alloc _)) (by have := HGX.out.sz; simp; omega)); have HG6 := Lib.hid (hA.gw (HN5.out.gr ((Gr.refl w5).alloc _)) (HGX.out.alloc _)); have HL6 := Lib.hid ((HL5.out.gr ((Gr.refl w5).alloc _)).mdh (hA.mdh (S := fun q => (Value.slice a3 fl.length c3).ownBlock = some q) (fun g h => h)) (fun q hq hs => HR.out.2.2.2 q hs hq)); have HD6 := Lib.hid (fun q (hq : v3.ownBlock = some q) => (hA.2.1 q hq).elim (fun h => HR.out.2.2.2 q h) (fun h hs => by have := HL5.out.lt hs; simp at h; omega)); obtain ⟨a7, c7, rfl⟩ := hA.val; clear hA)
          | fail)
        go_roundw
        case rel => exact ⟨i + 1, a7, c7, by omega, by rw [HTK.out, HV.out.1, List.length_append]; rfl, by go_num, Lib.hid ⟨by rw [HTK.out, HV.out.1, List.length_append, rowE_snoc]; exact N6.out, HL6.out, HG6.out, by rw [HTK.out, HV.out.1, List.length_append]; exact HD6.out⟩⟩
        case measure => simp [intOf]; omega
    · have hlt' : ¬ (i : Int) < K.length := by omega
      have HNZ : Hid (K.take i = K) := Lib.hid (List.take_of_length_le (by omega))
      have HNF := Lib.hid HR.out.1
      rw [HNZ.out] at HNF ⊢
      go_wp2_with fail
      go_ret
      exact ⟨.slice a3 (lE K).length c3, rfl, HNF.out, HGR.out⟩
end Go.Proofs.YtmdfickejpeofaaGreat

/- drumlinref22's Count, Cost and Shadowed over a reference index. -/
set_option linter.unusedVariables false
set_option linter.unusedSimpArgs false
namespace Go.Proofs.YtmdfickejpeofaaGreat
open Go.RowKit Go.Shelf
attribute [local go_sem] OvM cell_ovm obj_ovm
attribute [local go_sem] Oper.semAt_some

theorem sumF_one (l : List (ByteArray × En)) : sumF (fun _ => 1) l = l.length := by
  have h : ∀ (l : List (ByteArray × En)) (a : Int), l.foldl (fun a _ => a + 1) a = a + l.length := by
    intro l
    induction l with
    | nil => intro a; simp
    | cons x l ih => intro a; rw [List.foldl_cons, ih, List.length_cons]; omega
  have := h l 0
  show l.foldl (fun a _ => a + 1) 0 = _
  omega
theorem live_lv (X : IX) : (lvE X X.ks).length = (liveL X).length := by unfold lvE liveL; rw [List.length_map]
theorem live_sz (X : IX) : sumZ (lvE X X.ks) = sumF (fun e => e.size) (liveL X) := by unfold lvE liveL sumZ sumF; rw [List.foldl_map]
theorem lv_bounds {X : IX} (h : X.Wf) : (lvE X X.ks).length ≤ 16384 ∧ ∀ e ∈ lvE X X.ks, 0 ≤ e.size ∧ e.size ≤ 8192 := by
  refine ⟨Nat.le_trans (lvE_le X X.ks) (ks_16 h), fun e he => ?_⟩
  obtain ⟨x, hx, rfl⟩ := List.mem_map.1 he
  have := (valid_iff x.2).1 (live_valid h x hx)
  omega
set_option maxRecDepth 40000 in
theorem rpCount {w : World} {p : Option Addr} {X : IX} (h : RP w p X) : Calls Tryz.prog 26 #[.pointer p] w fun e w' => e = .returned (sumR X (fun _ => 1)) ∧ Gr w w' := by
  have HS := Lib.hid (rpSlots h)
  have HL : Hid (Calls Tryz.prog 23 #[.pointer p] w (fun e w' => ∃ v, e = .returned v ∧ Nw w w' 56 6 v (lvE X X.ks).length (rowE (lvE X X.ks)) ∧ Gr w w')) := Lib.hid (rpLive h)
  have hb := (lv_bounds h.ok).1
  have HV : Hid (sumR X (fun _ => 1) = if X.slots = [] then .tuple #[.int .i64 0, .int .i64 1] else .tuple #[.int .i64 (lvE X X.ks).length, .int .i64 0]) := Lib.hid (by unfold sumR; rw [sumF_one, live_lv])
  generalize sumR X (fun _ => 1) = V at *
  generalize lvE X X.ks = L at *
  clear h
  by_cases h0 : X.slots = []
  · have hl0 : X.slots.length = 0 := by rw [h0]; rfl
    have HV1 := Lib.hid (HV.out.trans (if_pos h0))
    rw [hl0] at HS
    clear h0 hl0 HV
    go_enter Tryz.func26, Tryz.ntmps26
    go_wp2_with (go_at_call 59; refine Calls.mono HS.out ?_; rintro e w1 ⟨rfl, rfl⟩)
    go_ret2
    exact ⟨by rw [HV1.out] <;> rfl, Gr.refl w⟩
  · have hz : ((X.slots.length : Int) == 0) = false := beq_false_of_ne (by have := List.length_pos_iff.2 h0; omega)
    have HV1 := Lib.hid (HV.out.trans (if_neg h0))
    generalize X.slots.length = n at *
    clear h0 HV
    go_enter Tryz.func26, Tryz.ntmps26
    go_wp2_with fail
    refine Calls.mono HS.out ?_
    rintro e w1 ⟨rfl, rfl⟩
    go_wp2_with fail
    refine Calls.mono HL.out ?_
    rintro e w1 ⟨v, rfl, hn, hg⟩
    obtain ⟨a, c, rfl, _, _, _⟩ := ownE_at hn.own
    have HG := Lib.hid hg
    clear hn hg
    go_wp2_with fail
    go_ret2
    exact ⟨by rw [HV1.out] <;> rfl, HG.out⟩
set_option maxRecDepth 40000 in
set_option maxHeartbeats 2000000 in
theorem rpCost {w : World} {p : Option Addr} {X : IX} (h : RP w p X) : Calls Tryz.prog 28 #[.pointer p] w fun e w' => e = .returned (sumR X (fun e => e.size)) ∧ Gr w w' := by
  have HS := Lib.hid (rpSlots h)
  have HL : Hid (Calls Tryz.prog 23 #[.pointer p] w (fun e w' => ∃ v, e = .returned v ∧ Nw w w' 56 6 v (lvE X X.ks).length (rowE (lvE X X.ks)) ∧ Gr w w')) := Lib.hid (rpLive h)
  obtain ⟨hb, hk2⟩ := lv_bounds h.ok
  have HK2 := Lib.hid hk2
  have HV : Hid (sumR X (fun e => e.size) = if X.slots = [] then .tuple #[.int .i64 0, .int .i64 1] else .tuple #[.int .i64 (sumZ (lvE X X.ks)), .int .i64 0]) := Lib.hid (by unfold sumR; rw [live_sz])
  generalize sumR X (fun e => e.size) = V at *
  generalize lvE X X.ks = L at *
  clear h hk2
  by_cases h0 : X.slots = []
  · have hl0 : X.slots.length = 0 := by rw [h0]; rfl
    have HV1 := Lib.hid (HV.out.trans (if_pos h0))
    rw [hl0] at HS
    clear h0 hl0 HV
    go_enter Tryz.func28, Tryz.ntmps28
    go_wp2_with (go_at_call 59; refine Calls.mono HS.out ?_; rintro e w1 ⟨rfl, rfl⟩)
    go_ret2
    exact ⟨by rw [HV1.out] <;> rfl, Gr.refl w⟩
  · have hz : ((X.slots.length : Int) == 0) = false := beq_false_of_ne (by have := List.length_pos_iff.2 h0; omega)
    have HV1 := Lib.hid (HV.out.trans (if_neg h0))
    generalize X.slots.length = n at *
    clear h0 HV
    go_enter Tryz.func28, Tryz.ntmps28
    go_wp2_with fail
    refine Calls.mono HS.out ?_
    rintro e w1 ⟨rfl, rfl⟩
    go_wp2_with fail
    refine Calls.mono HL.out ?_
    rintro e w1 ⟨v, rfl, hn, hg⟩
    obtain ⟨a, cap, rfl, _, hcm, hat⟩ := ownE_at hn.own
    have HAT := Lib.hid hat
    have HG := Lib.hid hg
    unfold maxLen at hcm
    clear hn hg hat
    go_wp2_with fail
    go_loopw [4, 6] (fun t8 t9 wx => ∃ k : Nat, k ≤ L.length ∧ t9 = .int .i64 k ∧ t8 = .int .i64 (sumZ (L.take k)) ∧ Hid (Gr w1 wx)) (fun _ t9 _ => L.length - (intOf t9).toNat)
    case atStart => exact ⟨0, by omega, rfl, rfl, Lib.hid (Gr.refl _)⟩
    case round =>
      obtain ⟨k, hk, rfl, rfl, HR⟩ := hrel
      by_cases hlt : k < L.length
      · have hlt' : (k : Int) < L.length := by omega
        have hx : L[k]? = some (L[k]'hlt) := List.getElem?_eq_getElem hlt
        obtain ⟨g, rfl, z1, z2, hc⟩ := HAT.out k _ hx
        clear z1 z2
        have hv := HK2.out _ (List.mem_of_getElem? hx)
        have hs := sumZ_le (L.take k) (take_sub HK2.out)
        rw [List.length_take] at hs
        have HSN : Hid (sumZ (L.take (k + 1)) = sumZ (L.take k) + (L[k]'hlt).size) := Lib.hid (by rw [List.take_add_one, hx]; exact sumZ_snoc _ _)
        generalize L[k]'hlt = x at *
        generalize sumZ (L.take k) = m at *
        have hr : ∀ i u, (enC x)[i]? = some u → wr.cell? ⟨g, k * 6 + i, none⟩ = some u := fun i u hu => HR.out.keep (hc i u hu)
        have d5 := hr 5 _ rfl
        obtain ⟨hv1, hv2⟩ := hv
        obtain ⟨hs1, hs2⟩ := hs
        have hs3 : m ≤ 8192 * 16384 := by omega
        clear hr hc hx hs2
        go_wp2
        go_roundw
        case rel => exact ⟨k + 1, by omega, by go_num, by rw [HSN.out] <;> go_num, HR⟩
        case measure => simp [intOf]; omega
      · have hlt' : ¬ (k : Int) < L.length := by omega
        have HSS : Hid (sumZ (L.take k) = sumZ L) := Lib.hid (by rw [List.take_of_length_le (by omega)])
        rw [HSS.out]
        go_wp2
        go_ret2
        exact ⟨by rw [HV1.out] <;> rfl, HG.out.trans HR.out⟩
theorem hasE_eq (X : IX) (e : En) : (X.of e.key).any (eqEn e) = X.hasE e := rfl
set_option maxRecDepth 40000 in
set_option maxHeartbeats 2000000 in
theorem rpShadowed {w : World} {p : Option Addr} {X : IX} (h : RP w p X) (e : En) : Calls Tryz.prog 30 #[.pointer p, enV e] w fun r w' => r = .returned (shadV X e) ∧ Gr w w' := by
  have HV : Hid (shadV X e = if X.slots = [] then .tuple #[.bool false, .int .i64 1] else if X.hasE e = true then .tuple #[.bool (decide (e.seq < ((X.of e.key).headD zE).seq)), .int .i64 0] else .tuple #[.bool false, .int .i64 5]) := Lib.hid (by unfold shadV; rw [hasE_eq])
  have HS := Lib.hid (fun W (g : Gr w W) => rpSlots (h.gr g))
  have HHA := Lib.hid (fun W (g : Gr w W) => rHas22 (h.gr g) e)
  have HOF : Hid (∀ W, Gr w W → Calls Tryz.prog 75 #[.pointer p, .string e.key] W (fun r w' => ∃ v, r = .returned v ∧ Nw W w' 56 6 v (X.of e.key).length (rowE (X.of e.key)) ∧ Gr W w')) := Lib.hid (fun W g => rpOf (h.gr g) e.key)
  have HNE : Hid (X.hasE e = true → X.of e.key ≠ []) := Lib.hid (fun h0 h1 => by unfold IX.hasE at h0; rw [h1] at h0; cases h0)
  have hle : (X.of e.key).length ≤ 16384 := h.ok.of_le e.key
  generalize shadV X e = V at *
  generalize X.hasE e = B at *
  generalize X.of e.key = L at *
  clear h
  obtain ⟨e0, e1, e2, e3, e4, e5⟩ := e
  simp only [enV] at *
  obtain ⟨w1, hw1⟩ : ∃ y, y = w.alloc (.cells #[.int .i64 e0, .string e1, .bool e2, .int .i64 e3, .int .i64 e4, .int .i64 e5] 56) := ⟨_, rfl⟩
  obtain ⟨b3, hb3⟩ : ∃ q, q = w.heap.size := ⟨_, rfl⟩
  have HG1 : Hid (Gr w w1) := Lib.hid (by rw [hw1]; exact (Gr.refl w).alloc _)
  have HX1 : Hid (∀ W, Gr w1 W → W.heap[b3]? = some (.cells #[.int .i64 e0, .string e1, .bool e2, .int .i64 e3, .int .i64 e4, .int .i64 e5] 56)) := Lib.hid (fun W g => g.blk (by rw [hw1, hb3]; exact blkNew _ _))
  go_enter Tryz.func30, Tryz.ntmps30
  go_upto_region 1 with fail
  rw [← hw1, ← hb3]
  clear hw1 hb3
  by_cases h0 : X.slots = []
  · have hl0 : X.slots.length = 0 := by rw [h0]; rfl
    have HV1 := Lib.hid (HV.out.trans (if_pos h0))
    rw [hl0] at HS
    clear h0 hl0 HV
    go_wp2_with (go_at_call 59; refine Calls.mono (HS.out _ HG1.out) ?_; rintro e w1 ⟨rfl, rfl⟩)
    go_ret2
    exact ⟨by rw [HV1.out] <;> rfl, HG1.out⟩
  · have hz : ((X.slots.length : Int) == 0) = false := beq_false_of_ne (by have := List.length_pos_iff.2 h0; omega)
    have HV1 := Lib.hid (HV.out.trans (if_neg h0))
    generalize X.slots.length = n at *
    clear h0 HV
    go_wp2_with fail
    refine Calls.mono (HS.out _ HG1.out) ?_
    rintro e w2 ⟨rfl, rfl⟩
    have z3 := (cellsOf (HX1.out _ (Gr.refl _))).1
    have z30 := (z3 0).trans (show _ = some (Value.int .i64 e0) from rfl)
    have z31 := (z3 1).trans (show _ = some (Value.string e1) from rfl)
    have z32 := (z3 2).trans (show _ = some (Value.bool e2) from rfl)
    have z33 := (z3 3).trans (show _ = some (Value.int .i64 e3) from rfl)
    have z34 := (z3 4).trans (show _ = some (Value.int .i64 e4) from rfl)
    have z35 := (z3 5).trans (show _ = some (Value.int .i64 e5) from rfl)
    clear z3
    go_wp2_with fail
    refine Calls.mono (HHA.out _ HG1.out) ?_
    rintro r w3 ⟨rfl, hg⟩
    have HG3 := Lib.hid hg
    have HGX := Lib.hid (HG1.out.trans hg)
    clear hg z30 z31 z32 z33 z34 z35
    cases B with
    | false =>
      go_wp2_with fail
      go_ret2
      exact ⟨by rw [HV1.out] <;> rfl, HGX.out⟩
    | true =>
      have HV2 := Lib.hid (HV1.out.trans (if_pos rfl))
      have hne := HNE.out rfl
      rcases L with _ | ⟨x, L⟩
      · exact absurd rfl hne
      · have z3 := (cellsOf (HX1.out _ HG3.out)).1
        have z30 := (z3 0).trans (show _ = some (Value.int .i64 e0) from rfl)
        have z31 := (z3 1).trans (show _ = some (Value.string e1) from rfl)
        have lb3 := blkLt (HX1.out _ HG3.out)
        clear z3 hne
        simp only [List.headD_cons] at HV2
        go_wp2_with fail
        refine wp_region_flo (fun _ => False) [] [19] (by kernel_rfl) (by kernel_rfl) (fun _ h => h.elim) ?_
        refine flo_seg 3 rfl ?_
        simp only [List.take_succ_cons, List.take_zero, List.drop_succ_cons, List.drop_zero]
        repeat (go_big_quiet_step (fail))
        refine wpQuiet_nil ?_
        refine flo_eff rfl rfl rfl rfl (fun K hK => ?_)
        go_wp2_with ((go_at_call 75; refine Calls.mono (HOF.out _ (HGX.out.trans (Gr.refl w3).drew)) ?_; rintro r w4 ⟨v, rfl, hn, hg⟩; obtain ⟨a1, c1, rfl, hc1, hm1, _⟩ := ownE_at hn.own; obtain ⟨g1, rfl, hg1, y0, _, _, _, _, _⟩ := ent6 hn.own (i := 0) rfl; unfold maxLen at hm1; have HG4 := Lib.hid (HGX.out.trans (Gr.of_drew hg)); have hl1 : (0 : Int) < (x :: L).length := by simp))
        refine ⟨by exact hg.mdh _, ?_⟩
        refine flo_seg 2 rfl ?_
        simp only [List.take_succ_cons, List.take_zero, List.drop_succ_cons, List.drop_zero]
        repeat (go_big_quiet_step (fail))
        refine wpQuiet_nil ?_
        refine flo_eff rfl rfl rfl rfl (fun K hK => ?_)
        go_wp2
        refine ⟨by exact Mdh.refl _ _, ?_⟩
        refine flo_seg 5 rfl ?_
        simp only [List.take_succ_cons, List.take_zero, List.drop_succ_cons, List.drop_zero]
        repeat (go_big_quiet_step (fail))
        refine wpQuiet_nil ?_
        refine flo_nil ?_
        clear hn hg
        go_wp2_with fail
        go_ret2
        exact ⟨by rw [HV2.out] <;> rfl, HG4.out⟩
end Go.Proofs.YtmdfickejpeofaaGreat
