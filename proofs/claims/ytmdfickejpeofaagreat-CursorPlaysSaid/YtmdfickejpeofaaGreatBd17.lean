/- drumlinref21's Len, Last, Copy; which entries it has, as drumlinref22 and drumlinref24 ask. -/
import Derived.Test.YtmdfickejpeofaaGreatBd16
import Derived.Test.YtmdfickejpeofaaGreatBd13
set_option linter.unusedVariables false
set_option linter.unusedSimpArgs false
namespace Go.Proofs.YtmdfickejpeofaaGreat
open Go.RowKit Go.Shelf
attribute [local go_sem] OvM cell_ovm obj_ovm
attribute [local go_sem] Oper.semAt_some

set_option maxRecDepth 40000 in
theorem rLen_any {w : World} {rb : Nat} {N : Int} {a : Option Addr} {k cap : Nat} (h : w.heap[rb]? = some (rmO N (.slice a k cap))) (hN : 0 < N) : Calls Tryz.prog 17 #[.pointer (some ⟨rb, 0, none⟩)] w fun e w' => e = .returned (.int .i64 k) ∧ w = w' := by
  have c1 := ((cellsOf h).1 1).trans (show _ = some (Value.slice a k cap) from rfl)
  have HV := Lib.hid (rvalid h hN)
  clear h
  go_enter Tryz.func17, Tryz.ntmps17
  go_wp2_with (go_at_call 71; refine Calls.mono HV.out ?_; rintro e w1 ⟨rfl, rfl⟩)
  go_ret
  exact ⟨rfl, rfl⟩
theorem rpLen {w : World} {p : Option Addr} {X : IX} (h : RP w p X) : Calls Tryz.prog 17 #[.pointer p] w fun e w' => e = .returned (.int .i64 X.ents.length) ∧ w = w' := by
  rcases h with ⟨rfl, rfl⟩ | ⟨rb, rfl, h⟩
  · go_enter Tryz.func17, Tryz.ntmps17
    go_wp2_with (go_at_call 71; refine Calls.mono (rvalid_no _) ?_; rintro e w1 ⟨rfl, rfl⟩)
    go_ret
    exact ⟨rfl, rfl⟩
  · have hN := h.pos
    obtain ⟨v, all, h1, _, h3, h4, h5, h6⟩ := h
    obtain ⟨a, c, rfl, _, _, _⟩ := ownE_at h3
    rw [← h5.length_eq]
    exact rLen_any h1 hN
set_option maxRecDepth 40000 in
set_option maxHeartbeats 2000000 in
theorem rCopy_any {w : World} {rb : Nat} {N : Int} {v : Value} {all : List En} (h : w.heap[rb]? = some (rmO N v)) (hN : 0 < N) (ho : Own w 56 6 v all.length (rowE all)) (h1000 : all.length ≤ 1000) :
    Calls Tryz.prog 109 #[.pointer (some ⟨rb, 0, none⟩)] w fun e w' => ∃ rb' v', e = .returned (.pointer (some ⟨rb', 0, none⟩)) ∧ w.heap.size ≤ rb' ∧ w'.heap[rb']? = some (rmO N v') ∧ Nw w w' 56 6 v' all.length (rowE all) ∧ v'.ownBlock ≠ some rb' ∧ Gr w w' := by
  obtain ⟨i0, hi, hz0, hz1, hz2⟩ := info_parts infoIten
  have HO := Lib.hid ho
  have HV := Lib.hid (rvalid h hN)
  obtain ⟨a, c, rfl, hc, hm, _⟩ := ownE_at ho
  unfold maxLen at hm
  have c0 := ((cellsOf h).1 0).trans (show _ = some (Value.int .i64 N) from rfl)
  have c1 := ((cellsOf h).1 1).trans (show _ = some (Value.slice a all.length c) from rfl)
  clear h ho
  go_enter Tryz.func109, Tryz.ntmps109
  go_wp2_with (go_at_call 71; refine Calls.mono HV.out ?_; rintro e w1 ⟨rfl, rfl⟩)
  have SRC := Lib.hid (src_all HO.out (rowE_one all))
  refine wp_region_flo (fun _ => False) [] [] (by kernel_rfl) (by kernel_rfl) (fun _ h => h.elim) ?_
  refine flo_seg 4 rfl ?_
  simp only [List.take_succ_cons, List.take_zero, List.drop_succ_cons, List.drop_zero]
  repeat (go_big_quiet_step (fail))
  refine wpQuiet_nil ?_
  refine flo_eff rfl rfl rfl rfl (fun K hK => ?_)
  go_wp2
  refine ⟨by (first | (refine Gr.mdh ?_ _; (repeat (first | (with_reducible exact Gr.refl _) | assumption | (with_reducible apply Gr.from_drew) | (with_reducible apply Gr.alloc) | (with_reducible apply Gr.drew) | (with_reducible refine Gr.trans ?_ (by assumption)) | (with_reducible refine Gr.setCell ?_ (by omega) _))); done) | (repeat (first | (with_reducible exact Mdh.refl _ _) | (with_reducible refine Mdh.setCell ?_ (by simp) _) | (with_reducible refine Mdh.setNew ?_ (by simp) _) | (with_reducible apply Mdh.alloc) | (with_reducible apply Mdh.from_drew) | (with_reducible apply Mdh.drew) | (with_reducible refine Mdh.gr ?_ (by assumption))))), ?_⟩
  refine flo_seg 4 rfl ?_
  simp only [List.take_succ_cons, List.take_zero, List.drop_succ_cons, List.drop_zero]
  repeat (go_big_quiet_step (fail))
  refine wpQuiet_nil ?_
  refine flo_eff rfl rfl rfl rfl (fun K hK => ?_)
  refine wp_appv _ (.tmp 10) (.tmp 14) 37 rfl 56 i0 _ 6 56 Tryz.underlying37 hi hz0 hz1 hz2 rfl (by decide) (.slice (some ⟨w.heap.size, 0, none⟩) 0 0) 0 [] rfl ((Nw.made (w0 := w) (w := w) (Nat.le_refl _)).own.gr (by (repeat (first | (with_reducible exact Gr.refl _) | assumption | (with_reducible apply Gr.from_drew) | (with_reducible apply Gr.alloc) | (with_reducible apply Gr.drew) | (with_reducible refine Gr.trans ?_ (by assumption)) | (with_reducible refine Gr.setCell ?_ (by omega) _))))) a all.length _ (rowE all) rfl (SRC.out.gr (by (repeat (first | (with_reducible exact Gr.refl _) | assumption | (with_reducible apply Gr.from_drew) | (with_reducible apply Gr.alloc) | (with_reducible apply Gr.drew) | (with_reducible refine Gr.trans ?_ (by assumption)) | (with_reducible refine Gr.setCell ?_ (by omega) _))))) (by simp only [maxLen]; omega) (by omega) (fun k3 xa hk3 => ?_); rw [Nat.zero_add, List.nil_append] at hk3; (have n3 := hk3.nw (w0 := w) ((Nw.made (w0 := w) (w := w) (e := 56) (K := 6) (Nat.le_refl _)).gr (by (repeat (first | (with_reducible exact Gr.refl _) | assumption | (with_reducible apply Gr.from_drew) | (with_reducible apply Gr.alloc) | (with_reducible apply Gr.drew) | (with_reducible refine Gr.trans ?_ (by assumption)) | (with_reducible refine Gr.setCell ?_ (by omega) _))))) (Gr.sz (by (repeat (first | (with_reducible exact Gr.refl _) | assumption | (with_reducible apply Gr.from_drew) | (with_reducible apply Gr.alloc) | (with_reducible apply Gr.drew) | (with_reducible refine Gr.trans ?_ (by assumption)) | (with_reducible refine Gr.setCell ?_ (by omega) _)))))); (have m3 := hk3.gw (w0 := w) ((Nw.made (w0 := w) (w := w) (e := 56) (K := 6) (Nat.le_refl _)).gr (by (repeat (first | (with_reducible exact Gr.refl _) | assumption | (with_reducible apply Gr.from_drew) | (with_reducible apply Gr.alloc) | (with_reducible apply Gr.drew) | (with_reducible refine Gr.trans ?_ (by assumption)) | (with_reducible refine Gr.setCell ?_ (by omega) _))))) (by (repeat (first | (with_reducible exact Gr.refl _) | assumption | (with_reducible apply Gr.from_drew) | (with_reducible apply Gr.alloc) | (with_reducible apply Gr.drew) | (with_reducible refine Gr.trans ?_ (by assumption)) | (with_reducible refine Gr.setCell ?_ (by omega) _))))); obtain ⟨a3, c3, rfl⟩ := hk3.val; refine hK _ _ ⟨hk3.mdh (fun q hq => by rw [ownB hq]; right; right; exact ⟨Nat.le_refl _, by simp⟩), ?_⟩; simp only [Act.put, List.setIfInBounds_toArray, List.set_cons_succ, List.set_cons_zero]
  refine flo_seg 1 rfl ?_
  simp only [List.take_succ_cons, List.take_zero, List.drop_succ_cons, List.drop_zero]
  repeat (go_big_quiet_step (fail))
  refine wpQuiet_nil ?_
  refine flo_eff rfl rfl rfl rfl (fun K hK => ?_)
  go_wp2
  refine ⟨by (first | (refine Gr.mdh ?_ _; (repeat (first | (with_reducible exact Gr.refl _) | assumption | (with_reducible apply Gr.from_drew) | (with_reducible apply Gr.alloc) | (with_reducible apply Gr.drew) | (with_reducible refine Gr.trans ?_ (by assumption)) | (with_reducible refine Gr.setCell ?_ (by omega) _))); done) | (repeat (first | (with_reducible exact Mdh.refl _ _) | (with_reducible refine Mdh.setCell ?_ (by simp) _) | (with_reducible refine Mdh.setNew ?_ (by simp) _) | (with_reducible apply Mdh.alloc) | (with_reducible apply Mdh.from_drew) | (with_reducible apply Mdh.drew) | (with_reducible refine Mdh.gr ?_ (by assumption))))), ?_⟩
  refine flo_seg 1 rfl ?_
  simp only [List.take_succ_cons, List.take_zero, List.drop_succ_cons, List.drop_zero]
  repeat (go_big_quiet_step (fail))
  refine wpQuiet_nil ?_
  refine flo_nil ?_
  have N3 := Lib.hid n3
  have M3 := Lib.hid m3
  clear hK hk3 n3 m3
  go_wp2_with fail
  go_ret
  exact ⟨xa.heap.size, .slice a3 all.length c3, rfl, M3.out.sz, blkNew _ _, N3.out.gr ((Gr.refl xa).alloc _), fun h => absurd (N3.out.own.lt h) (Nat.lt_irrefl _), M3.out.alloc _⟩
theorem rCopy_no (w : World) : Calls Tryz.prog 109 #[.pointer none] w fun e w' => e = .returned (.pointer none) ∧ w = w' := by
  go_enter Tryz.func109, Tryz.ntmps109
  go_wp2_with (go_at_call 71; refine Calls.mono (rvalid_no _) ?_; rintro e w1 ⟨rfl, rfl⟩)
  go_ret
  exact ⟨rfl, rfl⟩
/-- Whether there is a copy. -/
theorem rpCopy {w : World} {p : Option Addr} {X : IX} (h : RP w p X) : Calls Tryz.prog 109 #[.pointer p] w fun e w' => (∃ q, e = .returned (.pointer q) ∧ (q = none ↔ X.slots = [])) ∧ Gr w w' := by
  rcases h with ⟨rfl, rfl⟩ | ⟨rb, rfl, h⟩
  · refine (rCopy_no w).mono ?_
    rintro e w' ⟨rfl, rfl⟩
    exact ⟨⟨none, rfl, ⟨fun _ => rfl, fun _ => rfl⟩⟩, Gr.refl w⟩
  · have hN := h.pos
    obtain ⟨v, all, h1, h2, h3, h4, h5, h6⟩ := h
    refine (rCopy_any h1 hN h3 h6).mono ?_
    rintro e w' ⟨rb', v', rfl, _, _, _, _, hg⟩
    exact ⟨⟨_, rfl, ⟨(fun h => by cases h), fun h => absurd h h2⟩⟩, hg⟩
set_option maxRecDepth 40000 in
set_option maxHeartbeats 2000000 in
theorem rHas22 {w : World} {p : Option Addr} {X : IX} (h : RP w p X) (e : En) : Calls Tryz.prog 83 #[.pointer p, enV e] w fun r w' => r = .returned (.bool (X.hasE e)) ∧ Gr w w' := by
  have HHE : Hid (X.hasE e = (X.of e.key).any (fun o => decide (o = e))) := Lib.hid rfl
  have hle : (X.of e.key).length ≤ 16384 := h.ok.of_le e.key
  have HOF : Hid (∀ W, Gr w W → Calls Tryz.prog 75 #[.pointer p, .string e.key] W (fun r w' => ∃ v, r = .returned v ∧ Nw W w' 56 6 v (X.of e.key).length (rowE (X.of e.key)) ∧ Gr W w')) := Lib.hid (fun W g => rpOf (h.gr g) e.key)
  generalize X.hasE e = B at *
  generalize X.of e.key = L at *
  clear h
  obtain ⟨e0, e1, e2, e3, e4, e5⟩ := e
  simp only [enV] at *
  obtain ⟨w1, hw1⟩ : ∃ y, y = w.alloc (.cells #[.int .i64 e0, .string e1, .bool e2, .int .i64 e3, .int .i64 e4, .int .i64 e5] 56) := ⟨_, rfl⟩
  obtain ⟨b3, hb3⟩ : ∃ q, q = w.heap.size := ⟨_, rfl⟩
  have HG1 : Hid (Gr w w1) := Lib.hid (by rw [hw1]; exact (Gr.refl w).alloc _)
  have HX1 : Hid (w1.heap[b3]? = some (.cells #[.int .i64 e0, .string e1, .bool e2, .int .i64 e3, .int .i64 e4, .int .i64 e5] 56)) := Lib.hid (by rw [hw1, hb3]; exact blkNew _ _)
  go_enter Tryz.func83, Tryz.ntmps83
  go_upto_region 1 with fail
  rw [← hw1, ← hb3]
  clear hw1 hb3
  have d3 := (cellsOf HX1.out).1
  have d31 : w1.cell? ⟨b3, 1, none⟩ = some (.string e1) := d3 1
  clear d3
  go_upto_region 2 with (first
    | (go_at_call 75; refine Calls.mono (HOF.out _ HG1.out) ?_; rintro r w2 ⟨v, rfl, hn, hg⟩; have HN2 := Lib.hid hn; have HG2 := Lib.hid (HG1.out.trans hg); have HX2 := Lib.hid (hg.blk HX1.out); clear hn hg d31; obtain ⟨a5, c5, rfl, hc5, hm5, _⟩ := ownE_at HN2.out.own)
    | fail)
  unfold maxLen at hm5
  go_wp2_with fail
  go_loopw [6] (fun t6 wx => ∃ i : Nat, i ≤ L.length ∧ t6 = .int .i64 i ∧ Hid ((∀ (j : Nat) x, j < i → L[j]? = some x → x ≠ (⟨e0, e1, e2, e3, e4, e5⟩ : En)) ∧ Gr w2 wx)) (fun t6 _ => L.length - (intOf t6).toNat)
  case atStart => exact ⟨0, by omega, by go_num, Lib.hid ⟨fun j x h => by omega, Gr.refl _⟩⟩
  case round =>
    obtain ⟨i, hil, rfl, HR⟩ := hrel
    by_cases hlt : i < L.length
    · have hlt' : (i : Int) < L.length := by omega
      obtain ⟨x, hx⟩ : ∃ x, L[i]? = some x := ⟨_, List.getElem?_eq_getElem hlt⟩
      obtain ⟨g0, rfl, hg0, y0, y1, y2, y3, y4, y5⟩ := ent6 (HN2.out.own.gr HR.out.2) hx
      have HXI := Lib.hid hx
      have z3 := (cellsOf (HR.out.2.blk HX2.out)).1
      have z30 := (z3 0).trans (show _ = some (Value.int .i64 e0) from rfl)
      have z31 := (z3 1).trans (show _ = some (Value.string e1) from rfl)
      have z32 := (z3 2).trans (show _ = some (Value.bool e2) from rfl)
      have z33 := (z3 3).trans (show _ = some (Value.int .i64 e3) from rfl)
      have z34 := (z3 4).trans (show _ = some (Value.int .i64 e4) from rfl)
      have z35 := (z3 5).trans (show _ = some (Value.int .i64 e5) from rfl)
      clear hx z3
      by_cases hxe : x = (⟨e0, e1, e2, e3, e4, e5⟩ : En)
      · have HB : Hid (B = true) := Lib.hid (by rw [HHE.out]; exact List.any_eq_true.2 ⟨x, List.mem_of_getElem? HXI.out, decide_eq_true hxe⟩)
        have k1 := fun w => (eqlE_run x (⟨e0, e1, e2, e3, e4, e5⟩ : En) w).trans (by rw [decide_eq_true hxe])
        clear hxe
        obtain ⟨x0, x1, x2, x3, x4, x5⟩ := x
        simp only at k1 y0 y1 y2 y3 y4 y5
        go_wp2_with fail
        refine wp_region_flo (fun _ => False) [] [] (by kernel_rfl) (by kernel_rfl) (fun _ h => h.elim) ?_
        refine flo_seg 6 rfl ?_
        simp only [List.take_succ_cons, List.take_zero, List.drop_succ_cons, List.drop_zero]
        repeat (go_big_quiet_step (fail))
        refine wpQuiet_nil ?_
        refine flo_nil ?_
        go_wp2_with fail
        go_ret
        exact ⟨ret_bool HB.out.symm, (HG2.out.trans HR.out.2).trans (Gr.refl _).drew⟩
      · have HNX : Hid (x ≠ (⟨e0, e1, e2, e3, e4, e5⟩ : En)) := Lib.hid hxe
        have k1 := fun w => (eqlE_run x (⟨e0, e1, e2, e3, e4, e5⟩ : En) w).trans (by rw [decide_eq_false hxe])
        clear hxe
        obtain ⟨x0, x1, x2, x3, x4, x5⟩ := x
        simp only at k1 y0 y1 y2 y3 y4 y5
        go_wp2_with fail
        refine wp_region_flo (fun _ => False) [] [] (by kernel_rfl) (by kernel_rfl) (fun _ h => h.elim) ?_
        refine flo_seg 6 rfl ?_
        simp only [List.take_succ_cons, List.take_zero, List.drop_succ_cons, List.drop_zero]
        repeat (go_big_quiet_step (fail))
        refine wpQuiet_nil ?_
        refine flo_nil ?_
        go_wp2_with fail
        go_roundw
        case rel => exact ⟨i + 1, by omega, by go_num, Lib.hid ⟨fun j y hj hy => by
          by_cases hji : j < i
          · exact HR.out.1 j y hji hy
          · obtain rfl : j = i := by omega
            rw [HXI.out] at hy
            exact (Option.some.inj hy) ▸ HNX.out, HR.out.2.trans (Gr.refl _).drew⟩⟩
        case measure => simp [intOf]; omega
    · have hlt' : ¬ (i : Int) < L.length := by omega
      have HB : Hid (B = false) := Lib.hid (by
        rw [HHE.out]
        refine List.any_eq_false.2 (fun x hx => ?_)
        obtain ⟨j, hj⟩ := List.mem_iff_getElem?.1 hx
        have := HR.out.1 j x (by have := (List.getElem?_eq_some_iff.1 hj).1; omega) hj
        simpa using this)
      go_wp2_with fail
      go_ret
      exact ⟨ret_bool HB.out.symm, HG2.out.trans HR.out.2⟩
set_option maxRecDepth 40000 in
set_option maxHeartbeats 2000000 in
theorem rHas24 {w : World} {p : Option Addr} {X : IX} (h : RP w p X) (e : En) : Calls Tryz.prog 151 #[.pointer p, enV e] w fun r w' => r = .returned (.bool (X.hasE e)) ∧ Gr w w' := by
  have HHE : Hid (X.hasE e = (X.of e.key).any (fun o => decide (o = e))) := Lib.hid rfl
  have hle : (X.of e.key).length ≤ 16384 := h.ok.of_le e.key
  have HOF : Hid (∀ W, Gr w W → Calls Tryz.prog 75 #[.pointer p, .string e.key] W (fun r w' => ∃ v, r = .returned v ∧ Nw W w' 56 6 v (X.of e.key).length (rowE (X.of e.key)) ∧ Gr W w')) := Lib.hid (fun W g => rpOf (h.gr g) e.key)
  generalize X.hasE e = B at *
  generalize X.of e.key = L at *
  clear h
  obtain ⟨e0, e1, e2, e3, e4, e5⟩ := e
  simp only [enV] at *
  obtain ⟨w1, hw1⟩ : ∃ y, y = w.alloc (.cells #[.int .i64 e0, .string e1, .bool e2, .int .i64 e3, .int .i64 e4, .int .i64 e5] 56) := ⟨_, rfl⟩
  obtain ⟨b3, hb3⟩ : ∃ q, q = w.heap.size := ⟨_, rfl⟩
  have HG1 : Hid (Gr w w1) := Lib.hid (by rw [hw1]; exact (Gr.refl w).alloc _)
  have HX1 : Hid (w1.heap[b3]? = some (.cells #[.int .i64 e0, .string e1, .bool e2, .int .i64 e3, .int .i64 e4, .int .i64 e5] 56)) := Lib.hid (by rw [hw1, hb3]; exact blkNew _ _)
  go_enter Tryz.func151, Tryz.ntmps151
  go_upto_region 1 with fail
  rw [← hw1, ← hb3]
  clear hw1 hb3
  have d3 := (cellsOf HX1.out).1
  have d31 : w1.cell? ⟨b3, 1, none⟩ = some (.string e1) := d3 1
  clear d3
  go_upto_region 2 with (first
    | (go_at_call 75; refine Calls.mono (HOF.out _ HG1.out) ?_; rintro r w2 ⟨v, rfl, hn, hg⟩; have HN2 := Lib.hid hn; have HG2 := Lib.hid (HG1.out.trans hg); have HX2 := Lib.hid (hg.blk HX1.out); clear hn hg d31; obtain ⟨a5, c5, rfl, hc5, hm5, _⟩ := ownE_at HN2.out.own)
    | fail)
  unfold maxLen at hm5
  go_wp2_with fail
  go_loopw [6] (fun t6 wx => ∃ i : Nat, i ≤ L.length ∧ t6 = .int .i64 i ∧ Hid ((∀ (j : Nat) x, j < i → L[j]? = some x → x ≠ (⟨e0, e1, e2, e3, e4, e5⟩ : En)) ∧ Gr w2 wx)) (fun t6 _ => L.length - (intOf t6).toNat)
  case atStart => exact ⟨0, by omega, by go_num, Lib.hid ⟨fun j x h => by omega, Gr.refl _⟩⟩
  case round =>
    obtain ⟨i, hil, rfl, HR⟩ := hrel
    by_cases hlt : i < L.length
    · have hlt' : (i : Int) < L.length := by omega
      obtain ⟨x, hx⟩ : ∃ x, L[i]? = some x := ⟨_, List.getElem?_eq_getElem hlt⟩
      obtain ⟨g0, rfl, hg0, y0, y1, y2, y3, y4, y5⟩ := ent6 (HN2.out.own.gr HR.out.2) hx
      have HXI := Lib.hid hx
      have z3 := (cellsOf (HR.out.2.blk HX2.out)).1
      have z30 := (z3 0).trans (show _ = some (Value.int .i64 e0) from rfl)
      have z31 := (z3 1).trans (show _ = some (Value.string e1) from rfl)
      have z32 := (z3 2).trans (show _ = some (Value.bool e2) from rfl)
      have z33 := (z3 3).trans (show _ = some (Value.int .i64 e3) from rfl)
      have z34 := (z3 4).trans (show _ = some (Value.int .i64 e4) from rfl)
      have z35 := (z3 5).trans (show _ = some (Value.int .i64 e5) from rfl)
      clear hx z3
      by_cases hxe : x = (⟨e0, e1, e2, e3, e4, e5⟩ : En)
      · have HB : Hid (B = true) := Lib.hid (by rw [HHE.out]; exact List.any_eq_true.2 ⟨x, List.mem_of_getElem? HXI.out, decide_eq_true hxe⟩)
        have k1 := fun w => (eqlE_run x (⟨e0, e1, e2, e3, e4, e5⟩ : En) w).trans (by rw [decide_eq_true hxe])
        clear hxe
        obtain ⟨x0, x1, x2, x3, x4, x5⟩ := x
        simp only at k1 y0 y1 y2 y3 y4 y5
        go_wp2_with fail
        refine wp_region_flo (fun _ => False) [] [] (by kernel_rfl) (by kernel_rfl) (fun _ h => h.elim) ?_
        refine flo_seg 6 rfl ?_
        simp only [List.take_succ_cons, List.take_zero, List.drop_succ_cons, List.drop_zero]
        repeat (go_big_quiet_step (fail))
        refine wpQuiet_nil ?_
        refine flo_nil ?_
        go_wp2_with fail
        go_ret
        exact ⟨ret_bool HB.out.symm, (HG2.out.trans HR.out.2).trans (Gr.refl _).drew⟩
      · have HNX : Hid (x ≠ (⟨e0, e1, e2, e3, e4, e5⟩ : En)) := Lib.hid hxe
        have k1 := fun w => (eqlE_run x (⟨e0, e1, e2, e3, e4, e5⟩ : En) w).trans (by rw [decide_eq_false hxe])
        clear hxe
        obtain ⟨x0, x1, x2, x3, x4, x5⟩ := x
        simp only at k1 y0 y1 y2 y3 y4 y5
        go_wp2_with fail
        refine wp_region_flo (fun _ => False) [] [] (by kernel_rfl) (by kernel_rfl) (fun _ h => h.elim) ?_
        refine flo_seg 6 rfl ?_
        simp only [List.take_succ_cons, List.take_zero, List.drop_succ_cons, List.drop_zero]
        repeat (go_big_quiet_step (fail))
        refine wpQuiet_nil ?_
        refine flo_nil ?_
        go_wp2_with fail
        go_roundw
        case rel => exact ⟨i + 1, by omega, by go_num, Lib.hid ⟨fun j y hj hy => by
          by_cases hji : j < i
          · exact HR.out.1 j y hji hy
          · obtain rfl : j = i := by omega
            rw [HXI.out] at hy
            exact (Option.some.inj hy) ▸ HNX.out, HR.out.2.trans (Gr.refl _).drew⟩⟩
        case measure => simp [intOf]; omega
    · have hlt' : ¬ (i : Int) < L.length := by omega
      have HB : Hid (B = false) := Lib.hid (by
        rw [HHE.out]
        refine List.any_eq_false.2 (fun x hx => ?_)
        obtain ⟨j, hj⟩ := List.mem_iff_getElem?.1 hx
        have := HR.out.1 j x (by have := (List.getElem?_eq_some_iff.1 hj).1; omega) hj
        simpa using this)
      go_wp2_with fail
      go_ret
      exact ⟨ret_bool HB.out.symm, HG2.out.trans HR.out.2⟩
end Go.Proofs.YtmdfickejpeofaaGreat

/- drumlinref24's functions over a reference index. Printed by rl.py. -/
set_option linter.unusedVariables false
set_option linter.unusedSimpArgs false
namespace Go.Proofs.YtmdfickejpeofaaGreat
open Go.RowKit Go.Shelf
attribute [local go_sem] OvM cell_ovm obj_ovm
attribute [local go_sem] Oper.semAt_some

theorem tff24 {l : List En} {p : En → Bool} {i : Nat} {x : En} (h : l[i]? = some x) : (l.take (i + 1)).filter p = (l.take i).filter p ++ if p x then [x] else [] := by
  rw [List.take_add_one, h, List.filter_append]
  congr 1
  simp only [Option.toList_some, List.filter_cons, List.filter_nil]
set_option maxRecDepth 40000 in
set_option maxHeartbeats 8000000 in
theorem rneeded {w : World} {p : Option Addr} {X : IX} (h : RP w p X) (e : En) : Calls Tryz.prog 152 #[.pointer p, enV e] w fun r w' => r = .returned (.bool (X.needs e)) ∧ Gr w w' := by
  have HN := Lib.hid (show X.needs e = if (X.of e.key).any (nd1 e) = true then false else if (X.of e.key).any (nd2 e) = true then false else if e.del = false then true else (X.of e.key).any (nd3 e) from rfl)
  have hle : (X.of e.key).length ≤ 16384 := h.ok.of_le e.key
  have HOF : Hid (∀ W, Gr w W → Calls Tryz.prog 75 #[.pointer p, .string e.key] W (fun r w' => ∃ v, r = .returned v ∧ Nw W w' 56 6 v (X.of e.key).length (rowE (X.of e.key)) ∧ Gr W w')) := Lib.hid (fun W g => rpOf (h.gr g) e.key)
  have HD1 := Lib.hid (fun y : En => show nd1 e y = decide (e.seq < y.seq) from rfl)
  have HD2 := Lib.hid (fun y : En => show nd2 e y = decide (y.seq = e.seq ∧ y.slot ≠ e.slot) from rfl)
  have HD3 := Lib.hid (fun y : En => show nd3 e y = decide (y.seq < e.seq ∧ y.slot ≠ e.slot) from rfl)
  generalize X.needs e = B at *
  generalize X.of e.key = L at *
  generalize nd1 e = N1 at *
  generalize nd2 e = N2 at *
  generalize nd3 e = N3 at *
  clear h
  obtain ⟨e0, e1, e2, e3, e4, e5⟩ := e
  simp only [enV] at *
  obtain ⟨w1, hw1⟩ : ∃ y, y = w.alloc (.cells #[.int .i64 e0, .string e1, .bool e2, .int .i64 e3, .int .i64 e4, .int .i64 e5] 56) := ⟨_, rfl⟩
  obtain ⟨b3, hb3⟩ : ∃ q, q = w.heap.size := ⟨_, rfl⟩
  have HG1 : Hid (Gr w w1) := Lib.hid (by rw [hw1]; exact (Gr.refl w).alloc _)
  have HX1 : Hid (w1.heap[b3]? = some (.cells #[.int .i64 e0, .string e1, .bool e2, .int .i64 e3, .int .i64 e4, .int .i64 e5] 56)) := Lib.hid (by rw [hw1, hb3]; exact blkNew _ _)
  go_enter Tryz.func152, Tryz.ntmps152
  go_upto_region 1 with fail
  rw [← hw1, ← hb3]
  clear hw1 hb3
  have d3 := (cellsOf HX1.out).1
  have d31 : w1.cell? ⟨b3, 1, none⟩ = some (.string e1) := d3 1
  clear d3
  go_upto_region 2 with (first
    | (go_at_call 75; refine Calls.mono (HOF.out _ HG1.out) ?_; rintro r w2 ⟨v, rfl, hn, hg⟩; have HN2 := Lib.hid hn; have HG2 := Lib.hid (HG1.out.trans hg); have HX2 := Lib.hid (hg.blk HX1.out); clear hn hg d31; obtain ⟨a5, c5, rfl, hc5, hm5, _⟩ := ownE_at HN2.out.own)
    | fail)
  unfold maxLen at hm5
  go_wp2_with fail
  go_loopw [6, 7] (fun t6 t7 wx => ∃ (i : Nat) (b : Bool), i ≤ L.length ∧ t6 = .bool b ∧ t7 = .int .i64 i ∧ Hid ((L.take i).any N1 = false ∧ (L.take i).any N2 = false ∧ b = (L.take i).any N3 ∧ Gr w2 wx)) (fun _ t7 _ => L.length - (intOf t7).toNat)
  case atStart => exact ⟨0, false, by omega, rfl, by go_num, Lib.hid ⟨rfl, rfl, rfl, Gr.refl _⟩⟩
  case round =>
    obtain ⟨i, b, hil, rfl, rfl, HR⟩ := hrel
    have z3 := (cellsOf (HR.out.2.2.2.blk HX2.out)).1
    have z30 := (z3 0).trans (show _ = some (Value.int .i64 e0) from rfl)
    have z32 := (z3 2).trans (show _ = some (Value.bool e2) from rfl)
    have z33 := (z3 3).trans (show _ = some (Value.int .i64 e3) from rfl)
    clear z3
    by_cases hlt : i < L.length
    · have hlt' : (i : Int) < L.length := by omega
      obtain ⟨x, hx⟩ : ∃ x, L[i]? = some x := ⟨_, List.getElem?_eq_getElem hlt⟩
      obtain ⟨g0, rfl, hg0, y0, y1, y2, y3, y4, y5⟩ := ent6 (HN2.out.own.gr HR.out.2.2.2) hx
      have hxm := List.mem_of_getElem? hx
      have HT1 := Lib.hid (rany_snoc (p := N1) hx)
      have HT2 := Lib.hid (rany_snoc (p := N2) hx)
      have HT3 := Lib.hid (rany_snoc (p := N3) hx)
      have HF1 : Hid (N1 x = true ∨ N2 x = true → B = false) := Lib.hid (fun h => by
        rw [HN.out]
        rcases h with h | h
        · rw [if_pos (List.any_eq_true.2 ⟨x, hxm, h⟩)]
        · split
          · rfl
          · rw [if_pos (List.any_eq_true.2 ⟨x, hxm, h⟩)])
      have HX1' := Lib.hid (HD1.out x)
      have HX2' := Lib.hid (HD2.out x)
      have HX3' := Lib.hid (HD3.out x)
      clear hx hxm
      obtain ⟨x0, x1, x2, x3, x4, x5⟩ := x
      simp only at y0 y1 y2 y3 y4 y5 HX1' HX2' HX3'
      generalize N1 ⟨x0, x1, x2, x3, x4, x5⟩ = v1 at *
      generalize N2 ⟨x0, x1, x2, x3, x4, x5⟩ = v2 at *
      generalize N3 ⟨x0, x1, x2, x3, x4, x5⟩ = v3 at *
      by_cases h1 : e0 < x0
      · have d1 : decide (e0 < x0) = true := decide_eq_true h1
        have HB : Hid (B = false) := Lib.hid (HF1.out (.inl (by rw [HX1'.out]; exact decide_eq_true h1)))
        clear h1
        go_wp2_with fail
        refine wp_region_flo (fun _ => False) [] [] (by kernel_rfl) (by kernel_rfl) (fun _ h => h.elim) ?_
        refine flo_seg 28 rfl ?_
        simp only [List.take_succ_cons, List.take_zero, List.drop_succ_cons, List.drop_zero]
        repeat (go_big_quiet_step (fail))
        refine wpQuiet_nil ?_
        refine flo_nil ?_
        go_wp2_with fail
        go_ret
        exact ⟨ret_bool HB.out.symm, (HG2.out.trans HR.out.2.2.2).trans (Gr.refl _).drew⟩
      · have d1 : decide (e0 < x0) = false := decide_eq_false h1
        by_cases h2 : x0 = e0
        · have b2 : (x0 == e0) = true := beq_iff_eq.2 h2
          by_cases h3 : x3 = e3
          · have b3' : (x3 != e3) = false := by simp [h3]
            have HV : Hid (v1 = false ∧ v2 = false ∧ v3 = false) := Lib.hid ⟨by rw [HX1'.out]; exact decide_eq_false h1, by rw [HX2'.out]; exact decide_eq_false (fun h => h.2 h3), by rw [HX3'.out]; exact decide_eq_false (fun h => h.2 h3)⟩
            have h4 : ¬ x0 < e0 := by omega
            have d4 : decide (x0 < e0) = false := decide_eq_false h4
            clear h2 h3 h1 h4
            cases b with
            | false =>
              go_wp2_with fail
              refine wp_region_flo (fun _ => False) [] [] (by kernel_rfl) (by kernel_rfl) (fun _ h => h.elim) ?_
              refine flo_seg 28 rfl ?_
              simp only [List.take_succ_cons, List.take_zero, List.drop_succ_cons, List.drop_zero]
              repeat (go_big_quiet_step (fail))
              refine wpQuiet_nil ?_
              refine flo_nil ?_
              go_wp2_with fail
              refine wp_region_flo (fun _ => False) [] [] (by kernel_rfl) (by kernel_rfl) (fun _ h => h.elim) ?_
              refine flo_seg 22 rfl ?_
              simp only [List.take_succ_cons, List.take_zero, List.drop_succ_cons, List.drop_zero]
              repeat (go_big_quiet_step (fail))
              refine wpQuiet_nil ?_
              refine flo_nil ?_
              go_wp2_with fail
              go_roundw
              case rel => exact ⟨i + 1, false, by omega, rfl, by go_num, Lib.hid ⟨by rw [HT1.out, HR.out.1, HV.out.1]; rfl, by rw [HT2.out, HR.out.2.1, HV.out.2.1]; rfl, by rw [HT3.out, ← HR.out.2.2.1, HV.out.2.2]; rfl, HR.out.2.2.2.trans ((Gr.refl _).drew).drew⟩⟩
              case measure => simp [intOf]; omega
            | true =>
              go_wp2_with fail
              refine wp_region_flo (fun _ => False) [] [] (by kernel_rfl) (by kernel_rfl) (fun _ h => h.elim) ?_
              refine flo_seg 28 rfl ?_
              simp only [List.take_succ_cons, List.take_zero, List.drop_succ_cons, List.drop_zero]
              repeat (go_big_quiet_step (fail))
              refine wpQuiet_nil ?_
              refine flo_nil ?_
              go_wp2_with fail
              refine wp_region_flo (fun _ => False) [] [] (by kernel_rfl) (by kernel_rfl) (fun _ h => h.elim) ?_
              refine flo_seg 22 rfl ?_
              simp only [List.take_succ_cons, List.take_zero, List.drop_succ_cons, List.drop_zero]
              repeat (go_big_quiet_step (fail))
              refine wpQuiet_nil ?_
              refine flo_nil ?_
              go_wp2_with fail
              go_roundw
              case rel => exact ⟨i + 1, true, by omega, rfl, by go_num, Lib.hid ⟨by rw [HT1.out, HR.out.1, HV.out.1]; rfl, by rw [HT2.out, HR.out.2.1, HV.out.2.1]; rfl, by rw [HT3.out, ← HR.out.2.2.1, HV.out.2.2]; rfl, HR.out.2.2.2.trans ((Gr.refl _).drew).drew⟩⟩
              case measure => simp [intOf]; omega
          · have b3' : (x3 != e3) = true := by simp [h3]
            have HB : Hid (B = false) := Lib.hid (HF1.out (.inr (by rw [HX2'.out]; exact decide_eq_true ⟨h2, h3⟩)))
            clear h2 h3 h1
            go_wp2_with fail
            refine wp_region_flo (fun _ => False) [] [] (by kernel_rfl) (by kernel_rfl) (fun _ h => h.elim) ?_
            refine flo_seg 28 rfl ?_
            simp only [List.take_succ_cons, List.take_zero, List.drop_succ_cons, List.drop_zero]
            repeat (go_big_quiet_step (fail))
            refine wpQuiet_nil ?_
            refine flo_nil ?_
            go_wp2_with fail
            go_ret
            exact ⟨ret_bool HB.out.symm, (HG2.out.trans HR.out.2.2.2).trans (Gr.refl _).drew⟩
        · have b2 : (x0 == e0) = false := beq_false_of_ne h2
          have h4 : x0 < e0 := by omega
          have d4 : decide (x0 < e0) = true := decide_eq_true h4
          by_cases h3 : x3 = e3
          · have b3' : (x3 != e3) = false := by simp [h3]
            have HV : Hid (v1 = false ∧ v2 = false ∧ v3 = false) := Lib.hid ⟨by rw [HX1'.out]; exact decide_eq_false h1, by rw [HX2'.out]; exact decide_eq_false (fun h => h.2 h3), by rw [HX3'.out]; exact decide_eq_false (fun h => h.2 h3)⟩
            clear h2 h3 h1 h4
            cases b with
            | false =>
              go_wp2_with fail
              refine wp_region_flo (fun _ => False) [] [] (by kernel_rfl) (by kernel_rfl) (fun _ h => h.elim) ?_
              refine flo_seg 28 rfl ?_
              simp only [List.take_succ_cons, List.take_zero, List.drop_succ_cons, List.drop_zero]
              repeat (go_big_quiet_step (fail))
              refine wpQuiet_nil ?_
              refine flo_nil ?_
              go_wp2_with fail
              refine wp_region_flo (fun _ => False) [] [] (by kernel_rfl) (by kernel_rfl) (fun _ h => h.elim) ?_
              refine flo_seg 22 rfl ?_
              simp only [List.take_succ_cons, List.take_zero, List.drop_succ_cons, List.drop_zero]
              repeat (go_big_quiet_step (fail))
              refine wpQuiet_nil ?_
              refine flo_nil ?_
              go_wp2_with fail
              go_roundw
              case rel => exact ⟨i + 1, false, by omega, rfl, by go_num, Lib.hid ⟨by rw [HT1.out, HR.out.1, HV.out.1]; rfl, by rw [HT2.out, HR.out.2.1, HV.out.2.1]; rfl, by rw [HT3.out, ← HR.out.2.2.1, HV.out.2.2]; rfl, HR.out.2.2.2.trans ((Gr.refl _).drew).drew⟩⟩
              case measure => simp [intOf]; omega
            | true =>
              go_wp2_with fail
              refine wp_region_flo (fun _ => False) [] [] (by kernel_rfl) (by kernel_rfl) (fun _ h => h.elim) ?_
              refine flo_seg 28 rfl ?_
              simp only [List.take_succ_cons, List.take_zero, List.drop_succ_cons, List.drop_zero]
              repeat (go_big_quiet_step (fail))
              refine wpQuiet_nil ?_
              refine flo_nil ?_
              go_wp2_with fail
              refine wp_region_flo (fun _ => False) [] [] (by kernel_rfl) (by kernel_rfl) (fun _ h => h.elim) ?_
              refine flo_seg 22 rfl ?_
              simp only [List.take_succ_cons, List.take_zero, List.drop_succ_cons, List.drop_zero]
              repeat (go_big_quiet_step (fail))
              refine wpQuiet_nil ?_
              refine flo_nil ?_
              go_wp2_with fail
              go_roundw
              case rel => exact ⟨i + 1, true, by omega, rfl, by go_num, Lib.hid ⟨by rw [HT1.out, HR.out.1, HV.out.1]; rfl, by rw [HT2.out, HR.out.2.1, HV.out.2.1]; rfl, by rw [HT3.out, ← HR.out.2.2.1, HV.out.2.2]; rfl, HR.out.2.2.2.trans ((Gr.refl _).drew).drew⟩⟩
              case measure => simp [intOf]; omega
          · have b3' : (x3 != e3) = true := by simp [h3]
            have HV : Hid (v1 = false ∧ v2 = false ∧ v3 = true) := Lib.hid ⟨by rw [HX1'.out]; exact decide_eq_false h1, by rw [HX2'.out]; exact decide_eq_false (fun h => h2 h.1), by rw [HX3'.out]; exact decide_eq_true ⟨h4, h3⟩⟩
            clear h2 h3 h1 h4
            cases b with
            | false =>
              go_wp2_with fail
              refine wp_region_flo (fun _ => False) [] [] (by kernel_rfl) (by kernel_rfl) (fun _ h => h.elim) ?_
              refine flo_seg 28 rfl ?_
              simp only [List.take_succ_cons, List.take_zero, List.drop_succ_cons, List.drop_zero]
              repeat (go_big_quiet_step (fail))
              refine wpQuiet_nil ?_
              refine flo_nil ?_
              go_wp2_with fail
              refine wp_region_flo (fun _ => False) [] [] (by kernel_rfl) (by kernel_rfl) (fun _ h => h.elim) ?_
              refine flo_seg 22 rfl ?_
              simp only [List.take_succ_cons, List.take_zero, List.drop_succ_cons, List.drop_zero]
              repeat (go_big_quiet_step (fail))
              refine wpQuiet_nil ?_
              refine flo_nil ?_
              go_wp2_with fail
              go_roundw
              case rel => exact ⟨i + 1, true, by omega, rfl, by go_num, Lib.hid ⟨by rw [HT1.out, HR.out.1, HV.out.1]; rfl, by rw [HT2.out, HR.out.2.1, HV.out.2.1]; rfl, by rw [HT3.out, ← HR.out.2.2.1, HV.out.2.2]; rfl, HR.out.2.2.2.trans ((Gr.refl _).drew).drew⟩⟩
              case measure => simp [intOf]; omega
            | true =>
              go_wp2_with fail
              refine wp_region_flo (fun _ => False) [] [] (by kernel_rfl) (by kernel_rfl) (fun _ h => h.elim) ?_
              refine flo_seg 28 rfl ?_
              simp only [List.take_succ_cons, List.take_zero, List.drop_succ_cons, List.drop_zero]
              repeat (go_big_quiet_step (fail))
              refine wpQuiet_nil ?_
              refine flo_nil ?_
              go_wp2_with fail
              refine wp_region_flo (fun _ => False) [] [] (by kernel_rfl) (by kernel_rfl) (fun _ h => h.elim) ?_
              refine flo_seg 22 rfl ?_
              simp only [List.take_succ_cons, List.take_zero, List.drop_succ_cons, List.drop_zero]
              repeat (go_big_quiet_step (fail))
              refine wpQuiet_nil ?_
              refine flo_nil ?_
              go_wp2_with fail
              go_roundw
              case rel => exact ⟨i + 1, true, by omega, rfl, by go_num, Lib.hid ⟨by rw [HT1.out, HR.out.1, HV.out.1]; rfl, by rw [HT2.out, HR.out.2.1, HV.out.2.1]; rfl, by rw [HT3.out, ← HR.out.2.2.1, HV.out.2.2]; rfl, HR.out.2.2.2.trans ((Gr.refl _).drew).drew⟩⟩
              case measure => simp [intOf]; omega
    · have hlt' : ¬ (i : Int) < L.length := by omega
      have HT : Hid (L.any N1 = false ∧ L.any N2 = false ∧ b = L.any N3) := Lib.hid (by
        have h1 := HR.out.1
        have h2 := HR.out.2.1
        have h3 := HR.out.2.2.1
        rw [List.take_of_length_le (by omega)] at h1 h2 h3
        exact ⟨h1, h2, h3⟩)
      have HG := Lib.hid (HG2.out.trans HR.out.2.2.2)
      have HBE : Hid (B = (!e2 || b)) := Lib.hid (by
        rw [HN.out, HT.out.1, HT.out.2.1, HT.out.2.2]
        cases e2 <;> rfl)
      cases e2 with
      | false =>
        go_wp2_with fail
        go_ret
        exact ⟨ret_bool (by rw [HBE.out]; rfl), HG.out⟩
      | true =>
        go_wp2_with fail
        go_ret
        exact ⟨ret_bool (by rw [HBE.out]; rfl), HG.out⟩
set_option maxRecDepth 40000 in
set_option maxHeartbeats 2000000 in
theorem rNeeded {w : World} {p : Option Addr} {X : IX} (h : RP w p X) (e : En) : Calls Tryz.prog 111 #[.pointer p, enV e] w fun r w' => r = .returned (neededV X e) ∧ Gr w w' := by
  have HV : Hid (neededV X e = if X.slots = [] then .tuple #[.bool false, .int .i64 1] else if X.hasE e = false then .tuple #[.bool false, .int .i64 5] else .tuple #[.bool (X.needs e), .int .i64 0]) := Lib.hid rfl
  have HCP := Lib.hid (fun W (g : Gr w W) => rpCopy (h.gr g))
  have HHA := Lib.hid (fun W (g : Gr w W) => rHas24 (h.gr g) e)
  have HNE := Lib.hid (fun W (g : Gr w W) => rneeded (h.gr g) e)
  clear h
  obtain ⟨V, hV⟩ : ∃ V, V = neededV X e := ⟨_, rfl⟩
  rw [← hV] at HV ⊢
  clear hV
  generalize X.hasE e = B at *
  generalize X.needs e = C at *
  obtain ⟨e0, e1, e2, e3, e4, e5⟩ := e
  simp only [enV] at *
  obtain ⟨w1, hw1⟩ : ∃ y, y = w.alloc (.cells #[.int .i64 e0, .string e1, .bool e2, .int .i64 e3, .int .i64 e4, .int .i64 e5] 56) := ⟨_, rfl⟩
  obtain ⟨b3, hb3⟩ : ∃ q, q = w.heap.size := ⟨_, rfl⟩
  have HG1 : Hid (Gr w w1) := Lib.hid (by rw [hw1]; exact (Gr.refl w).alloc _)
  have HX1 : Hid (∀ W, Gr w1 W → W.heap[b3]? = some (.cells #[.int .i64 e0, .string e1, .bool e2, .int .i64 e3, .int .i64 e4, .int .i64 e5] 56)) := Lib.hid (fun W g => g.blk (by rw [hw1, hb3]; exact blkNew _ _))
  go_enter Tryz.func111, Tryz.ntmps111
  go_upto_region 1 with fail
  rw [← hw1, ← hb3]
  clear hw1 hb3
  go_wp2_with fail
  refine Calls.mono (HCP.out _ HG1.out) ?_
  rintro r w2 ⟨⟨q, rfl, hq⟩, hg⟩
  have HG2 := Lib.hid hg
  have HGW := Lib.hid (HG1.out.trans hg)
  clear hg
  by_cases h0 : X.slots = []
  · have hq0 := hq.2 h0
    have HV1 : Hid (V = .tuple #[.bool false, .int .i64 1]) := Lib.hid (by rw [HV.out, if_pos h0])
    clear h0 hq
    subst hq0
    go_wp2_with fail
    go_ret2
    exact ⟨by rw [HV1.out] <;> rfl, HGW.out⟩
  · obtain ⟨q', rfl⟩ : ∃ q', q = some q' := by
      cases q with
      | none => exact absurd (hq.1 rfl) h0
      | some q' => exact ⟨q', rfl⟩
    have HV1 : Hid (V = if B = false then .tuple #[.bool false, .int .i64 5] else .tuple #[.bool C, .int .i64 0]) := Lib.hid (by rw [HV.out, if_neg h0])
    clear h0 hq HV
    have z3 := (cellsOf (HX1.out _ HG2.out)).1
    have z30 := (z3 0).trans (show _ = some (Value.int .i64 e0) from rfl)
    have z31 := (z3 1).trans (show _ = some (Value.string e1) from rfl)
    have z32 := (z3 2).trans (show _ = some (Value.bool e2) from rfl)
    have z33 := (z3 3).trans (show _ = some (Value.int .i64 e3) from rfl)
    have z34 := (z3 4).trans (show _ = some (Value.int .i64 e4) from rfl)
    have z35 := (z3 5).trans (show _ = some (Value.int .i64 e5) from rfl)
    clear z3
    go_wp2_with fail
    refine Calls.mono (HHA.out _ HGW.out) ?_
    rintro r w3 ⟨rfl, hg⟩
    have HG3 := Lib.hid (HG2.out.trans hg)
    have HGX := Lib.hid (HGW.out.trans hg)
    clear hg z30 z31 z32 z33 z34 z35
    cases B with
    | false =>
      go_wp2_with fail
      go_ret2
      exact ⟨by rw [HV1.out] <;> rfl, HGX.out⟩
    | true =>
      have z3 := (cellsOf (HX1.out _ HG3.out)).1
      have z30 := (z3 0).trans (show _ = some (Value.int .i64 e0) from rfl)
      have z31 := (z3 1).trans (show _ = some (Value.string e1) from rfl)
      have z32 := (z3 2).trans (show _ = some (Value.bool e2) from rfl)
      have z33 := (z3 3).trans (show _ = some (Value.int .i64 e3) from rfl)
      have z34 := (z3 4).trans (show _ = some (Value.int .i64 e4) from rfl)
      have z35 := (z3 5).trans (show _ = some (Value.int .i64 e5) from rfl)
      clear z3
      go_wp2_with fail
      refine Calls.mono (HNE.out _ HGX.out) ?_
      rintro r w4 ⟨rfl, hg⟩
      have HGY := Lib.hid (HGX.out.trans hg)
      clear hg
      go_wp2_with fail
      go_ret2
      exact ⟨by rw [HV1.out] <;> rfl, HGY.out⟩
set_option maxRecDepth 40000 in
set_option maxHeartbeats 8000000 in
theorem rKeep {w : World} {p : Option Addr} {X : IX} (h : RP w p X) (s : Int) : Calls Tryz.prog 120 #[.pointer p, .int .i64 s] w (KeepPost X s w) := by
  obtain ⟨i0, hi, hz0, hz1, hz2⟩ := info_parts infoIten
  have HLE := Lib.hid (h.ok.slot_le s)
  have HHAS := Lib.hid (show X.has s = decide (0 ≤ s ∧ s < X.slots.length) from rfl)
  have HCP := Lib.hid (rpCopy h)
  have HSL := Lib.hid (fun W (g : Gr w W) => rpSlots (h.gr g))
  have HST := Lib.hid (fun W (g : Gr w W) => rpSlot (h.gr g) s)
  have HNE := Lib.hid (fun e W (g : Gr w W) => rneeded (h.gr g) e)
  clear h
  go_enter Tryz.func120, Tryz.ntmps120
  go_wp2_with fail
  refine Calls.mono HCP.out ?_
  rintro r w1 ⟨⟨q, rfl, hq⟩, hg⟩
  have HG1 := Lib.hid hg
  clear hg
  by_cases h0 : X.slots = []
  · have hq0 := hq.2 h0
    have HC : Hid (keepC X s = 1) := Lib.hid (by unfold keepC; rw [if_pos h0])
    have HL : Hid (keepL X s = []) := Lib.hid (keep_out (by rw [HC.out]; decide))
    clear h0 hq
    subst hq0
    go_wp2_with fail
    go_ret2
    exact ⟨.slice none 0 0, by rw [HC.out] <;> rfl, by rw [HL.out]; exact (Nw.nil w _ _).gr HG1.out, HG1.out⟩
  · obtain ⟨q', rfl⟩ : ∃ q', q = some q' := by
      cases q with
      | none => exact absurd (hq.1 rfl) h0
      | some q' => exact ⟨q', rfl⟩
    have HNN := Lib.hid h0
    clear h0 hq
    cases hs : X.has s with
    | false =>
      have HC : Hid (keepC X s = 3) := Lib.hid (by unfold keepC; rw [if_neg HNN.out, if_pos hs])
      have HL : Hid (keepL X s = []) := Lib.hid (keep_out (by rw [HC.out]; decide))
      have hh := HHAS.out
      rw [hs] at hh
      have hh' : ¬ (0 ≤ s ∧ s < X.slots.length) := of_decide_eq_false hh.symm
      clear hs hh
      by_cases hs0 : s < 0
      · go_wp2_with fail
        go_ret2
        exact ⟨.slice none 0 0, by rw [HC.out] <;> rfl, by rw [HL.out]; exact (Nw.nil w _ _).gr HG1.out, HG1.out⟩
      · have hs1 : (X.slots.length : Int) ≤ s := by omega
        clear hh'
        go_wp2_with (go_at_call 59; refine Calls.mono (HSL.out _ HG1.out) ?_; rintro r w2 ⟨rfl, rfl⟩)
        go_ret2
        exact ⟨.slice none 0 0, by rw [HC.out] <;> rfl, by rw [HL.out]; exact (Nw.nil w _ _).gr HG1.out, HG1.out⟩
    | true =>
      have HC : Hid (keepC X s = 0) := Lib.hid (by unfold keepC; rw [if_neg HNN.out, if_neg (by rw [hs]; simp)])
      have hh := HHAS.out
      rw [hs] at hh
      obtain ⟨hs0, hs1⟩ := of_decide_eq_true hh.symm
      have hs0' : ¬ s < 0 := by omega
      have hs1' : ¬ (X.slots.length : Int) ≤ s := by omega
      clear hs hh hs0 hs1
      have HKL : Hid (keepL X s = (X.slot s).filter X.needs) := Lib.hid rfl
      have hle := HLE.out
      go_wp2_with (first
        | (go_at_call 59; refine Calls.mono (HSL.out _ HG1.out) ?_; rintro r w2 ⟨rfl, rfl⟩)
        | (go_at_call 110; refine Calls.mono (HST.out _ HG1.out) ?_; rintro r w2 ⟨v, rfl, hn, hg⟩; have HN2 := Lib.hid hn; have HG2 := Lib.hid (HG1.out.trans hg); clear hn hg)
        | fail)
      obtain ⟨av, cv, rfl, _, _, _⟩ := ownE_at HN2.out.own
      obtain ⟨L, hL⟩ : ∃ L, L = X.slot s := ⟨_, rfl⟩
      obtain ⟨p2, hp2⟩ : ∃ p2, p2 = X.needs := ⟨_, rfl⟩
      have HNP := Lib.hid (fun e : En => congrFun hp2 e)
      have HLL := Lib.hid hL
      have HPP := Lib.hid hp2
      rw [← hL] at HN2 hle
      rw [← hL]
      clear hL hp2 HLE HST HHAS
      go_loopw [6, 8] (fun t6 t8 wx => ∃ (i : Nat) (a6 : Option Addr) (c6 : Nat), i ≤ L.length ∧ t6 = .slice a6 ((L.take i).filter p2).length c6 ∧ t8 = .int .i64 i ∧ Hid (Nw w wx 56 6 (.slice a6 ((L.take i).filter p2).length c6) ((L.take i).filter p2).length (rowE ((L.take i).filter p2)) ∧ Own wx 56 6 (.slice av L.length cv) L.length (rowE L) ∧ Gr w wx ∧ (∀ q, (Value.slice a6 ((L.take i).filter p2).length c6).ownBlock = some q → (Value.slice av L.length cv).ownBlock ≠ some q))) (fun _ t8 _ => L.length - (intOf t8).toNat)
      case atStart => exact ⟨0, none, 0, by omega, rfl, by go_num, Lib.hid ⟨(Nw.nil w _ _).gr HG2.out, HN2.out.own, HG2.out, fun q h => by cases h⟩⟩
      case round =>
        obtain ⟨i, a6, c6, hil, rfl, rfl, HR⟩ := hrel
        have HGR := Lib.hid HR.out.2.2.1
        by_cases hlt : i < L.length
        · have hlt' : (i : Int) < L.length := by omega
          obtain ⟨x, hx⟩ : ∃ x, L[i]? = some x := ⟨_, List.getElem?_eq_getElem hlt⟩
          have HTF := Lib.hid (tff24 (p := p2) hx)
          have hfl : ((L.take i).filter p2).length ≤ 512 := by
            have h1 := List.length_filter_le p2 (L.take i)
            rw [List.length_take] at h1
            omega
          have HX := Lib.hid hx
          have HQ := Lib.hid (HNP.out x)
          have HNX := Lib.hid (HNE.out x)
          have HCE := Lib.hid (show ∀ W, Own W 56 6 (.slice av L.length cv) L.length (rowE L) → ∃ g, av = some ⟨g, 0, none⟩ ∧ g < W.heap.size ∧ W.cell? ⟨g, i * 6, none⟩ = some (.int .i64 x.seq) ∧ W.cell? ⟨g, i * 6 + 1, none⟩ = some (.string x.key) ∧ W.cell? ⟨g, i * 6 + 2, none⟩ = some (.bool x.del) ∧ W.cell? ⟨g, i * 6 + 3, none⟩ = some (.int .i64 x.slot) ∧ W.cell? ⟨g, i * 6 + 4, none⟩ = some (.int .i64 x.off) ∧ W.cell? ⟨g, i * 6 + 5, none⟩ = some (.int .i64 x.size) from fun W g => ent6 g HX.out)
          generalize (L.take i).filter p2 = fl at *
          clear hx
          obtain ⟨g0, rfl, hg0, y0, y1, y2, y3, y4, y5⟩ := HCE.out _ HR.out.2.1
          obtain ⟨x0, x1, x2, x3, x4, x5⟩ := x
          simp only [enV] at HNX
          simp only at y0 y1 y2 y3 y4 y5
          go_wp2_with fail
          refine Calls.mono (HNX.out _ HGR.out) ?_
          rintro r w4 ⟨rfl, hg⟩
          rw [← HQ.out]
          have HL4 := Lib.hid (HR.out.2.1.gr hg)
          have HGW := Lib.hid (HGR.out.trans hg)
          have HN4 := Lib.hid (HR.out.1.gr hg)
          clear hg y0 y1 y2 y3 y4 y5
          cases hq : p2 ⟨x0, x1, x2, x3, x4, x5⟩ with
          | false =>
            have HQF := Lib.hid hq
            clear hq
            go_wp2_with fail
            go_roundw
            case rel => exact ⟨i + 1, a6, c6, by omega, by rw [HTF.out, HQF.out, if_neg (by decide), List.append_nil], by go_num, Lib.hid ⟨by rw [HTF.out, HQF.out, if_neg (by decide), List.append_nil]; exact HN4.out, HL4.out, HGW.out, by rw [HTF.out, HQF.out, if_neg (by decide), List.append_nil]; exact HR.out.2.2.2⟩⟩
            case measure => simp [intOf]; omega
          | true =>
            have HQF := Lib.hid hq
            clear hq
            obtain ⟨g1, hge, hg1, y0, y1, y2, y3, y4, y5⟩ := HCE.out _ HL4.out
            injection hge with hge
            injection hge with hge
            subst hge
            (try simp only at y0 y1 y2 y3 y4 y5)
            go_wp2_with (first
              | (at_builtin; go_must (refine wpList_appv _ rfl (.tmp 35) (.tmp 40) 37 rfl 56 i0 _ 6 56 Tryz.underlying37 hi hz0 hz1 hz2 rfl (by decide) (.slice a6 fl.length c6) fl.length (rowE fl) rfl (HN4.out.own.gr (by (repeat (first | (with_reducible exact Gr.refl _) | assumption | (with_reducible apply Gr.from_drew) | (with_reducible apply Gr.alloc) | (with_reducible apply Gr.drew) | (with_reducible refine Gr.trans ?_ (by assumption)) | (with_reducible refine Gr.setCell ?_ (by omega) _))))) (some ⟨w4.heap.size, 0, none⟩) 1 1 (enC ⟨x0, x1, x2, x3, x4, x5⟩) rfl (src_newK w4 (enC ⟨x0, x1, x2, x3, x4, x5⟩) _ 6 rfl (enC_one _)) (by simp only [maxLen]; omega) (by omega) ?_); intro v3 w6 hA; have N6 := Lib.hid (hA.nw (HN4.out.gr ((Gr.refl w4).alloc _)) (by have := HGW.out.sz; simp; omega)); have HG6 := Lib.hid (hA.gw (HN4.out.gr ((Gr.refl w4).alloc _)) (HGW.out.alloc _)); have HL6 := Lib.hid ((HL4.out.gr ((Gr.refl w4).alloc _)).mdh (hA.mdh (S := fun q => (Value.slice a6 fl.length c6).ownBlock = some q) (fun g h => h)) (fun q hq hs => HR.out.2.2.2 q hs hq)); have HD6 := Lib.hid (fun q (hq : v3.ownBlock = some q) => (hA.2.1 q hq).elim (fun h => HR.out.2.2.2 q h) (fun h hs => by have := HL4.out.lt hs; simp at h; omega)); obtain ⟨a7, c7, rfl⟩ := hA.val; clear hA)
              | fail)
            go_roundw
            case rel => exact ⟨i + 1, a7, c7, by omega, by rw [HTF.out, HQF.out, if_pos rfl, List.length_append]; rfl, by go_num, Lib.hid ⟨by rw [HTF.out, HQF.out, if_pos rfl, List.length_append, rowE_snoc]; exact N6.out, HL6.out, HG6.out, by rw [HTF.out, HQF.out, if_pos rfl, List.length_append]; exact HD6.out⟩⟩
            case measure => simp [intOf]; omega
        · have hlt' : ¬ (i : Int) < L.length := by omega
          have HNZ : Hid (L.take i = L) := Lib.hid (List.take_of_length_le (by omega))
          have HNF := Lib.hid HR.out.1
          rw [HNZ.out] at HNF ⊢
          go_wp2_with fail
          go_ret2
          exact ⟨.slice a6 (L.filter p2).length c6, by rw [HC.out] <;> rfl, by rw [HKL.out, ← HPP.out, ← HLL.out]; exact HNF.out, HGR.out⟩
set_option maxRecDepth 40000 in
set_option maxHeartbeats 4000000 in
theorem rSize {w : World} {p : Option Addr} {X : IX} (h : RP w p X) (s : Int) : Calls Tryz.prog 62 #[.pointer p, .int .i64 s] w fun e w' => e = .returned (.tuple #[.int .i64 (sumZ (keepL X s)), .int .i64 (keepC X s)]) ∧ Gr w w' := by
  obtain ⟨hk1, hk2⟩ := keepL_ok h.ok s
  have HK := Lib.hid (rKeep h s)
  obtain ⟨L, hL⟩ : ∃ L, L = keepL X s := ⟨_, rfl⟩
  have HL := Lib.hid hL
  obtain ⟨c, hc⟩ : ∃ c, c = keepC X s := ⟨_, rfl⟩
  have HC := Lib.hid hc
  rw [← hc]
  rw [← hL]
  rw [← hL] at hk1 hk2
  have HK2 := Lib.hid hk2
  clear h hk2 hL hc
  go_enter Tryz.func62, Tryz.ntmps62
  go_wp2_with fail
  refine Calls.mono HK.out ?_
  rintro e w1 ⟨v, rfl, hr, hg⟩
  rw [← HL.out] at hr
  rw [← HC.out]
  obtain ⟨a, cap, rfl, _, hcm, hat⟩ := ownE_at hr.own
  have HAT := Lib.hid hat
  have HG := Lib.hid hg
  unfold maxLen at hcm
  clear hr hat hg
  go_wp2_with fail
  go_loopw [8, 9] (fun t8 t9 wx => ∃ k : Nat, k ≤ L.length ∧ t9 = .int .i64 k ∧ t8 = .int .i64 (sumZ (L.take k)) ∧ Hid (Gr w1 wx)) (fun _ t9 _ => L.length - (intOf t9).toNat)
  case atStart => exact ⟨0, by omega, rfl, rfl, Lib.hid (Gr.refl _)⟩
  case round =>
    obtain ⟨k, hk, rfl, rfl, HR⟩ := hrel
    by_cases hlt : k < L.length
    · have hlt' : (k : Int) < L.length := by omega
      have hx : L[k]? = some (L[k]'hlt) := List.getElem?_eq_getElem hlt
      obtain ⟨g, rfl, z1, z2, hc⟩ := HAT.out k _ hx
      clear z1 z2
      have hv := HK2.out _ (List.mem_of_getElem? hx)
      have hs := sumZ_le (L.take k) (take_sub HK2.out)
      rw [List.length_take] at hs
      have HSN : Hid (sumZ (L.take (k + 1)) = sumZ (L.take k) + (L[k]'hlt).size) := Lib.hid (by rw [List.take_add_one, hx]; exact sumZ_snoc _ _)
      generalize L[k]'hlt = x at *
      generalize sumZ (L.take k) = m at *
      have hr : ∀ i u, (enC x)[i]? = some u → wr.cell? ⟨g, k * 6 + i, none⟩ = some u := fun i u hu => HR.out.keep (hc i u hu)
      have d5 := hr 5 _ rfl
      obtain ⟨hv1, hv2⟩ := hv
      obtain ⟨hs1, hs2⟩ := hs
      have hs3 : m ≤ 8192 * 512 := by omega
      clear hr hc hx hs2
      go_wp2
      go_roundw
      case rel => exact ⟨k + 1, by omega, by go_num, by rw [HSN.out] <;> go_num, HR⟩
      case measure => simp [intOf]; omega
    · have hlt' : ¬ (k : Int) < L.length := by omega
      have hkl : k = L.length := by omega
      have HS : Hid (sumZ (L.take k) = sumZ L) := Lib.hid (by rw [List.take_of_length_le (by omega)])
      clear hkl
      go_wp2
      go_ret2
      exact ⟨by rw [HS.out] <;> rfl, HG.out.trans HR.out⟩
end Go.Proofs.YtmdfickejpeofaaGreat
