/- keydir: sum, Count, Cost. -/
import Derived.Test.YtmdfickejpeofaaGreatBd12
set_option linter.unusedVariables false
set_option linter.unusedSimpArgs false
namespace Go.Proofs.YtmdfickejpeofaaGreat
open Go.RowKit Go.Shelf
attribute [local go_sem] OvM cell_ovm obj_ovm
attribute [local go_sem] Oper.semAt_some

structure NumC (g : Nat) (f : En → Int) : Prop where
  enter : ∀ args w, (callFunc g args).run Tryz.prog w = .ok (.enter g args) w
  run : ∀ x w, Calls Tryz.prog g #[enV x] w fun e w' => e = .returned (.int .i64 (f x)) ∧ Gr w w'
  b : ∀ x, validE x = true → 0 ≤ f x ∧ f x ≤ 8192
set_option maxRecDepth 40000 in
theorem numCount : NumC 80 (fun _ => 1) := ⟨enters_of Tryz.func80 (by kernel_rfl) rfl, fun x w => by
  obtain ⟨x1, x2, x3, x4, x5, x6⟩ := x
  simp only [enV]
  go_enter Tryz.func80, Tryz.ntmps80
  go_wp2
  go_ret
  exact ⟨rfl, by (repeat (first | (with_reducible exact Gr.refl _) | assumption | (with_reducible apply Gr.from_drew) | (with_reducible apply Gr.alloc) | (with_reducible apply Gr.drew) | (with_reducible refine Gr.trans ?_ (by assumption)) | (with_reducible refine Gr.setCell ?_ (by omega) _)))⟩, fun _ _ => ⟨by omega, by omega⟩⟩
set_option maxRecDepth 40000 in
theorem numCost : NumC 81 (fun e => e.size) := ⟨enters_of Tryz.func81 (by kernel_rfl) rfl, fun x w => by
  obtain ⟨x1, x2, x3, x4, x5, x6⟩ := x
  simp only [enV]
  go_enter Tryz.func81, Tryz.ntmps81
  go_wp2
  go_ret
  exact ⟨rfl, by (repeat (first | (with_reducible exact Gr.refl _) | assumption | (with_reducible apply Gr.from_drew) | (with_reducible apply Gr.alloc) | (with_reducible apply Gr.drew) | (with_reducible refine Gr.trans ?_ (by assumption)) | (with_reducible refine Gr.setCell ?_ (by omega) _)))⟩, fun x hv => by have := (valid_iff x).1 hv; exact ⟨by omega, by omega⟩⟩
def sumF (f : En → Int) (l : List (ByteArray × En)) : Int := l.foldl (fun a x => a + f x.2) 0
theorem sumF_snoc (f : En → Int) (l : List (ByteArray × En)) (x : ByteArray × En) : sumF f (l ++ [x]) = sumF f l + f x.2 := by simp [sumF]
theorem sumF_ok' (f : En → Int) : ∀ (l : List (ByteArray × En)) (a : Int), (∀ x ∈ l, 0 ≤ f x.2 ∧ f x.2 ≤ 8192) → a ≤ l.foldl (fun a x => a + f x.2) a ∧ l.foldl (fun a x => a + f x.2) a ≤ a + 8192 * l.length
  | [], a, _ => by simp
  | x :: l, a, h => by
    have h1 := h x (by simp)
    have h2 := sumF_ok' f l (a + f x.2) (fun y hy => h y (List.mem_cons_of_mem _ hy))
    simp only [List.foldl_cons, List.length_cons, Int.natCast_add]
    omega
theorem sumF_ok (f : En → Int) (l : List (ByteArray × En)) (h : ∀ x ∈ l, 0 ≤ f x.2 ∧ f x.2 ≤ 8192) : 0 ≤ sumF f l ∧ sumF f l ≤ 8192 * l.length := by
  have := sumF_ok' f l 0 h
  unfold sumF
  omega
theorem findE_mem {X : IX} {k : ByteArray} {e : En} (h : findE X k = some e) : e ∈ X.of k := by
  unfold findE at h
  split at h
  · cases h
  · rename_i y t hy
    split at h
    · cases h
    · cases h; rw [hy]; simp
theorem live_valid {X : IX} (h : X.Wf) : ∀ x ∈ liveL X, validE x.2 = true := by
  intro x hx
  unfold liveL lvF at hx
  obtain ⟨k, _, hk⟩ := List.mem_filterMap.1 hx
  cases hf : findE X k with
  | none => rw [hf] at hk; cases hk
  | some e =>
    rw [hf] at hk
    simp only [Option.map_some, Option.some.injEq] at hk
    subst hk
    exact (h.valid ((h.of_mem k e).1 (findE_mem hf)).1).1
theorem live_len {X : IX} (h : X.Wf) : (liveL X).length ≤ 16384 := by
  refine Nat.le_trans (List.length_filterMap_le _ _) ?_
  have := h.keys_le
  unfold IX.ks
  simpa using this
def sumR (X : IX) (f : En → Int) : Value := if X.slots = [] then .tuple #[.int .i64 0, .int .i64 1] else .tuple #[.int .i64 (sumF f (liveL X)), .int .i64 0]
set_option maxRecDepth 40000 in
set_option maxHeartbeats 4000000 in
theorem Sum_any {w : World} {p : Option Addr} {X : IX} {S : Nat → Prop} (h : IXP w p X S) {g : Nat} {f : En → Int} (hp : NumC g f) :
    Calls Tryz.prog 79 #[.pointer p, .func (.func g) #[] #[]] w fun e w' => e = .returned (sumR X f) ∧ Gr w w' := by
  have H := Lib.hid h
  have HP := Lib.hid hp
  have heg := hp.enter
  have HLV := Lib.hid (live_valid h.ok)
  have HLL := Lib.hid (live_len h.ok)
  clear h hp
  refine calls_of_wp_marks Tryz.func79 rfl ?_
  simp only [Tryz.ntmps79, List.size_toArray, List.length_cons, List.length_nil, Nat.reduceAdd, Nat.reduceSub, Array.replicate_succ, Array.replicate_zero, List.push_toArray, List.append_toArray, List.nil_append, List.cons_append]
  go_wp2_with fail
  refine (valid_any (H.out.gr ((Gr.refl w).alloc _))).mono ?_
  rintro e w0 ⟨rfl, rfl⟩
  by_cases h0 : X.slots = []
  · have HS : Hid (sumR X f = .tuple #[.int .i64 0, .int .i64 1]) := Lib.hid (if_pos h0)
    rw [decide_eq_false (fun h => h h0)]
    clear h0
    go_wp2_with fail
    refine retM0 (v := .tuple #[.int .i64 0, .int .i64 1]) ?_ rfl ⟨by rw [HS.out], (Gr.refl w).alloc _⟩
    simp [results, Tryz.results79, go_sem]
  have HS : Hid (sumR X f = .tuple #[.int .i64 (sumF f (liveL X)), .int .i64 0]) := Lib.hid (if_neg h0)
  rw [decide_eq_true h0]
  clear h0
  go_wp2_with fail
  obtain ⟨b3, hb3⟩ : ∃ q, q = w.heap.size := ⟨_, rfl⟩
  obtain ⟨w0, hw0⟩ : ∃ y, y = (w.alloc (.cells #[.func (.func g) #[] #[]] 132)).alloc (.cells #[.int .i64 0] 3) := ⟨_, rfl⟩
  have HSW : Hid (SW w [blkA (b3 + 1) (.cells #[.int .i64 0] 3), blkA b3 (.cells #[.func (.func g) #[] #[]] 132)] w0) := Lib.hid (by
    have := ((SW.start w).alloc (.cells #[.func (.func g) #[] #[]] 132)).alloc (.cells #[.int .i64 0] 3)
    simp only [World.size_alloc] at this
    rw [hw0, hb3]
    exact this)
  rw [← hw0, ← hb3]
  clear hw0 hb3
  refine (Live_any p _).mono ?_
  rintro e' w1 ⟨bb, rfl, h1, h2, hg⟩
  have HS1 := Lib.hid (HSW.out.gr hg)
  have HI := Lib.hid (H.out.gr HS1.out.g)
  have HSEQ := Lib.hid (SeqLive HI.out bb h1)
  have HA : Hid (∀ q, (q = bb ∨ S q) → q < w1.heap.size) := Lib.hid (fun q hq => by
    have l1 := World.block_lt_of_cell? w1 ⟨bb, 0, none⟩ h1
    rcases hq with rfl | hq
    · exact l1
    · exact HI.out.lt q hq)
  have HZ : Hid (SWz w w1 (fun q => q = bb ∨ S q) [blkA (b3 + 1) (.cells #[.int .i64 0] 3), blkA b3 (.cells #[.func (.func g) #[] #[]] 132)] (fun _ => False) w1) := Lib.hid (SWz.start HS1.out (fun B hB k hk ha => by
    have l1 := HSW.out.s.lt hB k hk
    have l2 := HSW.out.n B hB k hk
    rcases ha with rfl | ha
    · omega
    · have := H.out.lt k ha; omega))
  clear h1 h2 hg
  go_wp2_with fail
  apply wp_rangeFunc_zx (gf := 129) (lb := #[.pointer (some ⟨bb, 0, none⟩)]) rfl (enters_of Tryz.func129 (by kernel_rfl) rfl) HSEQ.out (Mdh.refl _ w1) HA.out (fun _ => rfl)
    (fun Z pre X' => SWz w w1 (fun q => q = bb ∨ S q) [blkA (b3 + 1) (.cells #[.int .i64 (sumF f pre)] 3), blkA b3 (.cells #[.func (.func g) #[] #[]] 132)] Z X')
    (fun _ _ _ => False) (fun _ _ _ => False)
    (SWz.apart HS1.out.g.sz (fun pre => [blkA (b3 + 1) (.cells #[.int .i64 (sumF f pre)] 3), blkA b3 (.cells #[.func (.func g) #[] #[]] 132)])) apart_no apart_no
    HZ.out (fun Z pre X' h => h.frm HS1.out.g) (fun x => .cells #[.int .i64 x.2.seq, .string x.2.key, .bool x.2.del, .int .i64 x.2.slot, .int .i64 x.2.off, .int .i64 x.2.size] 56)
    _ ?assign ?body ?hend ?hret
  case hret => intro _ _ _ _ _ _ _ h; exact h.elim
  case assign =>
    intro l x bx X' K hbx hK
    dsimp only [encKE, enV]
    gi_wp2
    rw [← hbx]
    exact hK
  case body =>
    intro l Z pre x bx X' hI hbx hx hzx hzl hlr hsp
    have HIZ := Lib.hid hI
    have HX := Lib.hid hx
    have HB3 := Lib.hid (show X'.heap[b3]? = _ from hI.s.get (i := 1) rfl)
    have HB6 := Lib.hid (show X'.heap[b3 + 1]? = _ from hI.s.get (i := 0) rfl)
    have HSN := Lib.hid (sumF_snoc f pre x)
    have hs := sumF_ok f pre (fun y hy => HP.out.b _ (HLV.out y (hsp.subset (List.mem_append_left _ hy))))
    have hf := HP.out.b _ (HLV.out x (hsp.subset (by simp)))
    have hpl : (pre.length : Int) ≤ 16384 := by have := hsp.length_le; have := HLL.out; simp at *; omega
    have HR := Lib.hid (HP.out.run x.2)
    obtain ⟨k, x⟩ := x
    simp only at HX HSN hf HR
    generalize sumF f pre = m at *
    generalize hfx : f x = v at *
    obtain ⟨hs1, hs2⟩ := hs
    obtain ⟨hf1, hf2⟩ := hf
    have hm : m ≤ 8192 * 16384 := by omega
    have dx := (cellsOf HX.out).1
    have d3 := (cellsOf HB3.out).1
    have d6 := (cellsOf HB6.out).1
    clear hI hbx hx hzx hzl hlr hsp hs2 hpl hfx
    gi_wp2_with fail
    refine wpIn_region_flt 5 (fun _ => trivial) rfl (fun _ => False) [] [] (by kernel_rfl) (by kernel_rfl) (by decide) (by kernel_rfl) (fun _ h => h.elim) ?_
    simp only [List.take_succ_cons, List.take_zero, List.drop_succ_cons, List.drop_zero]
    refine flo_seg 3 rfl ?_
    simp only [List.take_succ_cons, List.take_zero, List.drop_succ_cons, List.drop_zero]
    repeat (go_big_quiet_step (fail))
    refine wpQuiet_nil ?_
    refine flo_eff rfl rfl rfl rfl (fun K hK => ?_)
    gi_wp2_with ((refine ⟨trivial, (CallsIn.inRound l (callsIn_wide.2 (HR.out _))).mono ?_⟩; rintro e w9 ⟨rfl, hg9⟩; have HGD := Lib.hid hg9; have HG9 := Lib.hid (((Gr.refl X').drew).trans hg9); clear hg9))
    refine ⟨by first | exact HGD.out.mdh _ | exact HG9.out.mdh _, ?_⟩
    refine flo_seg 1 rfl ?_
    simp only [List.take_succ_cons, List.take_zero, List.drop_succ_cons, List.drop_zero]
    repeat (go_big_quiet_step (fail))
    refine wpQuiet_nil ?_
    refine flo_nil ?_
    obtain ⟨c6, f6⟩ := cellsOf (HG9.out.blk HB6.out)
    have HZ9 := Lib.hid (HIZ.out.gr HG9.out)
    have HB7 := Lib.hid (HZ9.out.1.box (i := 0) rfl HA.out ((Mdh.refl (fun k => k = b3 + 1) w9).setCell (p := ⟨b3 + 1, 0, none⟩) rfl (.int .i64 (m + v))) (blkSet (j := 0) (u := .int .i64 (m + v)) (HG9.out.blk HB6.out)))
    clear dx d3 d6
    gi_wp2_with fail
    refine ⟨HZ9.out.2.trans HB7.out.2, ?_⟩
    dsimp only
    rw [HSN.out]
    exact HB7.out.1
  case hend =>
    intro Z D xs W hD hZD hcase hdef
    obtain ⟨hxs, hI⟩ := hcase.elim (fun h => h) (fun h => h.2.elim)
    have hxs' : xs = liveL X := hxs
    subst hxs'
    have HIW := Lib.hid hI
    have hb6 : W.heap[b3 + 1]? = _ := hI.s.get (i := 0) rfl
    obtain ⟨d6, f6⟩ := cellsOf hb6
    have HD := Lib.hid (And.intro hD (And.intro hZD hdef))
    generalize sumF f (liveL X) = m at *
    clear hI hcase hxs hb6 hD hZD hdef
    dsimp only
    go_wp2_with fail
    refine retM1 (D := D) (v := .tuple #[.int .i64 m, .int .i64 0]) rfl HD.out.2.2 ?_ ⟨by rw [HS.out], HIW.out.s.g.putObj (by have := HS1.out.g.sz; have := HD.out.1; omega) _⟩
    simp [results, Tryz.results79, go_sem]
set_option maxRecDepth 40000 in
theorem Count_any {w : World} {p : Option Addr} {X : IX} {S : Nat → Prop} (h : IXP w p X S) : Calls Tryz.prog 25 #[.pointer p] w fun e w' => e = .returned (sumR X (fun _ => 1)) ∧ Gr w w' := by
  have H := Lib.hid h
  obtain ⟨r, hr⟩ : ∃ r, r = sumR X (fun _ => 1) := ⟨_, rfl⟩
  have hrr : ∃ m c : Int, r = .tuple #[.int .i64 m, .int .i64 c] := by rw [hr]; unfold sumR; split <;> exact ⟨_, _, rfl⟩
  obtain ⟨m, c, hmc⟩ := hrr
  have HS : Hid (sumR X (fun _ => 1) = .tuple #[.int .i64 m, .int .i64 c]) := Lib.hid (by rw [← hr, hmc])
  clear h hr hmc
  go_enter Tryz.func25, Tryz.ntmps25
  go_wp2_with fail
  refine (Sum_any H.out numCount).mono ?_
  rintro e w1 ⟨rfl, hg⟩
  rw [HS.out]
  have HG := Lib.hid hg
  clear hg
  go_wp2
  go_ret2
  exact ⟨by rw [HS.out] <;> rfl, HG.out⟩
set_option maxRecDepth 40000 in
theorem Cost_any {w : World} {p : Option Addr} {X : IX} {S : Nat → Prop} (h : IXP w p X S) : Calls Tryz.prog 27 #[.pointer p] w fun e w' => e = .returned (sumR X (fun e => e.size)) ∧ Gr w w' := by
  have H := Lib.hid h
  obtain ⟨r, hr⟩ : ∃ r, r = sumR X (fun e => e.size) := ⟨_, rfl⟩
  have hrr : ∃ m c : Int, r = .tuple #[.int .i64 m, .int .i64 c] := by rw [hr]; unfold sumR; split <;> exact ⟨_, _, rfl⟩
  obtain ⟨m, c, hmc⟩ := hrr
  have HS : Hid (sumR X (fun e => e.size) = .tuple #[.int .i64 m, .int .i64 c]) := Lib.hid (by rw [← hr, hmc])
  clear h hr hmc
  go_enter Tryz.func27, Tryz.ntmps27
  go_wp2_with fail
  refine (Sum_any H.out numCost).mono ?_
  rintro e w1 ⟨rfl, hg⟩
  rw [HS.out]
  have HG := Lib.hid hg
  clear hg
  go_wp2
  go_ret2
  exact ⟨by rw [HS.out] <;> rfl, HG.out⟩
end Go.Proofs.YtmdfickejpeofaaGreat

/- keydir: Shadowed. -/
set_option linter.unusedVariables false
set_option linter.unusedSimpArgs false
namespace Go.Proofs.YtmdfickejpeofaaGreat
open Go.RowKit Go.Shelf
attribute [local go_sem] OvM cell_ovm obj_ovm
attribute [local go_sem] Oper.semAt_some

abbrev boxK (e : En) : Obj := .cells #[.int .i64 e.seq, .string e.key, .bool e.del, .int .i64 e.slot, .int .i64 e.off, .int .i64 e.size] 56
def eqEn (e o : En) : Bool := decide (o = e)
def shadV (X : IX) (e : En) : Value :=
  if X.slots = [] then .tuple #[.bool false, .int .i64 1] else if (X.of e.key).any (eqEn e) = true then .tuple #[.bool (decide (e.seq < ((X.of e.key).headD zE).seq)), .int .i64 0] else .tuple #[.bool false, .int .i64 5]
set_option maxRecDepth 40000 in
set_option maxHeartbeats 8000000 in
theorem Shadowed_any {w : World} {p : Option Addr} {X : IX} {S : Nat → Prop} (h : IXP w p X S) (e : En) :
    Calls Tryz.prog 29 #[.pointer p, enV e] w fun r w' => r = .returned (shadV X e) ∧ Gr w w' := by
  have H := Lib.hid h
  have HV : Hid (shadV X e = if X.slots = [] then .tuple #[.bool false, .int .i64 1] else if (X.of e.key).any (eqEn e) = true then .tuple #[.bool (decide (e.seq < ((X.of e.key).headD zE).seq)), .int .i64 0] else .tuple #[.bool false, .int .i64 5]) := Lib.hid rfl
  clear h
  refine calls_of_wp_marks Tryz.func29 rfl ?_
  simp only [Tryz.ntmps29, enV, List.size_toArray, List.length_cons, List.length_nil, Nat.reduceAdd, Nat.reduceSub, Array.replicate_succ, Array.replicate_zero, List.push_toArray, List.append_toArray, List.nil_append, List.cons_append]
  go_wp2_with fail
  obtain ⟨b3, hb3⟩ : ∃ q, q = w.heap.size := ⟨_, rfl⟩
  obtain ⟨w0, hw0⟩ : ∃ y, y = ((w.alloc (boxK e)).alloc (.cells #[.bool false] 4)).alloc (.cells #[.int .i64 0] 32) := ⟨_, rfl⟩
  have HSW : Hid (SW w [blkA (b3 + 1 + 1) (.cells #[.int .i64 0] 32), blkA (b3 + 1) (.cells #[.bool false] 4), blkA b3 (boxK e)] w0) := Lib.hid (by
    have := (((SW.start w).alloc (boxK e)).alloc (.cells #[.bool false] 4)).alloc (.cells #[.int .i64 0] 32)
    simp only [World.size_alloc] at this
    rw [hw0, hb3]
    exact this)
  rw [← hw0, ← hb3]
  clear hw0 hb3
  refine (valid_any (H.out.gr HSW.out.g)).mono ?_
  rintro e' w1 ⟨rfl, rfl⟩
  by_cases h0 : X.slots = []
  · have HR : Hid (shadV X e = .tuple #[.bool false, .int .i64 1]) := Lib.hid (by rw [HV.out, if_pos h0])
    rw [decide_eq_false (fun h => h h0)]
    clear h0
    have k4 : w0.heap[b3 + 1]? = _ := HSW.out.get (i := 1) rfl
    have k5 : w0.heap[b3 + 1 + 1]? = _ := HSW.out.get (i := 0) rfl
    have K4 := Lib.hid k4
    have K5 := Lib.hid k5
    obtain ⟨d4, f4⟩ := cellsOf k4
    obtain ⟨d5, f5⟩ := cellsOf k5
    clear k4 k5
    go_wp2_with fail
    have hn := HSW.out.g.sz
    have h4 : ((w0.setCell ⟨b3 + 1, 0, none⟩ (.bool false)).setCell ⟨b3 + 1 + 1, 0, none⟩ (.int .i64 1)).heap[b3 + 1]? = some (.cells #[.bool false] 4) := blkSetO (blkSet (j := 0) K4.out) (by simp only; omega)
    have h5 : ((w0.setCell ⟨b3 + 1, 0, none⟩ (.bool false)).setCell ⟨b3 + 1 + 1, 0, none⟩ (.int .i64 1)).heap[b3 + 1 + 1]? = some (.cells #[.int .i64 1] 32) := blkSet (j := 0) (blkSetO K5.out (by simp only; omega))
    have e4 := (cellsOf h4).1
    have e5 := (cellsOf h5).1
    have hb : w.heap.size ≤ b3 := HSW.out.n _ (List.mem_cons_of_mem _ (List.mem_cons_of_mem _ (List.mem_cons_self ..))) b3 rfl
    refine retM0 (v := .tuple #[.bool false, .int .i64 1]) ?_ rfl ⟨by rw [HR.out], (HSW.out.g.setCell (p := ⟨b3 + 1, 0, none⟩) (by simp only; omega) _).setCell (p := ⟨b3 + 1 + 1, 0, none⟩) (by simp only; omega) _⟩
    simp [results, Tryz.results29, go_sem, e4, e5]
  have HR : Hid (shadV X e = if (X.of e.key).any (eqEn e) = true then .tuple #[.bool (decide (e.seq < ((X.of e.key).headD zE).seq)), .int .i64 0] else .tuple #[.bool false, .int .i64 5]) := Lib.hid (by rw [HV.out, if_neg h0])
  rw [decide_eq_true h0]
  clear h0
  have d3 := (cellsOf (show w0.heap[b3]? = _ from HSW.out.get (i := 2) rfl)).1
  go_wp2_with fail
  refine (Newest_any (H.out.gr HSW.out.g) _).mono ?_
  rintro e' w1 ⟨rfl, hg⟩
  obtain ⟨nw, hnw⟩ : ∃ nw, nw = (X.of e.key).headD zE := ⟨_, rfl⟩
  have HNV : Hid (newV (X.of e.key) = .tuple #[enV nw, .bool (!(X.of e.key).isEmpty)]) := Lib.hid (by rw [hnw]; cases X.of e.key <;> rfl)
  rw [← hnw] at HR
  rw [HNV.out]
  simp only [enV]
  clear hnw d3
  have HS1 := Lib.hid (HSW.out.gr hg)
  clear hg
  have d3 := (cellsOf (show w1.heap[b3]? = _ from HS1.out.get (i := 2) rfl)).1
  have l3 := blkLt (show w1.heap[b3]? = _ from HS1.out.get (i := 2) rfl)
  go_wp2_with fail
  obtain ⟨b6, hb6⟩ : ∃ q, q = w1.heap.size := ⟨_, rfl⟩
  obtain ⟨w2, hw2⟩ : ∃ y, y = w1.alloc (boxK nw) := ⟨_, rfl⟩
  have HS2 : Hid (SW w [blkA b6 (boxK nw), blkA (b3 + 1 + 1) (.cells #[.int .i64 0] 32), blkA (b3 + 1) (.cells #[.bool false] 4), blkA b3 (boxK e)] w2) := Lib.hid (by rw [hw2, hb6]; exact HS1.out.alloc _)
  rw [← hw2, ← hb6]
  clear hw2 hb6 d3 l3
  refine (Of_any p e.key _).mono ?_
  rintro e' w3 ⟨bb, bk, rfl, h1, h2, h3, h4, hg⟩
  have HS3 := Lib.hid (HS2.out.gr hg)
  have HI := Lib.hid (H.out.gr HS3.out.g)
  have HSEQ := Lib.hid (SeqOfP HI.out e.key bb bk h1 h2)
  have HA : Hid (∀ q, (q = bb ∨ q = bk ∨ S q) → q < w3.heap.size) := Lib.hid (fun q hq => by
    have l1 := World.block_lt_of_cell? w3 ⟨bb, 0, none⟩ h1
    have l2 := World.block_lt_of_cell? w3 ⟨bk, 0, none⟩ h2
    rcases hq with rfl | rfl | hq
    · exact l1
    · exact l2
    · exact HI.out.lt q hq)
  have HZ : Hid (SWz w w3 (fun q => q = bb ∨ q = bk ∨ S q) [blkA b6 (boxK nw), blkA (b3 + 1 + 1) (.cells #[.int .i64 0] 32), blkA (b3 + 1) (.cells #[.bool false] 4), blkA b3 (boxK e)] (fun _ => False) w3) := Lib.hid (SWz.start HS3.out (fun B hB k hk ha => by
    have l1 := HS2.out.s.lt hB k hk
    have l2 := HS2.out.n B hB k hk
    rcases ha with rfl | rfl | ha
    · omega
    · omega
    · have := H.out.lt k ha; omega))
  clear h1 h2 h3 h4 hg
  obtain ⟨gt, hgt⟩ : ∃ gt : Bool, gt = decide (e.seq < nw.seq) := ⟨_, rfl⟩
  have HGT := Lib.hid hgt
  rw [← hgt] at HR
  clear hgt
  go_wp2_with fail
  apply wp_rangeFunc_zx (gf := 132) (lb := #[.pointer (some ⟨bb, 0, none⟩), .pointer (some ⟨bk, 0, none⟩)]) rfl (enters_of Tryz.func132 (by kernel_rfl) rfl) HSEQ.out (Mdh.refl _ w3) HA.out (fun _ => rfl)
    (fun Z pre X' => pre.any (eqEn e) = false ∧ SWz w w3 (fun q => q = bb ∨ q = bk ∨ S q) [blkA b6 (boxK nw), blkA (b3 + 1 + 1) (.cells #[.int .i64 0] 32), blkA (b3 + 1) (.cells #[.bool false] 4), blkA b3 (boxK e)] Z X')
    (fun _ _ _ => False)
    (fun Z pre X' => pre.any (eqEn e) = true ∧ SWz w w3 (fun q => q = bb ∨ q = bk ∨ S q) [blkA b6 (boxK nw), blkA (b3 + 1 + 1) (.cells #[.int .i64 0] 32), blkA (b3 + 1) (.cells #[.bool gt] 4), blkA b3 (boxK e)] Z X')
    ((Apart.pure (fun pre : List En => pre.any (eqEn e) = false)).and (SWz.apart HS3.out.g.sz (fun _ : List En => [blkA b6 (boxK nw), blkA (b3 + 1 + 1) (.cells #[.int .i64 0] 32), blkA (b3 + 1) (.cells #[.bool false] 4), blkA b3 (boxK e)]))) apart_no
    ((Apart.pure (fun pre : List En => pre.any (eqEn e) = true)).and (SWz.apart HS3.out.g.sz (fun _ : List En => [blkA b6 (boxK nw), blkA (b3 + 1 + 1) (.cells #[.int .i64 0] 32), blkA (b3 + 1) (.cells #[.bool gt] 4), blkA b3 (boxK e)])))
    ⟨rfl, HZ.out⟩ (fun Z pre X' h => h.2.frm HS3.out.g) (fun x => .cells #[.int .i64 x.seq, .string x.key, .bool x.del, .int .i64 x.slot, .int .i64 x.off, .int .i64 x.size] 56)
    _ ?assign ?body ?hend ?hret
  case assign =>
    intro l x bx X' K hbx hK
    dsimp only [encE, enV]
    gi_wp2
    rw [← hbx]
    exact hK
  case body =>
    intro l Z pre x bx X' hI hbx hx hzx hzl hlr hsp
    have HIZ := Lib.hid hI
    have dx := (cellsOf hx).1
    have k4 : X'.heap[b3 + 1]? = _ := hI.2.s.get (i := 2) rfl
    have k5 : X'.heap[b3 + 1 + 1]? = _ := hI.2.s.get (i := 1) rfl
    have K4 := Lib.hid k4
    have K5 := Lib.hid k5
    have d3 := (cellsOf (show X'.heap[b3]? = _ from hI.2.s.get (i := 3) rfl)).1
    have d6 := (cellsOf (show X'.heap[b6]? = _ from hI.2.s.get (i := 0) rfl)).1
    obtain ⟨d4, f4⟩ := cellsOf k4
    obtain ⟨d5, f5⟩ := cellsOf k5
    have ke := eqlE_run x e
    cases hpx : eqEn e x with
    | true =>
      have HPX : Hid ((pre ++ [x]).any (eqEn e) = true) := Lib.hid (by simp [hpx])
      have HB7 := Lib.hid (HIZ.out.2.box (i := 2) rfl HA.out ((Mdh.refl (fun k => k = b3 + 1) X').setCell (p := ⟨b3 + 1, 0, none⟩) rfl (.bool gt)) (blkSet (j := 0) (u := .bool gt) K4.out))
      have HB8 := Lib.hid (HB7.out.1.box (i := 1) rfl HA.out ((Mdh.refl (fun k => k = b3 + 1 + 1) (X'.setCell ⟨b3 + 1, 0, none⟩ (.bool gt))).setCell (p := ⟨b3 + 1 + 1, 0, none⟩) rfl (.int .i64 0)) (blkSet (j := 0) (u := .int .i64 0) (blkSetO K5.out (by simp only; omega))))
      unfold eqEn at hpx
      simp only [hpx] at ke
      have hgt := HGT.out
      clear hI hbx hx hzx hzl hlr hsp hpx k4 k5
      gi_wp2_with fail
      rw [← hgt]
      exact ⟨(HB7.out.2.trans HB8.out.2).mono (fun k h => h.2), HPX.out, HB8.out.1⟩
    | false =>
      have HPX : Hid ((pre ++ [x]).any (eqEn e) = false) := Lib.hid (by rw [List.any_append, HIZ.out.1]; simp [hpx])
      unfold eqEn at hpx
      simp only [hpx] at ke
      clear hI hbx hx hzx hzl hlr hsp hpx k4 k5
      gi_wp2_with fail
      exact ⟨Mdh.refl _ _, HPX.out, HIZ.out.2⟩
  case hend =>
    intro Z D xs W hD hZD hcase hdef
    obtain ⟨hxs, hI⟩ := hcase.elim (fun h => h) (fun h => h.2.elim)
    have HE : Hid ((X.of e.key).any (eqEn e) = false) := Lib.hid (by rw [← show xs = X.of e.key from hxs]; exact hI.1)
    have HD := Lib.hid (And.intro hD (And.intro hZD hdef))
    have k4 : W.heap[b3 + 1]? = _ := hI.2.s.get (i := 2) rfl
    have k5 : W.heap[b3 + 1 + 1]? = _ := hI.2.s.get (i := 1) rfl
    have K4 := Lib.hid k4
    have K5 := Lib.hid k5
    obtain ⟨d4, f4⟩ := cellsOf k4
    obtain ⟨d5, f5⟩ := cellsOf k5
    have HIW := Lib.hid hI.2
    clear hI hcase hxs k4 k5 hD hZD hdef
    dsimp only
    go_wp2_with fail
    obtain ⟨hD, hZD, hdef⟩ := HD.out
    have n4 : D ≠ b3 + 1 := fun e => HIW.out.z _ (List.mem_cons_of_mem _ (List.mem_cons_of_mem _ (List.mem_cons_self ..))) (b3 + 1) rfl (e ▸ hZD)
    have n5 : D ≠ b3 + 1 + 1 := fun e => HIW.out.z _ (List.mem_cons_of_mem _ (List.mem_cons_self ..)) (b3 + 1 + 1) rfl (e ▸ hZD)
    have h4 : ((W.setCell ⟨b3 + 1, 0, none⟩ (.bool false)).setCell ⟨b3 + 1 + 1, 0, none⟩ (.int .i64 5)).heap[b3 + 1]? = some (.cells #[.bool false] 4) := blkSetO (blkSet (j := 0) K4.out) (by simp only; omega)
    have h5 : ((W.setCell ⟨b3 + 1, 0, none⟩ (.bool false)).setCell ⟨b3 + 1 + 1, 0, none⟩ (.int .i64 5)).heap[b3 + 1 + 1]? = some (.cells #[.int .i64 5] 32) := blkSet (j := 0) (blkSetO K5.out (by simp only; omega))
    have e4 := (cellsOf ((World.putObj_heap_other (o := .deferred none) n4.symm).trans h4)).1
    have e5 := (cellsOf ((World.putObj_heap_other (o := .deferred none) n5.symm).trans h5)).1
    have hb : w.heap.size ≤ b3 := HSW.out.n _ (List.mem_cons_of_mem _ (List.mem_cons_of_mem _ (List.mem_cons_self ..))) b3 rfl
    refine retM1 (D := D) (v := .tuple #[.bool false, .int .i64 5]) rfl (blkSetO (blkSetO hdef n4) n5) ?_ ⟨by rw [HR.out, if_neg (by rw [HE.out]; simp)], ((HIW.out.s.g.setCell (p := ⟨b3 + 1, 0, none⟩) (by simp only; omega) _).setCell (p := ⟨b3 + 1 + 1, 0, none⟩) (by simp only; omega) _).putObj (by have := HS3.out.g.sz; omega) _⟩
    simp [results, Tryz.results29, go_sem, e4, e5]
  case hret =>
    intro Z D pre W hD hZD hsp hI hdef
    have HE : Hid ((X.of e.key).any (eqEn e) = true) := Lib.hid (by
      obtain ⟨t, ht⟩ := hsp
      rw [← show pre ++ t = X.of e.key from ht, List.any_append, hI.1]; rfl)
    have k4 : W.heap[b3 + 1]? = _ := hI.2.s.get (i := 2) rfl
    have k5 : W.heap[b3 + 1 + 1]? = _ := hI.2.s.get (i := 1) rfl
    have n4 : D ≠ b3 + 1 := fun e => hI.2.z _ (List.mem_cons_of_mem _ (List.mem_cons_of_mem _ (List.mem_cons_self ..))) (b3 + 1) rfl (e ▸ hZD)
    have n5 : D ≠ b3 + 1 + 1 := fun e => hI.2.z _ (List.mem_cons_of_mem _ (List.mem_cons_self ..)) (b3 + 1 + 1) rfl (e ▸ hZD)
    have e4 := (cellsOf ((World.putObj_heap_other (o := .deferred none) n4.symm).trans k4)).1
    have e5 := (cellsOf ((World.putObj_heap_other (o := .deferred none) n5.symm).trans k5)).1
    dsimp only
    go_wp2_with fail
    refine retM1 (D := D) (v := .tuple #[.bool gt, .int .i64 0]) rfl hdef ?_ ⟨by rw [HR.out, if_pos HE.out], hI.2.s.g.putObj (by have := HS3.out.g.sz; omega) _⟩
    simp [results, Tryz.results29, go_sem, e4, e5]
end Go.Proofs.YtmdfickejpeofaaGreat

/- drumlinlaw22: yieldsTwo, live. -/
set_option linter.unusedVariables false
set_option linter.unusedSimpArgs false
namespace Go.Proofs.YtmdfickejpeofaaGreat
open Go.RowKit Go.Shelf
attribute [local go_sem] OvM cell_ovm obj_ovm
attribute [local go_sem] Oper.semAt_some

set_option maxRecDepth 40000 in
theorem yieldsTwo_any (gf : Nat) (lb : Array Value) (w : World) : Calls Tryz.prog 76 #[.func (.func gf) #[] lb] w fun e w' => e = .returned (.func (.func gf) #[] lb) ∧ w = w' := by
  have k1 : ∀ w : World, (binOp .eql 127 (.func (.func gf) #[] lb) .nilFunc).run Tryz.prog w = .ok (.bool false) w := fun w => by kernel_rfl
  go_enter Tryz.func76, Tryz.ntmps76
  go_wp2
  go_ret
  exact ⟨rfl, rfl⟩
abbrev kvR (b4 b5 : Nat) (v1 v2 : Value) (L : List (ByteArray × En)) : List Asn := [blkA b5 (.cells #[v2] 37), rowA 56 6 v2 L.length (rowE (L.map (fun x => x.2))), blkA b4 (.cells #[v1] 57), rowA 9 1 v1 L.length (kS (L.map (fun x => x.1)))]
set_option maxRecDepth 40000 in
set_option maxHeartbeats 8000000 in
theorem live22_any {w : World} {p : Option Addr} {X : IX} {S : Nat → Prop} (h : IXP w p X S) : Calls Tryz.prog 22 #[.pointer p] w fun e w' =>
    ∃ v1 v2, e = .returned (.tuple #[v1, v2]) ∧ Own w' 9 1 v1 (liveL X).length (kS ((liveL X).map (fun x => x.1))) ∧ Own w' 56 6 v2 (liveL X).length (rowE ((liveL X).map (fun x => x.2))) ∧ Gr w w' := by
  obtain ⟨i0, hi, hz0, hz1, hz2⟩ := info_parts info_str
  obtain ⟨j0, hj, hy0, hy1, hy2⟩ := info_parts infoIten
  have H := Lib.hid h
  have HLL := Lib.hid (live_len h.ok)
  clear h
  refine calls_of_wp_marks Tryz.func22 rfl ?_
  simp only [Tryz.ntmps22, List.size_toArray, List.length_cons, List.length_nil, Nat.reduceAdd, Nat.reduceSub, Array.replicate_succ, Array.replicate_zero, List.push_toArray, List.append_toArray, List.nil_append, List.cons_append]
  go_wp2_with fail
  obtain ⟨b4, hb4⟩ : ∃ q, q = w.heap.size := ⟨_, rfl⟩
  obtain ⟨w0, hw0⟩ : ∃ y, y = (w.alloc (.cells #[.slice none 0 0] 57)).alloc (.cells #[.slice none 0 0] 37) := ⟨_, rfl⟩
  have HSW : Hid (SW w (kvR b4 (b4 + 1) (.slice none 0 0) (.slice none 0 0) []) w0) := Lib.hid (by
    have h1 : SW w [rowA 9 1 (.slice none 0 0) 0 []] w := (SW.start w).new (Gr.refl _) (nilRow _ _ _) (fun k hk => by cases hk)
    have h2 := h1.alloc (.cells #[.slice none 0 0] 57)
    have h3 := h2.new (Gr.refl _) (A := rowA 56 6 (.slice none 0 0) 0 []) (nilRow _ _ _) (fun k hk => by cases hk)
    have h4 := h3.alloc (.cells #[.slice none 0 0] 37)
    simp only [World.size_alloc, ← hb4] at h4
    rw [hw0]
    exact h4)
  rw [← hw0, ← hb4]
  clear hw0 hb4
  refine (Live_any p _).mono ?_
  rintro e' w1 ⟨bb, rfl, h1, h2, hg⟩
  have HS1 := Lib.hid (HSW.out.gr hg)
  have HI := Lib.hid (H.out.gr HS1.out.g)
  have HSEQ := Lib.hid (SeqLive HI.out bb h1)
  have HA : Hid (∀ q, (q = bb ∨ S q) → q < w1.heap.size) := Lib.hid (fun q hq => by
    have l1 := World.block_lt_of_cell? w1 ⟨bb, 0, none⟩ h1
    rcases hq with rfl | hq
    · exact l1
    · exact HI.out.lt q hq)
  have HZ : Hid (SWz w w1 (fun q => q = bb ∨ S q) (kvR b4 (b4 + 1) (.slice none 0 0) (.slice none 0 0) []) (fun _ => False) w1) := Lib.hid (SWz.start HS1.out (fun B hB k hk ha => by
    have l1 := HSW.out.s.lt hB k hk
    have l2 := HSW.out.n B hB k hk
    rcases ha with rfl | ha
    · omega
    · have := H.out.lt k ha; omega))
  clear h1 h2 hg
  go_wp2_with fail
  refine (yieldsTwo_any _ _ _).mono ?_
  rintro e' w2 ⟨rfl, rfl⟩
  go_wp2_with fail
  apply wp_rangeFunc_zx (gf := 129) (lb := #[.pointer (some ⟨bb, 0, none⟩)]) rfl (enters_of Tryz.func129 (by kernel_rfl) rfl) HSEQ.out (Mdh.refl _ w1) HA.out (fun _ => rfl)
    (fun Z pre X' => ∃ v1 v2, SWz w w1 (fun q => q = bb ∨ S q) (kvR b4 (b4 + 1) v1 v2 pre) Z X')
    (fun _ _ _ => False) (fun _ _ _ => False)
    (Apart.ex fun v1 => Apart.ex fun v2 => SWz.apart HS1.out.g.sz (fun pre : List (ByteArray × En) => kvR b4 (b4 + 1) v1 v2 pre)) apart_no apart_no
    ⟨_, _, HZ.out⟩ (fun Z pre X' ⟨v1, v2, h⟩ => h.frm HS1.out.g) (fun x => .cells #[.int .i64 x.2.seq, .string x.2.key, .bool x.2.del, .int .i64 x.2.slot, .int .i64 x.2.off, .int .i64 x.2.size] 56)
    _ ?assign ?body ?hend ?hret
  case hret => intro _ _ _ _ _ _ _ h; exact h.elim
  case assign =>
    intro l x bx X' K hbx hK
    dsimp only [encKE, enV]
    gi_wp2
    rw [← hbx]
    exact hK
  case body =>
    intro l Z pre x bx X' hI hbx hx hzx hzl hlr hsp
    obtain ⟨v1, v2, hI⟩ := hI
    obtain ⟨k, x⟩ := x
    simp only at hx
    have HIZ := Lib.hid hI
    have HX := Lib.hid hx
    have HO1 := Lib.hid (show Own X' 9 1 v1 pre.length (kS (pre.map (fun x => x.1))) from hI.s.get (i := 3) rfl)
    have HO2 := Lib.hid (show Own X' 56 6 v2 pre.length (rowE (pre.map (fun x => x.2))) from hI.s.get (i := 1) rfl)
    have HB4 := Lib.hid (show X'.heap[b4]? = _ from hI.s.get (i := 2) rfl)
    have HB5 := Lib.hid (show X'.heap[b4 + 1]? = _ from hI.s.get (i := 0) rfl)
    have HPL : Hid (pre.length ≤ 16383) := Lib.hid (by have := hsp.length_le; have := HLL.out; simp at *; omega)
    have hpl := HPL.out
    obtain ⟨d4, f4⟩ := cellsOf HB4.out
    have l4 := blkLt HB4.out
    have lx := blkLt HX.out
    have HNX : Hid (¬ bx = b4 ∧ ¬ bx = b4 + 1) := Lib.hid (by
      have a1 := blkLt (show w1.heap[b4]? = _ from HS1.out.get (i := 2) rfl)
      have a2 := blkLt (show w1.heap[b4 + 1]? = _ from HS1.out.get (i := 0) rfl)
      omega)
    have HN4 : Hid (¬ v1.ownBlock = some b4) := Lib.hid (own_ne HO1.out HB4.out (by decide))
    have HN5 : Hid (¬ v1.ownBlock = some (b4 + 1)) := Lib.hid (own_ne HO1.out HB5.out (by decide))
    have nx4 := HNX.out.1
    have nx5 := HNX.out.2
    have HN1x : Hid (¬ v1.ownBlock = some bx) := Lib.hid (own_ne HO1.out HX.out (by decide))
    clear hI hbx hx hzx hzl hlr hsp
    have HN52 : Hid (¬ v2.ownBlock = some (b4 + 1)) := Lib.hid (own_ne HO2.out HB5.out (by decide))
    gi_wp2_with (first
      | (gi_at_builtin; refine wpListIn_appv _ rfl (.tmp 13) (.tmp 15) 57 rfl 9 i0 _ 1 16 Tryz.underlying57 hi hz0 hz1 hz2 rfl (by decide) v1 pre.length (kS (pre.map (fun x => x.1))) rfl (HO1.out.gr (by (repeat (first | (with_reducible exact Gr.refl _) | assumption | (with_reducible apply Gr.from_drew) | (with_reducible apply Gr.alloc) | (with_reducible apply Gr.drew) | (with_reducible refine Gr.trans ?_ (by assumption)) | (with_reducible refine Gr.setCell ?_ (by omega) _))))) (some ⟨X'.heap.size, 0, none⟩) 1 1 ([Value.string k]) rfl ((src_newK X' ([Value.string k]) _ 1 rfl (by simp [Value.oneCell']))) (by simp only [maxLen]; omega) (by omega) ?_; intro u1 w2 hA; obtain ⟨a1, c1, rfl⟩ := hA.val; have HAV := Lib.hid hA; have HM4 := Lib.hid ((hA.mdh (fun g h => h)).blk (((Gr.refl X').alloc _).blk HB4.out) HN4.out); have HXW := Lib.hid ((hA.mdh (fun g h => h)).blk (((Gr.refl X').alloc _).blk HX.out) HN1x.out); have HM5 := Lib.hid ((hA.mdh (fun g h => h)).blk (((Gr.refl X').alloc _).blk HB5.out) HN5.out); clear hA; obtain ⟨d4, f4⟩ := cellsOf HM4.out; have l4 := blkLt HM4.out; have d5 := (cellsOf HM5.out).1; have dx := (cellsOf HXW.out).1; have lx2 := blkLt HXW.out; have l5 := blkLt HM5.out; have z2 := HIZ.out.gr ((Gr.refl X').alloc (.cells [Value.string k].toArray 9)); have z3 := z2.1.step (i := 3) (B' := rowA 9 1 (.slice a1 (pre.length + 1) c1) (pre.length + 1) (kS (pre.map (fun x => x.1)) ++ [Value.string k])) rfl HA.out (HAV.out.mdh (fun g h => h)) (fun k hk => .inl hk) HAV.out.1 (fun k hq => HAV.out.2.1 k hq); have z4 := z3.1.step (i := 2) (B' := blkA b4 (.cells #[.slice a1 (pre.length + 1) c1] 57)) rfl HA.out ((Mdh.refl (fun k => k = b4) w2).setCell (p := ⟨b4, 0, none⟩) rfl (.slice a1 (pre.length + 1) c1)) (fun k hk => .inl hk) (blkSet (j := 0) (u := .slice a1 (pre.length + 1) c1) HM4.out) (fun k hk => .inl hk); have HZ4 := Lib.hid z4.1; have HZM := Lib.hid ((z2.2.trans z3.2).trans z4.2); have HO4 := Lib.hid (show Own _ 56 6 v2 pre.length (rowE (pre.map (fun x => x.2))) from HZ4.out.s.get (i := 1) rfl); have HB54 := Lib.hid (show (w2.setCell ⟨b4, 0, none⟩ (.slice a1 (pre.length + 1) c1)).heap[b4 + 1]? = some (.cells #[v2] 37) from HZ4.out.s.get (i := 0) rfl); have HSRC := Lib.hid (src_newK (w2.setCell ⟨b4, 0, none⟩ (.slice a1 (pre.length + 1) c1)) (enC x) 56 6 rfl (enC_one x)); clear z2 z3 z4)
      | (gi_at_builtin; refine wpListIn_appv _ rfl (.tmp 17) (.tmp 19) 37 rfl 56 j0 _ 6 56 Tryz.underlying37 hj hy0 hy1 hy2 rfl (by decide) v2 pre.length (rowE (pre.map (fun x => x.2))) rfl (HO4.out.gr ((Gr.refl _).alloc _)) (some ⟨w2.heap.size, 0, none⟩) 1 1 (enC x) rfl (by have hs := HSRC.out; rw [World.size_setCell] at hs; exact hs) (by simp only [maxLen]; omega) (by omega) ?_; intro u2 w4 hB; obtain ⟨a2, c2, rfl⟩ := hB.val; have HBV := Lib.hid hB; have HB55 := Lib.hid ((hB.mdh (fun g h => h)).blk (((Gr.refl _).alloc _).blk HB54.out) HN52.out); clear hB d4 f4 d5 dx; obtain ⟨d5, f5⟩ := cellsOf HB55.out; have l55 := blkLt HB55.out)
      | fail)
    have y2 := HZ4.out.gr ((Gr.refl _).alloc (.cells (enC x).toArray 56))
    have y3 := y2.1.step (i := 1) (B' := rowA 56 6 (.slice a2 (pre.length + 1) c2) (pre.length + 1) (rowE (pre.map (fun x => x.2)) ++ enC x)) rfl HA.out (HBV.out.mdh (fun g h => h)) (fun k hk => .inl hk) HBV.out.1 (fun k hq => HBV.out.2.1 k hq)
    have y4 := y3.1.step (i := 0) (B' := blkA (b4 + 1) (.cells #[.slice a2 (pre.length + 1) c2] 37)) rfl HA.out ((Mdh.refl (fun k => k = b4 + 1) w4).setCell (p := ⟨b4 + 1, 0, none⟩) rfl (.slice a2 (pre.length + 1) c2)) (fun k hk => .inl hk) (blkSet (j := 0) (u := .slice a2 (pre.length + 1) c2) HB55.out) (fun k hk => .inl hk)
    have zM := HZM.out.trans ((y2.2.trans y3.2).trans y4.2)
    have zR : SWz w w1 (fun q => q = bb ∨ S q) (kvR b4 (b4 + 1) (.slice a1 (pre.length + 1) c1) (.slice a2 (pre.length + 1) c2) (pre ++ [(k, x)])) Z (w4.setCell ⟨b4 + 1, 0, none⟩ (.slice a2 (pre.length + 1) c2)) := by
      unfold kvR
      rw [List.map_append, List.map_append, List.map_cons, List.map_cons, List.map_nil, List.map_nil, rowE_snoc, kS_snoc, List.length_append]
      exact y4.1
    exact ⟨zM, _, _, zR⟩
  case hend =>
    intro Z D xs W hD hZD hcase hdef
    obtain ⟨hxs, v1, v2, hZ⟩ := hcase.elim (fun h => h) (fun h => h.2.elim)
    have hxs' : xs = liveL X := hxs
    subst hxs'
    have d4 := (cellsOf (show W.heap[b4]? = _ from hZ.s.get (i := 2) rfl)).1
    have d5 := (cellsOf (show W.heap[b4 + 1]? = _ from hZ.s.get (i := 0) rfl)).1
    have HZW := Lib.hid hZ
    have HD := Lib.hid (And.intro hD (And.intro hZD hdef))
    clear hcase hZ hD hZD hdef hxs
    dsimp only
    go_wp2_with fail
    refine wp_region_flo (fun _ => False) [] [] (by kernel_rfl) (by kernel_rfl) (fun _ h => h.elim) ?_
    refine flo_seg 4 rfl ?_
    simp only [List.take_succ_cons, List.take_zero, List.drop_succ_cons, List.drop_zero]
    repeat (go_big_quiet_step (fail))
    refine wpQuiet_nil ?_
    refine flo_nil ?_
    go_wp2_with fail
    obtain ⟨hD, hZD, hdef⟩ := HD.out
    have hm : Mdh (fun k => k = D) W (W.putObj D (.deferred none)) := (Mdh.refl (fun k => k = D) W).putObj rfl _
    have o1 := (show Own W 9 1 v1 (liveL X).length (kS ((liveL X).map (fun x => x.1))) from HZW.out.s.get (i := 3) rfl).mdh hm (fun k hk e => HZW.out.z _ (List.mem_cons_of_mem _ (List.mem_cons_of_mem _ (List.mem_cons_of_mem _ (List.mem_cons_self ..)))) k hk (e ▸ hZD))
    have o2 := (show Own W 56 6 v2 (liveL X).length (rowE ((liveL X).map (fun x => x.2))) from HZW.out.s.get (i := 1) rfl).mdh hm (fun k hk e => HZW.out.z _ (List.mem_cons_of_mem _ (List.mem_cons_self ..)) k hk (e ▸ hZD))
    refine retM1 (D := D) (v := .tuple #[v1, v2]) rfl hdef ?_ ⟨v1, v2, rfl, o1, o2, HZW.out.s.g.drew.putObj (by have := HS1.out.g.sz; omega) _⟩
    simp [results, Tryz.results22, go_sem]
end Go.Proofs.YtmdfickejpeofaaGreat

/- liveness: any, needed, Needed. -/
set_option linter.unusedVariables false
set_option linter.unusedSimpArgs false
namespace Go.Proofs.YtmdfickejpeofaaGreat
open Go.RowKit Go.Shelf
attribute [local go_sem] OvM cell_ovm obj_ovm
attribute [local go_sem] Oper.semAt_some

set_option maxRecDepth 40000 in
set_option maxHeartbeats 4000000 in
theorem any_any {w : World} {p : Option Addr} {X : IX} {S : Nat → Prop} (h : IXP w p X S) (k : ByteArray) {g : Nat} {lb : Array Value} {pr : En → Bool} {T : Nat → Prop} (hp : PredC g lb pr T w) :
    Calls Tryz.prog 148 #[.pointer p, .string k, .func (.func g) #[] lb] w fun e w' => e = .returned (.bool ((X.of k).any pr)) ∧ Gr w w' := by
  have H := Lib.hid h
  have HP := Lib.hid hp
  have heg := hp.enter
  clear h hp
  refine calls_of_wp_marks Tryz.func148 rfl ?_
  simp only [Tryz.ntmps148, List.size_toArray, List.length_cons, List.length_nil, Nat.reduceAdd, Nat.reduceSub, Array.replicate_succ, Array.replicate_zero, List.push_toArray, List.append_toArray, List.nil_append, List.cons_append]
  go_wp2_with fail
  obtain ⟨b5, hb5⟩ : ∃ q, q = w.heap.size := ⟨_, rfl⟩
  obtain ⟨w0, hw0⟩ : ∃ y, y = (w.alloc (.cells #[.func (.func g) #[] lb] 143)).alloc (.cells #[.bool false] 4) := ⟨_, rfl⟩
  have HSW : Hid (SW w [blkA (b5 + 1) (.cells #[.bool false] 4), blkA b5 (.cells #[.func (.func g) #[] lb] 143)] w0) := Lib.hid (by
    have := ((SW.start w).alloc (.cells #[.func (.func g) #[] lb] 143)).alloc (.cells #[.bool false] 4)
    simp only [World.size_alloc] at this
    rw [hw0, hb5]
    exact this)
  rw [← hw0, ← hb5]
  clear hw0 hb5
  refine (Of_any p k _).mono ?_
  rintro e' w1 ⟨bb, bk, rfl, h1, h2, h3, h4, hg⟩
  have HS1 := Lib.hid (HSW.out.gr hg)
  have HI := Lib.hid (H.out.gr HS1.out.g)
  have HSEQ := Lib.hid (SeqOfP HI.out k bb bk h1 h2)
  have HA : Hid (∀ q, (q = bb ∨ q = bk ∨ S q) → q < w1.heap.size) := Lib.hid (fun q hq => by
    have l1 := World.block_lt_of_cell? w1 ⟨bb, 0, none⟩ h1
    have l2 := World.block_lt_of_cell? w1 ⟨bk, 0, none⟩ h2
    rcases hq with rfl | rfl | hq
    · exact l1
    · exact l2
    · exact HI.out.lt q hq)
  have HZ : Hid (SWz w w1 (fun q => q = bb ∨ q = bk ∨ S q) [blkA (b5 + 1) (.cells #[.bool false] 4), blkA b5 (.cells #[.func (.func g) #[] lb] 143)] (fun _ => False) w1) := Lib.hid (SWz.start HS1.out (fun B hB k hk ha => by
    have l1 := HSW.out.s.lt hB k hk
    have l2 := HSW.out.n B hB k hk
    rcases ha with rfl | rfl | ha
    · omega
    · omega
    · have := H.out.lt k ha; omega))
  clear h1 h2 h3 h4 hg
  go_wp2_with fail
  apply wp_rangeFunc_zx (gf := 132) (lb := #[.pointer (some ⟨bb, 0, none⟩), .pointer (some ⟨bk, 0, none⟩)]) rfl (enters_of Tryz.func132 (by kernel_rfl) rfl) HSEQ.out (Mdh.refl _ w1) HA.out (fun _ => rfl)
    (fun Z pre X' => pre.any pr = false ∧ SWz w w1 (fun q => q = bb ∨ q = bk ∨ S q) [blkA (b5 + 1) (.cells #[.bool false] 4), blkA b5 (.cells #[.func (.func g) #[] lb] 143)] Z X')
    (fun _ _ _ => False)
    (fun Z pre X' => pre.any pr = true ∧ SWz w w1 (fun q => q = bb ∨ q = bk ∨ S q) [blkA (b5 + 1) (.cells #[.bool true] 4), blkA b5 (.cells #[.func (.func g) #[] lb] 143)] Z X')
    ((Apart.pure (fun pre : List En => pre.any pr = false)).and (SWz.apart HS1.out.g.sz (fun _ : List En => [blkA (b5 + 1) (.cells #[.bool false] 4), blkA b5 (.cells #[.func (.func g) #[] lb] 143)]))) apart_no
    ((Apart.pure (fun pre : List En => pre.any pr = true)).and (SWz.apart HS1.out.g.sz (fun _ : List En => [blkA (b5 + 1) (.cells #[.bool true] 4), blkA b5 (.cells #[.func (.func g) #[] lb] 143)])))
    ⟨rfl, HZ.out⟩ (fun Z pre X' h => h.2.frm HS1.out.g) (fun x => .cells #[.int .i64 x.seq, .string x.key, .bool x.del, .int .i64 x.slot, .int .i64 x.off, .int .i64 x.size] 56)
    _ ?assign ?body ?hend ?hret
  case assign =>
    intro l x bx X' K hbx hK
    dsimp only [encE, enV]
    gi_wp2
    rw [← hbx]
    exact hK
  case body =>
    intro l Z pre x bx X' hI hbx hx hzx hzl hlr hsp
    have HIZ := Lib.hid hI
    have HX := Lib.hid hx
    have HB5 := Lib.hid (show X'.heap[b5]? = _ from hI.2.s.get (i := 1) rfl)
    have HB6 := Lib.hid (show X'.heap[b5 + 1]? = _ from hI.2.s.get (i := 0) rfl)
    have dx := (cellsOf HX.out).1
    have d5 := (cellsOf HB5.out).1
    have HR := Lib.hid ((HP.out.gr hI.2.s.g).run x X' (Mdh.refl _ _))
    clear hI hbx hx hzx hzl hlr hsp
    gi_wp2_with fail
    refine ⟨trivial, (CallsIn.inRound l (callsIn_wide.2 HR.out)).mono ?_⟩
    rintro e w9 ⟨rfl, hg9⟩
    have HG9 := Lib.hid hg9
    have HZ9 := Lib.hid (HIZ.out.2.gr hg9)
    obtain ⟨d6, f6⟩ := cellsOf (hg9.blk HB6.out)
    cases hpx : pr x with
    | true =>
      have HPX : Hid ((pre ++ [x]).any pr = true) := Lib.hid (by simp [hpx])
      have HB7 := Lib.hid (HZ9.out.1.box (i := 0) rfl HA.out ((Mdh.refl (fun k => k = b5 + 1) w9).setCell (p := ⟨b5 + 1, 0, none⟩) rfl (.bool true)) (blkSet (j := 0) (u := .bool true) (hg9.blk HB6.out)))
      clear hpx hg9
      gi_wp2_with fail
      exact ⟨(HZ9.out.2.trans HB7.out.2).mono (fun k h => h.2), HPX.out, HB7.out.1⟩
    | false =>
      have HPX : Hid ((pre ++ [x]).any pr = false) := Lib.hid (by rw [List.any_append, HIZ.out.1]; simp [hpx])
      clear hpx hg9
      gi_wp2_with fail
      exact ⟨HZ9.out.2, HPX.out, HZ9.out.1⟩
  case hend =>
    intro Z D xs W hD hZD hcase hdef
    obtain ⟨hxs, hI⟩ := hcase.elim (fun h => h) (fun h => h.2.elim)
    have HE : Hid ((X.of k).any pr = false) := Lib.hid (by rw [← show xs = X.of k from hxs]; exact hI.1)
    have HD := Lib.hid (And.intro hD (And.intro hZD hdef))
    have hb6 : W.heap[b5 + 1]? = _ := hI.2.s.get (i := 0) rfl
    have HB6 := Lib.hid hb6
    obtain ⟨d6, f6⟩ := cellsOf hb6
    have HIW := Lib.hid hI.2
    clear hI hcase hxs hb6 hD hZD hdef
    dsimp only
    go_wp2_with fail
    obtain ⟨hD, hZD, hdef⟩ := HD.out
    have n6 : D ≠ b5 + 1 := fun e => HIW.out.z _ (List.mem_cons_self ..) (b5 + 1) rfl (e ▸ hZD)
    have hW2 : (W.setCell ⟨b5 + 1, 0, none⟩ (.bool false)).heap[b5 + 1]? = _ := blkSet (j := 0) (u := .bool false) HB6.out
    have h4' : ((W.setCell ⟨b5 + 1, 0, none⟩ (.bool false)).putObj D (.deferred none)).heap[b5 + 1]? = _ := (World.putObj_heap_other n6.symm).trans hW2
    obtain ⟨d4, _⟩ := cellsOf h4'
    refine retM1 (D := D) (v := .bool false) rfl (blkSetO hdef n6) ?_ ⟨by rw [HE.out], (Gr.setCell HIW.out.s.g (p := ⟨b5 + 1, 0, none⟩) (HSW.out.n _ (List.mem_cons_self ..) _ rfl) _).putObj (by have := HS1.out.g.sz; omega) _⟩
    simp [results, Tryz.results148, go_sem, d4]
  case hret =>
    intro Z D pre W hD hZD hsp hI hdef
    have HE : Hid ((X.of k).any pr = true) := Lib.hid (by
      obtain ⟨t, ht⟩ := hsp
      rw [← show pre ++ t = X.of k from ht, List.any_append, hI.1]; rfl)
    have hb6 : W.heap[b5 + 1]? = _ := hI.2.s.get (i := 0) rfl
    have n6 : D ≠ b5 + 1 := fun e => hI.2.z _ (List.mem_cons_self ..) (b5 + 1) rfl (e ▸ hZD)
    have h4' : (W.putObj D (.deferred none)).heap[b5 + 1]? = _ := (World.putObj_heap_other n6.symm).trans hb6
    obtain ⟨d4, _⟩ := cellsOf h4'
    dsimp only
    go_wp2_with fail
    refine retM1 (D := D) (v := .bool true) rfl hdef ?_ ⟨by rw [HE.out], hI.2.s.g.putObj (by have := HS1.out.g.sz; omega) _⟩
    simp [results, Tryz.results148, go_sem, d4]

/-! ### needed -/
def nd1 (e y : En) : Bool := decide (e.seq < y.seq)
def nd2 (e y : En) : Bool := decide (y.seq = e.seq ∧ y.slot ≠ e.slot)
def nd3 (e y : En) : Bool := decide (y.seq < e.seq ∧ y.slot ≠ e.slot)
def IX.needs (X : IX) (e : En) : Bool := if (X.of e.key).any (nd1 e) = true then false else if (X.of e.key).any (nd2 e) = true then false else if e.del = false then true else (X.of e.key).any (nd3 e)
abbrev boxE (e : En) : Obj := .cells #[.int .i64 e.seq, .string e.key, .bool e.del, .int .i64 e.slot, .int .i64 e.off, .int .i64 e.size] 56
set_option maxRecDepth 40000 in
theorem need1 (y e : En) (be : Nat) (w : World) (h : w.heap[be]? = some (boxE e)) : Calls Tryz.prog 191 #[enV y, .pointer (some ⟨be, 0, none⟩)] w fun r w' => r = .returned (.bool (nd1 e y)) ∧ Gr w w' := by
  have c := (cellsOf h).1
  have l := blkLt h
  have HN : Hid (nd1 e y = decide (e.seq < y.seq)) := Lib.hid rfl
  rw [HN.out]
  simp only [enV]
  by_cases h1 : y.seq = e.seq
  all_goals by_cases h2 : y.slot = e.slot
  all_goals
    go_enter Tryz.func191, Tryz.ntmps191
    go_wp2
    all_goals
      go_ret
      exact ⟨ret_bool (by first | rfl | (simp_all; done) | (simp_all; omega)), by (repeat (first | (with_reducible exact Gr.refl _) | assumption | (with_reducible apply Gr.from_drew) | (with_reducible apply Gr.alloc) | (with_reducible apply Gr.drew) | (with_reducible refine Gr.trans ?_ (by assumption)) | (with_reducible refine Gr.setCell ?_ (by omega) _)))⟩
theorem needP1 (e : En) (be : Nat) (w : World) (h : w.heap[be]? = some (boxE e)) : PredC 191 #[.pointer (some ⟨be, 0, none⟩)] (nd1 e) (fun _ => False) w :=
  ⟨enters_of Tryz.func191 (by kernel_rfl) rfl, fun x w' m => need1 x e be w' (m.blk h (fun h => h))⟩
set_option maxRecDepth 40000 in
theorem need2 (y e : En) (be : Nat) (w : World) (h : w.heap[be]? = some (boxE e)) : Calls Tryz.prog 192 #[enV y, .pointer (some ⟨be, 0, none⟩)] w fun r w' => r = .returned (.bool (nd2 e y)) ∧ Gr w w' := by
  have c := (cellsOf h).1
  have l := blkLt h
  have HN : Hid (nd2 e y = decide (y.seq = e.seq ∧ y.slot ≠ e.slot)) := Lib.hid rfl
  rw [HN.out]
  simp only [enV]
  by_cases h1 : y.seq = e.seq
  all_goals by_cases h2 : y.slot = e.slot
  all_goals
    go_enter Tryz.func192, Tryz.ntmps192
    go_wp2
    all_goals
      go_ret
      exact ⟨ret_bool (by first | rfl | (simp_all; done) | (simp_all; omega)), by (repeat (first | (with_reducible exact Gr.refl _) | assumption | (with_reducible apply Gr.from_drew) | (with_reducible apply Gr.alloc) | (with_reducible apply Gr.drew) | (with_reducible refine Gr.trans ?_ (by assumption)) | (with_reducible refine Gr.setCell ?_ (by omega) _)))⟩
theorem needP2 (e : En) (be : Nat) (w : World) (h : w.heap[be]? = some (boxE e)) : PredC 192 #[.pointer (some ⟨be, 0, none⟩)] (nd2 e) (fun _ => False) w :=
  ⟨enters_of Tryz.func192 (by kernel_rfl) rfl, fun x w' m => need2 x e be w' (m.blk h (fun h => h))⟩
set_option maxRecDepth 40000 in
theorem need3 (y e : En) (be : Nat) (w : World) (h : w.heap[be]? = some (boxE e)) : Calls Tryz.prog 193 #[enV y, .pointer (some ⟨be, 0, none⟩)] w fun r w' => r = .returned (.bool (nd3 e y)) ∧ Gr w w' := by
  have c := (cellsOf h).1
  have l := blkLt h
  have HN : Hid (nd3 e y = decide (y.seq < e.seq ∧ y.slot ≠ e.slot)) := Lib.hid rfl
  rw [HN.out]
  simp only [enV]
  by_cases h1 : y.seq = e.seq
  all_goals by_cases h2 : y.slot = e.slot
  all_goals
    go_enter Tryz.func193, Tryz.ntmps193
    go_wp2
    all_goals
      go_ret
      exact ⟨ret_bool (by first | rfl | (simp_all; done) | (simp_all; omega)), by (repeat (first | (with_reducible exact Gr.refl _) | assumption | (with_reducible apply Gr.from_drew) | (with_reducible apply Gr.alloc) | (with_reducible apply Gr.drew) | (with_reducible refine Gr.trans ?_ (by assumption)) | (with_reducible refine Gr.setCell ?_ (by omega) _)))⟩
theorem needP3 (e : En) (be : Nat) (w : World) (h : w.heap[be]? = some (boxE e)) : PredC 193 #[.pointer (some ⟨be, 0, none⟩)] (nd3 e) (fun _ => False) w :=
  ⟨enters_of Tryz.func193 (by kernel_rfl) rfl, fun x w' m => need3 x e be w' (m.blk h (fun h => h))⟩
set_option maxRecDepth 40000 in
set_option maxHeartbeats 2000000 in
theorem needed_any {w : World} {p : Option Addr} {X : IX} {S : Nat → Prop} (h : IXP w p X S) (e : En) : Calls Tryz.prog 150 #[.pointer p, enV e] w fun r w' => r = .returned (.bool (X.needs e)) ∧ Gr w w' := by
  have H := Lib.hid h
  clear h
  simp only [enV]
  have HE : Hid (X.needs e = if (X.of e.key).any (nd1 e) = true then false else if (X.of e.key).any (nd2 e) = true then false else if e.del = false then true else (X.of e.key).any (nd3 e)) := Lib.hid rfl
  go_enter Tryz.func150, Tryz.ntmps150
  go_wp2_with fail
  obtain ⟨b, hb⟩ : ∃ q, q = w.heap.size := ⟨_, rfl⟩
  obtain ⟨w0, hw0⟩ : ∃ y, y = w.alloc (boxE e) := ⟨_, rfl⟩
  have H0 : Hid (Gr w w0 ∧ w0.heap[b]? = some (boxE e)) := Lib.hid (by rw [hw0, hb]; exact ⟨(Gr.refl w).alloc _, blkNew w _⟩)
  rw [← show w0 = w.alloc (.cells #[.int .i64 e.seq, .string e.key, .bool e.del, .int .i64 e.slot, .int .i64 e.off, .int .i64 e.size] 56) from hw0, ← hb]
  clear hw0 hb
  refine (any_any (H.out.gr H0.out.1) e.key (needP1 e b w0 H0.out.2)).mono ?_
  rintro r w1 ⟨rfl, hg⟩
  have H1 := Lib.hid (And.intro (H0.out.1.trans hg) (hg.blk H0.out.2))
  clear hg
  cases h1 : (X.of e.key).any (nd1 e) with
  | true =>
    have HR : Hid (X.needs e = false) := Lib.hid (by rw [HE.out, h1]; rfl)
    clear h1
    go_wp2
    go_ret
    exact ⟨by rw [HR.out] <;> rfl, H1.out.1⟩
  | false =>
    have HE1 : Hid (X.needs e = if (X.of e.key).any (nd2 e) = true then false else if e.del = false then true else (X.of e.key).any (nd3 e)) := Lib.hid (by rw [HE.out, h1]; rfl)
    have c1 := (cellsOf H1.out.2).1
    clear h1
    go_wp2_with fail
    refine (any_any (H.out.gr H1.out.1) e.key (needP2 e b w1 H1.out.2)).mono ?_
    rintro r w2 ⟨rfl, hg⟩
    have H2 := Lib.hid (And.intro (H1.out.1.trans hg) (hg.blk H1.out.2))
    clear hg c1
    cases h2 : (X.of e.key).any (nd2 e) with
    | true =>
      have HR : Hid (X.needs e = false) := Lib.hid (by rw [HE1.out, h2]; rfl)
      clear h2
      go_wp2
      go_ret
      exact ⟨by rw [HR.out] <;> rfl, H2.out.1⟩
    | false =>
      have HE2 : Hid (X.needs e = if e.del = false then true else (X.of e.key).any (nd3 e)) := Lib.hid (by rw [HE1.out, h2]; rfl)
      have c2 := (cellsOf H2.out.2).1
      clear h2
      cases hd : e.del with
      | false =>
        have HR : Hid (X.needs e = true) := Lib.hid (by rw [HE2.out, hd]; rfl)
        rw [hd] at c2
        clear hd
        go_wp2
        go_ret
        exact ⟨by rw [HR.out] <;> rfl, H2.out.1⟩
      | true =>
        have HR : Hid (X.needs e = (X.of e.key).any (nd3 e)) := Lib.hid (by rw [HE2.out, hd]; rfl)
        rw [hd] at c2
        clear hd
        go_wp2_with fail
        refine (any_any (H.out.gr H2.out.1) e.key (needP3 e b w2 H2.out.2)).mono ?_
        rintro r w3 ⟨rfl, hg⟩
        have HG := Lib.hid (H2.out.1.trans hg)
        clear hg
        go_wp2
        go_ret
        exact ⟨by rw [HR.out] <;> rfl, HG.out⟩
end Go.Proofs.YtmdfickejpeofaaGreat

/- liveness: Needed, Keep, Size, Redundant. -/
set_option linter.unusedVariables false
set_option linter.unusedSimpArgs false
namespace Go.Proofs.YtmdfickejpeofaaGreat
open Go.RowKit Go.Shelf
attribute [local go_sem] OvM cell_ovm obj_ovm
attribute [local go_sem] Oper.semAt_some

def IX.hasE (X : IX) (e : En) : Bool := (X.of e.key).any (fun o => decide (o = e))
def neededV (X : IX) (e : En) : Value := if X.slots = [] then .tuple #[.bool false, .int .i64 1] else if X.hasE e = false then .tuple #[.bool false, .int .i64 5] else .tuple #[.bool (X.needs e), .int .i64 0]
set_option maxRecDepth 40000 in
theorem Need1 (o e : En) (be : Nat) (w : World) (h : w.heap[be]? = some (boxE e)) :
    Calls Tryz.prog 149 #[enV o, .pointer (some ⟨be, 0, none⟩)] w fun r w' => r = .returned (.bool (decide (o = e))) ∧ Gr w w' := by
  have c := (cellsOf h).1
  have l := blkLt h
  have k1 := eqlE_run o e
  simp only [enV]
  go_enter Tryz.func149, Tryz.ntmps149
  go_wp2
  go_ret
  exact ⟨rfl, by (repeat (first | (with_reducible exact Gr.refl _) | assumption | (with_reducible apply Gr.from_drew) | (with_reducible apply Gr.alloc) | (with_reducible apply Gr.drew) | (with_reducible refine Gr.trans ?_ (by assumption)) | (with_reducible refine Gr.setCell ?_ (by omega) _)))⟩
theorem NeedP (e : En) (be : Nat) (w : World) (h : w.heap[be]? = some (boxE e)) : PredC 149 #[.pointer (some ⟨be, 0, none⟩)] (fun o => decide (o = e)) (fun _ => False) w :=
  ⟨enters_of Tryz.func149 (by kernel_rfl) rfl, fun x w' m => Need1 x e be w' (m.blk h (fun h => h))⟩
set_option maxRecDepth 40000 in
set_option maxHeartbeats 2000000 in
theorem Needed_any {w : World} {p : Option Addr} {X : IX} {S : Nat → Prop} (h : IXP w p X S) (e : En) : Calls Tryz.prog 108 #[.pointer p, enV e] w fun r w' => r = .returned (neededV X e) ∧ Gr w w' := by
  have H := Lib.hid h
  clear h
  simp only [enV]
  have HE : Hid (neededV X e = if X.slots = [] then .tuple #[.bool false, .int .i64 1] else if X.hasE e = false then .tuple #[.bool false, .int .i64 5] else .tuple #[.bool (X.needs e), .int .i64 0]) := Lib.hid rfl
  go_enter Tryz.func108, Tryz.ntmps108
  go_wp2_with fail
  obtain ⟨b, hb⟩ : ∃ q, q = w.heap.size := ⟨_, rfl⟩
  obtain ⟨w0, hw0⟩ : ∃ y, y = w.alloc (boxE e) := ⟨_, rfl⟩
  have H0 : Hid (Gr w w0 ∧ w0.heap[b]? = some (boxE e)) := Lib.hid (by rw [hw0, hb]; exact ⟨(Gr.refl w).alloc _, blkNew w _⟩)
  rw [← show w0 = w.alloc (.cells #[.int .i64 e.seq, .string e.key, .bool e.del, .int .i64 e.slot, .int .i64 e.off, .int .i64 e.size] 56) from hw0, ← hb]
  clear hw0 hb
  refine (Copy_any (H.out.gr H0.out.1)).mono ?_
  rintro r w1 ⟨q, rfl, hg, hq, _⟩
  have H1 := Lib.hid (And.intro (H0.out.1.trans hg) (hg.blk H0.out.2))
  have c1 := (cellsOf H1.out.2).1
  clear hg
  by_cases h0 : X.slots = []
  · have hq0 := hq.2 h0
    have HR : Hid (neededV X e = .tuple #[.bool false, .int .i64 1]) := Lib.hid (by rw [HE.out, if_pos h0])
    clear h0 hq
    subst hq0
    go_wp2
    go_ret2
    exact ⟨by rw [HR.out] <;> rfl, H1.out.1⟩
  · have HR : Hid (neededV X e = if X.hasE e = false then .tuple #[.bool false, .int .i64 5] else .tuple #[.bool (X.needs e), .int .i64 0]) := Lib.hid (by rw [HE.out, if_neg h0])
    obtain ⟨q', rfl⟩ : ∃ q', q = some q' := by
      cases q with
      | none => exact absurd (hq.1 rfl) h0
      | some q' => exact ⟨q', rfl⟩
    clear h0 hq
    go_wp2_with fail
    refine (any_any (H.out.gr H1.out.1) e.key (NeedP e b w1 H1.out.2)).mono ?_
    rintro r w2 ⟨rfl, hg⟩
    rw [show (X.of e.key).any (fun o => decide (o = e)) = X.hasE e from rfl]
    have H2 := Lib.hid (And.intro (H1.out.1.trans hg) (hg.blk H1.out.2))
    clear hg c1
    cases h1 : X.hasE e with
    | false =>
      have HR2 : Hid (neededV X e = .tuple #[.bool false, .int .i64 5]) := Lib.hid (by rw [HR.out, if_pos h1])
      clear h1
      go_wp2
      go_ret2
      exact ⟨by rw [HR2.out] <;> rfl, H2.out.1⟩
    | true =>
      have HR2 : Hid (neededV X e = .tuple #[.bool (X.needs e), .int .i64 0]) := Lib.hid (by rw [HR.out, if_neg (by rw [h1]; simp)])
      have c2 := (cellsOf H2.out.2).1
      clear h1
      go_wp2_with fail
      refine (needed_any (H.out.gr H2.out.1) e).mono ?_
      rintro r w3 ⟨rfl, hg⟩
      have H3 := Lib.hid (H2.out.1.trans hg)
      clear hg
      go_wp2
      go_ret2
      exact ⟨by rw [HR2.out] <;> rfl, H3.out⟩

/-! ### Keep -/
def keepL (X : IX) (s : Int) : List En := (X.slot s).filter X.needs
def keepC (X : IX) (s : Int) : Int := if X.slots = [] then 1 else if X.has s = false then 3 else 0
theorem keep_out {X : IX} {s : Int} (h : keepC X s ≠ 0) : keepL X s = [] := by
  unfold keepL
  rw [slot_out]
  · rfl
  · unfold keepC at h
    split at h
    · rename_i h0
      simp [IX.has, h0]
    · split at h
      · assumption
      · exact absurd rfl h
def KeepPost (X : IX) (s : Int) (w : World) (e : Ending) (w' : World) : Prop := ∃ v, e = .returned (.tuple #[v, .int .i64 (keepC X s)]) ∧ Nw w w' 56 6 v (keepL X s).length (rowE (keepL X s)) ∧ Gr w w'
theorem filter_yes {α : Type} {p : α → Bool} {l : List α} {x : α} (h : p x = true) : (l ++ [x]).filter p = l.filter p ++ [x] := by simp [h]
theorem filter_no {α : Type} {p : α → Bool} {l : List α} {x : α} (h : p x = false) : (l ++ [x]).filter p = l.filter p := by simp [h]
set_option maxRecDepth 40000 in
set_option maxHeartbeats 8000000 in
theorem Keep_any {w : World} {p : Option Addr} {X : IX} {S : Nat → Prop} (h : IXP w p X S) (s : Int) : Calls Tryz.prog 158 #[.pointer p, .int .i64 s] w (KeepPost X s w) := by
  obtain ⟨i0, hi, hz0, hz1, hz2⟩ := info_parts infoIten
  have H := Lib.hid h
  have HLE := Lib.hid (h.ok.slot_le s)
  have HHAS := Lib.hid (show X.has s = decide (0 ≤ s ∧ s < X.slots.length) from rfl)
  clear h
  refine calls_of_wp_marks Tryz.func158 rfl ?_
  simp only [Tryz.ntmps158, List.size_toArray, List.length_cons, List.length_nil, Nat.reduceAdd, Nat.reduceSub, Array.replicate_succ, Array.replicate_zero, List.push_toArray, List.append_toArray, List.nil_append, List.cons_append]
  go_wp2_with fail
  obtain ⟨b2, hb2⟩ : ∃ q, q = w.heap.size := ⟨_, rfl⟩
  obtain ⟨w0, hw0⟩ : ∃ y, y = w.alloc (.cells #[.pointer p] 35) := ⟨_, rfl⟩
  have H0 : Hid (SW w [blkA b2 (.cells #[.pointer p] 35)] w0) := Lib.hid (by rw [hw0, hb2]; exact (SW.start w).alloc _)
  rw [← hw0, ← hb2]
  clear hw0 hb2
  refine (Copy_any (H.out.gr H0.out.g)).mono ?_
  rintro r w1 ⟨q, rfl, hg, hq, _⟩
  have H1 := Lib.hid (H0.out.gr hg)
  have c1 := (cellsOf (show w1.heap[b2]? = _ from H1.out.get (i := 0) rfl)).1
  clear hg
  by_cases h0 : X.slots = []
  · have hq0 := hq.2 h0
    have HC : Hid (keepC X s = 1) := Lib.hid (by unfold keepC; rw [if_pos h0])
    have HL : Hid (keepL X s = []) := Lib.hid (keep_out (by rw [HC.out]; decide))
    clear h0 hq
    subst hq0
    go_wp2_with fail
    exact retM0 (v := .tuple #[.slice none 0 0, .int .i64 1]) (by simp [results, Tryz.results158, go_sem]) rfl ⟨_, by rw [HC.out], by rw [HL.out]; exact ⟨nilRow _ _ _, fun k hk => by cases hk⟩, H1.out.g⟩
  · obtain ⟨q', rfl⟩ : ∃ q', q = some q' := by
      cases q with
      | none => exact absurd (hq.1 rfl) h0
      | some q' => exact ⟨q', rfl⟩
    have HNE := Lib.hid h0
    clear h0 hq
    cases hs : X.has s with
    | false =>
      have HC : Hid (keepC X s = 3) := Lib.hid (by unfold keepC; rw [if_neg HNE.out, if_pos hs])
      have HL : Hid (keepL X s = []) := Lib.hid (keep_out (by rw [HC.out]; decide))
      have hh := HHAS.out
      rw [hs] at hh
      have hh' : ¬ (0 ≤ s ∧ s < X.slots.length) := of_decide_eq_false hh.symm
      clear hs hh
      by_cases hs0 : s < 0
      · go_wp2_with fail
        exact retM0 (v := .tuple #[.slice none 0 0, .int .i64 3]) (by simp [results, Tryz.results158, go_sem]) rfl ⟨_, by rw [HC.out], by rw [HL.out]; exact ⟨nilRow _ _ _, fun k hk => by cases hk⟩, H1.out.g⟩
      · have hs1 : (X.slots.length : Int) ≤ s := by omega
        clear hh'
        go_wp2_with (go_at_call 105; refine (Slots_any (H.out.gr H1.out.g)).mono ?_; rintro r w2 ⟨rfl, rfl⟩)
        exact retM0 (v := .tuple #[.slice none 0 0, .int .i64 3]) (by simp [results, Tryz.results158, go_sem]) rfl ⟨_, by rw [HC.out], by rw [HL.out]; exact ⟨nilRow _ _ _, fun k hk => by cases hk⟩, H1.out.g⟩
    | true =>
      have HC : Hid (keepC X s = 0) := Lib.hid (by unfold keepC; rw [if_neg HNE.out, if_neg (by rw [hs]; simp)])
      have hh := HHAS.out
      rw [hs] at hh
      obtain ⟨hs0, hs1⟩ := of_decide_eq_true hh.symm
      have hs0' : ¬ s < 0 := by omega
      have hs1' : ¬ (X.slots.length : Int) ≤ s := by omega
      clear hs hh hs0 hs1
      have lb2 := blkLt (show w1.heap[b2]? = _ from H1.out.get (i := 0) rfl)
      go_wp2_with (first
        | (go_at_call 105; refine (Slots_any (H.out.gr H1.out.g)).mono ?_; rintro r w2 ⟨rfl, rfl⟩)
        | fail)
      obtain ⟨bo, hbo⟩ : ∃ q, q = w1.heap.size := ⟨_, rfl⟩
      have HS2 : Hid (SW w [blkA bo (.cells #[.slice none 0 0] 37), rowA 56 6 (.slice none 0 0) 0 [], blkA b2 (.cells #[.pointer p] 35)] (w1.alloc (.cells #[.slice none 0 0] 37))) := Lib.hid (by
        rw [hbo]
        exact (H1.out.new (Gr.refl _) (A := rowA 56 6 (.slice none 0 0) 0 []) (nilRow _ _ _) (fun k hk => by cases hk)).alloc _)
      obtain ⟨w2, hw2⟩ : ∃ y, y = w1.alloc (.cells #[.slice none 0 0] 37) := ⟨_, rfl⟩
      rw [← hw2] at HS2
      rw [← hw2, ← hbo]
      clear hw2 hbo c1 hs0' hs1' lb2
      refine (Slot_any p s _).mono ?_
      rintro e' w3 ⟨bb, bk, rfl, h1, h2, h3, h4, hg⟩
      have HS3 := Lib.hid (HS2.out.gr hg)
      have HI := Lib.hid (H.out.gr HS3.out.g)
      have HSEQ := Lib.hid (SeqSlotP HI.out s bb bk h1 h2)
      have HA : Hid (∀ q, (q = bb ∨ q = bk ∨ S q) → q < w3.heap.size) := Lib.hid (fun q hq => by
        have l1 := World.block_lt_of_cell? w3 ⟨bb, 0, none⟩ h1
        have l2 := World.block_lt_of_cell? w3 ⟨bk, 0, none⟩ h2
        rcases hq with rfl | rfl | hq
        · exact l1
        · exact l2
        · exact HI.out.lt q hq)
      have HZ : Hid (SWz w w3 (fun q => q = bb ∨ q = bk ∨ S q) [blkA bo (.cells #[.slice none 0 0] 37), rowA 56 6 (.slice none 0 0) 0 [], blkA b2 (.cells #[.pointer p] 35)] (fun _ => False) w3) := Lib.hid (SWz.start HS3.out (fun B hB k hk ha => by
        have l1 := HS2.out.s.lt hB k hk
        have l2 := HS2.out.n B hB k hk
        rcases ha with rfl | rfl | ha
        · omega
        · omega
        · have := H.out.lt k ha; omega))
      clear h1 h2 h3 h4 hg
      go_wp2_with fail
      apply wp_rangeFunc_zx (gf := 143) (lb := #[.pointer (some ⟨bb, 0, none⟩), .pointer (some ⟨bk, 0, none⟩)]) rfl (enters_of Tryz.func143 (by kernel_rfl) rfl) HSEQ.out (Mdh.refl _ w3) HA.out (fun _ => rfl)
        (fun Z pre X' => ∃ v, SWz w w3 (fun q => q = bb ∨ q = bk ∨ S q) [blkA bo (.cells #[v] 37), rowA 56 6 v (pre.filter X.needs).length (rowE (pre.filter X.needs)), blkA b2 (.cells #[.pointer p] 35)] Z X')
        (fun _ _ _ => False) (fun _ _ _ => False)
        (Apart.ex fun v => SWz.apart HS3.out.g.sz (fun pre : List En => [blkA bo (.cells #[v] 37), rowA 56 6 v (pre.filter X.needs).length (rowE (pre.filter X.needs)), blkA b2 (.cells #[.pointer p] 35)])) apart_no apart_no
        ⟨_, HZ.out⟩ (fun Z pre X' ⟨v, h⟩ => h.frm HS3.out.g) (fun x => boxE x)
        _ ?assign ?body ?hend ?hret
      case hret => intro _ _ _ _ _ _ _ h; exact h.elim
      case assign =>
        intro l x bx X' K hbx hK
        dsimp only [encE, enV]
        gi_wp2
        rw [← hbx]
        exact hK
      case body =>
        intro l Z pre x bx X' hI hbx hx hzx hzl hlr hsp
        obtain ⟨v, hI⟩ := hI
        have HIZ := Lib.hid hI
        have HX := Lib.hid hx
        have HB2 := Lib.hid (show X'.heap[b2]? = _ from hI.s.get (i := 2) rfl)
        have HPL : Hid (pre.length ≤ 511) := Lib.hid (by have := hsp.length_le; have := HLE.out; simp at *; omega)
        have dx := (cellsOf HX.out).1
        have d2 := (cellsOf HB2.out).1
        have HIX : Hid (IXP X' p X S) := Lib.hid (H.out.gr hI.s.g)
        clear hI hbx hx hzx hzl hlr hsp
        gi_wp2_with fail
        refine ⟨trivial, (CallsIn.inRound l (callsIn_wide.2 (needed_any HIX.out x))).mono ?_⟩
        rintro e w9 ⟨rfl, hg9⟩
        have HZ9 := Lib.hid (HIZ.out.gr hg9)
        have HX9 := Lib.hid (hg9.blk HX.out)
        clear hg9 d2 dx
        cases hnx : X.needs x with
        | false =>
          have HN := Lib.hid (filter_no (l := pre) hnx)
          clear hnx
          gi_wp2_with fail
          exact ⟨HZ9.out.2, v, by rw [HN.out]; exact HZ9.out.1⟩
        | true =>
          have HN := Lib.hid (filter_yes (l := pre) hnx)
          have HFL : Hid ((pre.filter X.needs).length ≤ 511) := Lib.hid (Nat.le_trans (List.length_filter_le _ _) HPL.out)
          generalize pre.filter X.needs = kept at *
          have HO := Lib.hid (show Own w9 56 6 v kept.length (rowE kept) from HZ9.out.1.s.get (i := 1) rfl)
          have HB := Lib.hid (show w9.heap[bo]? = _ from HZ9.out.1.s.get (i := 0) rfl)
          have dx := (cellsOf HX9.out).1
          have lx := blkLt HX9.out
          obtain ⟨db, fb⟩ := cellsOf HB.out
          have lbb := blkLt HB.out
          have HNB : Hid (¬ v.ownBlock = some bo) := Lib.hid (own_ne HO.out HB.out (by decide))
          have hfl := HFL.out
          clear hnx
          gi_wp2_with (first
            | (gi_at_builtin; go_must (refine wpListIn_appv _ rfl (.tmp 28) (.tmp 30) 37 rfl 56 i0 _ 6 56 Tryz.underlying37 hi hz0 hz1 hz2 rfl (by decide) v kept.length (rowE kept) rfl (HO.out.gr (by (repeat (first | (with_reducible exact Gr.refl _) | assumption | (with_reducible apply Gr.from_drew) | (with_reducible apply Gr.alloc) | (with_reducible apply Gr.drew) | (with_reducible refine Gr.trans ?_ (by assumption)) | (with_reducible refine Gr.setCell ?_ (by omega) _))))) (some ⟨w9.heap.size, 0, none⟩) 1 1 (enC x) rfl ((src_newK w9 (enC x) _ 6 rfl (enC_one x))) (by simp only [maxLen]; omega) (by omega) ?_); intro v2 w10 hA; obtain ⟨a2, c2, rfl⟩ := hA.val; have HAV := Lib.hid hA; have HB2 := Lib.hid ((hA.mdh (fun g h => h)).blk (((Gr.refl w9).alloc _).blk HB.out) HNB.out); clear hA; obtain ⟨db2, fb2⟩ := cellsOf HB2.out)
            | fail)
          have z2 := HZ9.out.1.gr ((Gr.refl w9).alloc (.cells (enC x).toArray 56))
          have z3 := z2.1.step (i := 1) (B' := rowA 56 6 (.slice a2 (kept.length + 1) c2) (kept.length + 1) (rowE kept ++ enC x)) rfl HA.out (HAV.out.mdh (fun g h => h)) (fun k hk => .inl hk) HAV.out.1 (fun k hq => HAV.out.2.1 k hq)
          have z4 := z3.1.step (i := 0) (B' := blkA bo (.cells #[.slice a2 (kept.length + 1) c2] 37)) rfl HA.out ((Mdh.refl (fun k => k = bo) w10).setCell (p := ⟨bo, 0, none⟩) rfl (.slice a2 (kept.length + 1) c2)) (fun k hk => .inl hk) (blkSet (j := 0) (u := .slice a2 (kept.length + 1) c2) HB2.out) (fun k hk => .inl hk)
          refine ⟨((HZ9.out.2.trans z2.2).trans z3.2).trans z4.2, .slice a2 (kept.length + 1) c2, ?_⟩
          rw [HN.out, rowE_snoc, List.length_append]
          exact z4.1
      case hend =>
        intro Z D xs W hD hZD hcase hdef
        obtain ⟨hxs, v, hI⟩ := hcase.elim (fun h => h) (fun h => h.2.elim)
        have hxs' : xs = X.slot s := hxs
        subst hxs'
        have db := (cellsOf (show W.heap[bo]? = _ from hI.s.get (i := 0) rfl)).1
        have HZW := Lib.hid hI
        have HD := Lib.hid (And.intro hD (And.intro hZD hdef))
        clear hcase hI hD hZD hdef hxs
        dsimp only
        go_wp2_with fail
        obtain ⟨hD, hZD, hdef⟩ := HD.out
        have hm : Mdh (fun k => k = D) W (W.putObj D (.deferred none)) := (Mdh.refl (fun k => k = D) W).putObj rfl _
        refine retM1 (D := D) (v := .tuple #[v, .int .i64 0]) rfl hdef (by simp [results, Tryz.results158, go_sem]) ⟨v, by rw [HC.out], ⟨(show Own W _ _ _ _ _ from HZW.out.s.get (i := 1) rfl).mdh hm (fun k hk e => HZW.out.z _ (List.mem_cons_of_mem _ (List.mem_cons_self ..)) k hk (e ▸ hZD)), fun q hq => HZW.out.s.n _ (List.mem_cons_of_mem _ (List.mem_cons_self ..)) q hq⟩, HZW.out.s.g.putObj (Nat.le_trans HS3.out.g.sz hD) _⟩
end Go.Proofs.YtmdfickejpeofaaGreat
