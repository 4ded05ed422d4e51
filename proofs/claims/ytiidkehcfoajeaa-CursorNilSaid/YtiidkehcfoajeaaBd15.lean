/- cursor: the methods that do not look at an index; first. -/
import Derived.Test.YtiidkehcfoajeaaBd13
import Derived.Test.YtiidkehcfoajeaaBd14
import Derived.Test.YtiidkehcfoajeaaBd11
set_option linter.unusedVariables false
set_option linter.unusedSimpArgs false
namespace Go.Proofs.Ytiidkehcfoajeaa
open Go.RowKit Go.Shelf
attribute [local go_sem] OvM cell_ovm obj_ovm
attribute [local go_sem] Oper.semAt_some

/-- A cursor that was made. -/
structure Cu where
  has : Bool
  slot : Int
  off : Int
def cuO (c : Cu) : Obj := .cells #[.bool true, .bool c.has, .int .i64 c.slot, .int .i64 c.off] 90
def CUN (w : World) (p : Option Addr) : Prop := p = none ∨ ∃ b, p = some ⟨b, 0, none⟩ ∧ w.heap[b]? = some (.cells #[.bool false, .bool false, .int .i64 0, .int .i64 0] 90)
theorem CUN.gr {w w' : World} {p : Option Addr} (h : CUN w p) (g : Gr w w') : CUN w' p := h.imp (fun h => h) (fun ⟨b, e, h⟩ => ⟨b, e, g.blk h⟩)
theorem cuC {w : World} {b : Nat} {c : Cu} (h : w.heap[b]? = some (cuO c)) : w.cell? ⟨b, 0, none⟩ = some (.bool true) ∧ w.cell? ⟨b, 1, none⟩ = some (.bool c.has) ∧ w.cell? ⟨b, 2, none⟩ = some (.int .i64 c.slot) ∧ w.cell? ⟨b, 3, none⟩ = some (.int .i64 c.off) ∧ ∀ j, w.frozen? ⟨b, j, none⟩ = false := by
  obtain ⟨h1, h2⟩ := cellsOf h
  exact ⟨(h1 0).trans rfl, (h1 1).trans rfl, (h1 2).trans rfl, (h1 3).trans rfl, h2⟩
theorem cu4 {w : World} {b : Nat} {c c' : Cu} (h : w.heap[b]? = some (cuO c)) : ((((w.setCell ⟨b, 0, none⟩ (.bool true)).setCell ⟨b, 1, none⟩ (.bool c'.has)).setCell ⟨b, 2, none⟩ (.int .i64 c'.slot)).setCell ⟨b, 3, none⟩ (.int .i64 c'.off)).heap[b]? = some (cuO c') :=
  blkSet (j := 3) (blkSet (j := 2) (blkSet (j := 1) (blkSet (j := 0) h)))
set_option maxRecDepth 40000 in
theorem cuValid {w : World} {b : Nat} {c : Cu} (h : w.heap[b]? = some (cuO c)) : Calls Try.prog 117 #[.pointer (some ⟨b, 0, none⟩)] w fun e w' => e = .returned (.bool true) ∧ w = w' := by
  obtain ⟨c0, c1, c2, c3, _⟩ := cuC h
  clear h
  go_enter Try.func117, Try.ntmps117
  go_wp2
  go_ret
  exact ⟨rfl, rfl⟩
set_option maxRecDepth 40000 in
theorem cuValidN {w : World} {p : Option Addr} (h : CUN w p) : Calls Try.prog 117 #[.pointer p] w fun e w' => e = .returned (.bool false) ∧ w = w' := by
  rcases h with rfl | ⟨b, rfl, h⟩
  · go_enter Try.func117, Try.ntmps117
    go_wp2
    go_ret
    exact ⟨rfl, rfl⟩
  · have c0 := ((cellsOf h).1 0).trans (show _ = some (Value.bool false) from rfl)
    clear h
    go_enter Try.func117, Try.ntmps117
    go_wp2
    go_ret
    exact ⟨rfl, rfl⟩
set_option maxRecDepth 40000 in
theorem cuNew (w : World) : Calls Try.prog 63 #[] w fun e w' => e = .returned (.pointer (some ⟨w.heap.size, 0, none⟩)) ∧ w' = w.alloc (cuO ⟨false, 0, 0⟩) := by
  go_enter Try.func63, Try.ntmps63
  go_wp2
  go_ret
  exact ⟨rfl, rfl⟩
set_option maxRecDepth 40000 in
theorem cuStop {w : World} {b : Nat} {c : Cu} (h : w.heap[b]? = some (cuO c)) : Calls Try.prog 57 #[.pointer (some ⟨b, 0, none⟩)] w fun e w' => e = .returned (.tuple #[]) ∧ w'.heap[b]? = some (cuO ⟨false, 0, 0⟩) ∧ Mdh (fun k => k = b) w w' := by
  have H := Lib.hid h
  obtain ⟨c0, c1, c2, c3, cf⟩ := cuC h
  clear h
  go_enter Try.func57, Try.ntmps57
  go_wp2_with (go_at_call 117; refine (cuValid H.out).mono ?_; rintro e w1 ⟨rfl, rfl⟩)
  go_end0
  exact ⟨rfl, cu4 (c' := ⟨false, 0, 0⟩) H.out, (((((Mdh.refl (fun k => k = b) w).setCell (p := ⟨b, 0, none⟩) rfl _).setCell (p := ⟨b, 1, none⟩) rfl _).setCell (p := ⟨b, 2, none⟩) rfl _).setCell (p := ⟨b, 3, none⟩) rfl _)⟩
set_option maxRecDepth 40000 in
theorem cuStopN {w : World} {p : Option Addr} (h : CUN w p) : Calls Try.prog 57 #[.pointer p] w fun e w' => e = .returned (.tuple #[]) ∧ w = w' := by
  have H := Lib.hid h
  clear h
  go_enter Try.func57, Try.ntmps57
  go_wp2_with (go_at_call 117; refine (cuValidN H.out).mono ?_; rintro e w1 ⟨rfl, rfl⟩)
  go_end0
  exact ⟨rfl, rfl⟩
set_option maxRecDepth 40000 in
theorem cuSlot {w : World} {b : Nat} {c : Cu} (h : w.heap[b]? = some (cuO c)) : Calls Try.prog 58 #[.pointer (some ⟨b, 0, none⟩)] w fun e w' => e = .returned (.tuple #[.int .i64 c.slot, .bool c.has]) ∧ Gr w w' := by
  have H := Lib.hid h
  obtain ⟨c0, c1, c2, c3, cf⟩ := cuC h
  clear h
  go_enter Try.func58, Try.ntmps58
  go_wp2_with (go_at_call 117; refine (cuValid H.out).mono ?_; rintro e w1 ⟨rfl, rfl⟩)
  refine wp_region_flo (fun _ => False) [] [] (by kernel_rfl) (by kernel_rfl) (fun _ h => h.elim) ?_
  refine flo_seg 10 rfl ?_
  simp only [List.take_succ_cons, List.take_zero, List.drop_succ_cons, List.drop_zero]
  repeat (go_big_quiet_step (fail))
  refine wpQuiet_nil ?_
  refine flo_nil ?_
  go_wp2
  go_ret2
  exact ⟨rfl, by (repeat (first | (with_reducible exact Gr.refl _) | assumption | (with_reducible apply Gr.from_drew) | (with_reducible apply Gr.alloc) | (with_reducible apply Gr.drew) | (with_reducible refine Gr.trans ?_ (by assumption)) | (with_reducible refine Gr.setCell ?_ (by omega) _)))⟩
set_option maxRecDepth 40000 in
theorem cuSlotN {w : World} {p : Option Addr} (h : CUN w p) : Calls Try.prog 58 #[.pointer p] w fun e w' => e = .returned (.tuple #[.int .i64 0, .bool false]) ∧ w = w' := by
  have H := Lib.hid h
  clear h
  go_enter Try.func58, Try.ntmps58
  go_wp2_with (go_at_call 117; refine (cuValidN H.out).mono ?_; rintro e w1 ⟨rfl, rfl⟩)
  go_ret2
  exact ⟨rfl, rfl⟩
set_option maxRecDepth 40000 in
theorem cuOffset {w : World} {b : Nat} {c : Cu} (h : w.heap[b]? = some (cuO c)) : Calls Try.prog 61 #[.pointer (some ⟨b, 0, none⟩)] w fun e w' => e = .returned (.int .i64 c.off) ∧ w = w' := by
  have H := Lib.hid h
  obtain ⟨c0, c1, c2, c3, cf⟩ := cuC h
  clear h
  go_enter Try.func61, Try.ntmps61
  go_wp2_with (go_at_call 117; refine (cuValid H.out).mono ?_; rintro e w1 ⟨rfl, rfl⟩)
  go_ret
  exact ⟨rfl, rfl⟩
set_option maxRecDepth 40000 in
theorem cuOffsetN {w : World} {p : Option Addr} (h : CUN w p) : Calls Try.prog 61 #[.pointer p] w fun e w' => e = .returned (.int .i64 0) ∧ w = w' := by
  have H := Lib.hid h
  clear h
  go_enter Try.func61, Try.ntmps61
  go_wp2_with (go_at_call 117; refine (cuValidN H.out).mono ?_; rintro e w1 ⟨rfl, rfl⟩)
  go_ret
  exact ⟨rfl, rfl⟩
set_option maxRecDepth 40000 in
theorem cuCopy {w : World} {b : Nat} {c : Cu} (h : w.heap[b]? = some (cuO c)) : Calls Try.prog 62 #[.pointer (some ⟨b, 0, none⟩)] w fun e w' => e = .returned (.pointer (some ⟨w.heap.size, 0, none⟩)) ∧ w' = w.alloc (cuO c) := by
  have H := Lib.hid h
  obtain ⟨c0, c1, c2, c3, cf⟩ := cuC h
  clear h
  go_enter Try.func62, Try.ntmps62
  go_wp2_with (go_at_call 117; refine (cuValid H.out).mono ?_; rintro e w1 ⟨rfl, rfl⟩)
  go_ret
  exact ⟨rfl, rfl⟩
set_option maxRecDepth 40000 in
theorem cuCopyN {w : World} {p : Option Addr} (h : CUN w p) : Calls Try.prog 62 #[.pointer p] w fun e w' => e = .returned (.pointer none) ∧ w = w' := by
  have H := Lib.hid h
  clear h
  go_enter Try.func62, Try.ntmps62
  go_wp2_with (go_at_call 117; refine (cuValidN H.out).mono ?_; rintro e w1 ⟨rfl, rfl⟩)
  go_ret
  exact ⟨rfl, rfl⟩
def startC (c : Cu) (s : Int) : Int := if s < 0 ∨ 32 ≤ s then 3 else if c.has = true then 6 else 0
def startX (c : Cu) (s : Int) : Cu := if startC c s = 0 then ⟨true, s, 0⟩ else c
set_option maxRecDepth 40000 in
theorem cuStart {w : World} {b : Nat} {c : Cu} (h : w.heap[b]? = some (cuO c)) (s : Int) : Calls Try.prog 59 #[.pointer (some ⟨b, 0, none⟩), .int .i64 s] w fun e w' => e = .returned (.int .i64 (startC c s)) ∧ w'.heap[b]? = some (cuO (startX c s)) ∧ Mdh (fun k => k = b) w w' := by
  have H := Lib.hid h
  obtain ⟨c0, c1, c2, c3, cf⟩ := cuC h
  clear h
  go_enter Try.func59, Try.ntmps59
  by_cases hs : s < 0 ∨ 32 ≤ s
  · have HC : Hid (startC c s = 3 ∧ startX c s = c) := Lib.hid ⟨if_pos hs, by unfold startX startC; rw [if_pos hs, if_neg (by decide)]⟩
    rcases hs with hs | hs
    · go_wp2_with (go_at_call 117; refine (cuValid H.out).mono ?_; rintro e w1 ⟨rfl, rfl⟩)
      go_ret
      exact ⟨by rw [HC.out.1] <;> rfl, by rw [HC.out.2]; exact H.out, Mdh.refl _ _⟩
    · have hs0 : ¬ s < 0 := by omega
      go_wp2_with (go_at_call 117; refine (cuValid H.out).mono ?_; rintro e w1 ⟨rfl, rfl⟩)
      go_ret
      exact ⟨by rw [HC.out.1] <;> rfl, by rw [HC.out.2]; exact H.out, Mdh.refl _ _⟩
  · have hs0 : ¬ s < 0 := by omega
    have hs1 : ¬ 32 ≤ s := by omega
    obtain ⟨ch, cs, co⟩ := c
    cases ch with
    | true =>
      have HC : Hid (startC ⟨true, cs, co⟩ s = 6 ∧ startX ⟨true, cs, co⟩ s = ⟨true, cs, co⟩) := Lib.hid (by
        have h1 : startC ⟨true, cs, co⟩ s = 6 := by unfold startC; rw [if_neg hs, if_pos rfl]
        exact ⟨h1, by unfold startX; rw [h1, if_neg (by decide)]⟩)
      clear hs
      go_wp2_with (go_at_call 117; refine (cuValid H.out).mono ?_; rintro e w1 ⟨rfl, rfl⟩)
      go_ret
      exact ⟨by rw [HC.out.1] <;> rfl, by rw [HC.out.2]; exact H.out, Mdh.refl _ _⟩
    | false =>
      have HC : Hid (startC ⟨false, cs, co⟩ s = 0 ∧ startX ⟨false, cs, co⟩ s = ⟨true, s, 0⟩) := Lib.hid (by
        have h1 : startC ⟨false, cs, co⟩ s = 0 := by unfold startC; rw [if_neg hs, if_neg (by simp)]
        exact ⟨h1, by unfold startX; rw [h1, if_pos rfl]⟩)
      clear hs
      go_wp2_with (go_at_call 117; refine (cuValid H.out).mono ?_; rintro e w1 ⟨rfl, rfl⟩)
      go_ret
      exact ⟨by rw [HC.out.1] <;> rfl, by rw [HC.out.2]; exact cu4 (c' := ⟨true, s, 0⟩) H.out, (((((Mdh.refl (fun k => k = b) w).setCell (p := ⟨b, 0, none⟩) rfl _).setCell (p := ⟨b, 1, none⟩) rfl _).setCell (p := ⟨b, 2, none⟩) rfl _).setCell (p := ⟨b, 3, none⟩) rfl _)⟩
set_option maxRecDepth 40000 in
theorem cuStartN {w : World} {p : Option Addr} (h : CUN w p) (s : Int) : Calls Try.prog 59 #[.pointer p, .int .i64 s] w fun e w' => e = .returned (.int .i64 1) ∧ w = w' := by
  have H := Lib.hid h
  clear h
  go_enter Try.func59, Try.ntmps59
  go_wp2_with (go_at_call 117; refine (cuValidN H.out).mono ?_; rintro e w1 ⟨rfl, rfl⟩)
  go_ret
  exact ⟨rfl, rfl⟩

/-! ### first -/
def firstV (o : Option En) : Value := .tuple #[enV (o.getD zE), .bool o.isSome]
set_option maxRecDepth 40000 in
set_option maxHeartbeats 4000000 in
theorem first_any {w : World} {p : Option Addr} {X : IX} {S : Nat → Prop} (h : IXP w p X S) (s : Int) {g : Nat} {lb : Array Value} {pr : En → Bool} {T : Nat → Prop} (hp : PredC g lb pr T w) :
    Calls Try.prog 118 #[.pointer p, .int .i64 s, .func (.func g) #[] lb] w fun e w' => e = .returned (firstV ((X.slot s).find? pr)) ∧ Gr w w' := by
  have H := Lib.hid h
  have HP := Lib.hid hp
  have heg := hp.enter
  clear h hp
  refine calls_of_wp_marks Try.func118 rfl ?_
  simp only [Try.ntmps118, List.size_toArray, List.length_cons, List.length_nil, Nat.reduceAdd, Nat.reduceSub, Array.replicate_succ, Array.replicate_zero, List.push_toArray, List.append_toArray, List.nil_append, List.cons_append]
  go_wp2_with fail
  obtain ⟨b5, hb5⟩ : ∃ q, q = w.heap.size := ⟨_, rfl⟩
  obtain ⟨w0, hw0⟩ : ∃ y, y = ((w.alloc (.cells #[.func (.func g) #[] lb] 103)).alloc (.cells (enC zE).toArray 23)).alloc (.cells #[.bool false] 4) := ⟨_, rfl⟩
  have HSW : Hid (SW w [blkA (b5 + 1 + 1) (.cells #[.bool false] 4), blkA (b5 + 1) (.cells (enC zE).toArray 23), blkA b5 (.cells #[.func (.func g) #[] lb] 103)] w0) := Lib.hid (by
    have := (((SW.start w).alloc (.cells #[.func (.func g) #[] lb] 103)).alloc (.cells (enC zE).toArray 23)).alloc (.cells #[.bool false] 4)
    simp only [World.size_alloc] at this
    rw [hw0, hb5]
    exact this)
  simp only [enC, zE] at hw0
  rw [← hw0, ← hb5]
  clear hw0 hb5
  refine (Slot_any p s _).mono ?_
  rintro e' w1 ⟨bb, bk, rfl, h1, h2, h3, h4, hg⟩
  have HS1 := Lib.hid (HSW.out.gr hg)
  have HI := Lib.hid (H.out.gr HS1.out.g)
  have HSEQ := Lib.hid (SeqSlotP HI.out s bb bk h1 h2)
  have HA : Hid (∀ q, (q = bb ∨ q = bk ∨ S q) → q < w1.heap.size) := Lib.hid (fun q hq => by
    have l1 := World.block_lt_of_cell? w1 ⟨bb, 0, none⟩ h1
    have l2 := World.block_lt_of_cell? w1 ⟨bk, 0, none⟩ h2
    rcases hq with rfl | rfl | hq
    · exact l1
    · exact l2
    · exact HI.out.lt q hq)
  have HZ : Hid (SWz w w1 (fun q => q = bb ∨ q = bk ∨ S q) [blkA (b5 + 1 + 1) (.cells #[.bool false] 4), blkA (b5 + 1) (.cells (enC zE).toArray 23), blkA b5 (.cells #[.func (.func g) #[] lb] 103)] (fun _ => False) w1) := Lib.hid (SWz.start HS1.out (fun B hB k hk ha => by
    have l1 := HSW.out.s.lt hB k hk
    have l2 := HSW.out.n B hB k hk
    rcases ha with rfl | rfl | ha
    · omega
    · omega
    · have := H.out.lt k ha; omega))
  clear h1 h2 h3 h4 hg
  go_wp2_with fail
  apply wp_rangeFunc_zx (gf := 98) (lb := #[.pointer (some ⟨bb, 0, none⟩), .pointer (some ⟨bk, 0, none⟩)]) rfl (enters_of Try.func98 (by kernel_rfl) rfl) HSEQ.out (Mdh.refl _ w1) HA.out (fun _ => rfl)
    (fun Z pre X' => pre.find? pr = none ∧ SWz w w1 (fun q => q = bb ∨ q = bk ∨ S q) [blkA (b5 + 1 + 1) (.cells #[.bool false] 4), blkA (b5 + 1) (.cells (enC zE).toArray 23), blkA b5 (.cells #[.func (.func g) #[] lb] 103)] Z X')
    (fun _ _ _ => False)
    (fun Z pre X' => ∃ y, pre.find? pr = some y ∧ SWz w w1 (fun q => q = bb ∨ q = bk ∨ S q) [blkA (b5 + 1 + 1) (.cells #[.bool true] 4), blkA (b5 + 1) (.cells (enC y).toArray 23), blkA b5 (.cells #[.func (.func g) #[] lb] 103)] Z X')
    ((Apart.pure (fun pre : List En => pre.find? pr = none)).and (SWz.apart HS1.out.g.sz (fun _ : List En => [blkA (b5 + 1 + 1) (.cells #[.bool false] 4), blkA (b5 + 1) (.cells (enC zE).toArray 23), blkA b5 (.cells #[.func (.func g) #[] lb] 103)]))) apart_no
    (Apart.ex fun y => (Apart.pure (fun pre : List En => pre.find? pr = some y)).and (SWz.apart HS1.out.g.sz (fun _ : List En => [blkA (b5 + 1 + 1) (.cells #[.bool true] 4), blkA (b5 + 1) (.cells (enC y).toArray 23), blkA b5 (.cells #[.func (.func g) #[] lb] 103)])))
    ⟨rfl, HZ.out⟩ (fun Z pre X' h => h.2.frm HS1.out.g) (fun x => boxE x)
    _ ?assign ?body ?hend ?hret
  case assign =>
    intro l x bx X' K hbx hK
    dsimp only [encE, enV]
    gi_wp2
    rw [← hbx]
    exact hK
  case body =>
    intro l Z pre x bx X' hI hbx hx hzx hzl hlr hsp
    have HIZ := Lib.hid hI
    have HX := Lib.hid hx
    have HB5 := Lib.hid (show X'.heap[b5]? = _ from hI.2.s.get (i := 2) rfl)
    have dx := (cellsOf HX.out).1
    have d5 := (cellsOf HB5.out).1
    have HR := Lib.hid ((HP.out.gr hI.2.s.g).run x X' (Mdh.refl _ _))
    have HNX : Hid (bx ≠ b5 + 1 ∧ bx ≠ b5 + 1 + 1) := Lib.hid (by
      have l1 := blkLt (show w1.heap[b5 + 1 + 1]? = _ from HS1.out.get (i := 0) rfl)
      exact ⟨by omega, by omega⟩)
    clear hI hbx hx hzx hzl hlr hsp
    gi_wp2_with fail
    refine ⟨trivial, (CallsIn.inRound l (callsIn_wide.2 HR.out)).mono ?_⟩
    rintro e w9 ⟨rfl, hg9⟩
    have HZ9 := Lib.hid (HIZ.out.2.gr hg9)
    have HX9 := Lib.hid (hg9.blk HX.out)
    clear hg9 dx d5
    cases hpx : pr x with
    | true =>
      have HPX : Hid ((pre ++ [x]).find? pr = some x) := Lib.hid (by rw [List.find?_append, HIZ.out.1]; simp [hpx])
      have HB6 := Lib.hid (show w9.heap[b5 + 1]? = _ from HZ9.out.1.s.get (i := 1) rfl)
      have HB7 := Lib.hid (show w9.heap[b5 + 1 + 1]? = _ from HZ9.out.1.s.get (i := 0) rfl)
      obtain ⟨d6, f6⟩ := cellsOf HB6.out
      obtain ⟨d7, f7⟩ := cellsOf HB7.out
      have dx := (cellsOf HX9.out).1
      have n1 := HNX.out.1
      have n2 := HNX.out.2
      have n3 : b5 + 1 + 1 ≠ b5 + 1 := by omega
      simp only [enC, zE] at d6
      clear hpx
      gi_wp2_with fail
      have z1 := HZ9.out.1.step (i := 1) (B' := blkA (b5 + 1) (.cells (enC x).toArray 23)) rfl HA.out ((((((((Mdh.refl (fun k => k = b5 + 1) w9).setCell (p := ⟨b5 + 1, 0, none⟩) rfl (.int .i64 x.seq)).setCell (p := ⟨b5 + 1, 1, none⟩) rfl (.string x.key)).setCell (p := ⟨b5 + 1, 2, none⟩) rfl (.bool x.del)).setCell (p := ⟨b5 + 1, 3, none⟩) rfl (.int .i64 x.slot)).setCell (p := ⟨b5 + 1, 4, none⟩) rfl (.int .i64 x.off)).setCell (p := ⟨b5 + 1, 5, none⟩) rfl (.int .i64 x.size))) (fun k hk => .inl hk) (blk6 HB6.out) (fun k hk => .inl hk)
      have z2 := z1.1.step (i := 0) (B' := blkA (b5 + 1 + 1) (.cells #[.bool true] 4)) rfl HA.out ((Mdh.refl (fun k => k = b5 + 1 + 1) _).setCell (p := ⟨b5 + 1 + 1, 0, none⟩) rfl (.bool true)) (fun k hk => .inl hk) (blkSet (j := 0) (u := .bool true) (z1.1.s.get (i := 0) rfl)) (fun k hk => .inl hk)
      exact ⟨((HZ9.out.2.trans z1.2).trans z2.2).mono (fun k h => h.2), x, HPX.out, z2.1⟩
    | false =>
      have HPX : Hid ((pre ++ [x]).find? pr = none) := Lib.hid (by rw [List.find?_append, HIZ.out.1]; simp [hpx])
      clear hpx
      gi_wp2_with fail
      exact ⟨HZ9.out.2, HPX.out, HZ9.out.1⟩
  case hend =>
    intro Z D xs W hD hZD hcase hdef
    obtain ⟨hxs, hI⟩ := hcase.elim (fun h => h) (fun h => h.2.elim)
    have HE : Hid ((X.slot s).find? pr = none) := Lib.hid (by rw [← show xs = X.slot s from hxs]; exact hI.1)
    have HD := Lib.hid (And.intro hD (And.intro hZD hdef))
    have HB6 := Lib.hid (show W.heap[b5 + 1]? = _ from hI.2.s.get (i := 1) rfl)
    have HB7 := Lib.hid (show W.heap[b5 + 1 + 1]? = _ from hI.2.s.get (i := 0) rfl)
    obtain ⟨d6, f6⟩ := cellsOf HB6.out
    obtain ⟨d7, f7⟩ := cellsOf HB7.out
    have n3 : b5 + 1 + 1 ≠ b5 + 1 := by omega
    have HIW := Lib.hid hI.2
    clear hI hcase hxs hD hZD hdef
    simp only [enC, zE] at d6
    dsimp only
    go_wp2_with fail
    obtain ⟨hD, hZD, hdef⟩ := HD.out
    have hn6 : w.heap.size ≤ b5 + 1 := HSW.out.n _ (List.mem_cons_of_mem _ (List.mem_cons_self ..)) _ rfl
    have hn7 : w.heap.size ≤ b5 + 1 + 1 := by omega
    have hn : ∀ q, q = b5 + 1 ∨ q = b5 + 1 + 1 → D ≠ q := fun q hq e => by
      rcases hq with h | h
      · exact HIW.out.z _ (List.mem_cons_of_mem _ (List.mem_cons_self ..)) q h (e ▸ hZD)
      · exact HIW.out.z _ (List.mem_cons_self ..) q h (e ▸ hZD)
    have n6 := hn _ (.inl rfl)
    have n7 := hn _ (.inr rfl)
    have h6 := blkSetO (p := ⟨b5 + 1 + 1, 0, none⟩) (u := .bool false) (blk6 (y0 := .int .i64 0) (y1 := .string ⟨#[]⟩) (y2 := .bool false) (y3 := .int .i64 0) (y4 := .int .i64 0) (y5 := .int .i64 0) HB6.out) (by simp)
    have h7 := blkSet (j := 0) (u := .bool false) (blkSetO (p := ⟨b5 + 1, 5, none⟩) (u := .int .i64 0) (blkSetO (p := ⟨b5 + 1, 4, none⟩) (u := .int .i64 0) (blkSetO (p := ⟨b5 + 1, 3, none⟩) (u := .int .i64 0) (blkSetO (p := ⟨b5 + 1, 2, none⟩) (u := .bool false) (blkSetO (p := ⟨b5 + 1, 1, none⟩) (u := .string ⟨#[]⟩) (blkSetO (p := ⟨b5 + 1, 0, none⟩) (u := .int .i64 0) HB7.out n3) n3) n3) n3) n3) n3)
    have h6' := (World.putObj_heap_other (o := .deferred none) n6.symm).trans h6
    have h7' := (World.putObj_heap_other (o := .deferred none) n7.symm).trans h7
    obtain ⟨e6, _⟩ := cellsOf h6'
    obtain ⟨e7, _⟩ := cellsOf h7'
    refine retM1 (D := D) (v := .tuple #[enV zE, .bool false]) rfl (blkSetO (blkSetO (blkSetO (blkSetO (blkSetO (blkSetO (blkSetO hdef n6) n6) n6) n6) n6) n6) n7) ?_ ⟨by rw [HE.out]; rfl, ((((((((HIW.out.s.g.setCell (p := ⟨b5 + 1, 0, none⟩) hn6 _).setCell (p := ⟨b5 + 1, 1, none⟩) hn6 _).setCell (p := ⟨b5 + 1, 2, none⟩) hn6 _).setCell (p := ⟨b5 + 1, 3, none⟩) hn6 _).setCell (p := ⟨b5 + 1, 4, none⟩) hn6 _).setCell (p := ⟨b5 + 1, 5, none⟩) hn6 _).setCell (p := ⟨b5 + 1 + 1, 0, none⟩) hn7 _).putObj (by have := HS1.out.g.sz; omega) _)⟩
    simp [results, Try.results118, go_sem, e6, e7, enV, zE]
  case hret =>
    intro Z D pre W hD hZD hsp hI hdef
    obtain ⟨y, hy, hI⟩ := hI
    have HE : Hid ((X.slot s).find? pr = some y) := Lib.hid (by
      obtain ⟨t, ht⟩ := hsp
      rw [← show pre ++ t = X.slot s from ht, List.find?_append, hy]; rfl)
    have hb6 : W.heap[b5 + 1]? = _ := hI.s.get (i := 1) rfl
    have hb7 : W.heap[b5 + 1 + 1]? = _ := hI.s.get (i := 0) rfl
    have n6 : D ≠ b5 + 1 := fun e => hI.z _ (List.mem_cons_of_mem _ (List.mem_cons_self ..)) (b5 + 1) rfl (e ▸ hZD)
    have n7 : D ≠ b5 + 1 + 1 := fun e => hI.z _ (List.mem_cons_self ..) (b5 + 1 + 1) rfl (e ▸ hZD)
    have h6' := (World.putObj_heap_other (o := .deferred none) n6.symm).trans hb6
    have h7' := (World.putObj_heap_other (o := .deferred none) n7.symm).trans hb7
    obtain ⟨e6, _⟩ := cellsOf h6'
    obtain ⟨e7, _⟩ := cellsOf h7'
    simp only [enC] at e6
    dsimp only
    go_wp2_with fail
    refine retM1 (D := D) (v := .tuple #[enV y, .bool true]) rfl hdef ?_ ⟨by rw [HE.out]; rfl, hI.s.g.putObj (by have := HS1.out.g.sz; omega) _⟩
    simp [results, Try.results118, go_sem, e6, e7, enV]
end Go.Proofs.Ytiidkehcfoajeaa

/- cursor: Peek, Advance. -/
set_option linter.unusedVariables false
set_option linter.unusedSimpArgs false
namespace Go.Proofs.Ytiidkehcfoajeaa
open Go.RowKit Go.Shelf
attribute [local go_sem] OvM cell_ovm obj_ovm
attribute [local go_sem] Oper.semAt_some

def atCu (c : Cu) (e : En) : Bool := decide (c.off ≤ e.off)
def peekE (X : IX) (c : Cu) : Option En := (X.slot c.slot).find? (atCu c)
def peekC (X : IX) (c : Cu) : Int := if X.slots = [] then 1 else if c.has = false then 7 else if (X.slots.length : Int) ≤ c.slot then 3 else 0
def peekO (X : IX) (c : Cu) : Option En := if peekC X c = 0 then peekE X c else none
def peekV (X : IX) (c : Cu) : Value := match peekO X c with | none => .tuple #[enV zE, .bool false, .bool false, .int .i64 (peekC X c)] | some e => .tuple #[enV e, .bool (X.needs e), .bool true, .int .i64 0]
set_option maxRecDepth 40000 in
theorem cuP1 {w : World} {b2 b : Nat} {c : Cu} (h2 : w.heap[b2]? = some (.cells #[.pointer (some ⟨b, 0, none⟩)] 88)) (h : w.heap[b]? = some (cuO c)) (e : En) :
    Calls Try.prog 119 #[enV e, .pointer (some ⟨b2, 0, none⟩)] w fun r w' => r = .returned (.bool (atCu c e)) ∧ Gr w w' := by
  have HB : Hid (atCu c e = decide (c.off ≤ e.off)) := Lib.hid rfl
  rw [HB.out]
  simp only [enV]
  go_enter Try.func119, Try.ntmps119
  go_wp2_with fail
  obtain ⟨b3, hb3⟩ : ∃ q, q = w.heap.size := ⟨_, rfl⟩
  obtain ⟨w1, hw1⟩ : ∃ y, y = w.alloc (boxE e) := ⟨_, rfl⟩
  have H1 : Hid (Gr w w1) := Lib.hid (by rw [hw1]; exact (Gr.refl w).alloc _)
  have c2 := ((cellsOf (H1.out.blk h2)).1 0).trans (show _ = some (Value.pointer (some ⟨b, 0, none⟩)) from rfl)
  obtain ⟨c0, _, _, c3, _⟩ := cuC (H1.out.blk h)
  have c4 : w1.cell? ⟨b3, 4, none⟩ = some (.int .i64 e.off) := by rw [hw1, hb3]; exact ((cellsOf (blkNew w (boxE e))).1 4).trans rfl
  have l2 := blkLt (H1.out.blk h2)
  have l := blkLt (H1.out.blk h)
  have l3 : b3 < w1.heap.size := by rw [hw1, hb3]; simp
  rw [← show w1 = w.alloc (.cells #[.int .i64 e.seq, .string e.key, .bool e.del, .int .i64 e.slot, .int .i64 e.off, .int .i64 e.size] 23) from hw1, ← hb3]
  clear hw1 hb3 h h2
  by_cases hc : c.off ≤ e.off
  all_goals
    refine wp_region_flo (fun _ => False) [] [] (by kernel_rfl) (by kernel_rfl) (fun _ h => h.elim) ?_
    refine flo_seg 8 rfl ?_
    simp only [List.take_succ_cons, List.take_zero, List.drop_succ_cons, List.drop_zero]
    repeat (go_big_quiet_step (fail))
    refine wpQuiet_nil ?_
    refine flo_nil ?_
    go_wp2
    go_ret
    exact ⟨ret_bool (by simp [hc]), H1.out.trans (by (repeat (first | (with_reducible exact Gr.refl _) | assumption | (with_reducible apply Gr.from_drew) | (with_reducible apply Gr.alloc) | (with_reducible apply Gr.drew) | (with_reducible refine Gr.trans ?_ (by assumption)) | (with_reducible refine Gr.setCell ?_ (by omega) _))))⟩
theorem cuPP {w : World} {b2 b : Nat} {c : Cu} (h2 : w.heap[b2]? = some (.cells #[.pointer (some ⟨b, 0, none⟩)] 88)) (h : w.heap[b]? = some (cuO c)) : PredC 119 #[.pointer (some ⟨b2, 0, none⟩)] (atCu c) (fun _ => False) w :=
  ⟨enters_of Try.func119 (by kernel_rfl) rfl, fun x w' m => cuP1 (m.blk h2 (fun h => h)) (m.blk h (fun h => h)) x⟩
theorem needed_in {X : IX} (h : X.Wf) (h0 : X.slots ≠ []) {s : Int} {e : En} (he : e ∈ X.slot s) : neededV X e = .tuple #[.bool (X.needs e), .int .i64 0] := by
  have h1 : X.hasE e = true := by
    unfold IX.hasE
    rw [List.any_eq_true]
    exact ⟨e, (h.of_mem e.key e).2 ⟨((h.slot_mem s e).1 he).1, rfl⟩, by simp⟩
  unfold neededV
  rw [if_neg h0, if_neg (by rw [h1]; simp)]
/-- The result's cells, stored anew, and a block more. -/
theorem resGr {w0 w : World} {b : Nat} (h : Gr w0 w) (hn : w0.heap.size ≤ b) (y0 y1 y2 y3 y4 y5 : Value) :
    Gr w0 ((((((w.setCell ⟨b, 0, none⟩ y0).setCell ⟨b, 1, none⟩ y1).setCell ⟨b, 2, none⟩ y2).setCell ⟨b, 3, none⟩ y3).setCell ⟨b, 4, none⟩ y4).setCell ⟨b, 5, none⟩ y5) :=
  ((((((h.setCell (p := ⟨b, 0, none⟩) hn _).setCell (p := ⟨b, 1, none⟩) hn _).setCell (p := ⟨b, 2, none⟩) hn _).setCell (p := ⟨b, 3, none⟩) hn _).setCell (p := ⟨b, 4, none⟩) hn _).setCell (p := ⟨b, 5, none⟩) hn _)
abbrev boxZ : Obj := .cells #[.int .i64 0, .string ⟨#[]⟩, .bool false, .int .i64 0, .int .i64 0, .int .i64 0] 23
set_option maxRecDepth 40000 in
set_option maxHeartbeats 4000000 in
theorem cuPeek {w : World} {b : Nat} {c : Cu} {p : Option Addr} {X : IX} {S : Nat → Prop} (hc : w.heap[b]? = some (cuO c)) (h : IXP w p X S) : Calls Try.prog 56 #[.pointer (some ⟨b, 0, none⟩), .pointer p] w fun e w' => e = .returned (peekV X c) ∧ Gr w w' := by
  have H := Lib.hid h
  have HOK := Lib.hid h.ok
  have HCB := Lib.hid hc
  have HV : Hid (peekV X c = match peekO X c with | none => .tuple #[enV zE, .bool false, .bool false, .int .i64 (peekC X c)] | some e => .tuple #[enV e, .bool (X.needs e), .bool true, .int .i64 0]) := Lib.hid rfl
  clear h hc
  go_enter Try.func56, Try.ntmps56
  go_wp2_with fail
  obtain ⟨b2, hb2⟩ : ∃ q, q = w.heap.size := ⟨_, rfl⟩
  obtain ⟨w0, hw0⟩ : ∃ y, y = (w.alloc (.cells #[.pointer (some ⟨b, 0, none⟩)] 88)).alloc boxZ := ⟨_, rfl⟩
  have H0 : Hid (Gr w w0 ∧ w0.heap[b2]? = some (.cells #[.pointer (some ⟨b, 0, none⟩)] 88) ∧ w0.heap[b2 + 1]? = some boxZ ∧ w.heap.size ≤ b2 + 1) := Lib.hid (by
    have h2 := blkNew (w.alloc (.cells #[.pointer (some ⟨b, 0, none⟩)] 88)) boxZ
    rw [World.size_alloc, ← hb2] at h2
    rw [hw0]
    exact ⟨((Gr.refl w).alloc _).alloc _, by rw [hb2]; exact blkOld (blkNew w _), h2, by omega⟩)
  rw [← show w0 = (w.alloc (.cells #[.pointer (some ⟨b, 0, none⟩)] 88)).alloc (.cells #[.int .i64 0, .string ⟨#[]⟩, .bool false, .int .i64 0, .int .i64 0, .int .i64 0] 23) from hw0, ← hb2]
  clear hw0 hb2
  refine (cuValid (H0.out.1.blk HCB.out)).mono ?_
  rintro e w1 ⟨rfl, rfl⟩
  go_wp2_with fail
  refine (Copy_any (H.out.gr H0.out.1)).mono ?_
  rintro r w1 ⟨q, rfl, hg, hq, _⟩
  have H1 : Hid (Gr w w1 ∧ w1.heap[b2]? = some (.cells #[.pointer (some ⟨b, 0, none⟩)] 88) ∧ w1.heap[b2 + 1]? = some boxZ ∧ w.heap.size ≤ b2 + 1) := Lib.hid ⟨H0.out.1.trans hg, hg.blk H0.out.2.1, hg.blk H0.out.2.2.1, H0.out.2.2.2⟩
  have hcb := H1.out.1.blk HCB.out
  obtain ⟨c0, c1, c2, c3, cf⟩ := cuC hcb
  have d2 := (cellsOf H1.out.2.1).1
  obtain ⟨d4, f4⟩ := cellsOf H1.out.2.2.1
  clear hg hcb H0
  have hres : ∀ (w' : World) (y0 y1 y2 y3 y4 y5 : Value), w'.heap[b2 + 1]? = some boxZ → ∀ j, ((((((w'.setCell ⟨b2 + 1, 0, none⟩ y0).setCell ⟨b2 + 1, 1, none⟩ y1).setCell ⟨b2 + 1, 2, none⟩ y2).setCell ⟨b2 + 1, 3, none⟩ y3).setCell ⟨b2 + 1, 4, none⟩ y4).setCell ⟨b2 + 1, 5, none⟩ y5).cell? ⟨b2 + 1, j, none⟩ = #[y0, y1, y2, y3, y4, y5][j]? := fun w' y0 y1 y2 y3 y4 y5 h => (cellsOf (blk6 h)).1
  have HRES := Lib.hid hres
  clear hres
  by_cases h0 : X.slots = []
  · have hq0 := hq.2 h0
    have HR : Hid (peekV X c = .tuple #[enV zE, .bool false, .bool false, .int .i64 1]) := Lib.hid (by
      have h1 : peekC X c = 1 := if_pos h0
      rw [HV.out, show peekO X c = none by unfold peekO; rw [h1, if_neg (by decide)], h1])
    clear h0 hq
    subst hq0
    go_wp2_with fail
    refine bodyPost_ret (v := .tuple #[enV zE, .bool false, .bool false, .int .i64 1]) ?_ rfl ⟨by rw [HR.out], resGr H1.out.1 H1.out.2.2.2 _ _ _ _ _ _⟩
    have e4 := HRES.out w1 (.int .i64 0) (.string ⟨#[]⟩) (.bool false) (.int .i64 0) (.int .i64 0) (.int .i64 0) H1.out.2.2.1
    simp [results, Try.results56, go_sem, e4, enV, zE]
  · obtain ⟨q', rfl⟩ : ∃ q', q = some q' := by
      cases q with
      | none => exact absurd (hq.1 rfl) h0
      | some q' => exact ⟨q', rfl⟩
    have HNE := Lib.hid h0
    clear h0 hq
    obtain ⟨ch, cs, co⟩ := c
    simp only at c1 c2 c3
    cases ch with
    | false =>
      have HR : Hid (peekV X ⟨false, cs, co⟩ = .tuple #[enV zE, .bool false, .bool false, .int .i64 7]) := Lib.hid (by
        have h1 : peekC X ⟨false, cs, co⟩ = 7 := by unfold peekC; rw [if_neg HNE.out, if_pos rfl]
        rw [HV.out, show peekO X ⟨false, cs, co⟩ = none by unfold peekO; rw [h1, if_neg (by decide)], h1])
      go_wp2_with fail
      refine bodyPost_ret (v := .tuple #[enV zE, .bool false, .bool false, .int .i64 7]) ?_ rfl ⟨by rw [HR.out], resGr H1.out.1 H1.out.2.2.2 _ _ _ _ _ _⟩
      have e4 := HRES.out w1 (.int .i64 0) (.string ⟨#[]⟩) (.bool false) (.int .i64 0) (.int .i64 0) (.int .i64 0) H1.out.2.2.1
      simp [results, Try.results56, go_sem, e4, enV, zE]
    | true =>
      obtain ⟨n, hn⟩ : ∃ n, n = X.slots.length := ⟨_, rfl⟩
      have HN := Lib.hid hn
      have HSL : Hid (∀ w1, Gr w w1 → Calls Try.prog 67 #[.pointer p] w1 fun e w' => e = .returned (.int .i64 n) ∧ w1 = w') := Lib.hid (fun w1 g => by rw [hn]; exact Slots_any (H.out.gr g))
      clear hn
      by_cases hs : (n : Int) ≤ cs
      · have HR : Hid (peekV X ⟨true, cs, co⟩ = .tuple #[enV zE, .bool false, .bool false, .int .i64 3]) := Lib.hid (by
          have h1 : peekC X ⟨true, cs, co⟩ = 3 := by unfold peekC; rw [if_neg HNE.out, if_neg (by simp), if_pos (by rw [← HN.out]; exact hs)]
          rw [HV.out, show peekO X ⟨true, cs, co⟩ = none by unfold peekO; rw [h1, if_neg (by decide)], h1])
        go_wp2_with fail
        refine wp_region_flo (fun _ => False) [] [] (by kernel_rfl) (by kernel_rfl) (fun _ h => h.elim) ?_
        refine flo_seg 5 rfl ?_
        simp only [List.take_succ_cons, List.take_zero, List.drop_succ_cons, List.drop_zero]
        repeat (go_big_quiet_step (fail))
        refine wpQuiet_nil ?_
        refine flo_eff rfl rfl rfl rfl (fun K hK => ?_)
        go_wp2_with ((go_at_call 67; refine (HSL.out _ (H1.out.1.drew)).mono ?_; rintro r w2 ⟨rfl, rfl⟩))
        refine ⟨by exact (Gr.refl _).mdh _, ?_⟩
        refine flo_seg 2 rfl ?_
        simp only [List.take_succ_cons, List.take_zero, List.drop_succ_cons, List.drop_zero]
        repeat (go_big_quiet_step (fail))
        refine wpQuiet_nil ?_
        refine flo_nil ?_
        go_wp2_with fail
        refine bodyPost_ret (v := .tuple #[enV zE, .bool false, .bool false, .int .i64 3]) ?_ rfl ⟨by rw [HR.out], (resGr H1.out.1 H1.out.2.2.2 _ _ _ _ _ _).drew⟩
        have e4 := HRES.out w1 (.int .i64 0) (.string ⟨#[]⟩) (.bool false) (.int .i64 0) (.int .i64 0) (.int .i64 0) H1.out.2.2.1
        simp [results, Try.results56, go_sem, e4, enV, zE]
      · have HPC : Hid (peekC X ⟨true, cs, co⟩ = 0) := Lib.hid (by unfold peekC; rw [if_neg HNE.out, if_neg (by simp), if_neg (by rw [← HN.out]; exact hs)])
        go_wp2_with fail
        refine wp_region_flo (fun _ => False) [] [] (by kernel_rfl) (by kernel_rfl) (fun _ h => h.elim) ?_
        refine flo_seg 5 rfl ?_
        simp only [List.take_succ_cons, List.take_zero, List.drop_succ_cons, List.drop_zero]
        repeat (go_big_quiet_step (fail))
        refine wpQuiet_nil ?_
        refine flo_eff rfl rfl rfl rfl (fun K hK => ?_)
        go_wp2_with ((go_at_call 67; refine (HSL.out _ (H1.out.1.drew)).mono ?_; rintro r w2 ⟨rfl, rfl⟩))
        refine ⟨by exact (Gr.refl _).mdh _, ?_⟩
        refine flo_seg 2 rfl ?_
        simp only [List.take_succ_cons, List.take_zero, List.drop_succ_cons, List.drop_zero]
        repeat (go_big_quiet_step (fail))
        refine wpQuiet_nil ?_
        refine flo_nil ?_
        clear c0 c1 c2 c3 cf d2 d4 f4
        have hcb := H1.out.1.drew.blk HCB.out
        have H2 : Hid (Gr w w1.drew ∧ w1.drew.heap[b2]? = some (.cells #[.pointer (some ⟨b, 0, none⟩)] 88) ∧ w1.drew.heap[b2 + 1]? = some boxZ ∧ w.heap.size ≤ b2 + 1 ∧ w1.drew.heap[b]? = some (cuO ⟨true, cs, co⟩)) := Lib.hid ⟨H1.out.1.drew, H1.out.2.1, H1.out.2.2.1, H1.out.2.2.2, hcb⟩
        clear hcb H1
        generalize w1.drew = w2 at *
        obtain ⟨c0, c1, c2, c3, cf⟩ := cuC H2.out.2.2.2.2
        have d2 := (cellsOf H2.out.2.1).1
        simp only at c1 c2 c3
        go_wp2_with fail
        clear hs
        refine (first_any (H.out.gr H2.out.1) cs (cuPP H2.out.2.1 H2.out.2.2.2.2)).mono ?_
        rintro r w3 ⟨rfl, hg⟩
        have H3 : Hid (Gr w w3 ∧ w3.heap[b2 + 1]? = some boxZ ∧ w.heap.size ≤ b2 + 1) := Lib.hid ⟨H2.out.1.trans hg, hg.blk H2.out.2.2.1, H2.out.2.2.2.1⟩
        obtain ⟨d4, f4⟩ := cellsOf H3.out.2.1
        have l4 := blkLt H3.out.2.1
        have HPO : Hid (peekO X ⟨true, cs, co⟩ = (X.slot cs).find? (atCu ⟨true, cs, co⟩)) := Lib.hid (by unfold peekO; rw [if_pos HPC.out]; rfl)
        clear hg c0 c1 c2 c3 cf d2
        cases hf : (X.slot cs).find? (atCu ⟨true, cs, co⟩) with
        | none =>
          have HR : Hid (peekV X ⟨true, cs, co⟩ = .tuple #[enV zE, .bool false, .bool false, .int .i64 0]) := Lib.hid (by rw [HV.out, HPO.out, hf, HPC.out])
          clear hf
          simp only [firstV, Option.getD_none, Option.isSome_none, enV, zE]
          go_wp2_with fail
          refine bodyPost_ret (v := .tuple #[enV zE, .bool false, .bool false, .int .i64 0]) ?_ rfl ⟨by rw [HR.out], (resGr H3.out.1 H3.out.2.2 _ _ _ _ _ _).alloc _⟩
          have e4 := (cellsOf (blkOld (o' := boxZ) (blk6 (y0 := .int .i64 0) (y1 := .string ⟨#[]⟩) (y2 := .bool false) (y3 := .int .i64 0) (y4 := .int .i64 0) (y5 := .int .i64 0) H3.out.2.1))).1
          simp [results, Try.results56, go_sem, e4, enV, zE]
        | some x =>
          have HR : Hid (peekV X ⟨true, cs, co⟩ = .tuple #[enV x, .bool (X.needs x), .bool true, .int .i64 0]) := Lib.hid (by rw [HV.out, HPO.out, hf])
          have HND := Lib.hid (needed_in HOK.out HNE.out (List.mem_of_find?_eq_some hf))
          clear hf
          simp only [firstV, Option.getD_some, Option.isSome_some, enV]
          go_wp2_with fail
          have HB8 : Hid ((w3.alloc (boxE x)).heap[w3.heap.size]? = some (boxE x)) := Lib.hid (blkNew w3 _)
          refine (Needed_any (H.out.gr (H3.out.1.alloc _)) x).mono ?_
          rintro r w4 ⟨rfl, hg⟩
          rw [HND.out]
          have H4 : Hid (Gr w w4 ∧ w4.heap[b2 + 1]? = some boxZ ∧ w.heap.size ≤ b2 + 1) := Lib.hid ⟨(H3.out.1.alloc _).trans hg, hg.blk (((Gr.refl w3).alloc _).blk H3.out.2.1), H3.out.2.2⟩
          have d8 := (cellsOf (hg.blk HB8.out)).1
          clear hg d4 f4
          obtain ⟨d4, f4⟩ := cellsOf H4.out.2.1
          go_wp2_with fail
          refine bodyPost_ret (v := .tuple #[enV x, .bool (X.needs x), .bool true, .int .i64 0]) ?_ rfl ⟨by rw [HR.out], resGr H4.out.1 H4.out.2.2 _ _ _ _ _ _⟩
          have e4 := HRES.out w4 (.int .i64 x.seq) (.string x.key) (.bool x.del) (.int .i64 x.slot) (.int .i64 x.off) (.int .i64 x.size) H4.out.2.1
          simp [results, Try.results56, go_sem, e4, enV]
set_option maxRecDepth 40000 in
set_option maxHeartbeats 2000000 in
theorem cuPeekN {w : World} {p q : Option Addr} (h : CUN w p) : Calls Try.prog 56 #[.pointer p, .pointer q] w fun e w' => e = .returned (.tuple #[enV zE, .bool false, .bool false, .int .i64 1]) ∧ Gr w w' := by
  have H := Lib.hid h
  clear h
  go_enter Try.func56, Try.ntmps56
  go_wp2_with fail
  obtain ⟨b2, hb2⟩ : ∃ q, q = w.heap.size := ⟨_, rfl⟩
  obtain ⟨w0, hw0⟩ : ∃ y, y = (w.alloc (.cells #[.pointer p] 88)).alloc boxZ := ⟨_, rfl⟩
  have H0 : Hid (Gr w w0 ∧ w0.heap[b2]? = some (.cells #[.pointer p] 88) ∧ w0.heap[b2 + 1]? = some boxZ ∧ w.heap.size ≤ b2 + 1) := Lib.hid (by
    have h2 := blkNew (w.alloc (.cells #[.pointer p] 88)) boxZ
    rw [World.size_alloc, ← hb2] at h2
    rw [hw0]
    exact ⟨((Gr.refl w).alloc _).alloc _, by rw [hb2]; exact blkOld (blkNew w _), h2, by omega⟩)
  rw [← show w0 = (w.alloc (.cells #[.pointer p] 88)).alloc (.cells #[.int .i64 0, .string ⟨#[]⟩, .bool false, .int .i64 0, .int .i64 0, .int .i64 0] 23) from hw0, ← hb2]
  clear hw0 hb2
  refine (cuValidN (H.out.gr H0.out.1)).mono ?_
  rintro e w1 ⟨rfl, rfl⟩
  obtain ⟨d4, f4⟩ := cellsOf H0.out.2.2.1
  go_wp2_with fail
  refine bodyPost_ret (v := .tuple #[enV zE, .bool false, .bool false, .int .i64 1]) ?_ rfl ⟨rfl, resGr H0.out.1 H0.out.2.2.2 _ _ _ _ _ _⟩
  have e4 := (cellsOf (blk6 (y0 := .int .i64 0) (y1 := .string ⟨#[]⟩) (y2 := .bool false) (y3 := .int .i64 0) (y4 := .int .i64 0) (y5 := .int .i64 0) H0.out.2.2.1)).1
  simp [results, Try.results56, go_sem, e4, enV, zE]
def advC (X : IX) (c : Cu) : Int := if peekC X c ≠ 0 then peekC X c else match peekE X c with | none => 5 | some _ => 0
def advX (X : IX) (c : Cu) : Cu := match peekO X c with | none => c | some e => ⟨c.has, c.slot, e.off + e.size⟩
end Go.Proofs.Ytiidkehcfoajeaa

/- cursor: Advance; the calls beside an index; drumlinlaw28: put. -/
set_option linter.unusedVariables false
set_option linter.unusedSimpArgs false
namespace Go.Proofs.Ytiidkehcfoajeaa
open Go.RowKit Go.Shelf
attribute [local go_sem] OvM cell_ovm obj_ovm
attribute [local go_sem] Oper.semAt_some

theorem peekO_b {X : IX} (h : X.Wf) {c : Cu} {e : En} (he : peekO X c = some e) : peekC X c = 0 ∧ 0 ≤ e.off ∧ e.off + e.size ≤ 8192 ∧ 0 ≤ e.size ∧ peekE X c = some e := by
  unfold peekO at he
  by_cases h0 : peekC X c = 0
  · rw [if_pos h0] at he
    have hv := (valid_iff e).1 (h.valid ((h.slot_mem c.slot e).1 (List.mem_of_find?_eq_some he)).1).1
    exact ⟨h0, by omega, by omega, by omega, he⟩
  · rw [if_neg h0] at he; cases he
def pvO (X : IX) (n : Int) (o : Option En) : Value := match o with | none => .tuple #[enV zE, .bool false, .bool false, .int .i64 n] | some e => .tuple #[enV e, .bool (X.needs e), .bool true, .int .i64 0]
def axO (c : Cu) (o : Option En) : Cu := match o with | none => c | some e => ⟨c.has, c.slot, e.off + e.size⟩
set_option maxRecDepth 40000 in
set_option maxHeartbeats 4000000 in
theorem cuAdvance {w : World} {b : Nat} {c : Cu} {p : Option Addr} {X : IX} {S : Nat → Prop} (hc : w.heap[b]? = some (cuO c)) (h : IXP w p X S) : Calls Try.prog 60 #[.pointer (some ⟨b, 0, none⟩), .pointer p] w fun e w' => e = .returned (.int .i64 (advC X c)) ∧ w'.heap[b]? = some (cuO (advX X c)) ∧ Mdh (fun k => k = b) w w' := by
  have H := Lib.hid h
  have HCB := Lib.hid hc
  have hb := fun e he => peekO_b h.ok (c := c) (e := e) he
  obtain ⟨o, ho⟩ : ∃ o, o = peekO X c := ⟨_, rfl⟩
  obtain ⟨n, hn⟩ : ∃ n, n = peekC X c := ⟨_, rfl⟩
  have HPV : Hid (peekV X c = pvO X n o) := Lib.hid (by rw [ho, hn]; rfl)
  have HX : Hid (advX X c = axO c o) := Lib.hid (by rw [ho]; rfl)
  have HC1 : Hid (n ≠ 0 → advC X c = n) := Lib.hid (fun h0 => by rw [hn]; exact if_pos (by rw [← hn]; exact h0))
  have HC2 : Hid (n = 0 → o = none → advC X c = 5) := Lib.hid (fun h0 h1 => by
    have e0 : peekC X c = 0 := by rw [← hn]; exact h0
    have e1 : peekE X c = none := by rw [ho] at h1; unfold peekO at h1; rw [if_pos e0] at h1; exact h1
    unfold advC
    rw [if_neg (by rw [e0]; simp), e1])
  have HC3 : Hid (∀ e, o = some e → advC X c = 0 ∧ 0 ≤ e.off ∧ e.off + e.size ≤ 8192 ∧ 0 ≤ e.size) := Lib.hid (fun e h1 => by
    obtain ⟨e0, b1, b2, b3, e1⟩ := hb e (by rw [← ho]; exact h1)
    unfold advC
    rw [if_neg (by rw [e0]; simp), e1]
    exact ⟨rfl, b1, b2, b3⟩)
  clear h hc hb ho hn
  go_enter Try.func60, Try.ntmps60
  go_wp2_with fail
  refine (cuPeek HCB.out H.out).mono ?_
  rintro r w1 ⟨rfl, hg⟩
  rw [HPV.out]
  have HG := Lib.hid hg
  clear hg
  cases o with
  | none =>
    have hx := HX.out
    simp only [axO] at hx
    have HXX := Lib.hid hx
    clear hx
    simp only [pvO, enV, zE]
    by_cases h0 : n = 0
    · subst h0
      have HC5 : Hid (advC X c = 5) := Lib.hid (HC2.out rfl rfl)
      clear HC2 HC1 HC3
      go_wp2
      go_ret
      exact ⟨by rw [HC5.out] <;> rfl, by rw [HXX.out]; exact (HG.out.alloc _).blk HCB.out, (HG.out.alloc _).mdh _⟩
    · have h0' : (n == 0) = false := beq_false_of_ne h0
      have HC := Lib.hid (HC1.out h0)
      clear h0
      go_wp2
      go_ret
      exact ⟨by rw [HC.out] <;> rfl, by rw [HXX.out]; exact (HG.out.alloc _).blk HCB.out, (HG.out.alloc _).mdh _⟩
  | some x =>
    have hx := HX.out
    simp only [axO] at hx
    have HXX := Lib.hid hx
    obtain ⟨hz, hb1, hb2, hb3⟩ := HC3.out x rfl
    have HZ := Lib.hid hz
    clear hx hz
    simp only [pvO, enV]
    have hcb := HG.out.blk HCB.out
    obtain ⟨c0, c1, c2, c3, cf⟩ := cuC hcb
    have l := blkLt hcb
    clear hcb
    go_wp2
    go_ret
    exact ⟨by rw [HZ.out] <;> rfl, by rw [HXX.out]; exact blkOld (blkSet (j := 3) (HG.out.blk HCB.out)), ((HG.out.mdh (fun k => k = b)).setCell (p := ⟨b, 3, none⟩) rfl _).alloc _⟩
set_option maxRecDepth 40000 in
theorem cuAdvanceN {w : World} {p q : Option Addr} (h : CUN w p) : Calls Try.prog 60 #[.pointer p, .pointer q] w fun e w' => e = .returned (.int .i64 1) ∧ Gr w w' := by
  have H := Lib.hid h
  clear h
  go_enter Try.func60, Try.ntmps60
  go_wp2_with fail
  refine (cuPeekN H.out).mono ?_
  rintro r w1 ⟨rfl, hg⟩
  have HG := Lib.hid hg
  clear hg
  simp only [enV, zE]
  go_wp2
  go_ret
  exact ⟨rfl, HG.out.alloc _⟩

/-! ### Beside an index -/
theorem SW.cuset {w0 w w' : World} {R : List Asn} {A : Asn} {b : Nat} {c c' : Cu} (h : SW w0 (A :: blkA b (cuO c) :: R) w) (hb : w'.heap[b]? = some (cuO c')) (m : Mdh (fun k => k = b) w w') : SW w0 (A :: blkA b (cuO c') :: R) w' :=
  h.at (i := 1) rfl m (fun k hk => .inl hk) hb (fun k hk => .inl hk)
theorem SW.cu {w0 w : World} {R : List Asn} {A : Asn} {b : Nat} {c : Cu} (h : SW w0 (A :: blkA b (cuO c) :: R) w) : w.heap[b]? = some (cuO c) := h.get (i := 1) rfl
section
variable {w0 w : World} {R : List Asn} {b cb : Nat} {X : IX} {S : Nat → Prop} {c : Cu}
theorem adv_sw (h : SW w0 (ixA b X S :: blkA cb (cuO c) :: R) w) : Calls Try.prog 60 #[.pointer (some ⟨cb, 0, none⟩), .pointer (some ⟨b, 0, none⟩)] w fun e w' => e = .returned (.int .i64 (advC X c)) ∧ SW w0 (ixA b X S :: blkA cb (cuO (advX X c)) :: R) w' ∧ Mdh (fun k => k = cb) w w' :=
  (cuAdvance h.cu h.ixp).mono fun _ _ ⟨e, hb, m⟩ => ⟨e, h.cuset hb m, m⟩
theorem start_sw {A : Asn} (h : SW w0 (A :: blkA cb (cuO c) :: R) w) (s : Int) : Calls Try.prog 59 #[.pointer (some ⟨cb, 0, none⟩), .int .i64 s] w fun e w' => e = .returned (.int .i64 (startC c s)) ∧ SW w0 (A :: blkA cb (cuO (startX c s)) :: R) w' ∧ Mdh (fun k => k = cb) w w' :=
  (cuStart h.cu s).mono fun _ _ ⟨e, hb, m⟩ => ⟨e, h.cuset hb m, m⟩
theorem stop_sw {A : Asn} (h : SW w0 (A :: blkA cb (cuO c) :: R) w) : Calls Try.prog 57 #[.pointer (some ⟨cb, 0, none⟩)] w fun e w' => e = .returned (.tuple #[]) ∧ SW w0 (A :: blkA cb (cuO ⟨false, 0, 0⟩) :: R) w' ∧ Mdh (fun k => k = cb) w w' :=
  (cuStop h.cu).mono fun _ _ ⟨e, hb, m⟩ => ⟨e, h.cuset hb m, m⟩
theorem peek_sw (h : SW w0 (ixA b X S :: blkA cb (cuO c) :: R) w) : Calls Try.prog 56 #[.pointer (some ⟨cb, 0, none⟩), .pointer (some ⟨b, 0, none⟩)] w fun e w' => e = .returned (peekV X c) ∧ Gr w w' := cuPeek h.cu h.ixp
end
set_option maxRecDepth 40000 in
theorem put8 (k : ByteArray) (q s o z : Int) (hk : k.size ≤ 1000) (hz : z = 18 + (k.size : Int)) (w : World) : Calls Try.prog 78 #[.string k, .int .i64 q, .int .i64 s, .int .i64 o] w fun e w' => e = .returned (.agg #[.int .i64 q, .string k, .bool false, .int .i64 s, .int .i64 o, .int .i64 z]) ∧ Gr w w' := by
  subst hz
  go_enter Try.func78, Try.ntmps78
  go_wp2
  refine bodyPost_ret (v := .agg #[.int .i64 q, .string k, .bool false, .int .i64 s, .int .i64 o, .int .i64 (18 + (k.size : Int))]) ?_ rfl ⟨rfl, by (repeat (first | (with_reducible exact Gr.refl _) | assumption | (with_reducible apply Gr.from_drew) | (with_reducible apply Gr.alloc) | (with_reducible apply Gr.drew) | (with_reducible refine Gr.trans ?_ (by assumption)) | (with_reducible refine Gr.setCell ?_ (by omega) _)))⟩
  simp [results, Try.results78, go_sem]
end Go.Proofs.Ytiidkehcfoajeaa

/- drumlinlaw28: the examples of the chapter. -/
set_option linter.unusedVariables false
set_option linter.unusedSimpArgs false
namespace Go.Proofs.Ytiidkehcfoajeaa
open Go.RowKit Go.Shelf
attribute [local go_sem] OvM cell_ovm obj_ovm
attribute [local go_sem] Oper.semAt_some

theorem SW.alloc3 {w0 w : World} {R : List Asn} {A B : Asn} (h : SW w0 (A :: B :: R) w) (o : Obj) : SW w0 (A :: B :: blkA w.heap.size o :: R) (w.alloc o) :=
  (h.alloc o).perm ((List.Perm.swap _ _ _).trans ((List.Perm.swap _ _ _).cons _))
def cu1 : En := ⟨1, ⟨#[107]⟩, false, 0, 0, 19⟩
def cu2 : En := ⟨2, ⟨#[109]⟩, false, 0, 20, 19⟩
def cu3 : En := ⟨3, ⟨#[107]⟩, false, 1, 0, 19⟩
def cuL : List En := [cu1, cu2, cu3]
theorem cu_add : AllAdd cuL (ixNew 2) (stAdd cuL (ixNew 2)) := ⟨rfl, by
  intro j x h
  refine (fun (a : addE (stAdd cuL (ixNew 2) j) x = 0 ∧ Low x.key ∧ En64 x) => ⟨a.1, stAdd_next _ _ j x h, a.2⟩) ?_
  match j, h with
  | 0, h => cases h; exact ⟨by kernel_rfl, low_b rfl (by decide), by unfold En64; decide⟩
  | 1, h => cases h; exact ⟨by kernel_rfl, low_b rfl (by decide), by unfold En64; decide⟩
  | 2, h => cases h; exact ⟨by kernel_rfl, low_b rfl (by decide), by unfold En64; decide⟩
  | _ + 3, h => cases h⟩
def cuX : IX := stAdd cuL (ixNew 2) 3
abbrev cuS0 : Cu := ⟨false, 0, 0⟩
abbrev cuS1 : Cu := ⟨true, 0, 0⟩
abbrev cuS2 : Cu := ⟨true, 0, 19⟩
abbrev cuS3 : Cu := ⟨true, 0, 39⟩
theorem cu_p0 : peekV cuX cuS0 = .tuple #[.agg #[.int .i64 0, .string ⟨#[]⟩, .bool false, .int .i64 0, .int .i64 0, .int .i64 0], .bool false, .bool false, .int .i64 7] := by kernel_rfl
theorem cu_p1 : peekV cuX cuS1 = .tuple #[.agg #[.int .i64 1, .string ⟨#[107]⟩, .bool false, .int .i64 0, .int .i64 0, .int .i64 19], .bool false, .bool true, .int .i64 0] := by kernel_rfl
theorem cu_p2 : peekV cuX cuS2 = .tuple #[.agg #[.int .i64 2, .string ⟨#[109]⟩, .bool false, .int .i64 0, .int .i64 20, .int .i64 19], .bool true, .bool true, .int .i64 0] := by kernel_rfl
theorem cu_s0 : startC cuS0 0 = 0 := by kernel_rfl
theorem cu_x0 : startX cuS0 0 = cuS1 := by kernel_rfl
theorem cu_s1 : startC cuS1 1 = 6 := by kernel_rfl
theorem cu_x1 : startX cuS1 1 = cuS1 := by kernel_rfl
theorem cu_a1 : advC cuX cuS1 = 0 := by kernel_rfl
theorem cu_y1 : advX cuX cuS1 = cuS2 := by kernel_rfl
theorem cu_a2 : advC cuX cuS2 = 0 := by kernel_rfl
theorem cu_y2 : advX cuX cuS2 = cuS3 := by kernel_rfl
theorem cu_a3 : advC cuX cuS3 = 5 := by kernel_rfl
theorem cu_y3 : advX cuX cuS3 = cuS3 := by kernel_rfl
set_option maxRecDepth 40000 in
set_option maxHeartbeats 8000000 in
theorem cu_works (w : World) : Calls Try.prog 64 #[] w fun e w' => e = .returned (.bool true) ∧ Gr w w' := by
  have HST := Lib.hid cu_add.s
  go_enter Try.func64, Try.ntmps64
  go_wp2_with fail
  refine (New_any 2 w (by decide) (by decide)).mono ?_
  rintro e w1 ⟨b, S, rfl, h1, h2, h3⟩
  have HS1 : Hid (SW w [ixA b (stAdd cuL (ixNew 2) 0) S] w1) := Lib.hid ((SW.start w).ixnew h1 h2 h3)
  clear h1 h2 h3
  go_wp2_with fail
  refine (cuNew _).mono ?_
  rintro e w2 ⟨rfl, hw2⟩
  obtain ⟨cb, hcb⟩ : ∃ q, q = w1.heap.size := ⟨_, rfl⟩
  have HS2 : Hid (SW w [ixA b (stAdd cuL (ixNew 2) 0) S, blkA cb (cuO cuS0)] w2) := Lib.hid (by rw [hw2, hcb]; exact HS1.out.allocT _)
  rw [← hcb]
  clear hw2 hcb
  have HG := Gr.refl w2
  go_wp2_with (go_at_call 78; refine (put8 _ _ _ _ 19 (by decide) (by decide) _).mono ?_; rintro e w3 ⟨rfl, hg⟩; replace HG := HG.trans hg; clear hg)
  refine (Add_any (HS2.out.gr HG).ix cu1 (HST.out 0 cu1 rfl).2.2.1 (HST.out 0 cu1 rfl).2.2.2).mono ?_
  rintro e w4 ⟨rfl, hp⟩
  rw [(HST.out 0 cu1 rfl).1]
  obtain ⟨S1, hs⟩ := (HS2.out.gr HG).post hp
  rw [← (HST.out 0 cu1 rfl).2.1] at hs
  have HS4 := Lib.hid hs
  clear hs hp HG
  have HG := Gr.refl w4
  go_wp2_with (go_at_call 78; refine (put8 _ _ _ _ 19 (by decide) (by decide) _).mono ?_; rintro e w5 ⟨rfl, hg⟩; replace HG := HG.trans hg; clear hg)
  refine (Add_any (HS4.out.gr HG).ix cu2 (HST.out 1 cu2 rfl).2.2.1 (HST.out 1 cu2 rfl).2.2.2).mono ?_
  rintro e w6 ⟨rfl, hp⟩
  rw [(HST.out 1 cu2 rfl).1]
  obtain ⟨S2, hs⟩ := (HS4.out.gr HG).post hp
  rw [← (HST.out 1 cu2 rfl).2.1] at hs
  have HS6 := Lib.hid hs
  clear hs hp HG
  have HG := Gr.refl w6
  go_wp2_with (go_at_call 78; refine (put8 _ _ _ _ 19 (by decide) (by decide) _).mono ?_; rintro e w7 ⟨rfl, hg⟩; replace HG := HG.trans hg; clear hg)
  refine (Add_any (HS6.out.gr HG).ix cu3 (HST.out 2 cu3 rfl).2.2.1 (HST.out 2 cu3 rfl).2.2.2).mono ?_
  rintro e w8 ⟨rfl, hp⟩
  rw [(HST.out 2 cu3 rfl).1]
  obtain ⟨S3, hs⟩ := (HS6.out.gr HG).post hp
  rw [← (HST.out 2 cu3 rfl).2.1] at hs
  have HS8 : Hid (SW w [ixA b cuX S3, blkA cb (cuO cuS0)] w8) := Lib.hid hs
  clear hs hp HG HS6 HS4 HS2 HS1 HST
  go_wp2_with fail
  refine (peek_sw HS8.out).mono ?_
  rintro e w9 ⟨rfl, hg⟩
  rw [cu_p0]
  have HS9 := Lib.hid (HS8.out.gr hg)
  clear hg
  go_wp2_with fail
  refine (start_sw (HS9.out.gr ((Gr.refl _).alloc _)) 0).mono ?_
  rintro e w10 ⟨rfl, hs, hm⟩
  rw [cu_s0]
  rw [cu_x0] at hs
  have HS10 := Lib.hid hs
  clear hs hm
  go_wp2_with fail
  refine (start_sw HS10.out 1).mono ?_
  rintro e w11 ⟨rfl, hs, hm⟩
  rw [cu_s1]
  rw [cu_x1] at hs
  have HS11 := Lib.hid hs
  clear hs hm
  go_wp2_with fail
  refine (peek_sw HS11.out).mono ?_
  rintro e w12 ⟨rfl, hg⟩
  rw [cu_p1]
  have HS12 := Lib.hid (HS11.out.gr hg)
  clear hg
  go_wp2_with fail
  obtain ⟨b8, hb8⟩ : ∃ q, q = w12.heap.size := ⟨_, rfl⟩
  obtain ⟨w13, hw13⟩ : ∃ y, y = w12.alloc (.cells (enC cu1).toArray 23) := ⟨_, rfl⟩
  have HS13 : Hid (SW w [ixA b cuX S3, blkA cb (cuO cuS1), blkA b8 (.cells (enC cu1).toArray 23)] w13) := Lib.hid (by rw [hw13, hb8]; exact HS12.out.alloc3 _)
  have hne : ¬ b8 = cb := by have := blkLt HS12.out.cu; omega
  simp only [enC, cu1] at hw13
  rw [← hw13, ← hb8]
  clear hw13 hb8
  have d8 := (cellsOf (show w13.heap[b8]? = _ from HS13.out.get (i := 2) rfl)).1
  simp only [enC, cu1] at d8
  have k1 := neqE_run cu1 cu1
  simp only [cu1, decide_true, Bool.not_true] at k1
  have HG := Gr.refl w13.drew
  refine wp_region_flo (fun k => k = cb) [] [] (by kernel_rfl) (by kernel_rfl) (fun k hk => by subst hk; exact blkLt HS13.out.cu) ?_
  refine flo_seg 1 rfl ?_
  simp only [List.take_succ_cons, List.take_zero, List.drop_succ_cons, List.drop_zero]
  repeat (go_big_quiet_step (fail))
  refine wpQuiet_nil ?_
  refine flo_eff rfl rfl rfl rfl (fun K hK => ?_)
  go_wp2_with ((go_at_call 78; refine (put8 _ _ _ _ 19 (by decide) (by decide) _).mono ?_; rintro e w1 ⟨rfl, hg⟩; replace HG := HG.trans hg; (try clear hc); have hc := HG.cell; (try simp only [World.size_alloc] at hc)))
  refine ⟨by (first | (refine Gr.mdh ?_ _; (repeat (first | (with_reducible exact Gr.refl _) | assumption | (with_reducible apply Gr.from_drew) | (with_reducible apply Gr.alloc) | (with_reducible apply Gr.drew) | (with_reducible refine Gr.trans ?_ (by assumption)) | (with_reducible refine Gr.setCell ?_ (by omega) _))); done) | (repeat (first | (with_reducible exact Mdh.refl _ _) | (with_reducible refine Mdh.setCell ?_ (by simp) _) | (with_reducible refine Mdh.setNew ?_ (by simp) _) | (with_reducible apply Mdh.alloc) | (with_reducible apply Mdh.from_drew) | (with_reducible apply Mdh.drew) | (with_reducible refine Mdh.gr ?_ (by assumption))))), ?_⟩
  refine flo_seg 15 rfl ?_
  simp only [List.take_succ_cons, List.take_zero, List.drop_succ_cons, List.drop_zero]
  repeat (go_big_quiet_step (fail))
  refine wpQuiet_nil ?_
  refine flo_eff rfl rfl rfl rfl (fun K hK => ?_)
  go_wp2_with ((go_at_call 60; refine (adv_sw (HS13.out.gr (Gr.of_drew HG))).mono ?_; rintro e w14 ⟨rfl, hs, hm⟩; rw [cu_a1]; rw [cu_y1] at hs; have HS14 := Lib.hid hs; have HM14 := Lib.hid hm; clear hs hm))
  refine ⟨by exact HM14.out.mono (fun k hk => .inl hk), ?_⟩
  refine flo_seg 4 rfl ?_
  simp only [List.take_succ_cons, List.take_zero, List.drop_succ_cons, List.drop_zero]
  repeat (go_big_quiet_step (fail))
  refine wpQuiet_nil ?_
  refine flo_eff rfl rfl rfl rfl (fun K hK => ?_)
  go_wp2_with ((go_at_call 61; refine (cuOffset HS14.out.cu).mono ?_; rintro e w15 ⟨rfl, rfl⟩))
  refine ⟨by exact Mdh.refl _ _, ?_⟩
  refine flo_seg 2 rfl ?_
  simp only [List.take_succ_cons, List.take_zero, List.drop_succ_cons, List.drop_zero]
  repeat (go_big_quiet_step (fail))
  refine wpQuiet_nil ?_
  refine flo_nil ?_
  have HS15 : Hid (SW w [ixA b cuX S3, blkA cb (cuO cuS2)] w14) := Lib.hid (HS14.out.sub (.cons_cons _ (.cons_cons _ (List.nil_sublist _))))
  clear HS14 HM14 HS13 HS12 HS11 HS10 HS9 HS8 d8 k1 HG hne
  go_wp2_with fail
  refine (peek_sw HS15.out).mono ?_
  rintro e w16 ⟨rfl, hg⟩
  rw [cu_p2]
  have HS16 := Lib.hid (HS15.out.gr hg)
  clear hg
  go_wp2_with fail
  obtain ⟨b9, hb9⟩ : ∃ q, q = w16.heap.size := ⟨_, rfl⟩
  obtain ⟨w17, hw17⟩ : ∃ y, y = w16.alloc (.cells (enC cu2).toArray 23) := ⟨_, rfl⟩
  have HS17 : Hid (SW w [ixA b cuX S3, blkA cb (cuO cuS2), blkA b9 (.cells (enC cu2).toArray 23)] w17) := Lib.hid (by rw [hw17, hb9]; exact HS16.out.alloc3 _)
  have hne : ¬ b9 = cb := by have := blkLt HS16.out.cu; omega
  simp only [enC, cu2] at hw17
  rw [← hw17, ← hb9]
  clear hw17 hb9
  have d9 := (cellsOf (show w17.heap[b9]? = _ from HS17.out.get (i := 2) rfl)).1
  simp only [enC, cu2] at d9
  have k2 := neqE_run cu2 cu2
  simp only [cu2, decide_true, Bool.not_true] at k2
  have HG := Gr.refl w17.drew
  refine wp_region_flo (fun k => k = cb) [] [] (by kernel_rfl) (by kernel_rfl) (fun k hk => by subst hk; exact blkLt HS17.out.cu) ?_
  refine flo_seg 1 rfl ?_
  simp only [List.take_succ_cons, List.take_zero, List.drop_succ_cons, List.drop_zero]
  repeat (go_big_quiet_step (fail))
  refine wpQuiet_nil ?_
  refine flo_eff rfl rfl rfl rfl (fun K hK => ?_)
  go_wp2_with ((go_at_call 78; refine (put8 _ _ _ _ 19 (by decide) (by decide) _).mono ?_; rintro e w1 ⟨rfl, hg⟩; replace HG := HG.trans hg; (try clear hc); have hc := HG.cell; (try simp only [World.size_alloc] at hc)))
  refine ⟨by (first | (refine Gr.mdh ?_ _; (repeat (first | (with_reducible exact Gr.refl _) | assumption | (with_reducible apply Gr.from_drew) | (with_reducible apply Gr.alloc) | (with_reducible apply Gr.drew) | (with_reducible refine Gr.trans ?_ (by assumption)) | (with_reducible refine Gr.setCell ?_ (by omega) _))); done) | (repeat (first | (with_reducible exact Mdh.refl _ _) | (with_reducible refine Mdh.setCell ?_ (by simp) _) | (with_reducible refine Mdh.setNew ?_ (by simp) _) | (with_reducible apply Mdh.alloc) | (with_reducible apply Mdh.from_drew) | (with_reducible apply Mdh.drew) | (with_reducible refine Mdh.gr ?_ (by assumption))))), ?_⟩
  refine flo_seg 16 rfl ?_
  simp only [List.take_succ_cons, List.take_zero, List.drop_succ_cons, List.drop_zero]
  repeat (go_big_quiet_step (fail))
  refine wpQuiet_nil ?_
  refine flo_eff rfl rfl rfl rfl (fun K hK => ?_)
  go_wp2_with ((go_at_call 60; refine (adv_sw (HS17.out.gr (Gr.of_drew HG))).mono ?_; rintro e w18 ⟨rfl, hs, hm⟩; rw [cu_a2]; rw [cu_y2] at hs; have HS18 := Lib.hid hs; have HM18 := Lib.hid hm; clear hs hm))
  refine ⟨by exact HM18.out.mono (fun k hk => .inl hk), ?_⟩
  refine flo_seg 5 rfl ?_
  simp only [List.take_succ_cons, List.take_zero, List.drop_succ_cons, List.drop_zero]
  repeat (go_big_quiet_step (fail))
  refine wpQuiet_nil ?_
  refine flo_eff rfl rfl rfl rfl (fun K hK => ?_)
  go_wp2_with ((go_at_call 60; refine (adv_sw HS18.out).mono ?_; rintro e w19 ⟨rfl, hs, hm⟩; rw [cu_a3]; rw [cu_y3] at hs; have HS19 := Lib.hid hs; have HM19 := Lib.hid hm; clear hs hm))
  refine ⟨by exact HM19.out.mono (fun k hk => .inl hk), ?_⟩
  refine flo_seg 4 rfl ?_
  simp only [List.take_succ_cons, List.take_zero, List.drop_succ_cons, List.drop_zero]
  repeat (go_big_quiet_step (fail))
  refine wpQuiet_nil ?_
  refine flo_eff rfl rfl rfl rfl (fun K hK => ?_)
  go_wp2_with ((go_at_call 61; refine (cuOffset HS19.out.cu).mono ?_; rintro e w20 ⟨rfl, rfl⟩))
  refine ⟨by exact Mdh.refl _ _, ?_⟩
  refine flo_seg 2 rfl ?_
  simp only [List.take_succ_cons, List.take_zero, List.drop_succ_cons, List.drop_zero]
  repeat (go_big_quiet_step (fail))
  refine wpQuiet_nil ?_
  refine flo_nil ?_
  clear HS18 HM18 HM19 HS17 HS16 HS15 d9 k2 HG hne
  go_wp2_with fail
  refine (stop_sw HS19.out).mono ?_
  rintro e w21 ⟨rfl, hs, hm⟩
  have HS21 := Lib.hid hs
  clear hs hm
  go_wp2_with fail
  refine (cuSlot HS21.out.cu).mono ?_
  rintro e w22 ⟨rfl, hg⟩
  have HS22 := Lib.hid (HS21.out.gr hg)
  clear hg
  go_wp2_with fail
  refine (cuOffset HS22.out.cu).mono ?_
  rintro e w23 ⟨rfl, rfl⟩
  go_wp2
  go_ret
  exact ⟨rfl, HS22.out.g⟩
end Go.Proofs.Ytiidkehcfoajeaa

/- No index, or one that was not made: the two pointers of a row. -/
set_option linter.unusedVariables false
set_option linter.unusedSimpArgs false
namespace Go.Proofs.Ytiidkehcfoajeaa
open Go.RowKit
def ixO : IX := ⟨[], []⟩
theorem ixO_of (k : ByteArray) : ixO.of k = [] := rfl
theorem ixO_slot (s : Int) : ixO.slot s = [] := slot_none s
structure NilP (w0 : World) (g : Nat) : Prop where
  at2 : ∀ j, j < 2 → ∃ (p : Option Addr) (S : Nat → Prop), ∀ wx, Gr w0 wx → wx.cell? ⟨g, j, none⟩ = some (.pointer p) ∧ IXP wx p ixO S
theorem nilP (w : World) (b : Nat) (hb : b = w.heap.size) : NilP ((w.alloc (.cells #[.pointer none, .slice none 0 0] 29)).alloc (.cells #[.pointer none, .pointer (some ⟨b, 0, none⟩)] 25)) (b + 1) := ⟨by
  intro j hj
  have h2 := blkNew (w.alloc (.cells #[.pointer none, .slice none 0 0] 29)) (.cells #[.pointer none, .pointer (some ⟨b, 0, none⟩)] 25)
  rw [World.size_alloc, ← hb] at h2
  have h1 : ((w.alloc (.cells #[.pointer none, .slice none 0 0] 29)).alloc (.cells #[.pointer none, .pointer (some ⟨b, 0, none⟩)] 25)).heap[b]? = some (.cells #[.pointer none, .slice none 0 0] 29) := by
    rw [hb]; exact ((Gr.refl _).alloc _).blk (blkNew w _)
  have hc := cellsOf h2
  rcases (show j = 0 ∨ j = 1 by omega) with rfl | rfl
  · exact ⟨none, fun _ => False, fun wx g => ⟨g.keep (hc.1 0), .inr ⟨.inl rfl, rfl, fun k => ⟨fun h => h.elim, (fun ⟨_, h, _⟩ => by cases h)⟩⟩⟩⟩
  · exact ⟨some ⟨b, 0, none⟩, fun k => k = b, fun wx g => ⟨g.keep (hc.1 1), .inr ⟨.inr ⟨b, rfl, g.blk h1⟩, rfl, fun k => ⟨fun h => ⟨_, rfl, h⟩, (fun ⟨a, h, hk⟩ => by cases h; exact hk)⟩⟩⟩⟩⟩
end Go.Proofs.Ytiidkehcfoajeaa

/- CursorNil. -/
set_option linter.unusedVariables false
set_option linter.unusedSimpArgs false
namespace Go.Proofs.Ytiidkehcfoajeaa
open Go.RowKit Go.Shelf
attribute [local go_sem] OvM cell_ovm obj_ovm
attribute [local go_sem] Oper.semAt_some

/-- No cursor, or one that was not made: the two pointers of a row. -/
structure NilC (w0 : World) (g : Nat) : Prop where
  at2 : ∀ j, j < 2 → ∃ p : Option Addr, ∀ wx, Gr w0 wx → wx.cell? ⟨g, j, none⟩ = some (.pointer p) ∧ CUN wx p
theorem nilC (w : World) (b : Nat) (hb : b = w.heap.size) : NilC ((w.alloc (.cells #[.bool false, .bool false, .int .i64 0, .int .i64 0] 90)).alloc (.cells #[.pointer none, .pointer (some ⟨b, 0, none⟩)] 88)) (b + 1) := ⟨by
  intro j hj
  have h2 := blkNew (w.alloc (.cells #[.bool false, .bool false, .int .i64 0, .int .i64 0] 90)) (.cells #[.pointer none, .pointer (some ⟨b, 0, none⟩)] 88)
  rw [World.size_alloc, ← hb] at h2
  have h1 : ((w.alloc (.cells #[.bool false, .bool false, .int .i64 0, .int .i64 0] 90)).alloc (.cells #[.pointer none, .pointer (some ⟨b, 0, none⟩)] 88)).heap[b]? = some (.cells #[.bool false, .bool false, .int .i64 0, .int .i64 0] 90) := by
    rw [hb]; exact ((Gr.refl _).alloc _).blk (blkNew w _)
  have hc := cellsOf h2
  rcases (show j = 0 ∨ j = 1 by omega) with rfl | rfl
  · exact ⟨none, fun wx g => ⟨g.keep (hc.1 0), .inl rfl⟩⟩
  · exact ⟨some ⟨b, 0, none⟩, fun wx g => ⟨g.keep (hc.1 1), .inr ⟨b, rfl, g.blk h1⟩⟩⟩⟩
set_option maxRecDepth 40000 in
/-- Advance without an index. -/
theorem advO {w : World} {b : Nat} {p : Option Addr} {S : Nat → Prop} (hc : w.heap[b]? = some (cuO cuS0)) (h : IXP w p ixO S) : Calls Try.prog 60 #[.pointer (some ⟨b, 0, none⟩), .pointer p] w fun e w' => e = .returned (.int .i64 1) ∧ Gr w w' := by
  have H := Lib.hid h
  have HCB := Lib.hid hc
  clear h hc
  go_enter Try.func60, Try.ntmps60
  go_wp2_with fail
  refine (cuPeek HCB.out H.out).mono ?_
  rintro r w1 ⟨rfl, hg⟩
  rw [show peekV ixO cuS0 = .tuple #[.agg #[.int .i64 0, .string ⟨#[]⟩, .bool false, .int .i64 0, .int .i64 0, .int .i64 0], .bool false, .bool false, .int .i64 1] by kernel_rfl]
  have HG := Lib.hid hg
  clear hg
  go_wp2
  go_ret
  exact ⟨rfl, HG.out.alloc _⟩
set_option maxRecDepth 40000 in
set_option maxHeartbeats 8000000 in
theorem CursorNil_any (s : Int) (w : World) : Calls Try.prog 9 #[.int .i64 s] w fun e w' => e = .returned (.bool true) ∧ Gr w w' := by
  go_enter Try.func9, Try.ntmps9
  go_wp2_with fail
  refine (New_any 3 w (by decide) (by decide)).mono ?_
  rintro e w1 ⟨b, S, rfl, h1, h2, h3⟩
  have HG1 := Lib.hid h3
  clear h1 h2 h3
  go_wp2_with fail
  obtain ⟨b1, hb1⟩ : ∃ q, q = w1.heap.size := ⟨_, rfl⟩
  obtain ⟨w0, hw0⟩ : ∃ y, y = (w1.alloc (.cells #[.bool false, .bool false, .int .i64 0, .int .i64 0] 90)).alloc (.cells #[.pointer none, .pointer (some ⟨w1.heap.size, 0, none⟩)] 88) := ⟨_, rfl⟩
  have HP : Hid (NilC w0 (w1.heap.size + 1)) := Lib.hid (by rw [hw0]; exact nilC _ _ rfl)
  have H0 : Hid (Gr w w0) := Lib.hid (by rw [hw0]; exact (HG1.out.alloc _).alloc _)
  rw [← hw0]
  rw [← hb1] at HP
  rw [← hb1]
  clear hw0 hb1
  have kn : ∀ w, (binOp .neq 23 (.agg #[.int .i64 0, .string ⟨#[]⟩, .bool false, .int .i64 0, .int .i64 0, .int .i64 0]) (.agg #[.int .i64 0, .string ⟨#[]⟩, .bool false, .int .i64 0, .int .i64 0, .int .i64 0])).run Try.prog w = .ok (.bool false) w := fun w => (neqE_run zE zE w).trans (by simp)
  go_loopw [8] (fun t8 wx => ∃ j : Nat, j ≤ 2 ∧ t8 = .int .i64 j ∧ Hid (Gr w0 wx)) (fun t8 _ => 2 - (intOf t8).toNat)
  case atStart => exact ⟨0, by omega, rfl, Lib.hid (Gr.refl _)⟩
  case round =>
    obtain ⟨j, hj, rfl, HR⟩ := hrel
    by_cases hlt : j < 2
    · have hlt' : (j : Int) < 2 := by omega
      obtain ⟨p, hp⟩ := HP.out.at2 j hlt
      have HQ := Lib.hid hp
      have d := (hp _ HR.out).1
      clear hp
      go_wp2_with fail
      refine (cuPeekN (HQ.out _ HR.out).2).mono ?_
      rintro e w2 ⟨rfl, hg⟩
      simp only [enV, zE]
      have HG2 := Lib.hid (HR.out.trans hg)
      clear hg d
      go_wp2_with fail
      obtain ⟨b6, hb6⟩ : ∃ q, q = w2.heap.size := ⟨_, rfl⟩
      obtain ⟨w3, hw3⟩ : ∃ y, y = w2.alloc (.cells #[.int .i64 0, .string ⟨#[]⟩, .bool false, .int .i64 0, .int .i64 0, .int .i64 0] 23) := ⟨_, rfl⟩
      have HB6 : Hid (w3.heap[b6]? = some (.cells #[.int .i64 0, .string ⟨#[]⟩, .bool false, .int .i64 0, .int .i64 0, .int .i64 0] 23)) := Lib.hid (by rw [hw3, hb6]; exact blkNew w2 _)
      have HG3 : Hid (Gr w0 w3) := Lib.hid (by rw [hw3]; exact HG2.out.alloc _)
      rw [← hw3, ← hb6]
      clear hw3 hb6
      refine (cuStopN (HQ.out _ HG3.out).2).mono ?_
      rintro e w4 ⟨rfl, rfl⟩
      go_wp2_with fail
      refine (cuSlotN (HQ.out _ HG3.out).2).mono ?_
      rintro e w4 ⟨rfl, rfl⟩
      have d6 := (cellsOf HB6.out).1
      go_wp2_with fail
      refine (cuStartN (HQ.out _ HG3.out).2 s).mono ?_
      rintro e w4 ⟨rfl, rfl⟩
      go_wp2_with fail
      refine (cuAdvanceN (HQ.out _ HG3.out).2).mono ?_
      rintro e w4 ⟨rfl, hg⟩
      have HG4 := Lib.hid (HG3.out.trans hg)
      clear hg d6
      go_wp2_with fail
      refine (cuOffsetN (HQ.out _ HG4.out).2).mono ?_
      rintro e w5 ⟨rfl, rfl⟩
      go_wp2_with fail
      refine (cuCopyN (HQ.out _ HG4.out).2).mono ?_
      rintro e w5 ⟨rfl, rfl⟩
      go_wp2_with fail
      go_roundw
      case rel => exact ⟨j + 1, by omega, by go_num, HG4⟩
      case measure => simp [intOf]; omega
    · have hlt' : ¬ (j : Int) < 2 := by omega
      have HW := Lib.hid (H0.out.trans HR.out)
      clear HR HP H0 kn
      go_wp2_with fail
      refine (cuNew _).mono ?_
      rintro e w2 ⟨rfl, hw2⟩
      obtain ⟨cb, hcb⟩ : ∃ q, q = wr.heap.size := ⟨_, rfl⟩
      have H2 : Hid (w2.heap[cb]? = some (cuO cuS0) ∧ Gr w w2) := Lib.hid (by rw [hw2, hcb]; exact ⟨blkNew wr _, HW.out.alloc _⟩)
      rw [← hcb]
      clear hw2 hcb
      go_wp2_with fail
      obtain ⟨w3, hw3⟩ : ∃ y, y = (w2.alloc (.cells #[.pointer none, .slice none 0 0] 29)).alloc (.cells #[.pointer none, .pointer (some ⟨w2.heap.size, 0, none⟩)] 25) := ⟨_, rfl⟩
      obtain ⟨b7, hb7⟩ : ∃ q, q = w2.heap.size := ⟨_, rfl⟩
      have HP : Hid (NilP w3 (w2.heap.size + 1)) := Lib.hid (by rw [hw3]; exact nilP _ _ rfl)
      have H3 : Hid (w3.heap[cb]? = some (cuO cuS0) ∧ Gr w w3) := Lib.hid (by rw [hw3]; exact ⟨(((Gr.refl _).alloc _).alloc _).blk H2.out.1, (H2.out.2.alloc _).alloc _⟩)
      rw [← hw3]
      rw [← hb7] at HP
      rw [← hb7]
      clear hw3 hb7 hlt hlt' hj
      go_loopw [106] (fun t106 wx => ∃ j : Nat, j ≤ 2 ∧ t106 = .int .i64 j ∧ Hid (Gr w3 wx)) (fun t106 _ => 2 - (intOf t106).toNat)
      case atStart => exact ⟨0, by omega, rfl, Lib.hid (Gr.refl _)⟩
      case round =>
        obtain ⟨j, hj, rfl, HR⟩ := hrel
        by_cases hlt : j < 2
        · have hlt' : (j : Int) < 2 := by omega
          obtain ⟨p, S, hp⟩ := HP.out.at2 j hlt
          have HQ := Lib.hid hp
          have d := (hp _ HR.out).1
          clear hp
          go_wp2_with fail
          refine (cuPeek (HR.out.blk H3.out.1) (HQ.out _ HR.out).2).mono ?_
          rintro e w4 ⟨rfl, hg⟩
          rw [show peekV ixO cuS0 = .tuple #[.agg #[.int .i64 0, .string ⟨#[]⟩, .bool false, .int .i64 0, .int .i64 0, .int .i64 0], .bool false, .bool false, .int .i64 1] by kernel_rfl]
          have HG4 := Lib.hid (HR.out.trans hg)
          clear hg d
          go_wp2_with fail
          refine (advO ((HG4.out.alloc _).blk H3.out.1) (HQ.out _ (HG4.out.alloc _)).2).mono ?_
          rintro e w5 ⟨rfl, hg⟩
          have HG5 := Lib.hid ((HG4.out.alloc _).trans hg)
          clear hg
          go_wp2_with fail
          go_roundw
          case rel => exact ⟨j + 1, by omega, by go_num, HG5⟩
          case measure => simp [intOf]; omega
        · have hlt' : ¬ (j : Int) < 2 := by omega
          go_wp2_with fail
          refine (cu_works _).mono ?_
          rintro e w4 ⟨rfl, hg⟩
          have HG4 := Lib.hid ((H3.out.2.trans HR.out).trans hg)
          clear hg
          go_wp2
          go_ret
          exact ⟨rfl, HG4.out⟩
end Go.Proofs.Ytiidkehcfoajeaa
