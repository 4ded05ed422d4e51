/- ledger: the class of an entry, and the numbers of bytes: what is consistent, and the age. -/
import Derived.Test.YtmdfickejpeofaaBd7
import Derived.Test.YtmdfickejpeofaaBd3
set_option linter.unusedVariables false
set_option linter.unusedSimpArgs false
namespace Go.Proofs.Ytmdfickejpeofaa
open Go.RowKit
attribute [local go_sem] OvM cell_ovm obj_ovm

structure By where
  total : Int
  live : Int
  tombs : Int
  dead : Int
  last : Int
def byV (b : By) : Value := .agg #[.int .i64 b.total, .int .i64 b.live, .int .i64 b.tombs, .int .i64 b.dead, .int .i64 b.last]
def newE (l : List En) : En := l.headD zE
theorem newV_by (l : List En) : newV l = .tuple #[enV (newE l), .bool (!l.isEmpty)] := by cases l <;> rfl
def classE (X : IX) (e : En) : Nat := if (newE (X.of e.key)).seq = e.seq then (if e.del = true then 1 else 0) else 2
set_option maxRecDepth 40000 in
set_option maxHeartbeats 1000000 in
theorem class_any {w : World} {p : Option Addr} {X : IX} {S : Nat → Prop} (h : IXP w p X S) (e : En) : Calls Try.prog 151 #[.pointer p, enV e] w fun e' w' => e' = .returned (.int .i64 (classE X e)) ∧ Gr w w' := by
  have H := Lib.hid h
  have HN := Lib.hid (newV_by (X.of e.key))
  clear h
  obtain ⟨n, hn⟩ : ∃ n, n = newE (X.of e.key) := ⟨_, rfl⟩
  have HC : Hid (classE X e = if n.seq = e.seq then (if e.del = true then 1 else 0) else 2) := Lib.hid (by rw [hn]; rfl)
  rw [← hn] at HN
  clear hn
  simp only [enV] at *
  go_enter Try.func151, Try.ntmps151
  go_wp2_with fail
  refine (Newest_any (H.out.gr ((Gr.refl w).alloc _)) e.key).mono ?_
  rintro e' w1 ⟨rfl, hg⟩
  rw [HN.out]
  have c3 := (cellsOf (hg.blk (blkNew w _))).1
  have HG := Lib.hid (((Gr.refl w).alloc _).trans hg)
  have hlt := blkLt (hg.blk (blkNew w (.cells #[.int .i64 e.seq, .string e.key, .bool e.del, .int .i64 e.slot, .int .i64 e.off, .int .i64 e.size] 53)))
  clear hg HN
  by_cases hs : n.seq = e.seq
  · have hsb : (n.seq == e.seq) = true := by simp [hs]
    cases hd : e.del with
    | true =>
      rw [hd] at c3
      have HR : Hid (classE X e = 1) := Lib.hid (by rw [HC.out, if_pos hs, if_pos hd])
      clear hs hd
      go_wp2
      go_ret
      exact ⟨ret_int (by rw [HR.out]; rfl), (HG.out.alloc _)⟩
    | false =>
      rw [hd] at c3
      have HR : Hid (classE X e = 0) := Lib.hid (by rw [HC.out, if_pos hs, if_neg (by rw [hd]; simp)])
      clear hs hd
      go_wp2
      go_ret
      exact ⟨ret_int (by rw [HR.out]; rfl), (HG.out.alloc _)⟩
  · have hsb : (n.seq == e.seq) = false := by simp [hs]
    have HR : Hid (classE X e = 2) := Lib.hid (by rw [HC.out, if_neg hs])
    clear hs
    go_wp2
    go_ret
    exact ⟨ret_int (by rw [HR.out]; rfl), (HG.out.alloc _)⟩

/-! ### Numbers of bytes -/
def inBy (n : Int) : Bool := decide (0 ≤ n ∧ n ≤ 262144)
/-- What Check says. -/
def chkBy (b : By) : Int :=
  if inBy b.live = true ∧ inBy b.tombs = true ∧ inBy b.dead = true ∧ inBy b.total = true ∧ b.total = b.live + b.tombs + b.dead ∧ 0 ≤ b.last ∧ b.last ≤ 1099511627776 ∧ (b.last = 0 ↔ b.total = 0) then 0 else 2
end Go.Proofs.Ytmdfickejpeofaa

/- ledger.of: the bytes of a slot. -/
set_option linter.unusedVariables false
set_option linter.unusedSimpArgs false
namespace Go.Proofs.Ytmdfickejpeofaa
open Go.RowKit Go.Shelf
attribute [local go_sem] OvM cell_ovm obj_ovm
attribute [local go_sem] Oper.semAt_some

structure AccB where
  l : Int
  t : Int
  d : Int
  last : Int
def stepB (X : IX) (a : AccB) (e : En) : AccB :=
  if classE X e = 0 then ⟨a.l + e.size, a.t, a.d, max a.last e.seq⟩ else if classE X e = 1 then ⟨a.l, a.t + e.size, a.d, max a.last e.seq⟩ else ⟨a.l, a.t, a.d + e.size, max a.last e.seq⟩
def accB (X : IX) (l : List En) : AccB := l.foldl (stepB X) ⟨0, 0, 0, 0⟩
theorem accB_snoc (X : IX) (l : List En) (e : En) : accB X (l ++ [e]) = stepB X (accB X l) e := by simp [accB]
def byOf (X : IX) (s : Int) : By := ⟨(accB X (X.slot s)).l + (accB X (X.slot s)).t + (accB X (X.slot s)).d, (accB X (X.slot s)).l, (accB X (X.slot s)).t, (accB X (X.slot s)).d, (accB X (X.slot s)).last⟩
structure AccOk (a : AccB) (n : Int) : Prop where
  l0 : 0 ≤ a.l
  t0 : 0 ≤ a.t
  d0 : 0 ≤ a.d
  s : a.l + a.t + a.d ≤ 8192 * n
  m0 : 0 ≤ a.last
  m1 : a.last ≤ 1099511627776
theorem step_ok {X : IX} {a : AccB} {e : En} {n : Int} (h : AccOk a n) (hv : validE e = true) : AccOk (stepB X a e) (n + 1) := by
  have hv := (valid_iff e).1 hv
  obtain ⟨h1, h2, h3, h4, h5, h6⟩ := h
  unfold stepB
  (repeat' split) <;> exact ⟨by simp only; omega, by simp only; omega, by simp only; omega, by simp only; omega, by simp only; omega, by simp only; omega⟩
theorem acc_ok' (X : IX) : ∀ (l : List En) (a : AccB) (n : Int), AccOk a n → (∀ e ∈ l, validE e = true) → AccOk (l.foldl (stepB X) a) (n + l.length)
  | [], a, n, h, _ => by simpa using h
  | e :: l, a, n, h, hv => by
    have := acc_ok' X l _ (n + 1) (step_ok (X := X) h (hv e (by simp))) (fun x hx => hv x (List.mem_cons_of_mem _ hx))
    simp only [List.foldl_cons, List.length_cons, Int.natCast_add] at *
    rw [show n + ((l.length : Int) + (1 : Nat)) = n + 1 + l.length by omega]
    exact this
theorem acc_ok (X : IX) (l : List En) (h : ∀ e ∈ l, validE e = true) : AccOk (accB X l) l.length := by
  have := acc_ok' X l ⟨0, 0, 0, 0⟩ 0 ⟨by simp, by simp, by simp, by simp, by simp, by simp⟩ h
  simpa [accB] using this
theorem classE_or (X : IX) (e : En) : classE X e = 0 ∨ classE X e = 1 ∨ classE X e = 2 := by unfold classE; (repeat' split) <;> simp
set_option maxRecDepth 40000 in
set_option maxHeartbeats 4000000 in
theorem of_any {w : World} {p : Option Addr} {X : IX} {S : Nat → Prop} (h : IXP w p X S) (s : Int) : Calls Try.prog 88 #[.pointer p, .int .i64 s] w fun e w' => e = .returned (byV (byOf X s)) ∧ Gr w w' := by
  have H := Lib.hid h
  have HOK := Lib.hid h.ok
  clear h
  refine calls_of_wp_marks Try.func88 rfl ?_
  simp only [Try.ntmps88, List.size_toArray, List.length_cons, List.length_nil, Nat.reduceAdd, Nat.reduceSub, Array.replicate_succ, Array.replicate_zero, List.push_toArray, List.append_toArray, List.nil_append, List.cons_append]
  go_wp2_with fail
  obtain ⟨b2, hb2⟩ : ∃ q, q = w.heap.size := ⟨_, rfl⟩
  obtain ⟨w0, hw0⟩ : ∃ y, y = (((w.alloc (.cells #[.pointer p] 46)).alloc (.cells #[.int .i64 0, .int .i64 0, .int .i64 0, .int .i64 0, .int .i64 0] 56)).alloc (.cells #[.int .i64 0, .int .i64 0, .int .i64 0] 221)).alloc (.cells #[.int .i64 0] 2) := ⟨_, rfl⟩
  have HSW : Hid (SW w [blkA (b2 + 1 + 1 + 1) (.cells #[.int .i64 0] 2), blkA (b2 + 1 + 1) (.cells #[.int .i64 0, .int .i64 0, .int .i64 0] 221), blkA (b2 + 1) (.cells #[.int .i64 0, .int .i64 0, .int .i64 0, .int .i64 0, .int .i64 0] 56), blkA b2 (.cells #[.pointer p] 46)] w0) := Lib.hid (by
    have := ((((SW.start w).alloc (.cells #[.pointer p] 46)).alloc (.cells #[.int .i64 0, .int .i64 0, .int .i64 0, .int .i64 0, .int .i64 0] 56)).alloc (.cells #[.int .i64 0, .int .i64 0, .int .i64 0] 221)).alloc (.cells #[.int .i64 0] 2)
    simp only [World.size_alloc] at this
    rw [hw0, hb2]
    exact this)
  rw [← hw0, ← hb2]
  clear hw0 hb2
  refine (Slot_any p s _).mono ?_
  rintro e' w1 ⟨bb, bs, rfl, h1, h2, h3, h4, hg⟩
  have HS1 := Lib.hid (HSW.out.gr hg)
  have HI := Lib.hid (H.out.gr HS1.out.g)
  have HSEQ := Lib.hid (SeqSlotP HI.out s bb bs h1 h2)
  have hA : ∀ q, (q = bb ∨ q = bs ∨ S q) → q < w1.heap.size := fun q hq => by
    have l1 := World.block_lt_of_cell? w1 ⟨bb, 0, none⟩ h1
    have l2 := World.block_lt_of_cell? w1 ⟨bs, 0, none⟩ h2
    rcases hq with rfl | rfl | hq
    · exact l1
    · exact l2
    · exact HI.out.lt q hq
  have HA := Lib.hid hA
  have HZ : Hid (SWz w w1 (fun q => q = bb ∨ q = bs ∨ S q) [blkA (b2 + 1 + 1 + 1) (.cells #[.int .i64 0] 2), blkA (b2 + 1 + 1) (.cells #[.int .i64 0, .int .i64 0, .int .i64 0] 221), blkA (b2 + 1) (.cells #[.int .i64 0, .int .i64 0, .int .i64 0, .int .i64 0, .int .i64 0] 56), blkA b2 (.cells #[.pointer p] 46)] (fun _ => False) w1) := Lib.hid (SWz.start HS1.out (fun B hB k hk ha => by
    have l1 := HSW.out.s.lt hB k hk
    have l2 := HSW.out.n B hB k hk
    rcases ha with rfl | rfl | ha
    · omega
    · omega
    · have := H.out.lt k ha; omega))
  clear h1 h2 h3 h4 hg hA
  go_wp2_with fail
  apply wp_rangeFunc_zx (gf := 152) (lb := #[.pointer (some ⟨bb, 0, none⟩), .pointer (some ⟨bs, 0, none⟩)]) rfl (enters_of Try.func152 (by kernel_rfl) rfl) HSEQ.out (Mdh.refl _ w1) HA.out (fun _ => rfl)
    (fun Z pre X' => SWz w w1 (fun q => q = bb ∨ q = bs ∨ S q) [blkA (b2 + 1 + 1 + 1) (.cells #[.int .i64 (accB X pre).last] 2), blkA (b2 + 1 + 1) (.cells #[.int .i64 (accB X pre).l, .int .i64 (accB X pre).t, .int .i64 (accB X pre).d] 221), blkA (b2 + 1) (.cells #[.int .i64 0, .int .i64 0, .int .i64 0, .int .i64 0, .int .i64 0] 56), blkA b2 (.cells #[.pointer p] 46)] Z X')
    (fun _ _ _ => False) (fun _ _ _ => False)
    (SWz.apart HS1.out.g.sz (fun pre => [blkA (b2 + 1 + 1 + 1) (.cells #[.int .i64 (accB X pre).last] 2), blkA (b2 + 1 + 1) (.cells #[.int .i64 (accB X pre).l, .int .i64 (accB X pre).t, .int .i64 (accB X pre).d] 221), blkA (b2 + 1) (.cells #[.int .i64 0, .int .i64 0, .int .i64 0, .int .i64 0, .int .i64 0] 56), blkA b2 (.cells #[.pointer p] 46)])) apart_no apart_no
    HZ.out (fun Z pre X' h => h.frm HS1.out.g) (fun x => .cells #[.int .i64 x.seq, .string x.key, .bool x.del, .int .i64 x.slot, .int .i64 x.off, .int .i64 x.size] 53)
    _ ?assign ?body ?hend ?hret
  case hret => intro _ _ _ _ _ _ _ h; exact h.elim
  case assign =>
    intro l x bx X' K hbx hK
    dsimp only [encE, enV]
    gi_wp2
    rw [← hbx]
    exact hK
  case body =>
    intro l Z pre x bx X' hI hbx hx hzx hzl hlr hsp
    have HIZ := Lib.hid hI
    have HBX := Lib.hid hx
    have hv : validE x = true := ((HOK.out.slotOk s).e x (hsp.subset (by simp))).2
    have HAC := Lib.hid (acc_ok X pre (fun e he => ((HOK.out.slotOk s).e e (hsp.subset (List.mem_append_left _ he))).2))
    have HPL : Hid ((pre.length : Int) ≤ 512) := Lib.hid (by have := hsp.length_le; have := HOK.out.slot_le s; simp at *; omega)
    have HSN := Lib.hid (accB_snoc X pre x)
    have HV2 := Lib.hid ((valid_iff x).1 hv)
    clear hI hx hsp hv
    have hxb : X'.heap[bx]? = _ := HBX.out
    have c7 := (cellsOf hxb).1
    have HXL := Lib.hid (blkLt hxb)
    have c5' := (cellsOf (show X'.heap[b2 + 1 + 1]? = _ from HIZ.out.s.get (i := 1) rfl))
    have c6' := (cellsOf (show X'.heap[b2 + 1 + 1 + 1]? = _ from HIZ.out.s.get (i := 0) rfl))
    have c2' := (cellsOf (show X'.heap[b2]? = _ from HIZ.out.s.get (i := 3) rfl)).1
    have hlt5 := blkLt (show X'.heap[b2 + 1 + 1]? = _ from HIZ.out.s.get (i := 1) rfl)
    have HP5 := Lib.hid (show X'.heap[b2 + 1 + 1]? = _ from HIZ.out.s.get (i := 1) rfl)
    have HP6 := Lib.hid (show X'.heap[b2 + 1 + 1 + 1]? = _ from HIZ.out.s.get (i := 0) rfl)
    have HIX : Hid (IXP X' p X S) := Lib.hid (H.out.gr HIZ.out.s.g)
    generalize accB X pre = a at *
    obtain ⟨a1, a2, a3, a4⟩ := a
    simp only at *
    obtain ⟨o1, o2, o3, o4, o5, o6⟩ := HAC.out
    have o7 := HPL.out
    simp only at o1 o2 o3 o4 o5 o6
    have HV := HV2.out
    obtain ⟨v1, v2, v3, v4, v5, v6⟩ := HV2.out
    clear HV
    have HNE : Hid (bx ≠ b2 + 1 + 1) := Lib.hid (by have := blkLt (show w1.heap[b2 + 1 + 1]? = _ from HS1.out.get (i := 1) rfl); omega)
    gi_wp2_with fail
    rcases classE_or X x with hc | hc | hc
    · have F1 := Lib.hid hc
      have HN : Hid (accB X (pre ++ [x]) = ⟨a1 + x.size, a2, a3, max a4 x.seq⟩) := Lib.hid (by rw [HSN.out]; simp [stepB, hc])
      clear hc
      have n7 := HNE.out
      obtain ⟨c5, f5⟩ := c5'
      obtain ⟨c6, f6⟩ := c6'
      refine wpIn_region_flo (fun _ => trivial) rfl (fun k => k = b2 + 1 + 1) [] [16] (by kernel_rfl) (by kernel_rfl) (fun k hk => by subst hk; exact hlt5) ?_
      refine flo_seg 2 rfl ?_
      simp only [List.take_succ_cons, List.take_zero, List.drop_succ_cons, List.drop_zero]
      repeat (go_big_quiet_step (fail))
      refine wpQuiet_nil ?_
      refine flo_eff rfl rfl rfl rfl (fun K hK => ?_)
      gi_wp2_with ((refine ⟨trivial, ?_⟩; gi_at_call 151; refine (CallsIn.inRound l (callsIn_wide.2 (class_any (HIX.out.gr ((Gr.refl _).drew)) x))).mono ?_; rintro e w9 ⟨rfl, hg9⟩; rw [F1.out]; have HGD := Lib.hid hg9; have HG9 := Lib.hid (((Gr.refl _).drew).trans hg9); have d7 := (cellsOf (HG9.out.blk HBX.out)).1; have d5 := (cellsOf (HG9.out.blk HP5.out)).1; have d6 := (cellsOf (HG9.out.blk HP6.out)).1; have g5 := (cellsOf (HG9.out.blk HP5.out)).2; have g6 := (cellsOf (HG9.out.blk HP6.out)).2; clear hg9))
      refine ⟨by first | exact HGD.out.mdh _ | exact HG9.out.mdh _, ?_⟩
      refine flo_seg 1 rfl ?_
      simp only [List.take_succ_cons, List.take_zero, List.drop_succ_cons, List.drop_zero]
      repeat (go_big_quiet_step (fail))
      refine wpQuiet_nil ?_
      refine flo_eff rfl rfl rfl rfl (fun K hK => ?_)
      gi_wp2
      refine ⟨by (first | (refine Gr.mdh ?_ _; (repeat (first | (with_reducible exact Gr.refl _) | assumption | (with_reducible apply Gr.from_drew) | (with_reducible apply Gr.alloc) | (with_reducible apply Gr.drew) | (with_reducible refine Gr.trans ?_ (by assumption)) | (with_reducible refine Gr.setCell ?_ (by omega) _))); done) | (repeat (first | (with_reducible exact Mdh.refl _ _) | (with_reducible refine Mdh.setCell ?_ (by simp) _) | (with_reducible refine Mdh.setNew ?_ (by simp) _) | (with_reducible apply Mdh.alloc) | (with_reducible apply Mdh.from_drew) | (with_reducible apply Mdh.drew) | (with_reducible refine Mdh.gr ?_ (by assumption))))), ?_⟩
      refine flo_seg 4 rfl ?_
      simp only [List.take_succ_cons, List.take_zero, List.drop_succ_cons, List.drop_zero]
      repeat (go_big_quiet_step (fail))
      refine wpQuiet_nil ?_
      refine flo_eff rfl rfl rfl rfl (fun K hK => ?_)
      gi_wp2
      refine ⟨by (first | (refine Gr.mdh ?_ _; (repeat (first | (with_reducible exact Gr.refl _) | assumption | (with_reducible apply Gr.from_drew) | (with_reducible apply Gr.alloc) | (with_reducible apply Gr.drew) | (with_reducible refine Gr.trans ?_ (by assumption)) | (with_reducible refine Gr.setCell ?_ (by omega) _))); done) | (repeat (first | (with_reducible exact Mdh.refl _ _) | (with_reducible refine Mdh.setCell ?_ (by simp) _) | (with_reducible refine Mdh.setNew ?_ (by simp) _) | (with_reducible apply Mdh.alloc) | (with_reducible apply Mdh.from_drew) | (with_reducible apply Mdh.drew) | (with_reducible refine Mdh.gr ?_ (by assumption))))), ?_⟩
      refine flo_nil ?_
      obtain ⟨X2, hX2⟩ : ∃ y, y = w9.setCell ⟨b2 + 1 + 1, 0, none⟩ (.int .i64 (a1 + x.size)) := ⟨_, rfl⟩
      rw [← hX2]
      have HS2 := Lib.hid (HIZ.out.gr HG9.out)
      have HB2 := Lib.hid (HS2.out.1.box (i := 1) rfl HA.out ((Mdh.refl (fun k => k = b2 + 1 + 1) w9).setCell (p := ⟨b2 + 1 + 1, 0, none⟩) rfl (.int .i64 (a1 + x.size))) (blkSet (j := 0) (u := .int .i64 (a1 + x.size)) (HG9.out.blk HP5.out)))
      have HB3 := Lib.hid HB2.out
      rw [← hX2] at HB3
      have HP62 : Hid (X2.heap[b2 + 1 + 1 + 1]? = _) := Lib.hid (HB3.out.1.s.get (i := 0) rfl)
      have hx2 : X2.heap[bx]? = _ := (show X2.heap[bx]? = w9.heap[bx]? from by rw [hX2]; exact Below.heap_setCell _ _ _ _ HNE.out).trans (HG9.out.blk HBX.out)
      clear hX2 c7 c5 f5 c6 f6 c2' d7 d5 d6 g5 g6
      have c7 := (cellsOf hx2).1
      obtain ⟨c6, f6⟩ := cellsOf HP62.out
      clear hx2
      gi_wp2
      all_goals
        have HB4 := HB3.out.1.box (i := 0) rfl HA.out ((Mdh.refl (fun k => k = b2 + 1 + 1 + 1) X2).setCell (p := ⟨b2 + 1 + 1 + 1, 0, none⟩) rfl (.int .i64 (max a4 x.seq))) (blkSet (j := 0) (u := .int .i64 (max a4 x.seq)) HP62.out)
        have HNo := HN.out
        first
          | (have hm : max a4 x.seq = x.seq := by omega
             rw [hm] at HB4 HNo
             refine ⟨(HS2.out.2.trans HB3.out.2).trans HB4.2, ?_⟩
             dsimp only
             rw [HNo]
             exact HB4.1)
          | (have hm : max a4 x.seq = a4 := by omega
             rw [hm] at HB4 HNo
             refine ⟨(HS2.out.2.trans HB3.out.2).trans HB4.2, ?_⟩
             dsimp only
             rw [HNo]
             exact HB4.1)
    · have F1 := Lib.hid hc
      have HN : Hid (accB X (pre ++ [x]) = ⟨a1, a2 + x.size, a3, max a4 x.seq⟩) := Lib.hid (by rw [HSN.out]; simp [stepB, hc])
      clear hc
      have n7 := HNE.out
      obtain ⟨c5, f5⟩ := c5'
      obtain ⟨c6, f6⟩ := c6'
      refine wpIn_region_flo (fun _ => trivial) rfl (fun k => k = b2 + 1 + 1) [] [16] (by kernel_rfl) (by kernel_rfl) (fun k hk => by subst hk; exact hlt5) ?_
      refine flo_seg 2 rfl ?_
      simp only [List.take_succ_cons, List.take_zero, List.drop_succ_cons, List.drop_zero]
      repeat (go_big_quiet_step (fail))
      refine wpQuiet_nil ?_
      refine flo_eff rfl rfl rfl rfl (fun K hK => ?_)
      gi_wp2_with ((refine ⟨trivial, ?_⟩; gi_at_call 151; refine (CallsIn.inRound l (callsIn_wide.2 (class_any (HIX.out.gr ((Gr.refl _).drew)) x))).mono ?_; rintro e w9 ⟨rfl, hg9⟩; rw [F1.out]; have HGD := Lib.hid hg9; have HG9 := Lib.hid (((Gr.refl _).drew).trans hg9); have d7 := (cellsOf (HG9.out.blk HBX.out)).1; have d5 := (cellsOf (HG9.out.blk HP5.out)).1; have d6 := (cellsOf (HG9.out.blk HP6.out)).1; have g5 := (cellsOf (HG9.out.blk HP5.out)).2; have g6 := (cellsOf (HG9.out.blk HP6.out)).2; clear hg9))
      refine ⟨by first | exact HGD.out.mdh _ | exact HG9.out.mdh _, ?_⟩
      refine flo_seg 1 rfl ?_
      simp only [List.take_succ_cons, List.take_zero, List.drop_succ_cons, List.drop_zero]
      repeat (go_big_quiet_step (fail))
      refine wpQuiet_nil ?_
      refine flo_eff rfl rfl rfl rfl (fun K hK => ?_)
      gi_wp2
      refine ⟨by (first | (refine Gr.mdh ?_ _; (repeat (first | (with_reducible exact Gr.refl _) | assumption | (with_reducible apply Gr.from_drew) | (with_reducible apply Gr.alloc) | (with_reducible apply Gr.drew) | (with_reducible refine Gr.trans ?_ (by assumption)) | (with_reducible refine Gr.setCell ?_ (by omega) _))); done) | (repeat (first | (with_reducible exact Mdh.refl _ _) | (with_reducible refine Mdh.setCell ?_ (by simp) _) | (with_reducible refine Mdh.setNew ?_ (by simp) _) | (with_reducible apply Mdh.alloc) | (with_reducible apply Mdh.from_drew) | (with_reducible apply Mdh.drew) | (with_reducible refine Mdh.gr ?_ (by assumption))))), ?_⟩
      refine flo_seg 4 rfl ?_
      simp only [List.take_succ_cons, List.take_zero, List.drop_succ_cons, List.drop_zero]
      repeat (go_big_quiet_step (fail))
      refine wpQuiet_nil ?_
      refine flo_eff rfl rfl rfl rfl (fun K hK => ?_)
      gi_wp2
      refine ⟨by (first | (refine Gr.mdh ?_ _; (repeat (first | (with_reducible exact Gr.refl _) | assumption | (with_reducible apply Gr.from_drew) | (with_reducible apply Gr.alloc) | (with_reducible apply Gr.drew) | (with_reducible refine Gr.trans ?_ (by assumption)) | (with_reducible refine Gr.setCell ?_ (by omega) _))); done) | (repeat (first | (with_reducible exact Mdh.refl _ _) | (with_reducible refine Mdh.setCell ?_ (by simp) _) | (with_reducible refine Mdh.setNew ?_ (by simp) _) | (with_reducible apply Mdh.alloc) | (with_reducible apply Mdh.from_drew) | (with_reducible apply Mdh.drew) | (with_reducible refine Mdh.gr ?_ (by assumption))))), ?_⟩
      refine flo_nil ?_
      obtain ⟨X2, hX2⟩ : ∃ y, y = w9.setCell ⟨b2 + 1 + 1, 1, none⟩ (.int .i64 (a2 + x.size)) := ⟨_, rfl⟩
      rw [← hX2]
      have HS2 := Lib.hid (HIZ.out.gr HG9.out)
      have HB2 := Lib.hid (HS2.out.1.box (i := 1) rfl HA.out ((Mdh.refl (fun k => k = b2 + 1 + 1) w9).setCell (p := ⟨b2 + 1 + 1, 1, none⟩) rfl (.int .i64 (a2 + x.size))) (blkSet (j := 1) (u := .int .i64 (a2 + x.size)) (HG9.out.blk HP5.out)))
      have HB3 := Lib.hid HB2.out
      rw [← hX2] at HB3
      have HP62 : Hid (X2.heap[b2 + 1 + 1 + 1]? = _) := Lib.hid (HB3.out.1.s.get (i := 0) rfl)
      have hx2 : X2.heap[bx]? = _ := (show X2.heap[bx]? = w9.heap[bx]? from by rw [hX2]; exact Below.heap_setCell _ _ _ _ HNE.out).trans (HG9.out.blk HBX.out)
      clear hX2 c7 c5 f5 c6 f6 c2' d7 d5 d6 g5 g6
      have c7 := (cellsOf hx2).1
      obtain ⟨c6, f6⟩ := cellsOf HP62.out
      clear hx2
      gi_wp2
      all_goals
        have HB4 := HB3.out.1.box (i := 0) rfl HA.out ((Mdh.refl (fun k => k = b2 + 1 + 1 + 1) X2).setCell (p := ⟨b2 + 1 + 1 + 1, 0, none⟩) rfl (.int .i64 (max a4 x.seq))) (blkSet (j := 0) (u := .int .i64 (max a4 x.seq)) HP62.out)
        have HNo := HN.out
        first
          | (have hm : max a4 x.seq = x.seq := by omega
             rw [hm] at HB4 HNo
             refine ⟨(HS2.out.2.trans HB3.out.2).trans HB4.2, ?_⟩
             dsimp only
             rw [HNo]
             exact HB4.1)
          | (have hm : max a4 x.seq = a4 := by omega
             rw [hm] at HB4 HNo
             refine ⟨(HS2.out.2.trans HB3.out.2).trans HB4.2, ?_⟩
             dsimp only
             rw [HNo]
             exact HB4.1)
    · have F1 := Lib.hid hc
      have HN : Hid (accB X (pre ++ [x]) = ⟨a1, a2, a3 + x.size, max a4 x.seq⟩) := Lib.hid (by rw [HSN.out]; simp [stepB, hc])
      clear hc
      have n7 := HNE.out
      obtain ⟨c5, f5⟩ := c5'
      obtain ⟨c6, f6⟩ := c6'
      refine wpIn_region_flo (fun _ => trivial) rfl (fun k => k = b2 + 1 + 1) [] [16] (by kernel_rfl) (by kernel_rfl) (fun k hk => by subst hk; exact hlt5) ?_
      refine flo_seg 2 rfl ?_
      simp only [List.take_succ_cons, List.take_zero, List.drop_succ_cons, List.drop_zero]
      repeat (go_big_quiet_step (fail))
      refine wpQuiet_nil ?_
      refine flo_eff rfl rfl rfl rfl (fun K hK => ?_)
      gi_wp2_with ((refine ⟨trivial, ?_⟩; gi_at_call 151; refine (CallsIn.inRound l (callsIn_wide.2 (class_any (HIX.out.gr ((Gr.refl _).drew)) x))).mono ?_; rintro e w9 ⟨rfl, hg9⟩; rw [F1.out]; have HGD := Lib.hid hg9; have HG9 := Lib.hid (((Gr.refl _).drew).trans hg9); have d7 := (cellsOf (HG9.out.blk HBX.out)).1; have d5 := (cellsOf (HG9.out.blk HP5.out)).1; have d6 := (cellsOf (HG9.out.blk HP6.out)).1; have g5 := (cellsOf (HG9.out.blk HP5.out)).2; have g6 := (cellsOf (HG9.out.blk HP6.out)).2; clear hg9))
      refine ⟨by first | exact HGD.out.mdh _ | exact HG9.out.mdh _, ?_⟩
      refine flo_seg 1 rfl ?_
      simp only [List.take_succ_cons, List.take_zero, List.drop_succ_cons, List.drop_zero]
      repeat (go_big_quiet_step (fail))
      refine wpQuiet_nil ?_
      refine flo_eff rfl rfl rfl rfl (fun K hK => ?_)
      gi_wp2
      refine ⟨by (first | (refine Gr.mdh ?_ _; (repeat (first | (with_reducible exact Gr.refl _) | assumption | (with_reducible apply Gr.from_drew) | (with_reducible apply Gr.alloc) | (with_reducible apply Gr.drew) | (with_reducible refine Gr.trans ?_ (by assumption)) | (with_reducible refine Gr.setCell ?_ (by omega) _))); done) | (repeat (first | (with_reducible exact Mdh.refl _ _) | (with_reducible refine Mdh.setCell ?_ (by simp) _) | (with_reducible refine Mdh.setNew ?_ (by simp) _) | (with_reducible apply Mdh.alloc) | (with_reducible apply Mdh.from_drew) | (with_reducible apply Mdh.drew) | (with_reducible refine Mdh.gr ?_ (by assumption))))), ?_⟩
      refine flo_seg 4 rfl ?_
      simp only [List.take_succ_cons, List.take_zero, List.drop_succ_cons, List.drop_zero]
      repeat (go_big_quiet_step (fail))
      refine wpQuiet_nil ?_
      refine flo_eff rfl rfl rfl rfl (fun K hK => ?_)
      gi_wp2
      refine ⟨by (first | (refine Gr.mdh ?_ _; (repeat (first | (with_reducible exact Gr.refl _) | assumption | (with_reducible apply Gr.from_drew) | (with_reducible apply Gr.alloc) | (with_reducible apply Gr.drew) | (with_reducible refine Gr.trans ?_ (by assumption)) | (with_reducible refine Gr.setCell ?_ (by omega) _))); done) | (repeat (first | (with_reducible exact Mdh.refl _ _) | (with_reducible refine Mdh.setCell ?_ (by simp) _) | (with_reducible refine Mdh.setNew ?_ (by simp) _) | (with_reducible apply Mdh.alloc) | (with_reducible apply Mdh.from_drew) | (with_reducible apply Mdh.drew) | (with_reducible refine Mdh.gr ?_ (by assumption))))), ?_⟩
      refine flo_nil ?_
      obtain ⟨X2, hX2⟩ : ∃ y, y = w9.setCell ⟨b2 + 1 + 1, 2, none⟩ (.int .i64 (a3 + x.size)) := ⟨_, rfl⟩
      rw [← hX2]
      have HS2 := Lib.hid (HIZ.out.gr HG9.out)
      have HB2 := Lib.hid (HS2.out.1.box (i := 1) rfl HA.out ((Mdh.refl (fun k => k = b2 + 1 + 1) w9).setCell (p := ⟨b2 + 1 + 1, 2, none⟩) rfl (.int .i64 (a3 + x.size))) (blkSet (j := 2) (u := .int .i64 (a3 + x.size)) (HG9.out.blk HP5.out)))
      have HB3 := Lib.hid HB2.out
      rw [← hX2] at HB3
      have HP62 : Hid (X2.heap[b2 + 1 + 1 + 1]? = _) := Lib.hid (HB3.out.1.s.get (i := 0) rfl)
      have hx2 : X2.heap[bx]? = _ := (show X2.heap[bx]? = w9.heap[bx]? from by rw [hX2]; exact Below.heap_setCell _ _ _ _ HNE.out).trans (HG9.out.blk HBX.out)
      clear hX2 c7 c5 f5 c6 f6 c2' d7 d5 d6 g5 g6
      have c7 := (cellsOf hx2).1
      obtain ⟨c6, f6⟩ := cellsOf HP62.out
      clear hx2
      gi_wp2
      all_goals
        have HB4 := HB3.out.1.box (i := 0) rfl HA.out ((Mdh.refl (fun k => k = b2 + 1 + 1 + 1) X2).setCell (p := ⟨b2 + 1 + 1 + 1, 0, none⟩) rfl (.int .i64 (max a4 x.seq))) (blkSet (j := 0) (u := .int .i64 (max a4 x.seq)) HP62.out)
        have HNo := HN.out
        first
          | (have hm : max a4 x.seq = x.seq := by omega
             rw [hm] at HB4 HNo
             refine ⟨(HS2.out.2.trans HB3.out.2).trans HB4.2, ?_⟩
             dsimp only
             rw [HNo]
             exact HB4.1)
          | (have hm : max a4 x.seq = a4 := by omega
             rw [hm] at HB4 HNo
             refine ⟨(HS2.out.2.trans HB3.out.2).trans HB4.2, ?_⟩
             dsimp only
             rw [HNo]
             exact HB4.1)
  case hend =>
    intro Z D xs W hD hZD hcase hdef
    obtain ⟨hxs, hI⟩ := hcase.elim (fun h => h) (fun h => h.2.elim)
    have hxs' : xs = X.slot s := hxs
    subst hxs'
    have HIZ := Lib.hid hI
    have HD := Lib.hid (And.intro hD hdef)
    have HAC := Lib.hid (acc_ok X (X.slot s) (fun e he => ((HOK.out.slotOk s).e e he).2))
    have HPL : Hid (((X.slot s).length : Int) ≤ 512) := Lib.hid (by have := HOK.out.slot_le s; omega)
    have HBY : Hid (byOf X s = ⟨(accB X (X.slot s)).l + (accB X (X.slot s)).t + (accB X (X.slot s)).d, (accB X (X.slot s)).l, (accB X (X.slot s)).t, (accB X (X.slot s)).d, (accB X (X.slot s)).last⟩) := Lib.hid rfl
    clear hxs hI hcase hD hdef
    generalize accB X (X.slot s) = a at *
    obtain ⟨a1, a2, a3, a4⟩ := a
    simp only at *
    obtain ⟨o1, o2, o3, o4, o5, o6⟩ := HAC.out
    have o7 := HPL.out
    simp only at o1 o2 o3 o4 o5 o6
    have hb4 : W.heap[b2 + 1]? = _ := HIZ.out.s.get (i := 2) rfl
    have c5 := (cellsOf (show W.heap[b2 + 1 + 1]? = _ from HIZ.out.s.get (i := 1) rfl)).1
    have c6 := (cellsOf (show W.heap[b2 + 1 + 1 + 1]? = _ from HIZ.out.s.get (i := 0) rfl)).1
    obtain ⟨c4, f4⟩ := cellsOf hb4
    have HB4 := Lib.hid hb4
    clear hb4
    (try dsimp only)
    go_wp2_with fail
    obtain ⟨W2, hW2⟩ : ∃ y, y = (((((W.setCell ⟨b2 + 1, 0, none⟩ (.int .i64 (a1 + a2 + a3))).setCell ⟨b2 + 1, 1, none⟩ (.int .i64 a1)).setCell ⟨b2 + 1, 2, none⟩ (.int .i64 a2)).setCell ⟨b2 + 1, 3, none⟩ (.int .i64 a3)).setCell ⟨b2 + 1, 4, none⟩ (.int .i64 a4)) := ⟨_, rfl⟩
    have n4 : D ≠ b2 + 1 := fun e => by have := HIZ.out.z _ (List.mem_cons_of_mem _ (List.mem_cons_of_mem _ (List.mem_cons_self ..))) (b2 + 1) rfl; exact this (e ▸ hZD)
    have hWd : W2.heap[D]? = some (.deferred (some [])) := by rw [hW2]; exact blkSetO (blkSetO (blkSetO (blkSetO (blkSetO HD.out.2 n4) n4) n4) n4) n4
    have hWg : Gr w W2 := by
      have hb := HS1.out.g
      have hn : w.heap.size ≤ b2 + 1 := HSW.out.n _ (List.mem_cons_of_mem _ (List.mem_cons_of_mem _ (List.mem_cons_self ..))) (b2 + 1) rfl
      rw [hW2]
      exact ((((HIZ.out.s.g.setCell (p := ⟨b2 + 1, 0, none⟩) hn _).setCell (p := ⟨b2 + 1, 1, none⟩) hn _).setCell (p := ⟨b2 + 1, 2, none⟩) hn _).setCell (p := ⟨b2 + 1, 3, none⟩) hn _).setCell (p := ⟨b2 + 1, 4, none⟩) hn _
    have hWb : W2.heap[b2 + 1]? = some (.cells #[.int .i64 (a1 + a2 + a3), .int .i64 a1, .int .i64 a2, .int .i64 a3, .int .i64 a4] 56) := by rw [hW2]; exact blkSet (j := 4) (blkSet (j := 3) (blkSet (j := 2) (blkSet (j := 1) (blkSet (j := 0) HB4.out))))
    rw [← hW2]
    have h4' : (W2.putObj D (.deferred none)).heap[b2 + 1]? = _ := (World.putObj_heap_other n4.symm).trans hWb
    obtain ⟨d4, _⟩ := cellsOf h4'
    have hnD : w.heap.size ≤ D := by have := HD.out.1; have := HS1.out.g.sz; omega
    refine retM1 (D := D) (v := byV (byOf X s)) rfl hWd ?_ ⟨rfl, hWg.putObj hnD _⟩
    rw [HBY.out]
    simp [results, Try.results88, go_sem, d4, byV]
end Go.Proofs.Ytmdfickejpeofaa

/- ledger.Of: the bytes of a slot, or why not. -/
set_option linter.unusedVariables false
set_option linter.unusedSimpArgs false
namespace Go.Proofs.Ytmdfickejpeofaa
open Go.RowKit Go.Shelf
attribute [local go_sem] OvM cell_ovm obj_ovm
attribute [local go_sem] Oper.semAt_some

def zBy : By := ⟨0, 0, 0, 0, 0⟩
def ofL (X : IX) (s : Int) : By × Int := if X.slots.length = 0 then (zBy, 1) else if s < 0 ∨ (X.slots.length : Int) ≤ s then (zBy, 3) else (byOf X s, 0)
theorem Gr.cell5 {w w' : World} (g : Gr w w') {b : Nat} (h : w.heap.size ≤ b) (u0 u1 u2 u3 u4 : Value) : Gr w (((((w'.setCell ⟨b, 0, none⟩ u0).setCell ⟨b, 1, none⟩ u1).setCell ⟨b, 2, none⟩ u2).setCell ⟨b, 3, none⟩ u3).setCell ⟨b, 4, none⟩ u4) :=
  ((((g.setCell (p := ⟨b, 0, none⟩) h _).setCell (p := ⟨b, 1, none⟩) h _).setCell (p := ⟨b, 2, none⟩) h _).setCell (p := ⟨b, 3, none⟩) h _).setCell (p := ⟨b, 4, none⟩) h _
theorem blk5 {w : World} {b : Nat} {t : TypeId} {a0 a1 a2 a3 a4 : Value} (h : w.heap[b]? = some (.cells #[a0, a1, a2, a3, a4] t)) (u0 u1 u2 u3 u4 : Value) : (((((w.setCell ⟨b, 0, none⟩ u0).setCell ⟨b, 1, none⟩ u1).setCell ⟨b, 2, none⟩ u2).setCell ⟨b, 3, none⟩ u3).setCell ⟨b, 4, none⟩ u4).heap[b]? = some (.cells #[u0, u1, u2, u3, u4] t) :=
  blkSet (j := 4) (blkSet (j := 3) (blkSet (j := 2) (blkSet (j := 1) (blkSet (j := 0) h))))
set_option maxRecDepth 40000 in
set_option maxHeartbeats 4000000 in
theorem OfL_any {w : World} {p : Option Addr} {X : IX} {S : Nat → Prop} (h : IXP w p X S) (s : Int) : Calls Try.prog 22 #[.pointer p, .int .i64 s] w fun e w' => e = .returned (.tuple #[byV (ofL X s).1, .int .i64 (ofL X s).2]) ∧ Gr w w' := by
  have H := Lib.hid h
  obtain ⟨n, hn⟩ : ∃ n : Nat, n = X.slots.length := ⟨_, rfl⟩
  have HSL : Hid (∀ w1, Gr w w1 → Calls Try.prog 87 #[.pointer p] w1 fun e w' => e = .returned (.int .i64 n) ∧ w1 = w') := Lib.hid (fun w1 g => by rw [hn]; exact Slots_any (h.gr g))
  have HOF : Hid (ofL X s = if n = 0 then (zBy, 1) else if s < 0 ∨ (n : Int) ≤ s then (zBy, 3) else (byOf X s, 0)) := Lib.hid (by rw [hn]; rfl)
  clear h hn
  refine calls_of_wp_marks Try.func22 rfl ?_
  simp only [Try.ntmps22, List.size_toArray, List.length_cons, List.length_nil, Nat.reduceAdd, Nat.reduceSub, Array.replicate_succ, Array.replicate_zero, List.push_toArray, List.append_toArray, List.nil_append, List.cons_append]
  have h0 : (w.alloc (.cells #[.int .i64 0, .int .i64 0, .int .i64 0, .int .i64 0, .int .i64 0] 56)).heap[w.heap.size]? = _ := blkNew _ _
  have HB0 := Lib.hid h0
  clear h0
  obtain ⟨b, hb⟩ : ∃ b, b = w.heap.size := ⟨_, rfl⟩
  obtain ⟨w0, hw0⟩ : ∃ y, y = w.alloc (.cells #[.int .i64 0, .int .i64 0, .int .i64 0, .int .i64 0, .int .i64 0] 56) := ⟨_, rfl⟩
  have HG0 : Hid (Gr w w0 ∧ w.heap.size ≤ b) := Lib.hid ⟨by rw [hw0]; exact (Gr.refl _).alloc _, by omega⟩
  rw [← hw0, ← hb] at HB0
  by_cases hz : n = 0
  · subst hz
    go_wp2_with fail
    rw [← hw0, ← hb]
    obtain ⟨c4, f4⟩ := cellsOf HB0.out
    clear hw0 hb
    go_wp2_with (first
      | (go_at_call 87; refine (HSL.out _ HG0.out.1).mono ?_; rintro e w1 ⟨rfl, rfl⟩)
      | (go_at_call 88; refine (of_any (H.out.gr HG0.out.1) s).mono ?_; rintro e w1 ⟨rfl, hg⟩; simp only [byV]; have HG1 := Lib.hid hg; have e4 := (cellsOf (hg.blk HB0.out)).1; have g4 := (cellsOf (hg.blk HB0.out)).2; clear hg)
      | fail)
    have HF : ofL X s = (zBy, 1) := by rw [HOF.out]; rfl
    have hb5 := blk5 HB0.out (.int .i64 (zBy.total)) (.int .i64 (zBy.live)) (.int .i64 (zBy.tombs)) (.int .i64 (zBy.dead)) (.int .i64 (zBy.last))
    obtain ⟨d4, _⟩ := cellsOf hb5
    refine retM0 (v := .tuple #[byV (zBy), .int .i64 1]) ?_ rfl ⟨by rw [HF], Gr.cell5 (HG0.out.1) HG0.out.2 _ _ _ _ _⟩
    (try simp only [zBy] at d4)
    simp [results, Try.results22, go_sem, d4, byV, zBy]
  · have hz' : decide ((n : Int) = 0) = false := by simpa using hz
    by_cases hs : s < 0
    · go_wp2_with fail
      rw [← hw0, ← hb]
      obtain ⟨c4, f4⟩ := cellsOf HB0.out
      clear hw0 hb
      go_wp2_with (first
        | (go_at_call 87; refine (HSL.out _ HG0.out.1).mono ?_; rintro e w1 ⟨rfl, rfl⟩)
        | (go_at_call 88; refine (of_any (H.out.gr HG0.out.1) s).mono ?_; rintro e w1 ⟨rfl, hg⟩; simp only [byV]; have HG1 := Lib.hid hg; have e4 := (cellsOf (hg.blk HB0.out)).1; have g4 := (cellsOf (hg.blk HB0.out)).2; clear hg)
        | fail)
      have HF : ofL X s = (zBy, 3) := by rw [HOF.out]; simp [hz, hs]
      have hb5 := blk5 HB0.out (.int .i64 (zBy.total)) (.int .i64 (zBy.live)) (.int .i64 (zBy.tombs)) (.int .i64 (zBy.dead)) (.int .i64 (zBy.last))
      obtain ⟨d4, _⟩ := cellsOf hb5
      refine retM0 (v := .tuple #[byV (zBy), .int .i64 3]) ?_ rfl ⟨by rw [HF], Gr.cell5 (HG0.out.1) HG0.out.2 _ _ _ _ _⟩
      (try simp only [zBy] at d4)
      simp [results, Try.results22, go_sem, d4, byV, zBy]
    · by_cases hs2 : (n : Int) ≤ s
      · go_wp2_with fail
        rw [← hw0, ← hb]
        obtain ⟨c4, f4⟩ := cellsOf HB0.out
        clear hw0 hb
        go_wp2_with (first
          | (go_at_call 87; refine (HSL.out _ HG0.out.1).mono ?_; rintro e w1 ⟨rfl, rfl⟩)
          | (go_at_call 88; refine (of_any (H.out.gr HG0.out.1) s).mono ?_; rintro e w1 ⟨rfl, hg⟩; simp only [byV]; have HG1 := Lib.hid hg; have e4 := (cellsOf (hg.blk HB0.out)).1; have g4 := (cellsOf (hg.blk HB0.out)).2; clear hg)
          | fail)
        have HF : ofL X s = (zBy, 3) := by rw [HOF.out]; simp [hz, hs2]
        have hb5 := blk5 HB0.out (.int .i64 (zBy.total)) (.int .i64 (zBy.live)) (.int .i64 (zBy.tombs)) (.int .i64 (zBy.dead)) (.int .i64 (zBy.last))
        obtain ⟨d4, _⟩ := cellsOf hb5
        refine retM0 (v := .tuple #[byV (zBy), .int .i64 3]) ?_ rfl ⟨by rw [HF], Gr.cell5 (HG0.out.1) HG0.out.2 _ _ _ _ _⟩
        (try simp only [zBy] at d4)
        simp [results, Try.results22, go_sem, d4, byV, zBy]
      · go_wp2_with fail
        rw [← hw0, ← hb]
        obtain ⟨c4, f4⟩ := cellsOf HB0.out
        clear hw0 hb
        go_wp2_with (first
          | (go_at_call 87; refine (HSL.out _ HG0.out.1).mono ?_; rintro e w1 ⟨rfl, rfl⟩)
          | (go_at_call 88; refine (of_any (H.out.gr HG0.out.1) s).mono ?_; rintro e w1 ⟨rfl, hg⟩; simp only [byV]; have HG1 := Lib.hid hg; have e4 := (cellsOf (hg.blk HB0.out)).1; have g4 := (cellsOf (hg.blk HB0.out)).2; clear hg)
          | fail)
        have HF : ofL X s = (byOf X s, 0) := by rw [HOF.out]; simp [hz, hs, hs2]
        have hb5 := blk5 (HG1.out.blk HB0.out) (.int .i64 ((byOf X s).total)) (.int .i64 ((byOf X s).live)) (.int .i64 ((byOf X s).tombs)) (.int .i64 ((byOf X s).dead)) (.int .i64 ((byOf X s).last))
        obtain ⟨d4, _⟩ := cellsOf hb5
        refine retM0 (v := .tuple #[byV (byOf X s), .int .i64 0]) ?_ rfl ⟨by rw [HF], Gr.cell5 (HG0.out.1.trans HG1.out) HG0.out.2 _ _ _ _ _⟩
        (try simp only [zBy] at d4)
        simp [results, Try.results22, go_sem, d4, byV, zBy]
end Go.Proofs.Ytmdfickejpeofaa

/- An append of however many elements to a row of the call's own; what a slice of a row is made of. No program in sight. -/
set_option linter.unusedVariables false
set_option linter.unusedSimpArgs false
namespace Go.Proofs.Ytmdfickejpeofaa
open Go.RowKit

/-- What is appended: m elements; they lie at xa, where there are any. -/
def SrcAt (w : World) (size : Nat) (xa : Option Addr) (m : Nat) (news : List Value) : Prop :=
  news.length = m * size ∧ (∀ u ∈ news, u.oneCell' = true) ∧ (m = 0 ∨ ∃ ad, xa = some ad ∧ ∀ j u, news[j]? = some u → w.cell? (ad.add j) = some u)
/-- What an append leaves. -/
def AppV (w : World) (e : TypeId) (size : Nat) (v : Value) (n : Nat) (xs : List Value) (v' : Value) (w' : World) : Prop :=
  Own w' e size v' n xs ∧ (∀ g, v'.ownBlock = some g → v.ownBlock = some g ∨ w.heap.size ≤ g) ∧ w.grownBy w' v.ownBlock
theorem addr_add (b o j : Nat) : (⟨b, o, none⟩ : Addr).add j = ⟨b, o + j, none⟩ := by unfold Addr.add; split <;> simp_all
theorem keepAdd {w w' : World} {S : Nat → Prop} (m : Mdh S w w') {b o j : Nat} {u : Value} (h : w.cell? ((⟨b, o, none⟩ : Addr).add j) = some u) (hs : ¬ S b) : w'.cell? ((⟨b, o, none⟩ : Addr).add j) = some u := by
  rw [addr_add] at h ⊢
  exact m.keep h hs
theorem SrcAt.gr {w w' : World} {K m : Nat} {xa : Option Addr} {news : List Value} (h : SrcAt w K xa m news) (g : Gr w w') : SrcAt w' K xa m news :=
  ⟨h.1, h.2.1, h.2.2.imp id (fun ⟨ad, e, hc⟩ => ⟨ad, e, fun j u hj => (World.cell?_of_block (Below.block g _ (World.block_lt_of_cell? w _ (hc j u hj)))).trans (hc j u hj)⟩)⟩
theorem SrcAt.mdh {w w' : World} {S : Nat → Prop} {K m : Nat} {xa : Option Addr} {news : List Value} (h : SrcAt w K xa m news) (g : Mdh S w w') (hs : ∀ ad, xa = some ad → ¬ S ad.block) : SrcAt w' K xa m news :=
  ⟨h.1, h.2.1, h.2.2.imp id (fun ⟨ad, e, hc⟩ => ⟨ad, e, fun j u hj => by
    have h0 : (ad.add j).block = ad.block := by unfold Addr.add; split <;> rfl
    have h1 := World.block_lt_of_cell? w _ (hc j u hj)
    exact (World.cell?_of_block (g.blocks _ h1 (by rw [h0]; exact hs ad e))).trans (hc j u hj)⟩)⟩
/-- A whole row, as a source. -/
theorem src_all {w : World} {e : TypeId} {K n cap : Nat} {a : Option Addr} {xs : List Value} (h : Own w e K (.slice a n cap) n xs) (h1 : ∀ u ∈ xs, u.oneCell' = true) : SrcAt w K a n xs := by
  refine ⟨h.1, h1, ?_⟩
  rcases h.2 with ⟨_, h0⟩ | ⟨g, cap', cur, hv, _⟩
  · exact .inl h0
  · simp only [Value.slice.injEq] at hv
    obtain ⟨rfl, _, _⟩ := hv
    exact .inr ⟨_, rfl, h.cells rfl⟩
/-- Its first elements. -/
theorem src_take {w : World} {e : TypeId} {K n cap i : Nat} {a : Option Addr} {xs : List Value} (h : Own w e K (.slice a n cap) n xs) (h1 : ∀ u ∈ xs, u.oneCell' = true) (hi : i ≤ n) : SrcAt w K a i (xs.take (i * K)) := by
  have hl := h.1
  have hm := Nat.mul_le_mul_right K hi
  refine ⟨by rw [List.length_take]; omega, fun u hu => h1 u (List.mem_of_mem_take hu), ?_⟩
  rcases (src_all h h1).2.2 with h0 | ⟨ad, rfl, hc⟩
  · exact .inl (by omega)
  · exact .inr ⟨ad, rfl, fun j u hj => hc j u (by
      rw [List.getElem?_take] at hj
      split at hj
      · exact hj
      · cases hj)⟩
/-- Its last ones. -/
theorem src_drop {w : World} {e : TypeId} {K n cap i : Nat} {a : Option Addr} {xs : List Value} (h : Own w e K (.slice a n cap) n xs) (h1 : ∀ u ∈ xs, u.oneCell' = true) (hi : i ≤ n) (xa : Option Addr) (hxa : ∀ g, a = some ⟨g, 0, none⟩ → i < n → xa = some ⟨g, i * K, none⟩) : SrcAt w K xa (n - i) (xs.drop (i * K)) := by
  have hl := h.1
  refine ⟨by rw [List.length_drop, hl, Nat.sub_mul], fun u hu => h1 u (List.mem_of_mem_drop hu), ?_⟩
  by_cases e0 : i = n
  · exact .inl (by omega)
  · rcases h.2 with ⟨_, h0⟩ | ⟨g, cap', cur, hv, _⟩
    · omega
    · simp only [Value.slice.injEq] at hv
      obtain ⟨rfl, _, _⟩ := hv
      refine .inr ⟨_, hxa g rfl (by omega), fun j u hj => ?_⟩
      rw [List.getElem?_drop] at hj
      have := h.cells (g := g) rfl _ u hj
      rw [addr_add] at this ⊢
      rwa [Nat.zero_add] at this
section
variable {P : Program} (w : World)
theorem run_app_none (t ty e : TypeId) (i : TypeInfo) (size : Nat) (ht : P.underlying t = some (.slice e)) (hi : P.info? e = some i) (_hsize : i.size = size)
    (v : Value) (n : Nat) (xs : List Value) (hown : Own w e size v n xs) (xa : Option Addr) (c : Nat) : (Builtin.append_ #[t, t] ty #[v, .slice xa 0 c]).run P w = .ok v w := by
  rcases hown.2 with ⟨rfl, rfl⟩ | ⟨g, cap, cur, rfl, _, _, hnc, _⟩
  · cases xa <;> simp [Builtin.append_, run_underlying ht, sizeOf, typeInfo, hi, Builtin.firstCells, Builtin.lenOf, loadCells, loadCellsFrom]
  · cases xa <;> simp [Builtin.append_, run_underlying ht, sizeOf, typeInfo, hi, Builtin.firstCells, Builtin.lenOf, storeCells, loadCells, loadCellsFrom, hnc]
theorem run_appv (t ty e : TypeId) (i : TypeInfo) (z : Value) (size bytes : Nat) (ht : P.underlying t = some (.slice e)) (hi : P.info? e = some i) (hz : i.zero = some z)
    (hsize : i.size = size) (hby : i.bytes = bytes) (hzs : z.cells.size = size) (hsz : 0 < size)
    (v : Value) (n : Nat) (xs : List Value) (hown : Own w e size v n xs) (xa : Option Addr) (m c : Nat) (news : List Value) (hsrc : SrcAt w size xa m news) (h63 : n + m ≤ maxLen) (hbytes : (n + m) * bytes ≤ 140737488355328) :
    ∃ v' w', (Builtin.append_ #[t, t] ty #[v, .slice xa m c]).run P w = .ok v' w' ∧ AppV w e size v (n + m) (xs ++ news) v' w' := by
  obtain ⟨hl, h1, hs⟩ := hsrc
  by_cases hm : m = 0
  · subst hm
    obtain rfl : news = [] := List.eq_nil_of_length_eq_zero (by omega)
    exact ⟨v, w, run_app_none w t ty e i size ht hi hsize v n xs hown xa c, by simpa using hown, fun g hg => .inl hg, ⟨rfl, rfl, rfl, Nat.le_refl _, fun _ _ _ => rfl⟩⟩
  · obtain ⟨ad, rfl, hc⟩ := hs.resolve_left hm
    obtain ⟨g, cap, w', hr, h2, h3, h4⟩ := run_app w t ty e i z size bytes ht hi hz hsize hby hzs hsz v n xs hown ad m c news hl hc h1 (by omega) h63 hbytes
    exact ⟨_, w', hr, h2, fun k hk => (by simpa [Value.ownBlock] using hk : g = k) ▸ h3, h4⟩
theorem wp_appv {o : Oper} {a : Act} {K : Act → World → Prop} {Q : Exit → Act → World → Prop} (s x : Operand) (t : TypeId)
    (ho : o.op = .call { callee := .builtin .append, args := #[s, x], argTypes := #[t, t] })
    (e : TypeId) (i : TypeInfo) (z : Value) (size bytes : Nat) (ht : P.underlying t = some (.slice e)) (hi : P.info? e = some i) (hz : i.zero = some z)
    (hsize : i.size = size) (hby : i.bytes = bytes) (hzs : z.cells.size = size) (hsz : 0 < size)
    (v : Value) (n : Nat) (xs : List Value) (hs : a.eval s = v) (hown : Own w e size v n xs)
    (xa : Option Addr) (m c : Nat) (news : List Value) (hx : a.eval x = .slice xa m c) (hsrc : SrcAt w size xa m news) (h63 : n + m ≤ maxLen) (hbytes : (n + m) * bytes ≤ 140737488355328)
    (h : ∀ v' w', AppV w e size v (n + m) (xs ++ news) v' w' → K (a.put o.dst v') w') : o.wp P a w K Q := by
  obtain ⟨v', w', hr, h2⟩ := run_appv (P := P) w t o.type e i z size bytes ht hi hz hsize hby hzs hsz v n xs hown xa m c news hsrc h63 hbytes
  unfold Oper.wp execOp
  simp only [ho, resolve, invoke, builtin, Sem.run_bind, Sem.run_pure, Result.andThen_ok, List.map_toArray, List.map_cons, List.map_nil, hs, hx, hr]
  exact h v' w' h2
theorem wpList_appv {ops : Array Oper} {rest : List Oper} {o : Oper} {a : Act} {Q : Exit → Act → World → Prop} (hgd : o.guard = none) (s x : Operand) (t : TypeId)
    (ho : o.op = .call { callee := .builtin .append, args := #[s, x], argTypes := #[t, t] })
    (e : TypeId) (i : TypeInfo) (z : Value) (size bytes : Nat) (ht : P.underlying t = some (.slice e)) (hi : P.info? e = some i) (hz : i.zero = some z)
    (hsize : i.size = size) (hby : i.bytes = bytes) (hzs : z.cells.size = size) (hsz : 0 < size)
    (v : Value) (n : Nat) (xs : List Value) (hs : a.eval s = v) (hown : Own w e size v n xs)
    (xa : Option Addr) (m c : Nat) (news : List Value) (hx : a.eval x = .slice xa m c) (hsrc : SrcAt w size xa m news) (h63 : n + m ≤ maxLen) (hbytes : (n + m) * bytes ≤ 140737488355328)
    (h : ∀ v' w', AppV w e size v (n + m) (xs ++ news) v' w' → wpList P ops Q rest (a.put o.dst v') w') : wpList P ops Q (o :: rest) a w :=
  wpList_plain hgd fun _ hK => wp_appv w s x t ho e i z size bytes ht hi hz hsize hby hzs hsz v n xs hs hown xa m c news hx hsrc h63 hbytes fun v' w' h2 => hK _ _ (h v' w' h2)
theorem wpIn_appv {F : Fence} {f : Nat} {o : Oper} {a : Act} {K : Act → World → Prop} {Q : Exit → Act → World → Prop} (s x : Operand) (t : TypeId)
    (ho : o.op = .call { callee := .builtin .append, args := #[s, x], argTypes := #[t, t] })
    (e : TypeId) (i : TypeInfo) (z : Value) (size bytes : Nat) (ht : P.underlying t = some (.slice e)) (hi : P.info? e = some i) (hz : i.zero = some z)
    (hsize : i.size = size) (hby : i.bytes = bytes) (hzs : z.cells.size = size) (hsz : 0 < size)
    (v : Value) (n : Nat) (xs : List Value) (hs : a.eval s = v) (hown : Own w e size v n xs)
    (xa : Option Addr) (m c : Nat) (news : List Value) (hx : a.eval x = .slice xa m c) (hsrc : SrcAt w size xa m news) (h63 : n + m ≤ maxLen) (hbytes : (n + m) * bytes ≤ 140737488355328)
    (h : ∀ v' w', AppV w e size v (n + m) (xs ++ news) v' w' → K (a.put o.dst v') w') : o.wpIn F f P a w K Q := by
  obtain ⟨v', w', hr, h2⟩ := run_appv (P := P) w t o.type e i z size bytes ht hi hz hsize hby hzs hsz v n xs hown xa m c news hsrc h63 hbytes
  unfold Oper.wpIn
  refine ⟨?_, ?_⟩
  · simp [Oper.about, ho, resolve, Target.leads, Sem.run_pure]
  · rw [Oper.semAt_plain F _ _ (by rw [ho]; intro c hc'; cases hc')]
    simp only [execOp, ho, resolve, invoke, builtin, Sem.run_bind, Sem.run_pure, Result.andThen_ok, List.map_toArray, List.map_cons, List.map_nil, hs, hx, hr]
    exact h v' w' h2
theorem wpListIn_appv {F : Fence} {f : Nat} {ops : Array Oper} {rest : List Oper} {o : Oper} {a : Act} {Q : Exit → Act → World → Prop} (hgd : o.guard = none) (s x : Operand) (t : TypeId)
    (ho : o.op = .call { callee := .builtin .append, args := #[s, x], argTypes := #[t, t] })
    (e : TypeId) (i : TypeInfo) (z : Value) (size bytes : Nat) (ht : P.underlying t = some (.slice e)) (hi : P.info? e = some i) (hz : i.zero = some z)
    (hsize : i.size = size) (hby : i.bytes = bytes) (hzs : z.cells.size = size) (hsz : 0 < size)
    (v : Value) (n : Nat) (xs : List Value) (hs : a.eval s = v) (hown : Own w e size v n xs)
    (xa : Option Addr) (m c : Nat) (news : List Value) (hx : a.eval x = .slice xa m c) (hsrc : SrcAt w size xa m news) (h63 : n + m ≤ maxLen) (hbytes : (n + m) * bytes ≤ 140737488355328)
    (h : ∀ v' w', AppV w e size v (n + m) (xs ++ news) v' w' → wpListIn F f P ops Q rest (a.put o.dst v') w') : wpListIn F f P ops Q (o :: rest) a w :=
  wpListIn_plain hgd fun _ hK => wpIn_appv w s x t ho e i z size bytes ht hi hz hsize hby hzs hsz v n xs hs hown xa m c news hx hsrc h63 hbytes fun v' w' h2 => hK _ _ (h v' w' h2)
end
/-- Slices of a row of the call's own, whatever its value looks like. -/
theorem slice_take {P : Program} {w : World} {t e : TypeId} {i0 : TypeInfo} (ht : P.underlying t = some (.slice e)) (hi : P.info? e = some i0) {K : Nat} (hs : i0.size = K) {v : Value} {n : Nat} {xs : List Value} (h : Own w e K v n xs) (h1 : ∀ u ∈ xs, u.oneCell' = true) {i : Nat} (hin : i ≤ n) :
    ∃ xa c, (∀ w', (Instr.slice t v none (some (.int .i64 (i : Int))) none).run P w' = .ok (.slice xa i c) w') ∧ SrcAt w K xa i (xs.take (i * K)) ∧ ∀ ad, xa = some ad → v.ownBlock = some ad.block := by
  have he : P.elem t = e := by simp [Program.elem, ht]
  have ht' : P.underlying t = some (.slice (P.elem t)) := by rw [he]; exact ht
  have hz : ∀ w', (sizeOf (P.elem t)).run P w' = .ok K w' := fun w' => by rw [he]; simp [sizeOf, typeInfo, hi, hs]
  rcases h.2 with ⟨rfl, h0⟩ | ⟨g, cap, cur, rfl, _, _, hnc, _⟩
  · obtain rfl : i = 0 := by omega
    refine ⟨none, 0, fun w' => ?_, by simpa using (show SrcAt w K none 0 [] from ⟨by simp, by simp, .inl rfl⟩), fun ad e => by cases e⟩
    rw [run_slice_h w' t none 0 0 ht' .i64 _ (by omega) (by simp), hz]
    simp [Result.andThen, sliced]
  · refine ⟨some ⟨g, 0, none⟩, cap, fun w' => ?_, src_take h h1 hin, fun ad e => by obtain rfl := Option.some.inj e; rfl⟩
    rw [run_slice_h w' t _ n cap ht' .i64 _ (by omega) (by omega), hz]
    simp [Result.andThen, sliced, addr_add]
theorem slice_drop {P : Program} {w : World} {t e : TypeId} {i0 : TypeInfo} (ht : P.underlying t = some (.slice e)) (hi : P.info? e = some i0) {K : Nat} (hs : i0.size = K) {v : Value} {n : Nat} {xs : List Value} (h : Own w e K v n xs) (h1 : ∀ u ∈ xs, u.oneCell' = true) {i : Nat} (hin : i ≤ n) :
    ∃ xa c, (∀ w', (Instr.slice t v (some (.int .i64 (i : Int))) none none).run P w' = .ok (.slice xa (n - i) c) w') ∧ SrcAt w K xa (n - i) (xs.drop (i * K)) ∧ ∀ ad, xa = some ad → v.ownBlock = some ad.block := by
  have he : P.elem t = e := by simp [Program.elem, ht]
  have ht' : P.underlying t = some (.slice (P.elem t)) := by rw [he]; exact ht
  have hz : ∀ w', (sizeOf (P.elem t)).run P w' = .ok K w' := fun w' => by rw [he]; simp [sizeOf, typeInfo, hi, hs]
  rcases h.2 with ⟨rfl, h0⟩ | ⟨g, cap, cur, rfl, _, _, hnc, _⟩
  · obtain rfl : i = 0 := by omega
    have hx : xs = [] := List.eq_nil_of_length_eq_zero (by rw [h.1, h0]; simp)
    refine ⟨none, 0, fun w' => ?_, by subst h0 hx; simpa using (show SrcAt w K none 0 [] from ⟨by simp, by simp, .inl rfl⟩), fun ad e => by cases e⟩
    subst h0
    rw [run_slice_l w' t none 0 0 ht' .i64 _ (by omega) (by simp), hz]
    simp [Result.andThen, sliced]
  · refine ⟨if cap = i then some ⟨g, 0, none⟩ else some ⟨g, i * K, none⟩, cap - i, fun w' => ?_, src_drop h h1 hin _ (fun g' hg' hlt => ?_), fun ad e => ?_⟩
    · rw [run_slice_l w' t _ n cap ht' .i64 _ (by omega) (by omega), hz]
      simp [Result.andThen, sliced, addr_add]
    · obtain rfl : g = g' := by simpa using hg'
      rw [if_neg (by omega)]
    · split at e <;> (obtain rfl := Option.some.inj e; rfl)
theorem src_new (w : World) (x : Value) (t : TypeId) (hx : x.oneCell' = true) : SrcAt (w.alloc (.cells #[x] t)) 1 (some ⟨w.heap.size, 0, none⟩) 1 [x] := by
  refine ⟨rfl, fun u hu => by obtain rfl := List.mem_singleton.1 hu; exact hx, .inr ⟨_, rfl, fun j u hj => ?_⟩⟩
  match j with
  | 0 => simp at hj; subst hj; simp [go_sem, Addr.add]
  | j + 1 => simp at hj
theorem src_newK (w : World) (cs : List Value) (t : TypeId) (K : Nat) (hK : cs.length = K) (hx : ∀ u ∈ cs, u.oneCell' = true) : SrcAt (w.alloc (.cells cs.toArray t)) K (some ⟨w.heap.size, 0, none⟩) 1 cs := by
  refine ⟨by omega, hx, .inr ⟨_, rfl, fun j u hj => ?_⟩⟩
  rw [addr_add, Nat.zero_add, (cellsOf (blkNew w (.cells cs.toArray t))).1 j]
  simpa using hj
theorem own_ne {w : World} {e t : TypeId} {K n b : Nat} {v : Value} {xs : List Value} {cs : Array Value} (h : Own w e K v n xs) (hb : w.heap[b]? = some (.cells cs t)) (hte : t ≠ e) : v.ownBlock ≠ some b := by
  rcases h.2 with ⟨rfl, _⟩ | ⟨g, cap, cur, rfl, _, hg, _⟩
  · intro h; cases h
  · intro h
    obtain rfl : g = b := by simpa [Value.ownBlock] using h
    rw [hg] at hb
    simp only [Option.some.injEq, Obj.cells.injEq] at hb
    exact hte hb.2.1.symm
theorem own_ne2 {w : World} {e e' : TypeId} {K K' n n' : Nat} {v v' : Value} {xs xs' : List Value} (h : Own w e K v n xs) (h' : Own w e' K' v' n' xs') (hte : e ≠ e') : ∀ g, v.ownBlock = some g → v'.ownBlock ≠ some g := by
  intro g hg
  rcases h.2 with ⟨rfl, _⟩ | ⟨g1, cap, cur, rfl, _, hc, _⟩
  · cases hg
  · obtain rfl : g1 = g := Option.some.inj hg
    exact own_ne h' hc hte
theorem own_blk {w : World} {e : TypeId} {K n g : Nat} {v : Value} {xs : List Value} (h : Own w e K v n xs) (hg : v.ownBlock = some g) : ∃ cs, w.heap[g]? = some (.cells cs e) := by
  rcases h.2 with ⟨rfl, _⟩ | ⟨g1, cap, cur, rfl, _, hc, _⟩
  · cases hg
  · obtain rfl : g1 = g := Option.some.inj hg
    exact ⟨cur, hc⟩
theorem ownB {b n c q : Nat} (h : Value.ownBlock (.slice (some ⟨b, 0, none⟩) n c) = some q) : q = b := (Option.some.inj h).symm
/-- A row whose block is new since w0. -/
structure Nw (w0 w : World) (e : TypeId) (K : Nat) (v : Value) (n : Nat) (xs : List Value) : Prop where
  own : Own w e K v n xs
  new : ∀ q, v.ownBlock = some q → w0.heap.size ≤ q
theorem Nw.gr {w0 w w' : World} {e : TypeId} {K n : Nat} {v : Value} {xs : List Value} (h : Nw w0 w e K v n xs) (g : Gr w w') : Nw w0 w' e K v n xs := ⟨h.own.gr g, h.new⟩
theorem Nw.mdh {S : Nat → Prop} {w0 w w' : World} {e : TypeId} {K n : Nat} {v : Value} {xs : List Value} (h : Nw w0 w e K v n xs) (m : Mdh S w w') (hs : ∀ q, v.ownBlock = some q → ¬ S q) : Nw w0 w' e K v n xs := ⟨h.own.mdh m hs, h.new⟩
theorem Nw.made {w0 w : World} {e : TypeId} {K : Nat} (hz : w0.heap.size ≤ w.heap.size) : Nw w0 (w.alloc (.cells #[] e)) e K (.slice (some ⟨w.heap.size, 0, none⟩) 0 0) 0 [] :=
  ⟨Own.ofParts (blkNew w _) (Nat.le_refl _) (by simp [maxLen]) (by simp) (by simp), fun q hq => (by simpa [Value.ownBlock] using hq : w.heap.size = q) ▸ hz⟩
/-- What an append to such a row leaves. -/
theorem AppV.nw {w0 w w' : World} {e : TypeId} {K n m : Nat} {v v' : Value} {xs ys : List Value} (h : AppV w e K v n xs v' w') (hv : Nw w0 w e K v m ys) (hz : w0.heap.size ≤ w.heap.size) : Nw w0 w' e K v' n xs :=
  ⟨h.1, fun q hq => (h.2.1 q hq).elim (hv.new q) (Nat.le_trans hz)⟩
theorem AppV.gw {w0 w w' : World} {e : TypeId} {K n m : Nat} {v v' : Value} {xs ys : List Value} (h : AppV w e K v n xs v' w') (hv : Nw w0 w e K v m ys) (g : Gr w0 w) : Gr w0 w' :=
  g.md ((Mdh.refl _ w).grown h.2.2 (fun _ hr => hr)) hv.new
theorem AppV.mw {S : Nat → Prop} {w0 w w' : World} {e : TypeId} {K n m : Nat} {v v' : Value} {xs ys : List Value} (h : AppV w e K v n xs v' w') (hv : Nw w0 w e K v m ys) (g : Mdh S w0 w) : Mdh S w0 w' :=
  g.then ((Mdh.refl _ w).grown h.2.2 (fun _ hr => hr)) (fun q hq => .inr (hv.new q hq))
theorem AppV.val {w w' : World} {e : TypeId} {K n : Nat} {v v' : Value} {xs : List Value} (h : AppV w e K v n xs v' w') : ∃ a c, v' = .slice a n c := by
  rcases h.1.2 with ⟨rfl, rfl⟩ | ⟨g, cap, cur, rfl, _⟩
  · exact ⟨none, 0, rfl⟩
  · exact ⟨_, cap, rfl⟩
theorem AppV.mdh {w w' : World} {e : TypeId} {size n : Nat} {v v' : Value} {xs : List Value} (h : AppV w e size v n xs v' w') {S : Nat → Prop} (hS : ∀ g, v.ownBlock = some g → S g) : Mdh S w w' :=
  (Mdh.refl _ w).grown h.2.2 hS
end Go.Proofs.Ytmdfickejpeofaa

/- ledger.All: the bytes of all slots. -/
set_option linter.unusedVariables false
set_option linter.unusedSimpArgs false
namespace Go.Proofs.Ytmdfickejpeofaa
open Go.RowKit Go.Shelf
attribute [local go_sem] OvM cell_ovm obj_ovm
attribute [local go_sem] Oper.semAt_some

theorem infoBy : (Try.prog.info? 56).map (fun i => (i.zero, i.size, i.bytes)) = some (some (.agg #[.int .i64 0, .int .i64 0, .int .i64 0, .int .i64 0, .int .i64 0]), 5, 40) := by kernel_rfl
def cellsBy (b : By) : List Value := [.int .i64 b.total, .int .i64 b.live, .int .i64 b.tombs, .int .i64 b.dead, .int .i64 b.last]
def rowBy (l : List By) : List Value := l.flatMap cellsBy
def allL (X : IX) (n : Nat) : List By := (List.range n).map fun i => byOf X (i : Nat)
theorem allL_succ (X : IX) (n : Nat) : allL X (n + 1) = allL X n ++ [byOf X n] := by simp [allL, List.range_succ]
theorem rowBy_snoc (l : List By) (b : By) : rowBy (l ++ [b]) = rowBy l ++ cellsBy b := by simp [rowBy]
def AllPost (X : IX) (w : World) (e : Ending) (w' : World) : Prop :=
  ∃ v, e = .returned (.tuple #[v, .int .i64 (if X.slots.length = 0 then 1 else 0)]) ∧ Nw w w' 56 5 v X.slots.length (rowBy (allL X X.slots.length)) ∧ Gr w w'
theorem Nw.nil (w : World) (e : TypeId) (K : Nat) : Nw w w e K (.slice none 0 0) 0 [] := ⟨Own.lift (World.ownsRow_nil w w.heap.size e K), fun q hq => by cases hq⟩
set_option maxRecDepth 40000 in
set_option maxHeartbeats 4000000 in
theorem All_any {w : World} {p : Option Addr} {X : IX} {S : Nat → Prop} (h : IXP w p X S) : Calls Try.prog 26 #[.pointer p] w (AllPost X w) := by
  have H := Lib.hid h
  have h32 := h.ok.n
  obtain ⟨n, hn⟩ : ∃ n : Nat, n = X.slots.length := ⟨_, rfl⟩
  have HSL : Hid (∀ w1, Gr w w1 → Calls Try.prog 87 #[.pointer p] w1 fun e w' => e = .returned (.int .i64 n) ∧ w1 = w') := Lib.hid (fun w1 g => by rw [hn]; exact Slots_any (h.gr g))
  have HAP : Hid (∀ v w', Nw w w' 56 5 v n (rowBy (allL X n)) → Gr w w' → AllPost X w (.returned (.tuple #[v, .int .i64 (if n = 0 then 1 else 0)])) w') := Lib.hid (by rw [hn]; exact fun v w' h1 h2 => ⟨v, rfl, h1, h2⟩)
  rw [← hn] at h32
  obtain ⟨i0, hi, hz0, hz1, hz2⟩ := info_parts infoBy
  generalize AllPost X w = Q at *
  clear h hn
  go_enter Try.func26, Try.ntmps26
  by_cases hz : n = 0
  · subst hz
    go_wp2_with (go_at_call 87; refine (HSL.out _ (Gr.refl _)).mono ?_; rintro e w1 ⟨rfl, rfl⟩)
    exact HAP.out _ _ (Nw.nil w _ _) (Gr.refl _)
  · have hz' : decide ((n : Int) = 0) = false := by simpa using hz
    go_wp2_with (go_at_call 87; refine (HSL.out _ (Gr.refl _)).mono ?_; rintro e w1 ⟨rfl, rfl⟩)
    go_loopw [4, 11] (fun t4 t11 wx => ∃ (j : Nat) (v : Value), j ≤ n ∧ v = t4 ∧ t11 = .int .i64 j ∧ Hid (Nw w wx 56 5 v j (rowBy (allL X j)) ∧ Gr w wx)) (fun _ t11 _ => n - (intOf t11).toNat)
    case atStart => exact ⟨0, _, by omega, rfl, rfl, Lib.hid ⟨Nw.nil w _ _, Gr.refl _⟩⟩
    case round =>
      obtain ⟨j, v, hj, rfl, rfl, HR⟩ := hrel
      by_cases hlt : j < n
      · have hlt' : (j : Int) < n := by omega
        have HROW : Hid (rowBy (allL X (j + 1)) = rowBy (allL X j) ++ cellsBy (byOf X j)) := Lib.hid (by rw [allL_succ, rowBy_snoc])
        go_wp2_with (first
          | (go_at_call 88; refine (of_any (H.out.gr HR.out.2) j).mono ?_; rintro e w1 ⟨rfl, hg⟩; generalize byOf X j = y at *; obtain ⟨y0, y1, y2, y3, y4⟩ := y; simp only [byV]; have N1 := Lib.hid (HR.out.1.gr hg); have HG1 := Lib.hid (HR.out.2.trans hg); clear hg)
          | (at_builtin; go_must (refine wpList_appv _ rfl (.tmp 14) (.tmp 18) 64 rfl 56 i0 _ 5 40 Try.underlying64 hi hz0 hz1 hz2 rfl (by decide) v j (rowBy (allL X j)) rfl (N1.out.own.gr (by (repeat (first | (with_reducible exact Gr.refl _) | assumption | (with_reducible apply Gr.from_drew) | (with_reducible apply Gr.alloc) | (with_reducible apply Gr.drew) | (with_reducible refine Gr.trans ?_ (by assumption)) | (with_reducible refine Gr.setCell ?_ (by omega) _))))) (some ⟨w1.heap.size, 0, none⟩) 1 1 (cellsBy ⟨y0, y1, y2, y3, y4⟩) rfl (src_newK w1 (cellsBy ⟨y0, y1, y2, y3, y4⟩) _ 5 rfl (by simp [cellsBy, Value.oneCell'])) (by simp only [maxLen]; omega) (by omega) ?_); intro v2 w2 hA; have N2 := Lib.hid (hA.nw (N1.out.gr ((Gr.refl w1).alloc _)) (by have := HG1.out.sz; simp; omega)); have HG2 := Lib.hid (hA.gw (N1.out.gr ((Gr.refl w1).alloc _)) (HG1.out.alloc _)); clear hA)
          | fail)
        go_roundw
        case rel => exact ⟨j + 1, v2, by omega, rfl, by go_num, Lib.hid ⟨by rw [HROW.out]; exact N2.out, HG2.out⟩⟩
        case measure => simp [intOf]; omega
      · have hlt' : ¬ (j : Int) < n := by omega
        have hjn : j = n := by omega
        subst hjn
        go_wp2
        have := HAP.out _ _ HR.out.1 HR.out.2
        rwa [if_neg hz] at this
end Go.Proofs.Ytmdfickejpeofaa
