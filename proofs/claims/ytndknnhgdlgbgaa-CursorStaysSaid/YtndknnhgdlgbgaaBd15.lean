/- cursor: Advance; the calls beside an index; drumlinlaw28: put. -/
import Derived.Test.YtndknnhgdlgbgaaBd14
import Derived.Test.YtndknnhgdlgbgaaBd13
import Derived.Test.YtndknnhgdlgbgaaBd2
import Derived.Deep.Slices
import Derived.Deep.Fields
import Derived.ChangeSame
import Derived.ChangeArms
import Derived.OpenShut
import Derived.ShutString
import Derived.ChangeOld
import Derived.Lib.SmallJoins
import Derived.Laws.IdiomArrays
set_option linter.unusedVariables false
set_option linter.unusedSimpArgs false
namespace Go.Proofs.Ytndknnhgdlgbgaa
open Go.RowKit Go.Shelf
attribute [local go_sem] OvM cell_ovm obj_ovm
attribute [local go_sem] Oper.semAt_some

theorem peekO_b {X : IX} (h : X.Wf) {c : Cu} {e : En} (he : peekO X c = some e) : peekC X c = 0 ∧ 0 ≤ e.off ∧ e.off + e.size ≤ 8192 ∧ 0 ≤ e.size ∧ peekE X c = some e := by
  unfold peekO at he
  by_cases h0 : peekC X c = 0
  · rw [if_pos h0] at he
    have hv := (valid_iff e).1 (h.valid ((h.slot_mem c.slot e).1 (List.mem_of_find?_eq_some he)).1).1
    exact ⟨h0, by omega, by omega, by omega, he⟩
  · rw [if_neg h0] at he; cases he
def pvO (X : IX) (n : Int) (o : Option En) : Value := match o with | none => .tuple #[enV zE, .bool false, .bool false, .int .i64 n] | some e => .tuple #[enV e, .bool (X.needs e), .bool true, .int .i64 0]
def axO (c : Cu) (o : Option En) : Cu := match o with | none => c | some e => ⟨c.has, c.slot, e.off + e.size⟩
set_option maxRecDepth 40000 in
set_option maxHeartbeats 4000000 in
theorem cuAdvance {w : World} {b : Nat} {c : Cu} {p : Option Addr} {X : IX} {S : Nat → Prop} (hc : w.heap[b]? = some (cuO c)) (h : IXP w p X S) : Calls Try.prog 56 #[.pointer (some ⟨b, 0, none⟩), .pointer p] w fun e w' => e = .returned (.int .i64 (advC X c)) ∧ w'.heap[b]? = some (cuO (advX X c)) ∧ Mdh (fun k => k = b) w w' := by
  have H := Lib.hid h
  have HCB := Lib.hid hc
  have hb := fun e he => peekO_b h.ok (c := c) (e := e) he
  obtain ⟨o, ho⟩ : ∃ o, o = peekO X c := ⟨_, rfl⟩
  obtain ⟨n, hn⟩ : ∃ n, n = peekC X c := ⟨_, rfl⟩
  have HPV : Hid (peekV X c = pvO X n o) := Lib.hid (by rw [ho, hn]; rfl)
  have HX : Hid (advX X c = axO c o) := Lib.hid (by rw [ho]; rfl)
  have HC1 : Hid (n ≠ 0 → advC X c = n) := Lib.hid (fun h0 => by rw [hn]; exact if_pos (by rw [← hn]; exact h0))
  have HC2 : Hid (n = 0 → o = none → advC X c = 5) := Lib.hid (fun h0 h1 => by
    have e0 : peekC X c = 0 := by rw [← hn]; exact h0
    have e1 : peekE X c = none := by rw [ho] at h1; unfold peekO at h1; rw [if_pos e0] at h1; exact h1
    unfold advC
    rw [if_neg (by rw [e0]; simp), e1])
  have HC3 : Hid (∀ e, o = some e → advC X c = 0 ∧ 0 ≤ e.off ∧ e.off + e.size ≤ 8192 ∧ 0 ≤ e.size) := Lib.hid (fun e h1 => by
    obtain ⟨e0, b1, b2, b3, e1⟩ := hb e (by rw [← ho]; exact h1)
    unfold advC
    rw [if_neg (by rw [e0]; simp), e1]
    exact ⟨rfl, b1, b2, b3⟩)
  clear h hc hb ho hn
  go_enter Try.func56, Try.ntmps56
  go_wp2_with fail
  refine (cuPeek HCB.out H.out).mono ?_
  rintro r w1 ⟨rfl, hg⟩
  rw [HPV.out]
  have HG := Lib.hid hg
  clear hg
  cases o with
  | none =>
    have hx := HX.out
    simp only [axO] at hx
    have HXX := Lib.hid hx
    clear hx
    simp only [pvO, enV, zE]
    by_cases h0 : n = 0
    · subst h0
      have HC5 : Hid (advC X c = 5) := Lib.hid (HC2.out rfl rfl)
      clear HC2 HC1 HC3
      go_wp2
      go_ret
      exact ⟨by rw [HC5.out] <;> rfl, by rw [HXX.out]; exact (HG.out.alloc _).blk HCB.out, (HG.out.alloc _).mdh _⟩
    · have h0' : (n == 0) = false := beq_false_of_ne h0
      have HC := Lib.hid (HC1.out h0)
      clear h0
      go_wp2
      go_ret
      exact ⟨by rw [HC.out] <;> rfl, by rw [HXX.out]; exact (HG.out.alloc _).blk HCB.out, (HG.out.alloc _).mdh _⟩
  | some x =>
    have hx := HX.out
    simp only [axO] at hx
    have HXX := Lib.hid hx
    obtain ⟨hz, hb1, hb2, hb3⟩ := HC3.out x rfl
    have HZ := Lib.hid hz
    clear hx hz
    simp only [pvO, enV]
    have hcb := HG.out.blk HCB.out
    obtain ⟨c0, c1, c2, c3, cf⟩ := cuC hcb
    have l := blkLt hcb
    clear hcb
    go_wp2
    go_ret
    exact ⟨by rw [HZ.out] <;> rfl, by rw [HXX.out]; exact blkOld (blkSet (j := 3) (HG.out.blk HCB.out)), ((HG.out.mdh (fun k => k = b)).setCell (p := ⟨b, 3, none⟩) rfl _).alloc _⟩
set_option maxRecDepth 40000 in
theorem cuAdvanceN {w : World} {p q : Option Addr} (h : CUN w p) : Calls Try.prog 56 #[.pointer p, .pointer q] w fun e w' => e = .returned (.int .i64 1) ∧ Gr w w' := by
  have H := Lib.hid h
  clear h
  go_enter Try.func56, Try.ntmps56
  go_wp2_with fail
  refine (cuPeekN H.out).mono ?_
  rintro r w1 ⟨rfl, hg⟩
  have HG := Lib.hid hg
  clear hg
  simp only [enV, zE]
  go_wp2
  go_ret
  exact ⟨rfl, HG.out.alloc _⟩

/-! ### Beside an index -/
theorem SW.cuset {w0 w w' : World} {R : List Asn} {A : Asn} {b : Nat} {c c' : Cu} (h : SW w0 (A :: blkA b (cuO c) :: R) w) (hb : w'.heap[b]? = some (cuO c')) (m : Mdh (fun k => k = b) w w') : SW w0 (A :: blkA b (cuO c') :: R) w' :=
  h.at (i := 1) rfl m (fun k hk => .inl hk) hb (fun k hk => .inl hk)
theorem SW.cu {w0 w : World} {R : List Asn} {A : Asn} {b : Nat} {c : Cu} (h : SW w0 (A :: blkA b (cuO c) :: R) w) : w.heap[b]? = some (cuO c) := h.get (i := 1) rfl
section
variable {w0 w : World} {R : List Asn} {b cb : Nat} {X : IX} {S : Nat → Prop} {c : Cu}
theorem adv_sw (h : SW w0 (ixA b X S :: blkA cb (cuO c) :: R) w) : Calls Try.prog 56 #[.pointer (some ⟨cb, 0, none⟩), .pointer (some ⟨b, 0, none⟩)] w fun e w' => e = .returned (.int .i64 (advC X c)) ∧ SW w0 (ixA b X S :: blkA cb (cuO (advX X c)) :: R) w' ∧ Mdh (fun k => k = cb) w w' :=
  (cuAdvance h.cu h.ixp).mono fun _ _ ⟨e, hb, m⟩ => ⟨e, h.cuset hb m, m⟩
theorem start_sw {A : Asn} (h : SW w0 (A :: blkA cb (cuO c) :: R) w) (s : Int) : Calls Try.prog 54 #[.pointer (some ⟨cb, 0, none⟩), .int .i64 s] w fun e w' => e = .returned (.int .i64 (startC c s)) ∧ SW w0 (A :: blkA cb (cuO (startX c s)) :: R) w' ∧ Mdh (fun k => k = cb) w w' :=
  (cuStart h.cu s).mono fun _ _ ⟨e, hb, m⟩ => ⟨e, h.cuset hb m, m⟩
theorem stop_sw {A : Asn} (h : SW w0 (A :: blkA cb (cuO c) :: R) w) : Calls Try.prog 62 #[.pointer (some ⟨cb, 0, none⟩)] w fun e w' => e = .returned (.tuple #[]) ∧ SW w0 (A :: blkA cb (cuO ⟨false, 0, 0⟩) :: R) w' ∧ Mdh (fun k => k = cb) w w' :=
  (cuStop h.cu).mono fun _ _ ⟨e, hb, m⟩ => ⟨e, h.cuset hb m, m⟩
theorem peek_sw (h : SW w0 (ixA b X S :: blkA cb (cuO c) :: R) w) : Calls Try.prog 55 #[.pointer (some ⟨cb, 0, none⟩), .pointer (some ⟨b, 0, none⟩)] w fun e w' => e = .returned (peekV X c) ∧ Gr w w' := cuPeek h.cu h.ixp
end
set_option maxRecDepth 40000 in
theorem put8 (k : ByteArray) (q s o z : Int) (hk : k.size ≤ 1000) (hz : z = 18 + (k.size : Int)) (w : World) : Calls Try.prog 120 #[.string k, .int .i64 q, .int .i64 s, .int .i64 o] w fun e w' => e = .returned (.agg #[.int .i64 q, .string k, .bool false, .int .i64 s, .int .i64 o, .int .i64 z]) ∧ Gr w w' := by
  subst hz
  go_enter Try.func120, Try.ntmps120
  go_wp2
  refine bodyPost_ret (v := .agg #[.int .i64 q, .string k, .bool false, .int .i64 s, .int .i64 o, .int .i64 (18 + (k.size : Int))]) ?_ rfl ⟨rfl, by (repeat (first | (with_reducible exact Gr.refl _) | assumption | (with_reducible apply Gr.from_drew) | (with_reducible apply Gr.alloc) | (with_reducible apply Gr.drew) | (with_reducible refine Gr.trans ?_ (by assumption)) | (with_reducible refine Gr.setCell ?_ (by omega) _)))⟩
  simp [results, Try.results120, go_sem]
end Go.Proofs.Ytndknnhgdlgbgaa

/- drumlinlaw28: the examples of the chapter. -/
set_option linter.unusedVariables false
set_option linter.unusedSimpArgs false
namespace Go.Proofs.Ytndknnhgdlgbgaa
open Go.RowKit Go.Shelf
attribute [local go_sem] OvM cell_ovm obj_ovm
attribute [local go_sem] Oper.semAt_some

theorem SW.alloc3 {w0 w : World} {R : List Asn} {A B : Asn} (h : SW w0 (A :: B :: R) w) (o : Obj) : SW w0 (A :: B :: blkA w.heap.size o :: R) (w.alloc o) :=
  (h.alloc o).perm ((List.Perm.swap _ _ _).trans ((List.Perm.swap _ _ _).cons _))
def cu1 : En := ⟨1, ⟨#[107]⟩, false, 0, 0, 19⟩
def cu2 : En := ⟨2, ⟨#[109]⟩, false, 0, 20, 19⟩
def cu3 : En := ⟨3, ⟨#[107]⟩, false, 1, 0, 19⟩
def cuL : List En := [cu1, cu2, cu3]
theorem cu_add : AllAdd cuL (ixNew 2) (stAdd cuL (ixNew 2)) := ⟨rfl, by
  intro j x h
  refine (fun (a : addE (stAdd cuL (ixNew 2) j) x = 0 ∧ Low x.key ∧ En64 x) => ⟨a.1, stAdd_next _ _ j x h, a.2⟩) ?_
  match j, h with
  | 0, h => cases h; exact ⟨by kernel_rfl, low_b rfl (by decide), by unfold En64; decide⟩
  | 1, h => cases h; exact ⟨by kernel_rfl, low_b rfl (by decide), by unfold En64; decide⟩
  | 2, h => cases h; exact ⟨by kernel_rfl, low_b rfl (by decide), by unfold En64; decide⟩
  | _ + 3, h => cases h⟩
def cuX : IX := stAdd cuL (ixNew 2) 3
abbrev cuS0 : Cu := ⟨false, 0, 0⟩
abbrev cuS1 : Cu := ⟨true, 0, 0⟩
abbrev cuS2 : Cu := ⟨true, 0, 19⟩
abbrev cuS3 : Cu := ⟨true, 0, 39⟩
theorem cu_p0 : peekV cuX cuS0 = .tuple #[.agg #[.int .i64 0, .string ⟨#[]⟩, .bool false, .int .i64 0, .int .i64 0, .int .i64 0], .bool false, .bool false, .int .i64 7] := by kernel_rfl
theorem cu_p1 : peekV cuX cuS1 = .tuple #[.agg #[.int .i64 1, .string ⟨#[107]⟩, .bool false, .int .i64 0, .int .i64 0, .int .i64 19], .bool false, .bool true, .int .i64 0] := by kernel_rfl
theorem cu_p2 : peekV cuX cuS2 = .tuple #[.agg #[.int .i64 2, .string ⟨#[109]⟩, .bool false, .int .i64 0, .int .i64 20, .int .i64 19], .bool true, .bool true, .int .i64 0] := by kernel_rfl
theorem cu_s0 : startC cuS0 0 = 0 := by kernel_rfl
theorem cu_x0 : startX cuS0 0 = cuS1 := by kernel_rfl
theorem cu_s1 : startC cuS1 1 = 6 := by kernel_rfl
theorem cu_x1 : startX cuS1 1 = cuS1 := by kernel_rfl
theorem cu_a1 : advC cuX cuS1 = 0 := by kernel_rfl
theorem cu_y1 : advX cuX cuS1 = cuS2 := by kernel_rfl
theorem cu_a2 : advC cuX cuS2 = 0 := by kernel_rfl
theorem cu_y2 : advX cuX cuS2 = cuS3 := by kernel_rfl
theorem cu_a3 : advC cuX cuS3 = 5 := by kernel_rfl
theorem cu_y3 : advX cuX cuS3 = cuS3 := by kernel_rfl
set_option maxRecDepth 40000 in
set_option maxHeartbeats 8000000 in
theorem cu_works (w : World) : Calls Try.prog 51 #[] w fun e w' => e = .returned (.bool true) ∧ Gr w w' := by
  have HST := Lib.hid cu_add.s
  go_enter Try.func51, Try.ntmps51
  go_wp2_with fail
  refine (New_any 2 w (by decide) (by decide)).mono ?_
  rintro e w1 ⟨b, S, rfl, h1, h2, h3⟩
  have HS1 : Hid (SW w [ixA b (stAdd cuL (ixNew 2) 0) S] w1) := Lib.hid ((SW.start w).ixnew h1 h2 h3)
  clear h1 h2 h3
  go_wp2_with fail
  refine (cuNew _).mono ?_
  rintro e w2 ⟨rfl, hw2⟩
  obtain ⟨cb, hcb⟩ : ∃ q, q = w1.heap.size := ⟨_, rfl⟩
  have HS2 : Hid (SW w [ixA b (stAdd cuL (ixNew 2) 0) S, blkA cb (cuO cuS0)] w2) := Lib.hid (by rw [hw2, hcb]; exact HS1.out.allocT _)
  rw [← hcb]
  clear hw2 hcb
  have HG := Gr.refl w2
  go_wp2_with (go_at_call 120; refine (put8 _ _ _ _ 19 (by decide) (by decide) _).mono ?_; rintro e w3 ⟨rfl, hg⟩; replace HG := HG.trans hg; clear hg)
  refine (Add_any (HS2.out.gr HG).ix cu1 (HST.out 0 cu1 rfl).2.2.1 (HST.out 0 cu1 rfl).2.2.2).mono ?_
  rintro e w4 ⟨rfl, hp⟩
  rw [(HST.out 0 cu1 rfl).1]
  obtain ⟨S1, hs⟩ := (HS2.out.gr HG).post hp
  rw [← (HST.out 0 cu1 rfl).2.1] at hs
  have HS4 := Lib.hid hs
  clear hs hp HG
  have HG := Gr.refl w4
  go_wp2_with (go_at_call 120; refine (put8 _ _ _ _ 19 (by decide) (by decide) _).mono ?_; rintro e w5 ⟨rfl, hg⟩; replace HG := HG.trans hg; clear hg)
  refine (Add_any (HS4.out.gr HG).ix cu2 (HST.out 1 cu2 rfl).2.2.1 (HST.out 1 cu2 rfl).2.2.2).mono ?_
  rintro e w6 ⟨rfl, hp⟩
  rw [(HST.out 1 cu2 rfl).1]
  obtain ⟨S2, hs⟩ := (HS4.out.gr HG).post hp
  rw [← (HST.out 1 cu2 rfl).2.1] at hs
  have HS6 := Lib.hid hs
  clear hs hp HG
  have HG := Gr.refl w6
  go_wp2_with (go_at_call 120; refine (put8 _ _ _ _ 19 (by decide) (by decide) _).mono ?_; rintro e w7 ⟨rfl, hg⟩; replace HG := HG.trans hg; clear hg)
  refine (Add_any (HS6.out.gr HG).ix cu3 (HST.out 2 cu3 rfl).2.2.1 (HST.out 2 cu3 rfl).2.2.2).mono ?_
  rintro e w8 ⟨rfl, hp⟩
  rw [(HST.out 2 cu3 rfl).1]
  obtain ⟨S3, hs⟩ := (HS6.out.gr HG).post hp
  rw [← (HST.out 2 cu3 rfl).2.1] at hs
  have HS8 : Hid (SW w [ixA b cuX S3, blkA cb (cuO cuS0)] w8) := Lib.hid hs
  clear hs hp HG HS6 HS4 HS2 HS1 HST
  go_wp2_with fail
  refine (peek_sw HS8.out).mono ?_
  rintro e w9 ⟨rfl, hg⟩
  rw [cu_p0]
  have HS9 := Lib.hid (HS8.out.gr hg)
  clear hg
  go_wp2_with fail
  refine (start_sw (HS9.out.gr ((Gr.refl _).alloc _)) 0).mono ?_
  rintro e w10 ⟨rfl, hs, hm⟩
  rw [cu_s0]
  rw [cu_x0] at hs
  have HS10 := Lib.hid hs
  clear hs hm
  go_wp2_with fail
  refine (start_sw HS10.out 1).mono ?_
  rintro e w11 ⟨rfl, hs, hm⟩
  rw [cu_s1]
  rw [cu_x1] at hs
  have HS11 := Lib.hid hs
  clear hs hm
  go_wp2_with fail
  refine (peek_sw HS11.out).mono ?_
  rintro e w12 ⟨rfl, hg⟩
  rw [cu_p1]
  have HS12 := Lib.hid (HS11.out.gr hg)
  clear hg
  go_wp2_with fail
  obtain ⟨b8, hb8⟩ : ∃ q, q = w12.heap.size := ⟨_, rfl⟩
  obtain ⟨w13, hw13⟩ : ∃ y, y = w12.alloc (.cells (enC cu1).toArray 43) := ⟨_, rfl⟩
  have HS13 : Hid (SW w [ixA b cuX S3, blkA cb (cuO cuS1), blkA b8 (.cells (enC cu1).toArray 43)] w13) := Lib.hid (by rw [hw13, hb8]; exact HS12.out.alloc3 _)
  have hne : ¬ b8 = cb := by have := blkLt HS12.out.cu; omega
  simp only [enC, cu1] at hw13
  rw [← hw13, ← hb8]
  clear hw13 hb8
  have d8 := (cellsOf (show w13.heap[b8]? = _ from HS13.out.get (i := 2) rfl)).1
  simp only [enC, cu1] at d8
  have k1 := neqE_run cu1 cu1
  simp only [cu1, decide_true, Bool.not_true] at k1
  have HG := Gr.refl w13.drew
  refine wp_region_flo (fun k => k = cb) [] [] (by kernel_rfl) (by kernel_rfl) (fun k hk => by subst hk; exact blkLt HS13.out.cu) ?_
  refine flo_seg 1 rfl ?_
  simp only [List.take_succ_cons, List.take_zero, List.drop_succ_cons, List.drop_zero]
  repeat (go_big_quiet_step (fail))
  refine wpQuiet_nil ?_
  refine flo_eff rfl rfl rfl rfl (fun K hK => ?_)
  go_wp2_with ((go_at_call 120; refine (put8 _ _ _ _ 19 (by decide) (by decide) _).mono ?_; rintro e w1 ⟨rfl, hg⟩; replace HG := HG.trans hg; (try clear hc); have hc := HG.cell; (try simp only [World.size_alloc] at hc)))
  refine ⟨by (first | (refine Gr.mdh ?_ _; (repeat (first | (with_reducible exact Gr.refl _) | assumption | (with_reducible apply Gr.from_drew) | (with_reducible apply Gr.alloc) | (with_reducible apply Gr.drew) | (with_reducible refine Gr.trans ?_ (by assumption)) | (with_reducible refine Gr.setCell ?_ (by omega) _))); done) | (repeat (first | (with_reducible exact Mdh.refl _ _) | (with_reducible refine Mdh.setCell ?_ (by simp) _) | (with_reducible refine Mdh.setNew ?_ (by simp) _) | (with_reducible apply Mdh.alloc) | (with_reducible apply Mdh.from_drew) | (with_reducible apply Mdh.drew) | (with_reducible refine Mdh.gr ?_ (by assumption))))), ?_⟩
  refine flo_seg 15 rfl ?_
  simp only [List.take_succ_cons, List.take_zero, List.drop_succ_cons, List.drop_zero]
  repeat (go_big_quiet_step (fail))
  refine wpQuiet_nil ?_
  refine flo_eff rfl rfl rfl rfl (fun K hK => ?_)
  go_wp2_with ((go_at_call 56; refine (adv_sw (HS13.out.gr (Gr.of_drew HG))).mono ?_; rintro e w14 ⟨rfl, hs, hm⟩; rw [cu_a1]; rw [cu_y1] at hs; have HS14 := Lib.hid hs; have HM14 := Lib.hid hm; clear hs hm))
  refine ⟨by exact HM14.out.mono (fun k hk => .inl hk), ?_⟩
  refine flo_seg 4 rfl ?_
  simp only [List.take_succ_cons, List.take_zero, List.drop_succ_cons, List.drop_zero]
  repeat (go_big_quiet_step (fail))
  refine wpQuiet_nil ?_
  refine flo_eff rfl rfl rfl rfl (fun K hK => ?_)
  go_wp2_with ((go_at_call 59; refine (cuOffset HS14.out.cu).mono ?_; rintro e w15 ⟨rfl, rfl⟩))
  refine ⟨by exact Mdh.refl _ _, ?_⟩
  refine flo_seg 2 rfl ?_
  simp only [List.take_succ_cons, List.take_zero, List.drop_succ_cons, List.drop_zero]
  repeat (go_big_quiet_step (fail))
  refine wpQuiet_nil ?_
  refine flo_nil ?_
  have HS15 : Hid (SW w [ixA b cuX S3, blkA cb (cuO cuS2)] w14) := Lib.hid (HS14.out.sub (.cons_cons _ (.cons_cons _ (List.nil_sublist _))))
  clear HS14 HM14 HS13 HS12 HS11 HS10 HS9 HS8 d8 k1 HG hne
  go_wp2_with fail
  refine (peek_sw HS15.out).mono ?_
  rintro e w16 ⟨rfl, hg⟩
  rw [cu_p2]
  have HS16 := Lib.hid (HS15.out.gr hg)
  clear hg
  go_wp2_with fail
  obtain ⟨b9, hb9⟩ : ∃ q, q = w16.heap.size := ⟨_, rfl⟩
  obtain ⟨w17, hw17⟩ : ∃ y, y = w16.alloc (.cells (enC cu2).toArray 43) := ⟨_, rfl⟩
  have HS17 : Hid (SW w [ixA b cuX S3, blkA cb (cuO cuS2), blkA b9 (.cells (enC cu2).toArray 43)] w17) := Lib.hid (by rw [hw17, hb9]; exact HS16.out.alloc3 _)
  have hne : ¬ b9 = cb := by have := blkLt HS16.out.cu; omega
  simp only [enC, cu2] at hw17
  rw [← hw17, ← hb9]
  clear hw17 hb9
  have d9 := (cellsOf (show w17.heap[b9]? = _ from HS17.out.get (i := 2) rfl)).1
  simp only [enC, cu2] at d9
  have k2 := neqE_run cu2 cu2
  simp only [cu2, decide_true, Bool.not_true] at k2
  have HG := Gr.refl w17.drew
  refine wp_region_flo (fun k => k = cb) [] [] (by kernel_rfl) (by kernel_rfl) (fun k hk => by subst hk; exact blkLt HS17.out.cu) ?_
  refine flo_seg 1 rfl ?_
  simp only [List.take_succ_cons, List.take_zero, List.drop_succ_cons, List.drop_zero]
  repeat (go_big_quiet_step (fail))
  refine wpQuiet_nil ?_
  refine flo_eff rfl rfl rfl rfl (fun K hK => ?_)
  go_wp2_with ((go_at_call 120; refine (put8 _ _ _ _ 19 (by decide) (by decide) _).mono ?_; rintro e w1 ⟨rfl, hg⟩; replace HG := HG.trans hg; (try clear hc); have hc := HG.cell; (try simp only [World.size_alloc] at hc)))
  refine ⟨by (first | (refine Gr.mdh ?_ _; (repeat (first | (with_reducible exact Gr.refl _) | assumption | (with_reducible apply Gr.from_drew) | (with_reducible apply Gr.alloc) | (with_reducible apply Gr.drew) | (with_reducible refine Gr.trans ?_ (by assumption)) | (with_reducible refine Gr.setCell ?_ (by omega) _))); done) | (repeat (first | (with_reducible exact Mdh.refl _ _) | (with_reducible refine Mdh.setCell ?_ (by simp) _) | (with_reducible refine Mdh.setNew ?_ (by simp) _) | (with_reducible apply Mdh.alloc) | (with_reducible apply Mdh.from_drew) | (with_reducible apply Mdh.drew) | (with_reducible refine Mdh.gr ?_ (by assumption))))), ?_⟩
  refine flo_seg 16 rfl ?_
  simp only [List.take_succ_cons, List.take_zero, List.drop_succ_cons, List.drop_zero]
  repeat (go_big_quiet_step (fail))
  refine wpQuiet_nil ?_
  refine flo_eff rfl rfl rfl rfl (fun K hK => ?_)
  go_wp2_with ((go_at_call 56; refine (adv_sw (HS17.out.gr (Gr.of_drew HG))).mono ?_; rintro e w18 ⟨rfl, hs, hm⟩; rw [cu_a2]; rw [cu_y2] at hs; have HS18 := Lib.hid hs; have HM18 := Lib.hid hm; clear hs hm))
  refine ⟨by exact HM18.out.mono (fun k hk => .inl hk), ?_⟩
  refine flo_seg 5 rfl ?_
  simp only [List.take_succ_cons, List.take_zero, List.drop_succ_cons, List.drop_zero]
  repeat (go_big_quiet_step (fail))
  refine wpQuiet_nil ?_
  refine flo_eff rfl rfl rfl rfl (fun K hK => ?_)
  go_wp2_with ((go_at_call 56; refine (adv_sw HS18.out).mono ?_; rintro e w19 ⟨rfl, hs, hm⟩; rw [cu_a3]; rw [cu_y3] at hs; have HS19 := Lib.hid hs; have HM19 := Lib.hid hm; clear hs hm))
  refine ⟨by exact HM19.out.mono (fun k hk => .inl hk), ?_⟩
  refine flo_seg 4 rfl ?_
  simp only [List.take_succ_cons, List.take_zero, List.drop_succ_cons, List.drop_zero]
  repeat (go_big_quiet_step (fail))
  refine wpQuiet_nil ?_
  refine flo_eff rfl rfl rfl rfl (fun K hK => ?_)
  go_wp2_with ((go_at_call 59; refine (cuOffset HS19.out.cu).mono ?_; rintro e w20 ⟨rfl, rfl⟩))
  refine ⟨by exact Mdh.refl _ _, ?_⟩
  refine flo_seg 2 rfl ?_
  simp only [List.take_succ_cons, List.take_zero, List.drop_succ_cons, List.drop_zero]
  repeat (go_big_quiet_step (fail))
  refine wpQuiet_nil ?_
  refine flo_nil ?_
  clear HS18 HM18 HM19 HS17 HS16 HS15 d9 k2 HG hne
  go_wp2_with fail
  refine (stop_sw HS19.out).mono ?_
  rintro e w21 ⟨rfl, hs, hm⟩
  have HS21 := Lib.hid hs
  clear hs hm
  go_wp2_with fail
  refine (cuSlot HS21.out.cu).mono ?_
  rintro e w22 ⟨rfl, hg⟩
  have HS22 := Lib.hid (HS21.out.gr hg)
  clear hg
  go_wp2_with fail
  refine (cuOffset HS22.out.cu).mono ?_
  rintro e w23 ⟨rfl, rfl⟩
  go_wp2
  go_ret
  exact ⟨rfl, HS22.out.g⟩
end Go.Proofs.Ytndknnhgdlgbgaa

/- A cursor behind i entries of its slot, in plain Lean. -/
set_option linter.unusedVariables false
set_option linter.unusedSimpArgs false
namespace Go.Proofs.Ytndknnhgdlgbgaa

theorem find_idx {p : En → Bool} : ∀ (l : List En) (k : Nat), k ≤ l.length → (∀ j x, j < k → l[j]? = some x → p x = false) → (∀ x, l[k]? = some x → p x = true) → l.find? p = l[k]?
  | [], k, _, _, _ => by simp
  | y :: l, 0, _, _, h2 => by
    have := h2 y rfl
    simp [this]
  | y :: l, k + 1, hk, h1, h2 => by
    have h0 := h1 0 y (by omega) rfl
    have := find_idx l k (by simpa using hk) (fun j x hj hx => h1 (j + 1) x (by omega) (by simpa using hx)) (fun x hx => h2 x (by simpa using hx))
    simp [h0, this]
def curAt (l : List En) (v : Int) (i : Nat) : Cu := ⟨true, v, match i with | 0 => 0 | i + 1 => (l.getD i zE).off + (l.getD i zE).size⟩
theorem find_cur {l : List En} {v : Int} (h : SlotOk v l) (i : Nat) (hi : i ≤ l.length) : l.find? (atCu (curAt l v i)) = l[i]? := by
  refine find_idx l i hi (fun j x hj hx => ?_) (fun x hx => ?_)
  · cases i with
    | zero => omega
    | succ i =>
      have hl : i < l.length := by omega
      obtain ⟨y, hy⟩ : ∃ y, l[i]? = some y := ⟨_, List.getElem?_eq_getElem hl⟩
      have hv := (valid_iff y).1 (h.e y (List.mem_of_getElem? hy)).2
      unfold atCu curAt
      simp only [List.getD_eq_getElem?_getD, hy, Option.getD_some]
      refine decide_eq_false ?_
      obtain ⟨a1, e1⟩ := List.getElem?_eq_some_iff.1 hx
      obtain ⟨a2, e2⟩ := List.getElem?_eq_some_iff.1 hy
      rcases Nat.eq_or_lt_of_le (show j ≤ i by omega) with h1 | h1
      · subst h1; rw [hx] at hy; cases hy; omega
      · have := List.pairwise_iff_getElem.1 h.p j i a1 a2 h1
        rw [e1, e2] at this
        have hvx := (valid_iff x).1 (h.e x (List.mem_of_getElem? hx)).2
        omega
  · have hv := (valid_iff x).1 (h.e x (List.mem_of_getElem? hx)).2
    cases i with
    | zero => exact decide_eq_true (show (0 : Int) ≤ x.off by omega)
    | succ i =>
      have hl : i + 1 < l.length := (List.getElem?_eq_some_iff.1 hx).1
      obtain ⟨y, hy⟩ : ∃ y, l[i]? = some y := ⟨_, List.getElem?_eq_getElem (by omega)⟩
      unfold atCu curAt
      simp only [List.getD_eq_getElem?_getD, hy, Option.getD_some]
      refine decide_eq_true ?_
      obtain ⟨a1, e1⟩ := List.getElem?_eq_some_iff.1 hx
      obtain ⟨a2, e2⟩ := List.getElem?_eq_some_iff.1 hy
      have := List.pairwise_iff_getElem.1 h.p i (i + 1) a2 a1 (by omega)
      rw [e1, e2] at this
      exact this
section
variable {X : IX} {v : Int}
theorem cur_pc (h0 : X.slots ≠ []) (hv : v < X.slots.length) (l : List En) (i : Nat) : peekC X (curAt l v i) = 0 := by
  unfold peekC
  rw [if_neg h0, if_neg (by simp [curAt]), if_neg (by show ¬ ((X.slots.length : Int) ≤ v); omega)]
theorem cur_po (h : X.Wf) (h0 : X.slots ≠ []) (hv : v < X.slots.length) (i : Nat) (hi : i ≤ (X.slot v).length) : peekO X (curAt (X.slot v) v i) = (X.slot v)[i]? := by
  unfold peekO
  rw [if_pos (cur_pc h0 hv _ i)]
  exact find_cur (h.slotOk v) i hi
theorem cur_pv (h : X.Wf) (h0 : X.slots ≠ []) (hv : v < X.slots.length) (i : Nat) {e : En} (he : (X.slot v)[i]? = some e) : peekV X (curAt (X.slot v) v i) = .tuple #[enV e, .bool (X.needs e), .bool true, .int .i64 0] := by
  unfold peekV
  rw [cur_po h h0 hv i (Nat.le_of_lt (List.getElem?_eq_some_iff.1 he).1), he]
theorem cur_pn (h : X.Wf) (h0 : X.slots ≠ []) (hv : v < X.slots.length) : peekV X (curAt (X.slot v) v (X.slot v).length) = .tuple #[enV zE, .bool false, .bool false, .int .i64 0] := by
  unfold peekV
  rw [cur_po h h0 hv _ (Nat.le_refl _), List.getElem?_eq_none (Nat.le_refl _), cur_pc h0 hv]
theorem cur_ac (h : X.Wf) (h0 : X.slots ≠ []) (hv : v < X.slots.length) (i : Nat) (hi : i ≤ (X.slot v).length) : advC X (curAt (X.slot v) v i) = if i < (X.slot v).length then 0 else 5 := by
  unfold advC
  rw [if_neg (by rw [cur_pc h0 hv]; decide)]
  have hp := cur_po h h0 hv i hi
  unfold peekO at hp
  rw [if_pos (cur_pc h0 hv _ i)] at hp
  rw [hp]
  by_cases hl : i < (X.slot v).length
  · rw [List.getElem?_eq_getElem hl, if_pos hl]
  · rw [List.getElem?_eq_none (by omega), if_neg hl]
theorem cur_ax (h : X.Wf) (h0 : X.slots ≠ []) (hv : v < X.slots.length) (i : Nat) (hi : i < (X.slot v).length) : advX X (curAt (X.slot v) v i) = curAt (X.slot v) v (i + 1) := by
  unfold advX
  rw [cur_po h h0 hv i (by omega), List.getElem?_eq_getElem hi]
  simp only [curAt, List.getD_eq_getElem?_getD, List.getElem?_eq_getElem hi, Option.getD_some]
theorem cur_axn (h : X.Wf) (h0 : X.slots ≠ []) (hv : v < X.slots.length) : advX X (curAt (X.slot v) v (X.slot v).length) = curAt (X.slot v) v (X.slot v).length := by
  unfold advX
  rw [cur_po h h0 hv _ (Nat.le_refl _), List.getElem?_eq_none (Nat.le_refl _)]
theorem cur_mono (h : X.Wf) (i j : Nat) (hij : i ≤ j) (hj : j ≤ (X.slot v).length) : (curAt (X.slot v) v i).off ≤ (curAt (X.slot v) v j).off := by
  have hs := h.slotOk v
  cases j with
  | zero =>
    obtain rfl : i = 0 := by omega
    exact Int.le_refl _
  | succ j =>
    obtain ⟨y, hy⟩ : ∃ y, (X.slot v)[j]? = some y := ⟨_, List.getElem?_eq_getElem (by omega)⟩
    have hvy := (valid_iff y).1 (hs.e y (List.mem_of_getElem? hy)).2
    cases i with
    | zero =>
      show (0 : Int) ≤ _
      simp only [curAt, List.getD_eq_getElem?_getD, hy, Option.getD_some]
      omega
    | succ i =>
      obtain ⟨x, hx⟩ : ∃ x, (X.slot v)[i]? = some x := ⟨_, List.getElem?_eq_getElem (by omega)⟩
      simp only [curAt, List.getD_eq_getElem?_getD, hy, hx, Option.getD_some]
      obtain ⟨a1, e1⟩ := List.getElem?_eq_some_iff.1 hx
      obtain ⟨a2, e2⟩ := List.getElem?_eq_some_iff.1 hy
      rcases Nat.eq_or_lt_of_le (show i ≤ j by omega) with h1 | h1
      · subst h1; rw [hx] at hy; cases hy; exact Int.le_refl _
      · have := List.pairwise_iff_getElem.1 hs.p i j a1 a2 h1
        rw [e1, e2] at this
        omega
end
end Go.Proofs.Ytndknnhgdlgbgaa

/- CursorKeeps. -/
set_option linter.unusedVariables false
set_option linter.unusedSimpArgs false
namespace Go.Proofs.Ytndknnhgdlgbgaa
open Go.RowKit Go.Shelf
attribute [local go_sem] OvM cell_ovm obj_ovm
attribute [local go_sem] Oper.semAt_some

theorem triOk {w : World} {a : Option Addr} {L : List Tr} (h : TriAt w a L) : ∀ t ∈ L, t.Ok := fun m hm => by
  obtain ⟨i, hi⟩ := List.mem_iff_getElem?.1 hm
  obtain ⟨_, _, _, _, _, _, _, h⟩ := h i m hi
  exact h
theorem TS.sl {st : TS} (h : st.Ok) : st.X.slots ≠ [] ∧ (st.X.slots.length : Int) = 6 ∧ ∀ s, (st.X.slot s).length ≤ st.all.length := ⟨h.g.ne, h.g.ln, fun s => by
  have := slot_len_le st.X s
  have := h.g.pm.length_eq
  omega⟩
theorem take_filter_succ {l : List En} {p : En → Bool} {i : Nat} {x : En} (h : l[i]? = some x) : (l.take (i + 1)).filter p = (l.take i).filter p ++ if p x then [x] else [] := by
  rw [List.take_add_one, h, List.filter_append]
  congr 1
  simp only [Option.toList_some, List.filter_cons, List.filter_nil]
set_option maxRecDepth 40000 in
set_option maxHeartbeats 8000000 in
theorem CursorKeeps_any (a : Option Addr) (len cap : Nat) (L : List Tr) (u : Int) (w : World) (hl : L.length = len) (hle : len ≤ cap) (hcap : cap ≤ maxLen) (hs : TriAt w a L) (hu0 : 0 ≤ u) (hu1 : u ≤ 255) :
    Calls Try.prog 10 #[.slice a len cap, .int .u8 u] w fun e w' => e = .returned (.bool true) ∧ Gr w w' := by
  obtain ⟨i0, hi, hz0, hz1, hz2⟩ := info_parts infoIten
  by_cases h80 : 80 < len
  · have h80' : (80 : Int) < len := by omega
    clear hs hl
    go_enter Try.func10, Try.ntmps10
    go_wp2_with (go_at_call 51; refine (cu_works _).mono ?_; rintro e w1 ⟨rfl, hg⟩; have HG := Lib.hid hg; clear hg)
    go_ret
    exact ⟨rfl, HG.out⟩
  have h80' : ¬ (80 : Int) < len := by omega
  have HC := Lib.hid (built28_any a len cap L w hl (by omega) hle hcap hs)
  have HST := Lib.hid (foldT_ok L (by omega) (triOk hs))
  have HLN : Hid ((foldT L).all.length = len) := Lib.hid (by rw [foldT_len, hl])
  obtain ⟨v, hv⟩ : ∃ v : Nat, u % 6 = (v : Int) := ⟨(u % 6).toNat, by omega⟩
  have hv6 : v < 6 := by omega
  clear hs hl
  go_enter Try.func10, Try.ntmps10
  go_wp2_with fail
  refine Calls.mono HC.out ?_
  rintro e w1 ⟨b, S, av, cv, rfl, hs⟩
  have HS1 := Lib.hid hs
  generalize foldT L = st at *
  obtain ⟨X, all, us⟩ := st
  simp only at HS1 HLN
  simp only
  have HX := Lib.hid (TS.sl HST.out)
  have hsl : (X.slot (v : Int)).length ≤ len := by have := HX.out.2.2 (v : Int); have := HLN.out; simp only at *; omega
  have HW := Lib.hid HST.out.g.wf
  simp only at HX HW
  clear hs HC
  go_wp2_with fail
  refine (cuNew _).mono ?_
  rintro e w2 ⟨rfl, rfl⟩
  obtain ⟨b7, hb7⟩ : ∃ q, q = w1.heap.size := ⟨_, rfl⟩
  obtain ⟨w2, hw2⟩ : ∃ y, y = w1.alloc (cuO ⟨false, 0, 0⟩) := ⟨_, rfl⟩
  have HS2 : Hid (SW w [ixA b X S, blkA b7 (cuO ⟨false, 0, 0⟩), rowA 43 6 (.slice av all.length cv) all.length (rowE all)] w2) := Lib.hid (by rw [hw2, hb7]; exact HS1.out.allocT _)
  rw [← hb7, ← hw2]
  clear hb7 hw2 HS1
  go_wp2_with fail
  (try rw [hv])
  refine (start_sw HS2.out (v : Int)).mono ?_
  rintro e w3 ⟨rfl, hs, _⟩
  have HC1 : Hid (startC ⟨false, 0, 0⟩ (v : Int) = 0) := Lib.hid (by unfold startC; rw [if_neg (by omega), if_neg (by decide)])
  have HC2 : Hid (startX ⟨false, 0, 0⟩ (v : Int) = curAt (X.slot (v : Int)) v 0) := Lib.hid (by unfold startX; rw [if_pos HC1.out]; rfl)
  rw [HC2.out] at hs
  rw [HC1.out]
  have HS3 : Hid (SW w [ixA b X S, blkA b7 (cuO (curAt (X.slot (v : Int)) v 0)), rowA 43 6 (.slice av all.length cv) all.length (rowE all), rowA 43 6 (.slice none 0 0) (((X.slot (v : Int)).take 0).filter X.needs).length (rowE (((X.slot (v : Int)).take 0).filter X.needs))] w3) := Lib.hid (by
    have h := hs.new (Gr.refl _) (A := rowA 43 6 (.slice none 0 0) 0 []) (nilRow _ _ _) (fun k hk => by cases hk)
    exact h.perm (((List.Perm.swap _ _ _).trans (((List.Perm.swap _ _ _).trans ((List.Perm.swap _ _ _).cons _)).cons _))))
  clear hs HS2 hv
  go_wp2_with fail
  go_loopw [9, 10] (fun t9 t10 wx => ∃ i : Nat, i ≤ (X.slot (v : Int)).length ∧ t10 = .int .i64 i ∧ Hid (SW w [ixA b X S, blkA b7 (cuO (curAt (X.slot (v : Int)) v i)), rowA 43 6 (.slice av all.length cv) all.length (rowE all), rowA 43 6 t9 (((X.slot (v : Int)).take i).filter X.needs).length (rowE (((X.slot (v : Int)).take i).filter X.needs))] wx)) (fun _ t10 _ => (X.slot (v : Int)).length - (intOf t10).toNat)
  case atStart => exact ⟨0, by omega, rfl, HS3⟩
  case round =>
    obtain ⟨i, hil, rfl, HI⟩ := hrel
    clear HS3
    have hil' : (i : Int) ≤ len := by omega
    have hvs : (v : Int) < X.slots.length := by have := HX.out.2.1; omega
    by_cases hli : i < (X.slot (v : Int)).length
    · obtain ⟨x, hx⟩ : ∃ x, (X.slot (v : Int))[i]? = some x := ⟨_, List.getElem?_eq_getElem hli⟩
      have HPV := Lib.hid (cur_pv HW.out HX.out.1 hvs i hx)
      have HAC : Hid (advC X (curAt (X.slot (v : Int)) v i) = 0) := Lib.hid (by rw [cur_ac HW.out HX.out.1 hvs i hil, if_pos hli])
      have HAX := Lib.hid (cur_ax HW.out HX.out.1 hvs i hli)
      have HTF := Lib.hid (take_filter_succ (p := X.needs) hx)
      have hfl : (((X.slot (v : Int)).take i).filter X.needs).length ≤ 80 := by
        have h1 := List.length_filter_le X.needs ((X.slot (v : Int)).take i)
        rw [List.length_take] at h1
        omega
      clear hx hvs
      go_wp2_with fail
      refine (peek_sw HI.out).mono ?_
      rintro e w4 ⟨rfl, hg⟩
      rw [HPV.out]
      simp only [enV]
      have HI4 := Lib.hid (HI.out.gr hg)
      clear hg HI
      cases hn : X.needs x with
      | true =>
        rw [hn, if_pos rfl] at HTF
        go_wp2_with (first
          | (at_builtin; go_must (refine wpList_appv _ rfl (.tmp 62) (.tmp 64) 53 rfl 43 i0 _ 6 56 Try.underlying53 hi hz0 hz1 hz2 rfl (by decide) u9 (((X.slot (v : Int)).take i).filter X.needs).length (rowE (((X.slot (v : Int)).take i).filter X.needs)) rfl ((show Own w4 43 6 u9 (((X.slot (v : Int)).take i).filter X.needs).length (rowE (((X.slot (v : Int)).take i).filter X.needs)) from HI4.out.get (i := 3) rfl).gr (by (repeat (first | (with_reducible exact Gr.refl _) | assumption | (with_reducible apply Gr.from_drew) | (with_reducible apply Gr.alloc) | (with_reducible apply Gr.drew) | (with_reducible refine Gr.trans ?_ (by assumption)) | (with_reducible refine Gr.setCell ?_ (by omega) _))))) (some ⟨w4.heap.size + 1, 0, none⟩) 1 1 (enC x) rfl (by have := src_newK (w4.alloc (boxF x)) (enC x) 43 6 rfl (enC_one x); rw [World.size_alloc] at this; exact this) (by simp only [maxLen]; omega) (by omega) ?_); intro v2 w5 hA; have HAP := Lib.hid hA; clear hA)
          | fail)
        have HI5 := ((HI4.out.gr ((Gr.refl w4).alloc (boxF x))).gr ((Gr.refl _).alloc (.cells (enC x).toArray 43))).at (i := 3) rfl (HAP.out.mdh (fun g h => h)) (fun k hk => .inl hk) (B := rowA 43 6 v2 (((X.slot (v : Int)).take (i + 1)).filter X.needs).length (rowE (((X.slot (v : Int)).take (i + 1)).filter X.needs))) (by
          show Own _ _ _ _ _ _
          rw [HTF.out, rowE_snoc, List.length_append]
          exact HAP.out.1) (fun k hq => HAP.out.2.1 k hq)
        refine (adv_sw HI5).mono ?_
        rintro e w6 ⟨rfl, hs, _⟩
        rw [HAX.out] at hs
        have HI6 := Lib.hid hs
        rw [HAC.out]
        clear hs HI5 HI4
        go_wp2_with fail
        exact ⟨⟨i + 1, by omega, by simp, HI6⟩, by simp [intOf]; omega⟩
      | false =>
        rw [hn, if_neg (by decide), List.append_nil] at HTF
        have HI5 := Lib.hid (HI4.out.gr ((Gr.refl w4).alloc (boxF x)))
        go_wp2_with fail
        refine (adv_sw HI5.out).mono ?_
        rintro e w6 ⟨rfl, hs, _⟩
        rw [HAX.out] at hs
        have HI6 := Lib.hid hs
        rw [HAC.out]
        clear hs HI5 HI4
        go_wp2_with fail
        exact ⟨⟨i + 1, by omega, by simp, by rw [HTF.out]; exact HI6⟩, by simp [intOf]; omega⟩
    · obtain rfl : i = (X.slot (v : Int)).length := by omega
      have HPV := Lib.hid (cur_pn HW.out HX.out.1 hvs)
      rw [List.take_length] at HI
      go_wp2_with fail
      refine (peek_sw HI.out).mono ?_
      rintro e w4 ⟨rfl, hg⟩
      rw [HPV.out]
      simp only [enV, zE]
      have HI4 := Lib.hid (HI.out.gr hg)
      clear hg HI hvs
      have HI5 := Lib.hid (HI4.out.gr ((Gr.refl w4).alloc (boxF zE)))
      have hh : X.has (v : Int) = true := by unfold IX.has; exact decide_eq_true ⟨by omega, by have := HX.out.2.1; omega⟩
      have HKC : Hid (keepC X (v : Int) = 0) := Lib.hid (by unfold keepC; rw [if_neg HX.out.1, if_neg (by rw [hh]; decide)])
      clear hh
      have hkl : (keepL X (v : Int)).length ≤ 80 := by
        have h1 := List.length_filter_le X.needs (X.slot (v : Int))
        unfold keepL
        omega
      go_wp2_with fail
      refine (Keep_any HI5.out.ixp (v : Int)).mono ?_
      rintro e w6 ⟨v15, rfl, hr, hg⟩
      rw [HKC.out]
      have HI6 := Lib.hid (HI5.out.row hr hg)
      obtain ⟨a15, c15, rfl, hc15, hm15, _⟩ := ownE_at hr.own
      obtain ⟨a9, c9, rfl, hc9, hm9, _⟩ := ownE_at (show Own w6 43 6 u9 (keepL X (v : Int)).length (rowE (keepL X (v : Int))) from HI6.out.get (i := 4) rfl)
      clear hr hg HI5 HI4
      rw [show ((X.slot (v : Int)).filter X.needs) = keepL X (v : Int) from rfl] at HI6
      generalize keepL X (v : Int) = kl at *
      go_wp2_with fail
      go_loopw [17] (fun t17 wx => ∃ q : Nat, q ≤ kl.length ∧ t17 = .int .i64 q ∧ Hid (SW w [ixA b X S, rowA 43 6 (.slice a15 kl.length c15) kl.length (rowE kl), blkA b7 (cuO (curAt (X.slot (v : Int)) v (X.slot (v : Int)).length)), rowA 43 6 (.slice av all.length cv) all.length (rowE all), rowA 43 6 (.slice a9 kl.length c9) kl.length (rowE kl)] wx)) (fun t17 _ => kl.length - (intOf t17).toNat)
      case atStart => exact ⟨0, by omega, rfl, HI6⟩
      case round =>
        obtain ⟨q, hq, rfl, HQ⟩ := hrel
        clear HI6
        by_cases hlq : q < kl.length
        · have hlq' : (q : Int) < kl.length := by omega
          obtain ⟨x, hx⟩ : ∃ x, kl[q]? = some x := ⟨_, List.getElem?_eq_getElem hlq⟩
          obtain ⟨a', c', hv, _, _, hat⟩ := ownE_at (show Own wr 43 6 (.slice a15 kl.length c15) kl.length (rowE kl) from HQ.out.get (i := 1) rfl)
          injection hv with g1 g2 g3
          subst g1
          obtain ⟨g15, rfl, _, _, hc⟩ := hat q x hx
          have y0 := hc 0 _ rfl
          have y1 := hc 1 _ rfl
          have y2 := hc 2 _ rfl
          have y3 := hc 3 _ rfl
          have y4 := hc 4 _ rfl
          have y5 := hc 5 _ rfl
          simp only [Nat.add_zero] at y0 y1 y2 y3 y4 y5
          clear hat hc g2 g3
          obtain ⟨a', c', hv, _, _, hat⟩ := ownE_at (show Own wr 43 6 (.slice a9 kl.length c9) kl.length (rowE kl) from HQ.out.get (i := 4) rfl)
          injection hv with g1 g2 g3
          subst g1
          obtain ⟨g9, rfl, _, _, hc⟩ := hat q x hx
          have z0 := hc 0 _ rfl
          have z1 := hc 1 _ rfl
          have z2 := hc 2 _ rfl
          have z3 := hc 3 _ rfl
          have z4 := hc 4 _ rfl
          have z5 := hc 5 _ rfl
          simp only [Nat.add_zero] at z0 z1 z2 z3 z4 z5
          clear hat hc g2 g3 hx
          have kn : ∀ w, (binOp .neq 43 (.agg #[.int .i64 x.seq, .string x.key, .bool x.del, .int .i64 x.slot, .int .i64 x.off, .int .i64 x.size]) (.agg #[.int .i64 x.seq, .string x.key, .bool x.del, .int .i64 x.slot, .int .i64 x.off, .int .i64 x.size])).run Try.prog w = .ok (.bool false) w := fun w => (neqE_run x x w).trans (by simp)
          go_wp2_with fail
          refine wp_region_flo (fun _ => False) [] [] (by kernel_rfl) (by kernel_rfl) (fun _ h => h.elim) ?_
          refine flo_seg 9 rfl ?_
          simp only [List.take_succ_cons, List.take_zero, List.drop_succ_cons, List.drop_zero]
          repeat (go_big_quiet_step (fail))
          refine wpQuiet_nil ?_
          refine flo_nil ?_
          go_wp2_with fail
          exact ⟨⟨q + 1, by omega, by simp, Lib.hid (HQ.out.gr (Gr.refl _).drew)⟩, by simp [intOf]; omega⟩
        · have hlq' : ¬ (q : Int) < kl.length := by omega
          go_wp2_with fail
          refine (cu_works _).mono ?_
          rintro e w13 ⟨rfl, hg⟩
          have HG := Lib.hid (HQ.out.g.trans hg)
          clear hg
          go_wp2
          go_ret
          exact ⟨rfl, HG.out⟩
end Go.Proofs.Ytndknnhgdlgbgaa

/- CursorStays. -/
set_option linter.unusedVariables false
set_option linter.unusedSimpArgs false
namespace Go.Proofs.Ytndknnhgdlgbgaa
open Go.RowKit Go.Shelf
attribute [local go_sem] OvM cell_ovm obj_ovm
attribute [local go_sem] Oper.semAt_some

set_option maxRecDepth 40000 in
set_option maxHeartbeats 4000000 in
theorem of28 (l : List En) (hn : l.length ≤ 1000) (v : Value) (s : Int) (w : World) (h : Own w 43 6 v l.length (rowE l)) :
    Calls Try.prog 58 #[v, .int .i64 s] w fun e w' => ∃ v', e = .returned v' ∧ Nw w w' 43 6 v' (l.filter (slotP s)).length (rowE (l.filter (slotP s))) ∧ Gr w w' := by
  obtain ⟨i0, hi, hz0, hz1, hz2⟩ := info_parts infoIten
  obtain ⟨a1, cap1, rfl, hc1, hm1, hat1⟩ := ownE_at h
  have HAT := Lib.hid hat1
  clear h hat1
  unfold maxLen at hm1
  go_enter Try.func58, Try.ntmps58
  go_wp2_with fail
  go_loopw [5, 6] (fun t5 t6 wx => ∃ i : Nat, i ≤ l.length ∧ t6 = .int .i64 i ∧ Hid (Nw w wx 43 6 t5 ((l.take i).filter (slotP s)).length (rowE ((l.take i).filter (slotP s))) ∧ Gr w wx)) (fun _ t6 _ => l.length - (intOf t6).toNat)
  case atStart => exact ⟨0, by omega, rfl, Lib.hid ⟨⟨nilRow _ _ _, fun q hq => by cases hq⟩, Gr.refl _⟩⟩
  case round =>
    obtain ⟨i, hil, rfl, HI⟩ := hrel
    by_cases hli : i < l.length
    · have hli' : (i : Int) < l.length := by omega
      obtain ⟨x, hx⟩ : ∃ x, l[i]? = some x := ⟨_, List.getElem?_eq_getElem hli⟩
      obtain ⟨g0, rfl, _, _, hc⟩ := HAT.out i x hx
      have hr : ∀ i' u, (enC x)[i']? = some u → wr.cell? ⟨g0, i * 6 + i', none⟩ = some u := fun i' u hu => HI.out.2.keep (hc i' u hu)
      have d0 := hr 0 _ rfl
      have d1 := hr 1 _ rfl
      have d2 := hr 2 _ rfl
      have d3 := hr 3 _ rfl
      have d4 := hr 4 _ rfl
      have d5 := hr 5 _ rfl
      simp only [Nat.add_zero] at d0 d1 d2 d3 d4 d5
      have HTF := Lib.hid (take_filter_succ (p := slotP s) hx)
      have hfl : ((l.take i).filter (slotP s)).length ≤ 1000 := by
        have h1 := List.length_filter_le (slotP s) (l.take i)
        rw [List.length_take] at h1
        omega
      clear hr hc hx
      by_cases hxs : x.slot = s
      · have hb : (x.slot == s) = true := beq_iff_eq.2 hxs
        have HTG : Hid ((l.take (i + 1)).filter (slotP s) = (l.take i).filter (slotP s) ++ [x]) := Lib.hid (by rw [HTF.out, show slotP s x = true from decide_eq_true hxs, if_pos rfl])
        clear hxs
        go_wp2_with (first
          | (at_builtin; go_must (refine wpList_appv _ rfl (.tmp 20) (.tmp 25) 53 rfl 43 i0 _ 6 56 Try.underlying53 hi hz0 hz1 hz2 rfl (by decide) u5 ((l.take i).filter (slotP s)).length (rowE ((l.take i).filter (slotP s))) rfl (HI.out.1.own.gr (by (repeat (first | (with_reducible exact Gr.refl _) | assumption | (with_reducible apply Gr.from_drew) | (with_reducible apply Gr.alloc) | (with_reducible apply Gr.drew) | (with_reducible refine Gr.trans ?_ (by assumption)) | (with_reducible refine Gr.setCell ?_ (by omega) _))))) (some ⟨wr.heap.size, 0, none⟩) 1 1 (enC x) rfl (src_newK wr (enC x) _ 6 rfl (enC_one x)) (by simp only [maxLen]; omega) (by omega) ?_); intro v2 w2 hA; have N2 := Lib.hid (hA.nw (HI.out.1.gr ((Gr.refl wr).alloc _)) (by have := HI.out.2.sz; simp; omega)); have HG2 := Lib.hid (hA.gw (HI.out.1.gr ((Gr.refl wr).alloc _)) (HI.out.2.alloc _)); clear hA)
          | fail)
        exact ⟨⟨i + 1, by omega, by simp, Lib.hid ⟨by rw [HTG.out, rowE_snoc, List.length_append]; exact N2.out, HG2.out⟩⟩, by simp [intOf]; omega⟩
      · have hb : (x.slot == s) = false := beq_false_of_ne hxs
        have HTG : Hid ((l.take (i + 1)).filter (slotP s) = (l.take i).filter (slotP s)) := Lib.hid (by rw [HTF.out, show slotP s x = false from decide_eq_false hxs, if_neg (by decide), List.append_nil])
        clear hxs
        go_wp2_with fail
        exact ⟨⟨i + 1, by omega, by simp, Lib.hid ⟨by rw [HTG.out]; exact HI.out.1, HI.out.2⟩⟩, by simp [intOf]; omega⟩
    · have hli' : ¬ (i : Int) < l.length := by omega
      obtain rfl : i = l.length := by omega
      rw [List.take_length] at HI
      go_wp2
      go_ret
      exact ⟨u5, rfl, HI.out.1, HI.out.2⟩
end Go.Proofs.Ytndknnhgdlgbgaa

/- CursorStays: the walk. -/
set_option linter.unusedVariables false
set_option linter.unusedSimpArgs false
namespace Go.Proofs.Ytndknnhgdlgbgaa
open Go.RowKit Go.Shelf
attribute [local go_sem] OvM cell_ovm obj_ovm
attribute [local go_sem] Oper.semAt_some

abbrev c0 : Cu := ⟨false, 0, 0⟩
theorem st_bad {c : Cu} {s : Int} (h : s < 0 ∨ 32 ≤ s) : startC c s = 3 ∧ startX c s = c := by
  have h1 : startC c s = 3 := if_pos h
  exact ⟨h1, by unfold startX; rw [if_neg (by rw [h1]; decide)]⟩
theorem st_have {c : Cu} {s : Int} (h0 : 0 ≤ s) (h1 : s < 32) (hc : c.has = true) : startC c s = 6 ∧ startX c s = c := by
  have h1 : startC c s = 6 := by unfold startC; rw [if_neg (by omega), if_pos hc]
  exact ⟨h1, by unfold startX; rw [if_neg (by rw [h1]; decide)]⟩
theorem st_ok {c : Cu} {s : Int} (h0 : 0 ≤ s) (h1 : s < 32) (hc : c.has = false) : startC c s = 0 ∧ startX c s = ⟨true, s, 0⟩ := by
  have h1 : startC c s = 0 := by unfold startC; rw [if_neg (by omega), if_neg (by rw [hc]; decide)]
  exact ⟨h1, by unfold startX; rw [if_pos h1]⟩
theorem adv_st {X : IX} {c : Cu} (h0 : X.slots ≠ []) (hc : c.has = false) : advC X c = 7 ∧ advX X c = c := by
  have h1 : peekC X c = 7 := by unfold peekC; rw [if_neg h0, if_pos hc]
  have h2 : peekO X c = none := by unfold peekO; rw [if_neg (by rw [h1]; decide)]
  exact ⟨by unfold advC; rw [if_pos (by rw [h1]; decide), h1], by unfold advX; rw [h2]⟩
set_option maxRecDepth 40000 in
set_option maxHeartbeats 8000000 in
theorem CursorStays_any (a : Option Addr) (len cap : Nat) (L : List Tr) (u n s m : Int) (w : World) (hl : L.length = len) (hle : len ≤ cap) (hcap : cap ≤ maxLen) (hs : TriAt w a L) (hu0 : 0 ≤ u) (hu1 : u ≤ 255) (hn0 : 0 ≤ n) (hn1 : n ≤ 255) (hs0 : 0 ≤ s) (hs1 : s ≤ 255) (hm0 : 0 ≤ m) (hm1 : m ≤ 65535) :
    Calls Try.prog 11 #[.slice a len cap, .int .u8 u, .int .u8 n, .int .u8 s, .int .u16 m] w fun e w' => e = .returned (.bool true) ∧ Gr w w' := by
  by_cases h80 : 80 < len
  · have h80' : (80 : Int) < len := by omega
    clear hs hl
    go_enter Try.func11, Try.ntmps11
    go_wp2_with (go_at_call 51; refine (cu_works _).mono ?_; rintro e w1 ⟨rfl, hg⟩; have HG := Lib.hid hg; clear hg)
    go_ret
    exact ⟨rfl, HG.out⟩
  have h80' : ¬ (80 : Int) < len := by omega
  have HC := Lib.hid (built28_any a len cap L w hl (by omega) hle hcap hs)
  have HST := Lib.hid (foldT_ok L (by omega) (triOk hs))
  have HLN : Hid ((foldT L).all.length = len) := Lib.hid (by rw [foldT_len, hl])
  obtain ⟨v, hv⟩ : ∃ v : Nat, u % 5 = (v : Int) := ⟨(u % 5).toNat, by omega⟩
  have hv5 : v < 5 := by omega
  obtain ⟨nn, hnn⟩ : ∃ v : Nat, n % 5 = (v : Int) := ⟨(n % 5).toNat, by omega⟩
  have hnn5 : nn < 5 := by omega
  clear hs hl
  go_enter Try.func11, Try.ntmps11
  go_wp2_with fail
  refine Calls.mono HC.out ?_
  rintro e w1 ⟨b, S, av, cv, rfl, hs⟩
  have HS1 := Lib.hid hs
  generalize foldT L = st at *
  obtain ⟨X, all, us⟩ := st
  simp only at HS1 HLN
  simp only
  have HX := Lib.hid (TS.sl HST.out)
  have hal : all.length ≤ 80 := by have := HLN.out; omega
  have hsl : (X.slot (v : Int)).length ≤ 80 := by have := HX.out.2.2 (v : Int); simp only at *; omega
  have HW := Lib.hid HST.out.g.wf
  have HEN := Lib.hid HST.out.g.len
  have HFL : Hid ((all.filter (slotP (v : Int))).length = (X.slot (v : Int)).length) := Lib.hid (by
    rw [(slot_perm HST.out.g.wf (v : Int)).length_eq]
    exact (HST.out.g.pm.filter _).length_eq)
  simp only at HX HW HEN
  have hvs : (v : Int) < X.slots.length := by have := HX.out.2.1; omega
  have HVS := Lib.hid hvs
  clear hs HC hvs
  go_wp2_with fail
  refine (cuNew _).mono ?_
  rintro e w2 ⟨rfl, rfl⟩
  obtain ⟨b7, hb7⟩ : ∃ q, q = w1.heap.size := ⟨_, rfl⟩
  obtain ⟨w2, hw2⟩ : ∃ y, y = w1.alloc (cuO c0) := ⟨_, rfl⟩
  have HS2 : Hid (SW w [ixA b X S, blkA b7 (cuO c0), rowA 43 6 (.slice av all.length cv) all.length (rowE all)] w2) := Lib.hid (by rw [hw2, hb7]; exact HS1.out.allocT _)
  rw [← hb7, ← hw2]
  clear hb7 hw2 HS1
  go_wp2_with fail
  refine (start_sw HS2.out (-1 - m)).mono ?_
  rintro e w3 ⟨rfl, hs, _⟩
  rw [(st_bad (.inl (by omega))).2] at hs
  have HS3 := Lib.hid hs
  rw [(st_bad (.inl (by omega))).1]
  clear hs HS2
  go_wp2_with fail
  refine (start_sw HS3.out (32 + m)).mono ?_
  rintro e w4 ⟨rfl, hs, _⟩
  rw [(st_bad (.inr (by omega))).2] at hs
  have HS4 := Lib.hid hs
  rw [(st_bad (.inr (by omega))).1]
  clear hs HS3
  go_wp2_with fail
  refine (adv_sw HS4.out).mono ?_
  rintro e w5 ⟨rfl, hs, _⟩
  rw [(adv_st HX.out.1 rfl).2] at hs
  have HS5 := Lib.hid hs
  rw [(adv_st HX.out.1 rfl).1]
  clear hs HS4
  go_wp2_with fail
  refine (start_sw HS5.out (v : Int)).mono ?_
  rintro e w6 ⟨rfl, hs, _⟩
  rw [(st_ok (by omega) (by omega) rfl).2] at hs
  rw [(st_ok (by omega) (by omega) rfl).1]
  have HS6 : Hid (SW w [ixA b X S, blkA b7 (cuO (curAt (X.slot (v : Int)) v 0)), rowA 43 6 (.slice av all.length cv) all.length (rowE all)] w6) := Lib.hid hs
  clear hs HS5 hv
  go_upto_region 8 with fail
  go_cut [15] (fun t15 wx => ∃ k : Nat, k ≤ (X.slot (v : Int)).length ∧ t15 = .int .i64 k ∧ Hid (SW w [ixA b X S, blkA b7 (cuO (curAt (X.slot (v : Int)) v 0)), rowA 43 6 (.slice av all.length cv) all.length (rowE all)] wx))
  case first =>
    go_wp2_with fail
    refine (of28 all (by omega) _ (v : Int) _ (HS6.out.get (i := 2) rfl)).mono ?_
    rintro e w7 ⟨v7, rfl, hr, hg⟩
    obtain ⟨a7, c7, rfl, _⟩ := ownE_at hr.own
    rw [HFL.out]
    have HS7 := Lib.hid (HS6.out.gr hg)
    clear hr hg HS6
    by_cases hsk : s ≤ (X.slot (v : Int)).length
    · obtain ⟨k, rfl⟩ : ∃ k : Nat, s = (k : Int) := ⟨s.toNat, by omega⟩
      go_wp2_with fail
      go_meet
      exact ⟨k, by omega, rfl, HS7⟩
    · have hsk' : ((X.slot (v : Int)).length : Int) < s := by omega
      go_wp2_with fail
      go_meet
      exact ⟨(X.slot (v : Int)).length, Nat.le_refl _, rfl, HS7⟩
  case rest =>
    obtain ⟨k, hk, rfl, HS7⟩ := hcut
    clear HS6
    go_wp2_with fail
    go_loopw [16] (fun t16 wx => ∃ i : Nat, i ≤ k ∧ t16 = .int .i64 i ∧ Hid (SW w [ixA b X S, blkA b7 (cuO (curAt (X.slot (v : Int)) v i)), rowA 43 6 (.slice av all.length cv) all.length (rowE all)] wx)) (fun t16 _ => k - (intOf t16).toNat)
    case atStart => exact ⟨0, by omega, rfl, HS7⟩
    case round =>
      obtain ⟨i, hi, rfl, HI⟩ := hrel
      clear HS7
      by_cases hli : i < k
      · have hli' : (i : Int) < k := by omega
        have HAC : Hid (advC X (curAt (X.slot (v : Int)) v i) = 0) := Lib.hid (by rw [cur_ac HW.out HX.out.1 HVS.out i (by omega), if_pos (by omega)])
        have HAX := Lib.hid (cur_ax HW.out HX.out.1 HVS.out i (by omega))
        go_wp2_with fail
        refine (adv_sw HI.out).mono ?_
        rintro e w8 ⟨rfl, hs, _⟩
        rw [HAX.out] at hs
        have HI8 := Lib.hid hs
        rw [HAC.out]
        clear hs HI
        go_wp2_with fail
        exact ⟨⟨i + 1, by omega, by simp, HI8⟩, by simp [intOf]; omega⟩
      · have hli' : ¬ (i : Int) < k := by omega
        obtain rfl : i = k := by omega
        go_wp2_with fail
        refine (cuOffset HI.out.cu).mono ?_
        rintro e w8 ⟨rfl, rfl⟩
        go_wp2_with fail
        refine (cuCopy HI.out.cu).mono ?_
        rintro e w8 ⟨rfl, rfl⟩
        obtain ⟨b18, hb18⟩ : ∃ q, q = wr.heap.size := ⟨_, rfl⟩
        obtain ⟨w8, hw8⟩ : ∃ y, y = wr.alloc (cuO (curAt (X.slot (v : Int)) v i)) := ⟨_, rfl⟩
        have HS8 : Hid (SW w [ixA b X S, blkA b18 (cuO (curAt (X.slot (v : Int)) v i)), blkA b7 (cuO (curAt (X.slot (v : Int)) v i)), rowA 43 6 (.slice av all.length cv) all.length (rowE all)] w8) := Lib.hid (by rw [hw8, hb18]; exact HI.out.allocT _)
        rw [← hb18, ← hw8]
        clear hb18 hw8 HI hli hli'
        go_wp2_with fail
        refine (cuPeek (HS8.out.get (i := 2) rfl) HS8.out.ixp).mono ?_
        rintro e w9 ⟨rfl, hg⟩
        have HS9 : Hid (SW w [ixA b X S, blkA b7 (cuO (curAt (X.slot (v : Int)) v i)), blkA b18 (cuO (curAt (X.slot (v : Int)) v i)), rowA 43 6 (.slice av all.length cv) all.length (rowE all)] w9) := Lib.hid ((HS8.out.gr hg).perm ((List.Perm.swap _ _ _).cons _))
        clear hg HS8
        generalize peekV X (curAt (X.slot (v : Int)) v i) = pv
        go_wp2_with fail
        (try rw [hnn])
        refine (start_sw HS9.out (nn : Int)).mono ?_
        rintro e w10 ⟨rfl, hs, _⟩
        rw [(st_have (by omega) (by omega) rfl).2] at hs
        have HS10 := Lib.hid hs
        rw [(st_have (by omega) (by omega) rfl).1]
        clear hs HS9
        go_wp2_with fail
        refine (cuOffset HS10.out.cu).mono ?_
        rintro e w11 ⟨rfl, rfl⟩
        go_wp2_with fail
        refine (Len_any HS10.out.ixp).mono ?_
        rintro e w11 ⟨rfl, rfl⟩
        rw [HEN.out]
        have HS11 : Hid (SW w [ixA b X S, blkA b18 (cuO (curAt (X.slot (v : Int)) v i)), blkA b7 (cuO (curAt (X.slot (v : Int)) v i)), rowA 43 6 (.slice av all.length cv) all.length (rowE all)] w10) := Lib.hid (HS10.out.perm ((List.Perm.swap _ _ _).cons _))
        clear HS10
        go_wp2_with fail
        go_loopg [] ((X.slot (v : Int)).length + 1 - i) (fun gk wx => ∃ q : Nat, i ≤ q ∧ q ≤ (X.slot (v : Int)).length ∧ gk + q = (X.slot (v : Int)).length + 1 ∧ Hid (SW w [ixA b X S, blkA b18 (cuO (curAt (X.slot (v : Int)) v q)), blkA b7 (cuO (curAt (X.slot (v : Int)) v i)), rowA 43 6 (.slice av all.length cv) all.length (rowE all)] wx))
        case atStart => exact ⟨i, Nat.le_refl _, hk, by omega, HS11⟩
        case round =>
          obtain ⟨q, hiq, hq, hgk, HQ⟩ := hrel
          clear HS11
          by_cases hlq : q < (X.slot (v : Int)).length
          · have HAC : Hid (advC X (curAt (X.slot (v : Int)) v q) = 0) := Lib.hid (by rw [cur_ac HW.out HX.out.1 HVS.out q hq, if_pos hlq])
            have HAX := Lib.hid (cur_ax HW.out HX.out.1 HVS.out q hlq)
            go_wp2_with fail
            refine (adv_sw HQ.out).mono ?_
            rintro e w11 ⟨rfl, hs, _⟩
            rw [HAX.out] at hs
            have HQ2 := Lib.hid hs
            rw [HAC.out]
            clear hs HQ
            go_wp2_with fail
            go_roundg (gk - 1)
            case rel => exact ⟨q + 1, by omega, by omega, by omega, HQ2⟩
            case measure => omega
          · obtain rfl : q = (X.slot (v : Int)).length := by omega
            have HAC : Hid (advC X (curAt (X.slot (v : Int)) v (X.slot (v : Int)).length) = 5) := Lib.hid (by rw [cur_ac HW.out HX.out.1 HVS.out _ hq, if_neg hlq])
            have HAX := Lib.hid (cur_axn HW.out HX.out.1 HVS.out)
            have HMO := Lib.hid (cur_mono (v := (v : Int)) HW.out i (X.slot (v : Int)).length hk (Nat.le_refl _))
            go_wp2_with fail
            refine (adv_sw HQ.out).mono ?_
            rintro e w11 ⟨rfl, hs, _⟩
            rw [HAX.out] at hs
            have HQ2 : Hid (SW w [ixA b X S, blkA b7 (cuO (curAt (X.slot (v : Int)) v i)), blkA b18 (cuO (curAt (X.slot (v : Int)) v (X.slot (v : Int)).length)), rowA 43 6 (.slice av all.length cv) all.length (rowE all)] w11) := Lib.hid (hs.perm ((List.Perm.swap _ _ _).cons _))
            rw [HAC.out]
            clear hs HQ hlq hgk
            go_wp2_with fail
            refine (cuSlot HQ2.out.cu).mono ?_
            rintro e w12 ⟨rfl, hg⟩
            have HQ3 := Lib.hid (HQ2.out.gr hg)
            clear hg HQ2
            rw [show (curAt (X.slot (v : Int)) (v : Int) i).slot = (v : Int) from rfl, show (curAt (X.slot (v : Int)) (v : Int) i).has = true from rfl]
            go_wp2_with fail
            refine (cuOffset HQ3.out.cu).mono ?_
            rintro e w13 ⟨rfl, rfl⟩
            have hbb : ((curAt (X.slot (v : Int)) (v : Int) i).off == (curAt (X.slot (v : Int)) (v : Int) i).off) = true := beq_self_eq_true _
            go_wp2_with fail
            refine (cuOffset (HQ3.out.get (i := 2) rfl)).mono ?_
            rintro e w13 ⟨rfl, rfl⟩
            have hle := HMO.out
            go_wp2_with fail
            refine (stop_sw HQ3.out).mono ?_
            rintro e w13 ⟨rfl, hs, _⟩
            have HQ4 := Lib.hid hs
            clear hs HQ3 hle hbb HMO
            go_wp2_with fail
            refine (cuOffset HQ4.out.cu).mono ?_
            rintro e w14 ⟨rfl, rfl⟩
            go_wp2_with fail
            refine (adv_sw HQ4.out).mono ?_
            rintro e w14 ⟨rfl, hs, _⟩
            rw [(adv_st HX.out.1 rfl).2] at hs
            have HQ5 := Lib.hid hs
            rw [(adv_st HX.out.1 rfl).1]
            clear hs HQ4
            go_wp2_with fail
            (try rw [hnn])
            refine (start_sw HQ5.out (nn : Int)).mono ?_
            rintro e w15 ⟨rfl, hs, _⟩
            rw [(st_ok (by omega) (by omega) rfl).2] at hs
            have HQ6 := Lib.hid hs
            rw [(st_ok (by omega) (by omega) rfl).1]
            clear hs HQ5
            go_wp2_with fail
            refine (cuSlot HQ6.out.cu).mono ?_
            rintro e w16 ⟨rfl, hg⟩
            have HQ7 := Lib.hid (HQ6.out.gr hg)
            clear hg HQ6
            go_wp2_with fail
            refine (cuOffset HQ7.out.cu).mono ?_
            rintro e w17 ⟨rfl, rfl⟩
            go_wp2_with fail
            refine (cu_works _).mono ?_
            rintro e w18 ⟨rfl, hg⟩
            have HG := Lib.hid (HQ7.out.g.trans hg)
            clear hg
            go_wp2
            go_ret
            exact ⟨rfl, HG.out⟩
end Go.Proofs.Ytndknnhgdlgbgaa

/- For rows: slices of structs, and bytes. -/
set_option linter.unusedVariables false
set_option linter.unusedSimpArgs false
namespace Go.Proofs.Ytndknnhgdlgbgaa
open Go.ChangeShapes Go.WideShapes Go.Deep
section
variable {H : Type} {enc : TypeId × Value → H} {P : Program} {w : World} {base : Nat} {spare : Nat → Bool} {held : Bool}
theorem open_slice_fields {t e : TypeId} {fs : Array Field} {fuel : Nat} {cs : List Value} {x : DataW H × List MemPlace} (ht : P.underlying t = some (.slice e)) (he : P.underlying e = some (.struct fs))
    (hone : oneCellFields P fs = true) (hC : P.cellsOf e = fs.size) (h : DataW.trod enc P w base spare held fuel t cs = some x) :
    (cs = [.slice none 0 0] ∧ x = (.nil, [])) ∨
    ∃ (a : Addr) (len cap m : Nat) (D : Nat → DataW H) (Pl : Nat → List MemPlace), cs = [.slice (some a) len cap] ∧ base ≤ a.block ∧ len ≤ cap ∧ cap ≤ maxLen ∧ m = (if spare a.block then cap else len) ∧
      x = (.slice ((List.range len).map D) ((List.range (m - len)).map fun j => D (len + j)), MemPlace.row a (m * fs.size) ++ (List.range m).flatMap Pl) ∧
      ∀ i, i < m → ∃ (ys : List (DataW H × List MemPlace)) (n : Nat), D i = .agg (ys.map (·.1)) ∧ Pl i = ys.flatMap (·.2) ∧ ys.length = fs.size ∧
        ∀ (j : Nat) (f : Field), fs[j]? = some f → ∃ (v : Value) (y : DataW H × List MemPlace), w.cell? (a.add (i * fs.size + j)) = some v ∧ ys[j]? = some y ∧ DataW.trod enc P w base spare held n f.type [v] = some y := by
  rcases open_slice ht h with h0 | ⟨a, len, cap, m, n, D, Pl, hcs, hb, hl, hm, hmm, hx, hi⟩
  · exact .inl h0
  · refine .inr ⟨a, len, cap, m, D, Pl, hcs, hb, hl, hm, hmm, by rw [hC] at hx; exact hx, fun i him => ?_⟩
    obtain ⟨cs', hc, ht'⟩ := hi i him
    rw [hC] at hc
    obtain ⟨ys, n', hn', hy, hlen, hyl, hf⟩ := DataW.trod_struct he ht'
    obtain ⟨_, hcl, hat⟩ := World.cells?_some hc
    simp only [Prod.mk.injEq] at hy
    refine ⟨ys, n', hy.1, hy.2, hyl, fun j f hj => ?_⟩
    obtain ⟨ho, hk⟩ := hone_of hone j f hj
    have hjl : j < fs.size := (Array.getElem?_eq_some_iff.1 hj).1
    have hcell := hat j hjl
    have hv : cs'[j]? = some (cs'[j]'(by omega)) := List.getElem?_eq_getElem (by omega)
    have h1 := hf j f hj
    rw [ho, hk] at h1
    have hone' : (cs'.drop j).take 1 = [cs'[j]'(by omega)] := by
      rw [List.drop_eq_getElem_cons (by omega)]
      rfl
    rw [hone'] at h1
    have hys : ys[j]? = some (ys[j]'(by omega)) := List.getElem?_eq_getElem (by omega)
    refine ⟨_, _, ?_, hys, h1.trans hys⟩
    rw [← Go.Deep.add_add, hcell, hv]
end

open Go.RowKit
theorem list_of {α : Type} (len : Nat) (d : α) (R : Nat → α → Prop) (h : ∀ i, i < len → ∃ x, R i x) : ∃ l : List α, l.length = len ∧ ∀ i, i < l.length → R i (l[i]?.getD d) := by
  classical
  refine ⟨(List.range len).map (fun i => if hi : i < len then Classical.choose (h i hi) else d), by simp, fun i hi => ?_⟩
  have hi' : i < len := by simpa using hi
  simp only [List.getElem?_map, List.getElem?_range hi', Option.map_some, Option.getD_some, dif_pos hi']
  exact Classical.choose_spec (h i hi')
theorem u8_of {a : Int} (h : (Lit.int .u8 a).wf = true) : ∃ c : UInt8, a = (c.toNat : Int) := by
  have h' : (decide (IntKind.u8.min ≤ a) && decide (a ≤ IntKind.u8.max)) = true := h
  have : 0 ≤ a ∧ a ≤ 255 := by simpa [IntKind.min, IntKind.max, IntKind.signed, IntKind.bits] using h'
  refine ⟨UInt8.ofNat a.toNat, ?_⟩
  rw [UInt8.toNat_ofNat_of_lt' (by have : UInt8.size = 256 := rfl; omega)]
  omega
theorem at_add {w : World} {a : Addr} {k : Nat} {v : Value} (h : w.cell? (a.add k) = some v) (hs : a.spot = none) : a.block < w.heap.size ∧ w.cell? ⟨a.block, a.off + k, none⟩ = some v := by
  have e : a.add k = ⟨a.block, a.off + k, none⟩ := by
    unfold Addr.add
    obtain ⟨b, o, s⟩ := a
    split
    · simp_all
    · rfl
  rw [e] at h
  refine ⟨?_, h⟩
  unfold World.cell? at h
  refine Classical.byContradiction fun hc => ?_
  rw [Array.getElem?_eq_none (by simpa using hc)] at h
  cases h
theorem spot_add {w : World} {a : Addr} {v : Value} (h : w.cell? (a.add 0) = some v) : a.spot = none := by
  simpa [Addr.add] using World.cell?_spot h
end Go.Proofs.Ytndknnhgdlgbgaa

/- Rows of chapter 28: triples of bytes. -/
set_option linter.unusedVariables false
set_option linter.unusedSimpArgs false
namespace Go.Proofs.Ytndknnhgdlgbgaa
open Go.ChangeShapes Go.WideShapes Go.Deep Go.RowKit
theorem u8t {a : Int} (h : (Lit.int .u8 a).wf = true) : 0 ≤ a ∧ a ≤ 255 := by
  simp only [Lit.wf, Bool.and_eq_true, decide_eq_true_eq] at h
  exact h
theorem u16t {a : Int} (h : (Lit.int .u16 a).wf = true) : 0 ≤ a ∧ a ≤ 65535 := by
  simp only [Lit.wf, Bool.and_eq_true, decide_eq_true_eq] at h
  exact h
theorem open_tri {H : Type} {enc : TypeId × Value → H} {w : World} {base : Nat} {spare : Nat → Bool} {held : Bool} {fuel : Nat} {a : Option Addr} {len cap : Nat} {x : DataW H × List MemPlace}
    (h : DataW.trod enc Try.prog w base spare held fuel 99 (Value.slice a len cap).cells.toList = some x) : len ≤ cap ∧ cap ≤ maxLen ∧ ∃ l : List Tr, l.length = len ∧ TriAt w a l := by
  rcases open_slice Try.underlying99 h with ⟨hcs, _⟩ | ⟨a', l, c, m, n, D, Pl, hcs, _, hl, hm, hmm, _, hi⟩
  · simp [Value.cells] at hcs
    obtain ⟨rfl, rfl, rfl⟩ := hcs
    exact ⟨by omega, by simp [maxLen], [], rfl, fun i x hx => by simp at hx⟩
  · simp [Value.cells] at hcs
    obtain ⟨rfl, rfl, rfl⟩ := hcs
    refine ⟨hl, hm, ?_⟩
    have hC : Try.prog.cellsOf 187 = 3 := by kernel_rfl
    have hE : Try.prog.cellsOf 5 = 1 := by kernel_rfl
    rw [hC] at hi
    by_cases h0 : 0 < len
    · have hml : len ≤ m := by rw [hmm]; split <;> omega
      have hel : ∀ i, i < len → ∃ c0 c1 c2 : Int, w.cell? ((a'.add (i * 3)).add 0) = some (.int .u8 c0) ∧ w.cell? ((a'.add (i * 3)).add 1) = some (.int .u8 c1) ∧ w.cell? ((a'.add (i * 3)).add 2) = some (.int .u8 c2) ∧ (0 ≤ c0 ∧ c0 ≤ 255) ∧ (0 ≤ c1 ∧ c1 ≤ 255) ∧ (0 ≤ c2 ∧ c2 ≤ 255) := fun i hil => by
        obtain ⟨cs', hc, ht'⟩ := hi i (by omega)
        obtain ⟨_, hcl, hat⟩ := World.cells?_some hc
        match cs', hcl with
        | [c0, c1, c2], _ =>
          obtain ⟨y0, y1, y2, n', _, t0, t1, t2⟩ := trod_array3 Try.underlying187 hE ht'
          obtain ⟨x0, e0, _, w0⟩ := DataW.trod_int Try.underlying5 t0
          obtain ⟨x1, e1, _, w1⟩ := DataW.trod_int Try.underlying5 t1
          obtain ⟨x2, e2, _, w2⟩ := DataW.trod_int Try.underlying5 t2
          obtain rfl := List.cons.inj e0 |>.1
          obtain rfl := List.cons.inj e1 |>.1
          obtain rfl := List.cons.inj e2 |>.1
          exact ⟨x0, x1, x2, hat 0 (by omega), hat 1 (by omega), hat 2 (by omega), u8t w0, u8t w1, u8t w2⟩
      have hsp : a'.spot = none := by
        obtain ⟨c0, _, _, hc, _⟩ := hel 0 h0
        rw [Nat.zero_mul] at hc
        have : (a'.add 0).spot = none := spot_add hc
        simpa [Addr.add] using this
      have hadd : ∀ i j, (a'.add (i * 3)).add j = a'.add (i * 3 + j) := fun i j => by
        obtain ⟨b, o, s⟩ := a'
        simp only at hsp
        subst hsp
        rw [addr_add, addr_add, addr_add, Nat.add_assoc]
      obtain ⟨l, hl1, hl2⟩ := list_of len (⟨0, 0, 0⟩ : Tr) (fun i t => w.cell? ⟨a'.block, a'.off + i * 3, none⟩ = some (.int .u8 t.a) ∧ w.cell? ⟨a'.block, a'.off + i * 3 + 1, none⟩ = some (.int .u8 t.b) ∧ w.cell? ⟨a'.block, a'.off + i * 3 + 2, none⟩ = some (.int .u8 t.c) ∧ a'.block < w.heap.size ∧ t.Ok) (fun i hil => by
        obtain ⟨x0, x1, x2, c0, c1, c2, w0, w1, w2⟩ := hel i hil
        rw [hadd] at c0 c1 c2
        obtain ⟨hb, d0⟩ := at_add c0 hsp
        exact ⟨⟨x0, x1, x2⟩, d0, (at_add c1 hsp).2, (at_add c2 hsp).2, hb, w0, w1, w2⟩)
      refine ⟨l, hl1, fun i x hx => ?_⟩
      obtain ⟨hlt, rfl⟩ := List.getElem?_eq_some_iff.1 hx
      obtain ⟨c0, c1, c2, hb, h4⟩ := hl2 i (by omega)
      rw [hx] at c0 c1 c2 h4
      exact ⟨_, _, by obtain ⟨b, o, s⟩ := a'; simp_all, hb, c0, c1, c2, h4⟩
    · obtain rfl : len = 0 := by omega
      exact ⟨[], rfl, fun i x hx => by simp at hx⟩
end Go.Proofs.Ytndknnhgdlgbgaa
