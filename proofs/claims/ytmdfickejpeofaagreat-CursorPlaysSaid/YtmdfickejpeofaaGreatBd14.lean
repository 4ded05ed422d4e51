/- drumlinlaw24: the examples of the chapter. -/
import Derived.Test.YtmdfickejpeofaaGreatBd13
set_option linter.unusedVariables false
set_option linter.unusedSimpArgs false
namespace Go.Proofs.YtmdfickejpeofaaGreat
open Go.RowKit Go.Shelf
attribute [local go_sem] OvM cell_ovm obj_ovm
attribute [local go_sem] Oper.semAt_some

theorem low_b {k : ByteArray} {c : UInt8} (h : k = ⟨#[c]⟩) (hc : c.toNat < 128) : Low k := by
  subst h
  intro j hj
  have h1 : j < 1 := hj
  have h0 : j = 0 := by omega
  subst h0
  exact hc
/-- Adding entries, all of which are taken. -/
structure AllAdd (l : List En) (X0 : IX) (St : Nat → IX) : Prop where
  z : St 0 = X0
  s : ∀ j x, l[j]? = some x → addE (St j) x = 0 ∧ St (j + 1) = addX (St j) x ∧ Low x.key ∧ En64 x
def stAdd (l : List En) (X0 : IX) (j : Nat) : IX := (l.take j).foldl addX X0
theorem stAdd_next (l : List En) (X0 : IX) (j : Nat) (x : En) (h : l[j]? = some x) : stAdd l X0 (j + 1) = addX (stAdd l X0 j) x := by
  unfold stAdd
  rw [List.take_add_one, h, List.foldl_append]
  rfl
def lvD : En := ⟨3, ⟨#[107]⟩, true, 1, 0, 17⟩
def lvM : En := ⟨4, ⟨#[109]⟩, false, 1, 20, 19⟩
def lvL : List En := [⟨1, ⟨#[107]⟩, false, 0, 0, 19⟩, ⟨2, ⟨#[109]⟩, false, 0, 20, 19⟩, lvD, lvM, ⟨4, ⟨#[109]⟩, false, 2, 0, 19⟩]
theorem lv_add : AllAdd lvL (ixNew 3) (stAdd lvL (ixNew 3)) := ⟨rfl, by
  intro j x h
  refine (fun (a : addE (stAdd lvL (ixNew 3) j) x = 0 ∧ Low x.key ∧ En64 x) => ⟨a.1, stAdd_next _ _ j x h, a.2⟩) ?_
  match j, h with
  | 0, h => cases h; exact ⟨by kernel_rfl, low_b rfl (by decide), by unfold En64; decide⟩
  | 1, h => cases h; exact ⟨by kernel_rfl, low_b rfl (by decide), by unfold En64; decide⟩
  | 2, h => cases h; exact ⟨by kernel_rfl, low_b rfl (by decide), by unfold En64; decide⟩
  | 3, h => cases h; exact ⟨by kernel_rfl, low_b rfl (by decide), by unfold En64; decide⟩
  | 4, h => cases h; exact ⟨by kernel_rfl, low_b rfl (by decide), by unfold En64; decide⟩
  | _ + 5, h => cases h⟩
def lvX : IX := stAdd lvL (ixNew 3) 5
def lvX1 : IX := dropX lvX 0
def lvX2 : IX := dropX lvX1 2
theorem lv_k0 : keptB lvX 0 [] = true := by kernel_rfl
theorem lv_k1 : keptB lvX 1 [lvD] = true := by kernel_rfl
theorem lv_k2 : keptB lvX 2 [] = true := by kernel_rfl
theorem lv_n1 : neededV lvX ⟨3, ⟨#[107]⟩, true, 1, 1, 17⟩ = .tuple #[.bool false, .int .i64 5] := by kernel_rfl
theorem lv_n2 : neededV lvX lvD = .tuple #[.bool true, .int .i64 0] := by kernel_rfl
theorem lv_d1 : (lvX.slot 0).length = 2 ∧ dropC lvX 0 = 0 := ⟨by kernel_rfl, by kernel_rfl⟩
theorem lv_k3 : keptB lvX1 1 [] = true := by kernel_rfl
theorem lv_r : retL lvX1 lvX1.slots.length = [lvD] := by kernel_rfl
theorem lv_s : (if lvX1.slots = [] then (1 : Int) else 0) = 0 := by kernel_rfl
theorem lv_d2 : (lvX1.slot 2).length = 1 ∧ dropC lvX1 2 = 0 := ⟨by kernel_rfl, by kernel_rfl⟩
theorem lv_k4 : keptB lvX2 1 [lvM] = true := by kernel_rfl
theorem own_nilE (w : World) : Own w 56 6 (.slice none 0 0) ([] : List En).length (rowE []) := nilRow w _ _
end Go.Proofs.YtmdfickejpeofaaGreat

/- cursor: Advance; the calls beside an index; drumlinlaw28: put. -/
set_option linter.unusedVariables false
set_option linter.unusedSimpArgs false
namespace Go.Proofs.YtmdfickejpeofaaGreat
open Go.RowKit Go.Shelf
attribute [local go_sem] OvM cell_ovm obj_ovm
attribute [local go_sem] Oper.semAt_some

theorem peekO_b {X : IX} (h : X.Wf) {c : Cu} {e : En} (he : peekO X c = some e) : peekC X c = 0 ∧ 0 ≤ e.off ∧ e.off + e.size ≤ 8192 ∧ 0 ≤ e.size ∧ peekE X c = some e := by
  unfold peekO at he
  by_cases h0 : peekC X c = 0
  · rw [if_pos h0] at he
    have hv := (valid_iff e).1 (h.valid ((h.slot_mem c.slot e).1 (List.mem_of_find?_eq_some he)).1).1
    exact ⟨h0, by omega, by omega, by omega, he⟩
  · rw [if_neg h0] at he; cases he
def pvO (X : IX) (n : Int) (o : Option En) : Value := match o with | none => .tuple #[enV zE, .bool false, .bool false, .int .i64 n] | some e => .tuple #[enV e, .bool (X.needs e), .bool true, .int .i64 0]
def axO (c : Cu) (o : Option En) : Cu := match o with | none => c | some e => ⟨c.has, c.slot, e.off + e.size⟩
set_option maxRecDepth 40000 in
set_option maxHeartbeats 4000000 in
theorem cuAdvance {w : World} {b : Nat} {c : Cu} {p : Option Addr} {X : IX} {S : Nat → Prop} (hc : w.heap[b]? = some (cuO c)) (h : IXP w p X S) : Calls Tryz.prog 38 #[.pointer (some ⟨b, 0, none⟩), .pointer p] w fun e w' => e = .returned (.int .i64 (advC X c)) ∧ w'.heap[b]? = some (cuO (advX X c)) ∧ Mdh (fun k => k = b) w w' := by
  have H := Lib.hid h
  have HCB := Lib.hid hc
  have hb := fun e he => peekO_b h.ok (c := c) (e := e) he
  obtain ⟨o, ho⟩ : ∃ o, o = peekO X c := ⟨_, rfl⟩
  obtain ⟨n, hn⟩ : ∃ n, n = peekC X c := ⟨_, rfl⟩
  have HPV : Hid (peekV X c = pvO X n o) := Lib.hid (by rw [ho, hn]; rfl)
  have HX : Hid (advX X c = axO c o) := Lib.hid (by rw [ho]; rfl)
  have HC1 : Hid (n ≠ 0 → advC X c = n) := Lib.hid (fun h0 => by rw [hn]; exact if_pos (by rw [← hn]; exact h0))
  have HC2 : Hid (n = 0 → o = none → advC X c = 5) := Lib.hid (fun h0 h1 => by
    have e0 : peekC X c = 0 := by rw [← hn]; exact h0
    have e1 : peekE X c = none := by rw [ho] at h1; unfold peekO at h1; rw [if_pos e0] at h1; exact h1
    unfold advC
    rw [if_neg (by rw [e0]; simp), e1])
  have HC3 : Hid (∀ e, o = some e → advC X c = 0 ∧ 0 ≤ e.off ∧ e.off + e.size ≤ 8192 ∧ 0 ≤ e.size) := Lib.hid (fun e h1 => by
    obtain ⟨e0, b1, b2, b3, e1⟩ := hb e (by rw [← ho]; exact h1)
    unfold advC
    rw [if_neg (by rw [e0]; simp), e1]
    exact ⟨rfl, b1, b2, b3⟩)
  clear h hc hb ho hn
  go_enter Tryz.func38, Tryz.ntmps38
  go_wp2_with fail
  refine (cuPeek HCB.out H.out).mono ?_
  rintro r w1 ⟨rfl, hg⟩
  rw [HPV.out]
  have HG := Lib.hid hg
  clear hg
  cases o with
  | none =>
    have hx := HX.out
    simp only [axO] at hx
    have HXX := Lib.hid hx
    clear hx
    simp only [pvO, enV, zE]
    by_cases h0 : n = 0
    · subst h0
      have HC5 : Hid (advC X c = 5) := Lib.hid (HC2.out rfl rfl)
      clear HC2 HC1 HC3
      go_wp2
      go_ret
      exact ⟨by rw [HC5.out] <;> rfl, by rw [HXX.out]; exact (HG.out.alloc _).blk HCB.out, (HG.out.alloc _).mdh _⟩
    · have h0' : (n == 0) = false := beq_false_of_ne h0
      have HC := Lib.hid (HC1.out h0)
      clear h0
      go_wp2
      go_ret
      exact ⟨by rw [HC.out] <;> rfl, by rw [HXX.out]; exact (HG.out.alloc _).blk HCB.out, (HG.out.alloc _).mdh _⟩
  | some x =>
    have hx := HX.out
    simp only [axO] at hx
    have HXX := Lib.hid hx
    obtain ⟨hz, hb1, hb2, hb3⟩ := HC3.out x rfl
    have HZ := Lib.hid hz
    clear hx hz
    simp only [pvO, enV]
    have hcb := HG.out.blk HCB.out
    obtain ⟨c0, c1, c2, c3, cf⟩ := cuC hcb
    have l := blkLt hcb
    clear hcb
    go_wp2
    go_ret
    exact ⟨by rw [HZ.out] <;> rfl, by rw [HXX.out]; exact blkOld (blkSet (j := 3) (HG.out.blk HCB.out)), ((HG.out.mdh (fun k => k = b)).setCell (p := ⟨b, 3, none⟩) rfl _).alloc _⟩
set_option maxRecDepth 40000 in
theorem cuAdvanceN {w : World} {p q : Option Addr} (h : CUN w p) : Calls Tryz.prog 38 #[.pointer p, .pointer q] w fun e w' => e = .returned (.int .i64 1) ∧ Gr w w' := by
  have H := Lib.hid h
  clear h
  go_enter Tryz.func38, Tryz.ntmps38
  go_wp2_with fail
  refine (cuPeekN H.out).mono ?_
  rintro r w1 ⟨rfl, hg⟩
  have HG := Lib.hid hg
  clear hg
  simp only [enV, zE]
  go_wp2
  go_ret
  exact ⟨rfl, HG.out.alloc _⟩

/-! ### Beside an index -/
theorem SW.cuset {w0 w w' : World} {R : List Asn} {A : Asn} {b : Nat} {c c' : Cu} (h : SW w0 (A :: blkA b (cuO c) :: R) w) (hb : w'.heap[b]? = some (cuO c')) (m : Mdh (fun k => k = b) w w') : SW w0 (A :: blkA b (cuO c') :: R) w' :=
  h.at (i := 1) rfl m (fun k hk => .inl hk) hb (fun k hk => .inl hk)
theorem SW.cu {w0 w : World} {R : List Asn} {A : Asn} {b : Nat} {c : Cu} (h : SW w0 (A :: blkA b (cuO c) :: R) w) : w.heap[b]? = some (cuO c) := h.get (i := 1) rfl
section
variable {w0 w : World} {R : List Asn} {b cb : Nat} {X : IX} {S : Nat → Prop} {c : Cu}
theorem adv_sw (h : SW w0 (ixA b X S :: blkA cb (cuO c) :: R) w) : Calls Tryz.prog 38 #[.pointer (some ⟨cb, 0, none⟩), .pointer (some ⟨b, 0, none⟩)] w fun e w' => e = .returned (.int .i64 (advC X c)) ∧ SW w0 (ixA b X S :: blkA cb (cuO (advX X c)) :: R) w' ∧ Mdh (fun k => k = cb) w w' :=
  (cuAdvance h.cu h.ixp).mono fun _ _ ⟨e, hb, m⟩ => ⟨e, h.cuset hb m, m⟩
theorem start_sw {A : Asn} (h : SW w0 (A :: blkA cb (cuO c) :: R) w) (s : Int) : Calls Tryz.prog 36 #[.pointer (some ⟨cb, 0, none⟩), .int .i64 s] w fun e w' => e = .returned (.int .i64 (startC c s)) ∧ SW w0 (A :: blkA cb (cuO (startX c s)) :: R) w' ∧ Mdh (fun k => k = cb) w w' :=
  (cuStart h.cu s).mono fun _ _ ⟨e, hb, m⟩ => ⟨e, h.cuset hb m, m⟩
theorem stop_sw {A : Asn} (h : SW w0 (A :: blkA cb (cuO c) :: R) w) : Calls Tryz.prog 40 #[.pointer (some ⟨cb, 0, none⟩)] w fun e w' => e = .returned (.tuple #[]) ∧ SW w0 (A :: blkA cb (cuO ⟨false, 0, 0⟩) :: R) w' ∧ Mdh (fun k => k = cb) w w' :=
  (cuStop h.cu).mono fun _ _ ⟨e, hb, m⟩ => ⟨e, h.cuset hb m, m⟩
theorem peek_sw (h : SW w0 (ixA b X S :: blkA cb (cuO c) :: R) w) : Calls Tryz.prog 48 #[.pointer (some ⟨cb, 0, none⟩), .pointer (some ⟨b, 0, none⟩)] w fun e w' => e = .returned (peekV X c) ∧ Gr w w' := cuPeek h.cu h.ixp
end
set_option maxRecDepth 40000 in
theorem put8 (k : ByteArray) (q s o z : Int) (hk : k.size ≤ 1000) (hz : z = 18 + (k.size : Int)) (w : World) : Calls Tryz.prog 84 #[.string k, .int .i64 q, .int .i64 s, .int .i64 o] w fun e w' => e = .returned (.agg #[.int .i64 q, .string k, .bool false, .int .i64 s, .int .i64 o, .int .i64 z]) ∧ Gr w w' := by
  subst hz
  go_enter Tryz.func84, Tryz.ntmps84
  go_wp2
  refine bodyPost_ret (v := .agg #[.int .i64 q, .string k, .bool false, .int .i64 s, .int .i64 o, .int .i64 (18 + (k.size : Int))]) ?_ rfl ⟨rfl, by (repeat (first | (with_reducible exact Gr.refl _) | assumption | (with_reducible apply Gr.from_drew) | (with_reducible apply Gr.alloc) | (with_reducible apply Gr.drew) | (with_reducible refine Gr.trans ?_ (by assumption)) | (with_reducible refine Gr.setCell ?_ (by omega) _)))⟩
  simp [results, Tryz.results84, go_sem]
end Go.Proofs.YtmdfickejpeofaaGreat

/- drumlinlaw28: the examples of the chapter. -/
set_option linter.unusedVariables false
set_option linter.unusedSimpArgs false
namespace Go.Proofs.YtmdfickejpeofaaGreat
open Go.RowKit Go.Shelf
attribute [local go_sem] OvM cell_ovm obj_ovm
attribute [local go_sem] Oper.semAt_some

theorem SW.alloc3 {w0 w : World} {R : List Asn} {A B : Asn} (h : SW w0 (A :: B :: R) w) (o : Obj) : SW w0 (A :: B :: blkA w.heap.size o :: R) (w.alloc o) :=
  (h.alloc o).perm ((List.Perm.swap _ _ _).trans ((List.Perm.swap _ _ _).cons _))
def cu1 : En := ⟨1, ⟨#[107]⟩, false, 0, 0, 19⟩
def cu2 : En := ⟨2, ⟨#[109]⟩, false, 0, 20, 19⟩
def cu3 : En := ⟨3, ⟨#[107]⟩, false, 1, 0, 19⟩
def cuL : List En := [cu1, cu2, cu3]
theorem cu_add : AllAdd cuL (ixNew 2) (stAdd cuL (ixNew 2)) := ⟨rfl, by
  intro j x h
  refine (fun (a : addE (stAdd cuL (ixNew 2) j) x = 0 ∧ Low x.key ∧ En64 x) => ⟨a.1, stAdd_next _ _ j x h, a.2⟩) ?_
  match j, h with
  | 0, h => cases h; exact ⟨by kernel_rfl, low_b rfl (by decide), by unfold En64; decide⟩
  | 1, h => cases h; exact ⟨by kernel_rfl, low_b rfl (by decide), by unfold En64; decide⟩
  | 2, h => cases h; exact ⟨by kernel_rfl, low_b rfl (by decide), by unfold En64; decide⟩
  | _ + 3, h => cases h⟩
def cuX : IX := stAdd cuL (ixNew 2) 3
abbrev cuS0 : Cu := ⟨false, 0, 0⟩
abbrev cuS1 : Cu := ⟨true, 0, 0⟩
abbrev cuS2 : Cu := ⟨true, 0, 19⟩
abbrev cuS3 : Cu := ⟨true, 0, 39⟩
theorem cu_p0 : peekV cuX cuS0 = .tuple #[.agg #[.int .i64 0, .string ⟨#[]⟩, .bool false, .int .i64 0, .int .i64 0, .int .i64 0], .bool false, .bool false, .int .i64 7] := by kernel_rfl
theorem cu_p1 : peekV cuX cuS1 = .tuple #[.agg #[.int .i64 1, .string ⟨#[107]⟩, .bool false, .int .i64 0, .int .i64 0, .int .i64 19], .bool false, .bool true, .int .i64 0] := by kernel_rfl
theorem cu_p2 : peekV cuX cuS2 = .tuple #[.agg #[.int .i64 2, .string ⟨#[109]⟩, .bool false, .int .i64 0, .int .i64 20, .int .i64 19], .bool true, .bool true, .int .i64 0] := by kernel_rfl
theorem cu_s0 : startC cuS0 0 = 0 := by kernel_rfl
theorem cu_x0 : startX cuS0 0 = cuS1 := by kernel_rfl
theorem cu_s1 : startC cuS1 1 = 6 := by kernel_rfl
theorem cu_x1 : startX cuS1 1 = cuS1 := by kernel_rfl
theorem cu_a1 : advC cuX cuS1 = 0 := by kernel_rfl
theorem cu_y1 : advX cuX cuS1 = cuS2 := by kernel_rfl
theorem cu_a2 : advC cuX cuS2 = 0 := by kernel_rfl
theorem cu_y2 : advX cuX cuS2 = cuS3 := by kernel_rfl
theorem cu_a3 : advC cuX cuS3 = 5 := by kernel_rfl
theorem cu_y3 : advX cuX cuS3 = cuS3 := by kernel_rfl
set_option maxRecDepth 40000 in
set_option maxHeartbeats 8000000 in
theorem cu_works (w : World) : Calls Tryz.prog 31 #[] w fun e w' => e = .returned (.bool true) ∧ Gr w w' := by
  have HST := Lib.hid cu_add.s
  go_enter Tryz.func31, Tryz.ntmps31
  go_wp2_with fail
  refine (New_any 2 w (by decide) (by decide)).mono ?_
  rintro e w1 ⟨b, S, rfl, h1, h2, h3⟩
  have HS1 : Hid (SW w [ixA b (stAdd cuL (ixNew 2) 0) S] w1) := Lib.hid ((SW.start w).ixnew h1 h2 h3)
  clear h1 h2 h3
  go_wp2_with fail
  refine (cuNew _).mono ?_
  rintro e w2 ⟨rfl, hw2⟩
  obtain ⟨cb, hcb⟩ : ∃ q, q = w1.heap.size := ⟨_, rfl⟩
  have HS2 : Hid (SW w [ixA b (stAdd cuL (ixNew 2) 0) S, blkA cb (cuO cuS0)] w2) := Lib.hid (by rw [hw2, hcb]; exact HS1.out.allocT _)
  rw [← hcb]
  clear hw2 hcb
  have HG := Gr.refl w2
  go_wp2_with (go_at_call 84; refine (put8 _ _ _ _ 19 (by decide) (by decide) _).mono ?_; rintro e w3 ⟨rfl, hg⟩; replace HG := HG.trans hg; clear hg)
  refine (Add_any (HS2.out.gr HG).ix cu1 (HST.out 0 cu1 rfl).2.2.1 (HST.out 0 cu1 rfl).2.2.2).mono ?_
  rintro e w4 ⟨rfl, hp⟩
  rw [(HST.out 0 cu1 rfl).1]
  obtain ⟨S1, hs⟩ := (HS2.out.gr HG).post hp
  rw [← (HST.out 0 cu1 rfl).2.1] at hs
  have HS4 := Lib.hid hs
  clear hs hp HG
  have HG := Gr.refl w4
  go_wp2_with (go_at_call 84; refine (put8 _ _ _ _ 19 (by decide) (by decide) _).mono ?_; rintro e w5 ⟨rfl, hg⟩; replace HG := HG.trans hg; clear hg)
  refine (Add_any (HS4.out.gr HG).ix cu2 (HST.out 1 cu2 rfl).2.2.1 (HST.out 1 cu2 rfl).2.2.2).mono ?_
  rintro e w6 ⟨rfl, hp⟩
  rw [(HST.out 1 cu2 rfl).1]
  obtain ⟨S2, hs⟩ := (HS4.out.gr HG).post hp
  rw [← (HST.out 1 cu2 rfl).2.1] at hs
  have HS6 := Lib.hid hs
  clear hs hp HG
  have HG := Gr.refl w6
  go_wp2_with (go_at_call 84; refine (put8 _ _ _ _ 19 (by decide) (by decide) _).mono ?_; rintro e w7 ⟨rfl, hg⟩; replace HG := HG.trans hg; clear hg)
  refine (Add_any (HS6.out.gr HG).ix cu3 (HST.out 2 cu3 rfl).2.2.1 (HST.out 2 cu3 rfl).2.2.2).mono ?_
  rintro e w8 ⟨rfl, hp⟩
  rw [(HST.out 2 cu3 rfl).1]
  obtain ⟨S3, hs⟩ := (HS6.out.gr HG).post hp
  rw [← (HST.out 2 cu3 rfl).2.1] at hs
  have HS8 : Hid (SW w [ixA b cuX S3, blkA cb (cuO cuS0)] w8) := Lib.hid hs
  clear hs hp HG HS6 HS4 HS2 HS1 HST
  go_wp2_with fail
  refine (peek_sw HS8.out).mono ?_
  rintro e w9 ⟨rfl, hg⟩
  rw [cu_p0]
  have HS9 := Lib.hid (HS8.out.gr hg)
  clear hg
  go_wp2_with fail
  refine (start_sw (HS9.out.gr ((Gr.refl _).alloc _)) 0).mono ?_
  rintro e w10 ⟨rfl, hs, hm⟩
  rw [cu_s0]
  rw [cu_x0] at hs
  have HS10 := Lib.hid hs
  clear hs hm
  go_wp2_with fail
  refine (start_sw HS10.out 1).mono ?_
  rintro e w11 ⟨rfl, hs, hm⟩
  rw [cu_s1]
  rw [cu_x1] at hs
  have HS11 := Lib.hid hs
  clear hs hm
  go_wp2_with fail
  refine (peek_sw HS11.out).mono ?_
  rintro e w12 ⟨rfl, hg⟩
  rw [cu_p1]
  have HS12 := Lib.hid (HS11.out.gr hg)
  clear hg
  go_wp2_with fail
  obtain ⟨b8, hb8⟩ : ∃ q, q = w12.heap.size := ⟨_, rfl⟩
  obtain ⟨w13, hw13⟩ : ∃ y, y = w12.alloc (.cells (enC cu1).toArray 56) := ⟨_, rfl⟩
  have HS13 : Hid (SW w [ixA b cuX S3, blkA cb (cuO cuS1), blkA b8 (.cells (enC cu1).toArray 56)] w13) := Lib.hid (by rw [hw13, hb8]; exact HS12.out.alloc3 _)
  have hne : ¬ b8 = cb := by have := blkLt HS12.out.cu; omega
  simp only [enC, cu1] at hw13
  rw [← hw13, ← hb8]
  clear hw13 hb8
  have d8 := (cellsOf (show w13.heap[b8]? = _ from HS13.out.get (i := 2) rfl)).1
  simp only [enC, cu1] at d8
  have k1 := neqE_run cu1 cu1
  simp only [cu1, decide_true, Bool.not_true] at k1
  have HG := Gr.refl w13.drew
  refine wp_region_flo (fun k => k = cb) [] [] (by kernel_rfl) (by kernel_rfl) (fun k hk => by subst hk; exact blkLt HS13.out.cu) ?_
  refine flo_seg 1 rfl ?_
  simp only [List.take_succ_cons, List.take_zero, List.drop_succ_cons, List.drop_zero]
  repeat (go_big_quiet_step (fail))
  refine wpQuiet_nil ?_
  refine flo_eff rfl rfl rfl rfl (fun K hK => ?_)
  go_wp2_with ((go_at_call 84; refine (put8 _ _ _ _ 19 (by decide) (by decide) _).mono ?_; rintro e w1 ⟨rfl, hg⟩; replace HG := HG.trans hg; (try clear hc); have hc := HG.cell; (try simp only [World.size_alloc] at hc)))
  refine ⟨by (first | (refine Gr.mdh ?_ _; (repeat (first | (with_reducible exact Gr.refl _) | assumption | (with_reducible apply Gr.from_drew) | (with_reducible apply Gr.alloc) | (with_reducible apply Gr.drew) | (with_reducible refine Gr.trans ?_ (by assumption)) | (with_reducible refine Gr.setCell ?_ (by omega) _))); done) | (repeat (first | (with_reducible exact Mdh.refl _ _) | (with_reducible refine Mdh.setCell ?_ (by simp) _) | (with_reducible refine Mdh.setNew ?_ (by simp) _) | (with_reducible apply Mdh.alloc) | (with_reducible apply Mdh.from_drew) | (with_reducible apply Mdh.drew) | (with_reducible refine Mdh.gr ?_ (by assumption))))), ?_⟩
  refine flo_seg 15 rfl ?_
  simp only [List.take_succ_cons, List.take_zero, List.drop_succ_cons, List.drop_zero]
  repeat (go_big_quiet_step (fail))
  refine wpQuiet_nil ?_
  refine flo_eff rfl rfl rfl rfl (fun K hK => ?_)
  go_wp2_with ((go_at_call 38; refine (adv_sw (HS13.out.gr (Gr.of_drew HG))).mono ?_; rintro e w14 ⟨rfl, hs, hm⟩; rw [cu_a1]; rw [cu_y1] at hs; have HS14 := Lib.hid hs; have HM14 := Lib.hid hm; clear hs hm))
  refine ⟨by exact HM14.out.mono (fun k hk => .inl hk), ?_⟩
  refine flo_seg 4 rfl ?_
  simp only [List.take_succ_cons, List.take_zero, List.drop_succ_cons, List.drop_zero]
  repeat (go_big_quiet_step (fail))
  refine wpQuiet_nil ?_
  refine flo_eff rfl rfl rfl rfl (fun K hK => ?_)
  go_wp2_with ((go_at_call 52; refine (cuOffset HS14.out.cu).mono ?_; rintro e w15 ⟨rfl, rfl⟩))
  refine ⟨by exact Mdh.refl _ _, ?_⟩
  refine flo_seg 2 rfl ?_
  simp only [List.take_succ_cons, List.take_zero, List.drop_succ_cons, List.drop_zero]
  repeat (go_big_quiet_step (fail))
  refine wpQuiet_nil ?_
  refine flo_nil ?_
  have HS15 : Hid (SW w [ixA b cuX S3, blkA cb (cuO cuS2)] w14) := Lib.hid (HS14.out.sub (.cons_cons _ (.cons_cons _ (List.nil_sublist _))))
  clear HS14 HM14 HS13 HS12 HS11 HS10 HS9 HS8 d8 k1 HG hne
  go_wp2_with fail
  refine (peek_sw HS15.out).mono ?_
  rintro e w16 ⟨rfl, hg⟩
  rw [cu_p2]
  have HS16 := Lib.hid (HS15.out.gr hg)
  clear hg
  go_wp2_with fail
  obtain ⟨b9, hb9⟩ : ∃ q, q = w16.heap.size := ⟨_, rfl⟩
  obtain ⟨w17, hw17⟩ : ∃ y, y = w16.alloc (.cells (enC cu2).toArray 56) := ⟨_, rfl⟩
  have HS17 : Hid (SW w [ixA b cuX S3, blkA cb (cuO cuS2), blkA b9 (.cells (enC cu2).toArray 56)] w17) := Lib.hid (by rw [hw17, hb9]; exact HS16.out.alloc3 _)
  have hne : ¬ b9 = cb := by have := blkLt HS16.out.cu; omega
  simp only [enC, cu2] at hw17
  rw [← hw17, ← hb9]
  clear hw17 hb9
  have d9 := (cellsOf (show w17.heap[b9]? = _ from HS17.out.get (i := 2) rfl)).1
  simp only [enC, cu2] at d9
  have k2 := neqE_run cu2 cu2
  simp only [cu2, decide_true, Bool.not_true] at k2
  have HG := Gr.refl w17.drew
  refine wp_region_flo (fun k => k = cb) [] [] (by kernel_rfl) (by kernel_rfl) (fun k hk => by subst hk; exact blkLt HS17.out.cu) ?_
  refine flo_seg 1 rfl ?_
  simp only [List.take_succ_cons, List.take_zero, List.drop_succ_cons, List.drop_zero]
  repeat (go_big_quiet_step (fail))
  refine wpQuiet_nil ?_
  refine flo_eff rfl rfl rfl rfl (fun K hK => ?_)
  go_wp2_with ((go_at_call 84; refine (put8 _ _ _ _ 19 (by decide) (by decide) _).mono ?_; rintro e w1 ⟨rfl, hg⟩; replace HG := HG.trans hg; (try clear hc); have hc := HG.cell; (try simp only [World.size_alloc] at hc)))
  refine ⟨by (first | (refine Gr.mdh ?_ _; (repeat (first | (with_reducible exact Gr.refl _) | assumption | (with_reducible apply Gr.from_drew) | (with_reducible apply Gr.alloc) | (with_reducible apply Gr.drew) | (with_reducible refine Gr.trans ?_ (by assumption)) | (with_reducible refine Gr.setCell ?_ (by omega) _))); done) | (repeat (first | (with_reducible exact Mdh.refl _ _) | (with_reducible refine Mdh.setCell ?_ (by simp) _) | (with_reducible refine Mdh.setNew ?_ (by simp) _) | (with_reducible apply Mdh.alloc) | (with_reducible apply Mdh.from_drew) | (with_reducible apply Mdh.drew) | (with_reducible refine Mdh.gr ?_ (by assumption))))), ?_⟩
  refine flo_seg 16 rfl ?_
  simp only [List.take_succ_cons, List.take_zero, List.drop_succ_cons, List.drop_zero]
  repeat (go_big_quiet_step (fail))
  refine wpQuiet_nil ?_
  refine flo_eff rfl rfl rfl rfl (fun K hK => ?_)
  go_wp2_with ((go_at_call 38; refine (adv_sw (HS17.out.gr (Gr.of_drew HG))).mono ?_; rintro e w18 ⟨rfl, hs, hm⟩; rw [cu_a2]; rw [cu_y2] at hs; have HS18 := Lib.hid hs; have HM18 := Lib.hid hm; clear hs hm))
  refine ⟨by exact HM18.out.mono (fun k hk => .inl hk), ?_⟩
  refine flo_seg 5 rfl ?_
  simp only [List.take_succ_cons, List.take_zero, List.drop_succ_cons, List.drop_zero]
  repeat (go_big_quiet_step (fail))
  refine wpQuiet_nil ?_
  refine flo_eff rfl rfl rfl rfl (fun K hK => ?_)
  go_wp2_with ((go_at_call 38; refine (adv_sw HS18.out).mono ?_; rintro e w19 ⟨rfl, hs, hm⟩; rw [cu_a3]; rw [cu_y3] at hs; have HS19 := Lib.hid hs; have HM19 := Lib.hid hm; clear hs hm))
  refine ⟨by exact HM19.out.mono (fun k hk => .inl hk), ?_⟩
  refine flo_seg 4 rfl ?_
  simp only [List.take_succ_cons, List.take_zero, List.drop_succ_cons, List.drop_zero]
  repeat (go_big_quiet_step (fail))
  refine wpQuiet_nil ?_
  refine flo_eff rfl rfl rfl rfl (fun K hK => ?_)
  go_wp2_with ((go_at_call 52; refine (cuOffset HS19.out.cu).mono ?_; rintro e w20 ⟨rfl, rfl⟩))
  refine ⟨by exact Mdh.refl _ _, ?_⟩
  refine flo_seg 2 rfl ?_
  simp only [List.take_succ_cons, List.take_zero, List.drop_succ_cons, List.drop_zero]
  repeat (go_big_quiet_step (fail))
  refine wpQuiet_nil ?_
  refine flo_nil ?_
  clear HS18 HM18 HM19 HS17 HS16 HS15 d9 k2 HG hne
  go_wp2_with fail
  refine (stop_sw HS19.out).mono ?_
  rintro e w21 ⟨rfl, hs, hm⟩
  have HS21 := Lib.hid hs
  clear hs hm
  go_wp2_with fail
  refine (cuSlot HS21.out.cu).mono ?_
  rintro e w22 ⟨rfl, hg⟩
  have HS22 := Lib.hid (HS21.out.gr hg)
  clear hg
  go_wp2_with fail
  refine (cuOffset HS22.out.cu).mono ?_
  rintro e w23 ⟨rfl, rfl⟩
  go_wp2
  go_ret
  exact ⟨rfl, HS22.out.g⟩
end Go.Proofs.YtmdfickejpeofaaGreat
