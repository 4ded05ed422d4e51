/- keydir: valid, Find, the iterator of Live. -/
import Derived.Test.YtiidkehcfoajeaaBd12
import Derived.Test.YtiidkehcfoajeaaBd14
import Derived.Test.YtiidkehcfoajeaaBd11
set_option linter.unusedVariables false
set_option linter.unusedSimpArgs false
namespace Go.Proofs.Ytiidkehcfoajeaa
open Go.RowKit Go.Shelf
attribute [local go_sem] OvM cell_ovm obj_ovm
attribute [local go_sem] Oper.semAt_some

def findE (X : IX) (k : ByteArray) : Option En := match X.of k with | [] => none | e :: _ => if e.del = true then none else some e
def codeX (X : IX) : Int := if X.slots = [] then 1 else 0
def findV (X : IX) (k : ByteArray) : Value := .tuple #[enV ((findE X k).getD zE), .bool (findE X k).isSome, .int .i64 (codeX X)]
def lvF (X : IX) (l : List ByteArray) : List (ByteArray × En) := l.filterMap fun k => (findE X k).map fun e => (k, e)
def liveL (X : IX) : List (ByteArray × En) := lvF X X.ks
theorem lvF_none {X : IX} {l : List ByteArray} {k : ByteArray} (h : findE X k = none) : lvF X (l ++ [k]) = lvF X l := by simp [lvF, h]
theorem lvF_some {X : IX} {l : List ByteArray} {k : ByteArray} {e : En} (h : findE X k = some e) : lvF X (l ++ [k]) = lvF X l ++ [(k, e)] := by simp [lvF, h]
theorem lvF_pre {X : IX} {l m : List ByteArray} (h : l <+: m) : lvF X l <+: lvF X m := by
  obtain ⟨t, rfl⟩ := h
  exact ⟨lvF X t, by simp [lvF]⟩
theorem of_noslots {X : IX} (h : X.Wf) (h0 : X.slots = []) (k : ByteArray) : X.of k = [] := by unfold IX.of; rw [h.z h0]; rfl
set_option maxRecDepth 40000 in
theorem valid_any {w : World} {p : Option Addr} {X : IX} {S : Nat → Prop} (h : IXP w p X S) : Calls Try.prog 80 #[.pointer p] w fun e w' => e = .returned (.bool (decide (X.slots ≠ []))) ∧ w = w' := by
  have HS := Lib.hid (Slots_any h)
  obtain ⟨n, hn⟩ : ∃ n, n = X.slots.length := ⟨_, rfl⟩
  have HB : Hid (decide (X.slots ≠ []) = decide (0 < n)) := Lib.hid (by rw [hn, decide_eq_decide]; exact ⟨fun h => List.length_pos_iff.2 h, fun h => List.length_pos_iff.1 h⟩)
  rw [← hn] at HS
  clear h hn
  by_cases h0 : 0 < n
  · have h0' : (0 : Int) < n := by omega
    have HR : Hid (decide (X.slots ≠ []) = true) := Lib.hid (by rw [HB.out]; exact decide_eq_true h0)
    go_enter Try.func80, Try.ntmps80
    go_wp2_with (go_at_call 67; refine Calls.mono HS.out ?_; rintro e w1 ⟨rfl, rfl⟩)
    go_ret
    exact ⟨ret_bool HR.out.symm, rfl⟩
  · have h0' : ¬ (0 : Int) < n := by omega
    have HR : Hid (decide (X.slots ≠ []) = false) := Lib.hid (by rw [HB.out]; exact decide_eq_false h0)
    go_enter Try.func80, Try.ntmps80
    go_wp2_with (go_at_call 67; refine Calls.mono HS.out ?_; rintro e w1 ⟨rfl, rfl⟩)
    go_ret
    exact ⟨ret_bool HR.out.symm, rfl⟩
set_option maxRecDepth 40000 in
set_option maxHeartbeats 2000000 in
theorem Find_any {w : World} {p : Option Addr} {X : IX} {S : Nat → Prop} (h : IXP w p X S) (k : ByteArray) : Calls Try.prog 16 #[.pointer p, .string k] w fun e w' => e = .returned (findV X k) ∧ Gr w w' := by
  have H := Lib.hid h
  have HV : Hid (findV X k = .tuple #[enV ((findE X k).getD zE), .bool (findE X k).isSome, .int .i64 (codeX X)]) := Lib.hid rfl
  have HE : Hid (findE X k = match X.of k with | [] => none | e :: _ => if e.del = true then none else some e) := Lib.hid rfl
  have HNE := Lib.hid (of_noslots h.ok)
  clear h
  go_enter Try.func16, Try.ntmps16
  by_cases h0 : X.slots = []
  · have HR : Hid (findV X k = .tuple #[enV zE, .bool false, .int .i64 1]) := Lib.hid (by rw [HV.out, HE.out, HNE.out h0 k, show codeX X = 1 from if_pos h0]; rfl)
    have HD : Hid (decide (X.slots ≠ []) = false) := Lib.hid (decide_eq_false (fun h => h h0))
    clear h0
    go_wp2_with (go_at_call 80; refine (valid_any (H.out.gr ((Gr.refl _).alloc _))).mono ?_; rintro e w1 ⟨rfl, rfl⟩; rw [HD.out])
    refine bodyPost_ret (v := .tuple #[enV zE, .bool false, .int .i64 1]) ?_ rfl ⟨by rw [HR.out], by (repeat (first | (with_reducible exact Gr.refl _) | assumption | (with_reducible apply Gr.from_drew) | (with_reducible apply Gr.alloc) | (with_reducible apply Gr.drew) | (with_reducible refine Gr.trans ?_ (by assumption)) | (with_reducible refine Gr.setCell ?_ (by omega) _)))⟩
    simp [results, Try.results16, go_sem, enV, zE]
  · have HC : Hid (codeX X = 0) := Lib.hid (if_neg h0)
    have HD : Hid (decide (X.slots ≠ []) = true) := Lib.hid (decide_eq_true h0)
    clear h0
    go_wp2_with (first
      | (go_at_call 80; refine (valid_any (H.out.gr ((Gr.refl _).alloc _))).mono ?_; rintro e w1 ⟨rfl, rfl⟩; rw [HD.out])
      | fail)
    refine (Newest_any (H.out.gr ((Gr.refl _).alloc _)) k).mono ?_
    rintro e w2 ⟨rfl, hg⟩
    obtain ⟨b4, hb4⟩ : ∃ q, q = w.heap.size := ⟨_, rfl⟩
    have H2 : Hid (Gr w w2 ∧ w2.heap[b4]? = some (.cells #[.int .i64 0, .string ⟨#[]⟩, .bool false, .int .i64 0, .int .i64 0, .int .i64 0] 23) ∧ w.heap.size ≤ b4) := Lib.hid ⟨((Gr.refl w).alloc _).trans hg, by rw [hb4]; exact hg.blk (blkNew w _), by omega⟩
    obtain ⟨c4, f4⟩ := cellsOf H2.out.2.1
    have l4 := blkLt H2.out.2.1
    rw [← hb4]
    clear hg hb4
    cases ho : X.of k with
    | nil =>
      have HR : Hid (findV X k = .tuple #[enV zE, .bool false, .int .i64 0]) := Lib.hid (by rw [HV.out, HE.out, ho, HC.out]; rfl)
      clear ho
      simp only [newV, enV, zE]
      go_wp2_with fail
      refine bodyPost_ret (v := .tuple #[enV zE, .bool false, .int .i64 0]) ?_ rfl ⟨by rw [HR.out], ?_⟩
      · have h1 := blk6 (y0 := .int .i64 0) (y1 := .string ⟨#[]⟩) (y2 := .bool false) (y3 := .int .i64 0) (y4 := .int .i64 0) (y5 := .int .i64 0) H2.out.2.1
        have h2 := blkOld (o' := .cells #[.int .i64 0, .string ⟨#[]⟩, .bool false, .int .i64 0, .int .i64 0, .int .i64 0] 23) h1
        have d4 := (cellsOf h2).1
        simp [results, Try.results16, go_sem, d4, enV, zE]
      · have hn := H2.out.2.2
        exact (((((((H2.out.1.setCell (p := ⟨b4, 0, none⟩) hn _).setCell (p := ⟨b4, 1, none⟩) hn _).setCell (p := ⟨b4, 2, none⟩) hn _).setCell (p := ⟨b4, 3, none⟩) hn _).setCell (p := ⟨b4, 4, none⟩) hn _).setCell (p := ⟨b4, 5, none⟩) hn _).alloc _)
    | cons x l =>
      simp only [newV, enV]
      cases hd : x.del with
      | true =>
        have HR : Hid (findV X k = .tuple #[enV zE, .bool false, .int .i64 0]) := Lib.hid (by rw [HV.out, HE.out, ho, HC.out]; simp [hd])
        clear ho hd
        go_wp2_with fail
        refine bodyPost_ret (v := .tuple #[enV zE, .bool false, .int .i64 0]) ?_ rfl ⟨by rw [HR.out], ?_⟩
        · have h1 := blk6 (y0 := .int .i64 0) (y1 := .string ⟨#[]⟩) (y2 := .bool false) (y3 := .int .i64 0) (y4 := .int .i64 0) (y5 := .int .i64 0) H2.out.2.1
          have h2 := blkOld (o' := .cells #[.int .i64 x.seq, .string x.key, .bool true, .int .i64 x.slot, .int .i64 x.off, .int .i64 x.size] 23) h1
          have d4 := (cellsOf h2).1
          simp [results, Try.results16, go_sem, d4, enV, zE]
        · have hn := H2.out.2.2
          exact (((((((H2.out.1.setCell (p := ⟨b4, 0, none⟩) hn _).setCell (p := ⟨b4, 1, none⟩) hn _).setCell (p := ⟨b4, 2, none⟩) hn _).setCell (p := ⟨b4, 3, none⟩) hn _).setCell (p := ⟨b4, 4, none⟩) hn _).setCell (p := ⟨b4, 5, none⟩) hn _).alloc _)
      | false =>
        have HR : Hid (findV X k = .tuple #[enV x, .bool true, .int .i64 0]) := Lib.hid (by rw [HV.out, HE.out, ho, HC.out]; simp [hd])
        have HDX := Lib.hid hd
        clear ho hd
        go_wp2_with fail
        refine bodyPost_ret (v := .tuple #[enV x, .bool true, .int .i64 0]) ?_ rfl ⟨by rw [HR.out], ?_⟩
        · have h1 := blk6 (y0 := .int .i64 x.seq) (y1 := .string x.key) (y2 := .bool false) (y3 := .int .i64 x.slot) (y4 := .int .i64 x.off) (y5 := .int .i64 x.size) H2.out.2.1
          have h2 := blkOld (o' := .cells #[.int .i64 x.seq, .string x.key, .bool false, .int .i64 x.slot, .int .i64 x.off, .int .i64 x.size] 23) h1
          have d4 := (cellsOf h2).1
          simp [results, Try.results16, go_sem, d4, enV, HDX.out]
        · have hn := H2.out.2.2
          exact (((((((H2.out.1.setCell (p := ⟨b4, 0, none⟩) hn _).setCell (p := ⟨b4, 1, none⟩) hn _).setCell (p := ⟨b4, 2, none⟩) hn _).setCell (p := ⟨b4, 3, none⟩) hn _).setCell (p := ⟨b4, 4, none⟩) hn _).setCell (p := ⟨b4, 5, none⟩) hn _).alloc _)
/-- Blocks that stay as they were, beside an iterator's own, which are new. -/
structure KeptA (w0 : World) (A : Nat → Prop) (n : Nat) (Z : Nat → Prop) (X : World) : Prop where
  m : Mdh (fun k => ¬ A k) w0 X
  z : ∀ k, Z k → n ≤ k
  s : n ≤ X.heap.size
theorem KeptA.apart {β : Type} (w0 : World) (A : Nat → Prop) {n : Nat} (hA : ∀ k, A k → k < n) : Apart (fun Z (_ : β) X => KeptA w0 A n Z X) := fun Z Z' _ X Y h hm hz =>
  ⟨h.m.trans (hm.mono (fun k hk ha => by have := h.z k hk; have := hA k ha; omega)), fun k hk => (hz k hk).elim (h.z k) (fun y => Nat.le_trans h.s y.1), Nat.le_trans h.s hm.size⟩
def encKE (x : ByteArray × En) : Array Value := #[.string x.1, enV x.2]
set_option maxRecDepth 40000 in
set_option maxHeartbeats 4000000 in
theorem SeqLive {w : World} {p : Option Addr} {X : IX} {S : Nat → Prop} (h : IXP w p X S) (bb : Nat) (hbb : w.cell? ⟨bb, 0, none⟩ = some (.pointer p)) :
    SeqZ Fence.wide 2 Try.prog 126 #[.pointer (some ⟨bb, 0, none⟩)] encKE (fun q => q = bb ∨ S q) (fun xs => xs = liveL X) (fun pre => pre <+: liveL X) w := by
  intro l J Jx W hW hJ hJx hY h0
  have hbW : W.cell? ⟨bb, 0, none⟩ = some (.pointer p) := hW.keep hbb (fun h => h (.inl rfl))
  have lbb : bb < W.heap.size := World.block_lt_of_cell? W ⟨bb, 0, none⟩ hbW
  have HI : Hid (IXP W p X S) := Lib.hid (h.mdh hW (fun q hq hn => hn (.inr hq)))
  have HBB := Lib.hid hbW
  have HLB := Lib.hid lbb
  have HY := Lib.hid hY
  have H0 := Lib.hid h0
  have HJ := Lib.hid hJ
  have HJx := Lib.hid hJx
  have HLV : Hid (liveL X = lvF X X.ks) := Lib.hid rfl
  clear hY h0 hW h hbb hJ hJx
  refine callsIn_wide.2 (calls_of_wp_marks Try.func126 rfl ?_)
  simp only [Try.ntmps126, List.size_toArray, List.length_cons, List.length_nil, Nat.reduceAdd, Nat.reduceSub, Array.replicate_succ, Array.replicate_zero, List.push_toArray, List.append_toArray, List.nil_append, List.cons_append]
  go_wp2_with fail
  obtain ⟨b0, hb0⟩ : ∃ q, q = W.heap.size := ⟨_, rfl⟩
  refine (Keys_any p _).mono ?_
  rintro e w2 ⟨b2, rfl, c2, hlt, hg⟩
  have HG2 := Lib.hid (((Gr.refl W).alloc (.cells #[.func (.yield l) #[] #[]] 42)).trans hg)
  have HBY : Hid (w2.heap[b0]? = some (.cells #[.func (.yield l) #[] #[]] 42)) := Lib.hid (by rw [hb0]; exact hg.blk (blkNew W _))
  have HSQ := Lib.hid (SeqKeysP (HI.out.gr HG2.out) b2 c2)
  have HL2 : Hid (b0 < b2 ∧ b2 < w2.heap.size ∧ b0 = W.heap.size) := Lib.hid (by
    have l2 := World.block_lt_of_cell? w2 ⟨b2, 0, none⟩ c2
    rw [World.size_alloc] at hlt
    exact ⟨by omega, l2, hb0⟩)
  have HFF : Hid (∀ k, (k = b2 ∨ S k) → k < w2.heap.size) := Lib.hid (fun k hk => hk.elim (fun e => by rw [e]; exact HL2.out.2.1) (fun e => by have := HI.out.lt k e; have := HL2.out; omega))
  have HAA : Hid (∀ k, (k = bb ∨ S k) → k < w2.heap.size) := Lib.hid (fun k hk => hk.elim (fun e => by rw [e]; have := HLB.out; have := HL2.out; omega) (fun e => by have := HI.out.lt k e; have := HL2.out; omega))
  rw [← hb0]
  clear hg hlt c2 hb0 hbW lbb
  go_wp2_with fail
  apply wp_rangeFunc_zb (gf := 100) (lb := #[.pointer (some ⟨b2, 0, none⟩)]) rfl (enters_of Try.func100 (by kernel_rfl) rfl) HSQ.out (Mdh.refl _ w2) HFF.out (fun _ => rfl)
    (fun Z pre X' => plusS (fun q => q = b0 ∨ q = b2) J Z (lvF X pre) X' ∧ (X'.heap[b0]? = some (.cells #[.func (.yield l) #[] #[]] 42) ∧ ¬ Z b0) ∧ KeptA W (fun k => k = bb ∨ S k) w2.heap.size Z X')
    (fun _ _ _ => False)
    (fun Z pre X' => plusS (fun q => q = b0 ∨ q = b2) Jx Z (lvF X pre) X')
    (((plusS_apart _ HJ.out).map _).and ((Apart.block b0 (fun _ => _)).and (KeptA.apart _ _ HAA.out))) apart_no ((plusS_apart _ HJx.out).map _)
    ⟨HJ.out _ _ _ _ _ H0.out (HG2.out.mdh _) (fun k hk => hk.elim .inl (fun e => .inr (by have := HL2.out; omega))), ⟨HBY.out, fun h => h⟩, HG2.out.mdh _, fun k hk => hk.elim, Nat.le_refl _⟩
    _ ?assign ?body ?hend ?hret
  case assign =>
    intro l' x X' K hK
    dsimp only [encK]
    gi_wp2
    exact hK
  case body =>
    intro l' Z pre x X' hI hsp
    obtain ⟨hj, ⟨hby, hzy⟩, hk⟩ := hI
    have HK := Lib.hid hk
    have HBY' := Lib.hid hby
    have HJI := Lib.hid hj
    have HZY := Lib.hid hzy
    have HIX : Hid (IXP X' p X S) := Lib.hid (HI.out.mdh hk.m (fun q hq hn => hn (.inr hq)))
    have hbX : X'.cell? ⟨bb, 0, none⟩ = some (.pointer p) := hk.m.keep HBB.out (fun h => h (.inl rfl))
    have HSP := Lib.hid hsp
    clear hj hby hzy hk hsp
    gi_wp2_with fail
    refine ⟨trivial, (CallsIn.inRound l' (callsIn_wide.2 (Find_any HIX.out x))).mono ?_⟩
    rintro e w9 ⟨rfl, hg9⟩
    cases hfe : findE X x with
    | none =>
      have HV : Hid (findV X x = .tuple #[enV zE, .bool false, .int .i64 (codeX X)]) := Lib.hid (by unfold findV; rw [hfe]; rfl)
      have HN := Lib.hid (lvF_none (l := pre) hfe)
      have HG9 := Lib.hid (hg9.alloc (.cells #[.int .i64 0, .string ⟨#[]⟩, .bool false, .int .i64 0, .int .i64 0, .int .i64 0] 23))
      rw [HV.out]
      simp only [enV, zE]
      clear hfe hg9 hbX
      gi_wp2_with fail
      refine ⟨fun _ h => (by cases h), ?_⟩
      gi_wp2_with fail
      refine ⟨HG9.out.mdh _, ?_, ⟨HG9.out.blk HBY'.out, HZY.out⟩, HK.out.m.trans (HG9.out.mdh _), HK.out.z, Nat.le_trans HK.out.s HG9.out.sz⟩
      show plusS _ _ _ _ _
      rw [HN.out]
      exact HJ.out _ _ _ _ _ HJI.out (HG9.out.mdh _) (fun k hk => .inl hk)
    | some y =>
      have HV : Hid (findV X x = .tuple #[enV y, .bool true, .int .i64 (codeX X)]) := Lib.hid (by unfold findV; rw [hfe]; rfl)
      have HN := Lib.hid (lvF_some (l := pre) hfe)
      have HG9 := Lib.hid (hg9.alloc (.cells #[.int .i64 y.seq, .string y.key, .bool y.del, .int .i64 y.slot, .int .i64 y.off, .int .i64 y.size] 23))
      have hpf : lvF X pre ++ [(x, y)] <+: liveL X := by rw [← HN.out, HLV.out]; exact lvF_pre HSP.out
      obtain ⟨fn, tmps, assign, body, hy, hR⟩ := yield_any 0 (HY.out _ _ (x, y) _ (HJ.out _ _ _ _ _ HJI.out (HG9.out.mdh _) (fun k hk => .inl hk)) hpf)
      have cy := (cellsOf (hg9.blk HBY'.out)).1
      have ly := blkLt (hg9.blk HBY'.out)
      rw [HV.out]
      simp only [encKE, enV] at hy
      simp only [enV]
      clear hfe hg9 hbX hpf
      gi_wp2_with fail
      refine hR.mono ?_
      rintro e W5 (⟨rfl, hj5, hm5⟩ | ⟨rfl, hjx5, hm5⟩)
      · have HJ5 := Lib.hid hj5
        have HM5 := Lib.hid hm5
        clear hj5 hm5 hR hy
        gi_wp2_with fail
        refine ⟨(HG9.out.mdh _).trans (HM5.out.mono (fun k hk => ⟨fun h => h.elim (fun e => hk.2 (.inr (.inr e))) (fun e => hk.1 (.inr e)), fun h => hk.2 (.inl h)⟩)), ?_, ⟨HM5.out.blk (HG9.out.blk HBY'.out) (fun h => h.2 (.inr (.inl rfl))), HZY.out⟩, (HK.out.m.trans (HG9.out.mdh _)).trans (HM5.out.mono (fun k hk => hk.1)), HK.out.z, Nat.le_trans HK.out.s (Nat.le_trans HG9.out.sz HM5.out.size)⟩
        show plusS _ _ _ _ _
        rw [HN.out]; exact HJ5.out
      · have HJ5 := Lib.hid hjx5
        have HM5 := Lib.hid hm5
        clear hjx5 hm5 hR hy
        gi_wp2_with fail
        refine ⟨(HG9.out.mdh _).trans (HM5.out.mono (fun k hk h => hk (.inl h))), ?_⟩
        show plusS _ _ _ _ _
        rw [HN.out]; exact HJ5.out
  case hend =>
    intro Z D xs W' hD hZD hcase hdef
    obtain ⟨hxs, hj, _⟩ := hcase.elim (fun h => h) (fun h => h.2.elim)
    dsimp only
    go_wp2_with fail
    refine retM1 (D := D) rfl hdef (results_none rfl _ _ _) ⟨⟨_, rfl⟩, .inl ⟨_, _, ?_, HJ.out _ _ _ _ _ hj ((Mdh.refl _ W').putObj (.inl hZD) _) (fun k hk => .inl hk)⟩⟩
    show lvF X xs = liveL X
    rw [show xs = X.ks from hxs, HLV.out]
  case hret =>
    intro Z D pre W' hD hZD hsp hj hdef
    dsimp only
    go_wp2_with fail
    refine retM1 (D := D) rfl hdef (results_none rfl _ _ _) ⟨⟨_, rfl⟩, .inr ⟨_, _, ?_, HJx.out _ _ _ _ _ hj ((Mdh.refl _ W').putObj (.inl hZD) _) (fun k hk => .inl hk)⟩⟩
    show lvF X pre <+: liveL X
    rw [HLV.out]
    exact lvF_pre hsp
set_option maxRecDepth 40000 in
theorem Live_any (p : Option Addr) (w : World) : Calls Try.prog 85 #[.pointer p] w fun e w' =>
    ∃ bb, e = .returned (.func (.func 126) #[] #[.pointer (some ⟨bb, 0, none⟩)]) ∧ w'.cell? ⟨bb, 0, none⟩ = some (.pointer p) ∧ w.heap.size ≤ bb ∧ Gr w w' := by
  go_enter Try.func85, Try.ntmps85
  go_wp2
  go_ret
  exact ⟨_, rfl, by simp [go_sem], Nat.le_refl _, by (repeat (first | (with_reducible exact Gr.refl _) | assumption | (with_reducible apply Gr.from_drew) | (with_reducible apply Gr.alloc) | (with_reducible apply Gr.drew) | (with_reducible refine Gr.trans ?_ (by assumption)) | (with_reducible refine Gr.setCell ?_ (by omega) _)))⟩
end Go.Proofs.Ytiidkehcfoajeaa

/- keydir: sum, Count, Cost. -/
set_option linter.unusedVariables false
set_option linter.unusedSimpArgs false
namespace Go.Proofs.Ytiidkehcfoajeaa
open Go.RowKit Go.Shelf
attribute [local go_sem] OvM cell_ovm obj_ovm
attribute [local go_sem] Oper.semAt_some

structure NumC (g : Nat) (f : En → Int) : Prop where
  enter : ∀ args w, (callFunc g args).run Try.prog w = .ok (.enter g args) w
  run : ∀ x w, Calls Try.prog g #[enV x] w fun e w' => e = .returned (.int .i64 (f x)) ∧ Gr w w'
  b : ∀ x, validE x = true → 0 ≤ f x ∧ f x ≤ 8192
set_option maxRecDepth 40000 in
theorem numCount : NumC 82 (fun _ => 1) := ⟨enters_of Try.func82 (by kernel_rfl) rfl, fun x w => by
  obtain ⟨x1, x2, x3, x4, x5, x6⟩ := x
  simp only [enV]
  go_enter Try.func82, Try.ntmps82
  go_wp2
  go_ret
  exact ⟨rfl, by (repeat (first | (with_reducible exact Gr.refl _) | assumption | (with_reducible apply Gr.from_drew) | (with_reducible apply Gr.alloc) | (with_reducible apply Gr.drew) | (with_reducible refine Gr.trans ?_ (by assumption)) | (with_reducible refine Gr.setCell ?_ (by omega) _)))⟩, fun _ _ => ⟨by omega, by omega⟩⟩
set_option maxRecDepth 40000 in
theorem numCost : NumC 83 (fun e => e.size) := ⟨enters_of Try.func83 (by kernel_rfl) rfl, fun x w => by
  obtain ⟨x1, x2, x3, x4, x5, x6⟩ := x
  simp only [enV]
  go_enter Try.func83, Try.ntmps83
  go_wp2
  go_ret
  exact ⟨rfl, by (repeat (first | (with_reducible exact Gr.refl _) | assumption | (with_reducible apply Gr.from_drew) | (with_reducible apply Gr.alloc) | (with_reducible apply Gr.drew) | (with_reducible refine Gr.trans ?_ (by assumption)) | (with_reducible refine Gr.setCell ?_ (by omega) _)))⟩, fun x hv => by have := (valid_iff x).1 hv; exact ⟨by omega, by omega⟩⟩
def sumF (f : En → Int) (l : List (ByteArray × En)) : Int := l.foldl (fun a x => a + f x.2) 0
theorem sumF_snoc (f : En → Int) (l : List (ByteArray × En)) (x : ByteArray × En) : sumF f (l ++ [x]) = sumF f l + f x.2 := by simp [sumF]
theorem sumF_ok' (f : En → Int) : ∀ (l : List (ByteArray × En)) (a : Int), (∀ x ∈ l, 0 ≤ f x.2 ∧ f x.2 ≤ 8192) → a ≤ l.foldl (fun a x => a + f x.2) a ∧ l.foldl (fun a x => a + f x.2) a ≤ a + 8192 * l.length
  | [], a, _ => by simp
  | x :: l, a, h => by
    have h1 := h x (by simp)
    have h2 := sumF_ok' f l (a + f x.2) (fun y hy => h y (List.mem_cons_of_mem _ hy))
    simp only [List.foldl_cons, List.length_cons, Int.natCast_add]
    omega
theorem sumF_ok (f : En → Int) (l : List (ByteArray × En)) (h : ∀ x ∈ l, 0 ≤ f x.2 ∧ f x.2 ≤ 8192) : 0 ≤ sumF f l ∧ sumF f l ≤ 8192 * l.length := by
  have := sumF_ok' f l 0 h
  unfold sumF
  omega
theorem findE_mem {X : IX} {k : ByteArray} {e : En} (h : findE X k = some e) : e ∈ X.of k := by
  unfold findE at h
  split at h
  · cases h
  · rename_i y t hy
    split at h
    · cases h
    · cases h; rw [hy]; simp
theorem live_valid {X : IX} (h : X.Wf) : ∀ x ∈ liveL X, validE x.2 = true := by
  intro x hx
  unfold liveL lvF at hx
  obtain ⟨k, _, hk⟩ := List.mem_filterMap.1 hx
  cases hf : findE X k with
  | none => rw [hf] at hk; cases hk
  | some e =>
    rw [hf] at hk
    simp only [Option.map_some, Option.some.injEq] at hk
    subst hk
    exact (h.valid ((h.of_mem k e).1 (findE_mem hf)).1).1
theorem live_len {X : IX} (h : X.Wf) : (liveL X).length ≤ 16384 := by
  refine Nat.le_trans (List.length_filterMap_le _ _) ?_
  have := h.keys_le
  unfold IX.ks
  simpa using this
def sumR (X : IX) (f : En → Int) : Value := if X.slots = [] then .tuple #[.int .i64 0, .int .i64 1] else .tuple #[.int .i64 (sumF f (liveL X)), .int .i64 0]
set_option maxRecDepth 40000 in
set_option maxHeartbeats 4000000 in
theorem Sum_any {w : World} {p : Option Addr} {X : IX} {S : Nat → Prop} (h : IXP w p X S) {g : Nat} {f : En → Int} (hp : NumC g f) :
    Calls Try.prog 81 #[.pointer p, .func (.func g) #[] #[]] w fun e w' => e = .returned (sumR X f) ∧ Gr w w' := by
  have H := Lib.hid h
  have HP := Lib.hid hp
  have heg := hp.enter
  have HLV := Lib.hid (live_valid h.ok)
  have HLL := Lib.hid (live_len h.ok)
  clear h hp
  refine calls_of_wp_marks Try.func81 rfl ?_
  simp only [Try.ntmps81, List.size_toArray, List.length_cons, List.length_nil, Nat.reduceAdd, Nat.reduceSub, Array.replicate_succ, Array.replicate_zero, List.push_toArray, List.append_toArray, List.nil_append, List.cons_append]
  go_wp2_with fail
  refine (valid_any (H.out.gr ((Gr.refl w).alloc _))).mono ?_
  rintro e w0 ⟨rfl, rfl⟩
  by_cases h0 : X.slots = []
  · have HS : Hid (sumR X f = .tuple #[.int .i64 0, .int .i64 1]) := Lib.hid (if_pos h0)
    rw [decide_eq_false (fun h => h h0)]
    clear h0
    go_wp2_with fail
    refine retM0 (v := .tuple #[.int .i64 0, .int .i64 1]) ?_ rfl ⟨by rw [HS.out], (Gr.refl w).alloc _⟩
    simp [results, Try.results81, go_sem]
  have HS : Hid (sumR X f = .tuple #[.int .i64 (sumF f (liveL X)), .int .i64 0]) := Lib.hid (if_neg h0)
  rw [decide_eq_true h0]
  clear h0
  go_wp2_with fail
  obtain ⟨b3, hb3⟩ : ∃ q, q = w.heap.size := ⟨_, rfl⟩
  obtain ⟨w0, hw0⟩ : ∃ y, y = (w.alloc (.cells #[.func (.func g) #[] #[]] 114)).alloc (.cells #[.int .i64 0] 3) := ⟨_, rfl⟩
  have HSW : Hid (SW w [blkA (b3 + 1) (.cells #[.int .i64 0] 3), blkA b3 (.cells #[.func (.func g) #[] #[]] 114)] w0) := Lib.hid (by
    have := ((SW.start w).alloc (.cells #[.func (.func g) #[] #[]] 114)).alloc (.cells #[.int .i64 0] 3)
    simp only [World.size_alloc] at this
    rw [hw0, hb3]
    exact this)
  rw [← hw0, ← hb3]
  clear hw0 hb3
  refine (Live_any p _).mono ?_
  rintro e' w1 ⟨bb, rfl, h1, h2, hg⟩
  have HS1 := Lib.hid (HSW.out.gr hg)
  have HI := Lib.hid (H.out.gr HS1.out.g)
  have HSEQ := Lib.hid (SeqLive HI.out bb h1)
  have HA : Hid (∀ q, (q = bb ∨ S q) → q < w1.heap.size) := Lib.hid (fun q hq => by
    have l1 := World.block_lt_of_cell? w1 ⟨bb, 0, none⟩ h1
    rcases hq with rfl | hq
    · exact l1
    · exact HI.out.lt q hq)
  have HZ : Hid (SWz w w1 (fun q => q = bb ∨ S q) [blkA (b3 + 1) (.cells #[.int .i64 0] 3), blkA b3 (.cells #[.func (.func g) #[] #[]] 114)] (fun _ => False) w1) := Lib.hid (SWz.start HS1.out (fun B hB k hk ha => by
    have l1 := HSW.out.s.lt hB k hk
    have l2 := HSW.out.n B hB k hk
    rcases ha with rfl | ha
    · omega
    · have := H.out.lt k ha; omega))
  clear h1 h2 hg
  go_wp2_with fail
  apply wp_rangeFunc_zx (gf := 126) (lb := #[.pointer (some ⟨bb, 0, none⟩)]) rfl (enters_of Try.func126 (by kernel_rfl) rfl) HSEQ.out (Mdh.refl _ w1) HA.out (fun _ => rfl)
    (fun Z pre X' => SWz w w1 (fun q => q = bb ∨ S q) [blkA (b3 + 1) (.cells #[.int .i64 (sumF f pre)] 3), blkA b3 (.cells #[.func (.func g) #[] #[]] 114)] Z X')
    (fun _ _ _ => False) (fun _ _ _ => False)
    (SWz.apart HS1.out.g.sz (fun pre => [blkA (b3 + 1) (.cells #[.int .i64 (sumF f pre)] 3), blkA b3 (.cells #[.func (.func g) #[] #[]] 114)])) apart_no apart_no
    HZ.out (fun Z pre X' h => h.frm HS1.out.g) (fun x => .cells #[.int .i64 x.2.seq, .string x.2.key, .bool x.2.del, .int .i64 x.2.slot, .int .i64 x.2.off, .int .i64 x.2.size] 23)
    _ ?assign ?body ?hend ?hret
  case hret => intro _ _ _ _ _ _ _ h; exact h.elim
  case assign =>
    intro l x bx X' K hbx hK
    dsimp only [encKE, enV]
    gi_wp2
    rw [← hbx]
    exact hK
  case body =>
    intro l Z pre x bx X' hI hbx hx hzx hzl hlr hsp
    have HIZ := Lib.hid hI
    have HX := Lib.hid hx
    have HB3 := Lib.hid (show X'.heap[b3]? = _ from hI.s.get (i := 1) rfl)
    have HB6 := Lib.hid (show X'.heap[b3 + 1]? = _ from hI.s.get (i := 0) rfl)
    have HSN := Lib.hid (sumF_snoc f pre x)
    have hs := sumF_ok f pre (fun y hy => HP.out.b _ (HLV.out y (hsp.subset (List.mem_append_left _ hy))))
    have hf := HP.out.b _ (HLV.out x (hsp.subset (by simp)))
    have hpl : (pre.length : Int) ≤ 16384 := by have := hsp.length_le; have := HLL.out; simp at *; omega
    have HR := Lib.hid (HP.out.run x.2)
    obtain ⟨k, x⟩ := x
    simp only at HX HSN hf HR
    generalize sumF f pre = m at *
    generalize hfx : f x = v at *
    obtain ⟨hs1, hs2⟩ := hs
    obtain ⟨hf1, hf2⟩ := hf
    have hm : m ≤ 8192 * 16384 := by omega
    have dx := (cellsOf HX.out).1
    have d3 := (cellsOf HB3.out).1
    have d6 := (cellsOf HB6.out).1
    clear hI hbx hx hzx hzl hlr hsp hs2 hpl hfx
    gi_wp2_with fail
    refine wpIn_region_flt 5 (fun _ => trivial) rfl (fun _ => False) [] [] (by kernel_rfl) (by kernel_rfl) (by decide) (by kernel_rfl) (fun _ h => h.elim) ?_
    simp only [List.take_succ_cons, List.take_zero, List.drop_succ_cons, List.drop_zero]
    refine flo_seg 3 rfl ?_
    simp only [List.take_succ_cons, List.take_zero, List.drop_succ_cons, List.drop_zero]
    repeat (go_big_quiet_step (fail))
    refine wpQuiet_nil ?_
    refine flo_eff rfl rfl rfl rfl (fun K hK => ?_)
    gi_wp2_with ((refine ⟨trivial, (CallsIn.inRound l (callsIn_wide.2 (HR.out _))).mono ?_⟩; rintro e w9 ⟨rfl, hg9⟩; have HGD := Lib.hid hg9; have HG9 := Lib.hid (((Gr.refl X').drew).trans hg9); clear hg9))
    refine ⟨by first | exact HGD.out.mdh _ | exact HG9.out.mdh _, ?_⟩
    refine flo_seg 1 rfl ?_
    simp only [List.take_succ_cons, List.take_zero, List.drop_succ_cons, List.drop_zero]
    repeat (go_big_quiet_step (fail))
    refine wpQuiet_nil ?_
    refine flo_nil ?_
    obtain ⟨c6, f6⟩ := cellsOf (HG9.out.blk HB6.out)
    have HZ9 := Lib.hid (HIZ.out.gr HG9.out)
    have HB7 := Lib.hid (HZ9.out.1.box (i := 0) rfl HA.out ((Mdh.refl (fun k => k = b3 + 1) w9).setCell (p := ⟨b3 + 1, 0, none⟩) rfl (.int .i64 (m + v))) (blkSet (j := 0) (u := .int .i64 (m + v)) (HG9.out.blk HB6.out)))
    clear dx d3 d6
    gi_wp2_with fail
    refine ⟨HZ9.out.2.trans HB7.out.2, ?_⟩
    dsimp only
    rw [HSN.out]
    exact HB7.out.1
  case hend =>
    intro Z D xs W hD hZD hcase hdef
    obtain ⟨hxs, hI⟩ := hcase.elim (fun h => h) (fun h => h.2.elim)
    have hxs' : xs = liveL X := hxs
    subst hxs'
    have HIW := Lib.hid hI
    have hb6 : W.heap[b3 + 1]? = _ := hI.s.get (i := 0) rfl
    obtain ⟨d6, f6⟩ := cellsOf hb6
    have HD := Lib.hid (And.intro hD (And.intro hZD hdef))
    generalize sumF f (liveL X) = m at *
    clear hI hcase hxs hb6 hD hZD hdef
    dsimp only
    go_wp2_with fail
    refine retM1 (D := D) (v := .tuple #[.int .i64 m, .int .i64 0]) rfl HD.out.2.2 ?_ ⟨by rw [HS.out], HIW.out.s.g.putObj (by have := HS1.out.g.sz; have := HD.out.1; omega) _⟩
    simp [results, Try.results81, go_sem]
set_option maxRecDepth 40000 in
theorem Count_any {w : World} {p : Option Addr} {X : IX} {S : Nat → Prop} (h : IXP w p X S) : Calls Try.prog 17 #[.pointer p] w fun e w' => e = .returned (sumR X (fun _ => 1)) ∧ Gr w w' := by
  have H := Lib.hid h
  obtain ⟨r, hr⟩ : ∃ r, r = sumR X (fun _ => 1) := ⟨_, rfl⟩
  have hrr : ∃ m c : Int, r = .tuple #[.int .i64 m, .int .i64 c] := by rw [hr]; unfold sumR; split <;> exact ⟨_, _, rfl⟩
  obtain ⟨m, c, hmc⟩ := hrr
  have HS : Hid (sumR X (fun _ => 1) = .tuple #[.int .i64 m, .int .i64 c]) := Lib.hid (by rw [← hr, hmc])
  clear h hr hmc
  go_enter Try.func17, Try.ntmps17
  go_wp2_with fail
  refine (Sum_any H.out numCount).mono ?_
  rintro e w1 ⟨rfl, hg⟩
  rw [HS.out]
  have HG := Lib.hid hg
  clear hg
  go_wp2
  go_ret2
  exact ⟨by rw [HS.out] <;> rfl, HG.out⟩
set_option maxRecDepth 40000 in
theorem Cost_any {w : World} {p : Option Addr} {X : IX} {S : Nat → Prop} (h : IXP w p X S) : Calls Try.prog 18 #[.pointer p] w fun e w' => e = .returned (sumR X (fun e => e.size)) ∧ Gr w w' := by
  have H := Lib.hid h
  obtain ⟨r, hr⟩ : ∃ r, r = sumR X (fun e => e.size) := ⟨_, rfl⟩
  have hrr : ∃ m c : Int, r = .tuple #[.int .i64 m, .int .i64 c] := by rw [hr]; unfold sumR; split <;> exact ⟨_, _, rfl⟩
  obtain ⟨m, c, hmc⟩ := hrr
  have HS : Hid (sumR X (fun e => e.size) = .tuple #[.int .i64 m, .int .i64 c]) := Lib.hid (by rw [← hr, hmc])
  clear h hr hmc
  go_enter Try.func18, Try.ntmps18
  go_wp2_with fail
  refine (Sum_any H.out numCost).mono ?_
  rintro e w1 ⟨rfl, hg⟩
  rw [HS.out]
  have HG := Lib.hid hg
  clear hg
  go_wp2
  go_ret2
  exact ⟨by rw [HS.out] <;> rfl, HG.out⟩
end Go.Proofs.Ytiidkehcfoajeaa

/- keydir: Shadowed. -/
set_option linter.unusedVariables false
set_option linter.unusedSimpArgs false
namespace Go.Proofs.Ytiidkehcfoajeaa
open Go.RowKit Go.Shelf
attribute [local go_sem] OvM cell_ovm obj_ovm
attribute [local go_sem] Oper.semAt_some

abbrev boxK (e : En) : Obj := .cells #[.int .i64 e.seq, .string e.key, .bool e.del, .int .i64 e.slot, .int .i64 e.off, .int .i64 e.size] 23
def eqEn (e o : En) : Bool := decide (o = e)
def shadV (X : IX) (e : En) : Value :=
  if X.slots = [] then .tuple #[.bool false, .int .i64 1] else if (X.of e.key).any (eqEn e) = true then .tuple #[.bool (decide (e.seq < ((X.of e.key).headD zE).seq)), .int .i64 0] else .tuple #[.bool false, .int .i64 5]
set_option maxRecDepth 40000 in
set_option maxHeartbeats 8000000 in
theorem Shadowed_any {w : World} {p : Option Addr} {X : IX} {S : Nat → Prop} (h : IXP w p X S) (e : En) :
    Calls Try.prog 19 #[.pointer p, enV e] w fun r w' => r = .returned (shadV X e) ∧ Gr w w' := by
  have H := Lib.hid h
  have HV : Hid (shadV X e = if X.slots = [] then .tuple #[.bool false, .int .i64 1] else if (X.of e.key).any (eqEn e) = true then .tuple #[.bool (decide (e.seq < ((X.of e.key).headD zE).seq)), .int .i64 0] else .tuple #[.bool false, .int .i64 5]) := Lib.hid rfl
  clear h
  refine calls_of_wp_marks Try.func19 rfl ?_
  simp only [Try.ntmps19, enV, List.size_toArray, List.length_cons, List.length_nil, Nat.reduceAdd, Nat.reduceSub, Array.replicate_succ, Array.replicate_zero, List.push_toArray, List.append_toArray, List.nil_append, List.cons_append]
  go_wp2_with fail
  obtain ⟨b3, hb3⟩ : ∃ q, q = w.heap.size := ⟨_, rfl⟩
  obtain ⟨w0, hw0⟩ : ∃ y, y = ((w.alloc (boxK e)).alloc (.cells #[.bool false] 4)).alloc (.cells #[.int .i64 0] 31) := ⟨_, rfl⟩
  have HSW : Hid (SW w [blkA (b3 + 1 + 1) (.cells #[.int .i64 0] 31), blkA (b3 + 1) (.cells #[.bool false] 4), blkA b3 (boxK e)] w0) := Lib.hid (by
    have := (((SW.start w).alloc (boxK e)).alloc (.cells #[.bool false] 4)).alloc (.cells #[.int .i64 0] 31)
    simp only [World.size_alloc] at this
    rw [hw0, hb3]
    exact this)
  rw [← hw0, ← hb3]
  clear hw0 hb3
  refine (valid_any (H.out.gr HSW.out.g)).mono ?_
  rintro e' w1 ⟨rfl, rfl⟩
  by_cases h0 : X.slots = []
  · have HR : Hid (shadV X e = .tuple #[.bool false, .int .i64 1]) := Lib.hid (by rw [HV.out, if_pos h0])
    rw [decide_eq_false (fun h => h h0)]
    clear h0
    have k4 : w0.heap[b3 + 1]? = _ := HSW.out.get (i := 1) rfl
    have k5 : w0.heap[b3 + 1 + 1]? = _ := HSW.out.get (i := 0) rfl
    have K4 := Lib.hid k4
    have K5 := Lib.hid k5
    obtain ⟨d4, f4⟩ := cellsOf k4
    obtain ⟨d5, f5⟩ := cellsOf k5
    clear k4 k5
    go_wp2_with fail
    have hn := HSW.out.g.sz
    have h4 : ((w0.setCell ⟨b3 + 1, 0, none⟩ (.bool false)).setCell ⟨b3 + 1 + 1, 0, none⟩ (.int .i64 1)).heap[b3 + 1]? = some (.cells #[.bool false] 4) := blkSetO (blkSet (j := 0) K4.out) (by simp only; omega)
    have h5 : ((w0.setCell ⟨b3 + 1, 0, none⟩ (.bool false)).setCell ⟨b3 + 1 + 1, 0, none⟩ (.int .i64 1)).heap[b3 + 1 + 1]? = some (.cells #[.int .i64 1] 31) := blkSet (j := 0) (blkSetO K5.out (by simp only; omega))
    have e4 := (cellsOf h4).1
    have e5 := (cellsOf h5).1
    have hb : w.heap.size ≤ b3 := HSW.out.n _ (List.mem_cons_of_mem _ (List.mem_cons_of_mem _ (List.mem_cons_self ..))) b3 rfl
    refine retM0 (v := .tuple #[.bool false, .int .i64 1]) ?_ rfl ⟨by rw [HR.out], (HSW.out.g.setCell (p := ⟨b3 + 1, 0, none⟩) (by simp only; omega) _).setCell (p := ⟨b3 + 1 + 1, 0, none⟩) (by simp only; omega) _⟩
    simp [results, Try.results19, go_sem, e4, e5]
  have HR : Hid (shadV X e = if (X.of e.key).any (eqEn e) = true then .tuple #[.bool (decide (e.seq < ((X.of e.key).headD zE).seq)), .int .i64 0] else .tuple #[.bool false, .int .i64 5]) := Lib.hid (by rw [HV.out, if_neg h0])
  rw [decide_eq_true h0]
  clear h0
  have d3 := (cellsOf (show w0.heap[b3]? = _ from HSW.out.get (i := 2) rfl)).1
  go_wp2_with fail
  refine (Newest_any (H.out.gr HSW.out.g) _).mono ?_
  rintro e' w1 ⟨rfl, hg⟩
  obtain ⟨nw, hnw⟩ : ∃ nw, nw = (X.of e.key).headD zE := ⟨_, rfl⟩
  have HNV : Hid (newV (X.of e.key) = .tuple #[enV nw, .bool (!(X.of e.key).isEmpty)]) := Lib.hid (by rw [hnw]; cases X.of e.key <;> rfl)
  rw [← hnw] at HR
  rw [HNV.out]
  simp only [enV]
  clear hnw d3
  have HS1 := Lib.hid (HSW.out.gr hg)
  clear hg
  have d3 := (cellsOf (show w1.heap[b3]? = _ from HS1.out.get (i := 2) rfl)).1
  have l3 := blkLt (show w1.heap[b3]? = _ from HS1.out.get (i := 2) rfl)
  go_wp2_with fail
  obtain ⟨b6, hb6⟩ : ∃ q, q = w1.heap.size := ⟨_, rfl⟩
  obtain ⟨w2, hw2⟩ : ∃ y, y = w1.alloc (boxK nw) := ⟨_, rfl⟩
  have HS2 : Hid (SW w [blkA b6 (boxK nw), blkA (b3 + 1 + 1) (.cells #[.int .i64 0] 31), blkA (b3 + 1) (.cells #[.bool false] 4), blkA b3 (boxK e)] w2) := Lib.hid (by rw [hw2, hb6]; exact HS1.out.alloc _)
  rw [← hw2, ← hb6]
  clear hw2 hb6 d3 l3
  refine (Of_any p e.key _).mono ?_
  rintro e' w3 ⟨bb, bk, rfl, h1, h2, h3, h4, hg⟩
  have HS3 := Lib.hid (HS2.out.gr hg)
  have HI := Lib.hid (H.out.gr HS3.out.g)
  have HSEQ := Lib.hid (SeqOfP HI.out e.key bb bk h1 h2)
  have HA : Hid (∀ q, (q = bb ∨ q = bk ∨ S q) → q < w3.heap.size) := Lib.hid (fun q hq => by
    have l1 := World.block_lt_of_cell? w3 ⟨bb, 0, none⟩ h1
    have l2 := World.block_lt_of_cell? w3 ⟨bk, 0, none⟩ h2
    rcases hq with rfl | rfl | hq
    · exact l1
    · exact l2
    · exact HI.out.lt q hq)
  have HZ : Hid (SWz w w3 (fun q => q = bb ∨ q = bk ∨ S q) [blkA b6 (boxK nw), blkA (b3 + 1 + 1) (.cells #[.int .i64 0] 31), blkA (b3 + 1) (.cells #[.bool false] 4), blkA b3 (boxK e)] (fun _ => False) w3) := Lib.hid (SWz.start HS3.out (fun B hB k hk ha => by
    have l1 := HS2.out.s.lt hB k hk
    have l2 := HS2.out.n B hB k hk
    rcases ha with rfl | rfl | ha
    · omega
    · omega
    · have := H.out.lt k ha; omega))
  clear h1 h2 h3 h4 hg
  obtain ⟨gt, hgt⟩ : ∃ gt : Bool, gt = decide (e.seq < nw.seq) := ⟨_, rfl⟩
  have HGT := Lib.hid hgt
  rw [← hgt] at HR
  clear hgt
  go_wp2_with fail
  apply wp_rangeFunc_zx (gf := 94) (lb := #[.pointer (some ⟨bb, 0, none⟩), .pointer (some ⟨bk, 0, none⟩)]) rfl (enters_of Try.func94 (by kernel_rfl) rfl) HSEQ.out (Mdh.refl _ w3) HA.out (fun _ => rfl)
    (fun Z pre X' => pre.any (eqEn e) = false ∧ SWz w w3 (fun q => q = bb ∨ q = bk ∨ S q) [blkA b6 (boxK nw), blkA (b3 + 1 + 1) (.cells #[.int .i64 0] 31), blkA (b3 + 1) (.cells #[.bool false] 4), blkA b3 (boxK e)] Z X')
    (fun _ _ _ => False)
    (fun Z pre X' => pre.any (eqEn e) = true ∧ SWz w w3 (fun q => q = bb ∨ q = bk ∨ S q) [blkA b6 (boxK nw), blkA (b3 + 1 + 1) (.cells #[.int .i64 0] 31), blkA (b3 + 1) (.cells #[.bool gt] 4), blkA b3 (boxK e)] Z X')
    ((Apart.pure (fun pre : List En => pre.any (eqEn e) = false)).and (SWz.apart HS3.out.g.sz (fun _ : List En => [blkA b6 (boxK nw), blkA (b3 + 1 + 1) (.cells #[.int .i64 0] 31), blkA (b3 + 1) (.cells #[.bool false] 4), blkA b3 (boxK e)]))) apart_no
    ((Apart.pure (fun pre : List En => pre.any (eqEn e) = true)).and (SWz.apart HS3.out.g.sz (fun _ : List En => [blkA b6 (boxK nw), blkA (b3 + 1 + 1) (.cells #[.int .i64 0] 31), blkA (b3 + 1) (.cells #[.bool gt] 4), blkA b3 (boxK e)])))
    ⟨rfl, HZ.out⟩ (fun Z pre X' h => h.2.frm HS3.out.g) (fun x => .cells #[.int .i64 x.seq, .string x.key, .bool x.del, .int .i64 x.slot, .int .i64 x.off, .int .i64 x.size] 23)
    _ ?assign ?body ?hend ?hret
  case assign =>
    intro l x bx X' K hbx hK
    dsimp only [encE, enV]
    gi_wp2
    rw [← hbx]
    exact hK
  case body =>
    intro l Z pre x bx X' hI hbx hx hzx hzl hlr hsp
    have HIZ := Lib.hid hI
    have dx := (cellsOf hx).1
    have k4 : X'.heap[b3 + 1]? = _ := hI.2.s.get (i := 2) rfl
    have k5 : X'.heap[b3 + 1 + 1]? = _ := hI.2.s.get (i := 1) rfl
    have K4 := Lib.hid k4
    have K5 := Lib.hid k5
    have d3 := (cellsOf (show X'.heap[b3]? = _ from hI.2.s.get (i := 3) rfl)).1
    have d6 := (cellsOf (show X'.heap[b6]? = _ from hI.2.s.get (i := 0) rfl)).1
    obtain ⟨d4, f4⟩ := cellsOf k4
    obtain ⟨d5, f5⟩ := cellsOf k5
    have ke := eqlE_run x e
    cases hpx : eqEn e x with
    | true =>
      have HPX : Hid ((pre ++ [x]).any (eqEn e) = true) := Lib.hid (by simp [hpx])
      have HB7 := Lib.hid (HIZ.out.2.box (i := 2) rfl HA.out ((Mdh.refl (fun k => k = b3 + 1) X').setCell (p := ⟨b3 + 1, 0, none⟩) rfl (.bool gt)) (blkSet (j := 0) (u := .bool gt) K4.out))
      have HB8 := Lib.hid (HB7.out.1.box (i := 1) rfl HA.out ((Mdh.refl (fun k => k = b3 + 1 + 1) (X'.setCell ⟨b3 + 1, 0, none⟩ (.bool gt))).setCell (p := ⟨b3 + 1 + 1, 0, none⟩) rfl (.int .i64 0)) (blkSet (j := 0) (u := .int .i64 0) (blkSetO K5.out (by simp only; omega))))
      unfold eqEn at hpx
      simp only [hpx] at ke
      have hgt := HGT.out
      clear hI hbx hx hzx hzl hlr hsp hpx k4 k5
      gi_wp2_with fail
      rw [← hgt]
      exact ⟨(HB7.out.2.trans HB8.out.2).mono (fun k h => h.2), HPX.out, HB8.out.1⟩
    | false =>
      have HPX : Hid ((pre ++ [x]).any (eqEn e) = false) := Lib.hid (by rw [List.any_append, HIZ.out.1]; simp [hpx])
      unfold eqEn at hpx
      simp only [hpx] at ke
      clear hI hbx hx hzx hzl hlr hsp hpx k4 k5
      gi_wp2_with fail
      exact ⟨Mdh.refl _ _, HPX.out, HIZ.out.2⟩
  case hend =>
    intro Z D xs W hD hZD hcase hdef
    obtain ⟨hxs, hI⟩ := hcase.elim (fun h => h) (fun h => h.2.elim)
    have HE : Hid ((X.of e.key).any (eqEn e) = false) := Lib.hid (by rw [← show xs = X.of e.key from hxs]; exact hI.1)
    have HD := Lib.hid (And.intro hD (And.intro hZD hdef))
    have k4 : W.heap[b3 + 1]? = _ := hI.2.s.get (i := 2) rfl
    have k5 : W.heap[b3 + 1 + 1]? = _ := hI.2.s.get (i := 1) rfl
    have K4 := Lib.hid k4
    have K5 := Lib.hid k5
    obtain ⟨d4, f4⟩ := cellsOf k4
    obtain ⟨d5, f5⟩ := cellsOf k5
    have HIW := Lib.hid hI.2
    clear hI hcase hxs k4 k5 hD hZD hdef
    dsimp only
    go_wp2_with fail
    obtain ⟨hD, hZD, hdef⟩ := HD.out
    have n4 : D ≠ b3 + 1 := fun e => HIW.out.z _ (List.mem_cons_of_mem _ (List.mem_cons_of_mem _ (List.mem_cons_self ..))) (b3 + 1) rfl (e ▸ hZD)
    have n5 : D ≠ b3 + 1 + 1 := fun e => HIW.out.z _ (List.mem_cons_of_mem _ (List.mem_cons_self ..)) (b3 + 1 + 1) rfl (e ▸ hZD)
    have h4 : ((W.setCell ⟨b3 + 1, 0, none⟩ (.bool false)).setCell ⟨b3 + 1 + 1, 0, none⟩ (.int .i64 5)).heap[b3 + 1]? = some (.cells #[.bool false] 4) := blkSetO (blkSet (j := 0) K4.out) (by simp only; omega)
    have h5 : ((W.setCell ⟨b3 + 1, 0, none⟩ (.bool false)).setCell ⟨b3 + 1 + 1, 0, none⟩ (.int .i64 5)).heap[b3 + 1 + 1]? = some (.cells #[.int .i64 5] 31) := blkSet (j := 0) (blkSetO K5.out (by simp only; omega))
    have e4 := (cellsOf ((World.putObj_heap_other (o := .deferred none) n4.symm).trans h4)).1
    have e5 := (cellsOf ((World.putObj_heap_other (o := .deferred none) n5.symm).trans h5)).1
    have hb : w.heap.size ≤ b3 := HSW.out.n _ (List.mem_cons_of_mem _ (List.mem_cons_of_mem _ (List.mem_cons_self ..))) b3 rfl
    refine retM1 (D := D) (v := .tuple #[.bool false, .int .i64 5]) rfl (blkSetO (blkSetO hdef n4) n5) ?_ ⟨by rw [HR.out, if_neg (by rw [HE.out]; simp)], ((HIW.out.s.g.setCell (p := ⟨b3 + 1, 0, none⟩) (by simp only; omega) _).setCell (p := ⟨b3 + 1 + 1, 0, none⟩) (by simp only; omega) _).putObj (by have := HS3.out.g.sz; omega) _⟩
    simp [results, Try.results19, go_sem, e4, e5]
  case hret =>
    intro Z D pre W hD hZD hsp hI hdef
    have HE : Hid ((X.of e.key).any (eqEn e) = true) := Lib.hid (by
      obtain ⟨t, ht⟩ := hsp
      rw [← show pre ++ t = X.of e.key from ht, List.any_append, hI.1]; rfl)
    have k4 : W.heap[b3 + 1]? = _ := hI.2.s.get (i := 2) rfl
    have k5 : W.heap[b3 + 1 + 1]? = _ := hI.2.s.get (i := 1) rfl
    have n4 : D ≠ b3 + 1 := fun e => hI.2.z _ (List.mem_cons_of_mem _ (List.mem_cons_of_mem _ (List.mem_cons_self ..))) (b3 + 1) rfl (e ▸ hZD)
    have n5 : D ≠ b3 + 1 + 1 := fun e => hI.2.z _ (List.mem_cons_of_mem _ (List.mem_cons_self ..)) (b3 + 1 + 1) rfl (e ▸ hZD)
    have e4 := (cellsOf ((World.putObj_heap_other (o := .deferred none) n4.symm).trans k4)).1
    have e5 := (cellsOf ((World.putObj_heap_other (o := .deferred none) n5.symm).trans k5)).1
    dsimp only
    go_wp2_with fail
    refine retM1 (D := D) (v := .tuple #[.bool gt, .int .i64 0]) rfl hdef ?_ ⟨by rw [HR.out, if_pos HE.out], hI.2.s.g.putObj (by have := HS3.out.g.sz; omega) _⟩
    simp [results, Try.results19, go_sem, e4, e5]
end Go.Proofs.Ytiidkehcfoajeaa

/- drumlinlaw22: yieldsTwo, live. -/
set_option linter.unusedVariables false
set_option linter.unusedSimpArgs false
namespace Go.Proofs.Ytiidkehcfoajeaa
open Go.RowKit Go.Shelf
attribute [local go_sem] OvM cell_ovm obj_ovm
attribute [local go_sem] Oper.semAt_some

set_option maxRecDepth 40000 in
theorem yieldsTwo_any (gf : Nat) (lb : Array Value) (w : World) : Calls Try.prog 84 #[.func (.func gf) #[] lb] w fun e w' => e = .returned (.func (.func gf) #[] lb) ∧ w = w' := by
  have k1 : ∀ w : World, (binOp .eql 115 (.func (.func gf) #[] lb) .nilFunc).run Try.prog w = .ok (.bool false) w := fun w => by kernel_rfl
  go_enter Try.func84, Try.ntmps84
  go_wp2
  go_ret
  exact ⟨rfl, rfl⟩
abbrev kvR (b4 b5 : Nat) (v1 v2 : Value) (L : List (ByteArray × En)) : List Asn := [blkA b5 (.cells #[v2] 39), rowA 23 6 v2 L.length (rowE (L.map (fun x => x.2))), blkA b4 (.cells #[v1] 38), rowA 9 1 v1 L.length (kS (L.map (fun x => x.1)))]
set_option maxRecDepth 40000 in
set_option maxHeartbeats 8000000 in
theorem live22_any {w : World} {p : Option Addr} {X : IX} {S : Nat → Prop} (h : IXP w p X S) : Calls Try.prog 20 #[.pointer p] w fun e w' =>
    ∃ v1 v2, e = .returned (.tuple #[v1, v2]) ∧ Own w' 9 1 v1 (liveL X).length (kS ((liveL X).map (fun x => x.1))) ∧ Own w' 23 6 v2 (liveL X).length (rowE ((liveL X).map (fun x => x.2))) ∧ Gr w w' := by
  obtain ⟨i0, hi, hz0, hz1, hz2⟩ := info_parts info_str
  obtain ⟨j0, hj, hy0, hy1, hy2⟩ := info_parts infoIten
  have H := Lib.hid h
  have HLL := Lib.hid (live_len h.ok)
  clear h
  refine calls_of_wp_marks Try.func20 rfl ?_
  simp only [Try.ntmps20, List.size_toArray, List.length_cons, List.length_nil, Nat.reduceAdd, Nat.reduceSub, Array.replicate_succ, Array.replicate_zero, List.push_toArray, List.append_toArray, List.nil_append, List.cons_append]
  go_wp2_with fail
  obtain ⟨b4, hb4⟩ : ∃ q, q = w.heap.size := ⟨_, rfl⟩
  obtain ⟨w0, hw0⟩ : ∃ y, y = (w.alloc (.cells #[.slice none 0 0] 38)).alloc (.cells #[.slice none 0 0] 39) := ⟨_, rfl⟩
  have HSW : Hid (SW w (kvR b4 (b4 + 1) (.slice none 0 0) (.slice none 0 0) []) w0) := Lib.hid (by
    have h1 : SW w [rowA 9 1 (.slice none 0 0) 0 []] w := (SW.start w).new (Gr.refl _) (nilRow _ _ _) (fun k hk => by cases hk)
    have h2 := h1.alloc (.cells #[.slice none 0 0] 38)
    have h3 := h2.new (Gr.refl _) (A := rowA 23 6 (.slice none 0 0) 0 []) (nilRow _ _ _) (fun k hk => by cases hk)
    have h4 := h3.alloc (.cells #[.slice none 0 0] 39)
    simp only [World.size_alloc, ← hb4] at h4
    rw [hw0]
    exact h4)
  rw [← hw0, ← hb4]
  clear hw0 hb4
  refine (Live_any p _).mono ?_
  rintro e' w1 ⟨bb, rfl, h1, h2, hg⟩
  have HS1 := Lib.hid (HSW.out.gr hg)
  have HI := Lib.hid (H.out.gr HS1.out.g)
  have HSEQ := Lib.hid (SeqLive HI.out bb h1)
  have HA : Hid (∀ q, (q = bb ∨ S q) → q < w1.heap.size) := Lib.hid (fun q hq => by
    have l1 := World.block_lt_of_cell? w1 ⟨bb, 0, none⟩ h1
    rcases hq with rfl | hq
    · exact l1
    · exact HI.out.lt q hq)
  have HZ : Hid (SWz w w1 (fun q => q = bb ∨ S q) (kvR b4 (b4 + 1) (.slice none 0 0) (.slice none 0 0) []) (fun _ => False) w1) := Lib.hid (SWz.start HS1.out (fun B hB k hk ha => by
    have l1 := HSW.out.s.lt hB k hk
    have l2 := HSW.out.n B hB k hk
    rcases ha with rfl | ha
    · omega
    · have := H.out.lt k ha; omega))
  clear h1 h2 hg
  go_wp2_with fail
  refine (yieldsTwo_any _ _ _).mono ?_
  rintro e' w2 ⟨rfl, rfl⟩
  go_wp2_with fail
  apply wp_rangeFunc_zx (gf := 126) (lb := #[.pointer (some ⟨bb, 0, none⟩)]) rfl (enters_of Try.func126 (by kernel_rfl) rfl) HSEQ.out (Mdh.refl _ w1) HA.out (fun _ => rfl)
    (fun Z pre X' => ∃ v1 v2, SWz w w1 (fun q => q = bb ∨ S q) (kvR b4 (b4 + 1) v1 v2 pre) Z X')
    (fun _ _ _ => False) (fun _ _ _ => False)
    (Apart.ex fun v1 => Apart.ex fun v2 => SWz.apart HS1.out.g.sz (fun pre : List (ByteArray × En) => kvR b4 (b4 + 1) v1 v2 pre)) apart_no apart_no
    ⟨_, _, HZ.out⟩ (fun Z pre X' ⟨v1, v2, h⟩ => h.frm HS1.out.g) (fun x => .cells #[.int .i64 x.2.seq, .string x.2.key, .bool x.2.del, .int .i64 x.2.slot, .int .i64 x.2.off, .int .i64 x.2.size] 23)
    _ ?assign ?body ?hend ?hret
  case hret => intro _ _ _ _ _ _ _ h; exact h.elim
  case assign =>
    intro l x bx X' K hbx hK
    dsimp only [encKE, enV]
    gi_wp2
    rw [← hbx]
    exact hK
  case body =>
    intro l Z pre x bx X' hI hbx hx hzx hzl hlr hsp
    obtain ⟨v1, v2, hI⟩ := hI
    obtain ⟨k, x⟩ := x
    simp only at hx
    have HIZ := Lib.hid hI
    have HX := Lib.hid hx
    have HO1 := Lib.hid (show Own X' 9 1 v1 pre.length (kS (pre.map (fun x => x.1))) from hI.s.get (i := 3) rfl)
    have HO2 := Lib.hid (show Own X' 23 6 v2 pre.length (rowE (pre.map (fun x => x.2))) from hI.s.get (i := 1) rfl)
    have HB4 := Lib.hid (show X'.heap[b4]? = _ from hI.s.get (i := 2) rfl)
    have HB5 := Lib.hid (show X'.heap[b4 + 1]? = _ from hI.s.get (i := 0) rfl)
    have HPL : Hid (pre.length ≤ 16383) := Lib.hid (by have := hsp.length_le; have := HLL.out; simp at *; omega)
    have hpl := HPL.out
    obtain ⟨d4, f4⟩ := cellsOf HB4.out
    have l4 := blkLt HB4.out
    have lx := blkLt HX.out
    have HNX : Hid (¬ bx = b4 ∧ ¬ bx = b4 + 1) := Lib.hid (by
      have a1 := blkLt (show w1.heap[b4]? = _ from HS1.out.get (i := 2) rfl)
      have a2 := blkLt (show w1.heap[b4 + 1]? = _ from HS1.out.get (i := 0) rfl)
      omega)
    have HN4 : Hid (¬ v1.ownBlock = some b4) := Lib.hid (own_ne HO1.out HB4.out (by decide))
    have HN5 : Hid (¬ v1.ownBlock = some (b4 + 1)) := Lib.hid (own_ne HO1.out HB5.out (by decide))
    have nx4 := HNX.out.1
    have nx5 := HNX.out.2
    have HN1x : Hid (¬ v1.ownBlock = some bx) := Lib.hid (own_ne HO1.out HX.out (by decide))
    clear hI hbx hx hzx hzl hlr hsp
    have HN52 : Hid (¬ v2.ownBlock = some (b4 + 1)) := Lib.hid (own_ne HO2.out HB5.out (by decide))
    gi_wp2_with (first
      | (gi_at_builtin; refine wpListIn_appv _ rfl (.tmp 13) (.tmp 15) 38 rfl 9 i0 _ 1 16 Try.underlying38 hi hz0 hz1 hz2 rfl (by decide) v1 pre.length (kS (pre.map (fun x => x.1))) rfl (HO1.out.gr (by (repeat (first | (with_reducible exact Gr.refl _) | assumption | (with_reducible apply Gr.from_drew) | (with_reducible apply Gr.alloc) | (with_reducible apply Gr.drew) | (with_reducible refine Gr.trans ?_ (by assumption)) | (with_reducible refine Gr.setCell ?_ (by omega) _))))) (some ⟨X'.heap.size, 0, none⟩) 1 1 ([Value.string k]) rfl ((src_newK X' ([Value.string k]) _ 1 rfl (by simp [Value.oneCell']))) (by simp only [maxLen]; omega) (by omega) ?_; intro u1 w2 hA; obtain ⟨a1, c1, rfl⟩ := hA.val; have HAV := Lib.hid hA; have HM4 := Lib.hid ((hA.mdh (fun g h => h)).blk (((Gr.refl X').alloc _).blk HB4.out) HN4.out); have HXW := Lib.hid ((hA.mdh (fun g h => h)).blk (((Gr.refl X').alloc _).blk HX.out) HN1x.out); have HM5 := Lib.hid ((hA.mdh (fun g h => h)).blk (((Gr.refl X').alloc _).blk HB5.out) HN5.out); clear hA; obtain ⟨d4, f4⟩ := cellsOf HM4.out; have l4 := blkLt HM4.out; have d5 := (cellsOf HM5.out).1; have dx := (cellsOf HXW.out).1; have lx2 := blkLt HXW.out; have l5 := blkLt HM5.out; have z2 := HIZ.out.gr ((Gr.refl X').alloc (.cells [Value.string k].toArray 9)); have z3 := z2.1.step (i := 3) (B' := rowA 9 1 (.slice a1 (pre.length + 1) c1) (pre.length + 1) (kS (pre.map (fun x => x.1)) ++ [Value.string k])) rfl HA.out (HAV.out.mdh (fun g h => h)) (fun k hk => .inl hk) HAV.out.1 (fun k hq => HAV.out.2.1 k hq); have z4 := z3.1.step (i := 2) (B' := blkA b4 (.cells #[.slice a1 (pre.length + 1) c1] 38)) rfl HA.out ((Mdh.refl (fun k => k = b4) w2).setCell (p := ⟨b4, 0, none⟩) rfl (.slice a1 (pre.length + 1) c1)) (fun k hk => .inl hk) (blkSet (j := 0) (u := .slice a1 (pre.length + 1) c1) HM4.out) (fun k hk => .inl hk); have HZ4 := Lib.hid z4.1; have HZM := Lib.hid ((z2.2.trans z3.2).trans z4.2); have HO4 := Lib.hid (show Own _ 23 6 v2 pre.length (rowE (pre.map (fun x => x.2))) from HZ4.out.s.get (i := 1) rfl); have HB54 := Lib.hid (show (w2.setCell ⟨b4, 0, none⟩ (.slice a1 (pre.length + 1) c1)).heap[b4 + 1]? = some (.cells #[v2] 39) from HZ4.out.s.get (i := 0) rfl); have HSRC := Lib.hid (src_newK (w2.setCell ⟨b4, 0, none⟩ (.slice a1 (pre.length + 1) c1)) (enC x) 23 6 rfl (enC_one x)); clear z2 z3 z4)
      | (gi_at_builtin; refine wpListIn_appv _ rfl (.tmp 17) (.tmp 19) 39 rfl 23 j0 _ 6 56 Try.underlying39 hj hy0 hy1 hy2 rfl (by decide) v2 pre.length (rowE (pre.map (fun x => x.2))) rfl (HO4.out.gr ((Gr.refl _).alloc _)) (some ⟨w2.heap.size, 0, none⟩) 1 1 (enC x) rfl (by have hs := HSRC.out; rw [World.size_setCell] at hs; exact hs) (by simp only [maxLen]; omega) (by omega) ?_; intro u2 w4 hB; obtain ⟨a2, c2, rfl⟩ := hB.val; have HBV := Lib.hid hB; have HB55 := Lib.hid ((hB.mdh (fun g h => h)).blk (((Gr.refl _).alloc _).blk HB54.out) HN52.out); clear hB d4 f4 d5 dx; obtain ⟨d5, f5⟩ := cellsOf HB55.out; have l55 := blkLt HB55.out)
      | fail)
    have y2 := HZ4.out.gr ((Gr.refl _).alloc (.cells (enC x).toArray 23))
    have y3 := y2.1.step (i := 1) (B' := rowA 23 6 (.slice a2 (pre.length + 1) c2) (pre.length + 1) (rowE (pre.map (fun x => x.2)) ++ enC x)) rfl HA.out (HBV.out.mdh (fun g h => h)) (fun k hk => .inl hk) HBV.out.1 (fun k hq => HBV.out.2.1 k hq)
    have y4 := y3.1.step (i := 0) (B' := blkA (b4 + 1) (.cells #[.slice a2 (pre.length + 1) c2] 39)) rfl HA.out ((Mdh.refl (fun k => k = b4 + 1) w4).setCell (p := ⟨b4 + 1, 0, none⟩) rfl (.slice a2 (pre.length + 1) c2)) (fun k hk => .inl hk) (blkSet (j := 0) (u := .slice a2 (pre.length + 1) c2) HB55.out) (fun k hk => .inl hk)
    have zM := HZM.out.trans ((y2.2.trans y3.2).trans y4.2)
    have zR : SWz w w1 (fun q => q = bb ∨ S q) (kvR b4 (b4 + 1) (.slice a1 (pre.length + 1) c1) (.slice a2 (pre.length + 1) c2) (pre ++ [(k, x)])) Z (w4.setCell ⟨b4 + 1, 0, none⟩ (.slice a2 (pre.length + 1) c2)) := by
      unfold kvR
      rw [List.map_append, List.map_append, List.map_cons, List.map_cons, List.map_nil, List.map_nil, rowE_snoc, kS_snoc, List.length_append]
      exact y4.1
    exact ⟨zM, _, _, zR⟩
  case hend =>
    intro Z D xs W hD hZD hcase hdef
    obtain ⟨hxs, v1, v2, hZ⟩ := hcase.elim (fun h => h) (fun h => h.2.elim)
    have hxs' : xs = liveL X := hxs
    subst hxs'
    have d4 := (cellsOf (show W.heap[b4]? = _ from hZ.s.get (i := 2) rfl)).1
    have d5 := (cellsOf (show W.heap[b4 + 1]? = _ from hZ.s.get (i := 0) rfl)).1
    have HZW := Lib.hid hZ
    have HD := Lib.hid (And.intro hD (And.intro hZD hdef))
    clear hcase hZ hD hZD hdef hxs
    dsimp only
    go_wp2_with fail
    refine wp_region_flo (fun _ => False) [] [] (by kernel_rfl) (by kernel_rfl) (fun _ h => h.elim) ?_
    refine flo_seg 4 rfl ?_
    simp only [List.take_succ_cons, List.take_zero, List.drop_succ_cons, List.drop_zero]
    repeat (go_big_quiet_step (fail))
    refine wpQuiet_nil ?_
    refine flo_nil ?_
    go_wp2_with fail
    obtain ⟨hD, hZD, hdef⟩ := HD.out
    have hm : Mdh (fun k => k = D) W (W.putObj D (.deferred none)) := (Mdh.refl (fun k => k = D) W).putObj rfl _
    have o1 := (show Own W 9 1 v1 (liveL X).length (kS ((liveL X).map (fun x => x.1))) from HZW.out.s.get (i := 3) rfl).mdh hm (fun k hk e => HZW.out.z _ (List.mem_cons_of_mem _ (List.mem_cons_of_mem _ (List.mem_cons_of_mem _ (List.mem_cons_self ..)))) k hk (e ▸ hZD))
    have o2 := (show Own W 23 6 v2 (liveL X).length (rowE ((liveL X).map (fun x => x.2))) from HZW.out.s.get (i := 1) rfl).mdh hm (fun k hk e => HZW.out.z _ (List.mem_cons_of_mem _ (List.mem_cons_self ..)) k hk (e ▸ hZD))
    refine retM1 (D := D) (v := .tuple #[v1, v2]) rfl hdef ?_ ⟨v1, v2, rfl, o1, o2, HZW.out.s.g.drew.putObj (by have := HS1.out.g.sz; omega) _⟩
    simp [results, Try.results20, go_sem]
end Go.Proofs.Ytiidkehcfoajeaa

/- drumlinlaw22: example, works. -/
set_option linter.unusedVariables false
set_option linter.unusedSimpArgs false
namespace Go.Proofs.Ytiidkehcfoajeaa
open Go.RowKit Go.Shelf
attribute [local go_sem] OvM cell_ovm obj_ovm
attribute [local go_sem] Oper.semAt_some

def kd1 : En := ⟨1, ⟨#[97]⟩, false, 0, 0, 20⟩
def kd2 : En := ⟨2, ⟨#[98]⟩, false, 0, 20, 18⟩
def kd3 : En := ⟨3, ⟨#[97]⟩, true, 1, 0, 17⟩
def kd4 : En := ⟨1, ⟨#[97]⟩, false, 2, 0, 20⟩
def kdL : List En := [kd1, kd2, kd3, kd4]
theorem kd_add : AllAdd kdL (ixNew 3) (stAdd kdL (ixNew 3)) := ⟨rfl, by
  intro j x h
  refine (fun (a : addE (stAdd kdL (ixNew 3) j) x = 0 ∧ Low x.key ∧ En64 x) => ⟨a.1, stAdd_next _ _ j x h, a.2⟩) ?_
  match j, h with
  | 0, h => cases h; exact ⟨by kernel_rfl, low_b rfl (by decide), by unfold En64; decide⟩
  | 1, h => cases h; exact ⟨by kernel_rfl, low_b rfl (by decide), by unfold En64; decide⟩
  | 2, h => cases h; exact ⟨by kernel_rfl, low_b rfl (by decide), by unfold En64; decide⟩
  | 3, h => cases h; exact ⟨by kernel_rfl, low_b rfl (by decide), by unfold En64; decide⟩
  | _ + 4, h => cases h⟩
def kdX : IX := stAdd kdL (ixNew 3) 4
theorem kd_f1 : findV kdX ⟨#[98]⟩ = .tuple #[.agg #[.int .i64 2, .string ⟨#[98]⟩, .bool false, .int .i64 0, .int .i64 20, .int .i64 18], .bool true, .int .i64 0] := by kernel_rfl
theorem kd_f2 : findV kdX ⟨#[97]⟩ = .tuple #[.agg #[.int .i64 0, .string ⟨#[]⟩, .bool false, .int .i64 0, .int .i64 0, .int .i64 0], .bool false, .int .i64 0] := by kernel_rfl
theorem kd_c : sumR kdX (fun _ => 1) = .tuple #[.int .i64 1, .int .i64 0] := by kernel_rfl
theorem kd_t : sumR kdX (fun e => e.size) = .tuple #[.int .i64 18, .int .i64 0] := by kernel_rfl
theorem kd_s1 : shadV kdX kd4 = .tuple #[.bool true, .int .i64 0] := by kernel_rfl
theorem kd_s2 : shadV kdX ⟨1, ⟨#[97]⟩, false, 1, 0, 20⟩ = .tuple #[.bool false, .int .i64 5] := by kernel_rfl
theorem kd_l : liveL kdX = [(⟨#[98]⟩, kd2)] := by kernel_rfl
set_option maxRecDepth 40000 in
set_option maxHeartbeats 4000000 in
theorem kd_example (w : World) : Calls Try.prog 79 #[] w fun e w' => ∃ b S, e = .returned (.pointer (some ⟨b, 0, none⟩)) ∧ SW w [ixA b kdX S] w' := by
  have HST := Lib.hid kd_add.s
  go_enter Try.func79, Try.ntmps79
  go_wp2_with fail
  refine (New_any 3 w (by decide) (by decide)).mono ?_
  rintro e w2 ⟨b, S, rfl, h1, h2, h3⟩
  have HS1 : Hid (SW w [ixA b (stAdd kdL (ixNew 3) 0) S] w2) := Lib.hid ((SW.start w).ixnew h1 h2 h3)
  clear h1 h2 h3
  go_wp2_with fail
  obtain ⟨g, hg⟩ : ∃ q, q = w2.heap.size := ⟨_, rfl⟩
  obtain ⟨w3, hw3⟩ : ∃ y, y = w2.alloc (.cells (rowE kdL).toArray 23) := ⟨_, rfl⟩
  have HS3 : Hid (SW w [ixA b (stAdd kdL (ixNew 3) 0) S, blkA g (.cells (rowE kdL).toArray 23)] w3) := Lib.hid (by rw [hw3, hg]; exact HS1.out.allocT _)
  simp only [rowE, kdL, kd1, kd2, kd3, kd4, enC, List.flatMap_cons, List.flatMap_nil, List.cons_append, List.nil_append, List.append_nil] at hw3
  rw [← hw3, ← hg]
  clear hw3 hg
  go_loopw [17] (fun t17 wx => ∃ (j : Nat) (S : Nat → Prop), j ≤ 4 ∧ t17 = .int .i64 j ∧ Hid (SW w [ixA b (stAdd kdL (ixNew 3) j) S, blkA g (.cells (rowE kdL).toArray 23)] wx)) (fun t17 _ => 4 - (intOf t17).toNat)
  case atStart => exact ⟨0, S, by omega, rfl, HS3⟩
  case round =>
    obtain ⟨j, S, hj, rfl, HR⟩ := hrel
    by_cases hlt : j < 4
    · have hlt' : (j : Int) < 4 := by omega
      obtain ⟨x, hx⟩ : ∃ x, kdL[j]? = some x := ⟨_, List.getElem?_eq_getElem (show j < 4 from hlt)⟩
      have HX := Lib.hid (HST.out j x hx)
      have cc := (cellsOf (show wr.heap[g]? = _ from HR.out.get (i := 1) rfl)).1
      have hr : ∀ c u, (enC x)[c]? = some u → wr.cell? ⟨g, j * 6 + c, none⟩ = some u := fun c u hu => (cc _).trans (by rw [List.getElem?_toArray]; exact rowE_get kdL j x hx c u hu)
      have d0 := hr 0 _ rfl
      have d1 := hr 1 _ rfl
      have d2 := hr 2 _ rfl
      have d3 := hr 3 _ rfl
      have d4 := hr 4 _ rfl
      have d5 := hr 5 _ rfl
      simp only [Nat.add_zero] at d0 d1 d2 d3 d4 d5
      clear hr cc hx
      generalize hst : stAdd kdL (ixNew 3) (j + 1) = Y1 at HX
      have HY := Lib.hid hst
      clear hst
      go_wp2_with (go_at_call 40; refine (Add_any (HR.out.gr ((Gr.refl _).alloc _)).ix x HX.out.2.2.1 HX.out.2.2.2).mono ?_; rintro e w4 ⟨rfl, hp⟩; rw [HX.out.1]; have HP := Lib.hid hp; clear hp)
      obtain ⟨S', hI⟩ := (HR.out.gr ((Gr.refl _).alloc _)).post HP.out
      go_roundw
      case rel => exact ⟨j + 1, S', by omega, by go_num, Lib.hid (by rw [HY.out, HX.out.2.1]; exact hI)⟩
      case measure => simp [intOf]; omega
    · have hlt' : ¬ (j : Int) < 4 := by omega
      obtain rfl : j = 4 := by omega
      go_wp2
      go_ret
      exact ⟨b, rfl, S, HR.out.sub (.cons_cons _ (List.nil_sublist _))⟩
set_option maxRecDepth 40000 in
set_option maxHeartbeats 8000000 in
theorem kd_works (w : World) : Calls Try.prog 15 #[] w fun e w' => e = .returned (.bool true) ∧ Gr w w' := by
  go_enter Try.func15, Try.ntmps15
  go_wp2_with fail
  refine (kd_example w).mono ?_
  rintro e w1 ⟨b, S, rfl, hs⟩
  have H1 := Lib.hid hs
  clear hs
  go_wp2_with fail
  refine (Find_any H1.out.ixp ⟨#[98]⟩).mono ?_
  rintro e w2 ⟨rfl, hg⟩
  rw [kd_f1]
  have H2 := Lib.hid (H1.out.gr hg)
  clear hg
  go_wp2_with fail
  obtain ⟨b2, hb2⟩ : ∃ q, q = w2.heap.size := ⟨_, rfl⟩
  obtain ⟨w3, hw3⟩ : ∃ y, y = w2.alloc (.cells (enC kd2).toArray 23) := ⟨_, rfl⟩
  have H3 : Hid (SW w [ixA b kdX S, blkA b2 (.cells (enC kd2).toArray 23)] w3) := Lib.hid (by rw [hw3, hb2]; exact H2.out.allocT _)
  simp only [enC, kd2] at hw3
  rw [← hw3, ← hb2]
  clear hw3 hb2
  refine (Find_any H3.out.ixp ⟨#[97]⟩).mono ?_
  rintro e w4 ⟨rfl, hg⟩
  rw [kd_f2]
  have H4 := Lib.hid (H3.out.gr hg)
  clear hg
  go_wp2_with fail
  refine (Count_any (H4.out.gr ((Gr.refl _).alloc _)).ixp).mono ?_
  rintro e w5 ⟨rfl, hg⟩
  rw [kd_c]
  have H5 := Lib.hid (H4.out.gr (((Gr.refl _).alloc _).trans hg))
  clear hg
  go_wp2_with fail
  refine (Cost_any H5.out.ixp).mono ?_
  rintro e w6 ⟨rfl, hg⟩
  rw [kd_t]
  have H6 := Lib.hid (H5.out.gr hg)
  clear hg
  go_wp2_with fail
  refine (Shadowed_any H6.out.ixp kd4).mono ?_
  rintro e w7 ⟨rfl, hg⟩
  rw [kd_s1]
  have H7 := Lib.hid (H6.out.gr hg)
  clear hg
  go_wp2_with fail
  refine (Shadowed_any H7.out.ixp ⟨1, ⟨#[97]⟩, false, 1, 0, 20⟩).mono ?_
  rintro e w8 ⟨rfl, hg⟩
  rw [kd_s2]
  have H8 := Lib.hid (H7.out.gr hg)
  clear hg
  go_wp2_with fail
  refine (live22_any H8.out.ixp).mono ?_
  rintro e w9 ⟨v1, v2, rfl, o1, o2, hg⟩
  rw [kd_l] at o1 o2
  obtain ⟨a1, c1, rfl, k1, m1, at1⟩ := ownS_at (l := [⟨#[98]⟩]) o1
  obtain ⟨a2, c2, rfl, k2, m2, at2⟩ := ownE_at (l := [kd2]) o2
  obtain ⟨g1, rfl, y0, y0b, y1⟩ := at1 0 _ rfl
  obtain ⟨g2, rfl, y2, y3, y4⟩ := at2 0 _ rfl
  have H9 := Lib.hid (H8.out.gr hg)
  have d2 := (cellsOf (show w9.heap[b2]? = _ from H9.out.get (i := 1) rfl)).1
  simp only [enC, kd2] at d2
  have e0 := y4 0 _ rfl
  have e1 := y4 1 _ rfl
  have e2 := y4 2 _ rfl
  have e3 := y4 3 _ rfl
  have e4 := y4 4 _ rfl
  have e5 := y4 5 _ rfl
  simp only [kd2, Nat.zero_mul, Nat.zero_add] at e0 e1 e2 e3 e4 e5
  have ke := eqlE_run kd2 kd2
  simp only [kd2, decide_true] at ke
  simp only [List.length_cons, List.length_nil, Nat.reduceAdd]
  clear hg o1 o2 at1 at2 y4
  go_wp2_with fail
  refine wp_region_flo (fun _ => False) [] [] (by kernel_rfl) (by kernel_rfl) (fun _ h => h.elim) ?_
  (try simp only [List.append_eq, List.cons_append, List.nil_append])
  refine flo_seg 64 rfl ?_
  simp only [List.take_succ_cons, List.take_zero, List.drop_succ_cons, List.drop_zero]
  repeat (go_big_quiet_step (fail))
  refine wpQuiet_nil ?_
  refine flo_nil ?_
  go_wp2
  go_ret
  exact ⟨rfl, H9.out.g.drew⟩
end Go.Proofs.Ytiidkehcfoajeaa

/- No index, or one that was not made: the two pointers of a row. -/
set_option linter.unusedVariables false
set_option linter.unusedSimpArgs false
namespace Go.Proofs.Ytiidkehcfoajeaa
open Go.RowKit
def ixO : IX := ⟨[], []⟩
theorem ixO_of (k : ByteArray) : ixO.of k = [] := rfl
theorem ixO_slot (s : Int) : ixO.slot s = [] := slot_none s
structure NilP (w0 : World) (g : Nat) : Prop where
  at2 : ∀ j, j < 2 → ∃ (p : Option Addr) (S : Nat → Prop), ∀ wx, Gr w0 wx → wx.cell? ⟨g, j, none⟩ = some (.pointer p) ∧ IXP wx p ixO S
theorem nilP (w : World) (b : Nat) (hb : b = w.heap.size) : NilP ((w.alloc (.cells #[.pointer none, .slice none 0 0] 29)).alloc (.cells #[.pointer none, .pointer (some ⟨b, 0, none⟩)] 25)) (b + 1) := ⟨by
  intro j hj
  have h2 := blkNew (w.alloc (.cells #[.pointer none, .slice none 0 0] 29)) (.cells #[.pointer none, .pointer (some ⟨b, 0, none⟩)] 25)
  rw [World.size_alloc, ← hb] at h2
  have h1 : ((w.alloc (.cells #[.pointer none, .slice none 0 0] 29)).alloc (.cells #[.pointer none, .pointer (some ⟨b, 0, none⟩)] 25)).heap[b]? = some (.cells #[.pointer none, .slice none 0 0] 29) := by
    rw [hb]; exact ((Gr.refl _).alloc _).blk (blkNew w _)
  have hc := cellsOf h2
  rcases (show j = 0 ∨ j = 1 by omega) with rfl | rfl
  · exact ⟨none, fun _ => False, fun wx g => ⟨g.keep (hc.1 0), .inr ⟨.inl rfl, rfl, fun k => ⟨fun h => h.elim, (fun ⟨_, h, _⟩ => by cases h)⟩⟩⟩⟩
  · exact ⟨some ⟨b, 0, none⟩, fun k => k = b, fun wx g => ⟨g.keep (hc.1 1), .inr ⟨.inr ⟨b, rfl, g.blk h1⟩, rfl, fun k => ⟨fun h => ⟨_, rfl, h⟩, (fun ⟨a, h, hk⟩ => by cases h; exact hk)⟩⟩⟩⟩⟩
end Go.Proofs.Ytiidkehcfoajeaa

/- KeydirNil. -/
set_option linter.unusedVariables false
set_option linter.unusedSimpArgs false
namespace Go.Proofs.Ytiidkehcfoajeaa
open Go.RowKit Go.Shelf
attribute [local go_sem] OvM cell_ovm obj_ovm
attribute [local go_sem] Oper.semAt_some

theorem find_O (k : ByteArray) : findV ixO k = .tuple #[.agg #[.int .i64 0, .string ⟨#[]⟩, .bool false, .int .i64 0, .int .i64 0, .int .i64 0], .bool false, .int .i64 1] := by
  unfold findV findE
  rw [ixO_of]
  rfl
theorem sum_O (f : En → Int) : sumR ixO f = .tuple #[.int .i64 0, .int .i64 1] := if_pos rfl
theorem shad_O (e : En) : shadV ixO e = .tuple #[.bool false, .int .i64 1] := if_pos rfl
theorem live_O : liveL ixO = [] := rfl
set_option maxRecDepth 40000 in
set_option maxHeartbeats 8000000 in
theorem KeydirNil_any (key : ByteArray) (e : En) (w : World) : Calls Try.prog 3 #[.string key, .agg #[.int .i64 e.seq, .string e.key, .bool e.del, .int .i64 e.slot, .int .i64 e.off, .int .i64 e.size]] w fun e w' => e = .returned (.bool true) ∧ Gr w w' := by
  obtain ⟨e1, e2, e3, e4, e5, e6⟩ := e
  simp only
  go_enter Try.func3, Try.ntmps3
  by_cases hk : 100 < key.size
  · have hk' : (100 : Int) < key.size := by omega
    go_wp2_with (go_at_call 15; refine (kd_works _).mono ?_; rintro e w1 ⟨rfl, hg⟩; have HG := Lib.hid hg; clear hg)
    go_ret
    exact ⟨rfl, ((Gr.refl w).alloc _).trans HG.out⟩
  · have hk' : ¬ (100 : Int) < key.size := by omega
    go_wp2_with fail
    obtain ⟨b1, hb1⟩ : ∃ q, q = w.heap.size := ⟨_, rfl⟩
    obtain ⟨w0, hw0⟩ : ∃ y, y = ((w.alloc (.cells #[.int .i64 e1, .string e2, .bool e3, .int .i64 e4, .int .i64 e5, .int .i64 e6] 23)).alloc (.cells #[.pointer none, .slice none 0 0] 29)).alloc (.cells #[.pointer none, .pointer (some ⟨w.heap.size + 1, 0, none⟩)] 25) := ⟨_, rfl⟩
    have HP : Hid (NilP w0 (w.heap.size + 1 + 1)) := Lib.hid (by rw [hw0]; exact nilP _ _ (by rw [World.size_alloc]))
    have H0 : Hid (Gr w w0 ∧ w0.heap[b1]? = some (.cells #[.int .i64 e1, .string e2, .bool e3, .int .i64 e4, .int .i64 e5, .int .i64 e6] 23)) := Lib.hid (by
      rw [hw0, hb1]
      exact ⟨(((Gr.refl w).alloc _).alloc _).alloc _, (((Gr.refl _).alloc _).alloc _).blk (blkNew w _)⟩)
    rw [← hw0]
    rw [← hb1] at HP
    rw [← hb1]
    clear hw0 hb1
    have kn : ∀ w, (binOp .neq 23 (.agg #[.int .i64 0, .string ⟨#[]⟩, .bool false, .int .i64 0, .int .i64 0, .int .i64 0]) (.agg #[.int .i64 0, .string ⟨#[]⟩, .bool false, .int .i64 0, .int .i64 0, .int .i64 0])).run Try.prog w = .ok (.bool false) w := fun w => (neqE_run zE zE w).trans (by simp)
    go_loopw [28] (fun t28 wx => ∃ j : Nat, j ≤ 2 ∧ t28 = .int .i64 j ∧ Hid (Gr w0 wx)) (fun t28 _ => 2 - (intOf t28).toNat)
    case atStart => exact ⟨0, by omega, rfl, Lib.hid (Gr.refl _)⟩
    case round =>
      obtain ⟨j, hj, rfl, HR⟩ := hrel
      by_cases hlt : j < 2
      · have hlt' : (j : Int) < 2 := by omega
        obtain ⟨p, S, hp⟩ := HP.out.at2 j hlt
        have HQ := Lib.hid hp
        have d := (hp _ HR.out).1
        clear hp
        go_wp2_with fail
        refine (Find_any (HQ.out _ HR.out).2 key).mono ?_
        rintro e w1 ⟨rfl, hg⟩
        rw [find_O]
        have HG1 := Lib.hid (HR.out.trans hg)
        clear hg d
        go_wp2_with fail
        obtain ⟨b6, hb6⟩ : ∃ q, q = w1.heap.size := ⟨_, rfl⟩
        obtain ⟨w2, hw2⟩ : ∃ y, y = w1.alloc (.cells #[.int .i64 0, .string ⟨#[]⟩, .bool false, .int .i64 0, .int .i64 0, .int .i64 0] 23) := ⟨_, rfl⟩
        have HB6 : Hid (w2.heap[b6]? = some (.cells #[.int .i64 0, .string ⟨#[]⟩, .bool false, .int .i64 0, .int .i64 0, .int .i64 0] 23)) := Lib.hid (by rw [hw2, hb6]; exact blkNew w1 _)
        have HG2 : Hid (Gr w0 w2) := Lib.hid (by rw [hw2]; exact HG1.out.alloc _)
        rw [← hw2, ← hb6]
        clear hw2 hb6
        refine (Count_any (HQ.out _ HG2.out).2).mono ?_
        rintro e w3 ⟨rfl, hg⟩
        rw [sum_O]
        have HG3 := Lib.hid (And.intro (HG2.out.trans hg) (hg.blk HB6.out))
        clear hg
        go_wp2_with fail
        refine (Cost_any (HQ.out _ HG3.out.1).2).mono ?_
        rintro e w4 ⟨rfl, hg⟩
        rw [sum_O]
        have HG4 := Lib.hid (And.intro (HG3.out.1.trans hg) (hg.blk HG3.out.2))
        have db := (cellsOf (HG4.out.1.blk H0.out.2)).1
        clear hg
        go_wp2_with fail
        refine (Shadowed_any (HQ.out _ HG4.out.1).2 ⟨e1, e2, e3, e4, e5, e6⟩).mono ?_
        rintro e w5 ⟨rfl, hg⟩
        rw [shad_O]
        have HG5 := Lib.hid (And.intro (HG4.out.1.trans hg) (hg.blk HG4.out.2))
        clear hg db
        go_wp2_with fail
        refine (live22_any (HQ.out _ HG5.out.1).2).mono ?_
        rintro e w6 ⟨v1, v2, rfl, o1, o2, hg⟩
        rw [live_O] at o1 o2
        obtain ⟨a1, c1, rfl, _⟩ := ownS_at (l := []) o1
        have HG6 := Lib.hid (And.intro (HG5.out.1.trans hg) (hg.blk HG5.out.2))
        have d6 := (cellsOf HG6.out.2).1
        simp only [List.length_nil]
        clear hg o1 o2
        go_wp2_with fail
        go_roundw
        case rel => exact ⟨j + 1, by omega, by go_num, Lib.hid HG6.out.1⟩
        case measure => simp [intOf]; omega
      · have hlt' : ¬ (j : Int) < 2 := by omega
        go_wp2_with fail
        refine (kd_works _).mono ?_
        rintro e w4 ⟨rfl, hg⟩
        have HG4 := Lib.hid ((H0.out.1.trans HR.out).trans hg)
        clear hg
        go_wp2
        go_ret
        exact ⟨rfl, HG4.out⟩
end Go.Proofs.Ytiidkehcfoajeaa
