/- The keys of an index, one by one. -/
import Derived.Test.YtiidkehcfoajeaaIxl
set_option linter.unusedVariables false
set_option linter.unusedSimpArgs false
namespace Go.Proofs.Ytiidkehcfoajeaa
open Go.RowKit Go.Shelf
attribute [local go_sem] OvM cell_ovm obj_ovm
attribute [local go_sem] Oper.semAt_some

def IX.ks (X : IX) : List ByteArray := X.keys.map Prod.fst
def encK (k : ByteArray) : Array Value := #[.string k]
/-- With more blocks of the iterator's own. -/
def plusS {β : Type} (B : Nat → Prop) (J : (Nat → Prop) → β → World → Prop) : (Nat → Prop) → β → World → Prop := fun Z s W => J (fun q => Z q ∨ B q) s W
theorem plusS_apart {β : Type} (B : Nat → Prop) {J : (Nat → Prop) → β → World → Prop} (h : Apart J) : Apart (plusS B J) := fun Z Z' s X Y hs hm hz =>
  h _ _ s X Y hs (hm.mono (fun k hk => .inl hk)) (fun k hk => hk.elim (fun h => (hz k h).elim (fun h => .inl (.inl h)) .inr) (fun h => .inl (.inr h)))
theorem Apart.map {β γ : Type} (f : γ → β) {J : (Nat → Prop) → β → World → Prop} (h : Apart J) : Apart (fun Z s W => J Z (f s) W) := fun Z Z' s X Y hs hm hz => h Z Z' (f s) X Y hs hm hz
theorem prefix_map {α β : Type} (f : α → β) {l m : List α} (h : l <+: m) : l.map f <+: m.map f := by
  obtain ⟨t, rfl⟩ := h
  exact ⟨t.map f, by simp⟩

set_option maxRecDepth 40000 in
set_option maxHeartbeats 4000000 in
theorem SeqKeys {w : World} {b : Nat} {X : IX} {S : Nat → Prop} (h : IXR w b X S) (bb : Nat) (hbb : w.cell? ⟨bb, 0, none⟩ = some (.pointer (some ⟨b, 0, none⟩))) :
    SeqZ Fence.wide 2 Try.prog 100 #[.pointer (some ⟨bb, 0, none⟩)] encK (fun q => q = bb ∨ S q) (fun xs => xs = X.ks) (fun pre => pre <+: X.ks) w := by
  intro l J Jx W hW hJ hJx hY h0
  have hbW : W.cell? ⟨bb, 0, none⟩ = some (.pointer (some ⟨b, 0, none⟩)) := hW.keep hbb (fun h => h (.inl rfl))
  have lbb : bb < W.heap.size := World.block_lt_of_cell? W ⟨bb, 0, none⟩ hbW
  have hI := h.mdh hW (fun q hq hn => hn (.inr hq))
  have HI := Lib.hid hI
  obtain ⟨h1, h2, Y, h3, h4, h5⟩ := hI
  have e0 : W.cell? ⟨b, 0, none⟩ = some (Value.pointer (some ⟨Y.bm, 0, none⟩)) := ((cellsOf (Lay.blk h3)).1 0).trans rfl
  have lb : b < W.heap.size := World.block_lt_of_cell? W ⟨b, 0, none⟩ e0
  have HV : Hid (VWsl W (some ⟨Y.bm, 0, none⟩) Y.v Y.KL) := Lib.hid (.inl ⟨_, rfl, Lay.om h3⟩)
  have HOM : Hid (∀ k, OMB (some ⟨Y.bm, 0, none⟩) Y.v k → S k) := Lib.hid (fun k hk => (h5 k).2 ⟨omA Y.bm Y.v Y.KL, by simp [Lay.list, Lay.hd], hk.elim (fun ⟨a, e, hk⟩ => .inl (by cases e; exact hk)) .inr⟩)
  have HKS : Hid (Y.KL.map Prod.fst = X.ks) := Lib.hid h4.k
  have HLN : Hid (Y.KL.length ≤ 1000000) := Lib.hid (by
    have := congrArg List.length h4.k
    simp only [List.length_map] at this
    have := h1.keys_le
    omega)
  have HY := Lib.hid hY
  have H0 := Lib.hid h0
  have HJ := Lib.hid hJ
  have HJx := Lib.hid hJx
  obtain ⟨b0, hb0⟩ : ∃ q, q = W.heap.size := ⟨_, rfl⟩
  have HB0 := Lib.hid hb0
  generalize Y.bm = bm at *
  generalize Y.v = v at *
  generalize Y.KL = KL at *
  clear hY h0 hW h hbb h1 h2 h3 h4 h5 hJ hJx
  refine callsIn_wide.2 (calls_of_wp_marks Try.func100 rfl ?_)
  simp only [Try.ntmps100, List.size_toArray, List.length_cons, List.length_nil, Nat.reduceAdd, Nat.reduceSub, Array.replicate_succ, Array.replicate_zero, List.push_toArray, List.append_toArray, List.nil_append, List.cons_append]
  go_wp2_with (go_at_call 95; refine (made_yes (HI.out.gr ((Gr.refl _).alloc _))).mono ?_; rintro e w1 ⟨rfl, rfl⟩)
  refine (AllOsl _ _).mono ?_
  rintro e w2 ⟨b2, rfl, c2, hlt, hg⟩
  have HG2 := Lib.hid (((Gr.refl W).alloc (.cells #[.func (.yield l) #[] #[]] 131)).trans hg)
  have HBY : Hid (w2.heap[b0]? = some (.cells #[.func (.yield l) #[] #[]] 131)) := Lib.hid (by rw [HB0.out]; exact hg.blk (blkNew W _))
  have HSQ := Lib.hid (SeqAsl (some ⟨bm, 0, none⟩) v KL HLN.out b2 w2 (VWsl.mdh HV.out (HG2.out.mdh (fun _ => False)) (fun _ _ h => h)) c2)
  have HL2 : Hid (b0 < b2 ∧ b2 < w2.heap.size ∧ b0 = W.heap.size) := Lib.hid (by
    have l2 := World.block_lt_of_cell? w2 ⟨b2, 0, none⟩ c2
    rw [World.size_alloc] at hlt
    exact ⟨by omega, l2, HB0.out⟩)
  have HSL : Hid (∀ k, S k → k < W.heap.size) := Lib.hid (fun k hk => HI.out.lt k hk)
  have HFF : Hid (∀ k, (k = b2 ∨ OMB (some ⟨bm, 0, none⟩) v k) → k < w2.heap.size) := Lib.hid (fun k hk => hk.elim (fun e => by rw [e]; exact HL2.out.2.1) (fun e => by have := HSL.out k (HOM.out k e); have := HL2.out; omega))
  clear hg hlt c2 e0 hb0 hbW
  go_wp2_with fail
  rw [← HB0.out]
  apply wp_rangeFunc_zb (gf := 131) (lb := #[.pointer (some ⟨b2, 0, none⟩)]) rfl (enters_of Try.func131 (by kernel_rfl) rfl) HSQ.out (Mdh.refl _ w2) HFF.out (fun _ => rfl)
    (fun Z pre X' => plusS (fun q => q = b0 ∨ q = b2) J Z (pre.map Prod.fst) X' ∧ (X'.heap[b0]? = some (.cells #[.func (.yield l) #[] #[]] 131) ∧ ¬ Z b0))
    (fun _ _ _ => False)
    (fun Z pre X' => plusS (fun q => q = b0 ∨ q = b2) Jx Z (pre.map Prod.fst) X')
    (((plusS_apart _ HJ.out).map _).and (Apart.block b0 (fun _ => _))) apart_no ((plusS_apart _ HJx.out).map _)
    ⟨HJ.out _ _ _ _ _ H0.out (HG2.out.mdh _) (fun k hk => hk.elim .inl (fun e => .inr (by have := HL2.out; omega))), HBY.out, fun h => h⟩
    _ ?assign ?body ?hend ?hret
  case assign =>
    intro l' x X' K hK
    dsimp only [encOsl]
    gi_wp2
    exact hK
  case body =>
    intro l' Z pre x X' hI hsp
    obtain ⟨hj, hby, hzy⟩ := hI
    have hpm : (pre ++ [x]).map Prod.fst = pre.map Prod.fst ++ [x.1] := by simp
    have hpf : pre.map Prod.fst ++ [x.1] <+: X.ks := by rw [← hpm, ← HKS.out]; exact prefix_map _ hsp
    obtain ⟨fn, tmps, assign, body, hy, hR⟩ := yield_any 0 (HY.out _ _ x.1 X' hj hpf)
    have HBY := Lib.hid hby
    have cy := (cellsOf hby).1 0
    have HPM := Lib.hid hpm
    simp only [encK] at hy
    obtain ⟨x1, x2⟩ := x
    simp only at *
    clear hby hsp hpf hpm hj
    gi_wp2_with fail
    refine hR.mono ?_
    rintro e W5 (⟨rfl, hj5, hm5⟩ | ⟨rfl, hjx5, hm5⟩)
    · have HJ5 := Lib.hid hj5
      have HM5 := Lib.hid hm5
      clear hj5 hm5 hR hy
      gi_wp2_with fail
      refine ⟨HM5.out.mono (fun k hk => ⟨fun h => h.elim (fun e => hk.2 (.inr (.inr e))) (fun e => hk.1 (.inr (HOM.out k e))), fun h => hk.2 (.inl h)⟩), ?_, ?_, hzy⟩
      · rw [HPM.out]; exact HJ5.out
      · exact HM5.out.blk HBY.out (fun h => h.2 (.inr (.inl rfl)))
    · have HJ5 := Lib.hid hjx5
      have HM5 := Lib.hid hm5
      clear hjx5 hm5 hR hy
      gi_wp2_with fail
      refine ⟨HM5.out.mono (fun k hk h => hk (.inl h)), ?_⟩
      show plusS _ _ _ _ _
      rw [HPM.out]; exact HJ5.out
  case hend =>
    intro Z D xs W' hD hZD hcase hdef
    obtain ⟨hxs, hj, _⟩ := hcase.elim (fun h => h) (fun h => h.2.elim)
    dsimp only
    go_wp2_with fail
    refine retM1 (D := D) rfl hdef (results_none rfl _ _ _) ⟨⟨_, rfl⟩, .inl ⟨_, _, ?_, HJ.out _ _ _ _ _ hj ((Mdh.refl _ W').putObj (.inl hZD) _) (fun k hk => .inl hk)⟩⟩
    show xs.map Prod.fst = X.ks
    rw [show xs = KL from hxs, HKS.out]
  case hret =>
    intro Z D pre W' hD hZD hsp hj hdef
    dsimp only
    go_wp2_with fail
    refine retM1 (D := D) rfl hdef (results_none rfl _ _ _) ⟨⟨_, rfl⟩, .inr ⟨_, _, ?_, HJx.out _ _ _ _ _ hj ((Mdh.refl _ W').putObj (.inl hZD) _) (fun k hk => .inl hk)⟩⟩
    show pre.map Prod.fst <+: X.ks
    rw [← HKS.out]
    exact prefix_map _ hsp

set_option maxRecDepth 40000 in
set_option maxHeartbeats 1000000 in
theorem SeqKeysN {w : World} {p : Option Addr} (h : IXN w p) (A : Nat → Prop) (hA : ∀ a, p = some a → A a.block) (bb : Nat) (hb : A bb) (hbb : w.cell? ⟨bb, 0, none⟩ = some (.pointer p)) :
    SeqZ Fence.wide 2 Try.prog 100 #[.pointer (some ⟨bb, 0, none⟩)] encK A (fun xs => xs = []) (fun pre => pre <+: []) w := by
  intro l J Jx W hW hJ hJx hY h0
  have hbW : W.cell? ⟨bb, 0, none⟩ = some (.pointer p) := hW.keep hbb (fun h => h hb)
  have lbb : bb < W.heap.size := World.block_lt_of_cell? W ⟨bb, 0, none⟩ hbW
  have HI : Hid (IXN W p) := Lib.hid (h.imp (fun h => h) (fun ⟨b, e, h⟩ => ⟨b, e, hW.blk h (fun hn => hn (hA _ e))⟩))
  have H0 : Hid (J (fun _ => False) [] (W.alloc (.cells #[.func (.yield l) #[] #[]] 131))) := Lib.hid (hJ _ _ _ _ _ h0 ((Mdh.refl _ W).alloc _) (fun k hk => .inl hk))
  clear hY h0 hW h hbb
  refine callsIn_wide.2 (calls_of_wp_marks Try.func100 rfl ?_)
  simp only [Try.ntmps100, List.size_toArray, List.length_cons, List.length_nil, Nat.reduceAdd, Nat.reduceSub, Array.replicate_succ, Array.replicate_zero, List.push_toArray, List.append_toArray, List.nil_append, List.cons_append]
  go_wp2_with (go_at_call 95; refine (made_no (HI.out.gr ((Gr.refl _).alloc _))).mono ?_; rintro e w1 ⟨rfl, rfl⟩)
  refine retM0 (results_none rfl _ _ _) rfl ?_
  exact ⟨⟨_, rfl⟩, .inl ⟨_, [], rfl, H0.out⟩⟩
theorem SeqKeysP {w : World} {p : Option Addr} {X : IX} {S : Nat → Prop} (h : IXP w p X S) (bb : Nat) (hbb : w.cell? ⟨bb, 0, none⟩ = some (.pointer p)) :
    SeqZ Fence.wide 2 Try.prog 100 #[.pointer (some ⟨bb, 0, none⟩)] encK (fun q => q = bb ∨ S q) (fun xs => xs = X.ks) (fun pre => pre <+: X.ks) w := by
  rcases h with ⟨b, rfl, h⟩ | ⟨h, rfl, h3⟩
  · exact SeqKeys h bb hbb
  · exact SeqKeysN h _ (fun a ha => .inr ((h3 _).2 ⟨a, ha, rfl⟩)) bb (.inl rfl) hbb
set_option maxRecDepth 40000 in
theorem Keys_any (p : Option Addr) (w : World) : Calls Try.prog 36 #[.pointer p] w fun e w' =>
    ∃ bb, e = .returned (.func (.func 100) #[] #[.pointer (some ⟨bb, 0, none⟩)]) ∧ w'.cell? ⟨bb, 0, none⟩ = some (.pointer p) ∧ w.heap.size ≤ bb ∧ Gr w w' := by
  go_enter Try.func36, Try.ntmps36
  go_wp2
  go_ret
  exact ⟨_, rfl, by simp [go_sem], Nat.le_refl _, by (repeat (first | (with_reducible exact Gr.refl _) | assumption | (with_reducible apply Gr.from_drew) | (with_reducible apply Gr.alloc) | (with_reducible apply Gr.drew) | (with_reducible refine Gr.trans ?_ (by assumption)) | (with_reducible refine Gr.setCell ?_ (by omega) _)))⟩
end Go.Proofs.Ytiidkehcfoajeaa
