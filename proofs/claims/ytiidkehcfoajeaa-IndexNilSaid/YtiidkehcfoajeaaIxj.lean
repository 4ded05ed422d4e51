/- An index, made or not: its slots, its iterators, the newest entry of a key. -/
import Derived.Test.YtiidkehcfoajeaaIxi
import Derived.Test.YtiidkehcfoajeaaRgx
set_option linter.unusedVariables false
set_option linter.unusedSimpArgs false
namespace Go.Proofs.Ytiidkehcfoajeaa
open Go.RowKit Go.Shelf
attribute [local go_sem] OvM cell_ovm obj_ovm
attribute [local go_sem] Oper.semAt_some

/-- What a pointer to an index points to; where none was made there is nothing. -/
def IXP (w : World) (p : Option Addr) (X : IX) (S : Nat → Prop) : Prop := (∃ b, p = some ⟨b, 0, none⟩ ∧ IXR w b X S) ∨ (IXN w p ∧ X = ⟨[], []⟩ ∧ ∀ k, S k ↔ ∃ a, p = some a ∧ k = a.block)
section
variable {w w' : World} {p : Option Addr} {X : IX} {S : Nat → Prop}
theorem IXP.mdh {T : Nat → Prop} (h : IXP w p X S) (m : Mdh T w w') (hs : ∀ k, S k → ¬ T k) : IXP w' p X S := by
  rcases h with ⟨b, e, h⟩ | ⟨rfl | ⟨b, rfl, h⟩, h2, h3⟩
  · exact .inl ⟨b, e, h.mdh m hs⟩
  · exact .inr ⟨.inl rfl, h2, h3⟩
  · exact .inr ⟨.inr ⟨b, rfl, m.blk h (hs b ((h3 b).2 ⟨_, rfl, rfl⟩))⟩, h2, h3⟩
theorem IXP.gr (h : IXP w p X S) (g : Gr w w') : IXP w' p X S := h.mdh (g.mdh fun _ => False) (fun _ _ h => h)
theorem IXP.lt (h : IXP w p X S) : ∀ k, S k → k < w.heap.size := by
  rcases h with ⟨b, e, h⟩ | ⟨h, h2, h3⟩
  · exact h.lt
  · intro k hk
    obtain ⟨a, rfl, rfl⟩ := (h3 k).1 hk
    rcases h with h | ⟨b, e, h⟩
    · cases h
    · cases e; exact blkLt h
theorem IXP.ok (h : IXP w p X S) : X.Wf := by
  rcases h with ⟨b, e, h⟩ | ⟨_, rfl, _⟩
  · exact h.ok
  · exact new_wf (n := 0) (by decide)
end
theorem none_wf : (⟨[], []⟩ : IX).Wf := new_wf (n := 0) (by decide)

set_option maxRecDepth 40000 in
set_option maxHeartbeats 1000000 in
theorem SeqOfN {w : World} {p : Option Addr} (h : IXN w p) (A : Nat → Prop) (hA : ∀ a, p = some a → A a.block) (k : ByteArray) (bb bk : Nat) (hb : A bb) (hk : A bk) (hbb : w.cell? ⟨bb, 0, none⟩ = some (.pointer p)) :
    SeqZ Fence.wide 2 Try.prog 94 #[.pointer (some ⟨bb, 0, none⟩), .pointer (some ⟨bk, 0, none⟩)] encE A (fun xs => xs = []) (fun pre => pre <+: []) w := by
  intro l J Jx W hW hJ hJx hY h0
  have hbW : W.cell? ⟨bb, 0, none⟩ = some (.pointer p) := hW.keep hbb (fun h => h hb)
  have HI : Hid (IXN W p) := Lib.hid (h.imp (fun h => h) (fun ⟨b, e, h⟩ => ⟨b, e, hW.blk h (fun hn => hn (hA _ e))⟩))
  have H0 := Lib.hid h0
  clear hY h0 hW h hbb
  refine callsIn_wide.2 ?_
  go_enter Try.func94, Try.ntmps94
  go_wp2_with (go_at_call 95; refine (made_no HI.out).mono ?_; rintro e w1 ⟨rfl, rfl⟩)
  go_end0
  exact ⟨⟨_, rfl⟩, .inl ⟨_, [], rfl, H0.out⟩⟩
theorem SeqOfP {w : World} {p : Option Addr} {X : IX} {S : Nat → Prop} (h : IXP w p X S) (k : ByteArray) (bb bk : Nat) (hbb : w.cell? ⟨bb, 0, none⟩ = some (.pointer p)) (hbk : w.cell? ⟨bk, 0, none⟩ = some (.string k)) :
    SeqZ Fence.wide 2 Try.prog 94 #[.pointer (some ⟨bb, 0, none⟩), .pointer (some ⟨bk, 0, none⟩)] encE (fun q => q = bb ∨ q = bk ∨ S q) (fun xs => xs = X.of k) (fun pre => pre <+: X.of k) w := by
  rcases h with ⟨b, rfl, h⟩ | ⟨h, rfl, h3⟩
  · exact SeqOf h k bb bk hbb hbk
  · exact SeqOfN h _ (fun a ha => .inr (.inr ((h3 _).2 ⟨a, ha, rfl⟩))) k bb bk (.inl rfl) (.inr (.inl rfl)) hbb
set_option maxRecDepth 40000 in
theorem Of_any (p : Option Addr) (k : ByteArray) (w : World) : Calls Try.prog 31 #[.pointer p, .string k] w fun e w' =>
    ∃ bb bk, e = .returned (.func (.func 94) #[] #[.pointer (some ⟨bb, 0, none⟩), .pointer (some ⟨bk, 0, none⟩)]) ∧ w'.cell? ⟨bb, 0, none⟩ = some (.pointer p) ∧ w'.cell? ⟨bk, 0, none⟩ = some (.string k) ∧ w.heap.size ≤ bb ∧ w.heap.size ≤ bk ∧ Gr w w' := by
  go_enter Try.func31, Try.ntmps31
  go_wp2
  go_ret
  exact ⟨_, _, rfl, by simp [go_sem], by simp [go_sem], Nat.le_refl _, by simp, by (repeat (first | (with_reducible exact Gr.refl _) | assumption | (with_reducible apply Gr.from_drew) | (with_reducible apply Gr.alloc) | (with_reducible apply Gr.drew) | (with_reducible refine Gr.trans ?_ (by assumption)) | (with_reducible refine Gr.setCell ?_ (by omega) _)))⟩

def zE : En := ⟨0, ⟨#[]⟩, false, 0, 0, 0⟩
def newV : List En → Value
  | [] => .tuple #[enV zE, .bool false]
  | e :: _ => .tuple #[enV e, .bool true]
theorem blk6 {w : World} {b : Nat} {x0 x1 x2 x3 x4 x5 y0 y1 y2 y3 y4 y5 : Value} {t : TypeId} (h : w.heap[b]? = some (.cells #[x0, x1, x2, x3, x4, x5] t)) :
    ((((((w.setCell ⟨b, 0, none⟩ y0).setCell ⟨b, 1, none⟩ y1).setCell ⟨b, 2, none⟩ y2).setCell ⟨b, 3, none⟩ y3).setCell ⟨b, 4, none⟩ y4).setCell ⟨b, 5, none⟩ y5).heap[b]? = some (.cells #[y0, y1, y2, y3, y4, y5] t) :=
  blkSet (blkSet (blkSet (blkSet (blkSet (blkSet h)))))

set_option maxRecDepth 40000 in
set_option maxHeartbeats 4000000 in
theorem Newest_any {w : World} {p : Option Addr} {X : IX} {S : Nat → Prop} (h : IXP w p X S) (k : ByteArray) : Calls Try.prog 65 #[.pointer p, .string k] w fun e w' => e = .returned (newV (X.of k)) ∧ Gr w w' := by
  have H := Lib.hid h
  clear h
  refine calls_of_wp_marks Try.func65 rfl ?_
  simp only [Try.ntmps65, List.size_toArray, List.length_cons, List.length_nil, Nat.reduceAdd, Nat.reduceSub, Array.replicate_succ, Array.replicate_zero, List.push_toArray, List.append_toArray, List.nil_append, List.cons_append]
  go_wp2_with fail
  refine (Of_any p k _).mono ?_
  rintro e w1 ⟨bb, bk, rfl, h1, h2, h3, h4, hg⟩
  obtain ⟨w0, hw0⟩ : ∃ y, y = (w.alloc (.cells #[.int .i64 0, .string ⟨#[]⟩, .bool false, .int .i64 0, .int .i64 0, .int .i64 0] 23)).alloc (.cells #[.bool false] 4) := ⟨_, rfl⟩
  rw [← hw0] at hg h3 h4
  obtain ⟨b4, hb4⟩ : ∃ q, q = w.heap.size := ⟨_, rfl⟩
  have g0 : Gr w w0 := by rw [hw0]; exact ((Gr.refl w).alloc _).alloc _
  have x4 : w1.heap[b4]? = some (.cells #[.int .i64 0, .string ⟨#[]⟩, .bool false, .int .i64 0, .int .i64 0, .int .i64 0] 23) := hg.blk (by rw [hw0, hb4]; exact blkOld (blkNew _ _))
  have x5 : w1.heap[b4 + 1]? = some (.cells #[.bool false] 4) := hg.blk (by rw [hw0, hb4]; have := blkNew (w.alloc (.cells #[.int .i64 0, .string ⟨#[]⟩, .bool false, .int .i64 0, .int .i64 0, .int .i64 0] 23)) (.cells #[.bool false] 4); rwa [World.size_alloc] at this)
  have HW : Hid (b4 = w.heap.size ∧ w0.heap.size = w.heap.size + 2 ∧ Gr w w1 ∧ w0.heap.size ≤ bb ∧ w0.heap.size ≤ bk) := Lib.hid ⟨hb4, by rw [hw0]; simp, g0.trans hg, h3, h4⟩
  have HI := Lib.hid (H.out.gr HW.out.2.2.1)
  have HSEQ := Lib.hid (SeqOfP HI.out k bb bk h1 h2)
  have HX := Lib.hid (And.intro x4 x5)
  have HA : Hid (∀ q, (q = bb ∨ q = bk ∨ S q) → q < w1.heap.size ∧ q ≠ b4 ∧ q ≠ b4 + 1) := Lib.hid (by
    obtain ⟨m1, m2, m3, m4, m5⟩ := HW.out
    have l1 := World.block_lt_of_cell? w1 ⟨bb, 0, none⟩ h1
    have l2 := World.block_lt_of_cell? w1 ⟨bk, 0, none⟩ h2
    simp only at l1 l2
    rintro q (rfl | rfl | hq)
    · exact ⟨l1, by omega, by omega⟩
    · exact ⟨l2, by omega, by omega⟩
    · have := H.out.lt q hq
      have := m3.sz
      exact ⟨by omega, by omega, by omega⟩)
  clear h1 h2 h3 h4 hg hw0 g0 x4 x5
  rw [← hb4]
  clear hb4
  go_wp2_with fail
  apply wp_rangeFunc_zx (gf := 94) (lb := #[.pointer (some ⟨bb, 0, none⟩), .pointer (some ⟨bk, 0, none⟩)]) rfl (enters_of Try.func94 (by kernel_rfl) rfl) HSEQ.out (Mdh.refl _ w1) (fun q hq => (HA.out q hq).1) (fun _ => rfl)
    (fun Z pre X' => pre = [] ∧ (X'.heap[b4]? = some (.cells #[.int .i64 0, .string ⟨#[]⟩, .bool false, .int .i64 0, .int .i64 0, .int .i64 0] 23) ∧ ¬ Z b4) ∧ (X'.heap[b4 + 1]? = some (.cells #[.bool false] 4) ∧ ¬ Z (b4 + 1)) ∧ Frm w1 (fun q => q = b4 ∨ q = b4 + 1) Z X')
    (fun _ _ _ => False)
    (fun Z pre X' => ∃ x, pre = [x] ∧ (X'.heap[b4]? = some (.cells #[.int .i64 x.seq, .string x.key, .bool x.del, .int .i64 x.slot, .int .i64 x.off, .int .i64 x.size] 23) ∧ ¬ Z b4) ∧ (X'.heap[b4 + 1]? = some (.cells #[.bool true] 4) ∧ ¬ Z (b4 + 1)) ∧ Frm w1 (fun q => q = b4 ∨ q = b4 + 1) Z X')
    ((Apart.pure _).and ((Apart.block b4 (fun _ => _)).and ((Apart.block (b4 + 1) (fun _ => _)).and (Frm.apart _ _)))) apart_no
    (Apart.ex fun x => (Apart.pure _).and ((Apart.block b4 (fun _ => _)).and ((Apart.block (b4 + 1) (fun _ => _)).and (Frm.apart _ _))))
    ⟨rfl, ⟨HX.out.1, fun h => h⟩, ⟨HX.out.2, fun h => h⟩, Frm.refl _ _⟩
    (fun Z pre X' h => ⟨_, h.2.2.2⟩) (fun x => .cells #[.int .i64 x.seq, .string x.key, .bool x.del, .int .i64 x.slot, .int .i64 x.off, .int .i64 x.size] 23)
    _ ?assign ?body ?hend ?hret
  case assign =>
    intro l x bx X' K hbx hK
    dsimp only [encE, enV]
    gi_wp2
    rw [← hbx]
    exact hK
  case body =>
    intro l Z pre x bx X' hI hbx hx hzx hzl hlr hsp
    obtain ⟨rfl, ⟨h4, hz4⟩, ⟨h5, hz5⟩, hF⟩ := hI
    have H4 := Lib.hid h4
    have H5 := Lib.hid h5
    have HF := Lib.hid hF
    have c0 := (cellsOf hx).1
    obtain ⟨c4, f4⟩ := cellsOf h4
    obtain ⟨c5, f5⟩ := cellsOf h5
    have m4 : b4 + 1 ≠ b4 := by omega
    have m5 : b4 ≠ b4 + 1 := by omega
    have n4 : b4 ≠ bx := by have := blkLt HX.out.1; omega
    have n5 : b4 + 1 ≠ bx := by have := blkLt HX.out.2; omega
    clear hx h4 h5 hF hsp
    gi_wp2
    have hz : ∀ q, q = b4 ∨ q = b4 + 1 → ¬ Z q := fun q hq => hq.elim (fun e => e ▸ hz4) (fun e => e ▸ hz5)
    have HM : Hid (Mdh (fun q => q = b4 ∨ q = b4 + 1) X' (((((((X'.setCell ⟨b4, 0, none⟩ (.int .i64 x.seq)).setCell ⟨b4, 1, none⟩ (.string x.key)).setCell ⟨b4, 2, none⟩ (.bool x.del)).setCell ⟨b4, 3, none⟩ (.int .i64 x.slot)).setCell ⟨b4, 4, none⟩ (.int .i64 x.off)).setCell ⟨b4, 5, none⟩ (.int .i64 x.size)).setCell ⟨b4 + 1, 0, none⟩ (.bool true))) := Lib.hid
      ((((((((Mdh.refl _ X').setCell (.inl rfl) _).setCell (.inl rfl) _).setCell (.inl rfl) _).setCell (.inl rfl) _).setCell (.inl rfl) _).setCell (.inl rfl) _).setCell (.inr rfl) _)
    exact ⟨HM.out.mono hz, x, rfl, ⟨blkSetO (blk6 H4.out) (by simp), hz4⟩, ⟨blkSet (j := 0) (u := .bool true) (blkSetO (blkSetO (blkSetO (blkSetO (blkSetO (blkSetO H5.out (by simp)) (by simp)) (by simp)) (by simp)) (by simp)) (by simp)), hz5⟩, HF.out.step HM.out (fun q hq => .inl hq)⟩
  case hend =>
    intro Z D xs X' hD hZD hcase hdef
    obtain ⟨hxs, hnil, ⟨h4, hz4⟩, ⟨h5, hz5⟩, hF⟩ := hcase.elim (fun h => h) (fun h => h.2.elim)
    have HXS : Hid (X.of k = []) := Lib.hid (by rw [← hnil]; exact hxs.symm)
    have H4 := Lib.hid h4
    have H5 := Lib.hid h5
    have HF := Lib.hid hF
    have HD := Lib.hid (And.intro hD hdef)
    obtain ⟨c4, f4⟩ := cellsOf h4
    obtain ⟨c5, f5⟩ := cellsOf h5
    have m4 : b4 + 1 ≠ b4 := by omega
    have m5 : b4 ≠ b4 + 1 := by omega
    clear hxs hnil h4 h5 hF hcase hD hdef
    dsimp only
    go_wp2_with fail
    have n4 : D ≠ b4 := by have := blkLt HX.out.1; have := HD.out.1; omega
    have n5 : D ≠ b4 + 1 := by have := blkLt HX.out.2; have := HD.out.1; omega
    have h4 := blkSetO (p := ⟨b4 + 1, 0, none⟩) (u := .bool false) (blk6 (y0 := .int .i64 0) (y1 := .string ⟨#[]⟩) (y2 := .bool false) (y3 := .int .i64 0) (y4 := .int .i64 0) (y5 := .int .i64 0) H4.out) m5
    have HM : Mdh (fun q => q = b4 ∨ q = b4 + 1) X' _ := ((((((((Mdh.refl _ X').setCell (p := ⟨b4, 0, none⟩) (.inl rfl) (.int .i64 0)).setCell (p := ⟨b4, 1, none⟩) (.inl rfl) (.string ⟨#[]⟩)).setCell (p := ⟨b4, 2, none⟩) (.inl rfl) (.bool false)).setCell (p := ⟨b4, 3, none⟩) (.inl rfl) (.int .i64 0)).setCell (p := ⟨b4, 4, none⟩) (.inl rfl) (.int .i64 0)).setCell (p := ⟨b4, 5, none⟩) (.inl rfl) (.int .i64 0)).setCell (p := ⟨b4 + 1, 0, none⟩) (.inr rfl) (.bool false))
    have h5 : (((((((X'.setCell ⟨b4, 0, none⟩ (.int .i64 0)).setCell ⟨b4, 1, none⟩ (.string ⟨#[]⟩)).setCell ⟨b4, 2, none⟩ (.bool false)).setCell ⟨b4, 3, none⟩ (.int .i64 0)).setCell ⟨b4, 4, none⟩ (.int .i64 0)).setCell ⟨b4, 5, none⟩ (.int .i64 0)).setCell ⟨b4 + 1, 0, none⟩ (.bool false)).heap[b4 + 1]? = some (.cells #[.bool false] 4) :=
      blkSet (j := 0) (u := .bool false) (blkSetO (blkSetO (blkSetO (blkSetO (blkSetO (blkSetO H5.out m4) m4) m4) m4) m4) m4)
    have hdef := HM.blk HD.out.2 (fun h => h.elim n4 n5)
    have h4' := (World.putObj_heap_other (o := .deferred none) n4.symm).trans h4
    have h5' := (World.putObj_heap_other (o := .deferred none) n5.symm).trans h5
    obtain ⟨d4, _⟩ := cellsOf h4'
    obtain ⟨d5, _⟩ := cellsOf h5'
    refine retM1 (D := D) (v := .tuple #[enV zE, .bool false]) rfl hdef ?_ ⟨by rw [HXS.out]; rfl, ?_⟩
    · simp [results, Try.results65, go_sem, d4, d5, enV, zE]
    · obtain ⟨e1, e2, e3, e4, e5⟩ := HW.out
      exact (e3.md (HF.out.m.trans HM) (fun q hq => by omega)).putObj (by have := e3.sz; have := HD.out.1; omega) _
  case hret =>
    intro Z D pre X' hD hZD hsp hIr hdef
    obtain ⟨x, rfl, ⟨h4, hz4⟩, ⟨h5, hz5⟩, hF⟩ := hIr
    obtain ⟨t, hX⟩ := hsp
    have HN : Hid (newV (X.of k) = .tuple #[enV x, .bool true]) := Lib.hid (by rw [← hX]; rfl)
    have n4 : D ≠ b4 := by have := blkLt HX.out.1; omega
    have n5 : D ≠ b4 + 1 := by have := blkLt HX.out.2; omega
    have h4' : (X'.putObj D (.deferred none)).heap[b4]? = _ := (World.putObj_heap_other n4.symm).trans h4
    have h5' : (X'.putObj D (.deferred none)).heap[b4 + 1]? = _ := (World.putObj_heap_other n5.symm).trans h5
    obtain ⟨c4, _⟩ := cellsOf h4'
    obtain ⟨c5, _⟩ := cellsOf h5'
    dsimp only
    go_wp2_with fail
    refine retM1 (D := D) (v := .tuple #[enV x, .bool true]) rfl hdef ?_ ⟨by rw [HN.out], ?_⟩
    · simp [results, Try.results65, go_sem, c4, c5, enV]
    · obtain ⟨e1, e2, e3, e4, e5⟩ := HW.out
      exact (e3.md hF.m (fun q hq => by omega)).putObj (by have := e3.sz; omega) _
end Go.Proofs.Ytiidkehcfoajeaa
