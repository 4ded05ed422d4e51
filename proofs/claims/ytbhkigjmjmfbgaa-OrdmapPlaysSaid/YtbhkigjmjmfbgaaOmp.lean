/- Contract of 'pairs': what an iterator over pairs of strings yields, in two rows. -/
import Derived.Test.YtbhkigjmjmfbgaaOmt
import Derived.Test.YtbhkigjmjmfbgaaOmE
import Derived.Test.YtbhkigjmjmfbgaaTl
set_option linter.unusedVariables false
set_option linter.unusedSimpArgs false
namespace Go.Proofs.Ytbhkigjmjmfbgaa
open Go.RowKit Go.Shelf
attribute [local go_sem] OvM cell_ovm obj_ovm
attribute [local go_sem] Oper.semAt_some

/-- Two boxed rows, to each of which one element is appended, and the slices stored. -/
theorem two_app {W wA xA wB xB : World} {Z : Nat → Prop} {b6 b7 : Nat} {t e : TypeId} {v2 v3 : Value} {ks vs : List Value} {x y : Value} {g1 c1 g2 c2 : Nat}
    (h6 : BoxRow W Z b6 t e v2 ks) (h7 : BoxRow W Z b7 t e v3 vs) (hap : ∀ g, v2.ownBlock = some g → v3.ownBlock ≠ some g) (hne : b6 ≠ b7)
    (h67 : ∀ g, v2.ownBlock = some g → b7 < g) (h76 : ∀ g, v3.ownBlock = some g → b6 < g) (hZ : ∀ k, Z k → k < W.heap.size)
    (gA : Gr W wA) (o1 : Own xA e 1 (.slice (some ⟨g1, 0, none⟩) (ks.length + 1) c1) (ks.length + 1) (ks ++ [x])) (b1 : v2.ownBlock = some g1 ∨ wA.heap.size ≤ g1) (m1 : wA.grownBy xA v2.ownBlock)
    (gB : Gr xA wB) (o2 : Own xB e 1 (.slice (some ⟨g2, 0, none⟩) (vs.length + 1) c2) (vs.length + 1) (vs ++ [y])) (b2 : v3.ownBlock = some g2 ∨ wB.heap.size ≤ g2) (m2 : wB.grownBy xB v3.ownBlock) :
    (xB.heap[b6]? = some (.cells #[v2] t) ∧ xB.heap[b7]? = some (.cells #[v3] t) ∧ Mdh (fun k => v2.ownBlock = some k ∨ v3.ownBlock = some k) W xB) ∧
    BoxRow ((xB.setCell ⟨b6, 0, none⟩ (.slice (some ⟨g1, 0, none⟩) (ks.length + 1) c1)).setCell ⟨b7, 0, none⟩ (.slice (some ⟨g2, 0, none⟩) (vs.length + 1) c2)) Z b6 t e (.slice (some ⟨g1, 0, none⟩) (ks.length + 1) c1) (ks ++ [x]) ∧
    BoxRow ((xB.setCell ⟨b6, 0, none⟩ (.slice (some ⟨g1, 0, none⟩) (ks.length + 1) c1)).setCell ⟨b7, 0, none⟩ (.slice (some ⟨g2, 0, none⟩) (vs.length + 1) c2)) Z b7 t e (.slice (some ⟨g2, 0, none⟩) (vs.length + 1) c2) (vs ++ [y]) ∧
    Mdh (fun k => k = b6 ∨ k = b7 ∨ v2.ownBlock = some k ∨ v3.ownBlock = some k) W ((xB.setCell ⟨b6, 0, none⟩ (.slice (some ⟨g1, 0, none⟩) (ks.length + 1) c1)).setCell ⟨b7, 0, none⟩ (.slice (some ⟨g2, 0, none⟩) (vs.length + 1) c2)) ∧
    g1 ≠ g2 ∧ b6 < g1 ∧ b7 < g1 ∧ b6 < g2 ∧ b7 < g2 ∧ (v2.ownBlock = some g1 ∨ W.heap.size ≤ g1) ∧ (v3.ownBlock = some g2 ∨ W.heap.size ≤ g2) := by
  have l6 := h6.lt
  have l7 := h7.lt
  have sA := gA.sz
  have sB := gB.sz
  have s1 := m1.size
  have s2 := m2.size
  have mA : Mdh (fun k => v2.ownBlock = some k) W xA := ((Mdh.refl _ W).gr gA).grown m1 (fun r hr => hr)
  have mB : Mdh (fun k => v3.ownBlock = some k) xA xB := ((Mdh.refl _ xA).gr gB).grown m2 (fun r hr => hr)
  have mAB : Mdh (fun k => v2.ownBlock = some k ∨ v3.ownBlock = some k) W xB := (mA.mono fun k h => .inl h).trans (mB.mono fun k h => .inr h)
  have x6 : xB.heap[b6]? = some (.cells #[v2] t) := mAB.blk h6.box (fun h => h.elim (fun h => by have := (h6.rz _ h).2; omega) (fun h => by have := h76 _ h; omega))
  have x7 : xB.heap[b7]? = some (.cells #[v3] t) := mAB.blk h7.box (fun h => h.elim (fun h => by have := h67 _ h; omega) (fun h => by have := (h7.rz _ h).2; omega))
  have lg1 : g1 < xA.heap.size := o1.lt rfl
  have q1 : b6 < g1 ∧ b7 < g1 := b1.elim (fun h => ⟨(h6.rz _ h).2, h67 _ h⟩) (fun h => by omega)
  have q2 : b6 < g2 ∧ b7 < g2 := b2.elim (fun h => ⟨h76 _ h, (h7.rz _ h).2⟩) (fun h => by omega)
  have hv3 : v3.ownBlock ≠ some g1 := b1.elim (fun h => hap _ h) (fun h hc => by have := h7.own.lt hc; omega)
  have q12 : g1 ≠ g2 := by
    rintro rfl
    rcases b2 with h | h
    · exact hv3 h
    · omega
  have o1' : Own xB e 1 (.slice (some ⟨g1, 0, none⟩) (ks.length + 1) c1) (ks.length + 1) (ks ++ [x]) := o1.mdh mB (fun k hk => (show g1 = k by simpa [Value.ownBlock] using hk) ▸ hv3)
  have z1 : ¬ Z g1 := b1.elim (fun h => (h6.rz _ h).1) (fun h hk => by have := hZ _ hk; omega)
  have z2 : ¬ Z g2 := b2.elim (fun h => (h7.rz _ h).1) (fun h hk => by have := hZ _ hk; omega)
  refine ⟨⟨x6, x7, mAB⟩, ⟨?_, h6.nz, ?_, fun k hk => ?_⟩, ⟨?_, h7.nz, ?_, fun k hk => ?_⟩, ?_, q12, q1.1, q1.2, q2.1, q2.2, b1.imp id (fun h => by omega), b2.imp id (fun h => by omega)⟩
  · exact blkSetO (blk1 x6) hne
  · have h := (o1'.other (p := ⟨b6, 0, none⟩) (by simp [Value.ownBlock]; omega) (.slice (some ⟨g1, 0, none⟩) (ks.length + 1) c1)).other (p := ⟨b7, 0, none⟩) (by simp [Value.ownBlock]; omega) (.slice (some ⟨g2, 0, none⟩) (vs.length + 1) c2)
    simpa using h
  · obtain rfl : g1 = k := by simpa [Value.ownBlock] using hk
    exact ⟨z1, q1.1⟩
  · exact blk1 (blkSetO x7 (Ne.symm hne))
  · have h := (o2.other (p := ⟨b6, 0, none⟩) (by simp [Value.ownBlock]; omega) (.slice (some ⟨g1, 0, none⟩) (ks.length + 1) c1)).other (p := ⟨b7, 0, none⟩) (by simp [Value.ownBlock]; omega) (.slice (some ⟨g2, 0, none⟩) (vs.length + 1) c2)
    simpa using h
  · obtain rfl : g2 = k := by simpa [Value.ownBlock] using hk
    exact ⟨z2, q2.2⟩
  · exact ((mAB.mono fun k h => .inr (.inr h)).setCell (p := ⟨b6, 0, none⟩) (.inl rfl) _).setCell (p := ⟨b7, 0, none⟩) (.inr (.inl rfl)) _

theorem ksL_len (L : List Itss) : (ksL L).length = L.length := by simp [ksL]
theorem vsL_len (L : List Itss) : (vsL L).length = L.length := by simp [vsL]
theorem own_drew {w : World} {t : TypeId} {v : Value} {n : Nat} {xs : List Value} (h : Own w t 1 v n xs) : Own w.drew t 1 v n xs := h.gr (Gr.drew (Gr.refl _))
theorem own_put {w : World} {t : TypeId} {v : Value} {n D : Nat} {xs : List Value} {d : Option (List Deferred)} (h : Own w t 1 v n xs) (hd : w.heap[D]? = some (.deferred d)) (o : Obj) : Own (w.putObj D o) t 1 v n xs :=
  h.mdh ((Mdh.refl (fun k => k = D) w).putObj rfl o) (fun k hk e => by
    subst e
    rcases h.2 with ⟨rfl, _⟩ | ⟨g, cap, cur, rfl, _, hg, _⟩
    · cases hk
    · obtain rfl : g = k := by simpa [Value.ownBlock] using hk
      rw [hg] at hd; cases hd)
theorem news_of {w : World} {b : Nat} {v : Value} {t : TypeId} (h : w.heap[b]? = some (.cells #[v] t)) : ∀ j u, [v][j]? = some u → w.cell? ((⟨b, 0, none⟩ : Addr).add j) = some u := by
  intro j u hj
  match j with
  | 0 => simp at hj; subst hj; exact (cellsOf h).1 0
  | j + 1 => simp at hj
def PairsPost (T : List Itss) (w : World) (e : Ending) (w' : World) : Prop := ∃ v1 v2, e = .returned (.tuple #[v1, v2]) ∧ Own w' 9 1 v1 T.length (ksL T) ∧ Own w' 9 1 v2 T.length (vsL T) ∧ Gr w w'

set_option maxRecDepth 40000 in
set_option maxHeartbeats 4000000 in
theorem pairs_any (gf : Nat) (lb : Array Value) (A : Nat → Prop) (T : List Itss) (n : Int) (hn : (T.length : Int) < n) (ht : T.length ≤ 1000000) (w : World) (eg : ∀ args w, (callFunc gf args).run Try.prog w = .ok (.enter gf args) w)
    (hseq : SeqZ Fence.wide 2 Try.prog gf lb encOss A (fun xs => xs = T) (fun pre => pre <+: T) w) (hA : ∀ k, A k → k < w.heap.size) :
    Calls Try.prog 99 #[.func (.func gf) #[] lb, .int .i64 n] w (PairsPost T w) := by
  obtain ⟨i0, hi, hz0, hz1, hz2⟩ := info_parts Try.infoStr
  have hn0 : ¬ n ≤ 0 := by omega
  refine calls_of_wp_marks Try.func99 rfl ?_
  simp only [Try.ntmps99, List.size_toArray, List.length_cons, List.length_nil, Nat.reduceAdd, Nat.reduceSub, Array.replicate_succ, Array.replicate_zero, List.push_toArray, List.append_toArray, List.nil_append, List.cons_append]
  go_wp2_with fail
  refine (yieldsTwoss _ _ _).mono ?_
  rintro e u ⟨rfl, hu⟩
  obtain ⟨b0, hb0⟩ : ∃ b, b = w.heap.size := ⟨_, rfl⟩
  have x0 : u.heap[b0]? = some (.cells #[.int .i64 n] 3) := by rw [← hu, hb0]; exact blkOld (blkOld (blkNew _ _))
  have x6 : u.heap[b0 + 1]? = some (.cells #[.slice none 0 0] 143) := by rw [← hu, hb0]; exact blkOld (by have := blkNew (w.alloc (.cells #[.int .i64 n] 3)) (.cells #[.slice none 0 0] 143); rwa [World.size_alloc] at this)
  have x7 : u.heap[b0 + 1 + 1]? = some (.cells #[.slice none 0 0] 143) := by rw [← hu, hb0]; have := blkNew ((w.alloc (.cells #[.int .i64 n] 3)).alloc (.cells #[.slice none 0 0] 143)) (.cells #[.slice none 0 0] 143); rwa [World.size_alloc, World.size_alloc] at this
  have gu : Gr w u := by rw [← hu]; exact (((Gr.refl w).alloc _).alloc _).alloc _
  rw [← hb0]
  have hlt7 : b0 + 1 + 1 < u.heap.size := blkLt x7
  have HAU : Hid (∀ k, A k → k < u.heap.size) := Lib.hid (fun k hk => Nat.lt_of_lt_of_le (hA k hk) gu.sz)
  have HA0 : Hid (∀ k, A k → k < b0) := Lib.hid (fun k hk => by rw [hb0]; exact hA k hk)
  have HGU := Lib.hid gu
  have HB0 := Lib.hid hb0
  have HLT := Lib.hid hlt7
  have X0 := Lib.hid x0
  clear hu hb0 hA hlt7 x0
  go_wp2_with fail
  apply wp_rangeFunc_zb (gf := gf) (lb := lb) rfl eg hseq (gu.mdh _) HAU.out (fun _ => rfl)
    (fun Z pre W => (∃ v2 v3, (BoxRow W Z (b0 + 1) 143 9 v2 (ksL pre) ∧ BoxRow W Z (b0 + 1 + 1) 143 9 v3 (vsL pre)) ∧ ((∀ g, v2.ownBlock = some g → u.heap.size ≤ g) ∧ (∀ g, v3.ownBlock = some g → u.heap.size ≤ g) ∧ ∀ g, v2.ownBlock = some g → v3.ownBlock ≠ some g)) ∧ Frm u (fun k => k = b0 + 1 ∨ k = b0 + 1 + 1) Z W)
    (fun _ _ _ => False) (fun _ _ _ => False)
    ((Apart.ex fun v2 => Apart.ex fun v3 => ((BoxRow.apart _ _ _ v2 _).and (BoxRow.apart _ _ _ v3 _)).and (Apart.pure _)).and (Frm.apart _ _)) apart_no apart_no
    ⟨⟨_, _, ⟨⟨x6, fun h => h, ⟨rfl, .inl ⟨rfl, rfl⟩⟩, fun g hg => (by cases hg)⟩, ⟨x7, fun h => h, ⟨rfl, .inl ⟨rfl, rfl⟩⟩, fun g hg => (by cases hg)⟩⟩, fun g hg => (by cases hg), fun g hg => (by cases hg), fun g hg => (by cases hg)⟩, Frm.refl _ _⟩
    _ ?assign ?body ?hend ?hret
  case assign =>
    intro l x W K hK
    dsimp only [encOss]
    gi_wp2
    exact hK
  case hret => intro _ _ _ _ _ _ _ h; exact h.elim
  case body =>
    intro l Z pre x W hI hsp
    obtain ⟨⟨v2, v3, ⟨h6, h7⟩, hg2, hg3, hap⟩, hF⟩ := hI
    have hl2 : (ksL pre).length = pre.length := by simp [ksL]
    have hl3 : (vsL pre).length = pre.length := by simp [vsL]
    obtain ⟨a2, c2, hv2, hle2, hcap2⟩ := own_val h6.own
    obtain ⟨a3, c3, hv3, hle3, hcap3⟩ := own_val h7.own
    rw [hl2] at hv2 hle2
    rw [hl3] at hv3 hle3
    have hpl : pre.length < T.length := by have := hsp.length_le; simp at this; omega
    obtain ⟨S, hS⟩ : ∃ S : Nat → Prop, S = fun k => v2.ownBlock = some k ∨ v3.ownBlock = some k := ⟨_, rfl⟩
    have hSlt : ∀ k, S k → k < W.heap.size := by rw [hS]; rintro k (h | h); exact h6.own.lt h; exact h7.own.lt h
    have nS6 : ¬ S (b0 + 1) := by rw [hS]; rintro (h | h); have := (h6.rz _ h).2; omega; have := hg3 _ h; have := HLT.out; omega
    have nS7 : ¬ S (b0 + 1 + 1) := by rw [hS]; rintro (h | h); have := hg2 _ h; have := HLT.out; omega; have := (h7.rz _ h).2; omega
    have H6 := Lib.hid h6
    have H7 := Lib.hid h7
    have HF := Lib.hid hF
    have HAP := Lib.hid (And.intro hg2 (And.intro hg3 hap))
    have HS := Lib.hid hS
    have HSI : Hid (∀ k, ((Value.slice a2 pre.length c2).ownBlock = some k ∨ (Value.slice a3 pre.length c3).ownBlock = some k) → S k) := Lib.hid (by rw [hS, hv2, hv3]; exact fun k h => h)
    have HSP := Lib.hid hsp
    have HL := Lib.hid (And.intro hl2 hl3)
    have c6 := h6.cell
    have c7 := h7.cell
    have hne : ¬ ((pre.length : Int) + 1 = n) := by omega
    unfold maxLen at hcap2 hcap3
    clear h6 h7 hF hg2 hg3 hap hS hsp hl2 hl3 x6 x7 hseq eg gu
    subst hv2 hv3
    have mixed : Try.prog.follows .mixedOrders = true := by kernel_rfl
    gi_wp2_with fail
    have HG := Gr.refl W.drew
    refine wpIn_region_flt 8 (fun _ => trivial) rfl (S) [18, 22] [] (by kernel_rfl) (by kernel_rfl) (by decide) (by kernel_rfl) (hSlt) ?_
    simp only [List.take_succ_cons, List.take_zero, List.drop_succ_cons, List.drop_zero]
    refine flo_seg 2 rfl ?_
    simp only [List.take_succ_cons, List.take_zero, List.drop_succ_cons, List.drop_zero]
    repeat (go_big_quiet_step (fail))
    refine wpQuiet_nil ?_
    refine flo_float (fun b => .slice (some ⟨b, 0, none⟩) 1 1) (_) rfl rfl (fun w => by simp [go_sem]; rfl) (fun wf1 fb1 hgf1 fl1 fh1 ft1 fo1 => ?_)
    (try replace HG := Gr.trans (Gr.trans HG (by (repeat (first | (with_reducible exact Gr.refl _) | assumption | (with_reducible apply Gr.from_drew) | (with_reducible apply Gr.alloc) | (with_reducible apply Gr.drew) | (with_reducible refine Gr.trans ?_ (by assumption)) | (with_reducible refine Gr.setCell ?_ (by omega) _))))) hgf1)
    refine flo_effg rfl rfl rfl (fun wg2 hgg2 K hK => ?_)
    (try replace HG := Gr.trans (Gr.trans HG (by (repeat (first | (with_reducible exact Gr.refl _) | assumption | (with_reducible apply Gr.from_drew) | (with_reducible apply Gr.alloc) | (with_reducible apply Gr.drew) | (with_reducible refine Gr.trans ?_ (by assumption)) | (with_reducible refine Gr.setCell ?_ (by omega) _))))) hgg2)
    (try replace fo1 := Gr.blk hgg2 (Gr.blk (by (repeat (first | (with_reducible exact Gr.refl _) | assumption | (with_reducible apply Gr.from_drew) | (with_reducible apply Gr.alloc) | (with_reducible apply Gr.drew) | (with_reducible refine Gr.trans ?_ (by assumption)) | (with_reducible refine Gr.setCell ?_ (by omega) _)))) fo1))
    refine wpIn_app _ (.tmp 16) (.tmp 18) 143 rfl 9 i0 _ 1 16 Try.underlying143 hi hz0 hz1 hz2 rfl (by decide) (.slice a2 pre.length c2) _ _ rfl (H6.out.own.gr (Gr.of_drew HG)) ⟨fb1, 0, none⟩ 1 1 [.string x.1] rfl rfl (news_of fo1) (by simp [Value.oneCell']) (by decide) (by simp only [maxLen, HL.out.1, HL.out.2]; omega) (by simp only [HL.out.1, HL.out.2]; omega) (fun g1 n1 xA o1 b1 m1 => ?_); (have HGA := Lib.hid (Gr.of_drew HG)); (have HO7 := Lib.hid ((H7.out.own.gr HGA.out).mdh ((Mdh.refl (fun k => (Value.slice a2 pre.length c2).ownBlock = some k) wg2).grown m1 (fun r hr => hr)) (fun k hk e => HAP.out.2.2 k e hk))); refine hK _ _ ⟨(Mdh.refl _ _).grown m1 (fun r hr => .inl (HSI.out r (by simp only [hr, true_or, or_true]))), ?_⟩; simp only [Act.put, List.setIfInBounds_toArray, List.set_cons_succ, List.set_cons_zero]; clear hK fo1 HG
    refine flo_seg 2 rfl ?_
    simp only [List.take_succ_cons, List.take_zero, List.drop_succ_cons, List.drop_zero]
    repeat (go_big_quiet_step (fail))
    refine wpQuiet_nil ?_
    refine flo_float (fun b => .slice (some ⟨b, 0, none⟩) 1 1) (_) rfl rfl (fun w => by simp [go_sem]; rfl) (fun wf2 fb2 hgf2 fl2 fh2 ft2 fo2 => ?_)
    (try replace HG := Gr.trans (Gr.trans HG (by (repeat (first | (with_reducible exact Gr.refl _) | assumption | (with_reducible apply Gr.from_drew) | (with_reducible apply Gr.alloc) | (with_reducible apply Gr.drew) | (with_reducible refine Gr.trans ?_ (by assumption)) | (with_reducible refine Gr.setCell ?_ (by omega) _))))) hgf2)
    (try replace fo1 := Gr.blk hgf2 fo1)
    (try have fc1 := (cellsOf fo1).1)
    (try have ff1 := (cellsOf fo1).2)
    (try have fc2 := (cellsOf fo2).1)
    (try have ff2 := (cellsOf fo2).2)
    refine flo_eff rfl rfl rfl rfl (fun K hK => ?_)
    refine wpIn_app _ (.tmp 20) (.tmp 22) 143 rfl 9 i0 _ 1 16 Try.underlying143 hi hz0 hz1 hz2 rfl (by decide) (.slice a3 pre.length c3) _ _ rfl (HO7.out.gr hgf2) ⟨fb2, 0, none⟩ 1 1 [.string x.2] rfl rfl (news_of fo2) (by simp [Value.oneCell']) (by decide) (by simp only [maxLen, HL.out.1, HL.out.2]; omega) (by simp only [HL.out.1, HL.out.2]; omega) (fun g2 n2 xB o2 b2 m2 => ?_); refine hK _ _ ⟨(Mdh.refl _ _).grown m2 (fun r hr => .inl (HSI.out r (by simp only [hr, true_or, or_true]))), ?_⟩; simp only [Act.put, List.setIfInBounds_toArray, List.set_cons_succ, List.set_cons_zero]; clear hK fo2
    refine flo_nil ?_
    obtain ⟨⟨y6, y7, hAB⟩, hb6, hb7, hmd, hne2, hq⟩ := two_app (x := .string x.1) (y := .string x.2) H6.out H7.out HAP.out.2.2 (by omega) (fun g hg => by have := HAP.out.1 g hg; have := HLT.out; omega) (fun g hg => by have := HAP.out.2.1 g hg; have := HLT.out; omega) HF.out.t HGA.out o1 b1 m1 hgf2 o2 b2 m2
    have y0 : xB.heap[b0]? = some (.cells #[.int .i64 n] 3) := hAB.blk (HF.out.m.blk X0.out (by omega)) (by rintro (h | h); have := HAP.out.1 _ h; have := HLT.out; omega; have := HAP.out.2.1 _ h; have := HLT.out; omega)
    obtain ⟨d0, _⟩ := box1 y0
    obtain ⟨d6, f6⟩ := box1 y6
    obtain ⟨d7, f7⟩ := box1 y7
    simp only [HL.out.1, HL.out.2] at hb6 hb7 hmd ⊢
    have HB6 := Lib.hid hb6
    have HB7 := Lib.hid hb7
    have HMD := Lib.hid hmd
    have HQ := Lib.hid hq
    have HNE := Lib.hid hne2
    clear hb6 hb7 hmd hq hne2 o1 b1 m1 o2 b2 m2 hAB y0 y6 y7 hgf1 hgf2 hgg2 fl1 fl2 fh1 fh2 ft1 ft2 fc2 ff2 HGA HO7 c6 c7 nS6 nS7 hSlt
    have hbq : ((pre.length : Int) + 1 == n) = false := beq_false_of_ne hne
    gi_wp2_with fail
    refine ⟨HMD.out.mono (fun k hk => ?_), ⟨_, _, ⟨by rw [ksL, List.map_append]; exact HB6.out, by rw [vsL, List.map_append]; exact HB7.out⟩, fun g hg => ?_, fun g hg => ?_, fun g hg hg' => ?_⟩, HF.out.step HMD.out (fun k hk => ?_)⟩
    · rcases hk with rfl | rfl | hk | hk
      · exact ⟨fun h => by have := HA0.out _ h; omega, H6.out.nz⟩
      · exact ⟨fun h => by have := HA0.out _ h; omega, H7.out.nz⟩
      · exact ⟨fun h => by have := HAU.out _ h; have := HAP.out.1 k hk; omega, (H6.out.rz k hk).1⟩
      · exact ⟨fun h => by have := HAU.out _ h; have := HAP.out.2.1 k hk; omega, (H7.out.rz k hk).1⟩
    · obtain rfl : g1 = g := by simpa [Value.ownBlock] using hg
      exact HQ.out.2.2.2.2.1.elim (HAP.out.1 _) (fun h => Nat.le_trans HF.out.m.size h)
    · obtain rfl : g2 = g := by simpa [Value.ownBlock] using hg
      exact HQ.out.2.2.2.2.2.elim (HAP.out.2.1 _) (fun h => Nat.le_trans HF.out.m.size h)
    · obtain rfl : g1 = g := by simpa [Value.ownBlock] using hg
      obtain rfl : g2 = g1 := by simpa [Value.ownBlock] using hg'
      exact HNE.out rfl
    · rcases hk with rfl | rfl | hk | hk
      · exact .inl (.inl rfl)
      · exact .inl (.inr rfl)
      · exact .inr (HAP.out.1 k hk)
      · exact .inr (HAP.out.2.1 k hk)
  case hend =>
    intro Z D xs W hD hZD hcase hdef
    obtain ⟨hxs, ⟨v2, v3, ⟨h6, h7⟩, _, _, _⟩, hF⟩ := hcase.elim (fun h => h) (fun h => h.2.elim)
    have hxs' : xs = T := hxs
    subst hxs'
    have c6 := h6.cell
    have c7 := h7.cell
    have HGW := Lib.hid (Gr.md HGU.out hF.m (fun k hk => by have := HB0.out; rcases hk with h | h <;> omega))
    have HO := Lib.hid (And.intro h6.own h7.own)
    have HDEF := Lib.hid hdef
    clear h6 h7 hF hcase hxs hseq eg gu x6 x7
    go_wp2_with fail
    refine wp_region_flo (fun _ => False) [] [] (by kernel_rfl) (by kernel_rfl) (fun _ h => h.elim) ?_
    refine flo_seg 4 rfl ?_
    simp only [List.take_succ_cons, List.take_zero, List.drop_succ_cons, List.drop_zero]
    repeat (go_big_quiet_step (fail))
    refine wpQuiet_nil ?_
    refine flo_nil ?_
    go_wp2
    have hdef' : W.drew.heap[D]? = some (.deferred (some [])) := hdef
    have hwD : w.heap.size ≤ D := Nat.le_trans HGU.out.sz hD
    refine retM1 (D := D) rfl hdef' (results_tmp2 rfl _ _ _) ⟨_, _, rfl, ?_, ?_, ?_⟩
    · exact own_put (own_drew (by rw [ksL_len] at HO; exact HO.out.1)) hdef' _
    · exact own_put (own_drew (by rw [ksL_len, vsL_len] at HO; exact HO.out.2)) hdef' _
    · exact Gr.putObj (HGW.out.trans (Gr.drew (Gr.refl _))) hwD _
end Go.Proofs.Ytbhkigjmjmfbgaa
