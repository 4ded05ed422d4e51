/- PqueueLoops, walked. -/
import Derived.Test.YthialloenkbpnaaPqO
import Derived.Test.YthialloenkbpnaaPqW
import Derived.Test.YthialloenkbpnaaPqIS
import Derived.Test.YthialloenkbpnaaBox
import Derived.RangeFuncNested
import Derived.Deep.LoopGhost
set_option linter.unusedVariables false
set_option linter.unusedSimpArgs false
namespace Go.Proofs.Ythialloenkbpnaa
open Go.RowKit Go.Shelf
attribute [local go_sem] OvM cell_ovm obj_ovm
attribute [local go_sem] Oper.semAt_some

theorem TurnsAt.gr {w w' : World} {a : Option Addr} {l : List Tn} (h : TurnsAt w a l) (g : Gr w w') : TurnsAt w' a l := fun i hi => by
  obtain ⟨b, off, e, hb, h1, h2, h3⟩ := h i hi
  exact ⟨b, off, e, Nat.lt_of_lt_of_le hb g.sz, g.keep h1, g.keep h2, g.keep h3⟩
theorem news1 (w : World) (u : Value) (t : TypeId) : ∀ j x, [u][j]? = some x → (w.alloc (.cells #[u] t)).cell? ((⟨w.heap.size, 0, none⟩ : Addr).add j) = some x := by
  intro j x h
  match j, h with
  | 0, h => simp at h; subst h; simp [Addr.add, go_sem]
theorem own_val {w : World} {e : TypeId} {size : Nat} {v : Value} {n : Nat} {xs : List Value} (h : Own w e size v n xs) : ∃ a cap, v = .slice a n cap ∧ n ≤ cap ∧ cap ≤ maxLen := by
  rcases h.2 with ⟨rfl, rfl⟩ | ⟨g, cap, cur, rfl, _, _, h1, h2, _⟩
  · exact ⟨_, _, rfl, Nat.le_refl _, by simp [maxLen]⟩
  · exact ⟨_, _, rfl, h1, h2⟩

theorem Pops_init {n : Nat} {M : Nat → Option UInt8} {pre : List EnS} {x : EnS} (h : PopsS n M (pre ++ [x])) : PopsS n M pre := fun j hj => by
  obtain ⟨y, h1, h2, h3⟩ := h j (by simp; omega)
  rw [List.getElem?_append_left hj] at h1
  rw [List.take_append_of_le_length (by omega)] at h3
  exact ⟨y, h1, h2, h3⟩
theorem Pops_at {n : Nat} {M : Nat → Option UInt8} {a b : List EnS} {x : EnS} (h : PopsS n M a) (h' : PopsS n M (b ++ [x])) (hl : b.length < a.length) : a[b.length]? = some x := by
  have e := h.uniq h' (b.length + 1) (by omega) (by simp)
  have h1 := congrArg (fun l : List EnS => l[b.length]?) e
  simp only [List.getElem?_take_of_lt (show b.length < b.length + 1 by omega)] at h1
  rw [h1]
  simp
theorem own_cell {w : World} {e : TypeId} {a : Option Addr} {k cap j : Nat} {xs : List Value} (h : Own w e 1 (.slice a k cap) k xs) (hj : j < k) : ∃ g, a = some ⟨g, 0, none⟩ ∧ w.cell? ⟨g, j, none⟩ = xs[j]? := by
  rcases h.2 with ⟨h0, _⟩ | ⟨g, cap', cur, hv, _, hb, hle, _, hs, ht⟩
  · cases h0; omega
  · simp only [Value.slice.injEq, true_and] at hv
    refine ⟨g, hv.1, ?_⟩
    rw [(cellsOf hb).1, ← ht, List.getElem?_take_of_lt (by omega)]
    simp
theorem box1 {w : World} {b : Nat} {v : Value} {t : TypeId} (h : w.heap[b]? = some (.cells #[v] t)) : w.cell? ⟨b, 0, none⟩ = some v ∧ ∀ j, w.frozen? ⟨b, j, none⟩ = false :=
  ⟨by rw [(cellsOf h).1]; rfl, (cellsOf h).2⟩

set_option maxRecDepth 40000 in
set_option maxHeartbeats 4000000 in
theorem PqueueLoops_any (c f : UInt8) (a : Option Addr) (len cap : Nat) (l : List Tn) (w : World) (hl : l.length = len) (hle : len ≤ cap) (hcap : cap ≤ maxLen) (hs : TurnsAt w a l) :
    Calls Try.prog 10 #[.int .u8 (c.toNat : Int), .slice a len cap, .int .u8 (f.toNat : Int)] w fun e w' => e = .returned (.bool true) ∧ Gr w w' := by
  have HS := Lib.hid hs
  have HL := Lib.hid hl
  clear hs hl
  have hf0 : (0 : Int) ≤ f.toNat := by omega
  have hf1 : (f.toNat : Int) < 256 := by have := f.toNat_lt; omega
  obtain ⟨i0, hi, hz0, hz1, hz2⟩ := info_parts Try.infoInt
  refine calls_of_wp_marks Try.func10 rfl ?_
  simp only [Try.ntmps10, List.size_toArray, List.length_cons, List.length_nil, Nat.reduceAdd, Nat.reduceSub, Array.replicate_succ, Array.replicate_zero, List.push_toArray, List.append_toArray, List.nil_append, List.cons_append]
  by_cases hlong : (150 : Int) < len
  · go_wp2_with fail
    refine (works_any _).mono ?_
    rintro e w1 ⟨rfl, hg⟩
    have b6 := hg.blk (blkNew (w.alloc (.cells #[.int .u8 (f.toNat : Int)] 5)) (.cells #[.bool false] 4))
    simp only [World.size_alloc] at b6
    obtain ⟨c6, f6⟩ := box1 b6
    have HB6 := Lib.hid b6
    have HG := Lib.hid hg
    clear b6 hg
    go_wp2_with fail
    refine retM0 (v := .bool true) ?_ rfl ⟨rfl, ?_⟩
    · have := (box1 (blkSet (j := 0) (u := .bool true) HB6.out)).1
      simp [results, Try.results10, go_sem, this]
    · exact (((Gr.refl w).alloc _).alloc _ |>.trans HG.out).setCell (by simp) _
  go_wp2_with fail
  refine (made_any c a len cap l _ HL.out hle hcap (HS.out.gr (by (repeat (first | (with_reducible exact Gr.refl _) | assumption | (with_reducible apply Gr.from_drew) | (with_reducible apply Gr.alloc) | (with_reducible apply Gr.drew) | (with_reducible refine Gr.trans ?_ (by assumption)) | (with_reducible refine Gr.setCell ?_ (by omega) _)))))).mono ?_
  rintro e w1 ⟨bq, gw, n, L, M, S, rfl, hq, hrow, hS, hgw, hSg, hn50, hg⟩
  simp only [World.size_alloc] at hS hgw
  have hn1 := hq.1
  have hg1 : Gr w w1 := (((Gr.refl w).alloc _).alloc _).trans hg
  have HQ : Hid (SQ w w1 bq gw n L M M S) := Lib.hid ⟨hq, hrow, fun k hk => by have := hS k hk; omega, hSg, by omega, hg1⟩
  have HLO : Hid (∀ k, S k → w.heap.size + 1 < k) := Lib.hid (fun k hk => by have := hS k hk; omega)
  have hgw2 : w.heap.size + 1 < gw := by omega
  have HB5 : Hid (w1.heap[w.heap.size]? = some (.cells #[.int .u8 (f.toNat : Int)] 5)) := Lib.hid (hg.blk (blkOld (blkNew w _)))
  have HB6 : Hid (w1.heap[w.heap.size + 1]? = some (.cells #[.bool false] 4)) := Lib.hid (by
    have := hg.blk (blkNew (w.alloc (.cells #[.int .u8 (f.toNat : Int)] 5)) (.cells #[.bool false] 4))
    simpa using this)
  clear hq hrow hS hgw hSg hg hg1
  go_wp2_with fail
  refine (AllS _ _).mono ?_
  rintro e w2 ⟨bb, rfl, hbb, hbb2, hg2⟩
  have HQ2 := Lib.hid (HQ.out.gr hg2)
  have b5 := hg2.blk HB5.out
  have b6 := hg2.blk HB6.out
  have hsub := HQ.out.q.sub
  have hL50 : L ≤ n := by rw [← HQ.out.q.count]; exact cnt_le _ _
  have HLT : Hid (∀ k, (k = bb ∨ S k) → k < w2.heap.size) := Lib.hid (fun k hk => hk.elim (fun e => by rw [e]; exact World.block_lt_of_cell? w2 ⟨bb, 0, none⟩ hbb) (fun h => HQ2.out.q.sub k h))
  have HLO2 : Hid (∀ k, (k = bb ∨ S k) → w.heap.size + 1 < k) := Lib.hid (fun k hk => hk.elim (fun e => by have := blkLt HB6.out; omega) (fun h => HLO.out k h))
  go_wp2_with fail
  apply wp_rangeFunc_zb (gf := 82) (lb := #[.pointer (some ⟨bb, 0, none⟩)]) rfl (enters_of Try.func82 (by kernel_rfl) rfl)
    (SeqS bq n L M S bb w2 HQ2.out.q hbb) ((Mdh.refl _ w2).alloc _) (fun k hk => by have := HLT.out k hk; simp; omega) (fun _ => rfl)
    (fun Z pre W => (∃ v, BoxRow W Z w2.heap.size 25 3 v (pre.map fun x => .int .i64 x.1)) ∧ Frm (w2.alloc (.cells #[.slice none 0 0] 25)) (fun k => k = w2.heap.size) Z W)
    (fun Z s W => ∃ pre x, (s = pre ++ [x] ∧ pre.length = f.toNat) ∧ (∃ v, BoxRow W Z w2.heap.size 25 3 v (pre.map fun x => .int .i64 x.1)) ∧ Frm (w2.alloc (.cells #[.slice none 0 0] 25)) (fun k => k = w2.heap.size) Z W)
    (fun _ _ _ => False)
    ((Apart.ex fun v => BoxRow.apart _ _ _ v _).and (Frm.apart _ _))
    (Apart.ex fun pre => Apart.ex fun x => (Apart.pure _).and ((Apart.ex fun v => BoxRow.apart _ _ _ v _).and (Frm.apart _ _)))
    apart_no
    ⟨⟨_, ⟨blkNew _ _, fun h => h, ⟨rfl, .inl ⟨rfl, rfl⟩⟩, fun g hg => by cases hg⟩⟩, Frm.refl _ _⟩
    _ ?assign ?body ?hend ?hret
  case assign =>
    intro l x W K hK
    dsimp only [encIS]
    gi_wp2
    exact hK
  case body =>
    intro l Z pre x W hI hsp
    obtain ⟨⟨v, hB⟩, hF⟩ := hI
    obtain ⟨av, capv, hv, hle1, hcap1⟩ := own_val hB.own
    rw [List.length_map] at hv hle1
    subst hv
    have HB := Lib.hid hB
    have HF := Lib.hid hF
    have HT : Hid (∀ k, Z k → k < W.heap.size) := Lib.hid hF.t
    have c10 := hB.cell
    have f10 := hB.fr
    obtain ⟨c5, f5⟩ := box1 (hF.m.blk (blkOld b5) (by have := blkLt b5; omega))
    have hk50 : pre.length < 50 := by have := hsp.2; simp at this; omega
    have HPRE : Hid (pre.length < 50) := Lib.hid hk50
    clear hB hF
    unfold maxLen at hcap1
    by_cases hstop : pre.length = f.toNat
    · have hstop' : (pre.length : Int) = f.toNat := by omega
      gi_wp2_with fail
      exact ⟨Mdh.refl _ _, rfl, pre, x, ⟨rfl, hstop⟩, ⟨_, HB.out⟩, HF.out⟩
    · have hstop' : ¬ (pre.length : Int) = f.toNat := by omega
      have hg0 : Gr W (W.alloc (.cells #[.int .i64 x.1] 3)) := (Gr.refl W).alloc _
      gi_wp2_with (gi_at_builtin; go_must (refine wpListIn_app _ rfl (.tmp 39) (.tmp 41) 25 rfl 3 i0 _ 1 8 Try.underlying25 hi hz0 hz1 hz2 rfl (by decide) (.slice av pre.length capv) _ _ rfl (HB.out.own.gr hg0) ⟨W.heap.size, 0, none⟩ 1 1 [.int .i64 x.1] rfl rfl (news1 _ _ _) (by simp [Value.oneCell']) (by decide) (by simp only [maxLen]; simp; omega) (by simp; omega) ?_); intro g capg w4 hown hwh hgrow; obtain ⟨c4, f4⟩ := box1 (HB.out.at2 hg0 hgrow); have HA := Lib.hid (HB.out.app HT.out hg0 hown hwh hgrow); simp only [List.length_map] at HA; clear hown hwh hgrow)
      refine ⟨HA.out.2.mono (fun k hk => ?_), ⟨_, by rw [List.map_append]; exact HA.out.1⟩, HF.out.step HA.out.2 (fun k hk => ?_)⟩
      · rcases hk with rfl | hk
        · exact ⟨fun h => by have := HLT.out _ h; omega, HB.out.nz⟩
        · exact ⟨fun h => by have := HLT.out _ h; have := (HB.out.rz k hk).2; omega, (HB.out.rz k hk).1⟩
      · rcases hk with rfl | hk
        · exact .inl rfl
        · have := (HB.out.rz k hk).2
          right; simp; omega
  case hret => intro _ _ _ _ _ _ _ h; exact h.elim
  case hend =>
    intro Z D xs W hD hZD hcase hdef
    obtain ⟨p1, hp1, hp1L, v1, hb1, hF1⟩ : ∃ p1, PopsS n M p1 ∧ p1.length ≤ L ∧ ∃ v, BoxRow W Z w2.heap.size 25 3 v (p1.map fun x => .int .i64 x.1) ∧ Frm (w2.alloc (.cells #[.slice none 0 0] 25)) (fun k => k = w2.heap.size) Z W := by
      rcases hcase with ⟨⟨h1, h2⟩, ⟨v, h3⟩, h4⟩ | ⟨⟨h1, h2⟩, p, x, ⟨rfl, _⟩, ⟨v, h3⟩, h4⟩
      · exact ⟨xs, h1, by omega, v, h3, h4⟩
      · exact ⟨p, Pops_init h1, by simp at h2; omega, v, h3, h4⟩
    clear hcase
    obtain ⟨a1, cap1, hv1, hle1, hcap1⟩ := own_val hb1.own
    rw [List.length_map] at hv1 hle1
    subst hv1
    have HP1 := Lib.hid hp1
    have HB1 := Lib.hid hb1
    have HF1 := Lib.hid hF1
    have HD : Hid (w2.heap.size < D ∧ Z D ∧ W.heap[D]? = some (.deferred (some []))) := Lib.hid ⟨by simp at hD; omega, hZD, hdef⟩
    have HM : Hid (Mdh (fun k => k = w2.heap.size) w2 W) := Lib.hid (((Mdh.refl _ w2).alloc _).trans hF1.m)
    have HQW : Hid (SQ w W bq gw n L M M S) := Lib.hid (HQ2.out.other HM.out (fun k hk => by
      subst hk
      exact ⟨fun h => by have := HLT.out _ (.inr h); omega, fun h => by have := HQ2.out.r.lt; omega, HQ2.out.g.sz⟩))
    unfold maxLen at hcap1
    clear hp1 hb1 hF1 hD hZD hdef
    dsimp only
    go_wp2_with fail
    obtain ⟨w5, hw5⟩ : ∃ w5, w5 = W.alloc (.cells #[.int .i64 0] 3) := ⟨_, rfl⟩
    rw [← hw5]
    have g5 : Gr W w5 := by rw [hw5]; exact (Gr.refl W).alloc _
    have b12 : w5.heap[W.heap.size]? = some (.cells #[.int .i64 0] 3) := by rw [hw5]; exact blkNew _ _
    have z5 : w5.heap.size = W.heap.size + 1 := by rw [hw5]; simp
    have hW2 := HF1.out.m.size
    simp only [World.size_alloc] at hW2
    have HG5 := Lib.hid g5
    clear hw5 g5
    apply wp_rangeFunc_zb (gf := 82) (lb := #[.pointer (some ⟨bb, 0, none⟩)]) rfl (enters_of Try.func82 (by kernel_rfl) rfl)
      (SeqS bq n L M S bb w2 HQ2.out.q hbb) ((HM.out.mono (fun k hk h => by have := HLT.out k h; omega)).gr HG5.out) (fun k hk => by have := HLT.out k hk; omega) (fun _ => rfl)
      (fun Z pre X => (X.heap[W.heap.size]? = some (.cells #[.int .i64 pre.length] 3) ∧ ¬ Z W.heap.size) ∧ Frm w5 (fun k => k = W.heap.size) Z X)
      (fun _ _ _ => False) (fun _ _ _ => False)
      ((Apart.block _ _).and (Frm.apart _ _)) apart_no apart_no ⟨⟨b12, fun h => h⟩, Frm.refl _ _⟩
      _ ?assign2 ?body2 ?hend2 ?hret2
    case assign2 =>
      intro l x X K hK
      dsimp only [encIS]
      gi_wp2
      exact hK
    case hret2 => intro _ _ _ _ _ _ _ h; exact h.elim
    case body2 =>
      intro l Z2 pre x X hI hsp
      obtain ⟨⟨hb, hz⟩, hF⟩ := hI
      obtain ⟨c12, f12⟩ := box1 hb
      have hB := HB1.out.mdh (((Mdh.refl (fun k => k = W.heap.size) W).gr HG5.out).trans hF.m) (by omega) (fun g hg => by have := HB1.out.own.lt hg; omega)
      have c10 := hB.cell
      have HOWN : Hid (Own X 3 1 (.slice a1 p1.length cap1) p1.length (p1.map fun x => .int .i64 x.1)) := Lib.hid (by have := hB.own; rw [List.length_map] at this; exact this)
      have HF := Lib.hid hF
      have HZ := Lib.hid hz
      have HB12 := Lib.hid hb
      have hk50 : pre.length < 50 := by have := hsp.2; simp at this; omega
      clear hB hF hb hz
      have hfin : Hid (∀ a0 : Act, zPost (fun k => k = bb ∨ S k) Z2 (fun Z pre X => (X.heap[W.heap.size]? = some (.cells #[.int .i64 pre.length] 3) ∧ ¬ Z W.heap.size) ∧ Frm w5 (fun k => k = W.heap.size) Z X)
          (jmp 2 (fun _ _ _ => False) (fun _ _ _ => False)) (pre ++ [x]) X .normal a0 (X.setCell ⟨W.heap.size, 0, none⟩ (.int .i64 ((pre.length : Int) + 1)))) := Lib.hid (fun _ => by
        have hm : Mdh (fun k => k = W.heap.size) X (X.setCell ⟨W.heap.size, 0, none⟩ (.int .i64 ((pre.length : Int) + 1))) := (Mdh.refl (fun k => k = W.heap.size) X).setCell (p := ⟨W.heap.size, 0, none⟩) rfl _
        refine ⟨hm.mono (fun k hk => by subst hk; exact ⟨fun h => by have := HLT.out _ h; omega, HZ.out⟩), ⟨?_, HZ.out⟩, HF.out.step hm (fun k hk => .inl hk)⟩
        have := blkSet (j := 0) (u := .int .i64 ((pre.length : Int) + 1)) HB12.out
        simpa using this)
      by_cases hlt : pre.length < p1.length
      · have hlt' : (pre.length : Int) < p1.length := by omega
        obtain ⟨g1, rfl, hcg⟩ := own_cell HOWN.out hlt
        have hx : Hid (p1[pre.length]? = some x) := Lib.hid (Pops_at HP1.out hsp.1 hlt)
        rw [List.getElem?_map, hx.out, Option.map_some] at hcg
        gi_wp2
        exact hfin.out _
      · have hlt' : ¬ (pre.length : Int) < p1.length := by omega
        gi_wp2
        exact hfin.out _
    case hend2 =>
      intro Z2 D2 p2 X hD2 hZD2 hcase2 hdef2
      rcases hcase2 with ⟨⟨hp2, rfl⟩, ⟨hb, hz⟩, hF⟩ | ⟨_, h⟩
      rotate_left
      · exact h.elim
      have hmX : Mdh (fun k => k = W.heap.size) W X := ((Mdh.refl _ W).gr HG5.out).trans hF.m
      have hB := HB1.out.mdh hmX (by omega) (fun g hg => by have := HB1.out.own.lt hg; omega)
      have HOWN : Hid (Own X 3 1 (.slice a1 p1.length cap1) p1.length (p1.map fun x => .int .i64 x.1)) := Lib.hid (by have := hB.own; rw [List.length_map] at this; exact this)
      have HQX : Hid (SQ w X bq gw n p2.length M M S) := Lib.hid (HQW.out.other hmX (fun k hk => by
        subst hk
        exact ⟨fun h => by have := HQW.out.q.sub _ h; omega, fun h => by have := HQW.out.r.lt; omega, HQW.out.g.sz⟩))
      have HB12 := Lib.hid hb
      have HB10 := Lib.hid hB.box
      have HB6X : Hid (X.heap[w.heap.size + 1]? = some (.cells #[.bool false] 4)) := Lib.hid (hmX.blk (HM.out.blk b6 (by have := blkLt b6; omega)) (by have := blkLt b6; omega))
      have HDX : Hid (X.heap[D]? = some (.deferred (some [])) ∧ X.heap[D2]? = some (.deferred (some [])) ∧ D ≠ D2 ∧ w.heap.size + 1 < D ∧ w.heap.size + 1 < D2) := Lib.hid (by
        have h1 := (Array.getElem?_eq_some_iff.1 HD.out.2.2).1
        have h2 := blkLt b6
        have h3 := HD.out.1
        exact ⟨hmX.blk HD.out.2.2 (by omega), hdef2, by omega, by omega, by omega⟩)
      clear hB hb hz hF hmX hD2 hZD2 hdef2
      dsimp only
      by_cases hL0 : p2.length = 0
      · have hp0 : p1.length = 0 := by omega
        have hp0' : ((p1.length : Int) == 0) = true := by simp [hp0]
        have hL0' : (p2.length : Int) = 0 := by omega
        go_wp2_with fail
        refine (Peek_noneS _ _ _ _ _ (by have := HQX.out.q; rw [hL0] at this; exact this)).mono ?_
        rintro e w7 ⟨rfl, rfl⟩
        obtain ⟨w7, rfl⟩ : ∃ w7, w7 = X := ⟨_, rfl⟩
        have hg7 := Gr.refl w7
        have HQ7 := HQX
        have b6' := HB6X.out
        obtain ⟨c12, f12⟩ := box1 HB12.out
        obtain ⟨c10, f10⟩ := box1 HB10.out
        obtain ⟨c6, f6⟩ := box1 b6'
        have hcnt : ((cnt M n : Nat) : Int) = p2.length := by rw [HQ7.out.q.count]
        rw [hL0'] at c12 hcnt
        have hcn50 := cnt_le M n
        go_wp2_with fail
        have HG := Gr.refl w7.drew
        have e1 : ¬ W.heap.size = w.heap.size + 1 := by have := blkLt b6; omega
        have e2 : ¬ w2.heap.size = w.heap.size + 1 := by have := blkLt b6; omega
        refine wp_region_flo (fun k => k = w.heap.size + 1) [] [] (by kernel_rfl) (by kernel_rfl) (fun k hk => by subst hk; exact blkLt b6') ?_
        refine flo_seg 2 rfl ?_
        simp only [List.take_succ_cons, List.take_zero, List.drop_succ_cons, List.drop_zero]
        repeat (go_big_quiet_step (fail))
        refine wpQuiet_nil ?_
        refine flo_eff rfl rfl rfl rfl (fun K hK => ?_)
        go_wp2_with ((go_at_call 21; refine (count_any _ _ _ _ (HQ7.out.r.gr (by (repeat (first | (with_reducible exact Gr.refl _) | assumption | (with_reducible apply Gr.from_drew) | (with_reducible apply Gr.alloc) | (with_reducible apply Gr.drew) | (with_reducible refine Gr.trans ?_ (by assumption)) | (with_reducible refine Gr.setCell ?_ (by omega) _))))) (by omega)).mono ?_; rintro e w1 ⟨rfl, rfl⟩))
        refine ⟨by (first | (refine Gr.mdh ?_ _; (repeat (first | (with_reducible exact Gr.refl _) | assumption | (with_reducible apply Gr.from_drew) | (with_reducible apply Gr.alloc) | (with_reducible apply Gr.drew) | (with_reducible refine Gr.trans ?_ (by assumption)) | (with_reducible refine Gr.setCell ?_ (by omega) _))); done) | (repeat (first | (with_reducible exact Mdh.refl _ _) | (with_reducible refine Mdh.setCell ?_ (by simp) _) | (with_reducible refine Mdh.setNew ?_ (by simp) _) | (with_reducible apply Mdh.alloc) | (with_reducible apply Mdh.drew) | (with_reducible refine Mdh.gr ?_ (by assumption))))), ?_⟩
        refine flo_seg 3 rfl ?_
        simp only [List.take_succ_cons, List.take_zero, List.drop_succ_cons, List.drop_zero]
        repeat (go_big_quiet_step (fail))
        refine wpQuiet_nil ?_
        refine flo_eff rfl rfl rfl rfl (fun K hK => ?_)
        go_wp2_with ((go_at_call 16; refine (LenS _ _ _ _ _ _ (HQ7.out.q.gr (by (repeat (first | (with_reducible exact Gr.refl _) | assumption | (with_reducible apply Gr.from_drew) | (with_reducible apply Gr.alloc) | (with_reducible apply Gr.drew) | (with_reducible refine Gr.trans ?_ (by assumption)) | (with_reducible refine Gr.setCell ?_ (by omega) _)))))).mono ?_; rintro e w1 ⟨rfl, rfl⟩))
        refine ⟨by (first | (refine Gr.mdh ?_ _; (repeat (first | (with_reducible exact Gr.refl _) | assumption | (with_reducible apply Gr.from_drew) | (with_reducible apply Gr.alloc) | (with_reducible apply Gr.drew) | (with_reducible refine Gr.trans ?_ (by assumption)) | (with_reducible refine Gr.setCell ?_ (by omega) _))); done) | (repeat (first | (with_reducible exact Mdh.refl _ _) | (with_reducible refine Mdh.setCell ?_ (by simp) _) | (with_reducible refine Mdh.setNew ?_ (by simp) _) | (with_reducible apply Mdh.alloc) | (with_reducible apply Mdh.drew) | (with_reducible refine Mdh.gr ?_ (by assumption))))), ?_⟩
        refine flo_seg 22 rfl ?_
        simp only [List.take_succ_cons, List.take_zero, List.drop_succ_cons, List.drop_zero]
        repeat (go_big_quiet_step (fail))
        refine wpQuiet_nil ?_
        refine flo_eff rfl rfl rfl rfl (fun K hK => ?_)
        go_wp2_with ((go_at_call 11; refine (works_any _).mono ?_; rintro e w1 ⟨rfl, hg⟩; replace HG := HG.trans hg; (try clear hc); have hc := HG.cell; (try simp only [World.size_alloc] at hc)))
        refine ⟨by (first | (refine Gr.mdh ?_ _; (repeat (first | (with_reducible exact Gr.refl _) | assumption | (with_reducible apply Gr.from_drew) | (with_reducible apply Gr.alloc) | (with_reducible apply Gr.drew) | (with_reducible refine Gr.trans ?_ (by assumption)) | (with_reducible refine Gr.setCell ?_ (by omega) _))); done) | (repeat (first | (with_reducible exact Mdh.refl _ _) | (with_reducible refine Mdh.setCell ?_ (by simp) _) | (with_reducible refine Mdh.setNew ?_ (by simp) _) | (with_reducible apply Mdh.alloc) | (with_reducible apply Mdh.drew) | (with_reducible refine Mdh.gr ?_ (by assumption))))), ?_⟩
        refine flo_seg 1 rfl ?_
        simp only [List.take_succ_cons, List.take_zero, List.drop_succ_cons, List.drop_zero]
        repeat (go_big_quiet_step (fail))
        refine wpQuiet_nil ?_
        refine flo_eff rfl rfl rfl rfl (fun K hK => ?_)
        obtain ⟨c6', f6'⟩ := box1 (Gr.blk HG (Gr.blk (Gr.drew (Gr.refl w7)) b6')); go_wp2; refine ⟨by (first | (refine Gr.mdh ?_ _; (repeat (first | (with_reducible exact Gr.refl _) | assumption | (with_reducible apply Gr.from_drew) | (with_reducible apply Gr.alloc) | (with_reducible apply Gr.drew) | (with_reducible refine Gr.trans ?_ (by assumption)) | (with_reducible refine Gr.setCell ?_ (by omega) _))); done) | (repeat (first | (with_reducible exact Mdh.refl _ _) | (with_reducible refine Mdh.setCell ?_ (by simp) _) | (with_reducible refine Mdh.setNew ?_ (by simp) _) | (with_reducible apply Mdh.alloc) | (with_reducible apply Mdh.drew) | (with_reducible refine Mdh.gr ?_ (by assumption))))), ?_⟩
        refine flo_nil ?_
        go_wp2_with fail
        have g17 : Gr w7 w1 := hg7.trans ((Gr.drew (Gr.refl w7)).trans HG)
        refine retM2 (D := D) (E := D2) (v := .bool true) rfl HDX.out.2.2.1 (blkSetO (g17.blk HDX.out.2.1) (by have := HDX.out.2.2.2.2; simp; omega)) (blkSetO (g17.blk HDX.out.1) (by have := HDX.out.2.2.2.1; simp; omega)) ?_ ⟨rfl, ?_⟩
        · have h6 := blkSet (j := 0) (u := .bool true) (g17.blk HB6X.out)
          have h6' : (((w1.setCell ⟨w.heap.size + 1, 0, none⟩ (.bool true)).putObj D2 (.deferred none)).putObj D (.deferred none)).heap[w.heap.size + 1]? = some (.cells #[.bool true] 4) :=
            (World.putObj_heap_other (by have := HDX.out.2.2.2.1; omega)).trans ((World.putObj_heap_other (by have := HDX.out.2.2.2.2; omega)).trans (by simpa using h6))
          have := (box1 h6').1
          simp [results, Try.results10, go_sem, this]
        · exact ((((HQ7.out.g.trans g17).setCell (by simp) _).putObj (by have := HDX.out.2.2.2.2; omega) _).putObj (by have := HDX.out.2.2.2.1; omega) _)
      · have hpos : 0 < p2.length := by omega
        go_wp2_with fail
        refine (Peek_someS _ _ _ _ _ _ HQX.out.q hpos).mono ?_
        rintro e w7 ⟨i, p, rfl, hi7, hmin, hg7⟩
        have HQ7 := Lib.hid (HQX.out.gr hg7)
        have b12' := hg7.blk HB12.out
        have b10' := hg7.blk HB10.out
        have b6' := hg7.blk HB6X.out
        obtain ⟨c12, f12⟩ := box1 b12'
        obtain ⟨c10, f10⟩ := box1 b10'
        obtain ⟨c6, f6⟩ := box1 b6'
        have hcnt : ((cnt M n : Nat) : Int) = p2.length := by rw [HQ7.out.q.count]
        have hLn : p2.length ≤ n := hL50
        have hcn50 := cnt_le M n
        have hposI : (0 : Int) < p2.length := by omega
        have hne : ((p2.length : Int) == 0) = false := beq_false_of_ne (by omega)
        go_wp2_with fail
        have HG := Gr.refl w7.drew
        have e1 : ¬ W.heap.size = w.heap.size + 1 := by have := blkLt b6; omega
        have e2 : ¬ w2.heap.size = w.heap.size + 1 := by have := blkLt b6; omega
        by_cases hp0 : p1.length = 0
        · have hp0' : ((p1.length : Int) == 0) = true := by simp [hp0]
          refine wp_region_flo (fun k => k = w.heap.size + 1) [] [] (by kernel_rfl) (by kernel_rfl) (fun k hk => by subst hk; exact blkLt b6') ?_
          refine flo_seg 2 rfl ?_
          simp only [List.take_succ_cons, List.take_zero, List.drop_succ_cons, List.drop_zero]
          repeat (go_big_quiet_step (fail))
          refine wpQuiet_nil ?_
          refine flo_eff rfl rfl rfl rfl (fun K hK => ?_)
          go_wp2_with ((go_at_call 21; refine (count_any _ _ _ _ (HQ7.out.r.gr (by (repeat (first | (with_reducible exact Gr.refl _) | assumption | (with_reducible apply Gr.from_drew) | (with_reducible apply Gr.alloc) | (with_reducible apply Gr.drew) | (with_reducible refine Gr.trans ?_ (by assumption)) | (with_reducible refine Gr.setCell ?_ (by omega) _))))) (by omega)).mono ?_; rintro e w1 ⟨rfl, rfl⟩))
          refine ⟨by (first | (refine Gr.mdh ?_ _; (repeat (first | (with_reducible exact Gr.refl _) | assumption | (with_reducible apply Gr.from_drew) | (with_reducible apply Gr.alloc) | (with_reducible apply Gr.drew) | (with_reducible refine Gr.trans ?_ (by assumption)) | (with_reducible refine Gr.setCell ?_ (by omega) _))); done) | (repeat (first | (with_reducible exact Mdh.refl _ _) | (with_reducible refine Mdh.setCell ?_ (by simp) _) | (with_reducible refine Mdh.setNew ?_ (by simp) _) | (with_reducible apply Mdh.alloc) | (with_reducible apply Mdh.drew) | (with_reducible refine Mdh.gr ?_ (by assumption))))), ?_⟩
          refine flo_seg 3 rfl ?_
          simp only [List.take_succ_cons, List.take_zero, List.drop_succ_cons, List.drop_zero]
          repeat (go_big_quiet_step (fail))
          refine wpQuiet_nil ?_
          refine flo_eff rfl rfl rfl rfl (fun K hK => ?_)
          go_wp2_with ((go_at_call 16; refine (LenS _ _ _ _ _ _ (HQ7.out.q.gr (by (repeat (first | (with_reducible exact Gr.refl _) | assumption | (with_reducible apply Gr.from_drew) | (with_reducible apply Gr.alloc) | (with_reducible apply Gr.drew) | (with_reducible refine Gr.trans ?_ (by assumption)) | (with_reducible refine Gr.setCell ?_ (by omega) _)))))).mono ?_; rintro e w1 ⟨rfl, rfl⟩))
          refine ⟨by (first | (refine Gr.mdh ?_ _; (repeat (first | (with_reducible exact Gr.refl _) | assumption | (with_reducible apply Gr.from_drew) | (with_reducible apply Gr.alloc) | (with_reducible apply Gr.drew) | (with_reducible refine Gr.trans ?_ (by assumption)) | (with_reducible refine Gr.setCell ?_ (by omega) _))); done) | (repeat (first | (with_reducible exact Mdh.refl _ _) | (with_reducible refine Mdh.setCell ?_ (by simp) _) | (with_reducible refine Mdh.setNew ?_ (by simp) _) | (with_reducible apply Mdh.alloc) | (with_reducible apply Mdh.drew) | (with_reducible refine Mdh.gr ?_ (by assumption))))), ?_⟩
          refine flo_seg 22 rfl ?_
          simp only [List.take_succ_cons, List.take_zero, List.drop_succ_cons, List.drop_zero]
          repeat (go_big_quiet_step (fail))
          refine wpQuiet_nil ?_
          refine flo_eff rfl rfl rfl rfl (fun K hK => ?_)
          go_wp2_with ((go_at_call 11; refine (works_any _).mono ?_; rintro e w1 ⟨rfl, hg⟩; replace HG := HG.trans hg; (try clear hc); have hc := HG.cell; (try simp only [World.size_alloc] at hc)))
          refine ⟨by (first | (refine Gr.mdh ?_ _; (repeat (first | (with_reducible exact Gr.refl _) | assumption | (with_reducible apply Gr.from_drew) | (with_reducible apply Gr.alloc) | (with_reducible apply Gr.drew) | (with_reducible refine Gr.trans ?_ (by assumption)) | (with_reducible refine Gr.setCell ?_ (by omega) _))); done) | (repeat (first | (with_reducible exact Mdh.refl _ _) | (with_reducible refine Mdh.setCell ?_ (by simp) _) | (with_reducible refine Mdh.setNew ?_ (by simp) _) | (with_reducible apply Mdh.alloc) | (with_reducible apply Mdh.drew) | (with_reducible refine Mdh.gr ?_ (by assumption))))), ?_⟩
          refine flo_seg 1 rfl ?_
          simp only [List.take_succ_cons, List.take_zero, List.drop_succ_cons, List.drop_zero]
          repeat (go_big_quiet_step (fail))
          refine wpQuiet_nil ?_
          refine flo_eff rfl rfl rfl rfl (fun K hK => ?_)
          obtain ⟨c6', f6'⟩ := box1 (Gr.blk HG (Gr.blk (Gr.drew (Gr.refl w7)) b6')); go_wp2; refine ⟨by (first | (refine Gr.mdh ?_ _; (repeat (first | (with_reducible exact Gr.refl _) | assumption | (with_reducible apply Gr.from_drew) | (with_reducible apply Gr.alloc) | (with_reducible apply Gr.drew) | (with_reducible refine Gr.trans ?_ (by assumption)) | (with_reducible refine Gr.setCell ?_ (by omega) _))); done) | (repeat (first | (with_reducible exact Mdh.refl _ _) | (with_reducible refine Mdh.setCell ?_ (by simp) _) | (with_reducible refine Mdh.setNew ?_ (by simp) _) | (with_reducible apply Mdh.alloc) | (with_reducible apply Mdh.drew) | (with_reducible refine Mdh.gr ?_ (by assumption))))), ?_⟩
          refine flo_nil ?_
          go_wp2_with fail
          have g17 : Gr X w1 := hg7.trans ((Gr.drew (Gr.refl w7)).trans HG)
          refine retM2 (D := D) (E := D2) (v := .bool true) rfl HDX.out.2.2.1 (blkSetO (g17.blk HDX.out.2.1) (by have := HDX.out.2.2.2.2; simp; omega)) (blkSetO (g17.blk HDX.out.1) (by have := HDX.out.2.2.2.1; simp; omega)) ?_ ⟨rfl, ?_⟩
          · have h6 := blkSet (j := 0) (u := .bool true) (g17.blk HB6X.out)
            have h6' : (((w1.setCell ⟨w.heap.size + 1, 0, none⟩ (.bool true)).putObj D2 (.deferred none)).putObj D (.deferred none)).heap[w.heap.size + 1]? = some (.cells #[.bool true] 4) :=
              (World.putObj_heap_other (by have := HDX.out.2.2.2.1; omega)).trans ((World.putObj_heap_other (by have := HDX.out.2.2.2.2; omega)).trans (by simpa using h6))
            have := (box1 h6').1
            simp [results, Try.results10, go_sem, this]
          · exact ((((HQX.out.g.trans g17).setCell (by simp) _).putObj (by have := HDX.out.2.2.2.2; omega) _).putObj (by have := HDX.out.2.2.2.1; omega) _)
        · have hp0' : ((p1.length : Int) == 0) = false := beq_false_of_ne (by omega)
          obtain ⟨x0, hx0, _, hmin0⟩ := HP1.out 0 (by omega)
          obtain ⟨hi0, _⟩ := IsMinS.uniq hmin hmin0
          obtain ⟨g1, rfl, hcg⟩ := own_cell (j := 0) (HOWN.out.gr hg7) (by omega)
          rw [List.getElem?_map, hx0, Option.map_some, ← hi0] at hcg
          have e3 : ¬ g1 = w.heap.size + 1 := fun h => by have := (HB1.out.rz g1 rfl).2; have := blkLt b6; omega
          have hl1 : (0 : Int) < p1.length := by omega
          refine wp_region_flo (fun k => k = w.heap.size + 1) [] [] (by kernel_rfl) (by kernel_rfl) (fun k hk => by subst hk; exact blkLt b6') ?_
          refine flo_seg 2 rfl ?_
          simp only [List.take_succ_cons, List.take_zero, List.drop_succ_cons, List.drop_zero]
          repeat (go_big_quiet_step (fail))
          refine wpQuiet_nil ?_
          refine flo_eff rfl rfl rfl rfl (fun K hK => ?_)
          go_wp2_with ((go_at_call 21; refine (count_any _ _ _ _ (HQ7.out.r.gr (by (repeat (first | (with_reducible exact Gr.refl _) | assumption | (with_reducible apply Gr.from_drew) | (with_reducible apply Gr.alloc) | (with_reducible apply Gr.drew) | (with_reducible refine Gr.trans ?_ (by assumption)) | (with_reducible refine Gr.setCell ?_ (by omega) _))))) (by omega)).mono ?_; rintro e w1 ⟨rfl, rfl⟩))
          refine ⟨by (first | (refine Gr.mdh ?_ _; (repeat (first | (with_reducible exact Gr.refl _) | assumption | (with_reducible apply Gr.from_drew) | (with_reducible apply Gr.alloc) | (with_reducible apply Gr.drew) | (with_reducible refine Gr.trans ?_ (by assumption)) | (with_reducible refine Gr.setCell ?_ (by omega) _))); done) | (repeat (first | (with_reducible exact Mdh.refl _ _) | (with_reducible refine Mdh.setCell ?_ (by simp) _) | (with_reducible refine Mdh.setNew ?_ (by simp) _) | (with_reducible apply Mdh.alloc) | (with_reducible apply Mdh.drew) | (with_reducible refine Mdh.gr ?_ (by assumption))))), ?_⟩
          refine flo_seg 3 rfl ?_
          simp only [List.take_succ_cons, List.take_zero, List.drop_succ_cons, List.drop_zero]
          repeat (go_big_quiet_step (fail))
          refine wpQuiet_nil ?_
          refine flo_eff rfl rfl rfl rfl (fun K hK => ?_)
          go_wp2_with ((go_at_call 16; refine (LenS _ _ _ _ _ _ (HQ7.out.q.gr (by (repeat (first | (with_reducible exact Gr.refl _) | assumption | (with_reducible apply Gr.from_drew) | (with_reducible apply Gr.alloc) | (with_reducible apply Gr.drew) | (with_reducible refine Gr.trans ?_ (by assumption)) | (with_reducible refine Gr.setCell ?_ (by omega) _)))))).mono ?_; rintro e w1 ⟨rfl, rfl⟩))
          refine ⟨by (first | (refine Gr.mdh ?_ _; (repeat (first | (with_reducible exact Gr.refl _) | assumption | (with_reducible apply Gr.from_drew) | (with_reducible apply Gr.alloc) | (with_reducible apply Gr.drew) | (with_reducible refine Gr.trans ?_ (by assumption)) | (with_reducible refine Gr.setCell ?_ (by omega) _))); done) | (repeat (first | (with_reducible exact Mdh.refl _ _) | (with_reducible refine Mdh.setCell ?_ (by simp) _) | (with_reducible refine Mdh.setNew ?_ (by simp) _) | (with_reducible apply Mdh.alloc) | (with_reducible apply Mdh.drew) | (with_reducible refine Mdh.gr ?_ (by assumption))))), ?_⟩
          refine flo_seg 22 rfl ?_
          simp only [List.take_succ_cons, List.take_zero, List.drop_succ_cons, List.drop_zero]
          repeat (go_big_quiet_step (fail))
          refine wpQuiet_nil ?_
          refine flo_eff rfl rfl rfl rfl (fun K hK => ?_)
          go_wp2_with ((go_at_call 11; refine (works_any _).mono ?_; rintro e w1 ⟨rfl, hg⟩; replace HG := HG.trans hg; (try clear hc); have hc := HG.cell; (try simp only [World.size_alloc] at hc)))
          refine ⟨by (first | (refine Gr.mdh ?_ _; (repeat (first | (with_reducible exact Gr.refl _) | assumption | (with_reducible apply Gr.from_drew) | (with_reducible apply Gr.alloc) | (with_reducible apply Gr.drew) | (with_reducible refine Gr.trans ?_ (by assumption)) | (with_reducible refine Gr.setCell ?_ (by omega) _))); done) | (repeat (first | (with_reducible exact Mdh.refl _ _) | (with_reducible refine Mdh.setCell ?_ (by simp) _) | (with_reducible refine Mdh.setNew ?_ (by simp) _) | (with_reducible apply Mdh.alloc) | (with_reducible apply Mdh.drew) | (with_reducible refine Mdh.gr ?_ (by assumption))))), ?_⟩
          refine flo_seg 1 rfl ?_
          simp only [List.take_succ_cons, List.take_zero, List.drop_succ_cons, List.drop_zero]
          repeat (go_big_quiet_step (fail))
          refine wpQuiet_nil ?_
          refine flo_eff rfl rfl rfl rfl (fun K hK => ?_)
          obtain ⟨c6', f6'⟩ := box1 (Gr.blk HG (Gr.blk (Gr.drew (Gr.refl w7)) b6')); go_wp2; refine ⟨by (first | (refine Gr.mdh ?_ _; (repeat (first | (with_reducible exact Gr.refl _) | assumption | (with_reducible apply Gr.from_drew) | (with_reducible apply Gr.alloc) | (with_reducible apply Gr.drew) | (with_reducible refine Gr.trans ?_ (by assumption)) | (with_reducible refine Gr.setCell ?_ (by omega) _))); done) | (repeat (first | (with_reducible exact Mdh.refl _ _) | (with_reducible refine Mdh.setCell ?_ (by simp) _) | (with_reducible refine Mdh.setNew ?_ (by simp) _) | (with_reducible apply Mdh.alloc) | (with_reducible apply Mdh.drew) | (with_reducible refine Mdh.gr ?_ (by assumption))))), ?_⟩
          refine flo_nil ?_
          go_wp2_with fail
          have g17 : Gr X w1 := hg7.trans ((Gr.drew (Gr.refl w7)).trans HG)
          refine retM2 (D := D) (E := D2) (v := .bool true) rfl HDX.out.2.2.1 (blkSetO (g17.blk HDX.out.2.1) (by have := HDX.out.2.2.2.2; simp; omega)) (blkSetO (g17.blk HDX.out.1) (by have := HDX.out.2.2.2.1; simp; omega)) ?_ ⟨rfl, ?_⟩
          · have h6 := blkSet (j := 0) (u := .bool true) (g17.blk HB6X.out)
            have h6' : (((w1.setCell ⟨w.heap.size + 1, 0, none⟩ (.bool true)).putObj D2 (.deferred none)).putObj D (.deferred none)).heap[w.heap.size + 1]? = some (.cells #[.bool true] 4) :=
              (World.putObj_heap_other (by have := HDX.out.2.2.2.1; omega)).trans ((World.putObj_heap_other (by have := HDX.out.2.2.2.2; omega)).trans (by simpa using h6))
            have := (box1 h6').1
            simp [results, Try.results10, go_sem, this]
          · exact ((((HQX.out.g.trans g17).setCell (by simp) _).putObj (by have := HDX.out.2.2.2.2; omega) _).putObj (by have := HDX.out.2.2.2.1; omega) _)
end Go.Proofs.Ythialloenkbpnaa
