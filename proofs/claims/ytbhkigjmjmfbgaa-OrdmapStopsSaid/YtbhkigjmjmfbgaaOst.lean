/- OrdmapStops answers true: loops that stop early, and begin anew. -/
import Derived.Test.YtbhkigjmjmfbgaaOfl
import Derived.Test.YtbhkigjmjmfbgaaOmE
set_option linter.unusedVariables false
set_option linter.unusedSimpArgs false
namespace Go.Proofs.Ytbhkigjmjmfbgaa
open Go.RowKit Go.Shelf Go.Maps
attribute [local go_sem] OvM cell_ovm obj_ovm
attribute [local go_sem] Oper.semAt_some

theorem retM3 {P : Program} {fn : Func} {R : Ending → World → Prop} {a : Act} {w : World} {v : Value} {D E F : Nat} (hd : a.defers = [{ target := .collected F, args := #[] }, { target := .collected E, args := #[] }, { target := .collected D, args := #[] }])
    (hEF : E ≠ F) (hDF : D ≠ F) (hDE : D ≠ E) (hf : w.heap[F]? = some (.deferred (some []))) (he : w.heap[E]? = some (.deferred (some []))) (hk : w.heap[D]? = some (.deferred (some [])))
    (hr : (results fn a.tmps).run P (((w.putObj F (.deferred none)).putObj E (.deferred none)).putObj D (.deferred none)) = .ok v (((w.putObj F (.deferred none)).putObj E (.deferred none)).putObj D (.deferred none)))
    (hR : R (.returned v) (((w.putObj F (.deferred none)).putObj E (.deferred none)).putObj D (.deferred none))) : bodyPostM Fence.wide 3 P fn R .ret a w := by
  show LeavesInM _ _ _ _ _ _ _ _ _
  rw [hd]
  exact ⟨by simp, .inl ⟨_, _, rfl, run_takeDeferred hf, by simp, .inl ⟨_, _, rfl, run_takeDeferred ((World.putObj_heap_other hEF).trans he), by simp, .inl ⟨_, _, rfl, run_takeDeferred ((World.putObj_heap_other hDE).trans ((World.putObj_heap_other hDF).trans hk)), v, hr, hR⟩⟩⟩⟩
theorem FS.keep {w u u' : World} {b bw n : Nat} {v : Value} {L : List Itii} {S : Nat → Prop} (h : FS w u b v bw n L) (m : Mdh S u u') (h1 : ∀ k, S k → k ≠ b ∧ v.ownBlock ≠ some k ∧ k ≠ bw ∧ w.heap.size ≤ k) : FS w u' b v bw n L :=
  ⟨h.om.mdh m (fun k hk hs => hk.elim (h1 k hs).1 (h1 k hs).2.1), h.gm.mdh m (fun hs => (h1 _ hs).2.2.1 rfl), h.bnd, h.nb, h.nv, h.nw, h.g.md m (fun k hk => (h1 k hk).2.2.2)⟩
theorem FS.lt {w u : World} {b bw n : Nat} {v : Value} {L : List Itii} (h : FS w u b v bw n L) : b < u.heap.size ∧ (∀ k, v.ownBlock = some k → k < u.heap.size) ∧ bw < u.heap.size := ⟨blkLt h.om.blk, fun _ hk => h.om.own.lt hk, h.gm.lt⟩
theorem gr_grown {w w' : World} (g : Gr w w') (row : Option Nat) : w.grownBy w' row := ⟨Below.os g, Below.tape g, Below.output g, g.sz, fun k hk _ => Below.block g k hk⟩
theorem CallsAt.gr {w w' : World} {a : Option Addr} {l : List Cl} (h : CallsAt w a l) (g : Gr w w') : CallsAt w' a l := fun i hi => by
  obtain ⟨b, off, e, hb, c0, c1, c2, h3⟩ := h i hi
  exact ⟨b, off, e, Nat.lt_of_lt_of_le hb g.sz, g.keep c0, g.keep c1, g.keep c2, h3⟩
def kI (xs : List Itii) : List Value := xs.map fun x => .int .i64 x.1
theorem kI_len (xs : List Itii) : (kI xs).length = xs.length := by simp [kI]

theorem Own.takeA {w : World} {e : TypeId} {K n cap m : Nat} {a : Option Addr} {xs : List Value} (h : Own w e K (.slice a n cap) n xs) (hm : m ≤ n) : Own w e K (.slice a m cap) m (xs.take (m * K)) := by
  have h' := h
  rcases h'.2 with ⟨h2, h0⟩ | ⟨g, cap', cur, hv, _⟩
  · obtain rfl : m = 0 := by omega
    simp only [Value.slice.injEq] at h2
    obtain ⟨rfl, _, rfl⟩ := h2
    exact ⟨by simp, .inl ⟨rfl, rfl⟩⟩
  · simp only [Value.slice.injEq] at hv
    obtain ⟨rfl, _, _⟩ := hv
    exact h.take hm
theorem EqK2 (xs : List Itii) (v1 v2 : Value) (w : World) (h1 : Own w 3 1 v1 xs.length (kI xs)) (h2 : Own w 3 1 v2 xs.length (kI xs)) (hn : xs.length ≤ 1000000) :
    Calls Try.prog 13 #[v1, v2] w fun e w' => e = .returned (.bool true) ∧ Gr w w' := by
  have e : kI xs = (xs.map Prod.fst).map iv := by simp [kI, Function.comp_def]
  rw [e] at h1 h2
  refine (EqualI (xs.map Prod.fst) (xs.map Prod.fst) v1 v2 w (by rw [List.length_map]; exact h1) (by rw [List.length_map]; exact h2) (by rw [List.length_map]; exact hn)).mono ?_
  rintro e w' ⟨rfl, hg⟩
  exact ⟨by simp, hg⟩

set_option maxRecDepth 100000 in
set_option maxHeartbeats 16000000 in
theorem Stops_any (a : Option Addr) (len cap : Nat) (l : List Cl) (key : Int) (stop : UInt8) (w : World) (hl : l.length = len) (hle : len ≤ cap) (hcap : cap ≤ maxLen) (hs : CallsAt w a l) :
    Calls Try.prog 3 #[.slice a len cap, .int .i64 key, .int .u8 (stop.toNat : Int)] w fun e w' => e = .returned (.bool true) ∧ Gr w w' := by
  obtain ⟨i0, hi, hz0, hz1, hz2⟩ := info_parts Try.infoInt
  have hst0 : (0 : Int) ≤ stop.toNat := by omega
  have hst1 : (stop.toNat : Int) < 256 := by have := stop.toNat_lt; omega
  have HS := Lib.hid hs
  have HL := Lib.hid hl
  clear hs hl
  refine calls_of_wp_marks Try.func3 rfl ?_
  simp only [Try.ntmps3, List.size_toArray, List.length_cons, List.length_nil, Nat.reduceAdd, Nat.reduceSub, Array.replicate_succ, Array.replicate_zero, List.push_toArray, List.append_toArray, List.nil_append, List.cons_append]
  go_wp2_with fail
  refine (filled_any a len cap l _ HL.out hle hcap (HS.out.gr ((Gr.refl w).alloc _))).mono ?_
  rintro e w1 ⟨b, v, bw, n, L, rfl, hF, hn⟩
  obtain ⟨wb, hwb⟩ : ∃ wb, wb = w.alloc (.cells #[.int .u8 (stop.toNat : Int)] 5) := ⟨_, rfl⟩
  obtain ⟨bs, hbs⟩ : ∃ b, b = w.heap.size := ⟨_, rfl⟩
  have xs0 : w1.heap[bs]? = some (.cells #[.int .u8 (stop.toNat : Int)] 5) := by rw [hbs]; exact hF.g.blk (blkNew w _)
  rw [← hwb] at hF
  have HWB : Hid (Gr w wb ∧ bs < wb.heap.size ∧ w.heap.size ≤ bs) := Lib.hid ⟨by rw [hwb]; exact (Gr.refl w).alloc _, by rw [hwb, hbs]; simp, by omega⟩
  rw [← hbs]
  have HF := Lib.hid hF
  have HXS := Lib.hid xs0
  have hLn := hF.gm.len_le
  clear hF xs0 hwb hbs
  go_wp2_with fail
  refine (FromOii _ key _).mono ?_
  rintro e w2 ⟨bb, bk, rfl, hbb, hbk, hlb, hlk, hg⟩
  obtain ⟨b8, hb8⟩ : ∃ b, b = w1.heap.size := ⟨_, rfl⟩
  have x8 : w2.heap[b8]? = some (.cells #[.map (some bw)] 24) := by rw [hb8]; exact hg.blk (blkNew w1 _)
  have g2 : Gr w1 w2 := ((Gr.refl w1).alloc _).trans hg
  simp only [World.size_alloc] at hlb hlk
  have HB : Hid (b8 < bb ∧ b8 < bk ∧ w1.heap.size ≤ b8) := Lib.hid (by omega)
  have HF2 := Lib.hid (HF.out.gr g2)
  have XS2 := Lib.hid (g2.blk HXS.out)
  have HBB := Lib.hid (And.intro hbb hbk)
  rw [← hb8]
  have HG2 := Lib.hid g2
  have X8 := Lib.hid x8
  clear g2 hg hlb hlk hbb hbk x8 hb8
  go_wp2_with fail
  refine (yieldsTwoii _ _ _).mono ?_
  rintro e u ⟨rfl, hu⟩
  obtain ⟨b11, hb11⟩ : ∃ b, b = w2.heap.size := ⟨_, rfl⟩
  have gu : Gr w2 u := by rw [← hu]; exact ((Gr.refl w2).alloc _).alloc _
  have x11 : u.heap[b11]? = some (.cells #[.slice none 0 0] 30) := by rw [← hu, hb11]; exact blkOld (blkNew w2 _)
  have x12 : u.heap[b11 + 1]? = some (.cells #[.slice none 0 0] 30) := by rw [← hu, hb11]; have := blkNew (w2.alloc (.cells #[.slice none 0 0] 30)) (.cells #[.slice none 0 0] 30); rwa [World.size_alloc] at this
  have HFU := Lib.hid (HF2.out.gr gu)
  have XSU := Lib.hid (gu.blk XS2.out)
  have X8U := Lib.hid (gu.blk X8.out)
  have HBU : Hid (u.cell? ⟨bb, 0, none⟩ = some (.pointer (some ⟨b, 0, none⟩)) ∧ u.cell? ⟨bk, 0, none⟩ = some (.int .i64 key)) := Lib.hid ⟨gu.keep HBB.out.1, gu.keep HBB.out.2⟩
  rw [← hb11]
  obtain ⟨b12, hb12⟩ : ∃ b, b = b11 + 1 := ⟨_, rfl⟩
  rw [← hb12] at x12
  rw [← hb12]
  have h1112 : b11 < b12 := by omega
  clear hb12
  obtain ⟨T, hT⟩ : ∃ T, T = L.drop (rk ltZ L key) := ⟨_, rfl⟩
  have HTL : Hid (T.length ≤ L.length) := Lib.hid (by rw [hT, List.length_drop]; omega)
  have HSEQ : Hid (SeqZ Fence.wide 2 Try.prog 52 #[.pointer (some ⟨bb, 0, none⟩), .pointer (some ⟨bk, 0, none⟩)] encOii (fun k => k = bb ∨ k = bk ∨ OMB (some ⟨b, 0, none⟩) v k) (fun xs => xs = T) (fun pre => pre <+: T) u) := Lib.hid (by rw [hT]; exact SeqFii _ v L key (by omega) bb bk u (.inl ⟨b, rfl, HFU.out.om⟩) HBU.out.1 HBU.out.2)
  -- all that the loops keep lies below b11
  have HLO : Hid ((∀ k, (k = bb ∨ k = bk ∨ OMB (some ⟨b, 0, none⟩) v k) → k < b11) ∧ bs < b11 ∧ b8 < b11 ∧ bw < b11 ∧ b < b11 ∧ (∀ k, v.ownBlock = some k → k < b11) ∧ wb.heap.size ≤ b11) := Lib.hid (by
    have l1 := HF2.out.lt
    have l2 := blkLt XS2.out
    have l3 := blkLt X8.out
    have l4 := World.block_lt_of_cell? w2 ⟨bb, 0, none⟩ HBB.out.1
    have l5 := World.block_lt_of_cell? w2 ⟨bk, 0, none⟩ HBB.out.2
    have l6 := HF2.out.g.sz
    rw [hb11]
    refine ⟨?_, l2, l3, l1.2.2, l1.1, l1.2.1, l6⟩
    rintro k (rfl | rfl | ⟨a, ha, rfl⟩ | hk)
    · exact l4
    · exact l5
    · obtain rfl := Option.some.inj ha; exact l1.1
    · exact l1.2.1 k hk)
  have HSZ : Hid (b12 < u.heap.size) := Lib.hid (blkLt x12)
  have X12 := Lib.hid x12
  clear hu hb11 gu HF2 XS2 X8 HBB hT x12 HXS HF HB HG2
  go_wp2_with fail
  apply wp_rangeFunc_zb (gf := 52) (lb := #[.pointer (some ⟨bb, 0, none⟩), .pointer (some ⟨bk, 0, none⟩)]) rfl (enters_of Try.func52 (by kernel_rfl) rfl) HSEQ.out (Mdh.refl _ u) (fun k hk => by have := HLO.out.1 k hk; have := HSZ.out; omega) (fun _ => rfl)
    (fun Z pre W => (∃ v1, BoxRow W Z b11 30 3 v1 (kI pre) ∧ (∀ g, v1.ownBlock = some g → u.heap.size ≤ g) ∧ pre.length ≤ stop.toNat) ∧ Frm u (fun k => k = b11) Z W)
    (fun Z s W => ∃ pre x, (s = pre ++ [x] ∧ pre.length = stop.toNat) ∧ (∃ v1, BoxRow W Z b11 30 3 v1 (kI pre) ∧ ∀ g, v1.ownBlock = some g → u.heap.size ≤ g) ∧ Frm u (fun k => k = b11) Z W)
    (fun _ _ _ => False)
    ((Apart.ex fun v1 => (BoxRow.apart _ _ _ v1 _).and (Apart.pure _)).and (Frm.apart _ _))
    (Apart.ex fun pre => Apart.ex fun x => (Apart.pure _).and ((Apart.ex fun v1 => (BoxRow.apart _ _ _ v1 (fun _ => kI pre)).and (Apart.pure _)).and (Frm.apart _ _)))
    apart_no
    ⟨⟨_, ⟨x11, fun h => h, ⟨rfl, .inl ⟨rfl, rfl⟩⟩, fun g hg => (by cases hg)⟩, fun g hg => (by cases hg), by simp⟩, Frm.refl _ _⟩
    _ ?assign ?body ?hend ?hret
  case assign =>
    intro l x W K hK
    dsimp only [encOii]
    gi_wp2
    exact hK
  case body =>
    intro l Z pre x W hI hsp
    obtain ⟨⟨v1, hB, hgn, hps⟩, hF⟩ := hI
    obtain ⟨av, capv, hv, hle1, hcap1⟩ := own_val hB.own
    rw [kI_len] at hv hle1
    subst hv
    have HBX := Lib.hid hB
    have HFR := Lib.hid hF
    have c11 := hB.cell
    have f11 := hB.fr
    obtain ⟨c5, f5⟩ := box1 (hF.m.blk XSU.out (by have := HLO.out.2.1; omega))
    obtain ⟨c8, f8⟩ := box1 (hF.m.blk X8U.out (by have := HLO.out.2.2.1; omega))
    have hpl : pre.length < T.length := by have := hsp.length_le; simp at this; omega
    have hpl2 : (pre.length : Int) < L.length := by have := HTL.out; omega
    have hmlen := fun ty => gm_len_run (HFU.out.gm.mdh hF.m (show ¬ bw = b11 by have := HLO.out.2.2.2.1; omega)) ty
    have HGN := Lib.hid hgn
    clear hB hF hgn
    unfold maxLen at hcap1
    by_cases hstop : pre.length = stop.toNat
    · have hstop' : (pre.length : Int) = stop.toNat := by omega
      gi_wp2_with fail
      exact ⟨Mdh.refl _ _, rfl, pre, x, ⟨rfl, hstop⟩, ⟨_, HBX.out, HGN.out⟩, HFR.out⟩
    · have hstop' : ¬ (pre.length : Int) = stop.toNat := by omega
      have hstopb : ((pre.length : Int) == (stop.toNat : Int)) = false := beq_false_of_ne hstop'
      have hg0 : Gr W (W.alloc (.cells #[.int .i64 x.1] 3)) := (Gr.refl W).alloc _
      gi_wp2_with (gi_at_builtin; refine wpListIn_app _ rfl (.tmp 52) (.tmp 54) 30 rfl 3 i0 _ 1 8 Try.underlying30 hi hz0 hz1 hz2 rfl (by decide) (.slice av pre.length capv) pre.length (kI pre) rfl (by have := HBX.out.own.gr hg0; rwa [kI_len] at this) ⟨W.heap.size, 0, none⟩ 1 1 [.int .i64 x.1] rfl rfl (news1 _ _ _) (by simp [Value.oneCell']) (by decide) (by simp only [maxLen]; omega) (by omega) ?_; intro g capg w4 hown hwh hgrow; obtain ⟨c4, f4⟩ := box1 (HBX.out.at2 hg0 hgrow); have HW := Lib.hid hwh; have HA := Lib.hid (HBX.out.app (by exact HFR.out.t) hg0 (by rw [kI_len]; exact hown) hwh hgrow); simp only [kI_len] at HA; clear hown hwh hgrow)
      refine ⟨HA.out.2.mono (fun k hk => ?_), ⟨_, by rw [kI, List.map_append]; exact HA.out.1, fun q hq => ?_, by simp; omega⟩, HFR.out.step HA.out.2 (fun k hk => ?_)⟩
      · rcases hk with rfl | hk
        · exact ⟨fun h => by have := HLO.out.1 _ h; omega, HBX.out.nz⟩
        · exact ⟨fun h => by have := HLO.out.1 _ h; have := (HBX.out.rz k hk).2; omega, (HBX.out.rz k hk).1⟩
      · rw [ownB hq]
        exact HW.out.elim (HGN.out g) (fun h => by have := HFR.out.m.size; simp at h; omega)
      · rcases hk with rfl | hk
        · exact .inl rfl
        · exact .inr (HGN.out k hk)
  case hret => intro _ _ _ _ _ _ _ h; exact h.elim
  case hend =>
    intro Z D xs W hD hZD hcase hdef
    obtain ⟨v1, hB, hg1, hF⟩ : ∃ v1, BoxRow W Z b11 30 3 v1 (kI (T.take stop.toNat)) ∧ (∀ g, v1.ownBlock = some g → u.heap.size ≤ g) ∧ Frm u (fun k => k = b11) Z W := by
      rcases hcase with ⟨rfl, ⟨v1, h1, h2, h3⟩, h4⟩ | ⟨hpre, pre, x, ⟨rfl, h0⟩, ⟨v1, h1, h2⟩, h4⟩
      · exact ⟨v1, by rw [List.take_of_length_le h3]; exact h1, h2, h4⟩
      · have e : T.take stop.toNat = pre := by
          obtain ⟨t, ht⟩ := hpre
          rw [← ht, List.append_assoc, List.take_left' h0]
        exact ⟨v1, by rw [e]; exact h1, h2, h4⟩
    have HM1 := Lib.hid hF.m
    have HO1 := Lib.hid (And.intro hB.box (And.intro hB.own hg1))
    have HD1 : Hid (u.heap.size ≤ D ∧ W.heap[D]? = some (.deferred (some []))) := Lib.hid ⟨hD, hdef⟩
    have H12 : Hid (W.heap[b12]? = some (.cells #[.slice none 0 0] 30)) := Lib.hid (hF.m.blk X12.out (by omega))
    have HWZ := Lib.hid hF.m.size
    clear hB hF hg1 hcase hdef hD hZD x11
    dsimp only
    go_wp2_with fail
    refine (yieldsTwoii _ _ _).mono ?_
    rintro e W1 ⟨rfl, rfl⟩
    go_wp2_with fail
    apply wp_rangeFunc_zb (gf := 52) (lb := #[.pointer (some ⟨bb, 0, none⟩), .pointer (some ⟨bk, 0, none⟩)]) rfl (enters_of Try.func52 (by kernel_rfl) rfl) HSEQ.out (HM1.out.mono (fun k hk h => by have := HLO.out.1 k h; omega)) (fun k hk => by have := HLO.out.1 k hk; have := HSZ.out; have := HWZ.out; omega) (fun _ => rfl)
      (fun Z pre X => (∃ v2, BoxRow X Z (b12) 30 3 v2 (kI pre) ∧ ∀ g, v2.ownBlock = some g → W.heap.size ≤ g) ∧ Frm W (fun k => k = b12) Z X)
      (fun _ _ _ => False) (fun _ _ _ => False)
      ((Apart.ex fun v2 => (BoxRow.apart _ _ _ v2 _).and (Apart.pure _)).and (Frm.apart _ _)) apart_no apart_no
      ⟨⟨_, ⟨H12.out, fun h => h, ⟨rfl, .inl ⟨rfl, rfl⟩⟩, fun g hg => (by cases hg)⟩, fun g hg => (by cases hg)⟩, Frm.refl _ _⟩
      _ ?assign2 ?body2 ?hend2 ?hret2
    case assign2 =>
      intro l x X K hK
      dsimp only [encOii]
      gi_wp2
      exact hK
    case hret2 => intro _ _ _ _ _ _ _ h; exact h.elim
    case body2 =>
      intro l Z2 pre x X hI hsp
      obtain ⟨⟨v2, hB, hgn⟩, hF⟩ := hI
      obtain ⟨av, capv, hv, hle1, hcap1⟩ := own_val hB.own
      rw [kI_len] at hv hle1
      subst hv
      have HBX := Lib.hid hB
      have HFR := Lib.hid hF
      have c12 := hB.cell
      have f12 := hB.fr
      have HMX : Hid (Mdh (fun k => k = b11 ∨ k = b12) u X) := Lib.hid ((HM1.out.mono (fun k h => .inl h)).trans (hF.m.mono (fun k h => .inr h)))
      have hpl : pre.length < T.length := by have := hsp.length_le; simp at this; omega
      have hpl2 : (pre.length : Int) + 1 ≤ L.length := by have := HTL.out; omega
      have HGN := Lib.hid hgn
      clear hB hF hgn
      unfold maxLen at hcap1
      have hg0 : Gr X (X.alloc (.cells #[.int .i64 x.1] 3)) := (Gr.refl X).alloc _
      gi_wp2_with (gi_at_builtin; refine wpListIn_app _ rfl (.tmp 60) (.tmp 62) 30 rfl 3 i0 _ 1 8 Try.underlying30 hi hz0 hz1 hz2 rfl (by decide) (.slice av pre.length capv) pre.length (kI pre) rfl (by have := HBX.out.own.gr hg0; rwa [kI_len] at this) ⟨X.heap.size, 0, none⟩ 1 1 [.int .i64 x.1] rfl rfl (news1 _ _ _) (by simp [Value.oneCell']) (by decide) (by simp only [maxLen]; omega) (by omega) ?_; intro g capg w4 hown hwh hgrow; obtain ⟨c4, f4⟩ := box1 (HBX.out.at2 hg0 hgrow); have HW := Lib.hid hwh; have HA := Lib.hid (HBX.out.app (by exact HFR.out.t) hg0 (by rw [kI_len]; exact hown) hwh hgrow); simp only [kI_len] at HA; have HMA : Hid (Mdh (fun k => k = b11 ∨ k = b12 ∨ u.heap.size ≤ k) u w4) := Lib.hid ((HMX.out.mono (fun k h => h.imp id .inl)).then (((Mdh.refl _ X).gr hg0).grown hgrow (fun r hr => hr)) (fun k hk => .inr (by have := HGN.out k hk; have := HWZ.out; omega))); have c8 := (box1 (HMA.out.blk X8U.out (by have := HLO.out.2.2.1; have := HSZ.out; omega))).1; have hmlen : ∀ (y : Value) ty, (Builtin.len_ #[24] ty #[.map (some bw)]).run Try.prog (w4.setCell ⟨b12, 0, none⟩ y) = .ok (.int .i64 L.length) (w4.setCell ⟨b12, 0, none⟩ y) := (fun y ty => gm_len_run ((HFU.out.gm.mdh HMA.out (by have := HLO.out.2.2.2.1; have := HSZ.out; omega)).mdh ((Mdh.refl (fun k => k = b12) w4).setCell (p := ⟨b12, 0, none⟩) rfl y) (by have := HLO.out.2.2.2.1; omega)) ty); have hb8 : b8 ≠ b12 := (by have := HLO.out.2.2.1; omega); clear hown hwh hgrow)
      refine ⟨HA.out.2.mono (fun k hk => ?_), ⟨_, by rw [kI, List.map_append]; exact HA.out.1, fun q hq => ?_⟩, HFR.out.step HA.out.2 (fun k hk => ?_)⟩
      · rcases hk with rfl | hk
        · exact ⟨fun h => by have := HLO.out.1 _ h; omega, HBX.out.nz⟩
        · exact ⟨fun h => by have := HLO.out.1 _ h; have := (HBX.out.rz k hk).2; omega, (HBX.out.rz k hk).1⟩
      · rw [ownB hq]
        exact HW.out.elim (HGN.out g) (fun h => by have := HFR.out.m.size; simp at h; omega)
      · rcases hk with rfl | hk
        · exact .inl rfl
        · exact .inr (HGN.out k hk)
    case hend2 =>
      intro Z2 D2 xs2 X hD2 hZD2 hcase2 hdef2
      obtain ⟨hxs, ⟨v2, hB, hgn⟩, hF⟩ := hcase2.elim (fun h => h) (fun h => h.2.elim)
      have hxs' : xs2 = T := hxs
      subst hxs'
      have HMU : Hid (Mdh (fun k => k = b11 ∨ k = b12) u X) := Lib.hid ((HM1.out.mono (fun k h => .inl h)).trans (hF.m.mono (fun k h => .inr h)))
      have HFX : Hid (FS wb X b v bw n L) := Lib.hid (HFU.out.keep HMU.out (fun k hk => by
        obtain ⟨_, _, _, l1, l2, l3, l4⟩ := HLO.out
        refine ⟨by omega, fun h => by have := l3 k h; omega, by omega, by omega⟩))
      have HO1X : Hid (X.heap[b11]? = some (.cells #[v1] 30) ∧ Own X 3 1 v1 (xs2.take stop.toNat).length (kI (xs2.take stop.toNat))) := Lib.hid ⟨hF.m.blk HO1.out.1 (by omega), by
        have := HO1.out.2.1.mdh hF.m (fun k hk e => by have := HO1.out.2.2 k hk; have := HSZ.out; omega)
        rwa [kI_len] at this⟩
      obtain ⟨a2, c2, hv2, hle2, hcap2⟩ := own_val hB.own
      rw [kI_len] at hv2 hle2
      subst hv2
      have HO2X : Hid (X.heap[b12]? = some (.cells #[.slice a2 xs2.length c2] 30) ∧ Own X 3 1 (.slice a2 xs2.length c2) xs2.length (kI xs2)) := Lib.hid ⟨hB.box, by have := hB.own; rwa [kI_len] at this⟩
      have HBX : Hid (X.heap[bs]? = some (.cells #[.int .u8 (stop.toNat : Int)] 5) ∧ X.heap[b8]? = some (.cells #[.map (some bw)] 24)) := Lib.hid (by
        obtain ⟨_, l0, l1, _⟩ := HLO.out
        exact ⟨HMU.out.blk XSU.out (by omega), HMU.out.blk X8U.out (by omega)⟩)
      have HDX : Hid (X.heap[D]? = some (.deferred (some [])) ∧ X.heap[D2]? = some (.deferred (some [])) ∧ D ≠ D2 ∧ u.heap.size ≤ D ∧ u.heap.size ≤ D2) := Lib.hid (by
        have h1 := (Array.getElem?_eq_some_iff.1 HD1.out.2).1
        have h2 := HWZ.out
        have h3 := HSZ.out
        exact ⟨hF.m.blk HD1.out.2 (by have := HD1.out.1; omega), hdef2, by omega, HD1.out.1, by omega⟩)
      unfold maxLen at hcap2
      clear hB hF hgn hcase2 hxs hD2 hZD2 hdef2
      dsimp only
      go_wp2_with fail
      have c11 := (box1 HO1X.out.1).1
      have c12 := (box1 HO2X.out.1).1
      have c5 := (box1 HBX.out.1).1
      have c8 := (box1 HBX.out.2).1
      have hlT := HTL.out
      have hTL2 : ¬ (L.length : Int) < xs2.length := by omega
      have hml : ∀ g ty, (Builtin.len_ #[24] ty #[.map (some bw)]).run Try.prog (ovm (fun _ => False) X g) = .ok (.int .i64 L.length) (ovm (fun _ => False) X g) := fun g ty => gm_len_run (HFX.out.gm.mdh (ovm_md _ X g) (fun h => h)) ty
      have hml0 : ∀ ty, (Builtin.len_ #[24] ty #[.map (some bw)]).run Try.prog X = .ok (.int .i64 L.length) X := fun ty => gm_len_run HFX.out.gm ty
      have HGX : Hid (∀ y, Gr X y → y = y) := Lib.hid (fun _ _ => rfl)
      obtain ⟨m, hmT, hmv⟩ : ∃ m : Nat, m ≤ xs2.length ∧ m = (xs2.take stop.toNat).length ∧ (((xs2.length : Int) ≤ stop.toNat ∧ m = xs2.length) ∨ (¬ (xs2.length : Int) ≤ stop.toNat ∧ m = stop.toNat)) := by
        refine ⟨min stop.toNat xs2.length, by omega, by rw [List.length_take], ?_⟩
        omega
      have HOM : Hid (Own X 3 1 (.slice a2 m c2) (xs2.take stop.toNat).length (kI (xs2.take stop.toNat))) := Lib.hid (by
        have h1 := HO2X.out.2.takeA hmT
        rw [Nat.mul_one, show (kI xs2).take m = kI (xs2.take stop.toNat) by
          rw [kI, kI, List.map_take, hmv.1, List.length_take]
          rcases hmv.2 with ⟨h2, h3⟩ | ⟨h2, h3⟩
          · rw [List.take_of_length_le (l := xs2.map _) (i := stop.toNat) (by simp; omega), List.take_of_length_le (by simp; omega)]
          · rw [Nat.min_eq_left (by omega)]] at h1
        rw [← hmv.1]; exact h1)
      have HN6 : Hid ((xs2.take stop.toNat).length ≤ 1000000) := Lib.hid (by rw [List.length_take]; omega)
      replace hmv := hmv.2
      have HG := Gr.refl X.drew
      rcases hmv with ⟨hc1, rfl⟩ | ⟨hc1, rfl⟩
      all_goals
        refine wp_region_flo (fun _ => False) [] [] (by kernel_rfl) (by kernel_rfl) (fun _ h => h.elim) ?_
        refine flo_seg 14 rfl ?_
        simp only [List.take_succ_cons, List.take_zero, List.drop_succ_cons, List.drop_zero]
        repeat (go_big_quiet_step (fail))
        refine wpQuiet_nil ?_
        refine flo_eff rfl rfl rfl rfl (fun K hK => ?_)
        go_wp2_with ((go_at_call 13; refine (EqK2 (xs2.take stop.toNat) _ _ _ (HO1X.out.2.gr (by (repeat (first | (with_reducible exact Gr.refl _) | assumption | (with_reducible apply Gr.from_drew) | (with_reducible apply Gr.alloc) | (with_reducible apply Gr.drew) | (with_reducible refine Gr.trans ?_ (by assumption)) | (with_reducible refine Gr.setCell ?_ (by omega) _))))) (HOM.out.gr (by (repeat (first | (with_reducible exact Gr.refl _) | assumption | (with_reducible apply Gr.from_drew) | (with_reducible apply Gr.alloc) | (with_reducible apply Gr.drew) | (with_reducible refine Gr.trans ?_ (by assumption)) | (with_reducible refine Gr.setCell ?_ (by omega) _))))) HN6.out).mono ?_; rintro e w1 ⟨rfl, hg⟩; replace HG := HG.trans hg; (try clear hc); have hc := HG.cell; (try simp only [World.size_alloc] at hc)))
        refine ⟨by (first | (refine Gr.mdh ?_ _; (repeat (first | (with_reducible exact Gr.refl _) | assumption | (with_reducible apply Gr.from_drew) | (with_reducible apply Gr.alloc) | (with_reducible apply Gr.drew) | (with_reducible refine Gr.trans ?_ (by assumption)) | (with_reducible refine Gr.setCell ?_ (by omega) _))); done) | (repeat (first | (with_reducible exact Mdh.refl _ _) | (with_reducible refine Mdh.setCell ?_ (by simp) _) | (with_reducible refine Mdh.setNew ?_ (by simp) _) | (with_reducible apply Mdh.alloc) | (with_reducible apply Mdh.drew) | (with_reducible refine Mdh.gr ?_ (by assumption))))), ?_⟩
        refine flo_seg 2 rfl ?_
        simp only [List.take_succ_cons, List.take_zero, List.drop_succ_cons, List.drop_zero]
        repeat (go_big_quiet_step (fail))
        refine wpQuiet_nil ?_
        refine flo_nil ?_
        have HGX2 : Hid (Gr X w1) := Lib.hid (Gr.of_drew HG)
        clear hc HG hml hml0 c11 c12 c5 c8 HOM HGX
        go_wp2_with fail
        refine (AllOii _ _).mono ?_
        rintro e w3 ⟨b3, rfl, hb3, hl3, hg3⟩
        have G3 : Hid (Gr X w3) := Lib.hid (HGX2.out.trans hg3)
        have HB3 := Lib.hid hb3
        clear HGX2 hb3 hl3 hg3
        go_wp2_with fail
        refine (yieldsTwoii _ _ _).mono ?_
        rintro e W3 ⟨rfl, rfl⟩
        have HF3 := Lib.hid (HFX.out.gr G3.out)
        go_wp2_with fail
        apply wp_rangeFunc_zb (gf := 55) (lb := #[.pointer (some ⟨b3, 0, none⟩)]) rfl (enters_of Try.func55 (by kernel_rfl) rfl) (SeqAii _ v L (by omega) b3 w3 (.inl ⟨b, rfl, HF3.out.om⟩) HB3.out) (Mdh.refl _ w3) (fun k hk => by
            rcases hk with rfl | ⟨a, ha, rfl⟩ | hk
            · exact World.block_lt_of_cell? w3 ⟨k, 0, none⟩ HB3.out
            · obtain rfl := Option.some.inj ha; exact HF3.out.lt.1
            · exact HF3.out.lt.2.1 k hk) (fun _ => rfl)
          (fun Z _ Y => Frm w3 (fun _ => False) Z Y) (fun Z _ Y => Frm w3 (fun _ => False) Z Y) (fun _ _ _ => False)
          (Frm.apart _ _) (Frm.apart _ _) apart_no (Frm.refl _ _)
          _ ?assign3 ?body3 ?hend3 ?hret3
        case assign3 =>
          intro l x Y K hK
          dsimp only [encOii]
          (try gi_wp2)
          exact hK
        case hret3 => intro _ _ _ _ _ _ _ h; exact h.elim
        case body3 =>
          intro l Z3 pre x Y hI hsp
          gi_wp2_with fail
          exact ⟨Mdh.refl _ _, rfl, hI⟩
        case hend3 =>
          intro Z3 D3 xs3 Y hD3 hZD3 hcase3 hdef3
          have hF3 : Frm w3 (fun _ => False) Z3 Y := hcase3.elim (fun h => h.2) (fun h => h.2)
          have MY : Hid (Gr X Y) := Lib.hid (G3.out.md hF3.m (fun _ h => h.elim))
          have HFY := Lib.hid (HFX.out.gr MY.out)
          have HDY : Hid (Y.heap[D]? = some (.deferred (some [])) ∧ Y.heap[D2]? = some (.deferred (some [])) ∧ Y.heap[D3]? = some (.deferred (some [])) ∧ D ≠ D2 ∧ D ≠ D3 ∧ D2 ≠ D3 ∧ u.heap.size ≤ D ∧ u.heap.size ≤ D2 ∧ u.heap.size ≤ D3) := Lib.hid (by
            obtain ⟨h1, h2, h3, h4, h5⟩ := HDX.out
            have l1 := (Array.getElem?_eq_some_iff.1 h1).1
            have l2 := (Array.getElem?_eq_some_iff.1 h2).1
            have l3 := G3.out.sz
            have l4 := (HMU.out).size
            exact ⟨MY.out.blk h1, MY.out.blk h2, hdef3, h3, by omega, by omega, h4, h5, by omega⟩)
          have HA1 : Hid (atO Itii L (-1) = none) := Lib.hid (by unfold atO; rw [if_neg (by omega)])
          have HA2 : Hid (atO Itii L (L.length : Int) = none) := Lib.hid (by unfold atO; rw [if_pos (by omega)]; simp)
          have X8Y := Lib.hid (MY.out.blk HBX.out.2)
          clear hF3 hcase3 hdef3 hD3 hZD3 HFX MY G3 HB3 HDX HF3 HSEQ
          dsimp only
          have HG := Gr.refl Y
          go_wp2_with (first
            | (go_at_call 15; ((with_reducible refine (Atii b v L (-1) _ (HFY.out.om.gr HG)).mono ?_); rintro e w1 ⟨rfl, hg1⟩; rw [HA1.out]; simp only [atEii, if_true]; replace HG := HG.trans hg1; clear hg1))
            | (go_at_call 15; ((with_reducible refine (Atii b v L L.length _ (HFY.out.om.gr HG)).mono ?_); rintro e w1 ⟨rfl, hg1⟩; rw [HA2.out]; simp only [atEii, if_true]; replace HG := HG.trans hg1; clear hg1))
            | (go_at_call 16; refine (Lenii _ v L _ (.inl ⟨b, rfl, HFY.out.om.gr HG⟩)).mono ?_; rintro e w1 ⟨rfl, rfl⟩)
            | fail)
          have HFW := Lib.hid (HFY.out.gr HG)
          have HGY := Lib.hid HG
          have X8W := Lib.hid (HG.blk X8Y.out)
          clear HG
          obtain ⟨w5, hw5⟩ : ∃ y, y = w1 := ⟨_, rfl⟩
          rw [← hw5]
          subst hw5
          have c8 := (box1 X8W.out).1
          have hml : ∀ g ty, (Builtin.len_ #[24] ty #[.map (some bw)]).run Try.prog (ovm (fun _ => False) w5 g) = .ok (.int .i64 L.length) (ovm (fun _ => False) w5 g) := fun g ty => gm_len_run (HFW.out.gm.mdh (ovm_md _ w5 g) (fun h => h)) ty
          have HG := Gr.refl w5.drew
          refine wp_region_flo (fun _ => False) [] [] (by kernel_rfl) (by kernel_rfl) (fun _ h => h.elim) ?_
          refine flo_seg 8 rfl ?_
          simp only [List.take_succ_cons, List.take_zero, List.drop_succ_cons, List.drop_zero]
          repeat (go_big_quiet_step (fail))
          refine wpQuiet_nil ?_
          refine flo_eff rfl rfl rfl rfl (fun K hK => ?_)
          go_wp2_with ((go_at_call 16; refine (Lenii _ v L _ (.inl ⟨b, rfl, HFW.out.om.gr (by (repeat (first | (with_reducible exact Gr.refl _) | assumption | (with_reducible apply Gr.from_drew) | (with_reducible apply Gr.alloc) | (with_reducible apply Gr.drew) | (with_reducible refine Gr.trans ?_ (by assumption)) | (with_reducible refine Gr.setCell ?_ (by omega) _))))⟩)).mono ?_; rintro e w1 ⟨rfl, rfl⟩))
          refine ⟨by (first | (refine Gr.mdh ?_ _; (repeat (first | (with_reducible exact Gr.refl _) | assumption | (with_reducible apply Gr.from_drew) | (with_reducible apply Gr.alloc) | (with_reducible apply Gr.drew) | (with_reducible refine Gr.trans ?_ (by assumption)) | (with_reducible refine Gr.setCell ?_ (by omega) _))); done) | (repeat (first | (with_reducible exact Mdh.refl _ _) | (with_reducible refine Mdh.setCell ?_ (by simp) _) | (with_reducible refine Mdh.setNew ?_ (by simp) _) | (with_reducible apply Mdh.alloc) | (with_reducible apply Mdh.drew) | (with_reducible refine Mdh.gr ?_ (by assumption))))), ?_⟩
          refine flo_seg 4 rfl ?_
          simp only [List.take_succ_cons, List.take_zero, List.drop_succ_cons, List.drop_zero]
          repeat (go_big_quiet_step (fail))
          refine wpQuiet_nil ?_
          refine flo_nil ?_
          have HFV := Lib.hid (HFW.out.gr (Gr.drew (Gr.refl w5)))
          have X8V : Hid (w5.drew.heap[b8]? = some (.cells #[.map (some bw)] 24)) := Lib.hid (Gr.blk (Gr.drew (Gr.refl w5)) X8W.out)
          have GV : Hid (Gr Y w5.drew) := Lib.hid (HGY.out.drew)
          clear HG hml c8 HFW HFY HGY X8W X8Y
          generalize w5.drew = w6 at *
          have c8 := (box1 X8V.out).1
          obtain ⟨DD, hown, hRD⟩ := HFV.out.gm
          have HOW := Lib.hid hown
          have HRD := Lib.hid hRD
          have HLV := Lib.hid HFV.out.lt
          clear hown hRD
          go_wp2_with (first
            | (at_range; refine wpList_range_own _ rfl (.tmp 118) 24 rfl 3 3 lawI Try.underlying24 (plainElem Try.prog 3) bw n DD rfl HOW.out ?_; intro w8 hrg8 hg8 hs8; have HR8 := Lib.hid (And.intro hrg8 (And.intro hg8 hs8)); clear hrg8 hg8 hs8)
            | fail)
          go_frame
          have FS8 : Hid (FS wb w8 b v bw n L ∧ Gr w6 w8) := Lib.hid (by
            have g8 : Gr w6 w8 := ⟨HR8.out.2.1.os, HR8.out.2.1.tape, HR8.out.2.1.output, HR8.out.2.1.size, fun k hk => HR8.out.2.1.block k hk (by simp)⟩
            exact ⟨HFV.out.gr g8, g8⟩)
          go_loopw [21] (fun _ wr => ∃ (left : Lit → Bool) (cnt : Nat), Hid (wr.ranges Try.prog 3 (plainElem Try.prog 3) bw w6.heap.size n DD left cnt ∧ FS wb wr b v bw n L ∧ Gr w6 wr)) (fun _ wr => wr.rangeLeft bw w6.heap.size)
          case atStart => exact ⟨_, _, Lib.hid ⟨HR8.out.1, FS8.out.1, FS8.out.2⟩⟩
          case round =>
            obtain ⟨left, cnt, HH⟩ := hrel
            have HRI : Hid (w6.heap.size ≠ b ∧ v.ownBlock ≠ some w6.heap.size ∧ w6.heap.size ≠ bw ∧ wb.heap.size ≤ w6.heap.size) := Lib.hid (by
              obtain ⟨l1, l2, l3⟩ := HLV.out
              exact ⟨by omega, fun h => by have := l2 _ h; omega, by omega, HFV.out.g.sz⟩)
            go_wp2_with (first
              | (at_next; refine wpList_next_ranges_ii _ rfl (.tmp 119) rfl 3 3 .i64 .i64 lawI Try.underlying3 Try.underlying3 bw w6.heap.size n DD left cnt rfl HH.out.1 ?_ ?_)
              | fail)
            · intro _ _
              go_wp2_with fail
              refine (works_any _).mono ?_
              rintro e w9 ⟨rfl, hg9⟩
              go_wp2_with fail
              obtain ⟨h1, h2, h3, h4, h5, h6, l1, l2, l3⟩ := HDY.out
              have G9 : Gr Y w9 := (GV.out.trans HH.out.2.2).trans hg9
              have GW : Gr w w9 := (HWB.out.1.trans HH.out.2.1.g).trans hg9
              have lw : w.heap.size ≤ u.heap.size := Nat.le_trans HWB.out.1.sz HFU.out.g.sz
              exact retM3 (D := D) (E := D2) (F := D3) rfl h6 h5 h4 (G9.blk h3) (G9.blk h2) (G9.blk h1) (results_tmp rfl _ _ _) ⟨rfl, ((GW.putObj (by omega) _).putObj (by omega) _).putObj (by omega) _⟩
            · intro x c w9 cnt1 hwx hwc hlx hat hrg1 hlt hg9 hs9 hen
              have hlook := HRD.out.val (k := x) (c := c) hat
              have F1 : Hid (lookVii L x = .int .i64 c) := Lib.hid (by rw [lookV_getD, hlook]; rfl)
              have F2 : Hid (hasBii L x = true) := Lib.hid (by unfold hasBii; rw [hlook]; rfl)
              have HR9 := Lib.hid (And.intro hrg1 hlt)
              have HF9 : Hid (FS wb w9 b v bw n L ∧ Gr w6 w9) := Lib.hid (by
                have m9 : Mdh (fun k => k = w6.heap.size) wr w9 := md_of_grown hg9
                exact ⟨HH.out.2.1.keep m9 (fun k hk => by subst hk; exact HRI.out), HH.out.2.2.md m9 (fun k hk => by rw [hk]; exact Nat.le_refl _)⟩)
              clear hrg1 hlt hat hlx hg9 hlook
              go_wp2_with (first
                | (go_at_call 17; refine (Getii _ v L x _ (.inl ⟨b, rfl, HF9.out.1.om⟩) (by omega)).mono ?_; rintro e w10 ⟨rfl, hg10⟩; rw [F1.out, F2.out])
                | fail)
              have HG10 := Lib.hid hg10
              go_roundw
              case rel => exact ⟨_, _, Lib.hid ⟨HR9.out.1.kept (gr_grown HG10.out none) (by simp) (by simp), HF9.out.1.gr HG10.out, HF9.out.2.trans HG10.out⟩⟩
              case measure =>
                rw [(HR9.out.1.kept (gr_grown HG10.out none) (by simp) (by simp)).left_eq, HH.out.1.left_eq]
                exact HR9.out.2
end Go.Proofs.Ytbhkigjmjmfbgaa
