/- LedgerNewest. -/
import Derived.Test.YtndknnhgdlgbgaaBd16
import Derived.Test.YtndknnhgdlgbgaaBd2
import Derived.Deep.Slices
import Derived.Deep.Fields
import Derived.ChangeSame
import Derived.ChangeArms
import Derived.OpenShut
import Derived.ShutString
import Derived.ChangeOld
import Derived.Lib.SmallJoins
import Derived.Test.YtndknnhgdlgbgaaBd15
set_option linter.unusedVariables false
set_option linter.unusedSimpArgs false
namespace Go.Proofs.Ytndknnhgdlgbgaa
open Go.RowKit Go.Shelf
attribute [local go_sem] OvM cell_ovm obj_ovm
attribute [local go_sem] Oper.semAt_some

theorem infoP : (Try.prog.info? 24).map (fun i => (i.zero, i.size, i.bytes)) = some (some (.agg #[.int .u8 0, .int .u8 0, .int .u8 0, .bool false, .bool false]), 5, 5) := by kernel_rfl
set_option maxRecDepth 40000 in
theorem yieldsS_any (gf : Nat) (lb : Array Value) (w : World) : Calls Try.prog 33 #[.func (.func gf) #[] lb] w fun e w' => e = .returned (.func (.func gf) #[] lb) ∧ w = w' := by
  have k1 : ∀ w : World, (binOp .eql 71 (.func (.func gf) #[] lb) .nilFunc).run Try.prog w = .ok (.bool false) w := fun w => by kernel_rfl
  go_enter Try.func33, Try.ntmps33
  go_wp2
  go_ret
  exact ⟨rfl, rfl⟩
abbrev nwR (b6 : Nat) (X : IX) (pre : List ByteArray) : List Asn := [blkA (b6 + 1 + 1 + 1) (.cells #[.int .i64 pre.length] 3), blkA (b6 + 1 + 1) (.cells #[.int .i64 (tomK X pre)] 3), blkA (b6 + 1) (.cells #[.int .i64 (livK X pre)] 3)]
set_option maxRecDepth 40000 in
set_option maxHeartbeats 8000000 in
theorem LedgerNewest_any (a : Option Addr) (len cap : Nat) (L : List Pt) (w : World) (hl : L.length = len) (hle : len ≤ cap) (hcap : cap ≤ maxLen) (hs : PutAt w a L) :
    Calls Try.prog 5 #[.slice a len cap] w fun e w' => e = .returned (.bool true) ∧ Gr w w' := by
  have HS := Lib.hid hs
  have HL := Lib.hid hl
  unfold maxLen at hcap
  obtain ⟨i0, hi, hz0, hz1, hz2⟩ := info_parts infoP
  obtain ⟨n, hn⟩ : ∃ n : Nat, n = min len 60 := ⟨_, rfl⟩
  have hn1 : n ≤ len := by omega
  have hn2 : n ≤ 60 := by omega
  have hmin : min (len : Int) 60 = n := by omega
  have hlc : (len : Int) ≤ cap := by omega
  have HN : Hid (n = min len 60) := Lib.hid hn
  clear hs hl hn
  refine calls_of_wp_marks Try.func5 rfl ?_
  simp only [Try.ntmps5, List.size_toArray, List.length_cons, List.length_nil, Nat.reduceAdd, Nat.reduceSub, Array.replicate_succ, Array.replicate_zero, List.push_toArray, List.append_toArray, List.nil_append, List.cons_append]
  go_upto_region 2 with fail
  obtain ⟨b2, hb2⟩ : ∃ q, q = w.heap.size := ⟨_, rfl⟩
  obtain ⟨w1, hw1⟩ : ∃ y, y = w.alloc (.cells #[.bool false] 4) := ⟨_, rfl⟩
  have HT2 : Hid (w.heap.size ≤ b2 ∧ Gr w w1 ∧ w1.heap[b2]? = some (.cells #[.bool false] 4)) := Lib.hid (by
    rw [hw1, hb2]
    exact ⟨Nat.le_refl _, (Gr.refl w).alloc _, blkNew w _⟩)
  have HS1 : Hid (Gr w w1) := Lib.hid HT2.out.2.1
  rw [← hb2, ← hw1]
  clear hb2 hw1
  go_cut [20, 21, 22] from 16 to 108 (fun t20 t21 t22 wx => t20 = .slice a n cap ∧ t21 = .int .i64 n ∧ t22 = .int .i64 0 ∧ w1 = wx)
  case first =>
    go_wp2
    all_goals
      go_meet
      first
        | exact ⟨by rw [show n = len by omega], by rw [show n = len by omega], rfl, rfl⟩
        | exact ⟨by rw [show n = 60 by omega], by rw [show n = 60 by omega]; rfl, rfl, rfl⟩
  case rest =>
    obtain ⟨rfl, rfl, rfl, rfl⟩ := hcut
    go_wp2_with fail
    go_loopw [3, 22] (fun t3 t22 wx => ∃ (j : Nat) (v : Value), j ≤ n ∧ v = t3 ∧ t22 = .int .i64 j ∧ Hid (Nw w1 wx 24 5 v j (rowP ((L.take j).map noC)) ∧ Gr w1 wx)) (fun _ t22 _ => n - (intOf t22).toNat)
    case atStart => exact ⟨0, _, by omega, rfl, rfl, Lib.hid ⟨Nw.nil w1 _ _, Gr.refl _⟩⟩
    case round =>
      obtain ⟨j, v, hj, rfl, rfl, HR⟩ := hrel
      by_cases hlt : j < n
      · have hlt' : (j : Int) < n := by omega
        obtain ⟨x, hx⟩ : ∃ x, L[j]? = some x := ⟨_, List.getElem?_eq_getElem (by have := HL.out; omega)⟩
        obtain ⟨bm, off, rfl, hbm, m0, m1, m2, m3, m4, hok⟩ := HS.out j x hx
        have HROW := Lib.hid (rowP_take hx)
        have hg0 := HS1.out.trans HR.out.2
        have e0 := hg0.keep m0
        have e1 := hg0.keep m1
        have e2 := hg0.keep m2
        have e3 := hg0.keep m3
        have e4 := hg0.keep m4
        clear m0 m1 m2 m3 m4 hx hbm hok hg0
        go_upto_region 6 with fail
        obtain ⟨b5, hb5⟩ : ∃ q, q = wr.heap.size := ⟨_, rfl⟩
        obtain ⟨w2, hw2⟩ : ∃ y, y = wr.alloc (boxP (noC x)) := ⟨_, rfl⟩
        have HB : Hid (Gr wr w2 ∧ w2.heap[b5]? = some (boxP (noC x))) := Lib.hid (by
          rw [hw2, hb5]
          exact ⟨(Gr.refl wr).alloc _, blkNew wr _⟩)
        simp only [boxP, noC] at hw2
        rw [← hb5, ← hw2]
        clear hb5 hw2 e0 e1 e2 e3 e4
        have d5 := (cellsOf HB.out.2).1
        have N1 := Lib.hid (HR.out.1.gr HB.out.1)
        have HG1 := Lib.hid (HR.out.2.trans HB.out.1)
        go_wp2_with (first
          | (at_builtin; go_must (refine wpList_appv _ rfl (.tmp 27) (.tmp 29) 22 rfl 24 i0 _ 5 5 Try.underlying22 hi hz0 hz1 hz2 rfl (by decide) v j (rowP ((L.take j).map noC)) rfl (N1.out.own.gr (by (repeat (first | (with_reducible exact Gr.refl _) | assumption | (with_reducible apply Gr.from_drew) | (with_reducible apply Gr.alloc) | (with_reducible apply Gr.drew) | (with_reducible refine Gr.trans ?_ (by assumption)) | (with_reducible refine Gr.setCell ?_ (by omega) _))))) (some ⟨w2.heap.size, 0, none⟩) 1 1 (cellsP (noC x)) rfl (src_newK w2 (cellsP (noC x)) _ 5 rfl (by simp [cellsP, Value.oneCell'])) (by simp only [maxLen]; omega) (by omega) ?_); intro v2 w3 hA; have N2 := Lib.hid (hA.nw (N1.out.gr ((Gr.refl w2).alloc _)) (by have := HG1.out.sz; simp; omega)); have HG2 := Lib.hid (hA.gw (N1.out.gr ((Gr.refl w2).alloc _)) (HG1.out.alloc _)); clear hA)
          | fail)
        go_roundw
        case rel => exact ⟨j + 1, v2, by omega, rfl, by go_num, Lib.hid ⟨by rw [HROW.out]; exact N2.out, HG2.out⟩⟩
        case measure => simp [intOf]; omega
      · have hlt' : ¬ (j : Int) < n := by omega
        obtain rfl : j = n := by omega
        have HM : Hid (∀ t ∈ L.take j, t.Ok) := Lib.hid (fun t ht => putOk HS.out t (List.mem_of_mem_take ht))
        have HML : Hid ((L.take j).length = j) := Lib.hid (by rw [List.length_take]; have := HL.out; omega)
        generalize L.take j = M at *
        have hlm : (M.map noC).length = j := by rw [List.length_map, HML.out]
        obtain ⟨a3, c3, hv3, h31, h32, h33⟩ := own_putAt (l := M.map noC) (by rw [hlm]; exact HR.out.1.own) (fun t ht => by
          obtain ⟨x, hx, rfl⟩ := List.mem_map.1 ht
          exact noC_ok (HM.out x hx))
        have HC := Lib.hid (build23_any a3 j c3 (M.map noC) wr hlm (by omega) h32 h33)
        rw [hlm] at hv3
        subst hv3
        rw [List.take_of_length_le (show (M.map noC).length ≤ 60 by omega)] at HC
        have HNW := Lib.hid (nw23 (L := M) (by have := HML.out; omega) HM.out)
        have HGR := Lib.hid HR.out.2
        clear h31 h32 h33 hlm HR HM HML
        go_wp2_with fail
        refine Calls.mono HC.out ?_
        rintro e w4 ⟨bb, b, S, rfl, hs⟩
        have HS4 := Lib.hid hs
        clear hs HC
        generalize foldP (M.map noC) = st at *
        obtain ⟨X, all, us, nx⟩ := st
        simp only at HS4
        obtain ⟨b6, hb6⟩ : ∃ q, q = w4.heap.size := ⟨_, rfl⟩
        obtain ⟨w5, hw5⟩ : ∃ y, y = w4.alloc (.cells #[.pointer (some ⟨bb, 0, none⟩)] 25) := ⟨_, rfl⟩
        have HS5 : Hid (SW wr [ixA b X S, blkA b6 (.cells #[.pointer (some ⟨bb, 0, none⟩)] 25), blkA bb (blO b us nx)] w5) := Lib.hid (by rw [hw5, hb6]; exact HS4.out.allocT _)
        go_upto_region 12 with fail
        obtain ⟨w6, hw6⟩ : ∃ y, y = ((w5.alloc (.cells #[.int .i64 0] 3)).alloc (.cells #[.int .i64 0] 3)).alloc (.cells #[.int .i64 0] 3) := ⟨_, rfl⟩
        have HS6 : Hid (SW w5 (nwR b6 X []) w6) := Lib.hid (by
          have h := (((SW.start w5).alloc (.cells #[.int .i64 0] 3)).alloc (.cells #[.int .i64 0] 3)).alloc (.cells #[.int .i64 0] 3)
          rw [← hw6] at h
          have hz : w5.heap.size = b6 + 1 := by rw [hw5, World.size_alloc, hb6]
          simp only [World.size_alloc, hz] at h
          exact h)
        rw [hw5] at hw6
        rw [← hb6, ← hw6]
        clear hw6 hw5 hb6 HS4
        have HS66 := Lib.hid (HS5.out.gr HS6.out.g)
        have dB0 : w6.cell? ⟨bb, 0, none⟩ = some (.pointer (some ⟨b, 0, none⟩)) := (cellsOf (show w6.heap[bb]? = _ from HS66.out.get (i := 2) rfl)).1 0
        have c6 := (cellsOf (show w6.heap[b6]? = _ from HS66.out.get (i := 1) rfl)).1
        go_wp2_with fail
        clear dB0 c6 HS66
        refine (Keys_any _ _).mono ?_
        rintro e w7 ⟨bk, rfl, k1, l1, hg⟩
        have HS7 := Lib.hid (HS6.out.gr hg)
        have HRW := Lib.hid (HS5.out.gr HS7.out.g)
        obtain ⟨A, HSEQ, HA, HAN⟩ : ∃ A : Nat → Prop, Hid (SeqZ Fence.wide 2 Try.prog 101 #[.pointer (some ⟨bk, 0, none⟩)] encK A (fun xs => xs = X.ks) (fun pre => pre <+: X.ks) w7) ∧ Hid (∀ k, A k → k < w7.heap.size) ∧ Hid (∀ B ∈ nwR b6 X [], ∀ k, B.S k → ¬ A k) :=
          ⟨_, Lib.hid (SeqKeysP HRW.out.ixp bk k1), Lib.hid (by
            rintro k (rfl | h)
            · exact World.block_lt_of_cell? w7 _ k1
            · exact HRW.out.ix.lt k h), Lib.hid (fun B hB k hk ha => by
            have q1 := HS6.out.s.lt hB k hk
            have q2 := HS6.out.n B hB k hk
            rcases ha with rfl | ha
            · omega
            · have := HS5.out.ix.lt k ha; omega)⟩
        have HZ : Hid (SWz w5 w7 A (nwR b6 X []) (fun _ => False) w7) := Lib.hid (SWz.start HS7.out HAN.out)
        clear k1 l1 hg HAN
        go_wp2_with fail
        refine (yieldsS_any _ _ _).mono ?_
        rintro e w8 ⟨rfl, rfl⟩
        go_wp2_with fail
        apply wp_rangeFunc_zb (gf := 101) (lb := #[.pointer (some ⟨bk, 0, none⟩)]) rfl (enters_of Try.func101 (by kernel_rfl) rfl) HSEQ.out (Mdh.refl _ w7) HA.out (fun _ => rfl)
          (fun Z pre X' => SWz w5 w7 A (nwR b6 X pre) Z X')
          (fun _ _ _ => False) (fun _ _ _ => False)
          (SWz.apart HS7.out.g.sz (fun pre : List ByteArray => nwR b6 X pre)) apart_no apart_no
          HZ.out _ ?assign ?body ?hend ?hret
        case hret => intro _ _ _ _ _ _ _ h; exact h.elim
        case assign =>
          intro l x X' K hK
          dsimp only [encK]
          gi_wp2
          exact hK
        case body =>
          intro l Z pre x X' hI hsp
          have HIZ := Lib.hid hI
          have hne := ks_ne' HNW.out.s3.wf x (hsp.subset (by simp))
          have HNV := Lib.hid (newV_head hne)
          have HBD := Lib.hid (liv_bound HNW.out.s3.wf (List.IsPrefix.trans (List.prefix_append pre [x]) hsp))
          have HHV := Lib.hid (head_valid HNW.out.s3.wf hne)
          have hpl : (pre.length : Int) < 60 := by have h1 := hsp.length_le; have h2 := HNW.out.kl; simp only [List.length_append, List.length_singleton] at h1 h2; omega
          have HNX : Hid (nwR b6 X (pre ++ [x]) = [blkA (b6 + 1 + 1 + 1) (.cells #[.int .i64 ((pre.length : Int) + 1)] 3), blkA (b6 + 1 + 1) (.cells #[.int .i64 (tomK X pre + if (headE X x).del = true then (headE X x).size else 0)] 3), blkA (b6 + 1) (.cells #[.int .i64 (livK X pre + if (headE X x).del = true then 0 else (headE X x).size)] 3)]) := Lib.hid (by
            have h1 := livK_snoc X pre x
            unfold nwR
            rw [h1.1, h1.2, List.length_append]
            rfl)
          clear hI hsp hne
          have HG1 := Lib.hid (HS5.out.gr HIZ.out.s.g)
          have c6 := (cellsOf (show X'.heap[b6]? = _ from HG1.out.get (i := 1) rfl)).1
          have dB0 : X'.cell? ⟨bb, 0, none⟩ = some (.pointer (some ⟨b, 0, none⟩)) := (cellsOf (show X'.heap[bb]? = _ from HG1.out.get (i := 2) rfl)).1 0
          have HP10 := Lib.hid (show X'.heap[b6 + 1 + 1 + 1]? = _ from HIZ.out.s.get (i := 0) rfl)
          have HP9 := Lib.hid (show X'.heap[b6 + 1 + 1]? = _ from HIZ.out.s.get (i := 1) rfl)
          have HP8 := Lib.hid (show X'.heap[b6 + 1]? = _ from HIZ.out.s.get (i := 2) rfl)
          gi_wp2_with fail
          refine ⟨trivial, (CallsIn.inRound l (callsIn_wide.2 (Newest_any HG1.out.ixp x))).mono ?_⟩
          rintro e w9 ⟨rfl, hg9⟩
          rw [HNV.out]
          obtain ⟨lv, hlv⟩ : ∃ lv, lv = livK X pre := ⟨_, rfl⟩
          obtain ⟨tv, htv⟩ : ∃ tv, tv = tomK X pre := ⟨_, rfl⟩
          obtain ⟨y, hy⟩ : ∃ y, y = headE X x := ⟨_, rfl⟩
          rw [← hlv, ← htv] at HBD
          rw [← hy] at HHV
          rw [← hlv, ← htv, ← hy] at HNX
          rw [← hlv] at HP8
          rw [← htv] at HP9
          rw [← hy]
          have HIY : Hid (SWz w5 w7 A [blkA (b6 + 1 + 1 + 1) (.cells #[.int .i64 pre.length] 3), blkA (b6 + 1 + 1) (.cells #[.int .i64 tv] 3), blkA (b6 + 1) (.cells #[.int .i64 lv] 3)] Z X') := Lib.hid (by rw [hlv, htv]; exact HIZ.out)
          obtain ⟨⟨q1, q2⟩, q3, q4⟩ := HBD.out
          have q2' : lv ≤ 500000 := by omega
          have q4' : tv ≤ 500000 := by omega
          clear hlv htv hy HIZ HNV HBD q2 q4
          obtain ⟨y1, y2, y3, y4, y5, y6⟩ := y
          obtain ⟨v1, v2⟩ := HHV.out
          simp only [enV] at *
          have HG9 := Lib.hid hg9
          obtain ⟨d10, f10⟩ := cellsOf (hg9.blk HP10.out)
          have l10 := blkLt (hg9.blk HP10.out)
          obtain ⟨d9, f9⟩ := cellsOf (hg9.blk HP9.out)
          have l9 := blkLt (hg9.blk HP9.out)
          obtain ⟨d8, f8⟩ := cellsOf (hg9.blk HP8.out)
          have l8 := blkLt (hg9.blk HP8.out)
          have hn60 : ¬ (60 : Int) < (pre.length : Int) + 1 := by omega
          clear hg9 c6 dB0
          cases y3
          · gi_wp2_with fail
            have z1 := (HIY.out.gr HG9.out).1.box (i := 0) rfl HA.out ((Mdh.refl (fun k => k = b6 + 1 + 1 + 1) w9).setCell (p := ⟨b6 + 1 + 1 + 1, 0, none⟩) rfl (.int .i64 ((pre.length : Int) + 1))) (blkSet (j := 0) (u := .int .i64 ((pre.length : Int) + 1)) (HG9.out.blk HP10.out))
            have z2 := z1.1.box (i := 2) rfl HA.out ((Mdh.refl (fun k => k = b6 + 1) _).setCell (p := ⟨b6 + 1, 0, none⟩) rfl (.int .i64 (lv + y6))) (blkSet (j := 0) (u := .int .i64 (lv + y6)) (z1.1.s.get (i := 2) rfl))
            have z3 := z2.1.gr ((Gr.refl _).alloc (.cells #[.int .i64 y1, .string y2, .bool false, .int .i64 y4, .int .i64 y5, .int .i64 y6] 43))
            refine ⟨(((HIY.out.gr HG9.out).2.trans z1.2).trans z2.2).trans z3.2, ?_⟩
            dsimp only
            rw [HNX.out]
            simp only [Bool.false_eq_true, if_false, Int.add_zero]
            exact z3.1
          · gi_wp2_with fail
            have z1 := (HIY.out.gr HG9.out).1.box (i := 0) rfl HA.out ((Mdh.refl (fun k => k = b6 + 1 + 1 + 1) w9).setCell (p := ⟨b6 + 1 + 1 + 1, 0, none⟩) rfl (.int .i64 ((pre.length : Int) + 1))) (blkSet (j := 0) (u := .int .i64 ((pre.length : Int) + 1)) (HG9.out.blk HP10.out))
            have z2 := z1.1.box (i := 1) rfl HA.out ((Mdh.refl (fun k => k = b6 + 1 + 1) _).setCell (p := ⟨b6 + 1 + 1, 0, none⟩) rfl (.int .i64 (tv + y6))) (blkSet (j := 0) (u := .int .i64 (tv + y6)) (z1.1.s.get (i := 1) rfl))
            have z3 := z2.1.gr ((Gr.refl _).alloc (.cells #[.int .i64 y1, .string y2, .bool true, .int .i64 y4, .int .i64 y5, .int .i64 y6] 43))
            refine ⟨(((HIY.out.gr HG9.out).2.trans z1.2).trans z2.2).trans z3.2, ?_⟩
            dsimp only
            rw [HNX.out]
            simp only [if_true, Int.add_zero]
            exact z3.1
        case hend =>
          intro Z D xs W hD hZD hcase hdef
          obtain ⟨hxs, hI⟩ := hcase.elim (fun h => h) (fun h => h.2.elim)
          have hxs' : xs = X.ks := hxs
          subst hxs'
          have HRE := Lib.hid (HS5.out.gr hI.s.g)
          have HB2 : Hid (W.heap[b2]? = _) := Lib.hid (HRE.out.g.blk (HGR.out.blk HT2.out.2.2))
          have HIW := Lib.hid hI
          have c6 := (cellsOf (show W.heap[b6]? = _ from HRE.out.get (i := 1) rfl)).1
          have dB0 : W.cell? ⟨bb, 0, none⟩ = some (.pointer (some ⟨b, 0, none⟩)) := (cellsOf (show W.heap[bb]? = _ from HRE.out.get (i := 2) rfl)).1 0
          have HD := Lib.hid (And.intro hD (And.intro hZD hdef))
          clear hI hcase hxs hD hZD hdef
          dsimp only
          go_wp2_with fail
          refine (Sum_any HRE.out.ixp).mono ?_
          rintro e w10 ⟨rfl, hg⟩
          rw [show sumBy X = (addL (allL X 6), 0) from HNW.out.s3.sumBy]
          have HSM := HNW.out.s3.sum 6
          have hsl := sum_live HNW.out.s3.wf HNW.out.uq
          rw [show X.slots.length = 6 from HNW.out.s3.n] at hsl
          simp only at HSM hsl
          have HI10 := Lib.hid (HIW.out.gr hg).1
          obtain ⟨sm, hsm⟩ : ∃ sm, sm = addL (allL X 6) := ⟨_, rfl⟩
          rw [← hsm] at HSM hsl
          rw [← hsm]
          clear hsm
          obtain ⟨s0, s1, s2, s3, s4⟩ := sm
          obtain ⟨g1, g2⟩ := hsl
          simp only at g1 g2
          have HSMH := Lib.hid HSM
          have e8 : w10.heap[b6 + 1]? = some (.cells #[.int .i64 s1] 3) := by rw [g1]; exact HI10.out.s.get (i := 2) rfl
          have e9 : w10.heap[b6 + 1 + 1]? = some (.cells #[.int .i64 s2] 3) := by rw [g2]; exact HI10.out.s.get (i := 1) rfl
          have HG10 := Lib.hid hg
          have HBX := Lib.hid (hg.blk HB2.out)
          have HE8 := Lib.hid e8
          have HE9 := Lib.hid e9
          clear hg c6 dB0 g1 g2 e8 e9 HSM
          simp only [byV]
          go_upto_region 22 with fail
          obtain ⟨b14, hb14⟩ : ∃ q, q = w10.heap.size := ⟨_, rfl⟩
          obtain ⟨w11, hw11⟩ : ∃ y, y = w10.alloc (boxB ⟨s0, s1, s2, s3, s4⟩) := ⟨_, rfl⟩
          have HG11 : Hid (Gr w10 w11) := Lib.hid (by rw [hw11]; exact (Gr.refl _).alloc _)
          have e14 : w11.heap[b14]? = some (boxB ⟨s0, s1, s2, s3, s4⟩) := by rw [hw11, hb14]; exact blkNew _ _
          simp only [boxB] at hw11
          rw [← hb14, ← hw11]
          have d14 := (cellsOf e14).1
          have l14 := blkLt e14
          have d8 := (cellsOf (HG11.out.blk HE8.out)).1
          have l8 := blkLt (HG11.out.blk HE8.out)
          have d9 := (cellsOf (HG11.out.blk HE9.out)).1
          have l9 := blkLt (HG11.out.blk HE9.out)
          obtain ⟨d2, f2⟩ := cellsOf (HG11.out.blk HBX.out)
          have l2 := blkLt (HG11.out.blk HBX.out)
          have HBY := Lib.hid (HG11.out.blk HBX.out)
          obtain ⟨u1, u2, u3, u4, u5, u6, u7, u8⟩ := HSMH.out
          simp only at u1 u2 u3 u4 u5
          have p0 : 0 ≤ s0 ∧ s0 ≤ 50000 := by omega
          have p1 : s1 ≤ 50000 ∧ s2 ≤ 50000 := by omega
          have p2 : 0 ≤ s0 - s1 ∧ s0 - s1 ≤ 50000 := by omega
          have p3 : s3 = s0 - s1 - s2 := by omega
          have p4 : (s3 == s0 - s1 - s2) = true := beq_iff_eq.2 p3
          have p5 : decide (s3 = s0 - s1 - s2) = true := decide_eq_true p3
          obtain ⟨p0a, p0b⟩ := p0
          obtain ⟨p1a, p1b⟩ := p1
          obtain ⟨p2a, p2b⟩ := p2
          have p3a : 0 ≤ s0 - s1 - s2 := by omega
          have p3b : s0 - s1 - s2 ≤ 50000 := by omega
          clear hb14 hw11 e14 u4 u5 u6 u7 u8
          have HG := Gr.refl w11.drew
          go_wp2_with (first
            | (go_at_call 22; refine (lg_works _).mono ?_; rintro e' w12 ⟨rfl, hg⟩; have HG12 := Lib.hid hg; obtain ⟨d22, f22⟩ := cellsOf (hg.blk HBY.out); have l22 := blkLt (hg.blk HBY.out); clear hg d2 f2 l2)
            | fail)
          obtain ⟨hD, hZD, hdef⟩ := HD.out
          have gW : Gr W w12 := HG10.out.trans (HG11.out.trans HG12.out)
          have h1 := blkLt HT2.out.2.2
          have h2 := HGR.out.sz
          have h3 := HRW.out.g.sz
          have h4 := HS1.out.sz
          have nD : D ≠ b2 := fun e => by omega
          obtain ⟨W2, hW2⟩ : ∃ y, y = w12.setCell ⟨b2, 0, none⟩ (.bool true) := ⟨_, rfl⟩
          have hWd : W2.heap[D]? = some (.deferred (some [])) := by rw [hW2]; exact blkSetO (gW.blk hdef) nD
          have hWg : Gr w W2 := by rw [hW2]; exact (HS1.out.trans (HGR.out.trans (HRE.out.g.trans gW))).setCell (p := ⟨b2, 0, none⟩) HT2.out.1 _
          have hWb : W2.heap[b2]? = some (.cells #[.bool true] 4) := by rw [hW2]; exact blkSet (j := 0) (u := .bool true) (gW.blk HB2.out)
          rw [← hW2]
          have hb' : (W2.putObj D (.deferred none)).heap[b2]? = _ := (World.putObj_heap_other nD.symm).trans hWb
          obtain ⟨d4, _⟩ := cellsOf hb'
          refine retM1 (D := D) (v := .bool true) rfl hWd ?_ ⟨rfl, hWg.putObj (by omega) _⟩
          simp [results, Try.results5, go_sem, d4]
end Go.Proofs.Ytndknnhgdlgbgaa

/- For rows: slices of structs, and bytes. -/
set_option linter.unusedVariables false
set_option linter.unusedSimpArgs false
namespace Go.Proofs.Ytndknnhgdlgbgaa
open Go.ChangeShapes Go.WideShapes Go.Deep
section
variable {H : Type} {enc : TypeId × Value → H} {P : Program} {w : World} {base : Nat} {spare : Nat → Bool} {held : Bool}
theorem open_slice_fields {t e : TypeId} {fs : Array Field} {fuel : Nat} {cs : List Value} {x : DataW H × List MemPlace} (ht : P.underlying t = some (.slice e)) (he : P.underlying e = some (.struct fs))
    (hone : oneCellFields P fs = true) (hC : P.cellsOf e = fs.size) (h : DataW.trod enc P w base spare held fuel t cs = some x) :
    (cs = [.slice none 0 0] ∧ x = (.nil, [])) ∨
    ∃ (a : Addr) (len cap m : Nat) (D : Nat → DataW H) (Pl : Nat → List MemPlace), cs = [.slice (some a) len cap] ∧ base ≤ a.block ∧ len ≤ cap ∧ cap ≤ maxLen ∧ m = (if spare a.block then cap else len) ∧
      x = (.slice ((List.range len).map D) ((List.range (m - len)).map fun j => D (len + j)), MemPlace.row a (m * fs.size) ++ (List.range m).flatMap Pl) ∧
      ∀ i, i < m → ∃ (ys : List (DataW H × List MemPlace)) (n : Nat), D i = .agg (ys.map (·.1)) ∧ Pl i = ys.flatMap (·.2) ∧ ys.length = fs.size ∧
        ∀ (j : Nat) (f : Field), fs[j]? = some f → ∃ (v : Value) (y : DataW H × List MemPlace), w.cell? (a.add (i * fs.size + j)) = some v ∧ ys[j]? = some y ∧ DataW.trod enc P w base spare held n f.type [v] = some y := by
  rcases open_slice ht h with h0 | ⟨a, len, cap, m, n, D, Pl, hcs, hb, hl, hm, hmm, hx, hi⟩
  · exact .inl h0
  · refine .inr ⟨a, len, cap, m, D, Pl, hcs, hb, hl, hm, hmm, by rw [hC] at hx; exact hx, fun i him => ?_⟩
    obtain ⟨cs', hc, ht'⟩ := hi i him
    rw [hC] at hc
    obtain ⟨ys, n', hn', hy, hlen, hyl, hf⟩ := DataW.trod_struct he ht'
    obtain ⟨_, hcl, hat⟩ := World.cells?_some hc
    simp only [Prod.mk.injEq] at hy
    refine ⟨ys, n', hy.1, hy.2, hyl, fun j f hj => ?_⟩
    obtain ⟨ho, hk⟩ := hone_of hone j f hj
    have hjl : j < fs.size := (Array.getElem?_eq_some_iff.1 hj).1
    have hcell := hat j hjl
    have hv : cs'[j]? = some (cs'[j]'(by omega)) := List.getElem?_eq_getElem (by omega)
    have h1 := hf j f hj
    rw [ho, hk] at h1
    have hone' : (cs'.drop j).take 1 = [cs'[j]'(by omega)] := by
      rw [List.drop_eq_getElem_cons (by omega)]
      rfl
    rw [hone'] at h1
    have hys : ys[j]? = some (ys[j]'(by omega)) := List.getElem?_eq_getElem (by omega)
    refine ⟨_, _, ?_, hys, h1.trans hys⟩
    rw [← Go.Deep.add_add, hcell, hv]
end

open Go.RowKit
theorem list_of {α : Type} (len : Nat) (d : α) (R : Nat → α → Prop) (h : ∀ i, i < len → ∃ x, R i x) : ∃ l : List α, l.length = len ∧ ∀ i, i < l.length → R i (l[i]?.getD d) := by
  classical
  refine ⟨(List.range len).map (fun i => if hi : i < len then Classical.choose (h i hi) else d), by simp, fun i hi => ?_⟩
  have hi' : i < len := by simpa using hi
  simp only [List.getElem?_map, List.getElem?_range hi', Option.map_some, Option.getD_some, dif_pos hi']
  exact Classical.choose_spec (h i hi')
theorem u8_of {a : Int} (h : (Lit.int .u8 a).wf = true) : ∃ c : UInt8, a = (c.toNat : Int) := by
  have h' : (decide (IntKind.u8.min ≤ a) && decide (a ≤ IntKind.u8.max)) = true := h
  have : 0 ≤ a ∧ a ≤ 255 := by simpa [IntKind.min, IntKind.max, IntKind.signed, IntKind.bits] using h'
  refine ⟨UInt8.ofNat a.toNat, ?_⟩
  rw [UInt8.toNat_ofNat_of_lt' (by have : UInt8.size = 256 := rfl; omega)]
  omega
theorem at_add {w : World} {a : Addr} {k : Nat} {v : Value} (h : w.cell? (a.add k) = some v) (hs : a.spot = none) : a.block < w.heap.size ∧ w.cell? ⟨a.block, a.off + k, none⟩ = some v := by
  have e : a.add k = ⟨a.block, a.off + k, none⟩ := by
    unfold Addr.add
    obtain ⟨b, o, s⟩ := a
    split
    · simp_all
    · rfl
  rw [e] at h
  refine ⟨?_, h⟩
  unfold World.cell? at h
  refine Classical.byContradiction fun hc => ?_
  rw [Array.getElem?_eq_none (by simpa using hc)] at h
  cases h
theorem spot_add {w : World} {a : Addr} {v : Value} (h : w.cell? (a.add 0) = some v) : a.spot = none := by
  simpa [Addr.add] using World.cell?_spot h
end Go.Proofs.Ytndknnhgdlgbgaa

/- Rows of chapter 23: puts. -/
set_option linter.unusedVariables false
set_option linter.unusedSimpArgs false
namespace Go.Proofs.Ytndknnhgdlgbgaa
open Go.ChangeShapes Go.WideShapes Go.Deep Go.RowKit
theorem u8p {a : Int} (h : (Lit.int .u8 a).wf = true) : 0 ≤ a ∧ a ≤ 255 := by
  simp only [Lit.wf, Bool.and_eq_true, decide_eq_true_eq] at h
  exact h
theorem open_puts {H : Type} {enc : TypeId × Value → H} {w : World} {base : Nat} {spare : Nat → Bool} {held : Bool} {fuel : Nat} {a : Option Addr} {len cap : Nat} {x : DataW H × List MemPlace}
    (h : DataW.trod enc Try.prog w base spare held fuel 22 (Value.slice a len cap).cells.toList = some x) : len ≤ cap ∧ cap ≤ maxLen ∧ ∃ l : List Pt, l.length = len ∧ PutAt w a l := by
  rcases open_slice_fields Try.underlying22 Try.underlying24 (by kernel_rfl) (show Try.prog.cellsOf 24 = 5 by kernel_rfl) h with ⟨hcs, _⟩ | ⟨a', l, c, m, D, Pl, hcs, _, hl, hm, hmm, _, hi⟩
  · simp [Value.cells] at hcs
    obtain ⟨rfl, rfl, rfl⟩ := hcs
    exact ⟨by omega, by simp [maxLen], [], rfl, fun i x hx => by simp at hx⟩
  · simp [Value.cells] at hcs
    obtain ⟨rfl, rfl, rfl⟩ := hcs
    refine ⟨hl, hm, ?_⟩
    by_cases h0 : 0 < len
    · have hml : len ≤ m := by rw [hmm]; split <;> omega
      have hsp : a'.spot = none := by
        obtain ⟨ys, n, _, _, _, hf⟩ := hi 0 (by omega)
        obtain ⟨v, y, hc, _, _⟩ := hf 0 _ rfl
        exact spot_add (by simpa using hc)
      obtain ⟨l, hl1, hl2⟩ := list_of len (⟨0, 0, 0, false, false⟩ : Pt) (fun i t => w.cell? ⟨a'.block, a'.off + i * 5, none⟩ = some (.int .u8 t.key) ∧ w.cell? ⟨a'.block, a'.off + i * 5 + 1, none⟩ = some (.int .u8 t.slot) ∧ w.cell? ⟨a'.block, a'.off + i * 5 + 2, none⟩ = some (.int .u8 t.size) ∧ w.cell? ⟨a'.block, a'.off + i * 5 + 3, none⟩ = some (.bool t.del) ∧ w.cell? ⟨a'.block, a'.off + i * 5 + 4, none⟩ = some (.bool t.cp) ∧ a'.block < w.heap.size ∧ t.Ok) (fun i hil => by
        obtain ⟨ys, n, _, _, _, hf⟩ := hi i (by omega)
        obtain ⟨v0, y0, c0, _, t0⟩ := hf 0 _ rfl
        obtain ⟨v1, y1, c1, _, t1⟩ := hf 1 _ rfl
        obtain ⟨v2, y2, c2, _, t2⟩ := hf 2 _ rfl
        obtain ⟨v3, y3, c3, _, t3⟩ := hf 3 _ rfl
        obtain ⟨v4, y4, c4, _, t4⟩ := hf 4 _ rfl
        obtain ⟨x0, e0, _, w0⟩ := DataW.trod_int Try.underlying5 t0
        obtain ⟨x1, e1, _, w1⟩ := DataW.trod_int Try.underlying5 t1
        obtain ⟨x2, e2, _, w2⟩ := DataW.trod_int Try.underlying5 t2
        obtain ⟨x3, e3, _⟩ := DataW.trod_bool Try.underlying4 t3
        obtain ⟨x4, e4, _⟩ := DataW.trod_bool Try.underlying4 t4
        obtain rfl := List.cons.inj e0 |>.1
        obtain rfl := List.cons.inj e1 |>.1
        obtain rfl := List.cons.inj e2 |>.1
        obtain rfl := List.cons.inj e3 |>.1
        obtain rfl := List.cons.inj e4 |>.1
        obtain ⟨hb, d0⟩ := at_add c0 hsp
        exact ⟨⟨x0, x1, x2, x3, x4⟩, d0, (at_add c1 hsp).2, (at_add c2 hsp).2, (at_add c3 hsp).2, (at_add c4 hsp).2, hb, u8p w0, u8p w1, u8p w2⟩)
      refine ⟨l, hl1, fun i x hx => ?_⟩
      obtain ⟨hlt, rfl⟩ := List.getElem?_eq_some_iff.1 hx
      obtain ⟨c0, c1, c2, c3, c4, hb, h4⟩ := hl2 i (by omega)
      rw [hx] at c0 c1 c2 c3 c4 h4
      exact ⟨_, _, by obtain ⟨b, o, s⟩ := a'; simp_all, hb, c0, c1, c2, c3, c4, h4⟩
    · obtain rfl : len = 0 := by omega
      exact ⟨[], rfl, fun i x hx => by simp at hx⟩
end Go.Proofs.Ytndknnhgdlgbgaa
