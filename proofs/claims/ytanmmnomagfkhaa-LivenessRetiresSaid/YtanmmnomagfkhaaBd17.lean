/- LivenessRetires: the walk. -/
import Derived.Test.YtanmmnomagfkhaaBd16
import Derived.Test.YtanmmnomagfkhaaBd15
import Derived.Test.YtanmmnomagfkhaaBd13
set_option linter.unusedVariables false
set_option linter.unusedSimpArgs false
namespace Go.Proofs.Ytanmmnomagfkhaa
open Go.RowKit Go.Shelf Go.Maps
attribute [local go_sem] OvM cell_ovm obj_ovm
attribute [local go_sem] Oper.semAt_some

abbrev rtL (b5 : Nat) (ao : Option Addr) (co n m : Nat) : List Asn := [blkA (b5 + 1) (.cells #[.int .i64 n] 3), blkA b5 (.cells #[.slice ao m co] 22)]
abbrev slA (bb bk : Nat) (S : Nat → Prop) : Nat → Prop := fun q => q = bb ∨ q = bk ∨ S q
theorem newV_hd (l : List En) : newV l = .tuple #[enV (l.headD zE), .bool (!l.isEmpty)] := by cases l <;> rfl
set_option maxRecDepth 40000 in
set_option maxHeartbeats 16000000 in
theorem LivenessRetires_any (a : Option Addr) (len cap : Nat) (L : List Ac) (w : World) (hl : L.length = len) (hle : len ≤ cap) (hcap : cap ≤ maxLen) (hs : ActAt w a L) :
    Calls Try.prog 6 #[.slice a len cap] w fun e w' => e = .returned (.bool true) ∧ Gr w w' := by
  refine calls_of_wp_marks Try.func6 rfl ?_
  simp only [Try.ntmps6, List.size_toArray, List.length_cons, List.length_nil, Nat.reduceAdd, Nat.reduceSub, Array.replicate_succ, Array.replicate_zero, List.push_toArray, List.append_toArray, List.nil_append, List.cons_append]
  go_upto_region 1 with fail
  obtain ⟨b2, hb2⟩ : ∃ q, q = w.heap.size := ⟨_, rfl⟩
  obtain ⟨w0, hw0⟩ : ∃ y, y = w.alloc (.cells #[.bool false] 4) := ⟨_, rfl⟩
  have H0 : Hid (SW w [blkA b2 (.cells #[.bool false] 4)] w0) := Lib.hid (by rw [hw0, hb2]; exact (SW.start w).alloc _)
  rw [← hw0, ← hb2]
  clear hw0 hb2
  by_cases h80 : 80 < len
  · have h80' : (80 : Int) < len := by omega
    clear hs hl
    go_wp2_with (go_at_call 26; refine (lv_works _).mono ?_; rintro e w1 ⟨rfl, hg⟩; have H1 := Lib.hid (H0.out.gr hg); obtain ⟨d2, f2⟩ := cellsOf (show w1.heap[b2]? = _ from H1.out.get (i := 0) rfl); have l2 := blkLt (show w1.heap[b2]? = _ from H1.out.get (i := 0) rfl); clear hg)
    have hb2 : w.heap.size ≤ b2 := H1.out.n _ (List.mem_cons_self ..) b2 rfl
    have HGG : Gr w (w1.setCell ⟨b2, 0, none⟩ (.bool true)) := H1.out.g.md ((Mdh.refl (fun k => k = b2) w1).setCell (p := ⟨b2, 0, none⟩) rfl _) (fun k hk => by rw [hk]; exact hb2)
    refine retM0 (v := .bool true) ?_ rfl ⟨rfl, HGG⟩
    simp [results, Try.results6, go_sem, d2, f2, l2]
  have h80' : ¬ (80 : Int) < len := by omega
  have hfo := foldA_ok len L hl (by omega) (actOk hs)
  have HK0 := Lib.hid (build_KI hfo.1 hfo.2)
  have HST := Lib.hid (tight_ok hl (by omega) (actOk hs))
  have hs0 : ActAt w0 a L := fun i x hx => by
    obtain ⟨bm, off, e, h1, h2, h3, h4, h5⟩ := hs i x hx
    exact ⟨bm, off, e, Nat.lt_of_lt_of_le h1 H0.out.g.sz, H0.out.g.keep h2, H0.out.g.keep h3, H0.out.g.keep h4, h5⟩
  have HC := Lib.hid (build24_any a len cap L w0 hl (by omega) hle hcap hs0)
  clear hs hs0 hl hfo
  go_wp2_with fail
  refine Calls.mono HC.out ?_
  rintro e w1 ⟨b, mb, v, S, rfl, hs⟩
  have H1 : Hid (SW w [ixA b (foldA L).X S, blkA mb (bdO b v (foldA L).us (foldA L).sq), blkA b2 (.cells #[.bool false] 4)] w1) := Lib.hid ((H0.out.both hs).sel [0, 1, 3] (by decide) rfl)
  clear hs HC H0
  generalize foldA L = st at *
  obtain ⟨X, all, us, sq⟩ := st
  simp only at HK0 H1 HST
  obtain ⟨b3, hb3⟩ : ∃ q, q = w1.heap.size := ⟨_, rfl⟩
  go_upto_region 4 with fail
  obtain ⟨w2, hw2⟩ : ∃ y, y = w1.alloc (.cells #[.pointer (some ⟨mb, 0, none⟩)] 76) := ⟨_, rfl⟩
  have H2 : Hid (SW w [blkA b3 (.cells #[.pointer (some ⟨mb, 0, none⟩)] 76), ixA b X S, blkA mb (bdO b v us sq), blkA b2 (.cells #[.bool false] 4)] w2) := Lib.hid (by rw [hw2, hb3]; exact H1.out.alloc _)
  rw [← hw2, ← hb3]
  clear hw2 hb3 H1
  have d3 := (cellsOf (show w2.heap[b3]? = _ from H2.out.get (i := 0) rfl)).1
  have dm0 := ((cellsOf (show w2.heap[mb]? = _ from H2.out.get (i := 2) rfl)).1 0).trans (show _ = some (Value.pointer (some ⟨b, 0, none⟩)) from rfl)
  go_wp2_with fail
  refine (Retired_any (.inl ⟨b, rfl, (show IXR w2 b X S from H2.out.get (i := 1) rfl)⟩)).mono ?_
  rintro e w3 ⟨vo, rfl, hn, hg⟩
  rw [show (if X.slots = [] then (1 : Int) else 0) = 0 from if_neg HK0.out.ne, HK0.out.ln] at *
  have H3 : Hid (SW w [rowA 32 6 vo (retL X 6).length (rowE (retL X 6)), blkA b3 (.cells #[.pointer (some ⟨mb, 0, none⟩)] 76), ixA b X S, blkA mb (bdO b v us sq), blkA b2 (.cells #[.bool false] 4)] w3) := Lib.hid (H2.out.new hg (A := rowA 32 6 vo (retL X 6).length (rowE (retL X 6))) hn.own (fun k hk => hn.new k hk))
  clear hn hg H2 d3 dm0
  have HOL : Hid ((retL X 6).length ≤ 3072) := Lib.hid (retL_le HK0.out.wf 6)
  have HRA := Lib.hid (fun (s : Nat) (hs : s < 6) (pre : List En) (y : En) (hp : pre ++ [y] <+: X.slot (s : Nat)) (hr : retP X y = true) => ret_at (X := X) hs hp hr)
  have HYN : Hid (∀ (s : Nat) (y : En), y ∈ X.slot (s : Nat) → neededV X y = .tuple #[.bool (X.needs y), .int .i64 0] ∧ y.slot = (s : Nat) ∧ y ∈ X.ents ∧ 1 ≤ y.seq ∧ y.seq ≤ 1000) := Lib.hid (fun s y hy => by
    have h1 := (HST.out.g.slot (s : Nat) y).1 hy
    have h2 := HST.out.e y h1.1
    have h3 := HST.out.q1
    exact ⟨(HST.out.g.needV y).1 h1.1, h1.2, (HST.out.g.mem y).1 h1.1, h2.1, by omega⟩)
  have HRO := Lib.hid (fun (y : En) (hy : y ∈ X.ents) (hr : retP X y = true) (hn : ¬ y.seq < ((X.of y.key).headD zE).seq) => ret_ok HK0.out.wf hy hr hn)
  have HOF : Hid (∀ k, ∀ z ∈ X.of k, 1 ≤ z.seq ∧ z.seq ≤ 1000) := Lib.hid (fun k z hz => by
    have h1 := (HST.out.g.of k z).1 hz
    have h2 := HST.out.e z h1.1
    have h3 := HST.out.q1
    exact ⟨h2.1, by omega⟩)
  have HOM := Lib.hid (fun k => HK0.out.wf.of_le k)
  have HWF := Lib.hid HK0.out.wf
  clear HK0 HST
  obtain ⟨out, hout⟩ : ∃ out, out = retL X 6 := ⟨_, rfl⟩
  have HOUT := Lib.hid hout
  rw [← hout] at H3 HOL HRA
  clear hout
  obtain ⟨ao, co, rfl, hco, hmo, _⟩ := ownE_at (show Own w3 32 6 vo out.length (rowE out) from H3.out.get (i := 0) rfl)
  unfold maxLen at hmo
  have hol := HOL.out
  go_upto_region 10 with fail
  obtain ⟨b5, hb5⟩ : ∃ q, q = w3.heap.size := ⟨_, rfl⟩
  obtain ⟨w4, hw4⟩ : ∃ y, y = (w3.alloc (.cells #[.slice ao out.length co] 22)).alloc (.cells #[.int .i64 0] 3) := ⟨_, rfl⟩
  have H4 : Hid (SW w3 (dsA [] :: rtL b5 ao co 0 out.length) w4) := Lib.hid (by
    have h := ((SW.start w3).alloc (.cells #[.slice ao out.length co] 22)).alloc (.cells #[.int .i64 0] 3)
    rw [← hw4] at h
    simp only [World.size_alloc, ← hb5] at h
    exact h.noDs)
  rw [← hw4, ← hb5]
  clear hw4 hb5
  go_wp2_with fail
  refine wp_loop (fun ac wx => ∃ (j : Nat) (Ds : List Nat) (u38 u39 u40 u41 u42 u43 u44 u45 u46 u47 u48 : Value), ac = { tmps := ((.slice a len cap : Value) :: undef :: .pointer (some ⟨b2, 0, none⟩) :: .pointer (some ⟨b3, 0, none⟩) :: .bool true :: .pointer (some ⟨b5, 0, none⟩) :: .int .i64 0 :: .pointer (some ⟨b5 + 1, 0, none⟩) :: .int .i64 j :: undef :: undef :: undef :: undef :: undef :: undef :: undef :: undef :: .slice a len cap :: .int .i64 len :: .bool false :: undef :: .tuple #[.pointer (some ⟨mb, 0, none⟩), .bool true] :: .slice a len cap :: .tuple #[.pointer (some ⟨mb, 0, none⟩), .bool true] :: .pointer (some ⟨mb, 0, none⟩) :: .bool true :: .bool true :: .bool false :: .tuple #[.slice ao out.length co, .int .i64 0] :: .pointer (some ⟨mb, 0, none⟩) :: .pointer (some ⟨mb, 0, none⟩) :: .pointer (some ⟨mb, 0, none⟩) :: .pointer (some ⟨b, 0, none⟩) :: .tuple #[.slice ao out.length co, .int .i64 0] :: .slice ao out.length co :: .int .i64 0 :: .int .i64 0 :: .bool false :: u38 :: u39 :: u40 :: u41 :: u42 :: u43 :: u44 :: u45 :: u46 :: u47 :: u48 :: undef :: undef :: undef :: undef :: undef :: undef :: undef :: undef :: undef :: undef :: undef :: undef :: undef :: undef :: undef :: undef :: undef :: undef :: undef :: undef :: undef :: undef :: undef :: undef :: undef :: undef :: undef :: undef :: undef :: undef :: undef :: undef :: undef :: undef :: undef :: undef :: undef :: undef :: undef :: undef :: undef :: undef :: undef :: undef :: undef :: undef :: undef :: undef :: undef :: undef :: undef :: undef :: undef :: undef :: undef :: undef :: undef :: undef :: undef :: undef :: undef :: undef :: undef :: undef :: undef :: undef :: undef :: undef :: undef :: undef :: undef :: undef :: undef :: undef :: undef :: undef :: undef :: undef :: undef :: undef :: undef :: undef :: undef :: undef :: undef :: undef :: undef :: undef :: undef :: undef :: undef :: undef :: undef :: undef :: undef :: undef :: []).toArray, defers := Ds.map cdf } ∧ j ≤ 6 ∧ Hid (Ds.Nodup ∧ SW w3 (dsA Ds :: rtL b5 ao co (retL X j).length out.length) wx))
    (fun ac _ => 6 - (intOf (ac.tmps.getD 8 undef)).toNat) ⟨0, [], _, _, _, _, _, _, _, _, _, _, _, rfl, by omega, Lib.hid ⟨List.nodup_nil, H4.out⟩⟩ ?_
  intro ac wr hI
  obtain ⟨j, Ds, u38, u39, u40, u41, u42, u43, u44, u45, u46, u47, u48, rfl, hj, HR⟩ := hI
  by_cases hlt : j < 6
  · have hlt' : (j : Int) < 6 := by omega
    have HB := Lib.hid (H3.out.gr HR.out.2.g)
    have d3 := (cellsOf (show wr.heap[b3]? = _ from HB.out.get (i := 1) rfl)).1
    have dm0 := ((cellsOf (show wr.heap[mb]? = _ from HB.out.get (i := 3) rfl)).1 0).trans (show _ = some (Value.pointer (some ⟨b, 0, none⟩)) from rfl)
    go_wp2_with fail
    refine (Slot_any (some ⟨b, 0, none⟩) (j : Nat) _).mono ?_
    rintro e' w5 ⟨bb, bk, rfl, h1, h2, h3, h4, hg⟩
    have HS3 := Lib.hid (HR.out.2.gr hg)
    have HIW : Hid (∀ W, Gr w3 W → IXP W (some ⟨b, 0, none⟩) X S) := Lib.hid (fun W g => .inl ⟨b, rfl, (show IXR W b X S from (H3.out.gr g).get (i := 2) rfl)⟩)
    have HSLT : Hid (∀ k, S k → k < w3.heap.size) := Lib.hid (fun k hk => (show IXR w3 b X S from H3.out.get (i := 2) rfl).lt k hk)
    have HSEQ := Lib.hid (SeqSlotP (HIW.out _ HS3.out.g) (j : Nat) bb bk h1 h2)
    have HA : Hid (∀ q, slA bb bk S q → q < w5.heap.size) := Lib.hid (fun q hq => by
      have l1 := World.block_lt_of_cell? w5 ⟨bb, 0, none⟩ h1
      have l2 := World.block_lt_of_cell? w5 ⟨bk, 0, none⟩ h2
      have l3 := HS3.out.g.sz
      rcases hq with rfl | rfl | hq
      · exact l1
      · exact l2
      · have := HSLT.out q hq; omega)
    have HZ : Hid (SWz w3 w5 (slA bb bk S) (dsA Ds :: rtL b5 ao co (retL X j ++ ([] : List En).filter (retP X)).length out.length) (fun _ => False) w5) := Lib.hid (by
      rw [List.filter_nil, List.append_nil]
      exact SWz.start HS3.out (fun B hB k hk ha => by
        have l1 := HR.out.2.s.lt hB k hk
        have l2 := HR.out.2.n B hB k hk
        rcases ha with rfl | rfl | ha
        · omega
        · omega
        · have := HSLT.out k ha; omega))
    have HNX := Lib.hid (retL_succ X j)
    have HRJ := Lib.hid (fun (pre : List En) (y : En) => HRA.out j hlt pre y)
    have HYJ := Lib.hid (fun (y : En) => HYN.out j y)
    generalize retL X j = L0 at *
    clear h1 h2 h3 h4 hg d3 dm0
    go_wp2_with fail
    refine (yields24_any _ _ _).mono ?_
    rintro e' w6 ⟨rfl, rfl⟩
    go_wp2_with fail
    apply wp_rangeFunc_zx (gf := 95) (lb := #[.pointer (some ⟨bb, 0, none⟩), .pointer (some ⟨bk, 0, none⟩)]) rfl (enters_of Try.func95 (by kernel_rfl) rfl) HSEQ.out (Mdh.refl _ w5) HA.out (fun _ => rfl)
      (fun Z pre X' => SWz w3 w5 (slA bb bk S) (dsA Ds :: rtL b5 ao co (L0 ++ pre.filter (retP X)).length out.length) Z X')
      (fun _ _ _ => False) (fun _ _ _ => False)
      (SWz.apart HS3.out.g.sz (fun pre : List En => dsA Ds :: rtL b5 ao co (L0 ++ pre.filter (retP X)).length out.length)) apart_no apart_no
      HZ.out (fun Z pre X' h => h.frm HS3.out.g) (fun x => boxE x) _ ?assign ?body ?hend ?hret
    case hret => intro _ _ _ _ _ _ _ h; exact h.elim
    case assign =>
      intro l x bx X' K hbx hK
      dsimp only [encE, enV]
      gi_wp2
      rw [← hbx]
      exact hK
    case body =>
      intro l Z pre x bx X' hI hbx hx hzx hzl hlr hsp
      have HIZ := Lib.hid hI
      have HX := Lib.hid hx
      have HLR := Lib.hid hlr
      have HSP := Lib.hid hsp
      have HBB := Lib.hid (H3.out.gr hI.s.g)
      have HXM : Hid (x ∈ X.slot (j : Nat)) := Lib.hid (hsp.subset (by simp))
      obtain ⟨hyn, hsl, hent, hq1, hq2⟩ := HYJ.out x HXM.out
      have HND := Lib.hid (Needed_any (HIW.out _ (Gr.trans hI.s.g (Gr.refl X').drew)) x)
      rw [hyn] at HND
      have HENT := Lib.hid hent
      have d3 := (cellsOf (show X'.heap[b3]? = _ from HBB.out.get (i := 1) rfl)).1
      have dm0 := ((cellsOf (show X'.heap[mb]? = _ from HBB.out.get (i := 3) rfl)).1 0).trans (show _ = some (Value.pointer (some ⟨b, 0, none⟩)) from rfl)
      have dx := (cellsOf HX.out).1
      clear hI hbx hx hlr hsp hyn hent
      cases hr : retP X x with
      | false =>
        have HN := Lib.hid (filter_no (p := retP X) (l := pre) hr)
        have hx3 := retP_no hr
        clear hr
        generalize X.needs x = nb at *
        obtain ⟨p0, p1, p2, p3, p4, p5⟩ := x
        simp only [enV] at HND
        simp only at dx hsl hq1 hq2 hx3
        subst hsl
        gi_wp2_with fail
        refine wpIn_region_flo (fun _ => trivial) rfl (fun _ => False) [] [] (by kernel_rfl) (by kernel_rfl) (fun _ h => h.elim) ?_
        refine flo_seg 5 rfl ?_
        simp only [List.take_succ_cons, List.take_zero, List.drop_succ_cons, List.drop_zero]
        repeat (go_big_quiet_step (fail))
        refine wpQuiet_nil ?_
        refine flo_eff rfl rfl rfl rfl (fun K hK => ?_)
        gi_wp2_with ((refine ⟨trivial, ?_⟩; gi_at_call 27; refine (CallsIn.inRound l (callsIn_wide.2 HND.out)).mono ?_; rintro e9 w9 ⟨rfl, hg9⟩; have HGD := Lib.hid hg9; have HG9 := Lib.hid (((Gr.refl _).drew).trans hg9); clear hg9))
        refine ⟨by first | exact HGD.out.mdh _ | exact HG9.out.mdh _, ?_⟩
        refine flo_seg 5 rfl ?_
        simp only [List.take_succ_cons, List.take_zero, List.drop_succ_cons, List.drop_zero]
        repeat (go_big_quiet_step (fail))
        refine wpQuiet_nil ?_
        refine flo_nil ?_
        clear d3 dm0 dx
        have HZ9 := Lib.hid (HIZ.out.gr HG9.out)
        have HX9 := Lib.hid (HG9.out.blk HX.out)
        have dx := (cellsOf HX9.out).1
        (try simp only at dx)
        rcases hx3 with rfl | rfl
        · gi_wp2_with fail
          exact ⟨HZ9.out.2, by dsimp only; rw [HN.out]; exact HZ9.out.1⟩
        · cases p2
          all_goals
            gi_wp2_with fail
            exact ⟨HZ9.out.2, by dsimp only; rw [HN.out]; exact HZ9.out.1⟩
      | true =>
        have HN := Lib.hid (filter_yes (p := retP X) (l := pre) hr)
        have HAT := Lib.hid (HRJ.out pre x HSP.out hr)
        have HROX := Lib.hid (HRO.out x HENT.out hr)
        have hx3 := retP_yes hr
        rw [hx3.2] at HND
        have hx4 := hx3.1
        clear hr hx3
        obtain ⟨p0, p1, p2, p3, p4, p5⟩ := x
        simp only at hx4
        subst hx4
        simp only [enV] at HND
        simp only at dx hsl hq1 hq2 HROX
        subst hsl
        gi_wp2_with fail
        refine wpIn_region_flo (fun _ => trivial) rfl (fun _ => False) [] [] (by kernel_rfl) (by kernel_rfl) (fun _ h => h.elim) ?_
        refine flo_seg 5 rfl ?_
        simp only [List.take_succ_cons, List.take_zero, List.drop_succ_cons, List.drop_zero]
        repeat (go_big_quiet_step (fail))
        refine wpQuiet_nil ?_
        refine flo_eff rfl rfl rfl rfl (fun K hK => ?_)
        gi_wp2_with ((refine ⟨trivial, ?_⟩; gi_at_call 27; refine (CallsIn.inRound l (callsIn_wide.2 HND.out)).mono ?_; rintro e9 w9 ⟨rfl, hg9⟩; have HGD := Lib.hid hg9; have HG9 := Lib.hid (((Gr.refl _).drew).trans hg9); clear hg9))
        refine ⟨by first | exact HGD.out.mdh _ | exact HG9.out.mdh _, ?_⟩
        refine flo_seg 5 rfl ?_
        simp only [List.take_succ_cons, List.take_zero, List.drop_succ_cons, List.drop_zero]
        repeat (go_big_quiet_step (fail))
        refine wpQuiet_nil ?_
        refine flo_nil ?_
        clear d3 dm0 dx
        have HZ9 := Lib.hid (HIZ.out.gr HG9.out)
        have HX9 := Lib.hid (HG9.out.blk HX.out)
        have dx := (cellsOf HX9.out).1
        (try simp only at dx)
        have HLA : Hid ((L0 ++ (pre ++ [(⟨p0, p1, true, j, p4, p5⟩ : En)]).filter (retP X)).length = (L0 ++ pre.filter (retP X)).length + 1) := Lib.hid (by rw [HN.out, ← List.append_assoc, List.length_append]; rfl)
        generalize (L0 ++ pre.filter (retP X)).length = nn at *
        have hnn : nn < out.length := (List.getElem?_eq_some_iff.1 HAT.out).1
        have hnn' : (nn : Int) < out.length := by omega
        have hnn2 : ¬ (out.length : Int) ≤ nn := by omega
        have hnn3 : ¬ out.length ≤ nn := by omega
        have HB9 := Lib.hid (H3.out.gr HZ9.out.1.s.g)
        obtain ⟨g0, rfl, hg0, z0, z1, z2, z3, z4, z5⟩ := ent6 (show Own w9 32 6 (.slice ao out.length co) out.length (rowE out) from HB9.out.get (i := 0) rfl) HAT.out
        have d7 := ((cellsOf (show w9.heap[b5 + 1]? = _ from HZ9.out.1.s.get (i := 1) rfl)).1 0).trans (show _ = some (Value.int .i64 nn) from rfl)
        have d5 := ((cellsOf (show w9.heap[b5]? = _ from HZ9.out.1.s.get (i := 2) rfl)).1 0).trans (show _ = some (Value.slice (some ⟨g0, 0, none⟩) out.length co) from rfl)
        have k1 : ∀ w, (binOp .neq 32 (.agg #[.int .i64 p0, .string p1, .bool true, .int .i64 j, .int .i64 p4, .int .i64 p5]) (.agg #[.int .i64 p0, .string p1, .bool true, .int .i64 j, .int .i64 p4, .int .i64 p5])).run Try.prog w = .ok (.bool false) w := fun w => (neqE_run (⟨p0, p1, true, j, p4, p5⟩ : En) ⟨p0, p1, true, j, p4, p5⟩ w).trans (by simp)
        simp only at z0 z1 z2 z3 z4 z5
        gi_wp2_with fail
        refine wpIn_region_flo (fun _ => trivial) rfl (fun _ => False) [] [] (by kernel_rfl) (by kernel_rfl) (fun _ h => h.elim) ?_
        refine flo_seg 12 rfl ?_
        simp only [List.take_succ_cons, List.take_zero, List.drop_succ_cons, List.drop_zero]
        repeat (go_big_quiet_step (fail))
        refine wpQuiet_nil ?_
        refine flo_nil ?_
        obtain ⟨w10, hw10⟩ : ∃ y, y = w9.drew := ⟨_, rfl⟩
        have HG10 : Hid (Gr w9 w10) := Lib.hid (by rw [hw10]; exact (Gr.refl _).drew)
        have HZ10 := Lib.hid (HZ9.out.1.gr HG10.out)
        have HX10 := Lib.hid (HG10.out.blk HX9.out)
        rw [← hw10]
        clear hw10 d7 d5 dx z0 z1 z2 z3 z4 z5 k1 hg0
        obtain ⟨d7, f7⟩ := cellsOf (show w10.heap[b5 + 1]? = _ from HZ10.out.1.s.get (i := 1) rfl)
        have l7 := blkLt (show w10.heap[b5 + 1]? = _ from HZ10.out.1.s.get (i := 1) rfl)
        gi_wp2_with fail
        obtain ⟨w11, hw11⟩ : ∃ y, y = w10.setCell ⟨b5 + 1, 0, none⟩ (.int .i64 ((nn : Int) + 1)) := ⟨_, rfl⟩
        have HZ11 := Lib.hid (HZ10.out.1.step (i := 1) (B' := blkA (b5 + 1) (.cells #[.int .i64 ((nn + 1 : Nat) : Int)] 3)) rfl HA.out ((Mdh.refl (fun k => k = b5 + 1) w10).setCell (p := ⟨b5 + 1, 0, none⟩) rfl (.int .i64 ((nn : Int) + 1))) (fun k hk => .inl hk) (blkSet (j := 0) (u := .int .i64 ((nn : Int) + 1)) (show w10.heap[b5 + 1]? = _ from HZ10.out.1.s.get (i := 1) rfl)) (fun k hk => .inl hk))
        rw [← hw11] at HZ11
        rw [← hw11]
        have hbx : bx ≠ b5 + 1 := fun e => by
          have h1 := HX10.out
          rw [e, (show w10.heap[b5 + 1]? = _ from HZ10.out.1.s.get (i := 1) rfl)] at h1
          simp at h1
        have HX11 : Hid (w11.heap[bx]? = some (boxE ⟨p0, p1, true, j, p4, p5⟩)) := Lib.hid (by rw [hw11]; exact blkSetO HX10.out hbx)
        clear hw11 d7 f7 l7 hbx
        have HB11 := Lib.hid (H3.out.gr HZ11.out.1.s.g)
        have d3 := (cellsOf (show w11.heap[b3]? = _ from HB11.out.get (i := 1) rfl)).1
        have dm0 := ((cellsOf (show w11.heap[mb]? = _ from HB11.out.get (i := 3) rfl)).1 0).trans (show _ = some (Value.pointer (some ⟨b, 0, none⟩)) from rfl)
        have dx := (cellsOf HX11.out).1
        (try simp only at dx)
        have hnv := newV_hd (X.of p1)
        obtain ⟨hd, hhd⟩ : ∃ hd, hd = (X.of p1).headD zE := ⟨_, rfl⟩
        rw [← hhd] at hnv HROX
        obtain ⟨o0, o1, o2, o3, o4, o5⟩ := hd
        generalize (!(X.of p1).isEmpty) = ie at *
        have HNW : Hid (∀ W, Gr w11.drew W → Calls Try.prog 41 #[.pointer (some ⟨b, 0, none⟩), .string p1] W fun e w' => e = .returned (.tuple #[.agg #[.int .i64 o0, .string o1, .bool o2, .int .i64 o3, .int .i64 o4, .int .i64 o5], .bool ie]) ∧ Gr W w') := Lib.hid (fun W g => by
          have := Newest_any (HIW.out W (Gr.trans HZ11.out.1.s.g (Gr.trans (Gr.refl w11).drew g))) p1
          rw [hnv] at this
          exact this)
        clear hnv
        have HG := Gr.refl w11.drew
        refine wpIn_region_flo (fun _ => trivial) rfl (fun _ => False) [12] [] (by kernel_rfl) (by kernel_rfl) (fun _ h => h.elim) ?_
        refine flo_seg 6 rfl ?_
        simp only [List.take_succ_cons, List.take_zero, List.drop_succ_cons, List.drop_zero]
        repeat (go_big_quiet_step (fail))
        refine wpQuiet_nil ?_
        refine flo_effg rfl rfl rfl (fun wg1 hgg1 K hK => ?_)
        (try replace HG := Gr.trans (Gr.trans HG (by (repeat (first | (with_reducible exact Gr.refl _) | assumption | (with_reducible apply Gr.from_drew) | (with_reducible apply Gr.alloc) | (with_reducible apply Gr.drew) | (with_reducible refine Gr.trans ?_ (by assumption)) | (with_reducible refine Gr.setCell ?_ (by omega) _))))) hgg1)
        gi_wp2_with ((refine ⟨trivial, ?_⟩; gi_at_call 41; refine (CallsIn.inRound l (callsIn_wide.2 (HNW.out _ HG))).mono ?_; rintro e9 w12 ⟨rfl, hg12⟩; have HG12 := Lib.hid hg12))
        refine ⟨by exact HG12.out.mdh _, ?_⟩
        refine flo_seg 3 rfl ?_
        simp only [List.take_succ_cons, List.take_zero, List.drop_succ_cons, List.drop_zero]
        repeat (go_big_quiet_step (fail))
        refine wpQuiet_nil ?_
        refine flo_float (fun b => .pointer (some ⟨b, 0, none⟩)) (.cells #[.int .i64 0, .string ⟨#[]⟩, .bool false, .int .i64 0, .int .i64 0, .int .i64 0] 32) rfl rfl (fun w => by kernel_rfl) (fun wf1 fb1 hgf1 fl1 fh1 ft1 fo1 => ?_)
        (try replace HG := Gr.trans (Gr.trans HG (by (repeat (first | (with_reducible exact Gr.refl _) | assumption | (with_reducible apply Gr.from_drew) | (with_reducible apply Gr.alloc) | (with_reducible apply Gr.drew) | (with_reducible refine Gr.trans ?_ (by assumption)) | (with_reducible refine Gr.setCell ?_ (by omega) _))))) hgf1)
        (try have fc1 := (cellsOf fo1).1)
        (try have ff1 := (cellsOf fo1).2)
        refine flo_eff rfl rfl rfl rfl (fun K hK => ?_)
        gi_wp2
        refine ⟨by (first | (refine Gr.mdh ?_ _; (repeat (first | (with_reducible exact Gr.refl _) | assumption | (with_reducible apply Gr.from_drew) | (with_reducible apply Gr.alloc) | (with_reducible apply Gr.drew) | (with_reducible refine Gr.trans ?_ (by assumption)) | (with_reducible refine Gr.setCell ?_ (by omega) _))); done) | (repeat (first | (with_reducible exact Mdh.refl _ _) | (with_reducible refine Mdh.setCell ?_ (by simp) _) | (with_reducible refine Mdh.setNew ?_ (by simp) _) | (with_reducible apply Mdh.alloc) | (with_reducible apply Mdh.from_drew) | (with_reducible apply Mdh.drew) | (with_reducible refine Mdh.gr ?_ (by assumption))))), ?_⟩
        refine flo_seg 1 rfl ?_
        simp only [List.take_succ_cons, List.take_zero, List.drop_succ_cons, List.drop_zero]
        repeat (go_big_quiet_step (fail))
        refine wpQuiet_nil ?_
        refine flo_nil ?_
        obtain ⟨w13, hw13⟩ : ∃ y, y = ((((((wf1.setCell ⟨fb1, 0, none⟩ (.int .i64 o0)).setCell ⟨fb1, 1, none⟩ (.string o1)).setCell ⟨fb1, 2, none⟩ (.bool o2)).setCell ⟨fb1, 3, none⟩ (.int .i64 o3)).setCell ⟨fb1, 4, none⟩ (.int .i64 o4)).setCell ⟨fb1, 5, none⟩ (.int .i64 o5)) := ⟨_, rfl⟩
        have H13 : Hid (SW w11 [blkA fb1 (boxF ⟨o0, o1, o2, o3, o4, o5⟩)] w13) := Lib.hid (by
          have h1 := (SW.start w11).new (Gr.trans (Gr.refl w11).drew HG) (A := blkA fb1 (boxF ⟨0, ⟨#[]⟩, false, 0, 0, 0⟩)) fo1 (fun k hk => by rw [show k = fb1 from hk]; exact fl1)
          rw [hw13]
          exact h1.step (B := blkA fb1 (boxF ⟨o0, o1, o2, o3, o4, o5⟩)) (T := fun k => k = fb1) ((((((((Mdh.refl (fun k => k = fb1) wf1).setCell (p := ⟨fb1, 0, none⟩) rfl _).setCell (p := ⟨fb1, 1, none⟩) rfl _).setCell (p := ⟨fb1, 2, none⟩) rfl _).setCell (p := ⟨fb1, 3, none⟩) rfl _).setCell (p := ⟨fb1, 4, none⟩) rfl _).setCell (p := ⟨fb1, 5, none⟩) rfl _)) (fun k hk => .inl hk) (blk6 fo1) (fun k hk => .inl hk))
        rw [← hw13]
        clear hw13 fl1 fh1 ft1 fo1 fc1 ff1 HG hgf1 HG12 hg12 HNW d3 dm0 dx
        generalize fb1 = b12 at *
        have HX13 := Lib.hid (H13.out.g.blk HX11.out)
        have dx := (cellsOf HX13.out).1
        have d12 := (cellsOf (show w13.heap[b12]? = _ from H13.out.get (i := 0) rfl)).1
        (try simp only at dx)
        (try simp only [boxF] at d12)
        by_cases hqq : p0 < o0
        · gi_wp2_with fail
          have z := HZ11.out.1.gr H13.out.g
          refine ⟨((HZ9.out.2.trans HZ10.out.2).trans HZ11.out.2).trans z.2, ?_⟩
          dsimp only
          rw [HLA.out]
          exact z.1
        · have hqq' : ¬ p0 < o0 := hqq
          have hqq2 : o0 ≤ p0 := by omega
          have HRZ := Lib.hid (HROX hqq2)
          gi_wp2_with fail
          obtain ⟨b14, hb14⟩ : ∃ q, q = w13.heap.size := ⟨_, rfl⟩
          obtain ⟨w14, hw14⟩ : ∃ y, y = (w13.alloc (.cells #[.int .i64 0] 3)).alloc (.cells #[.bool false] 4) := ⟨_, rfl⟩
          have H14 : Hid (SW w13 [blkA (b14 + 1) (.cells #[.bool false] 4), blkA b14 (.cells #[.int .i64 0] 3)] w14) := Lib.hid (by
            have h := ((SW.start w13).alloc (.cells #[.int .i64 0] 3)).alloc (.cells #[.bool false] 4)
            rw [← hw14] at h
            simp only [World.size_alloc, ← hb14] at h
            exact h)
          rw [← hw14, ← hb14]
          clear hw14 hb14 d12 dx
          have HZ14 := Lib.hid (HZ11.out.1.gr (Gr.trans H13.out.g H14.out.g))
          have HX14 := Lib.hid (H14.out.g.blk HX13.out)
          have HB14 := Lib.hid (H3.out.gr HZ14.out.1.s.g)
          have d3 := (cellsOf (show w14.heap[b3]? = _ from HB14.out.get (i := 1) rfl)).1
          have dm0 := ((cellsOf (show w14.heap[mb]? = _ from HB14.out.get (i := 3) rfl)).1 0).trans (show _ = some (Value.pointer (some ⟨b, 0, none⟩)) from rfl)
          have dx := (cellsOf HX14.out).1
          (try simp only at dx)
          refine wpIn_region_flo (fun _ => trivial) rfl (fun _ => False) [] [] (by kernel_rfl) (by kernel_rfl) (fun _ h => h.elim) ?_
          refine flo_seg 6 rfl ?_
          simp only [List.take_succ_cons, List.take_zero, List.drop_succ_cons, List.drop_zero]
          repeat (go_big_quiet_step (fail))
          refine wpQuiet_nil ?_
          refine flo_eff rfl rfl rfl rfl (fun K hK => ?_)
          gi_wp2_with ((refine ⟨trivial, ?_⟩; gi_at_call 42; refine (CallsIn.inRound l (callsIn_wide.2 (Of_any _ _ _))).mono ?_; rintro e9 w15 ⟨bb2, bk2, rfl, m1, m2, m3, m4, hg15⟩; have HG15 := Lib.hid hg15; have HM15 := Lib.hid (And.intro m1 (And.intro m2 (And.intro m3 m4))); clear m1 m2 m3 m4 hg15))
          refine ⟨by exact HG15.out.mdh _, ?_⟩
          refine flo_nil ?_
          have HG15b : Hid (Gr w14 w15) := Lib.hid ((Gr.refl w14).drew.trans HG15.out)
          have H15 := Lib.hid (H14.out.gr HG15b.out)
          have HLR15 : Hid (∃ r, w15.heap[l]? = some (.loop r)) := Lib.hid (by
            obtain ⟨r, hr⟩ := HLR.out
            exact ⟨r, HG15b.out.blk (H14.out.g.blk (H13.out.g.blk (HZ11.out.2.blk (HG10.out.blk (HG9.out.blk hr)) (fun h => h.2 hzl))))⟩)
          obtain ⟨m1, m2, m3, m4⟩ := HM15.out
          have HSQ := Lib.hid (SeqOfP (HIW.out w15 (Gr.trans HZ14.out.1.s.g HG15b.out)) p1 bb2 bk2 m1 m2)
          have HA2 : Hid (∀ q, slA bb2 bk2 S q → q < w15.heap.size) := Lib.hid (fun q hq => by
            have l1 := World.block_lt_of_cell? w15 ⟨bb2, 0, none⟩ m1
            have l2 := World.block_lt_of_cell? w15 ⟨bk2, 0, none⟩ m2
            have l3 := (Gr.trans HZ14.out.1.s.g HG15b.out).sz
            rcases hq with rfl | rfl | hq
            · exact l1
            · exact l2
            · have := HSLT.out q hq; omega)
          have HZI : Hid (SWz w13 w15 (slA bb2 bk2 S) [blkA (b14 + 1) (.cells #[.bool (([] : List En).any (nd3 ⟨p0, p1, true, j, p4, p5⟩))] 4), blkA b14 (.cells #[.int .i64 ((cpN ⟨p0, p1, true, j, p4, p5⟩ [] : Nat) : Int)] 3)] (fun _ => False) w15) := Lib.hid (SWz.start H15.out (fun B hB k hk ha => by
            have l1 := H14.out.s.lt hB k hk
            have l2 := H14.out.n B hB k hk
            have l3 := (Gr.refl w14).drew.sz
            have l4 := (Gr.trans HZ11.out.1.s.g H13.out.g).sz
            rcases ha with rfl | rfl | ha
            · omega
            · omega
            · have := HSLT.out k ha; omega))
          clear m1 m2 m3 m4 d3 dm0 dx
          gi_wp2_with fail
          apply wpIn_inner_zx HLR15.out (gf := 97) (lb := #[.pointer (some ⟨bb2, 0, none⟩), .pointer (some ⟨bk2, 0, none⟩)]) rfl (enters_of Try.func97 (by kernel_rfl) rfl) HSQ.out (Mdh.refl _ w15) HA2.out (fun _ => rfl)
            (fun Z2 pre2 X2 => SWz w13 w15 (slA bb2 bk2 S) [blkA (b14 + 1) (.cells #[.bool (pre2.any (nd3 ⟨p0, p1, true, j, p4, p5⟩))] 4), blkA b14 (.cells #[.int .i64 ((cpN ⟨p0, p1, true, j, p4, p5⟩ pre2 : Nat) : Int)] 3)] Z2 X2)
            (SWz.apart H15.out.g.sz (fun pre2 : List En => [blkA (b14 + 1) (.cells #[.bool (pre2.any (nd3 ⟨p0, p1, true, j, p4, p5⟩))] 4), blkA b14 (.cells #[.int .i64 ((cpN ⟨p0, p1, true, j, p4, p5⟩ pre2 : Nat) : Int)] 3)]))
            HZI.out (fun Z2 pre2 X2 h => h.frm H15.out.g) (fun x => boxE x) _ ?assign2 ?body2 ?hend2
          case assign2 =>
            intro l2 z bz X2 K hbz hK
            dsimp only [encE, enV]
            gi_wp2
            rw [← hbz]
            exact hK
          case body2 =>
            intro l2 Z2 pre2 z bz X2 hI2 hbz hz hzz hsp2
            have HI2 := Lib.hid hI2
            have HXY : Hid (X2.heap[bx]? = some (boxE ⟨p0, p1, true, j, p4, p5⟩)) := Lib.hid (hI2.s.g.blk HX13.out)
            have HXZ := Lib.hid hz
            have hcm : cpN ⟨p0, p1, true, j, p4, p5⟩ pre2 ≤ 16384 := by
              have a1 := cpN_le (⟨p0, p1, true, j, p4, p5⟩ : En) pre2
              have a2 := hsp2.length_le
              have a3 := HOM.out p1
              rw [List.length_append] at a2
              omega
            have hn0 : w13.heap.size ≤ b14 := H14.out.n _ (List.mem_cons_of_mem _ (List.mem_cons_self ..)) b14 rfl
            have hn1 : bx < w13.heap.size := blkLt HX13.out
            have hn2 : b14 + 1 < w15.heap.size := blkLt (show w15.heap[b14 + 1]? = _ from H15.out.get (i := 0) rfl)
            have g1 : bx ≠ b14 := by omega
            have g2 : bx ≠ b14 + 1 := by omega
            have g3 : bz ≠ b14 := by omega
            have g4 : bz ≠ b14 + 1 := by omega
            have HCP := Lib.hid (cpN_snoc (⟨p0, p1, true, j, p4, p5⟩ : En) z pre2)
            have HOD := Lib.hid (old_snoc (⟨p0, p1, true, j, p4, p5⟩ : En) z pre2)
            obtain ⟨d14, f14⟩ := cellsOf (show X2.heap[b14]? = _ from HI2.out.s.get (i := 1) rfl)
            have l14 := blkLt (show X2.heap[b14]? = _ from HI2.out.s.get (i := 1) rfl)
            obtain ⟨d15, f15⟩ := cellsOf (show X2.heap[b14 + 1]? = _ from HI2.out.s.get (i := 0) rfl)
            have l15 := blkLt (show X2.heap[b14 + 1]? = _ from HI2.out.s.get (i := 0) rfl)
            have dy := (cellsOf HXY.out).1
            have dz := (cellsOf HXZ.out).1
            clear hI2 hz hn0 hn1 hn2 hsp2
            generalize cpN ⟨p0, p1, true, j, p4, p5⟩ pre2 = c at *
            generalize pre2.any (nd3 ⟨p0, p1, true, j, p4, p5⟩) = od at *
            simp only at dy
            have HR2 : Hid (nd2 ⟨p0, p1, true, j, p4, p5⟩ z = (decide (z.seq = p0) && !decide (z.slot = (j : Int)))) := Lib.hid (by unfold nd2; simp)
            have HR3 : Hid (nd3 ⟨p0, p1, true, j, p4, p5⟩ z = (decide (z.seq < p0) && !decide (z.slot = (j : Int)))) := Lib.hid (by unfold nd3; simp)
            rw [HR2.out] at HCP
            rw [HR3.out] at HOD
            clear HR2 HR3
            have HS0 : ∀ (Y : World) (cc : Nat) (oo v : Bool), SWz w13 w15 (slA bb2 bk2 S) [blkA (b14 + 1) (.cells #[.bool oo] 4), blkA b14 (.cells #[.int .i64 ((cc : Nat) : Int)] 3)] Z2 Y → SWz w13 w15 (slA bb2 bk2 S) [blkA (b14 + 1) (.cells #[.bool v] 4), blkA b14 (.cells #[.int .i64 ((cc : Nat) : Int)] 3)] Z2 (Y.setCell ⟨b14 + 1, 0, none⟩ (.bool v)) ∧ Mdh (fun k => ¬ slA bb2 bk2 S k ∧ ¬ Z2 k) Y (Y.setCell ⟨b14 + 1, 0, none⟩ (.bool v)) := fun Y cc oo v h =>
              h.box (i := 0) rfl HA2.out ((Mdh.refl (fun k => k = b14 + 1) Y).setCell (p := ⟨b14 + 1, 0, none⟩) rfl _) (blkSet (j := 0) (u := .bool v) (show Y.heap[b14 + 1]? = _ from h.s.get (i := 0) rfl))
            have HS1 : ∀ (Y : World) (cc : Nat) (oo : Bool), SWz w13 w15 (slA bb2 bk2 S) [blkA (b14 + 1) (.cells #[.bool oo] 4), blkA b14 (.cells #[.int .i64 ((cc : Nat) : Int)] 3)] Z2 Y → SWz w13 w15 (slA bb2 bk2 S) [blkA (b14 + 1) (.cells #[.bool oo] 4), blkA b14 (.cells #[.int .i64 ((cc + 1 : Nat) : Int)] 3)] Z2 (Y.setCell ⟨b14, 0, none⟩ (.int .i64 ((cc : Int) + 1))) ∧ Mdh (fun k => ¬ slA bb2 bk2 S k ∧ ¬ Z2 k) Y (Y.setCell ⟨b14, 0, none⟩ (.int .i64 ((cc : Int) + 1))) := fun Y cc oo h =>
              h.step (i := 1) (B' := blkA b14 (.cells #[.int .i64 ((cc + 1 : Nat) : Int)] 3)) rfl HA2.out ((Mdh.refl (fun k => k = b14) Y).setCell (p := ⟨b14, 0, none⟩) rfl (.int .i64 ((cc : Int) + 1))) (fun k hk => .inl hk) (blkSet (j := 0) (u := .int .i64 ((cc : Int) + 1)) (show Y.heap[b14]? = _ from h.s.get (i := 1) rfl)) (fun k hk => .inl hk)
            replace HS0 := Lib.hid HS0
            replace HS1 := Lib.hid HS1
            cases od
            all_goals
              by_cases e1 : z.seq = p0
              all_goals by_cases e2 : z.slot = (j : Int)
              all_goals by_cases e3 : z.seq < p0
              all_goals (try (exfalso; omega))
              all_goals (try have hb : (z.slot != (j : Int)) = true := by simp [e2])
              all_goals
                gi_wp2_with fail
                first
                | (refine ⟨(HS0.out X2 c _ true HI2.out).2, ?_⟩; dsimp only; rw [HCP.out.trans (show _ = c by simp [e1, e2]), HOD.out.trans (show _ = true by simp [e1, e2, e3])]; exact (HS0.out X2 c _ true HI2.out).1)
                | (refine ⟨(HS0.out X2 c _ false HI2.out).2, ?_⟩; dsimp only; rw [HCP.out.trans (show _ = c by simp [e1, e2]), HOD.out.trans (show _ = false by simp [e1, e2, e3])]; exact (HS0.out X2 c _ false HI2.out).1)
                | (refine ⟨(HS1.out X2 c _ HI2.out).2.trans (HS0.out _ (c + 1) _ true (HS1.out X2 c _ HI2.out).1).2, ?_⟩; dsimp only; rw [HCP.out.trans (show _ = c + 1 by simp [e1, e2]), HOD.out.trans (show _ = true by simp [e1, e2, e3])]; exact (HS0.out _ (c + 1) _ true (HS1.out X2 c _ HI2.out).1).1)
                | (refine ⟨(HS1.out X2 c _ HI2.out).2.trans (HS0.out _ (c + 1) _ false (HS1.out X2 c _ HI2.out).1).2, ?_⟩; dsimp only; rw [HCP.out.trans (show _ = c + 1 by simp [e1, e2]), HOD.out.trans (show _ = false by simp [e1, e2, e3])]; exact (HS0.out _ (c + 1) _ false (HS1.out X2 c _ HI2.out).1).1)
          case hend2 =>
            intro Z2 xs2 X2 hS2 hI2
            have HIE := Lib.hid hI2
            have hS2' : xs2 = X.of p1 := hS2
            subst hS2'
            clear hI2 hS2
            have c14 := ((cellsOf (show X2.heap[b14]? = _ from HIE.out.s.get (i := 1) rfl)).1 0).trans (show _ = some (Value.int .i64 _) from rfl)
            have c15 := ((cellsOf (show X2.heap[b14 + 1]? = _ from HIE.out.s.get (i := 0) rfl)).1 0).trans (show _ = some (Value.bool _) from rfl)
            have zz := Lib.hid (HZ11.out.1.gr (Gr.trans H13.out.g HIE.out.s.g))
            have hzp := HRZ.out
            generalize cpN ⟨p0, p1, true, j, p4, p5⟩ (X.of p1) = c at *
            generalize (X.of p1).any (nd3 ⟨p0, p1, true, j, p4, p5⟩) = od at *
            (try dsimp only)
            by_cases hc0 : c = 0
            · have hod := hzp hc0
              subst hc0
              subst hod
              gi_wp2_with fail
              refine ⟨((HZ9.out.2.trans HZ10.out.2).trans HZ11.out.2).trans zz.out.2, ?_⟩
              dsimp only
              (first | rw [HLA.out] | (have hla := HLA.out; rw [List.length_append] at hla; rw [hla]))
              exact zz.out.1
            · have hc1 : ¬ (c : Int) = 0 := by omega
              gi_wp2_with fail
              refine ⟨((HZ9.out.2.trans HZ10.out.2).trans HZ11.out.2).trans zz.out.2, ?_⟩
              dsimp only
              (first | rw [HLA.out] | (have hla := HLA.out; rw [List.length_append] at hla; rw [hla]))
              exact zz.out.1
    case hend =>
      intro Z D xs W hD hZD hcase hdef
      obtain ⟨hxs, hI⟩ := hcase.elim (fun h => h) (fun h => h.2.elim)
      have hxs' : xs = X.slot (j : Nat) := hxs
      subst hxs'
      rw [← HNX.out] at hI
      have HCL := Lib.hid (hI.close hZD HS3.out.g.sz hdef)
      clear hcase hI hxs hdef
      dsimp only
      go_wp2_with fail
      exact ⟨⟨j + 1, D :: Ds, _, _, _, _, _, _, _, _, _, _, _, by go_num, by omega, Lib.hid ⟨List.nodup_cons.2 ⟨HCL.out.2, HR.out.1⟩, HCL.out.1⟩⟩, by simp [intOf]; omega⟩
  · have hlt' : ¬ (j : Int) < 6 := by omega
    obtain rfl : j = 6 := by omega
    rw [← HOUT.out] at HR
    have d7 := ((cellsOf (show wr.heap[b5 + 1]? = _ from HR.out.2.get (i := 1) rfl)).1 0).trans (show _ = some (Value.int .i64 out.length) from rfl)
    have d5 := ((cellsOf (show wr.heap[b5]? = _ from HR.out.2.get (i := 2) rfl)).1 0).trans (show _ = some (Value.slice ao out.length co) from rfl)
    go_wp2_with (first
      | (go_at_call 26; refine (lv_works _).mono ?_; rintro e w20 ⟨rfl, hg⟩; have HDS := Lib.hid (HR.out.2.gr hg); have HB2 := Lib.hid (H3.out.gr HDS.out.g); obtain ⟨d2, f2⟩ := cellsOf (show w20.heap[b2]? = _ from HB2.out.get (i := 4) rfl); have l2 := blkLt (show w20.heap[b2]? = _ from HB2.out.get (i := 4) rfl); clear hg)
      | fail)
    have H8 := HB2.out.box (i := 4) rfl (.bool true)
    have hn : ∀ D ∈ Ds, w3.heap.size ≤ D := HDS.out.n (dsA Ds) (List.mem_cons_self ..)
    have hb3 : b2 < w3.heap.size := blkLt (show w3.heap[b2]? = _ from H3.out.get (i := 4) rfl)
    have HGC : Hid (Gr w (clD Ds (w20.setCell ⟨b2, 0, none⟩ (.bool true)))) := Lib.hid (clD_gr H8.g (fun D hD => Nat.le_trans H3.out.g.sz (hn D hD)))
    have hds : ∀ D ∈ Ds, (w20.setCell ⟨b2, 0, none⟩ (.bool true)).heap[D]? = some (.deferred (some [])) := fun D hD => blkSetO (HDS.out.s.head D hD) (by have := hn D hD; show D ≠ b2; omega)
    have c6 : (clD Ds (w20.setCell ⟨b2, 0, none⟩ (.bool true))).cell? ⟨b2, 0, none⟩ = some (.bool true) := (clD_mdh Ds _).keep (((cellsOf (show (w20.setCell ⟨b2, 0, none⟩ (.bool true)).heap[b2]? = _ from H8.get (i := 4) rfl)).1 0).trans (show _ = some (Value.bool true) from rfl)) (fun h => by have := hn b2 h; omega)
    have HC := Lib.hid (And.intro hds c6)
    clear hds c6 H8 hn hb3
    (try go_wp2_with fail)
    exact retMn (v := .bool true) Ds rfl HC.out.1 HR.out.1 (by have c6 := HC.out.2; simp [results, Try.results6, go_sem, c6]) ⟨rfl, HGC.out⟩
end Go.Proofs.Ytanmmnomagfkhaa
