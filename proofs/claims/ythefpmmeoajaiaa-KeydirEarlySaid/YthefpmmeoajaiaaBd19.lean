/- KeydirEarly: the walk. -/
import Derived.Test.YthefpmmeoajaiaaBd16
import Derived.Test.YthefpmmeoajaiaaBd13
import Derived.Test.YthefpmmeoajaiaaBd17
import Derived.Test.YthefpmmeoajaiaaBd18
set_option linter.unusedVariables false
set_option linter.unusedSimpArgs false
namespace Go.Proofs.Ythefpmmeoajaiaa
open Go.RowKit Go.Shelf
attribute [local go_sem] OvM cell_ovm obj_ovm
attribute [local go_sem] Oper.semAt_some

abbrev bA (b : Nat) (v : Bool) : Asn := blkA b (.cells #[.bool v] 4)
abbrev nA (b : Nat) (k : Int) : Asn := blkA b (.cells #[.int .i64 k] 3)
set_option maxRecDepth 40000 in
set_option maxHeartbeats 16000000 in
theorem KeydirEarly_any (u : Int) (a : Option Addr) (len cap : Nat) (L : List Tn) (q : Int) (w : World) (hu0 : 0 ≤ u) (hu1 : u ≤ 255) (hl : L.length = len) (hle : len ≤ cap) (hcap : cap ≤ maxLen) (hs : TurnAt w a L) (hq0 : 0 ≤ q) (hq1 : q ≤ 255) :
    Calls Try.prog 6 #[.int .u8 u, .slice a len cap, .int .u8 q] w fun e w' => e = .returned (.bool true) ∧ Gr w w' := by
  by_cases h80 : 80 < len
  · have h80' : (80 : Int) < len := by omega
    clear hs hl
    refine calls_of_wp_marks Try.func6 rfl ?_
    simp only [Try.ntmps6, List.size_toArray, List.length_cons, List.length_nil, Nat.reduceAdd, Nat.reduceSub, Array.replicate_succ, Array.replicate_zero, List.push_toArray, List.append_toArray, List.nil_append, List.cons_append]
    go_upto_region 1 with fail
    obtain ⟨b6, hb6⟩ : ∃ k, k = w.heap.size + 1 := ⟨_, rfl⟩
    obtain ⟨w1, hw1⟩ : ∃ y, y = (w.alloc (.cells #[.int .u8 q] 5)).alloc (.cells #[.bool false] 4) := ⟨_, rfl⟩
    have H1 : Hid (SW w [bA b6 false] w1) := Lib.hid (by
      have h := ((SW.start w).alloc (.cells #[.int .u8 q] 5)).alloc (.cells #[.bool false] 4)
      rw [World.size_alloc, ← hb6, ← hw1] at h
      exact h.sub (.cons_cons _ (.cons _ (List.Sublist.refl _))))
    (try rw [← hw1])
    (try rw [← hb6])
    clear hw1 hb6
    go_wp2_with fail
    refine (kd_works _).mono ?_
    rintro e w2 ⟨rfl, hg⟩
    have H2 := Lib.hid (H1.out.gr hg)
    obtain ⟨d6, f6⟩ := cellsOf (show w2.heap[b6]? = _ from H2.out.get (i := 0) rfl)
    have l6 := blkLt (show w2.heap[b6]? = _ from H2.out.get (i := 0) rfl)
    have H3 := H2.out.box (i := 0) rfl (.bool true)
    have c6 := ((cellsOf (show (w2.setCell ⟨b6, 0, none⟩ (.bool true)).heap[b6]? = _ from H3.get (i := 0) rfl)).1 0).trans (show _ = some (Value.bool true) from rfl)
    have HG := Lib.hid H3.g
    clear hg H3 H1 H2
    go_wp2
    exact retM0 (v := .bool true) (by simp [results, Try.results6, go_sem, c6]) rfl ⟨rfl, HG.out⟩
  have h80' : ¬ (80 : Int) < len := by omega
  obtain ⟨n, hn⟩ : ∃ n : Nat, 1 + u % 8 = (n : Int) := ⟨(1 + u % 8).toNat, by omega⟩
  have hn1 : 1 ≤ n := by omega
  have hn2 : n ≤ 32 := by omega
  have HST := Lib.hid (foldM_ok n hn1 hn2 len L hl (by omega) (turnOk hs))
  have HS := Lib.hid hs
  have HL := Lib.hid hl
  clear hs hl
  refine calls_of_wp_marks Try.func6 rfl ?_
  simp only [Try.ntmps6, List.size_toArray, List.length_cons, List.length_nil, Nat.reduceAdd, Nat.reduceSub, Array.replicate_succ, Array.replicate_zero, List.push_toArray, List.append_toArray, List.nil_append, List.cons_append]
  go_upto_region 1 with fail
  obtain ⟨b5, hb5⟩ : ∃ k, k = w.heap.size := ⟨_, rfl⟩
  obtain ⟨b6, hb6⟩ : ∃ k, k = b5 + 1 := ⟨_, rfl⟩
  obtain ⟨w1, hw1⟩ : ∃ y, y = (w.alloc (.cells #[.int .u8 q] 5)).alloc (.cells #[.bool false] 4) := ⟨_, rfl⟩
  have H1 : Hid (SW w [bA b6 false, blkA b5 (.cells #[.int .u8 q] 5)] w1) := Lib.hid (by
    have h := ((SW.start w).alloc (.cells #[.int .u8 q] 5)).alloc (.cells #[.bool false] 4)
    rw [World.size_alloc, ← hb5, ← hb6, ← hw1] at h
    exact h)
  (try rw [← hw1])
  (try rw [← hb5])
  (try rw [← hb6])
  clear hw1 hb6 hb5
  go_wp2_with fail
  (try rw [hn])
  refine (Begin_any H1.out n hn1 hn2).mono ?_
  rintro e w2 ⟨b, rb, mb, v1, v2, S, rfl, hs⟩
  have H2 := Lib.hid hs
  clear hs H1
  go_wp2_with fail
  refine (Play_any H2.out hn1 hn2 HL.out (by omega) hle hcap HS.out).mono ?_
  rintro e w3 ⟨rfl, v1', v2', S', hs⟩
  have H3 := Lib.hid hs
  clear hs H2 HS HL
  generalize foldM n L = st at *
  obtain ⟨X, all, nx⟩ := st
  have HFG := Lib.hid HST.out.g
  simp only at HFG
  clear HST hn
  have dm0 := ((cellsOf (show w3.heap[mb]? = _ from H3.out.get (i := 3) rfl)).1 0).trans (show _ = some (Value.pointer (some ⟨b, 0, none⟩)) from rfl)
  go_wp2_with fail
  refine (live22_any (.inl ⟨b, rfl, H3.out.get (i := 0) rfl⟩)).mono ?_
  rintro e w4 ⟨v9, v10, rfl, ho9, ho10, hg⟩
  have H4 := Lib.hid (H3.out.gr hg)
  have HKL : Hid (((liveL X).map (fun x => x.1)).length = (liveL X).length ∧ ((liveL X).map (fun x => x.2)).length = (liveL X).length) := Lib.hid ⟨by simp, by simp⟩
  obtain ⟨a9, c9, hv9, hc9, hm9, _⟩ := ownS_at (show Own w4 9 1 v9 ((liveL X).map (fun x => x.1)).length (kS ((liveL X).map (fun x => x.1))) by rw [HKL.out.1]; exact ho9)
  obtain ⟨a10, c10, hv10, hc10, hm10, _⟩ := ownE_at (show Own w4 43 6 v10 ((liveL X).map (fun x => x.2)).length (rowE ((liveL X).map (fun x => x.2))) by rw [HKL.out.2]; exact ho10)
  rw [HKL.out.1] at hv9 hc9
  rw [HKL.out.2] at hv10 hc10
  subst hv9 hv10
  have HO9 := Lib.hid ho9
  have HO10 := Lib.hid ho10
  clear ho9 ho10 hg H3 dm0
  go_upto_region 7 with fail
  obtain ⟨nl, hnl⟩ : ∃ nl, nl = (liveL X).length := ⟨_, rfl⟩
  obtain ⟨b9, hb9⟩ : ∃ k, k = w4.heap.size := ⟨_, rfl⟩
  obtain ⟨b10, hb10⟩ : ∃ k, k = b9 + 1 := ⟨_, rfl⟩
  obtain ⟨w5, hw5⟩ : ∃ y, y = (w4.alloc (.cells #[.slice a9 (liveL X).length c9] 41)).alloc (.cells #[.slice a10 (liveL X).length c10] 61) := ⟨_, rfl⟩
  have H5 : Hid (SW w (blkA b10 (.cells #[.slice a10 nl c10] 61) :: blkA b9 (.cells #[.slice a9 nl c9] 41) :: mL b rb mb n v1' v2' S' ⟨X, all, nx⟩ [bA b6 false, blkA b5 (.cells #[.int .u8 q] 5)]) w5 ∧ Gr w4 w5) := Lib.hid (by
    have h := (H4.out.alloc (.cells #[.slice a9 (liveL X).length c9] 41)).alloc (.cells #[.slice a10 (liveL X).length c10] 61)
    rw [World.size_alloc, ← hb9, ← hb10, ← hw5, ← hnl] at h
    exact ⟨h, by rw [hw5]; exact ((Gr.refl w4).alloc _).alloc _⟩)
  rw [← hw5, ← hb9, ← hb10, ← hnl]
  rw [← hnl] at HKL HO9 HO10 hc9 hc10
  have HN5 := Lib.hid hnl
  have HLN : Hid (nl ≤ 16384) := Lib.hid (by rw [hnl]; exact live_len HFG.out.wf)
  clear hw5 hb10 hb9 hnl H4
  have dm0 := ((cellsOf (show w5.heap[mb]? = _ from H5.out.1.get (i := 5) rfl)).1 0).trans (show _ = some (Value.pointer (some ⟨b, 0, none⟩)) from rfl)
  go_wp2_with fail
  refine (Live_any _ _).mono ?_
  rintro e wb ⟨bb, rfl, hbb, hlb, hg⟩
  have H6 : Hid (SW w (blkA b10 (.cells #[.slice a10 nl c10] 61) :: blkA b9 (.cells #[.slice a9 nl c9] 41) :: mL b rb mb n v1' v2' S' ⟨X, all, nx⟩ [bA b6 false, blkA b5 (.cells #[.int .u8 q] 5)]) wb) := Lib.hid (H5.out.1.gr hg)
  replace HO9 := Lib.hid (HO9.out.gr (H5.out.2.trans hg))
  replace HO10 := Lib.hid (HO10.out.gr (H5.out.2.trans hg))
  have HIX : Hid (IXR wb b X S') := Lib.hid (H6.out.get (i := 2) rfl)
  have HSEQ := Lib.hid (SeqLive (.inl ⟨b, rfl, HIX.out⟩) bb hbb)
  have HA : Hid (∀ k, (k = bb ∨ S' k) → k < wb.heap.size) := Lib.hid (fun k hk => by
    have l1 := World.block_lt_of_cell? wb ⟨bb, 0, none⟩ hbb
    rcases hk with rfl | hk
    · exact l1
    · exact HIX.out.lt k hk)
  clear hbb hlb hg H5 dm0
  go_wp2_with fail
  refine wp_loop (fun ac wx => ∃ (j : Nat) (Ds : List Nat) (u13 u49 u50 u51 u52 u53 u83 u84 u85 u86 u87 u88 u89 u90 u91 : Value), ac = { tmps := #[.int .u8 u, .slice a len cap, .int .u8 q, undef, undef, .pointer (some ⟨b5, 0, none⟩), .pointer (some ⟨b6, 0, none⟩), .pointer (some ⟨mb, 0, none⟩), .bool true, .pointer (some ⟨b9, 0, none⟩), .pointer (some ⟨b10, 0, none⟩), .func (.func 83) #[] #[.pointer (some ⟨bb, 0, none⟩)], .int .i64 j, u13, undef, undef, .slice a len cap, .int .i64 len, .bool false, undef, .tuple #[.pointer (some ⟨mb, 0, none⟩), .bool true], .int .u8 u, .int .u8 (u % 8), .int .i64 (u % 8), .int .i64 n, .tuple #[.pointer (some ⟨mb, 0, none⟩), .bool true], .pointer (some ⟨mb, 0, none⟩), .bool true, .bool true, .bool false, .bool false, .pointer (some ⟨mb, 0, none⟩), .slice a len cap, .bool true, .bool false, .bool false, .tuple #[.slice a9 nl c9, .slice a10 nl c10], .pointer (some ⟨mb, 0, none⟩), .pointer (some ⟨mb, 0, none⟩), .pointer (some ⟨mb, 0, none⟩), .pointer (some ⟨b, 0, none⟩), .tuple #[.slice a9 nl c9, .slice a10 nl c10], .slice a9 nl c9, .slice a10 nl c10, .pointer (some ⟨mb, 0, none⟩), .pointer (some ⟨mb, 0, none⟩), .pointer (some ⟨mb, 0, none⟩), .pointer (some ⟨b, 0, none⟩), .func (.func 83) #[] #[.pointer (some ⟨bb, 0, none⟩)], u49, u50, u51, u52, u53, undef, undef, undef, undef, undef, undef, undef, undef, undef, undef, undef, undef, undef, undef, undef, undef, undef, undef, undef, undef, undef, undef, undef, undef, undef, undef, undef, undef, undef, u83, u84, u85, u86, u87, u88, u89, u90, u91, undef], defers := Ds.map cdf } ∧ j ≤ 2 ∧ Hid (Ds.Nodup ∧ SW wb [dsA Ds] wx))
    (fun ac _ => 2 - (intOf (ac.tmps.getD 12 undef)).toNat) ⟨0, [], _, _, _, _, _, _, _, _, _, _, _, _, _, _, _, rfl, by omega, Lib.hid ⟨List.nodup_nil, (SW.start wb).noDs⟩⟩ ?_
  intro ac wr hI
  obtain ⟨j, Ds, u13, u49, u50, u51, u52, u53, u83, u84, u85, u86, u87, u88, u89, u90, u91, rfl, hj, HR⟩ := hI
  by_cases hlt : j < 2
  · have hlt' : (j : Int) < 2 := by omega
    obtain ⟨m, hm⟩ : ∃ m : Nat, q % 7 = (m : Int) := ⟨(q % 7).toNat, by omega⟩
    go_upto_region 12 with fail
    obtain ⟨b13, hb13⟩ : ∃ k, k = wr.heap.size := ⟨_, rfl⟩
    obtain ⟨w9, hw9⟩ : ∃ y, y = wr.alloc (.cells #[.int .i64 0] 3) := ⟨_, rfl⟩
    have H9 : Hid (SW wb [dsA Ds, nA b13 ([] : List (ByteArray × En)).length] w9) := Lib.hid (by rw [hw9, hb13]; exact HR.out.2.allocT _)
    have HB13 : Hid (wb.heap.size ≤ b13) := Lib.hid (by rw [hb13]; exact HR.out.2.g.sz)
    rw [← hw9, ← hb13]
    clear hw9 hb13
    have HZ : Hid (SWz wb w9 (fun k => k = bb ∨ S' k) [dsA Ds, nA b13 ([] : List (ByteArray × En)).length] (fun _ => False) w9) := Lib.hid (SWz.start H9.out (fun B hB k hk ha => by
      have l1 := H9.out.n B hB k hk
      have l2 := HA.out k ha
      omega))
    have HSZ := Lib.hid H9.out.g
    have hA9 : ∀ k, (k = bb ∨ S' k) → k < w9.heap.size := fun k hk => Nat.lt_of_lt_of_le (HA.out k hk) HSZ.out.sz
    have HA9 := Lib.hid hA9
    clear hA9
    go_wp2_with fail
    apply wp_rangeFunc_zx (gf := 83) (lb := #[.pointer (some ⟨bb, 0, none⟩)]) rfl (enters_of Try.func83 (by kernel_rfl) rfl) HSEQ.out (HSZ.out.mdh _) HA9.out (fun _ => rfl)
      (fun Z pre X' => pre.length ≤ m ∧ SWz wb w9 (fun k => k = bb ∨ S' k) [dsA Ds, nA b13 pre.length] Z X')
      (fun Z pre X' => pre.length = m + 1 ∧ SWz wb w9 (fun k => k = bb ∨ S' k) [dsA Ds, nA b13 pre.length] Z X') (fun _ _ _ => False)
      ((Apart.pure (fun pre : List (ByteArray × En) => pre.length ≤ m)).and (SWz.apart HSZ.out.sz (fun pre : List (ByteArray × En) => [dsA Ds, nA b13 pre.length])))
      ((Apart.pure (fun pre : List (ByteArray × En) => pre.length = m + 1)).and (SWz.apart HSZ.out.sz (fun pre : List (ByteArray × En) => [dsA Ds, nA b13 pre.length]))) apart_no
      ⟨Nat.zero_le _, HZ.out⟩ (fun Z pre X' h => h.2.frm HSZ.out) (fun x => .cells #[.int .i64 x.2.seq, .string x.2.key, .bool x.2.del, .int .i64 x.2.slot, .int .i64 x.2.off, .int .i64 x.2.size] 43)
      _ ?assign ?body ?hend ?hret
    case hret => intro _ _ _ _ _ _ _ h; exact h.elim
    case assign =>
      intro l x bx X' K hbx hK
      dsimp only [encKE, enV]
      gi_wp2
      rw [← hbx]
      exact hK
    case body =>
      intro l Z pre x bx X' hI hbx hx hzx hzl hlr hsp
      obtain ⟨hlm, hI⟩ := hI
      obtain ⟨ky, x⟩ := x
      simp only at hx
      have HIZ := Lib.hid hI
      have hpg : (liveL X)[pre.length]? = some (ky, x) := by
        obtain ⟨t, ht⟩ := hsp
        rw [← ht, List.append_assoc, List.getElem?_append_right (Nat.le_refl _), Nat.sub_self]
        rfl
      have hpl : pre.length < nl := by rw [HN5.out]; exact (List.getElem?_eq_some_iff.1 hpg).1
      have hp1 : ((liveL X).map (fun x => x.1))[pre.length]? = some ky := by rw [List.getElem?_map, hpg]; rfl
      have hp2 : ((liveL X).map (fun x => x.2))[pre.length]? = some x := by rw [List.getElem?_map, hpg]; rfl
      have g6 := hI.s.g
      obtain ⟨g9, rfl, hg9, z9⟩ := str1 HKL.out.1 (HO9.out.gr g6) hp1
      obtain ⟨g10, rfl, hg10, y0, y1, y2, y3, y4, y5⟩ := ent6 (show Own X' 43 6 (.slice a10 ((liveL X).map (fun x => x.2)).length c10) ((liveL X).map (fun x => x.2)).length (rowE ((liveL X).map (fun x => x.2))) by rw [HKL.out.2]; exact HO10.out.gr g6) hp2
      have H6X := Lib.hid (H6.out.gr g6)
      have HB := Lib.hid (show X'.heap[b13]? = _ from hI.s.get (i := 1) rfl)
      obtain ⟨d13, f13⟩ := cellsOf HB.out
      have l13 := blkLt HB.out
      have dx := (cellsOf hx).1
      have lx := blkLt hx
      have d9 := ((cellsOf (show X'.heap[b9]? = _ from H6X.out.get (i := 1) rfl)).1 0).trans (show _ = some (Value.slice (some ⟨g9, 0, none⟩) nl c9) from rfl)
      have d10 := ((cellsOf (show X'.heap[b10]? = _ from H6X.out.get (i := 0) rfl)).1 0).trans (show _ = some (Value.slice (some ⟨g10, 0, none⟩) nl c10) from rfl)
      have d5 := ((cellsOf (show X'.heap[b5]? = _ from H6X.out.get (i := 8) rfl)).1 0).trans (show _ = some (Value.int .u8 q) from rfl)
      have hne : ¬ b5 = b13 := by
        have := blkLt (show wb.heap[b5]? = _ from H6.out.get (i := 8) rfl)
        have := HB13.out
        omega
      have hkb : (ky.toList == ky.toList) = true := (str_beq ky ky).trans (decide_eq_true rfl)
      have kn := fun w => neqE_run x x w
      have hpl' : (pre.length : Int) < nl := by omega
      have hge : decide ((nl : Int) ≤ (pre.length : Int)) = false := decide_eq_false (by omega)
      have hge2 : decide (nl ≤ pre.length) = false := decide_eq_false (by omega)
      clear hI hsp hpg hp1 hp2 g6 hx
      obtain ⟨x0, x1, x2, x3, x4, x5⟩ := x
      simp only at y0 y1 y2 y3 y4 y5 dx kn
      (try simp only [decide_true, Bool.not_true] at kn)
      have HD : Hid (SWz wb w9 (fun k => k = bb ∨ S' k) [dsA Ds, nA b13 pre.length] Z X'.drew ∧ Mdh (fun k => ¬ (k = bb ∨ S' k) ∧ ¬ Z k) X' X'.drew) := Lib.hid (HIZ.out.gr (Gr.refl X').drew)
      gi_wp2_with fail
      refine wpIn_region_flo (fun _ => trivial) rfl (fun _ => False) [] [] (by kernel_rfl) (by kernel_rfl) (fun _ h => h.elim) ?_
      refine flo_seg 20 rfl ?_
      simp only [List.take_succ_cons, List.take_zero, List.drop_succ_cons, List.drop_zero]
      repeat (go_big_quiet_step (fail))
      refine wpQuiet_nil ?_
      refine flo_nil ?_
      have hz4 : ∀ v : Int, v = (pre.length : Int) + 1 → SWz wb w9 (fun k => k = bb ∨ S' k) [dsA Ds, nA b13 (((pre ++ [(ky, (⟨x0, x1, x2, x3, x4, x5⟩ : En))]).length : Nat) : Int)] Z (X'.setCell ⟨b13, 0, none⟩ (.int .i64 v)).drew ∧ Mdh (fun k => ¬ (k = bb ∨ S' k) ∧ ¬ Z k) X' (X'.setCell ⟨b13, 0, none⟩ (.int .i64 v)).drew := fun v hv => by
        have e1 : (((pre ++ [(ky, (⟨x0, x1, x2, x3, x4, x5⟩ : En))]).length : Nat) : Int) = v := by rw [List.length_append, hv]; simp
        have z4 := HIZ.out.step (i := 1) (B' := nA b13 v) rfl HA9.out ((Mdh.refl (fun k => k = b13) X').setCell (p := ⟨b13, 0, none⟩) rfl (.int .i64 v)) (fun k hk => .inl hk) (blkSet (j := 0) (u := .int .i64 v) HB.out) (fun k hk => .inl hk)
        have z5 := z4.1.gr (Gr.refl _).drew
        rw [e1]
        exact ⟨z5.1, z4.2.trans z5.2⟩
      have HZ4 := Lib.hid hz4
      clear hz4 y0 y1 y2 y3 y4 y5 z9 d9 d10 dx kn hkb hge hge2
      by_cases h5 : pre.length = m
      · have h5' : (m : Int) < (pre.length : Int) + 1 := by omega
        have HV := Lib.hid (HZ4.out ((m : Int) + 1) (by omega))
        gi_wp2_with fail
        exact ⟨HV.out.2.mono (fun k h => h.2), rfl, by rw [List.length_append, h5]; rfl, HV.out.1⟩
      · have h5' : ¬ (m : Int) < (pre.length : Int) + 1 := by omega
        have HV := Lib.hid (HZ4.out ((pre.length : Int) + 1) rfl)
        gi_wp2_with fail
        exact ⟨HV.out.2, by rw [List.length_append, List.length_singleton]; omega, HV.out.1⟩
    case hend =>
      intro Z D xs W hD hZD hcase hdef
      obtain ⟨c, hc, hZ⟩ : ∃ c : Nat, (c = m + 1 ∧ m + 1 ≤ nl ∨ c = nl ∧ nl ≤ m) ∧ SWz wb w9 (fun k => k = bb ∨ S' k) [dsA Ds, nA b13 c] Z W := by
        rw [HN5.out]
        rcases hcase with ⟨h1, h2, h3⟩ | ⟨h1, h2, h3⟩
        · exact ⟨xs.length, .inr ⟨by rw [show xs = liveL X from h1], by rw [show xs = liveL X from h1] at h2; exact h2⟩, h3⟩
        · exact ⟨xs.length, .inl ⟨h2, by have := List.IsPrefix.length_le h1; omega⟩, h3⟩
      have g6 := hZ.s.g
      have H6W := Lib.hid (H6.out.gr g6)
      have d13 := (cellsOf (show W.heap[b13]? = _ from hZ.s.get (i := 1) rfl)).1
      have d9 := ((cellsOf (show W.heap[b9]? = _ from H6W.out.get (i := 1) rfl)).1 0).trans (show _ = some (Value.slice a9 nl c9) from rfl)
      have d5 := ((cellsOf (show W.heap[b5]? = _ from H6W.out.get (i := 8) rfl)).1 0).trans (show _ = some (Value.int .u8 q) from rfl)
      have hcl := hZ.close hZD HSZ.out.sz hdef
      have HCL : Hid (SW wb [dsA (D :: Ds)] W ∧ (D :: Ds).Nodup) := Lib.hid ⟨hcl.1.sub (.cons_cons _ (.cons _ (List.Sublist.refl _))), List.nodup_cons.2 ⟨hcl.2, HR.out.1⟩⟩
      clear hcase hZ hD hZD hdef hcl g6
      dsimp only
      rcases hc with ⟨hc, hc2⟩ | ⟨hc, hc2⟩
      · subst hc
        have hc3 : (m : Int) + 1 ≤ (nl : Int) := by omega
        go_wp2_with fail
        all_goals
          first
          | exact ⟨⟨j + 1, D :: Ds, ⟨by go_num, rfl⟩, by omega, Lib.hid ⟨HCL.out.2, HCL.out.1⟩⟩, by simp [intOf]; omega⟩
          | exact ⟨⟨j + 1, D :: Ds, _, _, _, _, _, _, _, _, _, _, _, _, _, _, _, by go_num, by omega, Lib.hid ⟨HCL.out.2, HCL.out.1⟩⟩, by simp [intOf]; omega⟩
      · subst hc
        have hc3 : (c : Int) ≤ (m : Int) := by omega
        go_wp2_with fail
        all_goals
          first
          | exact ⟨⟨j + 1, D :: Ds, ⟨by go_num, rfl⟩, by omega, Lib.hid ⟨HCL.out.2, HCL.out.1⟩⟩, by simp [intOf]; omega⟩
          | exact ⟨⟨j + 1, D :: Ds, _, _, _, _, _, _, _, _, _, _, _, _, _, _, _, by go_num, by omega, Lib.hid ⟨HCL.out.2, HCL.out.1⟩⟩, by simp [intOf]; omega⟩
  · have hlt' : ¬ (j : Int) < 2 := by omega
    have H6W := Lib.hid (H6.out.gr HR.out.2.g)
    go_wp2_with fail
    refine (kd_works _).mono ?_
    rintro e w20 ⟨rfl, hg⟩
    have H7 := Lib.hid (H6W.out.gr hg)
    have HDS := Lib.hid (HR.out.2.gr hg)
    have HB6 := Lib.hid (show w20.heap[b6]? = some (.cells #[.bool false] 4) from H7.out.get (i := 7) rfl)
    obtain ⟨d6, f6⟩ := cellsOf HB6.out
    have l6 := blkLt HB6.out
    have H8 := H7.out.box (i := 7) rfl (.bool true)
    have hn : ∀ D ∈ Ds, wb.heap.size ≤ D := HDS.out.n (dsA Ds) (List.mem_cons_self ..)
    have hb6 : b6 < wb.heap.size := blkLt (show wb.heap[b6]? = _ from H6.out.get (i := 7) rfl)
    have HGC : Hid (Gr w (clD Ds (w20.setCell ⟨b6, 0, none⟩ (.bool true)))) := Lib.hid (clD_gr H8.g (fun D hD => Nat.le_trans H6.out.g.sz (hn D hD)))
    have hds : ∀ D ∈ Ds, (w20.setCell ⟨b6, 0, none⟩ (.bool true)).heap[D]? = some (.deferred (some [])) := fun D hD => blkSetO (HDS.out.s.head D hD) (by have := hn D hD; show D ≠ b6; omega)
    have c6 : (clD Ds (w20.setCell ⟨b6, 0, none⟩ (.bool true))).cell? ⟨b6, 0, none⟩ = some (.bool true) := (clD_mdh Ds _).keep (((cellsOf (show (w20.setCell ⟨b6, 0, none⟩ (.bool true)).heap[b6]? = _ from H8.get (i := 7) rfl)).1 0).trans (show _ = some (Value.bool true) from rfl)) (fun h => by have := hn b6 h; omega)
    have HC := Lib.hid (And.intro hds c6)
    clear hds c6 H8 hn hb6 hg H7
    go_wp2_with fail
    exact retMn (v := .bool true) Ds rfl HC.out.1 HR.out.1 (by have c6 := HC.out.2; simp [results, Try.results6, go_sem, c6]) ⟨rfl, HGC.out⟩
end Go.Proofs.Ythefpmmeoajaiaa
