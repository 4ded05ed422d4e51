/- LedgerAdds. -/
import Derived.Test.YthefpmmeoajaiaaBd16
import Derived.Test.YthefpmmeoajaiaaBd2
import Derived.Deep.Slices
import Derived.Deep.Fields
import Derived.ChangeSame
import Derived.ChangeArms
import Derived.OpenShut
import Derived.ShutString
import Derived.ChangeOld
import Derived.Lib.SmallJoins
import Derived.Test.YthefpmmeoajaiaaBd15
set_option linter.unusedVariables false
set_option linter.unusedSimpArgs false
namespace Go.Proofs.Ythefpmmeoajaiaa
open Go.RowKit Go.Shelf
attribute [local go_sem] OvM cell_ovm obj_ovm
attribute [local go_sem] Oper.semAt_some

set_option maxRecDepth 40000 in
theorem yieldsE_any (gf : Nat) (lb : Array Value) (w : World) : Calls Try.prog 18 #[.func (.func gf) #[] lb] w fun e w' => e = .returned (.func (.func gf) #[] lb) ∧ w = w' := by
  have k1 : ∀ w : World, (binOp .eql 46 (.func (.func gf) #[] lb) .nilFunc).run Try.prog w = .ok (.bool false) w := fun w => by kernel_rfl
  go_enter Try.func18, Try.ntmps18
  go_wp2
  go_ret
  exact ⟨rfl, rfl⟩
def hasS (l : List En) (s : Int) : Bool := l.any (fun o => decide (o.slot = s))
abbrev hasO (l : List En) : Obj := .cells #[.bool (hasS l 0), .bool (hasS l 1), .bool (hasS l 2), .bool (hasS l 3), .bool (hasS l 4), .bool (hasS l 5)] 40
theorem has_get (l : List En) (σ : Nat) (h : σ < 6) : (#[.bool (hasS l 0), .bool (hasS l 1), .bool (hasS l 2), .bool (hasS l 3), .bool (hasS l 4), .bool (hasS l 5)] : Array Value)[σ]? = some (.bool (hasS l σ)) := by
  have h' : σ = 0 ∨ σ = 1 ∨ σ = 2 ∨ σ = 3 ∨ σ = 4 ∨ σ = 5 := by omega
  rcases h' with rfl | rfl | rfl | rfl | rfl | rfl <;> rfl
theorem hasS_snoc (l : List En) (x : En) (s : Int) : hasS (l ++ [x]) s = (hasS l s || decide (x.slot = s)) := by simp [hasS]
theorem has_set (l : List En) (x : En) (σ : Nat) (h : σ < 6) (hx : x.slot = (σ : Int)) : (#[.bool (hasS l 0), .bool (hasS l 1), .bool (hasS l 2), .bool (hasS l 3), .bool (hasS l 4), .bool (hasS l 5)] : Array Value).setIfInBounds σ (.bool true) = #[.bool (hasS (l ++ [x]) 0), .bool (hasS (l ++ [x]) 1), .bool (hasS (l ++ [x]) 2), .bool (hasS (l ++ [x]) 3), .bool (hasS (l ++ [x]) 4), .bool (hasS (l ++ [x]) 5)] := by
  simp only [hasS_snoc, hx]
  have h' : σ = 0 ∨ σ = 1 ∨ σ = 2 ∨ σ = 3 ∨ σ = 4 ∨ σ = 5 := by omega
  rcases h' with rfl | rfl | rfl | rfl | rfl | rfl <;> simp
theorem deadK_snoc (X : IX) (κ : ByteArray) (pre : List En) (x : En) : deadK X κ (pre ++ [x]) = deadK X κ pre + if x.seq = (headE X κ).seq then x.size else 0 := by
  unfold deadK headE
  rw [List.filter_append, sumE_app, List.filter_cons, List.filter_nil]
  by_cases h : x.seq = ((X.of κ).headD zE).seq
  · rw [if_pos (decide_eq_true h), if_pos h]; simp [sumE]
  · rw [if_neg (by simpa using h), if_neg h]; simp [sumE]
/-- The boxes of the loop over the entries of the key. -/
abbrev adR (b9 b14 : Nat) (X : IX) (κ : ByteArray) (hd : En) (is : Bool) (sm : By) (pre : List En) : List Asn :=
  [blkA (b14 + 1 + 1) (.cells #[.int .i64 pre.length] 3), blkA (b14 + 1) (.cells #[.bool is] 4), blkA b14 (boxF hd), blkA (b9 + 1 + 1) (hasO pre), blkA (b9 + 1) (.cells #[.int .i64 (deadK X κ pre)] 3), blkA b9 (boxB sm)]
set_option maxRecDepth 40000 in
set_option maxHeartbeats 8000000 in
theorem LedgerAdds_any (a : Option Addr) (len cap : Nat) (L : List Pt) (t : Pt) (w : World) (hl : L.length = len) (hle : len ≤ cap) (hcap : cap ≤ maxLen) (hs : PutAt w a L) (ht : t.Ok) :
    Calls Try.prog 3 #[.slice a len cap, .agg #[.int .u8 t.key, .int .u8 t.slot, .int .u8 t.size, .bool t.del, .bool t.cp]] w fun e w' => e = .returned (.bool true) ∧ Gr w w' := by
  have HL := Lib.hid hl
  have HS := Lib.hid hs
  have HT := Lib.hid ht
  obtain ⟨tk, ts, tz, td, tc⟩ := t
  unfold maxLen at hcap
  obtain ⟨n, hn⟩ : ∃ n : Nat, n = min len 50 := ⟨_, rfl⟩
  have hn1 : n ≤ len := by omega
  have hn2 : n ≤ 50 := by omega
  have hmin : min (len : Int) 50 = n := by omega
  have hlc : (len : Int) ≤ cap := by omega
  have HN : Hid (n = min len 50) := Lib.hid hn
  clear hs hl hn ht
  refine calls_of_wp_marks Try.func3 rfl ?_
  simp only [Try.ntmps3, List.size_toArray, List.length_cons, List.length_nil, Nat.reduceAdd, Nat.reduceSub, Array.replicate_succ, Array.replicate_zero, List.push_toArray, List.append_toArray, List.nil_append, List.cons_append]
  go_upto_region 1 with fail
  obtain ⟨b3, hb3⟩ : ∃ q, q = w.heap.size := ⟨_, rfl⟩
  obtain ⟨w0, hw0⟩ : ∃ y, y = (w.alloc (boxP ⟨tk, ts, tz, td, tc⟩)).alloc (.cells #[.bool false] 4) := ⟨_, rfl⟩
  have HS0 : Hid (SW w [blkA (b3 + 1) (.cells #[.bool false] 4), blkA b3 (boxP ⟨tk, ts, tz, td, tc⟩)] w0) := Lib.hid (by
    have h := ((SW.start w).alloc (boxP ⟨tk, ts, tz, td, tc⟩)).alloc (.cells #[.bool false] 4)
    simp only [World.size_alloc, ← hb3] at h
    rw [hw0]
    exact h)
  simp only [boxP] at hw0
  rw [← hb3, ← hw0]
  clear hb3 hw0
  have HC : Hid (∀ m : Nat, m ≤ 50 → m ≤ len → m ≤ cap → m = n → Calls Try.prog 14 #[.slice a m cap] w0 (B23Post w0 (L.take n))) := Lib.hid (fun m h1 h2 h3 h4 => by
    have hlm : (L.take n).length = m := by rw [List.length_take]; have := HL.out; omega
    have h := build23_any a m cap (L.take n) w0 hlm h3 (by simp only [maxLen]; omega) (fun i x hx => by
      have hx' : L[i]? = some x := by
        rw [List.getElem?_take] at hx
        split at hx
        · exact hx
        · cases hx
      obtain ⟨b, off, h0, hb, m0, m1, m2, m3, m4, hok⟩ := HS.out i x hx'
      have hg := HS0.out.g
      exact ⟨b, off, h0, Nat.lt_of_lt_of_le hb hg.sz, hg.keep m0, hg.keep m1, hg.keep m2, hg.keep m3, hg.keep m4, hok⟩)
    rwa [List.take_of_length_le (show (L.take n).length ≤ 60 by omega)] at h)
  go_cut [5, 6] from 25 to 229 (fun t5 t6 wx => ∃ bb b S, t5 = .pointer (some ⟨bb, 0, none⟩) ∧ t6 = .bool true ∧ Hid (SW w0 [ixA b (foldP (L.take n)).X S, blkA bb (blO b (foldP (L.take n)).us (foldP (L.take n)).nx)] wx))
  case first =>
    go_wp2_with fail
    all_goals
      first
        | (have e1 : len < 50 := by omega
           refine Calls.mono (HC.out len (by omega) (by omega) (by omega) (by have := HN.out; omega)) ?_)
        | (have e1 : 50 ≤ len := by omega
           refine Calls.mono (HC.out 50 (by omega) (by omega) (by omega) (by have := HN.out; omega)) ?_)
        | (have e1 : len ≤ 50 := by omega
           refine Calls.mono (HC.out len (by omega) (by omega) (by omega) (by have := HN.out; omega)) ?_)
      rintro e w1 ⟨bb, b, S, rfl, hs⟩
      have HS1 := Lib.hid hs
      clear hs
      go_wp2_with fail
      go_meet
      exact ⟨bb, b, S, rfl, rfl, HS1⟩
  case rest =>
    obtain ⟨bb, b, S, rfl, rfl, H1⟩ := hcut
    have HS1 : Hid (SW w [ixA b (foldP (L.take n)).X S, blkA bb (blO b (foldP (L.take n)).us (foldP (L.take n)).nx), blkA (b3 + 1) (.cells #[.bool false] 4), blkA b3 (boxP ⟨tk, ts, tz, td, tc⟩)] wc) := Lib.hid (HS0.out.both H1.out)
    have hok := foldP_ok (L.take n) (by rw [List.length_take]; omega) (fun t ht => putOk HS.out t (List.mem_of_mem_take ht))
    have HOK := Lib.hid (PS.later hok (show (L.take n).length ≤ 50 by rw [List.length_take]; omega))
    clear hok H1 HC HS0
    generalize foldP (L.take n) = st at *
    have HAD := Lib.hid (ad23 (t := ⟨tk, ts, tz, td, false⟩) HOK.out (by omega) ⟨HT.out.key, HT.out.slot, HT.out.size⟩ rfl)
    have HST := Lib.hid (PS.st HOK.out (by omega))
    have e3 : wc.heap[b3]? = _ := HS1.out.get (i := 3) rfl
    obtain ⟨d3, f3⟩ := cellsOf e3
    have l3 := blkLt e3
    go_upto_region 5 with fail
    obtain ⟨w2, hw2⟩ : ∃ y, y = wc.setCell ⟨b3, 4, none⟩ (.bool false) := ⟨_, rfl⟩
    have HS2 : Hid (SW w [ixA b st.X S, blkA bb (blO b st.us st.nx), blkA (b3 + 1) (.cells #[.bool false] 4), blkA b3 (boxP ⟨tk, ts, tz, td, false⟩)] w2) := Lib.hid (by
      rw [hw2]
      exact HS1.out.at (i := 3) rfl ((Mdh.refl (fun k => k = b3) wc).setCell (p := ⟨b3, 4, none⟩) rfl (.bool false)) (fun k hk => .inl hk) (B := blkA b3 (boxP ⟨tk, ts, tz, td, false⟩)) (blkSet (j := 4) (u := .bool false) (HS1.out.get (i := 3) rfl)) (fun k hk => .inl hk))
    rw [← hw2]
    clear hw2 e3 d3 f3 l3 HS1
    have dB0 : w2.cell? ⟨bb, 0, none⟩ = some (.pointer (some ⟨b, 0, none⟩)) := (cellsOf (show w2.heap[bb]? = _ from HS2.out.get (i := 1) rfl)).1 0
    go_wp2_with fail
    refine (All_any HS2.out.ixp).mono ?_
    rintro e w3 ⟨v7, rfl, hr, hg⟩
    rw [show st.X.slots.length = 6 from HST.out.n] at hr
    rw [show st.X.slots.length = 6 from HST.out.n]
    have HS3 : Hid (SW w [ixA b st.X S, rowA 37 5 v7 6 (rowBy (allL st.X 6)), blkA bb (blO b st.us st.nx), blkA (b3 + 1) (.cells #[.bool false] 4), blkA b3 (boxP ⟨tk, ts, tz, td, false⟩)] w3) := Lib.hid (HS2.out.row hr hg)
    obtain ⟨a7, c7, rfl, _, _, _⟩ := allL_cells (show Own w3 37 5 v7 6 (rowBy (allL st.X 6)) from HS3.out.get (i := 1) rfl)
    clear hr hg dB0 HS2
    have dB0 : w3.cell? ⟨bb, 0, none⟩ = some (.pointer (some ⟨b, 0, none⟩)) := (cellsOf (show w3.heap[bb]? = _ from HS3.out.get (i := 2) rfl)).1 0
    go_wp2_with fail
    refine (Sum_any HS3.out.ixp).mono ?_
    rintro e w4 ⟨rfl, hg⟩
    rw [show sumBy st.X = (addL (allL st.X 6), 0) from HST.out.sumBy]
    have HS4 := Lib.hid (HS3.out.gr hg)
    obtain ⟨sm, hsm⟩ : ∃ sm, sm = addL (allL st.X 6) := ⟨_, rfl⟩
    have HSM := Lib.hid (HST.out.sum 6)
    rw [← hsm] at HSM
    rw [← hsm]
    have HSME := Lib.hid hsm
    clear hsm hg dB0 HS3
    obtain ⟨s0, s1, s2, s3, s4⟩ := sm
    simp only [byV]
    go_upto_region 9 with fail
    obtain ⟨b9, hb9⟩ : ∃ q, q = w4.heap.size := ⟨_, rfl⟩
    obtain ⟨w5, hw5⟩ : ∃ y, y = ((w4.alloc (boxB ⟨s0, s1, s2, s3, s4⟩)).alloc (.cells #[.int .i64 0] 3)).alloc (hasO []) := ⟨_, rfl⟩
    have HT5 : Hid (SW w4 [blkA (b9 + 1 + 1) (hasO []), blkA (b9 + 1) (.cells #[.int .i64 0] 3), blkA b9 (boxB ⟨s0, s1, s2, s3, s4⟩)] w5) := Lib.hid (by
      have h := (((SW.start w4).alloc (boxB ⟨s0, s1, s2, s3, s4⟩)).alloc (.cells #[.int .i64 0] 3)).alloc (hasO [])
      simp only [World.size_alloc, ← hb9] at h
      rw [hw5]
      exact h)
    simp only [boxB, hasO, hasS, List.any_nil] at hw5
    rw [← hb9, ← hw5]
    clear hw5 hb9
    obtain ⟨k0, k0'⟩ := HT.out.key
    simp only at k0 k0'
    obtain ⟨κ, hκ⟩ : ∃ κ, κ = ptKey tk := ⟨_, rfl⟩
    have HKP := Lib.hid hκ
    clear hκ
    have dP := (cellsOf (show w5.heap[b3]? = _ from (HS4.out.gr HT5.out.g).get (i := 4) rfl)).1
    have lP := blkLt (show w5.heap[b3]? = _ from (HS4.out.gr HT5.out.g).get (i := 4) rfl)
    have d0 : w5.cell? ⟨b3, 0, none⟩ = some (.int .u8 tk) := dP 0
    clear dP
    go_cut [13] from 53 to 229 (fun t13 wx => t13 = .string κ ∧ Hid (Gr w5 wx))
    case first =>
      have hτ : tk % 5 = 0 ∨ tk % 5 = 1 ∨ tk % 5 = 2 ∨ tk % 5 = 3 ∨ tk % 5 = 4 := by omega
      rcases hτ with hτ | hτ | hτ | hτ | hτ
      all_goals
        have HK2 := HKP.out
        unfold ptKey at HK2
        rw [hτ] at HK2
        have HK3 := Lib.hid HK2
        clear HK2
        go_wp2
        go_meet
        exact ⟨by rw [HK3.out]; rfl, Lib.hid ((Gr.refl _).alloc _)⟩
    case rest =>
    obtain ⟨rfl, HG6⟩ := hcut
    have HT6 := Lib.hid (HT5.out.gr HG6.out)
    clear HT5 d0 lP HG6
    generalize wc = w6 at *
    have HS6 := Lib.hid (HS4.out.gr HT6.out.g)
    have dB0 : w6.cell? ⟨bb, 0, none⟩ = some (.pointer (some ⟨b, 0, none⟩)) := (cellsOf (show w6.heap[bb]? = _ from HS6.out.get (i := 2) rfl)).1 0
    go_wp2_with fail
    refine (Newest_any HS6.out.ixp κ).mono ?_
    rintro e w7 ⟨rfl, hg⟩
    obtain ⟨hd, hhd⟩ : ∃ y, y = headE st.X κ := ⟨_, rfl⟩
    obtain ⟨is, his⟩ : ∃ y, y = !(st.X.of κ).isEmpty := ⟨_, rfl⟩
    rw [show newV (st.X.of κ) = .tuple #[enV hd, .bool is] by rw [hhd, his]; exact newV_by _]
    have HT7 := Lib.hid (HT6.out.gr hg)
    obtain ⟨d0, d1, d2, d3, d4, d5⟩ := hd
    have HHD := Lib.hid (And.intro hhd his)
    clear hhd his hg dB0 HS6 HT6
    simp only [enV]
    go_upto_region 12 with fail
    obtain ⟨b14, hb14⟩ : ∃ q, q = w7.heap.size := ⟨_, rfl⟩
    have HBB : Hid (b9 + 1 + 1 < b14) := Lib.hid (by have := blkLt (show w7.heap[b9 + 1 + 1]? = _ from HT7.out.get (i := 0) rfl); omega)
    obtain ⟨w8, hw8⟩ : ∃ y, y = ((w7.alloc (boxF ⟨d0, d1, d2, d3, d4, d5⟩)).alloc (.cells #[.bool is] 4)).alloc (.cells #[.int .i64 0] 3) := ⟨_, rfl⟩
    have HT8 : Hid (SW w4 (adR b9 b14 st.X κ ⟨d0, d1, d2, d3, d4, d5⟩ is ⟨s0, s1, s2, s3, s4⟩ []) w8) := Lib.hid (by
      have h := ((HT7.out.alloc (boxF ⟨d0, d1, d2, d3, d4, d5⟩)).alloc (.cells #[.bool is] 4)).alloc (.cells #[.int .i64 0] 3)
      simp only [World.size_alloc, ← hb14] at h
      rw [hw8]
      exact h)
    simp only [boxF] at hw8
    rw [← hb14, ← hw8]
    clear hw8 hb14 HT7
    have HS8 := Lib.hid (HS4.out.gr HT8.out.g)
    have dB0 : w8.cell? ⟨bb, 0, none⟩ = some (.pointer (some ⟨b, 0, none⟩)) := (cellsOf (show w8.heap[bb]? = _ from HS8.out.get (i := 2) rfl)).1 0
    go_wp2_with fail
    refine (Of_any _ _ _).mono ?_
    rintro e w9 ⟨bo, bk, rfl, k1, k2, l1, l2, hg⟩
    have HT9 := Lib.hid (HT8.out.gr hg)
    have HS9 := Lib.hid (HS8.out.gr hg)
    have hAL : ∀ k, (fun q => q = bo ∨ q = bk ∨ S q) k → k < w9.heap.size := by
      rintro k (rfl | rfl | h)
      · exact World.block_lt_of_cell? w9 _ k1
      · exact World.block_lt_of_cell? w9 _ k2
      · exact HS9.out.ix.lt k h
    have hAR : ∀ B ∈ (adR b9 b14 st.X κ ⟨d0, d1, d2, d3, d4, d5⟩ is ⟨s0, s1, s2, s3, s4⟩ []), ∀ k, B.S k → ¬ (fun q => q = bo ∨ q = bk ∨ S q) k := by
      intro B hB k hk ha
      have h1 := HT8.out.n B hB k hk
      have h2 := HT8.out.s.lt hB k hk
      rcases ha with ha | ha | ha
      · omega
      · omega
      · have := HS4.out.ix.lt k ha; omega
    obtain ⟨A, HSEQ, HA, HAR⟩ : ∃ A : Nat → Prop, Hid (SeqZ Fence.wide 2 Try.prog 65 #[.pointer (some ⟨bo, 0, none⟩), .pointer (some ⟨bk, 0, none⟩)] encE A (fun xs => xs = st.X.of κ) (fun pre => pre <+: st.X.of κ) w9) ∧ Hid (∀ k, A k → k < w9.heap.size) ∧ Hid (∀ B ∈ (adR b9 b14 st.X κ ⟨d0, d1, d2, d3, d4, d5⟩ is ⟨s0, s1, s2, s3, s4⟩ []), ∀ k, B.S k → ¬ A k) :=
      ⟨_, Lib.hid (SeqOfP HS9.out.ixp κ bo bk k1 k2), Lib.hid hAL, Lib.hid hAR⟩
    have HZ : Hid (SWz w4 w9 A (adR b9 b14 st.X κ ⟨d0, d1, d2, d3, d4, d5⟩ is ⟨s0, s1, s2, s3, s4⟩ []) (fun _ => False) w9) := Lib.hid (SWz.start HT9.out HAR.out)
    clear hAL hAR HAR k1 k2 l1 l2 hg dB0 HS8 HS9 HT8
    go_wp2_with fail
    refine (yieldsE_any _ _ _).mono ?_
    rintro e w10 ⟨rfl, rfl⟩
    go_wp2_with fail
    apply wp_rangeFunc_zx (gf := 65) (lb := #[.pointer (some ⟨bo, 0, none⟩), .pointer (some ⟨bk, 0, none⟩)]) rfl (enters_of Try.func65 (by kernel_rfl) rfl) HSEQ.out ((Gr.refl _).mdh _) HA.out (fun _ => rfl)
      (fun Z pre X' => SWz w4 w9 A (adR b9 b14 st.X κ ⟨d0, d1, d2, d3, d4, d5⟩ is ⟨s0, s1, s2, s3, s4⟩ pre) Z X')
      (fun _ _ _ => False) (fun _ _ _ => False)
      (SWz.apart HT9.out.g.sz (fun pre : List En => (adR b9 b14 st.X κ ⟨d0, d1, d2, d3, d4, d5⟩ is ⟨s0, s1, s2, s3, s4⟩ pre))) apart_no apart_no
      HZ.out (fun Z pre X' h => h.frm HT9.out.g) (fun x => .cells #[.int .i64 x.seq, .string x.key, .bool x.del, .int .i64 x.slot, .int .i64 x.off, .int .i64 x.size] 43)
      _ ?assign ?body ?hend ?hret
    case hret => intro _ _ _ _ _ _ _ h; exact h.elim
    case assign =>
      intro l x bx X' K hbx hK
      dsimp only [encE, enV]
      gi_wp2
      rw [← hbx]
      exact hK
    case body =>
      intro l Z pre x bx X' hI hbx hx hzx hzl hlr hsp
      have HIZ := Lib.hid hI
      have HX' := Lib.hid hx
      have hxm : x ∈ st.X.of κ := hsp.subset (by simp)
      have hal := ((HOK.out.g.of κ x).1 hxm).1
      have hsx := HOK.out.g.slots hal
      obtain ⟨σ, hσ⟩ : ∃ σ : Nat, x.slot = (σ : Int) := ⟨x.slot.toNat, by omega⟩
      have hσ6 : σ < 6 := by omega
      have hpl : (pre.length : Int) < 50 := by
        have h1 := hsp.length_le
        have h2 : (st.X.of κ).length ≤ st.X.ents.length := by
          have := (of_perm HST.out.wf κ).length_eq
          have h3 := List.length_filter_le (keyP κ) st.X.ents
          omega
        have h3 := HOK.out.g.len
        have h4 := HOK.out.n
        rw [List.length_append] at h1
        simp only [List.length_singleton] at h1
        omega
      have hbn := sumE_bound (pre.filter (fun o => decide (o.seq = ((st.X.of κ).headD zE).seq))) (fun e he => by
        have h1 := (valid_iff e).1 (HST.out.wf.valid ((HST.out.wf.of_mem κ e).1 (hsp.subset (List.mem_append_left _ (List.mem_filter.1 he).1))).1).1
        omega)
      have hfl := List.length_filter_le (fun o : En => decide (o.seq = ((st.X.of κ).headD zE).seq)) pre
      have hdk : 0 ≤ deadK st.X κ pre ∧ deadK st.X κ pre ≤ 500000 := ⟨hbn.1, by have := hbn.2; unfold deadK; omega⟩
      have hvx := (valid_iff x).1 (HST.out.wf.valid ((HST.out.wf.of_mem κ x).1 hxm).1).1
      have hsz : 0 ≤ x.size ∧ x.size ≤ 8192 := by omega
      have hist : is = true := by
        rw [HHD.out.2]
        cases hl : st.X.of κ with
        | nil => rw [hl] at hxm; cases hxm
        | cons y t => rfl
      have HDK := Lib.hid (deadK_snoc st.X κ pre x)
      rw [← HHD.out.1] at HDK
      simp only at HDK
      have HHS := Lib.hid (has_set pre x σ hσ6 hσ)
      have hn1 : ¬ bx = b14 + 1 + 1 := fun h => by have h1 := blkLt (show w9.heap[b14 + 1 + 1]? = _ from HT9.out.get (i := 0) rfl); omega
      have hn2 : ¬ bx = b9 + 1 + 1 := fun h => by have h1 := blkLt (show w9.heap[b9 + 1 + 1]? = _ from HT9.out.get (i := 3) rfl); omega
      have hn3 : ¬ b14 = b9 + 1 + 1 := by have := HBB.out; omega
      have hn4 : ¬ b14 + 1 = b9 + 1 + 1 := by have := HBB.out; omega
      have hn5 : ¬ b14 + 1 + 1 = b9 + 1 + 1 := by have := HBB.out; omega
      have hn6 : ¬ b9 + 1 = b14 + 1 + 1 := by have := HBB.out; omega
      have hn7 : ¬ b9 + 1 + 1 = b14 + 1 + 1 := by have := HBB.out; omega
      have hn8 : ¬ b14 = b14 + 1 + 1 := by omega
      have hn9 : ¬ b14 + 1 = b14 + 1 + 1 := by omega
      have HP16 := Lib.hid (show X'.heap[b14 + 1 + 1]? = _ from HIZ.out.s.get (i := 0) rfl)
      have HP12 := Lib.hid (show X'.heap[b9 + 1 + 1]? = _ from HIZ.out.s.get (i := 3) rfl)
      have HP11 := Lib.hid (show X'.heap[b9 + 1]? = _ from HIZ.out.s.get (i := 4) rfl)
      obtain ⟨q1, q2⟩ := hdk
      obtain ⟨q3, q4⟩ := hsz
      obtain ⟨x1, x2, x3, x4, x5, x6⟩ := x
      simp only at hσ q3 q4
      subst hσ
      have hlt60 : ¬ (60 : Int) < (pre.length : Int) + 1 := by omega
      have dx := (cellsOf HX'.out).1
      have lx := blkLt HX'.out
      simp only at dx
      obtain ⟨e16, f16⟩ := cellsOf HP16.out
      have l16 := blkLt HP16.out
      obtain ⟨e12, f12⟩ := cellsOf HP12.out
      have l12 := blkLt HP12.out
      obtain ⟨e11, f11⟩ := cellsOf HP11.out
      have l11 := blkLt HP11.out
      have e15 := (cellsOf (show X'.heap[b14 + 1]? = _ from HIZ.out.s.get (i := 1) rfl)).1
      have e14 := (cellsOf (show X'.heap[b14]? = _ from HIZ.out.s.get (i := 2) rfl)).1
      simp only [boxF] at e14
      obtain ⟨dk, hdk2⟩ : ∃ y, y = deadK st.X κ pre := ⟨_, rfl⟩
      have HIY : Hid (SWz w4 w9 A [blkA (b14 + 1 + 1) (.cells #[.int .i64 pre.length] 3), blkA (b14 + 1) (.cells #[.bool is] 4), blkA b14 (boxF ⟨d0, d1, d2, d3, d4, d5⟩), blkA (b9 + 1 + 1) (hasO pre), blkA (b9 + 1) (.cells #[.int .i64 dk] 3), blkA b9 (boxB ⟨s0, s1, s2, s3, s4⟩)] Z X') := Lib.hid (by rw [hdk2]; exact HIZ.out)
      rw [← hdk2] at HDK q1 q2 e11
      clear hdk2 HIZ HP11
      subst hist
      clear hI hbx hx hzx hzl hlr hsp hal hsx hbn hfl hvx hxm
      gi_wp2_with fail
      · rename_i heq
        have hq : x1 = d0 := beq_iff_eq.1 heq
        have z1 := HIY.out.box (i := 0) rfl HA.out ((Mdh.refl (fun k => k = b14 + 1 + 1) X').setCell (p := ⟨b14 + 1 + 1, 0, none⟩) rfl (.int .i64 ((pre.length : Int) + 1))) (blkSet (j := 0) (u := .int .i64 ((pre.length : Int) + 1)) HP16.out)
        have hb2 : ((X'.setCell ⟨b14 + 1 + 1, 0, none⟩ (.int .i64 ((pre.length : Int) + 1))).setCell ⟨b9 + 1 + 1, σ, none⟩ (.bool true)).heap[b9 + 1 + 1]? = some (hasO (pre ++ [⟨x1, x2, x3, σ, x5, x6⟩])) := by
          have h := blkSet (j := σ) (u := .bool true) (z1.1.s.get (i := 3) rfl : _ = some (hasO pre))
          rw [HHS.out] at h
          exact h
        have z2 := z1.1.box (i := 3) rfl HA.out ((Mdh.refl (fun k => k = b9 + 1 + 1) _).setCell (p := ⟨b9 + 1 + 1, σ, none⟩) rfl (.bool true)) hb2
        have z3 := z2.1.box (i := 4) rfl HA.out ((Mdh.refl (fun k => k = b9 + 1) _).setCell (p := ⟨b9 + 1, 0, none⟩) rfl (.int .i64 (dk + x6))) (blkSet (j := 0) (u := .int .i64 (dk + x6)) (z2.1.s.get (i := 4) rfl))
        refine ⟨(z1.2.trans z2.2).trans z3.2, ?_⟩
        dsimp only
        unfold adR
        rw [HDK.out, if_pos hq, List.length_append]
        exact z3.1
      · rename_i heq
        have hq : ¬ x1 = d0 := beq_eq_false_iff_ne.1 heq
        have z1 := HIY.out.box (i := 0) rfl HA.out ((Mdh.refl (fun k => k = b14 + 1 + 1) X').setCell (p := ⟨b14 + 1 + 1, 0, none⟩) rfl (.int .i64 ((pre.length : Int) + 1))) (blkSet (j := 0) (u := .int .i64 ((pre.length : Int) + 1)) HP16.out)
        have hb2 : ((X'.setCell ⟨b14 + 1 + 1, 0, none⟩ (.int .i64 ((pre.length : Int) + 1))).setCell ⟨b9 + 1 + 1, σ, none⟩ (.bool true)).heap[b9 + 1 + 1]? = some (hasO (pre ++ [⟨x1, x2, x3, σ, x5, x6⟩])) := by
          have h := blkSet (j := σ) (u := .bool true) (z1.1.s.get (i := 3) rfl : _ = some (hasO pre))
          rw [HHS.out] at h
          exact h
        have z2 := z1.1.box (i := 3) rfl HA.out ((Mdh.refl (fun k => k = b9 + 1 + 1) _).setCell (p := ⟨b9 + 1 + 1, σ, none⟩) rfl (.bool true)) hb2
        refine ⟨z1.2.trans z2.2, ?_⟩
        dsimp only
        unfold adR
        rw [HDK.out, if_neg hq, List.length_append, Int.add_zero]
        exact z2.1
    case hend =>
      intro Z D xs W hD hZD hcase hdef
      obtain ⟨hxs, hI⟩ := hcase.elim (fun h => h) (fun h => h.2.elim)
      have hxs' : xs = st.X.of κ := hxs
      subst hxs'
      have HW : Hid (SW w [ixA b st.X S, blkA bb (blO b st.us st.nx), blkA (b9 + 1 + 1) (hasO (st.X.of κ)), blkA (b9 + 1) (.cells #[.int .i64 (deadK st.X κ (st.X.of κ))] 3), blkA b9 (boxB ⟨s0, s1, s2, s3, s4⟩), rowA 37 5 (.slice a7 6 c7) 6 (rowBy (allL st.X 6)), blkA (b3 + 1) (.cells #[.bool false] 4), blkA D (.deferred (some [])), blkA b3 (boxP ⟨tk, ts, tz, td, false⟩)] W) := Lib.hid (by
        have h1 := HS4.out.both hI.s
        have h2 := h1.addD hdef (fun B hB k hk hkD => by
          subst hkD
          rcases List.mem_append.1 hB with hB | hB
          · exact hI.z B hB k hk hZD
          · have h3 := HS4.out.s.lt hB k hk
            have h4 := HT9.out.g.sz
            omega) (by have h3 := HS4.out.g.sz; have h4 := HT9.out.g.sz; omega)
        exact h2.sel [7, 9, 4, 5, 6, 8, 10, 0, 11] (by decide) rfl)
      have HTN : Hid (Pt.Ok ⟨tk, ts, tz, td, false⟩) := Lib.hid ⟨HT.out.key, HT.out.slot, HT.out.size⟩
      clear hcase hI hxs hD hZD hdef HSEQ HA HZ HT9 HS4
      have dP := (cellsOf (show W.heap[b3]? = _ from HW.out.get (i := 8) rfl)).1
      have lP := blkLt (show W.heap[b3]? = _ from HW.out.get (i := 8) rfl)
      simp only [boxP] at dP
      dsimp only
      go_wp2_with fail
      refine (add23 HW.out HOK.out (by omega) HTN.out).mono ?_
      rintro e w10 ⟨rfl, S2, hs⟩
      rw [HAD.out.2.1]
      obtain ⟨e, he⟩ : ∃ e, e = newP st ⟨tk, ts, tz, td, false⟩ := ⟨_, rfl⟩
      have HQ : Hid (Ad23 st.X (stepP st ⟨tk, ts, tz, td, false⟩).X e) := Lib.hid (by rw [he]; exact HAD.out.2.2)
      have HST2 : Hid (St23 (stepP st ⟨tk, ts, tz, td, false⟩)) := Lib.hid (PS.st (stepP_ok HOK.out (by omega) HTN.out) (by omega))
      have HEK : Hid (e.key = κ ∧ (0 ≤ e.slot ∧ e.slot < 6) ∧ 0 ≤ e.size ∧ e.size ≤ 8192) := Lib.hid (by
        have h1 := add_ok (newP_ok HOK.out (by omega) HTN.out).1
        have h2 := (valid_iff _).1 h1.valid
        have h3 : 0 ≤ ts % 6 ∧ ts % 6 < 6 := by omega
        rw [he]
        exact ⟨HKP.out.symm, h3, by omega, by omega⟩)
      rw [← he]
      have HX0 := Lib.hid hs
      generalize stepP st ⟨tk, ts, tz, td, false⟩ = st2 at *
      clear he hs HAD HW dP lP HTN
      obtain ⟨e0, e1, e2, e3, e4, e5⟩ := e
      simp only [enV]
      go_upto_region 21 with fail
      obtain ⟨b18, hb18⟩ : ∃ q, q = w10.heap.size := ⟨_, rfl⟩
      obtain ⟨w11, hw11⟩ : ∃ y, y = w10.alloc (boxF ⟨e0, e1, e2, e3, e4, e5⟩) := ⟨_, rfl⟩
      have HS11 : Hid (SW w [ixA b st2.X S2, blkA b18 (boxF ⟨e0, e1, e2, e3, e4, e5⟩), blkA bb (blO b st2.us st2.nx), blkA (b9 + 1 + 1) (hasO (st.X.of κ)), blkA (b9 + 1) (.cells #[.int .i64 (deadK st.X κ (st.X.of κ))] 3), blkA b9 (boxB ⟨s0, s1, s2, s3, s4⟩), rowA 37 5 (.slice a7 6 c7) 6 (rowBy (allL st.X 6)), blkA (b3 + 1) (.cells #[.bool false] 4), blkA D (.deferred (some [])), blkA b3 (boxP ⟨tk, ts, tz, td, false⟩)] w11) := Lib.hid (by rw [hw11, hb18]; exact HX0.out.allocT _)
      simp only [boxF] at hw11
      rw [← hb18, ← hw11]
      clear hw11 hb18 HX0
      have dB0 : w11.cell? ⟨bb, 0, none⟩ = some (.pointer (some ⟨b, 0, none⟩)) := (cellsOf (show w11.heap[bb]? = _ from HS11.out.get (i := 2) rfl)).1 0
      go_wp2_with fail
      refine (All_any HS11.out.ixp).mono ?_
      rintro e w12 ⟨v19, rfl, hr, hg⟩
      rw [show st2.X.slots.length = 6 from HST2.out.n] at hr
      rw [show st2.X.slots.length = 6 from HST2.out.n]
      have HS12 : Hid (SW w [ixA b st2.X S2, rowA 37 5 v19 6 (rowBy (allL st2.X 6)), blkA b18 (boxF ⟨e0, e1, e2, e3, e4, e5⟩), blkA bb (blO b st2.us st2.nx), blkA (b9 + 1 + 1) (hasO (st.X.of κ)), blkA (b9 + 1) (.cells #[.int .i64 (deadK st.X κ (st.X.of κ))] 3), blkA b9 (boxB ⟨s0, s1, s2, s3, s4⟩), rowA 37 5 (.slice a7 6 c7) 6 (rowBy (allL st.X 6)), blkA (b3 + 1) (.cells #[.bool false] 4), blkA D (.deferred (some [])), blkA b3 (boxP ⟨tk, ts, tz, td, false⟩)] w12) := Lib.hid (HS11.out.row hr hg)
      obtain ⟨a19, c19, rfl, _, _, _⟩ := allL_cells (show Own w12 37 5 v19 6 (rowBy (allL st2.X 6)) from HS12.out.get (i := 1) rfl)
      clear hr hg dB0 HS11
      have dB0 : w12.cell? ⟨bb, 0, none⟩ = some (.pointer (some ⟨b, 0, none⟩)) := (cellsOf (show w12.heap[bb]? = _ from HS12.out.get (i := 3) rfl)).1 0
      go_wp2_with fail
      refine (Sum_any HS12.out.ixp).mono ?_
      rintro e w13 ⟨rfl, hg⟩
      rw [show sumBy st2.X = (addL (allL st2.X 6), 0) from HST2.out.sumBy]
      have HS13 := Lib.hid (HS12.out.gr hg)
      obtain ⟨sm, hsm⟩ : ∃ sm, sm = addL (allL st2.X 6) := ⟨_, rfl⟩
      have HSN := Lib.hid (HST2.out.sum 6)
      have HSU : Hid (sm.dead = s3 + deadK st.X κ (st.X.of κ) ∧ sm.total = s0 + e5 ∧ sm.last = e0) := Lib.hid (by
        have h1 := HQ.out.dead
        have h2 := HQ.out.total
        have h3 := HQ.out.last
        rw [← hsm, ← HSME.out] at h1 h2
        rw [← hsm] at h3
        rw [show (⟨e0, e1, e2, e3, e4, e5⟩ : En).key = κ from HEK.out.1] at h1
        exact ⟨h1, h2, h3⟩)
      rw [← hsm] at HSN
      rw [← hsm]
      clear hsm hg dB0 HS12
      obtain ⟨m0, m1, m2, m3, m4⟩ := sm
      simp only [byV]
      go_upto_region 23 with fail
      obtain ⟨b21, hb21⟩ : ∃ q, q = w13.heap.size := ⟨_, rfl⟩
      obtain ⟨w14, hw14⟩ : ∃ y, y = w13.alloc (boxB ⟨m0, m1, m2, m3, m4⟩) := ⟨_, rfl⟩
      have HS14 : Hid (SW w [ixA b st2.X S2, blkA b21 (boxB ⟨m0, m1, m2, m3, m4⟩), rowA 37 5 (.slice a19 6 c19) 6 (rowBy (allL st2.X 6)), blkA b18 (boxF ⟨e0, e1, e2, e3, e4, e5⟩), blkA bb (blO b st2.us st2.nx), blkA (b9 + 1 + 1) (hasO (st.X.of κ)), blkA (b9 + 1) (.cells #[.int .i64 (deadK st.X κ (st.X.of κ))] 3), blkA b9 (boxB ⟨s0, s1, s2, s3, s4⟩), rowA 37 5 (.slice a7 6 c7) 6 (rowBy (allL st.X 6)), blkA (b3 + 1) (.cells #[.bool false] 4), blkA D (.deferred (some [])), blkA b3 (boxP ⟨tk, ts, tz, td, false⟩)] w14) := Lib.hid (by rw [hw14, hb21]; exact HS13.out.allocT _)
      simp only [boxB] at hw14
      rw [← hb21, ← hw14]
      clear hw14 hb21 HS13
      go_wp2_with fail
      obtain ⟨⟨z0, z1⟩, z2, z3⟩ := HEK.out.2
      (try simp only at z0 z1 z2 z3)
      go_loopw [157] (fun t157 wx => ∃ j : Nat, j ≤ 6 ∧ t157 = .int .i64 j ∧ Hid (SW w [ixA b st2.X S2, blkA b21 (boxB ⟨m0, m1, m2, m3, m4⟩), rowA 37 5 (.slice a19 6 c19) 6 (rowBy (allL st2.X 6)), blkA b18 (boxF ⟨e0, e1, e2, e3, e4, e5⟩), blkA bb (blO b st2.us st2.nx), blkA (b9 + 1 + 1) (hasO (st.X.of κ)), blkA (b9 + 1) (.cells #[.int .i64 (deadK st.X κ (st.X.of κ))] 3), blkA b9 (boxB ⟨s0, s1, s2, s3, s4⟩), rowA 37 5 (.slice a7 6 c7) 6 (rowBy (allL st.X 6)), blkA (b3 + 1) (.cells #[.bool false] 4), blkA D (.deferred (some [])), blkA b3 (boxP ⟨tk, ts, tz, td, false⟩)] wx)) (fun t157 _ => 6 - (intOf t157).toNat)
      case atStart => exact ⟨0, by omega, rfl, HS14⟩
      case round =>
        obtain ⟨j, hj, rfl, HR⟩ := hrel
        clear HS14
        by_cases hlt : j < 6
        · have hlt' : (j : Int) < 6 := by omega
          obtain ⟨_, _, hv, _, _, hat⟩ := allL_cells (show Own wr 37 5 (.slice a19 6 c19) 6 (rowBy (allL st2.X 6)) from HR.out.get (i := 2) rfl)
          injection hv with g1 g2 g3
          subst g1
          obtain ⟨g19, rfl, hc⟩ := hat j hlt
          obtain ⟨_, _, hv, _, _, hat2⟩ := allL_cells (show Own wr 37 5 (.slice a7 6 c7) 6 (rowBy (allL st.X 6)) from HR.out.get (i := 8) rfl)
          injection hv with g1 g2' g3'
          subst g1
          obtain ⟨g7, rfl, hc2⟩ := hat2 j hlt
          have htot := HQ.out.tot (j : Int)
          have hsame := HQ.out.same (j : Int)
          simp only at htot hsame
          rw [show e1 = κ from HEK.out.1] at hsame
          have hby := HST.out.by' (j : Int)
          have hbl : 0 ≤ (byOf st.X (j : Int)).total := by have h1 := hby.l; have h2 := hby.t; have h3 := hby.d; have h4 := hby.s; omega
          have hbm := hby.m
          have d12 := ((cellsOf (show wr.heap[b9 + 1 + 1]? = _ from HR.out.get (i := 5) rfl)).1 j).trans (has_get (st.X.of κ) j hlt)
          have l12 := blkLt (show wr.heap[b9 + 1 + 1]? = _ from HR.out.get (i := 5) rfl)
          have d18 := (cellsOf (show wr.heap[b18]? = _ from HR.out.get (i := 3) rfl)).1
          have l18 := blkLt (show wr.heap[b18]? = _ from HR.out.get (i := 3) rfl)
          simp only [boxF] at d18
          have d183 : wr.cell? ⟨b18, 3, none⟩ = some (.int .i64 e3) := d18 3
          have d185 : wr.cell? ⟨b18, 5, none⟩ = some (.int .i64 e5) := d18 5
          clear hat hat2 g2 g3 g2' g3' d18 hby
          by_cases hje : (j : Int) = e3
          · have hb : ((j : Int) == e3) = true := beq_iff_eq.2 hje
            have hb2 : ((j : Int) != e3) = false := by simp [bne, hb]
            have x0 := hc 0 _ rfl
            have y0 := hc2 0 _ rfl
            simp only [Nat.add_zero] at x0 y0
            rw [htot, if_pos hje] at x0
            clear hc hc2 hsame htot hje
            generalize (byOf st.X (j : Int)).total = Y at *
            go_wp2_with fail
            refine wp_region_flo (fun _ => False) [] [] (by kernel_rfl) (by kernel_rfl) (fun _ h => h.elim) ?_
            refine flo_seg 36 rfl ?_
            simp only [List.take_succ_cons, List.take_zero, List.drop_succ_cons, List.drop_zero]
            repeat (go_big_quiet_step (fail))
            refine wpQuiet_nil ?_
            refine flo_nil ?_
            go_wp2_with fail
            exact ⟨⟨j + 1, by omega, by simp, Lib.hid (HR.out.gr (Gr.refl _).drew)⟩, by simp [intOf]; omega⟩
          · have hb : ((j : Int) == e3) = false := beq_false_of_ne hje
            have hb2 : ((j : Int) != e3) = true := by simp [bne, hb]
            rw [if_neg hje, Int.add_zero] at htot
            cases hh : hasS (st.X.of κ) (j : Int) with
            | true =>
              rw [hh] at d12
              have x0 := hc 0 _ rfl
              have y0 := hc2 0 _ rfl
              simp only [Nat.add_zero] at x0 y0
              rw [htot] at x0
              clear hc hc2 hsame htot
              generalize (byOf st.X (j : Int)).total = Y at *
              go_wp2_with fail
              refine wp_region_flo (fun _ => False) [] [] (by kernel_rfl) (by kernel_rfl) (fun _ h => h.elim) ?_
              refine flo_seg 36 rfl ?_
              simp only [List.take_succ_cons, List.take_zero, List.drop_succ_cons, List.drop_zero]
              repeat (go_big_quiet_step (fail))
              refine wpQuiet_nil ?_
              refine flo_nil ?_
              go_wp2_with fail
              exact ⟨⟨j + 1, by omega, by simp, Lib.hid (HR.out.gr (Gr.refl _).drew)⟩, by simp [intOf]; omega⟩
            | false =>
              rw [hh] at d12
              rw [hsame hje hh] at hc
              have kn := neqB_same (byOf st.X (j : Int))
              generalize byOf st.X (j : Int) = y at *
              have x0 := hc 0 _ rfl
              have x1 := hc 1 _ rfl
              have x2 := hc 2 _ rfl
              have x3 := hc 3 _ rfl
              have x4 := hc 4 _ rfl
              have y0 := hc2 0 _ rfl
              have y1 := hc2 1 _ rfl
              have y2 := hc2 2 _ rfl
              have y3 := hc2 3 _ rfl
              have y4 := hc2 4 _ rfl
              simp only [Nat.add_zero] at x0 x1 x2 x3 x4 y0 y1 y2 y3 y4
              clear hc hc2 hsame htot
              go_wp2_with fail
              refine wp_region_flo (fun _ => False) [] [] (by kernel_rfl) (by kernel_rfl) (fun _ h => h.elim) ?_
              refine flo_seg 36 rfl ?_
              simp only [List.take_succ_cons, List.take_zero, List.drop_succ_cons, List.drop_zero]
              repeat (go_big_quiet_step (fail))
              refine wpQuiet_nil ?_
              refine flo_nil ?_
              go_wp2_with fail
              exact ⟨⟨j + 1, by omega, by simp, Lib.hid (HR.out.gr (Gr.refl _).drew)⟩, by simp [intOf]; omega⟩
        · have hlt' : ¬ (j : Int) < 6 := by omega
          have d21 := (cellsOf (show wr.heap[b21]? = _ from HR.out.get (i := 1) rfl)).1
          have l21 := blkLt (show wr.heap[b21]? = _ from HR.out.get (i := 1) rfl)
          have d9 := (cellsOf (show wr.heap[b9]? = _ from HR.out.get (i := 7) rfl)).1
          have l9 := blkLt (show wr.heap[b9]? = _ from HR.out.get (i := 7) rfl)
          have d11 := (cellsOf (show wr.heap[b9 + 1]? = _ from HR.out.get (i := 6) rfl)).1
          have l11 := blkLt (show wr.heap[b9 + 1]? = _ from HR.out.get (i := 6) rfl)
          have d18 := (cellsOf (show wr.heap[b18]? = _ from HR.out.get (i := 3) rfl)).1
          have l18 := blkLt (show wr.heap[b18]? = _ from HR.out.get (i := 3) rfl)
          have HBR := Lib.hid (show wr.heap[b3 + 1]? = _ from HR.out.get (i := 9) rfl)
          obtain ⟨d4, f4⟩ := cellsOf HBR.out
          have l4 := blkLt HBR.out
          generalize deadK st.X κ (st.X.of κ) = dv at *
          obtain ⟨u1, u2, u3⟩ := HSU.out
          (try simp only at u1 u2 u3)
          have v1 := HSM.out.d
          have v2 := HSN.out.d
          have v3 := HSN.out.m
          have v4 := HSN.out.l
          have v5 := HSN.out.t
          have v6 := HSN.out.s
          (try simp only at v1 v2 v3 v4 v5 v6)
          have p1 : 0 ≤ s3 + dv := by omega
          have p2 : s3 + dv ≤ 50000 := by omega
          have p3 : 0 ≤ s0 + e5 := by omega
          have p4 : s0 + e5 ≤ 50000 := by omega
          subst u1 u2 u3
          clear v1 v2 v3 v4 v5 v6
          (try simp only [boxB] at d21)
          (try simp only [boxB] at d9)
          (try simp only [boxF] at d18)
          have HG := Gr.refl wr.drew
          go_wp2_with (first
            | (go_at_call 21; refine (lg_works _).mono ?_; rintro e' w15 ⟨rfl, hg⟩; have HG15 := Lib.hid hg; obtain ⟨d22, f22⟩ := cellsOf (hg.blk HBR.out); have l22 := blkLt (hg.blk HBR.out); clear hg d4 f4 l4)
            | fail)
          have nD : D ≠ b3 + 1 := fun e => (HR.out.get_ne (i := 10) (j := 9) rfl rfl (by decide)) D rfl e
          obtain ⟨W2, hW2⟩ : ∃ y, y = w15.setCell ⟨b3 + 1, 0, none⟩ (.bool true) := ⟨_, rfl⟩
          have hn : w.heap.size ≤ b3 + 1 := HR.out.n _ (List.mem_of_getElem? (i := 9) rfl) (b3 + 1) rfl
          have hnD : w.heap.size ≤ D := HR.out.n _ (List.mem_of_getElem? (i := 10) rfl) D rfl
          have hWd : W2.heap[D]? = some (.deferred (some [])) := by rw [hW2]; exact blkSetO (HG15.out.blk (HR.out.get (i := 10) rfl)) nD
          have hWg : Gr w W2 := by rw [hW2]; exact (HR.out.g.trans HG15.out).setCell (p := ⟨b3 + 1, 0, none⟩) hn _
          have hWb : W2.heap[b3 + 1]? = some (.cells #[.bool true] 4) := by rw [hW2]; exact blkSet (j := 0) (u := .bool true) (HG15.out.blk HBR.out)
          rw [← hW2]
          have hb' : (W2.putObj D (.deferred none)).heap[b3 + 1]? = _ := (World.putObj_heap_other nD.symm).trans hWb
          obtain ⟨d44, _⟩ := cellsOf hb'
          refine retM1 (D := D) (v := .bool true) rfl hWd ?_ ⟨rfl, hWg.putObj hnD _⟩
          simp [results, Try.results3, go_sem, d44]
end Go.Proofs.Ythefpmmeoajaiaa

/- For rows: slices of structs, and bytes. -/
set_option linter.unusedVariables false
set_option linter.unusedSimpArgs false
namespace Go.Proofs.Ythefpmmeoajaiaa
open Go.ChangeShapes Go.WideShapes Go.Deep
section
variable {H : Type} {enc : TypeId × Value → H} {P : Program} {w : World} {base : Nat} {spare : Nat → Bool} {held : Bool}
theorem open_slice_fields {t e : TypeId} {fs : Array Field} {fuel : Nat} {cs : List Value} {x : DataW H × List MemPlace} (ht : P.underlying t = some (.slice e)) (he : P.underlying e = some (.struct fs))
    (hone : oneCellFields P fs = true) (hC : P.cellsOf e = fs.size) (h : DataW.trod enc P w base spare held fuel t cs = some x) :
    (cs = [.slice none 0 0] ∧ x = (.nil, [])) ∨
    ∃ (a : Addr) (len cap m : Nat) (D : Nat → DataW H) (Pl : Nat → List MemPlace), cs = [.slice (some a) len cap] ∧ base ≤ a.block ∧ len ≤ cap ∧ cap ≤ maxLen ∧ m = (if spare a.block then cap else len) ∧
      x = (.slice ((List.range len).map D) ((List.range (m - len)).map fun j => D (len + j)), MemPlace.row a (m * fs.size) ++ (List.range m).flatMap Pl) ∧
      ∀ i, i < m → ∃ (ys : List (DataW H × List MemPlace)) (n : Nat), D i = .agg (ys.map (·.1)) ∧ Pl i = ys.flatMap (·.2) ∧ ys.length = fs.size ∧
        ∀ (j : Nat) (f : Field), fs[j]? = some f → ∃ (v : Value) (y : DataW H × List MemPlace), w.cell? (a.add (i * fs.size + j)) = some v ∧ ys[j]? = some y ∧ DataW.trod enc P w base spare held n f.type [v] = some y := by
  rcases open_slice ht h with h0 | ⟨a, len, cap, m, n, D, Pl, hcs, hb, hl, hm, hmm, hx, hi⟩
  · exact .inl h0
  · refine .inr ⟨a, len, cap, m, D, Pl, hcs, hb, hl, hm, hmm, by rw [hC] at hx; exact hx, fun i him => ?_⟩
    obtain ⟨cs', hc, ht'⟩ := hi i him
    rw [hC] at hc
    obtain ⟨ys, n', hn', hy, hlen, hyl, hf⟩ := DataW.trod_struct he ht'
    obtain ⟨_, hcl, hat⟩ := World.cells?_some hc
    simp only [Prod.mk.injEq] at hy
    refine ⟨ys, n', hy.1, hy.2, hyl, fun j f hj => ?_⟩
    obtain ⟨ho, hk⟩ := hone_of hone j f hj
    have hjl : j < fs.size := (Array.getElem?_eq_some_iff.1 hj).1
    have hcell := hat j hjl
    have hv : cs'[j]? = some (cs'[j]'(by omega)) := List.getElem?_eq_getElem (by omega)
    have h1 := hf j f hj
    rw [ho, hk] at h1
    have hone' : (cs'.drop j).take 1 = [cs'[j]'(by omega)] := by
      rw [List.drop_eq_getElem_cons (by omega)]
      rfl
    rw [hone'] at h1
    have hys : ys[j]? = some (ys[j]'(by omega)) := List.getElem?_eq_getElem (by omega)
    refine ⟨_, _, ?_, hys, h1.trans hys⟩
    rw [← Go.Deep.add_add, hcell, hv]
end

open Go.RowKit
theorem list_of {α : Type} (len : Nat) (d : α) (R : Nat → α → Prop) (h : ∀ i, i < len → ∃ x, R i x) : ∃ l : List α, l.length = len ∧ ∀ i, i < l.length → R i (l[i]?.getD d) := by
  classical
  refine ⟨(List.range len).map (fun i => if hi : i < len then Classical.choose (h i hi) else d), by simp, fun i hi => ?_⟩
  have hi' : i < len := by simpa using hi
  simp only [List.getElem?_map, List.getElem?_range hi', Option.map_some, Option.getD_some, dif_pos hi']
  exact Classical.choose_spec (h i hi')
theorem u8_of {a : Int} (h : (Lit.int .u8 a).wf = true) : ∃ c : UInt8, a = (c.toNat : Int) := by
  have h' : (decide (IntKind.u8.min ≤ a) && decide (a ≤ IntKind.u8.max)) = true := h
  have : 0 ≤ a ∧ a ≤ 255 := by simpa [IntKind.min, IntKind.max, IntKind.signed, IntKind.bits] using h'
  refine ⟨UInt8.ofNat a.toNat, ?_⟩
  rw [UInt8.toNat_ofNat_of_lt' (by have : UInt8.size = 256 := rfl; omega)]
  omega
theorem at_add {w : World} {a : Addr} {k : Nat} {v : Value} (h : w.cell? (a.add k) = some v) (hs : a.spot = none) : a.block < w.heap.size ∧ w.cell? ⟨a.block, a.off + k, none⟩ = some v := by
  have e : a.add k = ⟨a.block, a.off + k, none⟩ := by
    unfold Addr.add
    obtain ⟨b, o, s⟩ := a
    split
    · simp_all
    · rfl
  rw [e] at h
  refine ⟨?_, h⟩
  unfold World.cell? at h
  refine Classical.byContradiction fun hc => ?_
  rw [Array.getElem?_eq_none (by simpa using hc)] at h
  cases h
theorem spot_add {w : World} {a : Addr} {v : Value} (h : w.cell? (a.add 0) = some v) : a.spot = none := by
  simpa [Addr.add] using World.cell?_spot h
end Go.Proofs.Ythefpmmeoajaiaa

/- Rows of chapter 23: puts. -/
set_option linter.unusedVariables false
set_option linter.unusedSimpArgs false
namespace Go.Proofs.Ythefpmmeoajaiaa
open Go.ChangeShapes Go.WideShapes Go.Deep Go.RowKit
theorem u8p {a : Int} (h : (Lit.int .u8 a).wf = true) : 0 ≤ a ∧ a ≤ 255 := by
  simp only [Lit.wf, Bool.and_eq_true, decide_eq_true_eq] at h
  exact h
theorem open_puts {H : Type} {enc : TypeId × Value → H} {w : World} {base : Nat} {spare : Nat → Bool} {held : Bool} {fuel : Nat} {a : Option Addr} {len cap : Nat} {x : DataW H × List MemPlace}
    (h : DataW.trod enc Try.prog w base spare held fuel 22 (Value.slice a len cap).cells.toList = some x) : len ≤ cap ∧ cap ≤ maxLen ∧ ∃ l : List Pt, l.length = len ∧ PutAt w a l := by
  rcases open_slice_fields Try.underlying22 Try.underlying24 (by kernel_rfl) (show Try.prog.cellsOf 24 = 5 by kernel_rfl) h with ⟨hcs, _⟩ | ⟨a', l, c, m, D, Pl, hcs, _, hl, hm, hmm, _, hi⟩
  · simp [Value.cells] at hcs
    obtain ⟨rfl, rfl, rfl⟩ := hcs
    exact ⟨by omega, by simp [maxLen], [], rfl, fun i x hx => by simp at hx⟩
  · simp [Value.cells] at hcs
    obtain ⟨rfl, rfl, rfl⟩ := hcs
    refine ⟨hl, hm, ?_⟩
    by_cases h0 : 0 < len
    · have hml : len ≤ m := by rw [hmm]; split <;> omega
      have hsp : a'.spot = none := by
        obtain ⟨ys, n, _, _, _, hf⟩ := hi 0 (by omega)
        obtain ⟨v, y, hc, _, _⟩ := hf 0 _ rfl
        exact spot_add (by simpa using hc)
      obtain ⟨l, hl1, hl2⟩ := list_of len (⟨0, 0, 0, false, false⟩ : Pt) (fun i t => w.cell? ⟨a'.block, a'.off + i * 5, none⟩ = some (.int .u8 t.key) ∧ w.cell? ⟨a'.block, a'.off + i * 5 + 1, none⟩ = some (.int .u8 t.slot) ∧ w.cell? ⟨a'.block, a'.off + i * 5 + 2, none⟩ = some (.int .u8 t.size) ∧ w.cell? ⟨a'.block, a'.off + i * 5 + 3, none⟩ = some (.bool t.del) ∧ w.cell? ⟨a'.block, a'.off + i * 5 + 4, none⟩ = some (.bool t.cp) ∧ a'.block < w.heap.size ∧ t.Ok) (fun i hil => by
        obtain ⟨ys, n, _, _, _, hf⟩ := hi i (by omega)
        obtain ⟨v0, y0, c0, _, t0⟩ := hf 0 _ rfl
        obtain ⟨v1, y1, c1, _, t1⟩ := hf 1 _ rfl
        obtain ⟨v2, y2, c2, _, t2⟩ := hf 2 _ rfl
        obtain ⟨v3, y3, c3, _, t3⟩ := hf 3 _ rfl
        obtain ⟨v4, y4, c4, _, t4⟩ := hf 4 _ rfl
        obtain ⟨x0, e0, _, w0⟩ := DataW.trod_int Try.underlying5 t0
        obtain ⟨x1, e1, _, w1⟩ := DataW.trod_int Try.underlying5 t1
        obtain ⟨x2, e2, _, w2⟩ := DataW.trod_int Try.underlying5 t2
        obtain ⟨x3, e3, _⟩ := DataW.trod_bool Try.underlying4 t3
        obtain ⟨x4, e4, _⟩ := DataW.trod_bool Try.underlying4 t4
        obtain rfl := List.cons.inj e0 |>.1
        obtain rfl := List.cons.inj e1 |>.1
        obtain rfl := List.cons.inj e2 |>.1
        obtain rfl := List.cons.inj e3 |>.1
        obtain rfl := List.cons.inj e4 |>.1
        obtain ⟨hb, d0⟩ := at_add c0 hsp
        exact ⟨⟨x0, x1, x2, x3, x4⟩, d0, (at_add c1 hsp).2, (at_add c2 hsp).2, (at_add c3 hsp).2, (at_add c4 hsp).2, hb, u8p w0, u8p w1, u8p w2⟩)
      refine ⟨l, hl1, fun i x hx => ?_⟩
      obtain ⟨hlt, rfl⟩ := List.getElem?_eq_some_iff.1 hx
      obtain ⟨c0, c1, c2, c3, c4, hb, h4⟩ := hl2 i (by omega)
      rw [hx] at c0 c1 c2 c3 c4 h4
      exact ⟨_, _, by obtain ⟨b, o, s⟩ := a'; simp_all, hb, c0, c1, c2, c3, c4, h4⟩
    · obtain rfl : len = 0 := by omega
      exact ⟨[], rfl, fun i x hx => by simp at hx⟩
end Go.Proofs.Ythefpmmeoajaiaa

/- A struct of five one-cell fields by value: the howto's block (extra-structs, 2), copied as it directs. -/
set_option linter.unusedVariables false
set_option linter.unusedSimpArgs false
namespace Go.Proofs.Ythefpmmeoajaiaa
open Go.Joins Go.ChangeShapes Go.WideShapes Go.RowKit Go.Deep
section
variable {H : Type} {enc : TypeId × Value → H} {P : Program} {w : World} {base : Nat} {spare : Nat → Bool} {held : Bool}
theorem open_agg5 {r : Reach} {b0 : Nat} {t : TypeId} {f0 f1 f2 f3 f4 : Field} {v : Value} {d : DataW H} {p : List MemPlace} (hs : P.underlying t = some (.struct #[f0, f1, f2, f3, f4])) (hone : oneCellFields P #[f0, f1, f2, f3, f4] = true) (hC : P.cellsOf t = 5)
    (hv : Value.okWide P w r b0 t v) (h : DataW.Trod enc P w base spare held t v d p) :
    ∃ (v0 v1 v2 v3 v4 : Value) (y0 y1 y2 y3 y4 : DataW H × List MemPlace) (n : Nat), v = .agg #[v0, v1, v2, v3, v4] ∧ d = .agg [y0.1, y1.1, y2.1, y3.1, y4.1] ∧ p = y0.2 ++ (y1.2 ++ (y2.2 ++ (y3.2 ++ y4.2))) ∧
      DataW.trod enc P w base spare held n f0.type [v0] = some y0 ∧ DataW.trod enc P w base spare held n f1.type [v1] = some y1 ∧ DataW.trod enc P w base spare held n f2.type [v2] = some y2 ∧ DataW.trod enc P w base spare held n f3.type [v3] = some y3 ∧ DataW.trod enc P w base spare held n f4.type [v4] = some y4 := by
  obtain ⟨cs, rfl, hsz⟩ := okWide_struct hs hv
  obtain ⟨l⟩ := cs
  match l, hsz.trans hC with
  | [c0, c1, c2, c3, c4], _ =>
    obtain ⟨fuel, hf⟩ := h
    obtain ⟨xs, n, _, hx, _, hlen, hg⟩ := DataW.trod_struct hs hf
    obtain ⟨o0, k0⟩ := hone_of hone 0 f0 rfl
    obtain ⟨o1, k1⟩ := hone_of hone 1 f1 rfl
    obtain ⟨o2, k2⟩ := hone_of hone 2 f2 rfl
    obtain ⟨o3, k3⟩ := hone_of hone 3 f3 rfl
    obtain ⟨o4, k4⟩ := hone_of hone 4 f4 rfl
    match xs, hlen with
    | [y0, y1, y2, y3, y4], _ =>
      simp only [Prod.mk.injEq] at hx
      exact ⟨c0, c1, c2, c3, c4, y0, y1, y2, y3, y4, n, rfl, by simpa using hx.1, by simpa using hx.2, by simpa [Value.cells, o0, k0] using hg 0 f0 rfl, by simpa [Value.cells, o1, k1] using hg 1 f1 rfl, by simpa [Value.cells, o2, k2] using hg 2 f2 rfl, by simpa [Value.cells, o3, k3] using hg 3 f3 rfl, by simpa [Value.cells, o4, k4] using hg 4 f4 rfl⟩
theorem open_agg6 {r : Reach} {b0 : Nat} {t : TypeId} {f0 f1 f2 f3 f4 f5 : Field} {v : Value} {d : DataW H} {p : List MemPlace} (hs : P.underlying t = some (.struct #[f0, f1, f2, f3, f4, f5])) (hone : oneCellFields P #[f0, f1, f2, f3, f4, f5] = true) (hC : P.cellsOf t = 6)
    (hv : Value.okWide P w r b0 t v) (h : DataW.Trod enc P w base spare held t v d p) :
    ∃ (v0 v1 v2 v3 v4 v5 : Value) (y0 y1 y2 y3 y4 y5 : DataW H × List MemPlace) (n : Nat), v = .agg #[v0, v1, v2, v3, v4, v5] ∧ d = .agg [y0.1, y1.1, y2.1, y3.1, y4.1, y5.1] ∧ p = y0.2 ++ (y1.2 ++ (y2.2 ++ (y3.2 ++ (y4.2 ++ y5.2)))) ∧
      DataW.trod enc P w base spare held n f0.type [v0] = some y0 ∧ DataW.trod enc P w base spare held n f1.type [v1] = some y1 ∧ DataW.trod enc P w base spare held n f2.type [v2] = some y2 ∧ DataW.trod enc P w base spare held n f3.type [v3] = some y3 ∧ DataW.trod enc P w base spare held n f4.type [v4] = some y4 ∧ DataW.trod enc P w base spare held n f5.type [v5] = some y5 := by
  obtain ⟨cs, rfl, hsz⟩ := okWide_struct hs hv
  obtain ⟨l⟩ := cs
  match l, hsz.trans hC with
  | [c0, c1, c2, c3, c4, c5], _ =>
    obtain ⟨fuel, hf⟩ := h
    obtain ⟨xs, n, _, hx, _, hlen, hg⟩ := DataW.trod_struct hs hf
    obtain ⟨o0, k0⟩ := hone_of hone 0 f0 rfl
    obtain ⟨o1, k1⟩ := hone_of hone 1 f1 rfl
    obtain ⟨o2, k2⟩ := hone_of hone 2 f2 rfl
    obtain ⟨o3, k3⟩ := hone_of hone 3 f3 rfl
    obtain ⟨o4, k4⟩ := hone_of hone 4 f4 rfl
    obtain ⟨o5, k5⟩ := hone_of hone 5 f5 rfl
    match xs, hlen with
    | [y0, y1, y2, y3, y4, y5], _ =>
      simp only [Prod.mk.injEq] at hx
      exact ⟨c0, c1, c2, c3, c4, c5, y0, y1, y2, y3, y4, y5, n, rfl, by simpa using hx.1, by simpa using hx.2, by simpa [Value.cells, o0, k0] using hg 0 f0 rfl, by simpa [Value.cells, o1, k1] using hg 1 f1 rfl, by simpa [Value.cells, o2, k2] using hg 2 f2 rfl, by simpa [Value.cells, o3, k3] using hg 3 f3 rfl, by simpa [Value.cells, o4, k4] using hg 4 f4 rfl, by simpa [Value.cells, o5, k5] using hg 5 f5 rfl⟩
end
end Go.Proofs.Ythefpmmeoajaiaa
