/- The iterators of an ordered map, at keys uint8 and values drumlin/drumlinlaw03.pair. Written from YOmd.base by inst.py. -/
import Derived.Test.YtemjnppplmankaaBd6
import Derived.Test.YtemjnppplmankaaBd5
import Derived.Shelf.Abstract
import Derived.Shelf.RegionOpen
import Derived.OwnWalkIn
import Derived.TacticsInMore
import Derived.LoopIn
import Derived.Sort.LoopGhostIn
import Derived.Test.YtemjnppplmankaaBd3
import Derived.Test.YtemjnppplmankaaRows
import Derived.BigQuiet
import Derived.Deep.QuietTactic
import Derived.Deep.DeepMust
import Derived.WalkKit
import Derived.Lib.Hide
import Derived.Test.YtemjnppplmankaaBd4
import Derived.Deep.CutBlock
import Derived.Deep.DeepCutAuto
set_option linter.unusedVariables false
set_option linter.unusedSimpArgs false
namespace Go.Proofs.Ytemjnppplmankaa
open Go.RowKit Go.Shelf
attribute [local go_sem] OvM cell_ovm obj_ovm
attribute [local go_sem] Oper.semAt_some

def encObp (x : Itbp) : Array Value := #[.int .u8 (x.1), .agg #[.int .i64 (x.2).1, .string (x.2).2]]
theorem VWbp.mdh {F : Nat → Prop} {w w' : World} {p : Option Addr} {v : Value} {L : List Itbp} (h : VWbp w p v L) (g : Mdh F w w') (hf : ∀ k, OMB p v k → ¬ F k) : VWbp w' p v L := by
  rcases h with ⟨b, rfl, h⟩ | ⟨h1 | ⟨b, rfl, h1⟩, h2, h3⟩
  · exact .inl ⟨b, rfl, h.mdh g (fun k hk => hf k (hk.elim (fun e => .inl ⟨_, rfl, e⟩) .inr))⟩
  · exact .inr ⟨.inl h1, h2, h3⟩
  · exact .inr ⟨.inr ⟨b, rfl, g.blk h1 (hf b (.inl ⟨_, rfl, rfl⟩))⟩, h2, h3⟩
theorem VWbp.lt {w : World} {p : Option Addr} {v : Value} {L : List Itbp} (h : VWbp w p v L) : ∀ k, OMB p v k → k < w.heap.size := by
  rintro k (⟨a, e, rfl⟩ | hk)
  · rcases h with ⟨b, rfl, h⟩ | ⟨rfl | ⟨b, rfl, h⟩, _⟩
    · obtain rfl := Option.some.inj e; exact blkLt h.blk
    · cases e
    · obtain rfl := Option.some.inj e; exact blkLt h
  · exact h.own.lt hk

set_option maxRecDepth 40000 in
set_option maxHeartbeats 4000000 in
/-- The items from an index on, one by one. -/
theorem sincebp (p : Option Addr) (v : Value) (L : List Itbp) (i : Nat) (hi : i ≤ L.length) (hn : L.length ≤ 1000000) (w : World) (h : VWbp w p v L) (A : Nat → Prop) (hA : ∀ k, OMB p v k → A k)
    (l : Nat) (J Jx : (Nat → Prop) → List Itbp → World → Prop) (W : World) (hW : Mdh (fun k => ¬ A k) w W) (hJ : Apart J) (hJx : Apart Jx)
    (hY : ∀ Z pre x X, J Z pre X → (pre ++ [x]) <+: L.drop i → YieldAt Fence.wide 1 Try.prog l (encObp x) X fun e Y =>
      (e = .returned (.bool true) ∧ J Z (pre ++ [x]) Y ∧ Mdh (fun k => ¬ A k ∧ ¬ Z k) X Y) ∨ (e = .returned (.bool false) ∧ Jx Z (pre ++ [x]) Y ∧ Mdh (fun k => ¬ Z k) X Y))
    (h0 : J (fun _ => False) [] W) :
    CallsIn Fence.wide 1 Try.prog 20 #[.pointer p, .int .i64 i, .func (.yield l) #[] #[]] W (SinPost (L.drop i) J Jx) := by
  have HV := Lib.hid (h.mdh hW (fun k hk hn => hn (hA k hk)))
  obtain ⟨a, cap, rfl, hnc, hcm, hat⟩ := HV.out.at
  have HAT := Lib.hid hat
  unfold maxLen at hcm
  have hi' : (i : Int) ≤ L.length := by omega
  clear h hW hat
  refine callsIn_of_wp Try.func20 rfl trivial ?_ rfl
  simp only [Try.ntmps20, List.size_toArray, List.length_cons, List.length_nil, Nat.reduceAdd, Nat.reduceSub, Array.replicate_succ, Array.replicate_zero, List.push_toArray, List.append_toArray, List.nil_append, List.cons_append]
  gi_wp2_with fail
  refine ⟨trivial, (callsIn_wide.2 (itemsbp p _ L _ HV.out)).mono ?_⟩
  rintro e W2 ⟨rfl, rfl⟩
  by_cases hiL : i < L.length
  · obtain ⟨g, rfl, hg0, _, _, _⟩ := HAT.out i _ (List.getElem?_eq_getElem hiL)
    have hAg : A g := hA g (.inr rfl)
    have hcap : ¬ cap = i := by omega
    clear hg0
    gi_wp2_with fail
    gi_loopg [13] (L.length - i) (fun gk t13 wx => ∃ (j : Nat) (pre : List Itbp), t13 = .int .i64 j ∧ J (fun _ => False) pre wx ∧ Hid (Mdh (fun k => ¬ A k) W wx ∧ pre = (L.drop i).take j ∧ j + gk = L.length - i))
    case atStart => exact ⟨0, [], rfl, h0, Lib.hid ⟨Mdh.refl _ _, by simp, by omega⟩⟩
    case round =>
      obtain ⟨j, pre, rfl, hJp, H⟩ := hrel
      clear h0
      by_cases hlt : j < L.length - i
      · have hij : i + j < L.length := by omega
        have hlt' : (j : Int) < ((L.length - i : Nat) : Int) := by omega
        have hx : L[i + j]? = some (L[i + j]'hij) := List.getElem?_eq_getElem hij
        obtain ⟨g', he, _, c0, c1, c2⟩ := HAT.out (i + j) _ hx
        obtain rfl : g = g' := by simpa using he
        have d0 := H.out.1.keep c0 (fun hn => hn hAg)
        have d1 := H.out.1.keep c1 (fun hn => hn hAg)
        have d2 := H.out.1.keep c2 (fun hn => hn hAg)
        rw [show (i + j) * 3 = i * 3 + j * 3 by omega] at d0 d1 d2
        have HPRE : Hid (pre ++ [L[i + j]'hij] <+: L.drop i) := Lib.hid (by
          rw [H.out.2.1]
          have e : (L.drop i).take (j + 1) = (L.drop i).take j ++ [L[i + j]'hij] := by
            rw [List.take_add_one, List.getElem?_drop, hx]; rfl
          rw [← e]
          exact List.take_prefix _ _)
        have HTK : Hid (pre ++ [L[i + j]'hij] = (L.drop i).take (j + 1)) := Lib.hid (by
          rw [H.out.2.1, List.take_add_one, List.getElem?_drop, hx]; rfl)
        generalize L[i + j]'hij = x at *
        obtain ⟨x1, x2, x3⟩ := x
        simp only at d0 d1 d2
        have hJ4 : J (fun _ => False) pre (wr.alloc (.cells #[.int .u8 x1, .int .i64 x2, .string x3] 55)) := hJ _ _ _ _ _ hJp ((Mdh.refl _ wr).alloc _) (fun k hk => .inl hk)
        obtain ⟨fn, tmps, assign, body, hy, hR⟩ := yield_any 0 (hY _ pre (x1, x2, x3) _ hJ4 HPRE.out)
        have HM4 := Lib.hid (H.out.1.trans ((Mdh.refl (fun k => ¬ A k) wr).alloc (.cells #[.int .u8 x1, .int .i64 x2, .string x3] 55)))
        simp only [encObp] at hy
        clear hx c0 c1 c2 he hJp hij
        gi_wp2_with fail
        refine hR.mono ?_
        rintro e W5 (⟨rfl, hJ5, hm5⟩ | ⟨rfl, hJx5, _⟩)
        · have HM5 := Lib.hid (HM4.out.trans (hm5.mono (fun k hk => hk.1)))
          clear hm5 hR hy
          gi_wp2_with fail
          go_roundg (gk - 1)
          case rel => exact ⟨j + 1, _, by go_num, hJ5, Lib.hid ⟨HM5.out, HTK.out, by have := H.out.2.2; omega⟩⟩
          case measure => have := H.out.2.2; omega
        · gi_wp2_with fail
          refine bodyPost_ret (results_none rfl _ _ _) rfl ?_
          exact ⟨⟨_, rfl⟩, .inr ⟨_, _, HPRE.out, hJx5⟩⟩
      · have hlt' : ¬ (j : Int) < ((L.length - i : Nat) : Int) := by omega
        gi_wp2_with fail
        go_end0
        exact ⟨⟨_, rfl⟩, .inl ⟨_, pre, by rw [H.out.2.1, List.take_of_length_le (by rw [List.length_drop]; omega)], hJp⟩⟩
  · obtain rfl : i = L.length := by omega
    have HE : Hid (([] : List Itbp) = L.drop L.length) := Lib.hid (by rw [List.drop_length])
    rcases a with _ | a
    all_goals
      gi_wp2_with fail
      all_goals
        gi_loopg [13] 0 (fun gk t13 wx => t13 = .int .i64 0 ∧ wx = W)
        case atStart => exact ⟨rfl, rfl⟩
        case round =>
          obtain ⟨rfl, rfl⟩ := hrel
          gi_wp2_with fail
          go_end0
          exact ⟨⟨_, rfl⟩, .inl ⟨_, [], by first | exact HE.out | rfl, h0⟩⟩

set_option maxRecDepth 40000 in
theorem AllObp (p : Option Addr) (w : World) :
    Calls Try.prog 9 #[.pointer p] w fun e w' => ∃ bb, e = .returned (.func (.func 19) #[] #[.pointer (some ⟨bb, 0, none⟩)]) ∧ w'.cell? ⟨bb, 0, none⟩ = some (.pointer p) ∧ w.heap.size ≤ bb ∧ Gr w w' := by
  go_enter Try.func9, Try.ntmps9
  go_wp2
  go_ret
  exact ⟨_, rfl, by simp [go_sem], Nat.le_refl _, by (repeat (first | (with_reducible exact Gr.refl _) | assumption | (with_reducible apply Gr.from_drew) | (with_reducible apply Gr.alloc) | (with_reducible apply Gr.drew) | (with_reducible refine Gr.trans ?_ (by assumption)) | (with_reducible refine Gr.setCell ?_ (by omega) _)))⟩
set_option maxRecDepth 40000 in
set_option maxHeartbeats 2000000 in
theorem SeqAbp (p : Option Addr) (v : Value) (L : List Itbp) (hn : L.length ≤ 1000000) (bb : Nat) (w : World) (h : VWbp w p v L) (hbb : w.cell? ⟨bb, 0, none⟩ = some (.pointer p)) :
    SeqZ Fence.wide 2 Try.prog 19 #[.pointer (some ⟨bb, 0, none⟩)] encObp (fun k => k = bb ∨ OMB p v k) (fun xs => xs = L) (fun pre => pre <+: L) w := by
  intro l J Jx W hW hJ hJx hY h0
  have hbW : W.cell? ⟨bb, 0, none⟩ = some (.pointer p) := hW.keep hbb (fun h => h (.inl rfl))
  have HS := Lib.hid (sincebp p v L 0 (Nat.zero_le _) hn w h (fun k => k = bb ∨ OMB p v k) (fun k hk => .inr hk) l J Jx W hW hJ hJx (by rw [List.drop_zero]; exact hY) h0)
  refine callsIn_of_wp Try.func19 rfl trivial ?_ rfl
  simp only [Try.ntmps19, List.size_toArray, List.length_cons, List.length_nil, Nat.reduceAdd, Nat.reduceSub, Array.replicate_succ, Array.replicate_zero, List.push_toArray, List.append_toArray, List.nil_append, List.cons_append]
  clear hY h0 hW
  gi_wp2_with fail
  refine ⟨trivial, CallsIn.mono HS.out ?_⟩
  rintro e W2 ⟨⟨u, rfl⟩, hc⟩
  gi_wp2_with fail
  go_end0
  refine ⟨⟨_, rfl⟩, ?_⟩
  rw [List.drop_zero] at hc
  exact hc
end Go.Proofs.Ytemjnppplmankaa

/- Contract of slices.Insert of one element, at drumlin/ordmap.item[uint8, *int]. Written from YIns.base by inst.py. -/
set_option linter.unusedVariables false
set_option linter.unusedSimpArgs false
namespace Go.Proofs.Ytemjnppplmankaa
open Go.RowKit
attribute [local go_sem] OvM cell_ovm obj_ovm

theorem infoItbi : (Try.prog.info? 58).map (fun i => (i.zero, i.size, i.bytes)) = some (some (.agg #[.int .u8 0, .pointer none]), 2, 16) := by kernel_rfl
theorem sizeItbi (w : World) : (Go.sizeOf 58).run Try.prog w = .ok 2 w := by kernel_rfl
theorem ovlItbi (w : World) (g vb o lb cb : Nat) (cur ys : Array Value) (hg : w.heap[g]? = some (.cells cur 58 (0, 0))) (hv : w.heap[vb]? = some (.cells ys 58 (0, 0))) (hne : vb ≠ g) (hs : cur.size ≠ 0) :
    (callFunc 39 #[.slice (some ⟨vb, 0, none⟩) 1 1, .slice (some ⟨g, o, none⟩) lb cb]).run Try.prog w = .ok (.value (.bool false)) w := by
  rw [run_callFunc_extern Try.func39 (by kernel_rfl) (by kernel_rfl) (by kernel_rfl) (e := Extern.SlicesOverlaps.overlaps #[48, 48] #[4]) (by kernel_rfl),
    Lib.run_overlaps_apart w 48 4 58 Try.underlying48 2 sizeItbi ⟨vb, 0, none⟩ ⟨g, o, none⟩ 1 1 lb cb hne 58 58 ys.size cur.size (by simp [World.shape?, hv]) (by simp [World.shape?, hg]) hs ((cellsOf hv).2 _) ((cellsOf hv).2 _)]
  rfl

set_option maxRecDepth 40000 in
set_option maxHeartbeats 4000000 in
theorem Insert_shiftbi (g n cap i : Nat) (xs ys : List Value) (vb : Nat) (w : World) (hown : Own w 58 2 (.slice (some ⟨g, 0, none⟩) n cap) n xs) (h1 : ∀ u ∈ xs, u.oneCell' = true) (hi : i < n) (hroom : n + 1 ≤ cap)
    (hvb : w.heap[vb]? = some (.cells ys.toArray 58 (0, 0))) (hy : ys.length = 2) (hy1 : ∀ u ∈ ys, u.oneCell' = true) (hne : vb ≠ g) :
    Calls Try.prog 17 #[.slice (some ⟨g, 0, none⟩) n cap, .int .i64 i, .slice (some ⟨vb, 0, none⟩) 1 1] w (InsPost 2 58 (.slice (some ⟨g, 0, none⟩) n cap) n i xs ys w) := by
  obtain ⟨cur, hg, hnc, hcm, hcs, htk⟩ := hown.parts
  have hsz : (Try.prog.info? 58).map (·.size) = some 2 := by kernel_rfl
  have hx : xs.length = n * 2 := hown.1
  have hb2 : ¬ cap = i + 1 := by omega
  have hb4 : ¬ cap = i := by omega
  have hin : i ≤ n := by omega
  have hi1 : (i : Int) + 1 ≤ (n : Int) + 1 := by omega
  have hieq : ¬ (i : Int) = n := by omega
  have hroom' : ¬ (cap : Int) < (n : Int) + 1 := by omega
  unfold maxLen at hcm
  have hsrc : ∀ (w1 : World), w1.heap[g]? = some (.cells cur 58 (0, 0)) → ∀ j v, (xs.drop (i * 2))[j]? = some v → w1.cell? ((⟨g, i * 2, none⟩ : Addr).add j) = some v := fun w1 hw1 j v hj => by
    rw [show (⟨g, i * 2, none⟩ : Addr).add j = ⟨g, i * 2 + j, none⟩ by unfold Addr.add; split <;> simp_all, (cellsOf hw1).1]
    rw [List.getElem?_drop, ← htk, List.getElem?_take] at hj
    split at hj
    · simpa using hj
    · cases hj
  have HCUR : Hid (cur.size = cap * 2 ∧ cur.toList.take (n * 2) = xs ∧ xs.length = n * 2) := Lib.hid ⟨hcs, htk, hx⟩
  have hdl : (xs.drop (i * 2)).length = (n - i) * 2 := by rw [List.length_drop, hx]; omega
  have hcp1 := fun (w1 : World) (hw1 : w1.heap[g]? = some (.cells cur 58 (0, 0))) dc sc => run_copyK (P := Try.prog) w1 48 48 3 58 2 g ((i + 1) * 2) (n - i) dc ⟨g, i * 2, none⟩ (n + 1 - i) sc cur 58 (xs.drop (i * 2)) Try.underlying48 hsz hw1
    (by rw [hdl, show Nat.min (n + 1 - i) (n - i) = n - i by simp only [Nat.min_def]; split <;> omega]) (hsrc w1 hw1) (by rw [hdl, hcs]; omega) (fun v hv => h1 v (List.mem_of_mem_drop hv))
  obtain ⟨cur1, hc1⟩ : ∃ cur1, cur1 = (cur.toList.take ((i + 1) * 2) ++ xs.drop (i * 2) ++ cur.toList.drop ((i + 1) * 2 + (xs.drop (i * 2)).length)).toArray := ⟨_, rfl⟩
  rw [← hc1] at hcp1
  have hs1 : cur1.size = cur.size := by
    have := seg_len cur.toList (xs.drop (i * 2)) ((i + 1) * 2) (by rw [hdl, Array.length_toList, hcs]; omega)
    rw [hc1]; simpa using this
  have hcp2 := fun (w1 : World) (hw1 : w1.heap[g]? = some (.cells cur1 58 (0, 0))) (hw2 : w1.heap[vb]? = some (.cells ys.toArray 58 (0, 0))) dc => run_copyK (P := Try.prog) w1 48 48 3 58 2 g (i * 2) (n + 1 - i) dc ⟨vb, 0, none⟩ 1 1 cur1 58 ys Try.underlying48 hsz hw1
    (by rw [hy, show Nat.min 1 (n + 1 - i) = 1 by simp only [Nat.min_def]; split <;> omega]) (fun j v hj => by rw [show (⟨vb, 0, none⟩ : Addr).add j = ⟨vb, j, none⟩ by unfold Addr.add; split <;> simp_all, (cellsOf hw2).1]; simpa using hj) (by rw [hy, hs1, hcs]; omega) hy1
  have hov := fun (w1 : World) (hw1 : w1.heap[g]? = some (.cells cur 58 (0, 0))) (hw2 : w1.heap[vb]? = some (.cells ys.toArray 58 (0, 0))) o lb cb => ovlItbi w1 g vb o lb cb cur ys.toArray hw1 hw2 hne (by rw [hcs]; omega)
  have HC1 := Lib.hid hc1
  have HP1 := Lib.hid hcp1
  have HP2 := Lib.hid hcp2
  have hov1 := fun o lb cb => hov w hg hvb o lb cb
  clear hcp1 hcp2 hov hsrc hcs htk hx hdl hc1 hs1 hown
  go_enter Try.func17, Try.ntmps17
  go_wp2_with (simp only [hov1])
  refine wp_region_flo (fun k => k = g) [] [] (by kernel_rfl) (by kernel_rfl) (fun k hk => by subst hk; exact blkLt hg) ?_
  refine flo_seg 8 rfl ?_
  simp only [List.take_succ_cons, List.take_zero, List.drop_succ_cons, List.drop_zero]
  repeat (go_big_quiet_step (fail))
  refine wpQuiet_nil ?_
  refine flo_eff rfl rfl rfl rfl (fun K hK => ?_)
  refine wp_copyK _ (.tmp 73) (.tmp 76) 48 48 rfl (.slice (some ⟨g, (i + 1) * 2, none⟩) (n - i) (cap - (i + 1))) (.slice (some ⟨g, i * 2, none⟩) (n + 1 - i) (cap - i)) rfl rfl (HP1.out w.drew hg _ _) ?_; (have HG1 := Lib.hid (setRow_at (w := w.drew) (cs := cur1) hg)); (have HV1 := Lib.hid ((setRow_ne (w := w.drew) cur1 hne).trans hvb)); (have HM1 := Lib.hid (setRow_mdh (S := fun k => k = g) (Mdh.refl _ w.drew) (g := g) (.inl rfl) cur1)); go_wp2; refine ⟨HM1.out.mono (fun q hq => by simpa using hq), ?_⟩
  refine flo_nil ?_
  go_wp2_with (refine wpList_copyK _ rfl (.tmp 80) (.tmp 81) 48 48 rfl (.slice (some ⟨g, i * 2, none⟩) (n + 1 - i) (cap - i)) (.slice (some ⟨vb, 0, none⟩) 1 1) rfl rfl (HP2.out _ HG1.out HV1.out _) ?_)
  go_ret
  obtain ⟨hcs, htk, hx⟩ := HCUR.out
  have hL := laid_in cur.toList xs ys (i * 2) ((n - i) * 2) 2 (by rw [show i * 2 + (n - i) * 2 = n * 2 by omega]; exact htk) (by rw [Array.length_toList, hcs]; omega) hy cur1.toList (cur1.toList.take (i * 2) ++ ys ++ cur1.toList.drop (i * 2 + ys.length))
    (by rw [HC1.out, show i * 2 + 2 = (i + 1) * 2 by omega]) rfl
  refine ⟨g, cap, rfl, Own.ofParts (setRow_at HG1.out) hroom (by unfold maxLen; omega) ?_ ?_, .inl rfl, ?_⟩
  · have := hL.2
    simpa [hcs, hy] using this
  · have := hL.1
    rw [show i * 2 + 2 + (n - i) * 2 = (n + 1) * 2 by omega] at this
    simpa [hy] using this
  · exact setRow_mdh (S := fun k => (Value.slice (some ⟨g, 0, none⟩) n cap).ownBlock = some k) (setRow_mdh (S := fun k => (Value.slice (some ⟨g, 0, none⟩) n cap).ownBlock = some k) ((Mdh.refl _ w).drew) (g := g) (.inl rfl) cur1) (g := g) (.inl rfl) _

set_option maxRecDepth 40000 in
set_option maxHeartbeats 4000000 in
theorem Insert_endbi (v : Value) (n : Nat) (xs ys : List Value) (vb : Nat) (w : World) (hown : Own w 58 2 v n xs) (hn : n ≤ 1000000)
    (hvb : w.heap[vb]? = some (.cells ys.toArray 58 (0, 0))) (hy : ys.length = 2) (hy1 : ∀ u ∈ ys, u.oneCell' = true) :
    Calls Try.prog 17 #[v, .int .i64 n, .slice (some ⟨vb, 0, none⟩) 1 1] w (InsPost 2 58 v n n xs ys w) := by
  obtain ⟨i0, hi0, hz0, hz1, hz2⟩ := info_parts infoItbi
  have hx : xs.length = n * 2 := hown.1
  have HN : Hid (∀ j u, ys[j]? = some u → w.cell? ((⟨vb, 0, none⟩ : Addr).add j) = some u) := Lib.hid (fun j u hj => by
    rw [show (⟨vb, 0, none⟩ : Addr).add j = ⟨vb, j, none⟩ by unfold Addr.add; split <;> simp_all, (cellsOf hvb).1]; simpa using hj)
  have HO := Lib.hid hown
  have HX : Hid (xs.take (n * 2) ++ ys ++ xs.drop (n * 2) = xs ++ ys) := Lib.hid (by rw [List.take_of_length_le (by omega), List.drop_of_length_le (by omega), List.append_nil])
  rcases hown.2 with ⟨rfl, rfl⟩ | ⟨g, cap, cur, rfl, _, _, hnc, hcm, _⟩
  · clear hown hx
    go_enter Try.func17, Try.ntmps17
    go_wp2_with (at_builtin; go_must (refine wpList_app2 _ rfl (.tmp 23) (.tmp 24) 48 48 rfl 58 Try.underlying48 i0 _ 2 16 Try.underlying48 hi0 hz0 hz1 hz2 rfl (by decide) (.slice none 0 0) 0 xs rfl HO.out ⟨vb, 0, none⟩ 1 1 ys rfl hy HN.out hy1 (by decide) (by simp only [maxLen]; omega) (by omega) ?_); intro g2 cap2 w2 ho2 hwh hgr; have HO2 := Lib.hid ho2; have HW2 := Lib.hid hwh; have HG2 := Lib.hid hgr; clear ho2 hwh hgr)
    all_goals
      go_ret
      refine ⟨g2, cap2, rfl, by rw [HX.out]; exact HO2.out, HW2.out, Mdh.grown (Mdh.refl _ w) HG2.out (fun r hr => hr)⟩
  · clear hown hx
    unfold maxLen at hcm
    go_enter Try.func17, Try.ntmps17
    go_wp2_with (at_builtin; go_must (refine wpList_app2 _ rfl (.tmp 23) (.tmp 24) 48 48 rfl 58 Try.underlying48 i0 _ 2 16 Try.underlying48 hi0 hz0 hz1 hz2 rfl (by decide) (.slice (some ⟨g, 0, none⟩) n cap) n xs rfl HO.out ⟨vb, 0, none⟩ 1 1 ys rfl hy HN.out hy1 (by decide) (by simp only [maxLen]; omega) (by omega) ?_); intro g2 cap2 w2 ho2 hwh hgr; have HO2 := Lib.hid ho2; have HW2 := Lib.hid hwh; have HG2 := Lib.hid hgr; clear ho2 hwh hgr)
    all_goals
      go_ret
      refine ⟨g2, cap2, rfl, by rw [HX.out]; exact HO2.out, HW2.out, Mdh.grown (Mdh.refl _ w) HG2.out (fun r hr => hr)⟩

set_option maxRecDepth 40000 in
set_option maxHeartbeats 4000000 in
theorem Insert_growbi (g n cap i : Nat) (xs ys : List Value) (vb : Nat) (w : World) (hown : Own w 58 2 (.slice (some ⟨g, 0, none⟩) n cap) n xs) (h1 : ∀ u ∈ xs, u.oneCell' = true) (hi : i < n) (hroom : cap < n + 1) (hn : n ≤ 1000000)
    (hvb : w.heap[vb]? = some (.cells ys.toArray 58 (0, 0))) (hy : ys.length = 2) (hy1 : ∀ u ∈ ys, u.oneCell' = true) :
    Calls Try.prog 17 #[.slice (some ⟨g, 0, none⟩) n cap, .int .i64 i, .slice (some ⟨vb, 0, none⟩) 1 1] w (InsPost 2 58 (.slice (some ⟨g, 0, none⟩) n cap) n i xs ys w) := by
  obtain ⟨i0, hi0, hz0, hz1, hz2⟩ := info_parts infoItbi
  obtain ⟨cur, hg, hnc, hcm, hcs, htk⟩ := hown.parts
  have hsz : (Try.prog.info? 58).map (·.size) = some 2 := by kernel_rfl
  have hx : xs.length = n * 2 := hown.1
  have hcell := hown.cells rfl
  have hci : ¬ cap = i := by omega
  have hin : i ≤ n := by omega
  have hieq : ¬ (i : Int) = n := by omega
  have hroom' : (cap : Int) < (n : Int) + 1 := by omega
  have hkk : (n : Int) + 1 - (i : Int) = ((n + 1 - i : Nat) : Int) := by omega
  have hik : i + (n + 1 - i) = n + 1 := by omega
  have hgw := blkLt hg
  have hvw := blkLt hvb
  have hadd : ∀ b j : Nat, (⟨b, 0, none⟩ : Addr).add j = ⟨b, j, none⟩ := fun b j => by unfold Addr.add; split <;> simp_all
  have hold : (Builtin.firstCells i0.size i (.slice (some ⟨g, 0, none⟩) i cap)).run Try.prog w.drew = .ok (xs.take (i * 2)).toArray w.drew := by
    rw [hz1]
    exact run_firstCells_some w.drew 2 i ⟨g, 0, none⟩ i cap (xs.take (i * 2)) (by rw [List.length_take]; omega) (fun j v hj => by
      rw [List.getElem?_take] at hj
      split at hj
      · exact hcell j v hj
      · cases hj)
  have hrz : ∀ ty, (Builtin.append_ #[48, 3] ty #[.slice (some ⟨g, 0, none⟩) i cap, .int .i64 ((n : Int) + 1 - (i : Int))]).run Try.prog w =
      .ok (.slice (some ⟨w.heap.size, 0, none⟩) (n + 1) (grownCap w (n + 1) cap 58)) (w.drew.alloc (.cells ((xs.take (i * 2)).toArray ++ Builtin.zeroCells (Value.agg #[.int .u8 0, .pointer none]).cells (n + 1 - i) ++ Builtin.zeroCells (Value.agg #[.int .u8 0, .pointer none]).cells (grownCap w (n + 1) cap 58 - (n + 1))) 58)) := fun ty => by
    have h := Lib.run_append_grow_zeros w 48 3 ty 58 i0 _ .i64 .i64 Try.underlying48 Try.underlying3 hi0 hz0 (some ⟨g, 0, none⟩) i cap (xs.take (i * 2)) hold (n + 1 - i) (by omega) (by omega) (by omega) (by omega) (by rw [hz2]; omega) (by rw [hz2, hik]; exact growslice_fits hroom (by omega))
    rw [hik] at h
    rw [hkk]
    exact h
  obtain ⟨G, hG⟩ : ∃ G, G = grownCap w (n + 1) cap 58 := ⟨_, rfl⟩
  obtain ⟨ROW, hROW⟩ : ∃ ROW : Array Value, ROW = (xs.take (i * 2)).toArray ++ Builtin.zeroCells (Value.agg #[.int .u8 0, .pointer none]).cells (n + 1 - i) ++ Builtin.zeroCells (Value.agg #[.int .u8 0, .pointer none]).cells (G - (n + 1)) := ⟨_, rfl⟩
  rw [← hG] at hrz
  rw [← hROW] at hrz
  have hGn : n + 1 ≤ G := by rw [hG]; exact grownCap_ge w _ _ _
  have hG63 : G ≤ maxLen := by rw [hG]; exact grownCap_le_maxLen w _ _ _ (by unfold maxLen; omega)
  obtain ⟨ZS, hZS, hROWl⟩ : ∃ ZS : List Value, ZS.length = (G - i) * 2 ∧ ROW.toList = xs.take (i * 2) ++ ZS := by
    refine ⟨(Builtin.zeroCells (Value.agg #[.int .u8 0, .pointer none]).cells (n + 1 - i)).toList ++ (Builtin.zeroCells (Value.agg #[.int .u8 0, .pointer none]).cells (G - (n + 1))).toList, ?_, ?_⟩
    · rw [List.length_append, zeroCells_len, zeroCells_len, show (Value.agg #[.int .u8 0, .pointer none]).cells.size = 2 from rfl]; omega
    · rw [hROW]; simp
  have hRs : ROW.size = G * 2 := by
    rw [← Array.length_toList, hROWl, List.length_append, hZS, List.length_take]; omega
  have hdl : (xs.drop (i * 2)).length = (n - i) * 2 := by rw [List.length_drop, hx]; omega
  obtain ⟨cur1, hc1⟩ : ∃ cur1, cur1 = (ROW.toList.take (i * 2) ++ ys ++ ROW.toList.drop (i * 2 + ys.length)).toArray := ⟨_, rfl⟩
  have hs1 : cur1.size = G * 2 := by
    have := seg_len ROW.toList ys (i * 2) (by rw [hy, Array.length_toList, hRs]; omega)
    rw [hc1, ← hRs]; simpa using this
  have hcp1 := fun (w1 : World) (hw1 : w1.heap[w.heap.size]? = some (.cells ROW 58 (0, 0))) (hw2 : w1.heap[vb]? = some (.cells ys.toArray 58 (0, 0))) dc => run_copyK (P := Try.prog) w1 48 48 3 58 2 w.heap.size (i * 2) (n + 1 - i) dc ⟨vb, 0, none⟩ 1 1 ROW 58 ys Try.underlying48 hsz hw1
    (by rw [hy, show Nat.min 1 (n + 1 - i) = 1 by simp only [Nat.min_def]; split <;> omega]) (fun j v hj => by rw [hadd, (cellsOf hw2).1]; simpa using hj) (by rw [hy, hRs]; omega) hy1
  rw [← hc1] at hcp1
  have hcp2 := fun (w1 : World) (hw1 : w1.heap[w.heap.size]? = some (.cells cur1 58 (0, 0))) (hw2 : w1.heap[g]? = some (.cells cur 58 (0, 0))) dc sc => run_copyK (P := Try.prog) w1 48 48 3 58 2 w.heap.size ((i + 1) * 2) (n - i) dc ⟨g, i * 2, none⟩ (n - i) sc cur1 58 (xs.drop (i * 2)) Try.underlying48 hsz hw1
    (by rw [hdl, show Nat.min (n - i) (n - i) = n - i by simp only [Nat.min_def]; split <;> omega]) (fun j v hj => by
      rw [show (⟨g, i * 2, none⟩ : Addr).add j = ⟨g, i * 2 + j, none⟩ by unfold Addr.add; split <;> simp_all, (cellsOf hw2).1]
      rw [List.getElem?_drop, ← htk, List.getElem?_take] at hj
      split at hj
      · simpa using hj
      · cases hj) (by rw [hdl, hs1]; omega) (fun v hv => h1 v (List.mem_of_mem_drop hv))
  obtain ⟨cur2, hc2⟩ : ∃ cur2, cur2 = (cur1.toList.take ((i + 1) * 2) ++ xs.drop (i * 2) ++ cur1.toList.drop ((i + 1) * 2 + (xs.drop (i * 2)).length)).toArray := ⟨_, rfl⟩
  rw [← hc2] at hcp2
  have HL : Hid (_) := Lib.hid (laid_new xs ys ZS (i * 2) ((n - i) * 2) 2 (by omega) (by omega) hy ROW.toList cur1.toList cur2.toList hROWl (by rw [hc1]) (by rw [hc2, show i * 2 + 2 = (i + 1) * 2 by omega]))
  have HRZ := Lib.hid hrz
  have HP1 := Lib.hid hcp1
  have HP2 := Lib.hid hcp2
  have HS := Lib.hid (And.intro hRs (And.intro hdl hs1))
  have hG1 : ¬ G = i := by omega
  have hG2 : ¬ G = i + 1 := by omega
  have hG3 : (i : Int) + 1 ≤ (n : Int) + 1 := by omega
  have hG4 : (n : Int) + 1 ≤ G := by omega
  unfold maxLen at hcm hG63
  clear hrz hcp1 hcp2 hold hROW hROWl hc1 hRs hdl hs1 hcs htk hx hcell hown hc2 hkk hik hz0 hi0 hz1 hz2 hG hZS
  go_enter Try.func17, Try.ntmps17
  go_wp2_with (first
    | (at_builtin; refine Lib.wpList_append_run _ rfl _ _ _ _ rfl _ _ rfl rfl _ _ (HRZ.out _) ?_)
    | (refine wpList_copyK _ rfl (.tmp 43) (.tmp 44) 48 48 rfl (.slice (some ⟨w.heap.size, i * 2, none⟩) (n + 1 - i) (G - i)) (.slice (some ⟨vb, 0, none⟩) 1 1) rfl rfl (HP1.out _ (blkNew w.drew _) (blkOld (w := w.drew) hvb) _) ?_))
  have hga : ((w.drew.alloc (.cells ROW 58)).setRow w.heap.size cur1).heap[w.heap.size]? = some (.cells cur1 58 (0, 0)) := setRow_at (w := w.drew.alloc (.cells ROW 58)) (cs := cur1) (blkNew w.drew _)
  have hgb : ((w.drew.alloc (.cells ROW 58)).setRow w.heap.size cur1).heap[g]? = some (.cells cur 58 (0, 0)) := (setRow_ne _ (by omega)).trans (blkOld (w := w.drew) hg)
  have HM : Hid (Mdh (fun k => (Value.slice (some ⟨g, 0, none⟩) n cap).ownBlock = some k) w ((w.drew.alloc (.cells ROW 58)).setRow w.heap.size cur1)) := Lib.hid (setRow_mdh (((Mdh.refl _ w).drew).alloc _) (.inr (Nat.le_refl _)) _)
  generalize (w.drew.alloc (.cells ROW 58)).setRow w.heap.size cur1 = W1 at *
  have HGA := Lib.hid hga
  have HGB := Lib.hid hgb
  clear hgb hgw hvw
  go_simp
  refine wp_region_flo (fun k => k = w.heap.size) [] [] (by kernel_rfl) (by kernel_rfl) (fun k hk => by subst hk; exact blkLt hga) ?_
  refine flo_seg 8 rfl ?_
  simp only [List.take_succ_cons, List.take_zero, List.drop_succ_cons, List.drop_zero]
  repeat (go_big_quiet_step (fail))
  refine wpQuiet_nil ?_
  refine flo_eff rfl rfl rfl rfl (fun K hK => ?_)
  refine wp_copyK _ (.tmp 50) (.tmp 53) 48 48 rfl (.slice (some ⟨w.heap.size, (i + 1) * 2, none⟩) (n - i) (G - (i + 1))) (.slice (some ⟨g, i * 2, none⟩) (n - i) (cap - i)) rfl rfl (HP2.out W1.drew HGA.out HGB.out _ _) ?_; (have HG1 := Lib.hid (setRow_at (w := W1.drew) (cs := cur2) HGA.out)); (have HM1 := Lib.hid (setRow_mdh (S := fun k => k = w.heap.size) (Mdh.refl _ W1.drew) (g := w.heap.size) (.inl rfl) cur2)); go_wp2; refine ⟨HM1.out.mono (fun q hq => by simpa using hq), ?_⟩
  refine flo_nil ?_
  go_wp2
  go_ret
  obtain ⟨hRs, hdl, hs1⟩ := HS.out
  have hL := HL.out
  rw [show i * 2 + 2 = (i + 1) * 2 by omega, show (i + 1) * 2 + (n - i) * 2 = (n + 1) * 2 by omega] at hL
  refine ⟨w.heap.size, G, rfl, Own.ofParts HG1.out (by omega) (by unfold maxLen; omega) ?_ (by simpa using hL.1), .inr (Nat.le_refl _), ?_⟩
  · have := hL.2
    simp only [Array.length_toList] at this
    rw [this, hRs]
  · exact setRow_mdh HM.out.drew (.inr (Nat.le_refl _)) _

/-- One element laid into a row of the call's own. -/
theorem Insertbi (v : Value) (n i : Nat) (xs ys : List Value) (vb : Nat) (w : World) (hown : Own w 58 2 v n xs) (h1 : ∀ u ∈ xs, u.oneCell' = true) (hi : i ≤ n) (hn : n ≤ 1000000)
    (hvb : w.heap[vb]? = some (.cells ys.toArray 58 (0, 0))) (hy : ys.length = 2) (hy1 : ∀ u ∈ ys, u.oneCell' = true) (hne : v.ownBlock ≠ some vb) :
    Calls Try.prog 17 #[v, .int .i64 i, .slice (some ⟨vb, 0, none⟩) 1 1] w (InsPost 2 58 v n i xs ys w) := by
  by_cases hin : i = n
  · subst hin
    exact Insert_endbi v i xs ys vb w hown hn hvb hy hy1
  · rcases hown.2 with ⟨rfl, rfl⟩ | ⟨g, cap, cur, rfl, _⟩
    · omega
    · by_cases hr : n + 1 ≤ cap
      · exact Insert_shiftbi g n cap i xs ys vb w hown h1 (by omega) hr hvb hy hy1 (fun e => hne (by rw [e]; rfl))
      · exact Insert_growbi g n cap i xs ys vb w hown h1 (by omega) (by omega) hn hvb hy hy1
end Go.Proofs.Ytemjnppplmankaa

/- An ordered map in memory, and the methods that read it, at keys uint8 and values *int. Written from YOma.base by inst.py. -/
set_option linter.unusedVariables false
set_option linter.unusedSimpArgs false
namespace Go.Proofs.Ytemjnppplmankaa
open Go.RowKit
attribute [local go_sem] OvM cell_ovm obj_ovm

abbrev Itbi := Int × (Option Addr)
def kvbi (k : Int) : Value := .int .u8 (k)
def vvbi (v : (Option Addr)) : Value := .pointer (v)
def celbi (x : Itbi) : List Value := [.int .u8 (x.1), .pointer (x.2)]
def rowbi (L : List Itbi) : List Value := L.flatMap celbi
theorem row_lenbi (L : List Itbi) : (rowbi L).length = L.length * 2 := by
  induction L with
  | nil => rfl
  | cons x L ih => simp only [rowbi, List.flatMap_cons, List.length_append, List.length_cons] at *; rw [ih]; simp [celbi]; omega
theorem row_onebi (L : List Itbi) : ∀ u ∈ rowbi L, u.oneCell' = true := by
  intro u hu
  simp only [rowbi, List.mem_flatMap] at hu
  obtain ⟨x, _, hx⟩ := hu
  simp only [celbi, List.mem_cons, List.not_mem_nil, or_false] at hx
  rcases hx with rfl | rfl <;> rfl
theorem row_appbi (L M : List Itbi) : rowbi (L ++ M) = rowbi L ++ rowbi M := by simp [rowbi]
theorem row_getbi (L : List Itbi) : ∀ i x, L[i]? = some x → (rowbi L)[i * 2]? = some (.int .u8 (x.1)) ∧ (rowbi L)[i * 2 + 1]? = some (.pointer (x.2)) := by
  induction L with
  | nil => intro i x h; simp at h
  | cons y L ih =>
    intro i x h
    have e : rowbi (y :: L) = celbi y ++ rowbi L := rfl
    rw [e]
    cases i with
    | zero => simp at h; subst h; simp [celbi]
    | succ i =>
      have := ih i x (by simpa using h)
      have e1 : (i + 1) * 2 = i * 2 + 2 := by omega
      rw [e1, List.getElem?_append_right (by simp [celbi]), List.getElem?_append_right (by simp [celbi])]
      simpa [celbi, show i * 2 + 2 + 1 - 2 = i * 2 + 1 by omega] using this
theorem row_takebi (L : List Itbi) (i : Nat) : (rowbi L).take (i * 2) = rowbi (L.take i) := by
  induction L generalizing i with
  | nil => simp [rowbi]
  | cons y L ih =>
    cases i with
    | zero => simp [rowbi]
    | succ i =>
      have e : rowbi (y :: L) = celbi y ++ rowbi L := rfl
      rw [e, show (i + 1) * 2 = 2 + i * 2 by omega, List.take_succ_cons, show rowbi (y :: L.take i) = celbi y ++ rowbi (L.take i) from rfl, ← ih i]
      exact List.take_length_add_append (l₁ := celbi y) (l₂ := rowbi L) (i * 2)
theorem row_dropbi (L : List Itbi) (i : Nat) : (rowbi L).drop (i * 2) = rowbi (L.drop i) := by
  induction L generalizing i with
  | nil => simp [rowbi]
  | cons y L ih =>
    cases i with
    | zero => simp [rowbi]
    | succ i =>
      have e : rowbi (y :: L) = celbi y ++ rowbi L := rfl
      rw [e, show (i + 1) * 2 = 2 + i * 2 by omega, List.drop_succ_cons, ← ih i]
      exact List.drop_length_add_append (l₁ := celbi y) (l₂ := rowbi L) (i * 2)

theorem row_setbi (L : List Itbi) (i : Nat) (k : Int) (v u : (Option Addr)) (h : L[i]? = some (k, v)) : rowbi (L.set i (k, u)) = (rowbi L).set (i * 2 + 1) (.pointer (u)) := by
  induction L generalizing i with
  | nil => simp at h
  | cons y L ih =>
    cases i with
    | zero => simp at h; subst h; rfl
    | succ i =>
      have e : ∀ M, rowbi (y :: M) = celbi y ++ rowbi M := fun _ => rfl
      rw [List.set_cons_succ, e, e, ih i (by simpa using h), show (i + 1) * 2 + 1 = i * 2 + 1 + 2 by omega]
      rfl
/-- A map that was made, in the block b. -/
structure OMbi (w : World) (b : Nat) (v : Value) (L : List Itbi) : Prop where
  blk : w.heap[b]? = some (.cells #[.bool true, v] 50 (0, 0))
  own : Own w 58 2 v L.length (rowbi L)
  ne : v.ownBlock ≠ some b
  srt : Srt ltZ L
/-- What a map's items are: nil where there is no map. -/
def VWbi (w : World) (p : Option Addr) (v : Value) (L : List Itbi) : Prop :=
  (∃ b, p = some ⟨b, 0, none⟩ ∧ OMbi w b v L) ∨ ((p = none ∨ ∃ b, p = some ⟨b, 0, none⟩ ∧ w.heap[b]? = some (.cells #[.bool false, .slice none 0 0] 50 (0, 0))) ∧ v = .slice none 0 0 ∧ L = [])
theorem OMbi.gr {w w' : World} {b : Nat} {v : Value} {L : List Itbi} (h : OMbi w b v L) (g : Gr w w') : OMbi w' b v L := ⟨g.blk h.blk, h.own.gr g, h.ne, h.srt⟩
theorem OMbi.mdh {F : Nat → Prop} {w w' : World} {b : Nat} {v : Value} {L : List Itbi} (h : OMbi w b v L) (g : Mdh F w w') (hf : ∀ k, k = b ∨ v.ownBlock = some k → ¬ F k) : OMbi w' b v L :=
  ⟨g.blk h.blk (hf b (.inl rfl)), h.own.mdh g (fun k hk => hf k (.inr hk)), h.ne, h.srt⟩
theorem VWbi.gr {w w' : World} {p : Option Addr} {v : Value} {L : List Itbi} (h : VWbi w p v L) (g : Gr w w') : VWbi w' p v L := by
  rcases h with ⟨b, e, h⟩ | ⟨h1 | ⟨b, e, h1⟩, h2, h3⟩
  · exact .inl ⟨b, e, h.gr g⟩
  · exact .inr ⟨.inl h1, h2, h3⟩
  · exact .inr ⟨.inr ⟨b, e, g.blk h1⟩, h2, h3⟩
theorem VWbi.own {w : World} {p : Option Addr} {v : Value} {L : List Itbi} (h : VWbi w p v L) : Own w 58 2 v L.length (rowbi L) := by
  rcases h with ⟨b, e, h⟩ | ⟨_, rfl, rfl⟩
  · exact h.own
  · exact ⟨rfl, .inl ⟨rfl, rfl⟩⟩
theorem VWbi.srt {w : World} {p : Option Addr} {v : Value} {L : List Itbi} (h : VWbi w p v L) : Srt ltZ L := by
  rcases h with ⟨b, e, h⟩ | ⟨_, rfl, rfl⟩
  · exact h.srt
  · exact List.Pairwise.nil
/-- The cells of an item. -/
theorem VWbi.at {w : World} {p : Option Addr} {v : Value} {L : List Itbi} (h : VWbi w p v L) : ∃ a cap, v = .slice a L.length cap ∧ L.length ≤ cap ∧ cap ≤ maxLen ∧ ∀ i x, L[i]? = some x → ∃ g, a = some ⟨g, 0, none⟩ ∧ g < w.heap.size ∧
    w.cell? ⟨g, i * 2, none⟩ = some (.int .u8 (x.1)) ∧ w.cell? ⟨g, i * 2 + 1, none⟩ = some (.pointer (x.2)) := by
  have ho := h.own
  rcases ho.2 with ⟨hv, h0⟩ | ⟨g, cap, cur, hv, _, hg, h1, h2, h3, h4⟩
  · have hL : L = [] := List.eq_nil_of_length_eq_zero h0
    subst hL
    exact ⟨none, 0, hv, Nat.le_refl _, by simp [maxLen], fun i x hx => by simp at hx⟩
  · subst hv
    refine ⟨_, cap, rfl, h1, h2, fun i x hx => ⟨g, rfl, blkLt hg, ?_⟩⟩
    have hc := ho.cells (g := g) rfl
    obtain ⟨r1, r2⟩ := row_getbi L i x hx
    have hadd : ∀ j, (⟨g, 0, none⟩ : Addr).add j = ⟨g, j, none⟩ := fun j => by unfold Addr.add; split <;> simp_all
    exact ⟨by rw [← hadd]; exact hc _ _ r1, by rw [← hadd]; exact hc _ _ r2⟩

theorem itemsbi (p : Option Addr) (v : Value) (L : List Itbi) (w : World) (h : VWbi w p v L) :
    Calls Try.prog 22 #[.pointer p] w fun e w' => e = .returned v ∧ w = w' := by
  rcases h with ⟨b, rfl, h⟩ | ⟨rfl | ⟨b, rfl, h⟩, rfl, rfl⟩
  · have c0 := ((cellsOf h.blk).1 0).trans (show _ = some (Value.bool true) from rfl)
    have c1 := ((cellsOf h.blk).1 1).trans (show _ = some v from rfl)
    clear h
    go_enter Try.func22, Try.ntmps22
    go_wp2
    go_ret
    exact ⟨rfl, rfl⟩
  · go_enter Try.func22, Try.ntmps22
    go_wp2
    go_ret
    exact ⟨rfl, rfl⟩
  · have c0 := ((cellsOf h).1 0).trans (show _ = some (Value.bool false) from rfl)
    clear h
    go_enter Try.func22, Try.ntmps22
    go_wp2
    go_ret
    exact ⟨rfl, rfl⟩
end Go.Proofs.Ytemjnppplmankaa

/- The methods of an ordered map that read it, at keys uint8 and values *int. Written from YOmb.base by inst.py. -/
set_option linter.unusedVariables false
set_option linter.unusedSimpArgs false
namespace Go.Proofs.Ytemjnppplmankaa
open Go.RowKit
attribute [local go_sem] OvM cell_ovm obj_ovm

theorem Rank1bi (x : Itbi) (k : Int) (bk : Nat) (w : World) (hk : w.cell? ⟨bk, 0, none⟩ = some (.int .u8 (k))) :
    Calls Try.prog 57 #[.agg #[.int .u8 (x.1), .pointer (x.2)], .pointer (some ⟨bk, 0, none⟩)] w fun e w' => e = .returned (.bool (!ltZ x.1 k)) ∧ Gr w w' := by
  have hb := World.block_lt_of_cell? w ⟨bk, 0, none⟩ hk
  simp only at hb
  obtain ⟨x1, x2⟩ := x
  go_enter Try.func57, Try.ntmps57
  go_wp2
  all_goals
    go_ret
    exact ⟨ret_bool (by rw [Bool.eq_iff_iff]; simp [ltZ]; try omega), by (repeat (first | (with_reducible exact Gr.refl _) | assumption | (with_reducible apply Gr.from_drew) | (with_reducible apply Gr.alloc) | (with_reducible apply Gr.drew) | (with_reducible refine Gr.trans ?_ (by assumption)) | (with_reducible refine Gr.setCell ?_ (by omega) _)))⟩

set_option maxRecDepth 40000 in
set_option maxHeartbeats 2000000 in
theorem firstRankbi (p : Option Addr) (v : Value) (L : List Itbi) (k : Int) (bk : Nat) (w : World) (h : VWbi w p v L) (hn : L.length ≤ 1000000) (hk : w.cell? ⟨bk, 0, none⟩ = some (.int .u8 (k))) :
    Calls Try.prog 56 #[v, .func (.func 57) #[] #[.pointer (some ⟨bk, 0, none⟩)]] w fun e w' => e = .returned (.int .i64 (rk ltZ L k)) ∧ Gr w w' := by
  obtain ⟨a, cap, rfl, hnc, hcm, hat⟩ := h.at
  have hs := h.srt
  have HAT := Lib.hid hat
  have HS := Lib.hid hs
  have HK := Lib.hid hk
  clear h hat hs hk hcm hnc
  go_enter Try.func56, Try.ntmps56
  go_wp2_with fail
  go_loopw [5, 6] (fun t5 t6 wx => ∃ lo hi : Nat, lo ≤ hi ∧ hi ≤ L.length ∧ t5 = .int .i64 lo ∧ t6 = .int .i64 hi ∧ Hid (Gr w wx ∧ (∀ j x, j < lo → L[j]? = some x → ltZ x.1 k = true) ∧ (∀ j x, hi ≤ j → L[j]? = some x → ltZ x.1 k = false))) (fun t5 t6 _ => (intOf t6).toNat - (intOf t5).toNat)
  case atStart => exact ⟨0, L.length, by omega, by omega, rfl, rfl, Lib.hid ⟨by (repeat (first | (with_reducible exact Gr.refl _) | assumption | (with_reducible apply Gr.from_drew) | (with_reducible apply Gr.alloc) | (with_reducible apply Gr.drew) | (with_reducible refine Gr.trans ?_ (by assumption)) | (with_reducible refine Gr.setCell ?_ (by omega) _))), by omega, fun j x hj hx => by have := (List.getElem?_eq_some_iff.1 hx).1; omega⟩⟩
  case round =>
    obtain ⟨lo, hi, h1, h2, rfl, rfl, H⟩ := hrel
    by_cases hlt : lo < hi
    · have hlt' : (lo : Int) < hi := by omega
      obtain ⟨m, hm⟩ : ∃ m : Nat, m = (lo + hi) / 2 := ⟨_, rfl⟩
      have eM : ((lo : Int) + hi) / 2 = (m : Nat) := by omega
      have hm1 : lo ≤ m := by omega
      have hm2 : m < hi := by omega
      have hmL : m < L.length := by omega
      have hmL' : (m : Int) < L.length := by omega
      have hxm : L[m]? = some (L[m]'hmL) := List.getElem?_eq_getElem hmL
      obtain ⟨g, rfl, hg, c0, c1⟩ := HAT.out m _ hxm
      have d0 := H.out.1.keep c0
      have d1 := H.out.1.keep c1
      have HXM := Lib.hid hxm
      cases e : ltZ (L[m]'hmL).1 k with
      | true =>
        have HE := Lib.hid e
        generalize L[m]'hmL = x at *
        obtain ⟨x1, x2⟩ := x
        simp only at d0 d1
        clear c0 c1 hg hm e hxm hmL
        go_wp2_with (go_at_call 57; refine (Rank1bi (x1, x2) k bk _ (H.out.1.keep HK.out)).mono ?_; rintro e2 w1 ⟨rfl, hg1⟩; rw [HE.out])
        go_roundw
        case rel => exact ⟨m + 1, hi, by omega, h2, by go_num, rfl, Lib.hid ⟨H.out.1.trans hg1, mono_lo ordZ HS.out HXM.out HE.out, H.out.2.2⟩⟩
        case measure => simp [intOf]; omega
      | false =>
        have HE := Lib.hid e
        generalize L[m]'hmL = x at *
        obtain ⟨x1, x2⟩ := x
        simp only at d0 d1
        clear c0 c1 hg hm e hxm hmL
        go_wp2_with (go_at_call 57; refine (Rank1bi (x1, x2) k bk _ (H.out.1.keep HK.out)).mono ?_; rintro e2 w1 ⟨rfl, hg1⟩; rw [HE.out])
        go_roundw
        case rel => exact ⟨lo, m, by omega, by omega, rfl, rfl, Lib.hid ⟨H.out.1.trans hg1, H.out.2.1, mono_hi ordZ HS.out HXM.out HE.out⟩⟩
        case measure => simp [intOf]; omega
    · have hlt' : ¬ (lo : Int) < hi := by omega
      obtain rfl : lo = hi := by omega
      go_wp2
      go_ret
      exact ⟨by rw [← rk_uniq ordZ HS.out k lo h2 H.out.2.1 H.out.2.2]; rfl, H.out.1⟩

set_option maxRecDepth 40000 in
theorem Rankbi (p : Option Addr) (v : Value) (L : List Itbi) (k : Int) (w : World) (h : VWbi w p v L) (hn : L.length ≤ 1000000) :
    Calls Try.prog 38 #[.pointer p, .int .u8 (k)] w fun e w' => e = .returned (.int .i64 (rk ltZ L k)) ∧ Gr w w' := by
  have H := Lib.hid h
  clear h
  go_enter Try.func38, Try.ntmps38
  go_wp2_with (first
    | (go_at_call 22; refine (itemsbi p v L _ (H.out.gr (by (repeat (first | (with_reducible exact Gr.refl _) | assumption | (with_reducible apply Gr.from_drew) | (with_reducible apply Gr.alloc) | (with_reducible apply Gr.drew) | (with_reducible refine Gr.trans ?_ (by assumption)) | (with_reducible refine Gr.setCell ?_ (by omega) _)))))).mono ?_; rintro e w1 ⟨rfl, rfl⟩)
    | (go_at_call 56; refine (firstRankbi p v L k w.heap.size _ (H.out.gr (by (repeat (first | (with_reducible exact Gr.refl _) | assumption | (with_reducible apply Gr.from_drew) | (with_reducible apply Gr.alloc) | (with_reducible apply Gr.drew) | (with_reducible refine Gr.trans ?_ (by assumption)) | (with_reducible refine Gr.setCell ?_ (by omega) _))))) hn (by simp [go_sem])).mono ?_; rintro e w1 ⟨rfl, hg⟩))
  go_ret
  exact ⟨rfl, (Gr.alloc (Gr.refl w) _).trans hg⟩

def hasBbi (L : List Itbi) (k : Int) : Bool := (look ltZ L k).isSome
theorem hasB_atbi {L : List Itbi} {k : Int} {x : Itbi} (h : L[rk ltZ L k]? = some x) : hasBbi L k = decide (x.1 = k) := by
  unfold hasBbi look
  rw [h]
  by_cases e : x.1 = k <;> simp [e]
theorem hasB_outbi {L : List Itbi} {k : Int} (h : L.length ≤ rk ltZ L k) : hasBbi L k = false := by
  unfold hasBbi look
  rw [List.getElem?_eq_none h]
  rfl

set_option maxRecDepth 40000 in
set_option maxHeartbeats 1000000 in
theorem findbi (p : Option Addr) (v : Value) (L : List Itbi) (k : Int) (w : World) (h : VWbi w p v L) (hn : L.length ≤ 1000000) :
    Calls Try.prog 16 #[.pointer p, .int .u8 (k)] w fun e w' => e = .returned (.tuple #[.int .i64 (rk ltZ L k), .bool (hasBbi L k)]) ∧ Gr w w' := by
  have H := Lib.hid h
  obtain ⟨a, cap, rfl, hnc, hcm, hat⟩ := h.at
  have HAT := Lib.hid hat
  clear h hat
  unfold maxLen at hcm
  have hr := rk_le (lt := ltZ) L k
  obtain ⟨r, hrd⟩ : ∃ r, r = rk ltZ L k := ⟨_, rfl⟩
  have HRK := Lib.hid hrd
  rw [← hrd] at hr ⊢
  clear hrd
  go_enter Try.func16, Try.ntmps16
  go_wp2_with fail
  refine (Rankbi p _ L k _ H.out hn).mono ?_
  rintro e w1 ⟨rfl, hg⟩
  rw [← HRK.out]
  have H1 := Lib.hid (H.out.gr hg)
  have HG := Lib.hid hg
  clear hg
  go_wp2_with fail
  refine (itemsbi p _ L _ H1.out).mono ?_
  rintro e w2 ⟨rfl, rfl⟩
  by_cases hlt : r < L.length
  · obtain ⟨x, hx⟩ : ∃ x, L[r]? = some x := ⟨_, List.getElem?_eq_getElem hlt⟩
    have HB : Hid (hasBbi L k = decide (x.1 = k)) := Lib.hid (hasB_atbi (by rw [← HRK.out]; exact hx))
    obtain ⟨g, rfl, hg, c0, c1⟩ := HAT.out _ x hx
    have d0 := HG.out.keep c0
    have hlt' : (r : Int) < L.length := by omega
    obtain ⟨x1, x2⟩ := x
    simp only at d0
    clear c0 c1 hg hx
    go_wp2
    refine wp_region_flo (fun _ => False) [] [] (by kernel_rfl) (by kernel_rfl) (fun _ h => h.elim) ?_
    refine flo_seg 16 rfl ?_
    simp only [List.take_succ_cons, List.take_zero, List.drop_succ_cons, List.drop_zero]
    repeat (go_big_quiet_step (fail))
    refine wpQuiet_nil ?_
    refine flo_nil ?_
    go_wp2
    go_ret2
    exact ⟨by rw [HB.out]; rfl, HG.out.drew⟩
  · have HB := Lib.hid (hasB_outbi (L := L) (k := k) (by rw [← HRK.out]; omega))
    have hlt' : ¬ (r : Int) < L.length := by omega
    go_wp2
    refine wp_region_flo (fun _ => False) [] [] (by kernel_rfl) (by kernel_rfl) (fun _ h => h.elim) ?_
    refine flo_seg 16 rfl ?_
    simp only [List.take_succ_cons, List.take_zero, List.drop_succ_cons, List.drop_zero]
    repeat (go_big_quiet_step (fail))
    refine wpQuiet_nil ?_
    refine flo_nil ?_
    go_wp2
    go_ret2
    exact ⟨by rw [HB.out]; rfl, HG.out.drew⟩

def lookVbi (L : List Itbi) (k : Int) : Value := match look ltZ L k with
  | some v => .pointer (v)
  | none => .pointer none
set_option maxRecDepth 40000 in
set_option maxHeartbeats 1000000 in
theorem Getbi (p : Option Addr) (v : Value) (L : List Itbi) (k : Int) (w : World) (h : VWbi w p v L) (hn : L.length ≤ 1000000) :
    Calls Try.prog 10 #[.pointer p, .int .u8 (k)] w fun e w' => e = .returned (.tuple #[lookVbi L k, .bool (hasBbi L k)]) ∧ Gr w w' := by
  have H := Lib.hid h
  clear h
  cases hl : look ltZ L k with
  | none =>
    have HB := Lib.hid (show hasBbi L k = false by unfold hasBbi; rw [hl]; rfl)
    have HV := Lib.hid (show lookVbi L k = .pointer none by unfold lookVbi; rw [hl])
    clear hl
    rw [HB.out, HV.out]
    go_enter Try.func10, Try.ntmps10
    go_wp2_with fail
    refine (findbi p v L k _ H.out hn).mono ?_
    rintro e w1 ⟨rfl, hg⟩
    rw [HB.out]
    go_wp2
    go_ret2
    exact ⟨rfl, hg⟩
  | some u =>
    have HB := Lib.hid (show hasBbi L k = true by unfold hasBbi; rw [hl]; rfl)
    have HV := Lib.hid (show lookVbi L k = .pointer (u) by unfold lookVbi; rw [hl])
    have hg := look_some hl
    have hlt := (List.getElem?_eq_some_iff.1 hg).1
    obtain ⟨b, rfl, hm⟩ : ∃ b, p = some ⟨b, 0, none⟩ ∧ OMbi w b v L := by
      rcases H.out with h | ⟨_, _, rfl⟩
      · exact h
      · simp at hg
    obtain ⟨a, cap, rfl, hnc, hcm, hat⟩ := H.out.at
    obtain ⟨g, rfl, hgl, c0, c1⟩ := hat _ _ hg
    have e1 := ((cellsOf hm.blk).1 1).trans (show _ = some (Value.slice (some ⟨g, 0, none⟩) L.length cap) from rfl)
    unfold maxLen at hcm
    clear hl hg hm hat
    rw [HB.out, HV.out]
    go_enter Try.func10, Try.ntmps10
    go_wp2_with fail
    refine (findbi _ _ L k _ H.out hn).mono ?_
    rintro e w1 ⟨rfl, hg⟩
    rw [HB.out]
    have f1 := hg.keep e1
    have d1 := hg.keep c1
    generalize rk ltZ L k = r at *
    have hlt' : (r : Int) < L.length := by omega
    (try simp only at d1)
    clear c0 c1 e1 hgl
    go_wp2
    go_ret2
    exact ⟨rfl, hg⟩

end Go.Proofs.Ytemjnppplmankaa

/- The methods of an ordered map at its ends and neighbours, New, Set, Delete, at keys uint8 and values *int. Written from YOmc.base by inst.py. -/
set_option linter.unusedVariables false
set_option linter.unusedSimpArgs false
namespace Go.Proofs.Ytemjnppplmankaa
open Go.RowKit
attribute [local go_sem] OvM cell_ovm obj_ovm

set_option maxRecDepth 40000 in
theorem NewObi (w : World) : Calls Try.prog 5 #[] w fun e w' => e = .returned (.pointer (some ⟨w.heap.size, 0, none⟩)) ∧ OMbi w' w.heap.size (.slice none 0 0) [] ∧ Gr w w' := by
  go_enter Try.func5, Try.ntmps5
  go_wp2
  go_ret
  exact ⟨rfl, ⟨blkNew _ _, ⟨rfl, .inl ⟨rfl, rfl⟩⟩, (fun h => by cases h), List.Pairwise.nil⟩, by (repeat (first | (with_reducible exact Gr.refl _) | assumption | (with_reducible apply Gr.from_drew) | (with_reducible apply Gr.alloc) | (with_reducible apply Gr.drew) | (with_reducible refine Gr.trans ?_ (by assumption)) | (with_reducible refine Gr.setCell ?_ (by omega) _)))⟩

/-- What Set and Delete leave. -/
def OMPostbi (b : Nat) (v : Value) (L' : List Itbi) (w w' : World) : Prop := ∃ v', OMbi w' b v' L' ∧ (∀ g, v'.ownBlock = some g → v.ownBlock = some g ∨ w.heap.size ≤ g) ∧ Mdh (fun k => k = b ∨ v.ownBlock = some k) w w'

set_option maxRecDepth 40000 in
set_option maxHeartbeats 2000000 in
theorem Setbi (b : Nat) (v : Value) (L : List Itbi) (k : Int) (u : (Option Addr)) (w : World) (h : OMbi w b v L) (hn : L.length ≤ 100000) :
    Calls Try.prog 7 #[.pointer (some ⟨b, 0, none⟩), .int .u8 (k), .pointer (u)] w fun e w' => e = .returned (.tuple #[lookVbi L k, .bool (hasBbi L k), .int .i64 0]) ∧ OMPostbi b v (putL ltZ L k u) w w' := by
  have H := Lib.hid h
  have c0 := ((cellsOf h.blk).1 0).trans (show _ = some (Value.bool true) from rfl)
  have hr := rk_le (lt := ltZ) L k
  obtain ⟨r, hrd⟩ : ∃ r, r = rk ltZ L k := ⟨_, rfl⟩
  have HRK := Lib.hid hrd
  rw [← hrd] at hr
  have HSRT := Lib.hid (put_srt ordZ h.srt k u)
  clear h hrd
  cases hl : look ltZ L k with
  | none =>
    have HB := Lib.hid (show hasBbi L k = false by unfold hasBbi; rw [hl]; rfl)
    have HV := Lib.hid (show lookVbi L k = .pointer none by unfold lookVbi; rw [hl])
    have HP := Lib.hid (show putL ltZ L k u = L.take r ++ [(k, u)] ++ L.drop r by unfold putL; rw [hl, HRK.out])
    rw [HB.out, HV.out]
    clear hl
    go_enter Try.func7, Try.ntmps7
    go_wp2_with fail
    refine (findbi _ v L k _ (.inl ⟨b, rfl, H.out⟩) (by omega)).mono ?_
    rintro e w1 ⟨rfl, hg⟩
    rw [HB.out, ← HRK.out]
    have H1 := Lib.hid (H.out.gr hg)
    have HG := Lib.hid hg
    have d1 := ((cellsOf H1.out.blk).1 1).trans (show _ = some v from rfl)
    clear hg c0
    go_wp2_with fail
    refine (Insertbi v L.length r (rowbi L) [.int .u8 (k), .pointer (u)] w1.heap.size _ (H1.out.own.gr (by (repeat (first | (with_reducible exact Gr.refl _) | assumption | (with_reducible apply Gr.from_drew) | (with_reducible apply Gr.alloc) | (with_reducible apply Gr.drew) | (with_reducible refine Gr.trans ?_ (by assumption)) | (with_reducible refine Gr.setCell ?_ (by omega) _))))) (row_onebi L) hr (by omega) (blkNew w1 _) rfl (by intro x hx; simp only [List.mem_cons, List.not_mem_nil, or_false] at hx; rcases hx with rfl | rfl <;> rfl) (fun e => by have := H1.out.own.lt e; omega)).mono ?_
    rintro e w2 ⟨g, cap, rfl, ho, hgw, hm⟩
    have HO := Lib.hid ho
    have HM := Lib.hid hm
    have HGW := Lib.hid hgw
    have hb1 : w2.heap[b]? = some (.cells #[.bool true, v] 50 (0, 0)) := hm.blk (blkOld H1.out.blk) (fun e => H1.out.ne e)
    have HB1 := Lib.hid hb1
    have e0 := ((cellsOf hb1).1 0).trans (show _ = some (Value.bool true) from rfl)
    have e1 := ((cellsOf hb1).1 1).trans (show _ = some v from rfl)
    have ef := (cellsOf hb1).2
    have hgb : g ≠ b := by
      have hbl := blkLt H1.out.blk
      rcases hgw with h | h
      · exact fun e => H1.out.ne (by rw [h, e])
      · simp only [World.size_alloc] at h; omega
    have HGB := Lib.hid hgb
    clear ho hm hgw hb1 d1 hgb
    go_wp2
    go_ret3
    refine ⟨rfl, .slice (some ⟨g, 0, none⟩) (L.length + 1) cap, ⟨blkSet (j := 1) (u := .slice (some ⟨g, 0, none⟩) (L.length + 1) cap) HB1.out, ?_, fun e => HGB.out (Option.some.inj e), HSRT.out⟩, fun g' hg' => ?_, ?_⟩
    · have e : rowbi (putL ltZ L k u) = (rowbi L).take (r * 2) ++ [.int .u8 (k), .pointer (u)] ++ (rowbi L).drop (r * 2) := by
        rw [HP.out, row_appbi, row_appbi, row_takebi, row_dropbi]; rfl
      have el : (putL ltZ L k u).length = L.length + 1 := by rw [HP.out]; simp; omega
      rw [e, el]
      exact HO.out.other (p := ⟨b, 1, none⟩) (fun h => HGB.out (Option.some.inj (show some g = some b from h))) _
    · obtain rfl : g = g' := Option.some.inj hg'
      exact HGW.out.imp (fun h => h) (fun h => Nat.le_trans HG.out.sz (by simp at h; omega))
    · exact (((HG.out.mdh _).alloc _).trans (HM.out.mono (fun q hq => .inr hq))).setCell (p := ⟨b, 1, none⟩) (.inl rfl) _
  | some u0 =>
    have HB := Lib.hid (show hasBbi L k = true by unfold hasBbi; rw [hl]; rfl)
    have HV := Lib.hid (show lookVbi L k = .pointer (u0) by unfold lookVbi; rw [hl])
    have HP := Lib.hid (show putL ltZ L k u = L.set r (k, u) by unfold putL; rw [hl, HRK.out])
    have hx : L[r]? = some (k, u0) := by rw [HRK.out]; exact look_some hl
    rw [HB.out, HV.out]
    obtain ⟨a, cap, rfl, hnc, hcm, hat⟩ := VWbi.at (.inl ⟨b, rfl, H.out⟩)
    obtain ⟨g, rfl, hgl, i0, i1⟩ := hat _ _ hx
    have hlt : r < L.length := (List.getElem?_eq_some_iff.1 hx).1
    have hlt' : (r : Int) < L.length := by omega
    unfold maxLen at hcm
    clear hl hat hgl
    go_enter Try.func7, Try.ntmps7
    go_wp2_with fail
    refine (findbi _ _ L k _ (.inl ⟨b, rfl, H.out⟩) (by omega)).mono ?_
    rintro e w1 ⟨rfl, hg⟩
    rw [HB.out, ← HRK.out]
    have H1 := Lib.hid (H.out.gr hg)
    have HG := Lib.hid hg
    have d1 := ((cellsOf H1.out.blk).1 1).trans (show _ = some (Value.slice (some ⟨g, 0, none⟩) L.length cap) from rfl)
    have j1 := hg.keep i1
    (try simp only at j1)
    obtain ⟨cur, hgc, _⟩ := H1.out.own.parts
    have jf := (cellsOf hgc).2
    have hgne : g ≠ b := fun e => H1.out.ne (by rw [e]; rfl)
    have HNE := Lib.hid hgne
    clear hg c0 i0 i1 hgc
    go_wp2
    go_region
    go_wp2
    go_ret3
    refine ⟨rfl, .slice (some ⟨g, 0, none⟩) L.length cap, ⟨blkSetO H1.out.blk (fun e => HNE.out e.symm), ?_, H1.out.ne, HSRT.out⟩, fun g' hg' => .inl hg', ?_⟩
    · have e : rowbi (putL ltZ L k u) = (rowbi L).set (r * 2 + 1) (.pointer (u)) := by
        rw [HP.out]
        exact row_setbi L r k u0 u hx
      have el : (putL ltZ L k u).length = L.length := by rw [HP.out]; simp
      rw [e, el]
      exact H1.out.own.set (by rw [row_lenbi]; omega) _
    · exact ((HG.out.mdh _).setCell (p := ⟨g, r * 2 + 1, none⟩) (.inr rfl) _).drew

end Go.Proofs.Ytemjnppplmankaa

/- Things that lie in blocks of their own, side by side: a thing is a footprint with what is said of the world; a list of things lies in a world where each holds and no two share a block. No program in sight. -/
set_option linter.unusedVariables false
set_option linter.unusedSimpArgs false
namespace Go.Proofs.Ytemjnppplmankaa
open Go.RowKit

theorem erase_perm {α : Type} {R : List α} {i : Nat} (h : i < R.length) : (R[i] :: R.eraseIdx i).Perm R := by
  induction R generalizing i with
  | nil => simp at h
  | cons y R ih =>
    cases i with
    | zero => exact List.Perm.refl _
    | succ i => exact (List.Perm.swap _ _ _).trans ((ih (by simpa using h)).cons y)
theorem erase_set {α : Type} (R : List α) (i : Nat) (b : α) : (R.set i b).eraseIdx i = R.eraseIdx i := by
  induction R generalizing i with
  | nil => rfl
  | cons y R ih =>
    cases i with
    | zero => rfl
    | succ i => simp [ih]
/-- A thing: the blocks that it takes, and what it says. -/
structure Asn where
  S : Nat → Prop
  P : World → Prop
  fr : ∀ {w w' : World} {T : Nat → Prop}, P w → Mdh T w w' → (∀ k, S k → ¬ T k) → P w'
  lt : ∀ {w : World}, P w → ∀ k, S k → k < w.heap.size
def Dis (A B : Asn) : Prop := ∀ k, A.S k → ¬ B.S k
theorem Dis.symm {A B : Asn} (h : Dis A B) : Dis B A := fun k hb ha => h k ha hb
/-- They lie side by side. -/
def Sep (R : List Asn) (w : World) : Prop := (∀ A ∈ R, A.P w) ∧ R.Pairwise Dis
section
variable {R R' : List Asn} {A B : Asn} {w w' : World}
theorem Sep.nil (w : World) : Sep [] w := ⟨(fun _ h => by cases h), List.Pairwise.nil⟩
theorem Sep.get (h : Sep R w) (hA : A ∈ R) : A.P w := h.1 A hA
theorem Sep.head (h : Sep (A :: R) w) : A.P w := h.1 A (by simp)
theorem Sep.tail (h : Sep (A :: R) w) : Sep R w := ⟨fun B hB => h.1 B (List.mem_cons_of_mem _ hB), (List.pairwise_cons.1 h.2).2⟩
theorem Sep.dis (h : Sep (A :: R) w) : ∀ B ∈ R, Dis A B := (List.pairwise_cons.1 h.2).1
theorem Sep.perm (h : Sep R w) (p : R.Perm R') : Sep R' w := ⟨fun A hA => h.1 A (p.mem_iff.2 hA), (p.pairwise_iff (fun {a b} hab => hab.symm)).1 h.2⟩
theorem Sep.sub (h : Sep R w) (p : R'.Sublist R) : Sep R' w := ⟨fun A hA => h.1 A (p.subset hA), h.2.sublist p⟩
/-- Where none of their blocks turns. -/
theorem Sep.mdh {T : Nat → Prop} (h : Sep R w) (m : Mdh T w w') (ht : ∀ A ∈ R, ∀ k, A.S k → ¬ T k) : Sep R w' := ⟨fun A hA => A.fr (h.1 A hA) m (ht A hA), h.2⟩
theorem Sep.gr (h : Sep R w) (g : Gr w w') : Sep R w' := h.mdh (g.mdh fun _ => False) (fun _ _ _ _ h => h)
theorem Sep.lt (h : Sep R w) (hA : A ∈ R) : ∀ k, A.S k → k < w.heap.size := A.lt (h.1 A hA)
/-- One more, in new blocks. -/
theorem Sep.new (h : Sep R w) (g : Gr w w') (hA : A.P w') (hn : ∀ k, A.S k → w.heap.size ≤ k) : Sep (A :: R) w' :=
  ⟨fun B hB => (List.mem_cons.1 hB).elim (fun e => e ▸ hA) (fun e => (h.gr g).1 B e), List.pairwise_cons.2 ⟨fun B hB k ka kb => by have := h.lt hB k kb; have := hn k ka; omega, h.2⟩⟩
/-- One of them turns, within its own blocks and new ones. -/
theorem Sep.step {T : Nat → Prop} (h : Sep (A :: R) w) (m : Mdh T w w') (hT : ∀ k, T k → A.S k ∨ w.heap.size ≤ k) (hB : B.P w') (hS : ∀ k, B.S k → A.S k ∨ w.heap.size ≤ k) : Sep (B :: R) w' := by
  have hd := h.dis
  refine ⟨fun C hC => ?_, List.pairwise_cons.2 ⟨fun C hC k kb kc => ?_, (List.pairwise_cons.1 h.2).2⟩⟩
  · rcases List.mem_cons.1 hC with rfl | hC
    · exact hB
    · refine C.fr (h.1 C (List.mem_cons_of_mem _ hC)) m (fun k hk ht => ?_)
      rcases hT k ht with ha | hn
      · exact hd C hC k ha hk
      · have := h.lt (List.mem_cons_of_mem _ hC) k hk; omega
  · rcases hS k kb with ha | hn
    · exact hd C hC k ha kc
    · have := h.lt (List.mem_cons_of_mem _ hC) k kc; omega
/-- Several of them turn, within their blocks and new ones. -/
theorem Sep.steps {As Bs : List Asn} {T : Nat → Prop} (h : Sep (As ++ R) w) (m : Mdh T w w') (hT : ∀ k, T k → (∃ A ∈ As, A.S k) ∨ w.heap.size ≤ k) (hB : Sep Bs w') (hS : ∀ B ∈ Bs, ∀ k, B.S k → (∃ A ∈ As, A.S k) ∨ w.heap.size ≤ k) : Sep (Bs ++ R) w' := by
  have hd := List.pairwise_append.1 h.2
  refine ⟨fun C hC => ?_, List.pairwise_append.2 ⟨hB.2, hd.2.1, fun B hB C hC k kb kc => ?_⟩⟩
  · rcases List.mem_append.1 hC with hC | hC
    · exact hB.1 C hC
    · refine C.fr (h.1 C (List.mem_append_right _ hC)) m (fun k hk ht => ?_)
      rcases hT k ht with ⟨A, hA, ha⟩ | hn
      · exact hd.2.2 A hA C hC k ha hk
      · have := h.lt (List.mem_append_right _ hC) k hk; omega
  · rcases hS B hB k kb with ⟨A, hA, ha⟩ | hn
    · exact hd.2.2 A hA C hC k ha kc
    · have := h.lt (List.mem_append_right _ hC) k kc; omega
theorem Sep.append {Q : List Asn} (h : Sep R w) (g : Sep Q w) (hd : ∀ A ∈ R, ∀ B ∈ Q, Dis A B) : Sep (R ++ Q) w :=
  ⟨fun A hA => (List.mem_append.1 hA).elim (h.1 A) (g.1 A), List.pairwise_append.2 ⟨h.2, g.2, hd⟩⟩
theorem Sep.left {Q : List Asn} (h : Sep (R ++ Q) w) : Sep R w := h.sub (List.sublist_append_left _ _)
theorem Sep.right {Q : List Asn} (h : Sep (R ++ Q) w) : Sep Q w := h.sub (List.sublist_append_right _ _)
/-- The i-th to the front. -/
theorem Sep.pick (h : Sep R w) {i : Nat} (hi : R[i]? = some A) : Sep (A :: R.eraseIdx i) w := by
  obtain ⟨hlt, rfl⟩ := List.getElem?_eq_some_iff.1 hi
  exact h.perm (erase_perm hlt).symm
theorem Sep.unpick {i : Nat} (hi : i < R.length) (h : Sep (B :: R.eraseIdx i) w) : Sep (R.set i B) w :=
  h.perm (by
    have h1 : i < (R.set i B).length := by simpa using hi
    have := erase_perm h1
    rwa [List.getElem_set_self, erase_set] at this)
end

/-! ### Some things -/
/-- A block that is known whole. -/
def blkA (b : Nat) (o : Obj) : Asn := ⟨fun k => k = b, fun w => w.heap[b]? = some o, fun h m hs => m.blk h (hs b rfl), fun h k hk => by subst hk; exact blkLt h⟩
/-- A row of the owner's own. -/
def rowA (t : TypeId) (K : Nat) (v : Value) (n : Nat) (xs : List Value) : Asn := ⟨fun k => v.ownBlock = some k, fun w => Own w t K v n xs, fun h m hs => h.mdh m hs, fun h k hk => h.lt hk⟩

/-- What lies side by side in blocks that are new since w0. -/
structure SW (w0 : World) (R : List Asn) (w : World) : Prop where
  g : Gr w0 w
  s : Sep R w
  n : ∀ A ∈ R, ∀ k, A.S k → w0.heap.size ≤ k
section
variable {w0 w w' : World} {R R' : List Asn} {A B : Asn}
theorem SW.start (w : World) : SW w [] w := ⟨Gr.refl w, Sep.nil w, (fun _ h => by cases h)⟩
theorem SW.gr (h : SW w0 R w) (g : Gr w w') : SW w0 R w' := ⟨h.g.trans g, h.s.gr g, h.n⟩
theorem SW.new (h : SW w0 R w) (g : Gr w w') (hA : A.P w') (hn : ∀ k, A.S k → w.heap.size ≤ k) : SW w0 (A :: R) w' :=
  ⟨h.g.trans g, h.s.new g hA hn, fun B hB => (List.mem_cons.1 hB).elim (fun e k hk => Nat.le_trans h.g.sz (hn k (e ▸ hk))) (h.n B)⟩
theorem SW.alloc (h : SW w0 R w) (o : Obj) : SW w0 (blkA w.heap.size o :: R) (w.alloc o) := h.new ((Gr.refl w).alloc o) (blkNew w o) (fun k hk => by rw [show k = w.heap.size from hk]; exact Nat.le_refl _)
theorem SW.perm (h : SW w0 R w) (p : R.Perm R') : SW w0 R' w := ⟨h.g, h.s.perm p, fun A hA => h.n A (p.mem_iff.2 hA)⟩
theorem SW.sub (h : SW w0 R w) (p : R'.Sublist R) : SW w0 R' w := ⟨h.g, h.s.sub p, fun A hA => h.n A (p.subset hA)⟩
theorem SW.step {T : Nat → Prop} (h : SW w0 (A :: R) w) (m : Mdh T w w') (hT : ∀ k, T k → A.S k ∨ w.heap.size ≤ k) (hB : B.P w') (hS : ∀ k, B.S k → A.S k ∨ w.heap.size ≤ k) : SW w0 (B :: R) w' := by
  have hz := h.g.sz
  have nA := h.n A (by simp)
  refine ⟨h.g.md m (fun k hk => (hT k hk).elim (nA k) (fun y => by omega)), h.s.step m hT hB hS, fun C hC k hk => ?_⟩
  rcases List.mem_cons.1 hC with rfl | hC
  · exact (hS k hk).elim (nA k) (fun y => by omega)
  · exact h.n C (List.mem_cons_of_mem _ hC) k hk
theorem SW.pick (h : SW w0 R w) {i : Nat} (hi : R[i]? = some A) : SW w0 (A :: R.eraseIdx i) w := by
  obtain ⟨hlt, rfl⟩ := List.getElem?_eq_some_iff.1 hi
  exact h.perm (erase_perm hlt).symm
theorem SW.unpick {i : Nat} (hi : i < R.length) (h : SW w0 (B :: R.eraseIdx i) w) : SW w0 (R.set i B) w :=
  h.perm (by
    have h1 : i < (R.set i B).length := by simpa using hi
    have := erase_perm h1
    rwa [List.getElem_set_self, erase_set] at this)
/-- The i-th turns. -/
theorem SW.at {i : Nat} {T : Nat → Prop} (h : SW w0 R w) (hi : R[i]? = some A) (m : Mdh T w w') (hT : ∀ k, T k → A.S k ∨ w.heap.size ≤ k) (hB : B.P w') (hS : ∀ k, B.S k → A.S k ∨ w.heap.size ≤ k) : SW w0 (R.set i B) w' :=
  SW.unpick (List.getElem?_eq_some_iff.1 hi).1 ((h.pick hi).step m hT hB hS)
theorem SW.get (h : SW w0 R w) {i : Nat} (hi : R[i]? = some A) : A.P w := h.s.1 A (List.mem_of_getElem? hi)
theorem SW.get_ne (h : SW w0 R w) {i j : Nat} (hi : R[i]? = some A) (hj : R[j]? = some B) (hij : i ≠ j) : Dis A B := by
  obtain ⟨h1, rfl⟩ := List.getElem?_eq_some_iff.1 hi
  obtain ⟨h2, rfl⟩ := List.getElem?_eq_some_iff.1 hj
  rcases Nat.lt_or_gt_of_ne hij with h3 | h3
  · exact List.pairwise_iff_getElem.1 h.s.2 i j h1 h2 h3
  · exact (List.pairwise_iff_getElem.1 h.s.2 j i h2 h1 h3).symm
/-- The i-th box is stored into. -/
theorem SW.box {i b : Nat} {t : TypeId} {u : Value} (h : SW w0 R w) (hi : R[i]? = some (blkA b (.cells #[u] t))) (v : Value) : SW w0 (R.set i (blkA b (.cells #[v] t))) (w.setCell ⟨b, 0, none⟩ v) := by
  have hb : w.heap[b]? = some (.cells #[u] t) := h.get hi
  exact h.at hi ((Mdh.refl (fun k => k = b) w).setCell (p := ⟨b, 0, none⟩) rfl v) (fun k hk => .inl hk) (blk1 hb) (fun k hk => .inl hk)
end
end Go.Proofs.Ytemjnppplmankaa

/- A range over a function whose loop variable is laid in a box of its own. No program in sight. -/
set_option linter.unusedVariables false
set_option linter.unusedSimpArgs false
namespace Go.Proofs.Ytemjnppplmankaa
open Go.RowKit
variable {F : Fence} {n : Nat} {P : Program}
theorem wp_rangeFunc_zx {α : Type} {id : Nat} {g : Operand} {ps : Array Tmp} {assign body : Code} {Q : Exit → Act → World → Prop} {a : Act} {w : World}
    {gf : Nat} {lb : Array Value} (hg : a.eval g = .func (.func gf) #[] lb) (eg : ∀ args w, (callFunc gf args).run P w = .ok (.enter gf args) w)
    {encs : α → Array Value} {A : Nat → Prop} {S Sp : List α → Prop} {w0 : World} (hseq : SeqZ Fence.wide 2 P gf lb encs A S Sp w0)
    (hw0 : Mdh (fun k => ¬ A k) w0 w) (hAlt : ∀ k, A k → k < w.heap.size) (hps : ∀ x, (encs x).size = ps.size)
    (I Ie Ir : (Nat → Prop) → List α → World → Prop) (hI : Apart I) (hIe : Apart Ie) (hIr : Apart Ir) (h0 : I (fun _ => False) [] w)
    (hF : ∀ Z pre W, I Z pre W → ∃ T, Frm w T Z W) (o : α → Obj) (a₁ : α → Nat → Act)
    (hassign : ∀ (l : Nat) (x : α) (bx : Nat) (W : World) (K : Act → World → Prop), bx = W.heap.size → K (a₁ x bx) (W.alloc (o x)) →
      assign.wpIn (Fence.wide.inRound l) 1 P (Exit.then K (fun _ _ _ => False)) { tmps := (ps.zip (encs x)).foldl (fun t (p, v) => t.setIfInBounds p v) a.tmps, defers := [] } W)
    (hbody : ∀ (l : Nat) (Z : Nat → Prop) (pre : List α) (x : α) (bx : Nat) (W : World), I Z pre W → w.heap.size ≤ bx → W.heap[bx]? = some (o x) → ¬ Z bx → Z l → (∃ r, W.heap[l]? = some (.loop r)) → Sp (pre ++ [x]) → body.wpIn (Fence.wide.inRound l) 1 P (zPost A Z I (jmp id Ie Ir) (pre ++ [x]) W) (a₁ x bx) W)
    (hend : ∀ (Z : Nat → Prop) (D : Nat) (xs : List α) (W : World), w.heap.size ≤ D → Z D → ((S xs ∧ I Z xs W) ∨ (Sp xs ∧ Ie Z xs W)) → W.heap[D]? = some (.deferred (some [])) → Q .normal { a with defers := { target := .collected D, args := #[] } :: a.defers } W)
    (hret : ∀ (Z : Nat → Prop) (D : Nat) (pre : List α) (W : World), w.heap.size ≤ D → Z D → Sp pre → Ir Z pre W → W.heap[D]? = some (.deferred (some [])) → Q .ret { a with defers := { target := .collected D, args := #[] } :: a.defers } W) :
    (Code.rangeFunc g ps assign body).wp P (Exit.inBlock id Q) a w := by
  refine wpIn_wide.1 (wpIn_rangeFunc_z (F := Fence.wide) (n := 3) rfl (by omega) hg trivial eg hseq hw0 hAlt hps I (jmp id Ie Ir) hI (jmp_apart hIe hIr) h0
    (fun x a' Z W => ∃ bx, a' = a₁ x bx ∧ w.heap.size ≤ bx ∧ W.heap[bx]? = some (o x) ∧ ¬ Z bx)
    (fun x a' Z Z' _ X Y hs hm hz => by
      obtain ⟨bx, e, h1, h2, h3⟩ := hs
      exact ⟨bx, e, h1, hm.blk h2 h3, fun h => (hz bx h).elim h3 (fun y => by have := blkLt h2; omega)⟩)
    (fun l Z pre x W K hi hK => hassign l x _ W K rfl (by
      obtain ⟨T, hT⟩ := hF Z pre W hi
      refine hK _ _ ((Mdh.refl _ W).alloc _) (hI Z Z pre W _ hi ((Mdh.refl _ W).alloc _) (fun k hk => .inl hk)) ⟨W.heap.size, rfl, hT.m.size, blkNew W _, fun h => by have := hT.t _ h; omega⟩))
    (fun l Z pre x a' W hl hr hi ha hlen => by
      obtain ⟨bx, rfl, h1, h2, h3⟩ := ha
      exact hbody l Z pre x bx W hi h1 h2 h3 hl hr hlen)
    (fun Z D xs W h1 h2 h3 h4 h5 => hend Z D xs W h1 h2 (.inl ⟨h3, h4⟩) h5) ?_)
  intro Z D c pre W h1 h2 h3 h4 h5
  refine wpIn_wide.2 ?_
  unfold jmp at h4
  split at h4
  · obtain ⟨rfl, h4⟩ := h4
    refine wp_exit ?_
    show (if _ then _ else _)
    rw [if_pos rfl]
    exact hend Z D pre W h1 h2 (.inr ⟨h3, h4⟩) h5
  · exact wp_ret (hret Z D pre W h1 h2 h3 h4 h5)
  · exact h4.elim
end Go.Proofs.Ytemjnppplmankaa

/- Things side by side through a range over a function. No program in sight. -/
set_option linter.unusedVariables false
set_option linter.unusedSimpArgs false
namespace Go.Proofs.Ytemjnppplmankaa
open Go.RowKit

/-- Things side by side since w0, in a loop that began in wl, beside an iterator that reads A and has Z. -/
structure SWz (w0 wl : World) (A : Nat → Prop) (R : List Asn) (Z : Nat → Prop) (W : World) : Prop where
  s : SW w0 R W
  z : ∀ B ∈ R, ∀ k, B.S k → ¬ Z k
  a : ∀ B ∈ R, ∀ k, B.S k → ¬ A k
  zn : ∀ k, Z k → wl.heap.size ≤ k
  zl : ∀ k, Z k → k < W.heap.size
  sz : wl.heap.size ≤ W.heap.size
section
variable {w0 wl W W' : World} {A Z : Nat → Prop} {R : List Asn} {B B' : Asn}
theorem SWz.start (h : SW w0 R wl) (ha : ∀ B ∈ R, ∀ k, B.S k → ¬ A k) : SWz w0 wl A R (fun _ => False) wl := ⟨h, fun _ _ _ _ h => h, ha, fun _ h => h.elim, fun _ h => h.elim, Nat.le_refl _⟩
theorem SWz.apart {β : Type} (hwl : w0.heap.size ≤ wl.heap.size) (R : β → List Asn) : Apart (fun Z s W => SWz w0 wl A (R s) Z W) := fun Z Z' s X Y h hm hz =>
  ⟨⟨h.s.g.md hm (fun k hk => Nat.le_trans hwl (h.zn k hk)), h.s.s.mdh hm h.z, h.s.n⟩, fun B hB k hk hz' => (hz k hz').elim (h.z B hB k hk) (fun y => by have := h.s.s.lt hB k hk; omega), h.a,
    fun k hk => (hz k hk).elim (h.zn k) (fun y => Nat.le_trans h.sz y.1), fun k hk => (hz k hk).elim (fun y => Nat.lt_of_lt_of_le (h.zl k y) hm.size) (fun y => y.2), Nat.le_trans h.sz hm.size⟩
theorem SWz.frm (g : Gr w0 wl) (h : SWz w0 wl A R Z W) : ∃ T, Frm wl T Z W := ⟨fun _ => True, ⟨h.sz, fun _ _ hn => absurd trivial hn, (Below.os h.s.g).trans (Below.os g).symm, (Below.tape h.s.g).trans (Below.tape g).symm, (Below.output h.s.g).trans (Below.output g).symm⟩, h.zn, h.zl⟩
/-- The i-th turns. -/
theorem SWz.step {i : Nat} {T : Nat → Prop} (h : SWz w0 wl A R Z W) (hi : R[i]? = some B) (hA : ∀ k, A k → k < wl.heap.size) (m : Mdh T W W') (hT : ∀ k, T k → B.S k ∨ W.heap.size ≤ k) (hB : B'.P W') (hS : ∀ k, B'.S k → B.S k ∨ W.heap.size ≤ k) :
    SWz w0 wl A (R.set i B') Z W' ∧ Mdh (fun k => ¬ A k ∧ ¬ Z k) W W' := by
  have hBm := List.mem_of_getElem? hi
  have hnew : ∀ k, (B.S k ∨ W.heap.size ≤ k) → ¬ A k ∧ ¬ Z k := fun k hk => by
    rcases hk with hk | hk
    · exact ⟨h.a B hBm k hk, h.z B hBm k hk⟩
    · exact ⟨fun h1 => by have := hA k h1; have := h.sz; omega, fun h1 => by have := h.zl k h1; omega⟩
  refine ⟨⟨h.s.at hi m hT hB hS, fun C hC k hk => ?_, fun C hC k hk => ?_, h.zn, fun k hk => Nat.lt_of_lt_of_le (h.zl k hk) m.size, Nat.le_trans h.sz m.size⟩, m.mono (fun k hk => hnew k (hT k hk))⟩
  · rcases List.mem_or_eq_of_mem_set hC with hC | rfl
    · exact h.z C hC k hk
    · exact (hnew k (hS k hk)).2
  · rcases List.mem_or_eq_of_mem_set hC with hC | rfl
    · exact h.a C hC k hk
    · exact (hnew k (hS k hk)).1
theorem SWz.gr (h : SWz w0 wl A R Z W) (g : Gr W W') : SWz w0 wl A R Z W' ∧ Mdh (fun k => ¬ A k ∧ ¬ Z k) W W' :=
  ⟨⟨h.s.gr g, h.z, h.a, h.zn, fun k hk => Nat.lt_of_lt_of_le (h.zl k hk) g.sz, Nat.le_trans h.sz g.sz⟩, g.mdh _⟩
/-- The i-th box is stored into. -/
theorem SWz.box {i b : Nat} {t : TypeId} {cs cs' : Array Value} (h : SWz w0 wl A R Z W) (hi : R[i]? = some (blkA b (.cells cs t))) (hA : ∀ k, A k → k < wl.heap.size) (m : Mdh (fun k => k = b) W W') (hB : W'.heap[b]? = some (.cells cs' t)) :
    SWz w0 wl A (R.set i (blkA b (.cells cs' t))) Z W' ∧ Mdh (fun k => ¬ A k ∧ ¬ Z k) W W' := h.step hi hA m (fun k hk => .inl hk) hB (fun k hk => .inl hk)
end
end Go.Proofs.Ytemjnppplmankaa
