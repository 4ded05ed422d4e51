/- For rows: slices of structs, and bytes. -/
import Derived.Test.YtemjnppplmankaaBd2
import Derived.Deep.Slices
import Derived.Deep.Fields
import Derived.ChangeSame
import Derived.ChangeArms
import Derived.OpenShut
import Derived.ShutString
import Derived.ChangeOld
import Derived.Lib.SmallJoins
import Derived.Test.YtemjnppplmankaaBd3
import Derived.Test.YtemjnppplmankaaRows
import Derived.BigQuiet
import Derived.Deep.QuietTactic
import Derived.Deep.DeepMust
import Derived.WalkKit
import Derived.Lib.Hide
import Derived.Test.YtemjnppplmankaaBd4
import Derived.Deep.CutBlock
import Derived.Deep.DeepCutAuto
set_option linter.unusedVariables false
set_option linter.unusedSimpArgs false
namespace Go.Proofs.Ytemjnppplmankaa
open Go.ChangeShapes Go.WideShapes Go.Deep
section
variable {H : Type} {enc : TypeId × Value → H} {P : Program} {w : World} {base : Nat} {spare : Nat → Bool} {held : Bool}
theorem open_slice_fields {t e : TypeId} {fs : Array Field} {fuel : Nat} {cs : List Value} {x : DataW H × List MemPlace} (ht : P.underlying t = some (.slice e)) (he : P.underlying e = some (.struct fs))
    (hone : oneCellFields P fs = true) (hC : P.cellsOf e = fs.size) (h : DataW.trod enc P w base spare held fuel t cs = some x) :
    (cs = [.slice none 0 0] ∧ x = (.nil, [])) ∨
    ∃ (a : Addr) (len cap m : Nat) (D : Nat → DataW H) (Pl : Nat → List MemPlace), cs = [.slice (some a) len cap] ∧ base ≤ a.block ∧ len ≤ cap ∧ cap ≤ maxLen ∧ m = (if spare a.block then cap else len) ∧
      x = (.slice ((List.range len).map D) ((List.range (m - len)).map fun j => D (len + j)), MemPlace.row a (m * fs.size) ++ (List.range m).flatMap Pl) ∧
      ∀ i, i < m → ∃ (ys : List (DataW H × List MemPlace)) (n : Nat), D i = .agg (ys.map (·.1)) ∧ Pl i = ys.flatMap (·.2) ∧ ys.length = fs.size ∧
        ∀ (j : Nat) (f : Field), fs[j]? = some f → ∃ (v : Value) (y : DataW H × List MemPlace), w.cell? (a.add (i * fs.size + j)) = some v ∧ ys[j]? = some y ∧ DataW.trod enc P w base spare held n f.type [v] = some y := by
  rcases open_slice ht h with h0 | ⟨a, len, cap, m, n, D, Pl, hcs, hb, hl, hm, hmm, hx, hi⟩
  · exact .inl h0
  · refine .inr ⟨a, len, cap, m, D, Pl, hcs, hb, hl, hm, hmm, by rw [hC] at hx; exact hx, fun i him => ?_⟩
    obtain ⟨cs', hc, ht'⟩ := hi i him
    rw [hC] at hc
    obtain ⟨ys, n', hn', hy, hlen, hyl, hf⟩ := DataW.trod_struct he ht'
    obtain ⟨_, hcl, hat⟩ := World.cells?_some hc
    simp only [Prod.mk.injEq] at hy
    refine ⟨ys, n', hy.1, hy.2, hyl, fun j f hj => ?_⟩
    obtain ⟨ho, hk⟩ := hone_of hone j f hj
    have hjl : j < fs.size := (Array.getElem?_eq_some_iff.1 hj).1
    have hcell := hat j hjl
    have hv : cs'[j]? = some (cs'[j]'(by omega)) := List.getElem?_eq_getElem (by omega)
    have h1 := hf j f hj
    rw [ho, hk] at h1
    have hone' : (cs'.drop j).take 1 = [cs'[j]'(by omega)] := by
      rw [List.drop_eq_getElem_cons (by omega)]
      rfl
    rw [hone'] at h1
    have hys : ys[j]? = some (ys[j]'(by omega)) := List.getElem?_eq_getElem (by omega)
    refine ⟨_, _, ?_, hys, h1.trans hys⟩
    rw [← Go.Deep.add_add, hcell, hv]
end

open Go.RowKit
theorem list_of {α : Type} (len : Nat) (d : α) (R : Nat → α → Prop) (h : ∀ i, i < len → ∃ x, R i x) : ∃ l : List α, l.length = len ∧ ∀ i, i < l.length → R i (l[i]?.getD d) := by
  classical
  refine ⟨(List.range len).map (fun i => if hi : i < len then Classical.choose (h i hi) else d), by simp, fun i hi => ?_⟩
  have hi' : i < len := by simpa using hi
  simp only [List.getElem?_map, List.getElem?_range hi', Option.map_some, Option.getD_some, dif_pos hi']
  exact Classical.choose_spec (h i hi')
theorem u8_of {a : Int} (h : (Lit.int .u8 a).wf = true) : ∃ c : UInt8, a = (c.toNat : Int) := by
  have h' : (decide (IntKind.u8.min ≤ a) && decide (a ≤ IntKind.u8.max)) = true := h
  have : 0 ≤ a ∧ a ≤ 255 := by simpa [IntKind.min, IntKind.max, IntKind.signed, IntKind.bits] using h'
  refine ⟨UInt8.ofNat a.toNat, ?_⟩
  rw [UInt8.toNat_ofNat_of_lt' (by have : UInt8.size = 256 := rfl; omega)]
  omega
theorem at_add {w : World} {a : Addr} {k : Nat} {v : Value} (h : w.cell? (a.add k) = some v) (hs : a.spot = none) : a.block < w.heap.size ∧ w.cell? ⟨a.block, a.off + k, none⟩ = some v := by
  have e : a.add k = ⟨a.block, a.off + k, none⟩ := by
    unfold Addr.add
    obtain ⟨b, o, s⟩ := a
    split
    · simp_all
    · rfl
  rw [e] at h
  refine ⟨?_, h⟩
  unfold World.cell? at h
  refine Classical.byContradiction fun hc => ?_
  rw [Array.getElem?_eq_none (by simpa using hc)] at h
  cases h
theorem spot_add {w : World} {a : Addr} {v : Value} (h : w.cell? (a.add 0) = some v) : a.spot = none := by
  simpa [Addr.add] using World.cell?_spot h
end Go.Proofs.Ytemjnppplmankaa

/- Contract of slices.Insert of one element, at drumlin/ordmap.item[byte, drumlin/drumlinlaw03.pair]. Written from YIns.base by inst.py. -/
set_option linter.unusedVariables false
set_option linter.unusedSimpArgs false
namespace Go.Proofs.Ytemjnppplmankaa
open Go.RowKit
attribute [local go_sem] OvM cell_ovm obj_ovm

theorem infoItbp : (Try.prog.info? 55).map (fun i => (i.zero, i.size, i.bytes)) = some (some (.agg #[.int .u8 0, .int .i64 0, .string ⟨#[]⟩]), 3, 32) := by kernel_rfl
theorem sizeItbp (w : World) : (Go.sizeOf 55).run Try.prog w = .ok 3 w := by kernel_rfl
theorem ovlItbp (w : World) (g vb o lb cb : Nat) (cur ys : Array Value) (hg : w.heap[g]? = some (.cells cur 55 (0, 0))) (hv : w.heap[vb]? = some (.cells ys 55 (0, 0))) (hne : vb ≠ g) (hs : cur.size ≠ 0) :
    (callFunc 36 #[.slice (some ⟨vb, 0, none⟩) 1 1, .slice (some ⟨g, o, none⟩) lb cb]).run Try.prog w = .ok (.value (.bool false)) w := by
  rw [run_callFunc_extern Try.func36 (by kernel_rfl) (by kernel_rfl) (by kernel_rfl) (e := Extern.SlicesOverlaps.overlaps #[45, 45] #[4]) (by kernel_rfl),
    Lib.run_overlaps_apart w 45 4 55 Try.underlying45 3 sizeItbp ⟨vb, 0, none⟩ ⟨g, o, none⟩ 1 1 lb cb hne 55 55 ys.size cur.size (by simp [World.shape?, hv]) (by simp [World.shape?, hg]) hs ((cellsOf hv).2 _) ((cellsOf hv).2 _)]
  rfl

set_option maxRecDepth 40000 in
set_option maxHeartbeats 4000000 in
theorem Insert_shiftbp (g n cap i : Nat) (xs ys : List Value) (vb : Nat) (w : World) (hown : Own w 55 3 (.slice (some ⟨g, 0, none⟩) n cap) n xs) (h1 : ∀ u ∈ xs, u.oneCell' = true) (hi : i < n) (hroom : n + 1 ≤ cap)
    (hvb : w.heap[vb]? = some (.cells ys.toArray 55 (0, 0))) (hy : ys.length = 3) (hy1 : ∀ u ∈ ys, u.oneCell' = true) (hne : vb ≠ g) :
    Calls Try.prog 15 #[.slice (some ⟨g, 0, none⟩) n cap, .int .i64 i, .slice (some ⟨vb, 0, none⟩) 1 1] w (InsPost 3 55 (.slice (some ⟨g, 0, none⟩) n cap) n i xs ys w) := by
  obtain ⟨cur, hg, hnc, hcm, hcs, htk⟩ := hown.parts
  have hsz : (Try.prog.info? 55).map (·.size) = some 3 := by kernel_rfl
  have hx : xs.length = n * 3 := hown.1
  have hb2 : ¬ cap = i + 1 := by omega
  have hb4 : ¬ cap = i := by omega
  have hin : i ≤ n := by omega
  have hi1 : (i : Int) + 1 ≤ (n : Int) + 1 := by omega
  have hieq : ¬ (i : Int) = n := by omega
  have hroom' : ¬ (cap : Int) < (n : Int) + 1 := by omega
  unfold maxLen at hcm
  have hsrc : ∀ (w1 : World), w1.heap[g]? = some (.cells cur 55 (0, 0)) → ∀ j v, (xs.drop (i * 3))[j]? = some v → w1.cell? ((⟨g, i * 3, none⟩ : Addr).add j) = some v := fun w1 hw1 j v hj => by
    rw [show (⟨g, i * 3, none⟩ : Addr).add j = ⟨g, i * 3 + j, none⟩ by unfold Addr.add; split <;> simp_all, (cellsOf hw1).1]
    rw [List.getElem?_drop, ← htk, List.getElem?_take] at hj
    split at hj
    · simpa using hj
    · cases hj
  have HCUR : Hid (cur.size = cap * 3 ∧ cur.toList.take (n * 3) = xs ∧ xs.length = n * 3) := Lib.hid ⟨hcs, htk, hx⟩
  have hdl : (xs.drop (i * 3)).length = (n - i) * 3 := by rw [List.length_drop, hx]; omega
  have hcp1 := fun (w1 : World) (hw1 : w1.heap[g]? = some (.cells cur 55 (0, 0))) dc sc => run_copyK (P := Try.prog) w1 45 45 3 55 3 g ((i + 1) * 3) (n - i) dc ⟨g, i * 3, none⟩ (n + 1 - i) sc cur 55 (xs.drop (i * 3)) Try.underlying45 hsz hw1
    (by rw [hdl, show Nat.min (n + 1 - i) (n - i) = n - i by simp only [Nat.min_def]; split <;> omega]) (hsrc w1 hw1) (by rw [hdl, hcs]; omega) (fun v hv => h1 v (List.mem_of_mem_drop hv))
  obtain ⟨cur1, hc1⟩ : ∃ cur1, cur1 = (cur.toList.take ((i + 1) * 3) ++ xs.drop (i * 3) ++ cur.toList.drop ((i + 1) * 3 + (xs.drop (i * 3)).length)).toArray := ⟨_, rfl⟩
  rw [← hc1] at hcp1
  have hs1 : cur1.size = cur.size := by
    have := seg_len cur.toList (xs.drop (i * 3)) ((i + 1) * 3) (by rw [hdl, Array.length_toList, hcs]; omega)
    rw [hc1]; simpa using this
  have hcp2 := fun (w1 : World) (hw1 : w1.heap[g]? = some (.cells cur1 55 (0, 0))) (hw2 : w1.heap[vb]? = some (.cells ys.toArray 55 (0, 0))) dc => run_copyK (P := Try.prog) w1 45 45 3 55 3 g (i * 3) (n + 1 - i) dc ⟨vb, 0, none⟩ 1 1 cur1 55 ys Try.underlying45 hsz hw1
    (by rw [hy, show Nat.min 1 (n + 1 - i) = 1 by simp only [Nat.min_def]; split <;> omega]) (fun j v hj => by rw [show (⟨vb, 0, none⟩ : Addr).add j = ⟨vb, j, none⟩ by unfold Addr.add; split <;> simp_all, (cellsOf hw2).1]; simpa using hj) (by rw [hy, hs1, hcs]; omega) hy1
  have hov := fun (w1 : World) (hw1 : w1.heap[g]? = some (.cells cur 55 (0, 0))) (hw2 : w1.heap[vb]? = some (.cells ys.toArray 55 (0, 0))) o lb cb => ovlItbp w1 g vb o lb cb cur ys.toArray hw1 hw2 hne (by rw [hcs]; omega)
  have HC1 := Lib.hid hc1
  have HP1 := Lib.hid hcp1
  have HP2 := Lib.hid hcp2
  have hov1 := fun o lb cb => hov w hg hvb o lb cb
  clear hcp1 hcp2 hov hsrc hcs htk hx hdl hc1 hs1 hown
  go_enter Try.func15, Try.ntmps15
  go_wp2_with (simp only [hov1])
  refine wp_region_flo (fun k => k = g) [] [] (by kernel_rfl) (by kernel_rfl) (fun k hk => by subst hk; exact blkLt hg) ?_
  refine flo_seg 8 rfl ?_
  simp only [List.take_succ_cons, List.take_zero, List.drop_succ_cons, List.drop_zero]
  repeat (go_big_quiet_step (fail))
  refine wpQuiet_nil ?_
  refine flo_eff rfl rfl rfl rfl (fun K hK => ?_)
  refine wp_copyK _ (.tmp 73) (.tmp 76) 45 45 rfl (.slice (some ⟨g, (i + 1) * 3, none⟩) (n - i) (cap - (i + 1))) (.slice (some ⟨g, i * 3, none⟩) (n + 1 - i) (cap - i)) rfl rfl (HP1.out w.drew hg _ _) ?_; (have HG1 := Lib.hid (setRow_at (w := w.drew) (cs := cur1) hg)); (have HV1 := Lib.hid ((setRow_ne (w := w.drew) cur1 hne).trans hvb)); (have HM1 := Lib.hid (setRow_mdh (S := fun k => k = g) (Mdh.refl _ w.drew) (g := g) (.inl rfl) cur1)); go_wp2; refine ⟨HM1.out.mono (fun q hq => by simpa using hq), ?_⟩
  refine flo_nil ?_
  go_wp2_with (refine wpList_copyK _ rfl (.tmp 80) (.tmp 81) 45 45 rfl (.slice (some ⟨g, i * 3, none⟩) (n + 1 - i) (cap - i)) (.slice (some ⟨vb, 0, none⟩) 1 1) rfl rfl (HP2.out _ HG1.out HV1.out _) ?_)
  go_ret
  obtain ⟨hcs, htk, hx⟩ := HCUR.out
  have hL := laid_in cur.toList xs ys (i * 3) ((n - i) * 3) 3 (by rw [show i * 3 + (n - i) * 3 = n * 3 by omega]; exact htk) (by rw [Array.length_toList, hcs]; omega) hy cur1.toList (cur1.toList.take (i * 3) ++ ys ++ cur1.toList.drop (i * 3 + ys.length))
    (by rw [HC1.out, show i * 3 + 3 = (i + 1) * 3 by omega]) rfl
  refine ⟨g, cap, rfl, Own.ofParts (setRow_at HG1.out) hroom (by unfold maxLen; omega) ?_ ?_, .inl rfl, ?_⟩
  · have := hL.2
    simpa [hcs, hy] using this
  · have := hL.1
    rw [show i * 3 + 3 + (n - i) * 3 = (n + 1) * 3 by omega] at this
    simpa [hy] using this
  · exact setRow_mdh (S := fun k => (Value.slice (some ⟨g, 0, none⟩) n cap).ownBlock = some k) (setRow_mdh (S := fun k => (Value.slice (some ⟨g, 0, none⟩) n cap).ownBlock = some k) ((Mdh.refl _ w).drew) (g := g) (.inl rfl) cur1) (g := g) (.inl rfl) _

set_option maxRecDepth 40000 in
set_option maxHeartbeats 4000000 in
theorem Insert_endbp (v : Value) (n : Nat) (xs ys : List Value) (vb : Nat) (w : World) (hown : Own w 55 3 v n xs) (hn : n ≤ 1000000)
    (hvb : w.heap[vb]? = some (.cells ys.toArray 55 (0, 0))) (hy : ys.length = 3) (hy1 : ∀ u ∈ ys, u.oneCell' = true) :
    Calls Try.prog 15 #[v, .int .i64 n, .slice (some ⟨vb, 0, none⟩) 1 1] w (InsPost 3 55 v n n xs ys w) := by
  obtain ⟨i0, hi0, hz0, hz1, hz2⟩ := info_parts infoItbp
  have hx : xs.length = n * 3 := hown.1
  have HN : Hid (∀ j u, ys[j]? = some u → w.cell? ((⟨vb, 0, none⟩ : Addr).add j) = some u) := Lib.hid (fun j u hj => by
    rw [show (⟨vb, 0, none⟩ : Addr).add j = ⟨vb, j, none⟩ by unfold Addr.add; split <;> simp_all, (cellsOf hvb).1]; simpa using hj)
  have HO := Lib.hid hown
  have HX : Hid (xs.take (n * 3) ++ ys ++ xs.drop (n * 3) = xs ++ ys) := Lib.hid (by rw [List.take_of_length_le (by omega), List.drop_of_length_le (by omega), List.append_nil])
  rcases hown.2 with ⟨rfl, rfl⟩ | ⟨g, cap, cur, rfl, _, _, hnc, hcm, _⟩
  · clear hown hx
    go_enter Try.func15, Try.ntmps15
    go_wp2_with (at_builtin; go_must (refine wpList_app2 _ rfl (.tmp 23) (.tmp 24) 45 45 rfl 55 Try.underlying45 i0 _ 3 32 Try.underlying45 hi0 hz0 hz1 hz2 rfl (by decide) (.slice none 0 0) 0 xs rfl HO.out ⟨vb, 0, none⟩ 1 1 ys rfl hy HN.out hy1 (by decide) (by simp only [maxLen]; omega) (by omega) ?_); intro g2 cap2 w2 ho2 hwh hgr; have HO2 := Lib.hid ho2; have HW2 := Lib.hid hwh; have HG2 := Lib.hid hgr; clear ho2 hwh hgr)
    all_goals
      go_ret
      refine ⟨g2, cap2, rfl, by rw [HX.out]; exact HO2.out, HW2.out, Mdh.grown (Mdh.refl _ w) HG2.out (fun r hr => hr)⟩
  · clear hown hx
    unfold maxLen at hcm
    go_enter Try.func15, Try.ntmps15
    go_wp2_with (at_builtin; go_must (refine wpList_app2 _ rfl (.tmp 23) (.tmp 24) 45 45 rfl 55 Try.underlying45 i0 _ 3 32 Try.underlying45 hi0 hz0 hz1 hz2 rfl (by decide) (.slice (some ⟨g, 0, none⟩) n cap) n xs rfl HO.out ⟨vb, 0, none⟩ 1 1 ys rfl hy HN.out hy1 (by decide) (by simp only [maxLen]; omega) (by omega) ?_); intro g2 cap2 w2 ho2 hwh hgr; have HO2 := Lib.hid ho2; have HW2 := Lib.hid hwh; have HG2 := Lib.hid hgr; clear ho2 hwh hgr)
    all_goals
      go_ret
      refine ⟨g2, cap2, rfl, by rw [HX.out]; exact HO2.out, HW2.out, Mdh.grown (Mdh.refl _ w) HG2.out (fun r hr => hr)⟩

set_option maxRecDepth 40000 in
set_option maxHeartbeats 4000000 in
theorem Insert_growbp (g n cap i : Nat) (xs ys : List Value) (vb : Nat) (w : World) (hown : Own w 55 3 (.slice (some ⟨g, 0, none⟩) n cap) n xs) (h1 : ∀ u ∈ xs, u.oneCell' = true) (hi : i < n) (hroom : cap < n + 1) (hn : n ≤ 1000000)
    (hvb : w.heap[vb]? = some (.cells ys.toArray 55 (0, 0))) (hy : ys.length = 3) (hy1 : ∀ u ∈ ys, u.oneCell' = true) :
    Calls Try.prog 15 #[.slice (some ⟨g, 0, none⟩) n cap, .int .i64 i, .slice (some ⟨vb, 0, none⟩) 1 1] w (InsPost 3 55 (.slice (some ⟨g, 0, none⟩) n cap) n i xs ys w) := by
  obtain ⟨i0, hi0, hz0, hz1, hz2⟩ := info_parts infoItbp
  obtain ⟨cur, hg, hnc, hcm, hcs, htk⟩ := hown.parts
  have hsz : (Try.prog.info? 55).map (·.size) = some 3 := by kernel_rfl
  have hx : xs.length = n * 3 := hown.1
  have hcell := hown.cells rfl
  have hci : ¬ cap = i := by omega
  have hin : i ≤ n := by omega
  have hieq : ¬ (i : Int) = n := by omega
  have hroom' : (cap : Int) < (n : Int) + 1 := by omega
  have hkk : (n : Int) + 1 - (i : Int) = ((n + 1 - i : Nat) : Int) := by omega
  have hik : i + (n + 1 - i) = n + 1 := by omega
  have hgw := blkLt hg
  have hvw := blkLt hvb
  have hadd : ∀ b j : Nat, (⟨b, 0, none⟩ : Addr).add j = ⟨b, j, none⟩ := fun b j => by unfold Addr.add; split <;> simp_all
  have hold : (Builtin.firstCells i0.size i (.slice (some ⟨g, 0, none⟩) i cap)).run Try.prog w.drew = .ok (xs.take (i * 3)).toArray w.drew := by
    rw [hz1]
    exact run_firstCells_some w.drew 3 i ⟨g, 0, none⟩ i cap (xs.take (i * 3)) (by rw [List.length_take]; omega) (fun j v hj => by
      rw [List.getElem?_take] at hj
      split at hj
      · exact hcell j v hj
      · cases hj)
  have hrz : ∀ ty, (Builtin.append_ #[45, 3] ty #[.slice (some ⟨g, 0, none⟩) i cap, .int .i64 ((n : Int) + 1 - (i : Int))]).run Try.prog w =
      .ok (.slice (some ⟨w.heap.size, 0, none⟩) (n + 1) (grownCap w (n + 1) cap 55)) (w.drew.alloc (.cells ((xs.take (i * 3)).toArray ++ Builtin.zeroCells (Value.agg #[.int .u8 0, .int .i64 0, .string ⟨#[]⟩]).cells (n + 1 - i) ++ Builtin.zeroCells (Value.agg #[.int .u8 0, .int .i64 0, .string ⟨#[]⟩]).cells (grownCap w (n + 1) cap 55 - (n + 1))) 55)) := fun ty => by
    have h := Lib.run_append_grow_zeros w 45 3 ty 55 i0 _ .i64 .i64 Try.underlying45 Try.underlying3 hi0 hz0 (some ⟨g, 0, none⟩) i cap (xs.take (i * 3)) hold (n + 1 - i) (by omega) (by omega) (by omega) (by omega) (by rw [hz2]; omega) (by rw [hz2, hik]; exact growslice_fits hroom (by omega))
    rw [hik] at h
    rw [hkk]
    exact h
  obtain ⟨G, hG⟩ : ∃ G, G = grownCap w (n + 1) cap 55 := ⟨_, rfl⟩
  obtain ⟨ROW, hROW⟩ : ∃ ROW : Array Value, ROW = (xs.take (i * 3)).toArray ++ Builtin.zeroCells (Value.agg #[.int .u8 0, .int .i64 0, .string ⟨#[]⟩]).cells (n + 1 - i) ++ Builtin.zeroCells (Value.agg #[.int .u8 0, .int .i64 0, .string ⟨#[]⟩]).cells (G - (n + 1)) := ⟨_, rfl⟩
  rw [← hG] at hrz
  rw [← hROW] at hrz
  have hGn : n + 1 ≤ G := by rw [hG]; exact grownCap_ge w _ _ _
  have hG63 : G ≤ maxLen := by rw [hG]; exact grownCap_le_maxLen w _ _ _ (by unfold maxLen; omega)
  obtain ⟨ZS, hZS, hROWl⟩ : ∃ ZS : List Value, ZS.length = (G - i) * 3 ∧ ROW.toList = xs.take (i * 3) ++ ZS := by
    refine ⟨(Builtin.zeroCells (Value.agg #[.int .u8 0, .int .i64 0, .string ⟨#[]⟩]).cells (n + 1 - i)).toList ++ (Builtin.zeroCells (Value.agg #[.int .u8 0, .int .i64 0, .string ⟨#[]⟩]).cells (G - (n + 1))).toList, ?_, ?_⟩
    · rw [List.length_append, zeroCells_len, zeroCells_len, show (Value.agg #[.int .u8 0, .int .i64 0, .string ⟨#[]⟩]).cells.size = 3 from rfl]; omega
    · rw [hROW]; simp
  have hRs : ROW.size = G * 3 := by
    rw [← Array.length_toList, hROWl, List.length_append, hZS, List.length_take]; omega
  have hdl : (xs.drop (i * 3)).length = (n - i) * 3 := by rw [List.length_drop, hx]; omega
  obtain ⟨cur1, hc1⟩ : ∃ cur1, cur1 = (ROW.toList.take (i * 3) ++ ys ++ ROW.toList.drop (i * 3 + ys.length)).toArray := ⟨_, rfl⟩
  have hs1 : cur1.size = G * 3 := by
    have := seg_len ROW.toList ys (i * 3) (by rw [hy, Array.length_toList, hRs]; omega)
    rw [hc1, ← hRs]; simpa using this
  have hcp1 := fun (w1 : World) (hw1 : w1.heap[w.heap.size]? = some (.cells ROW 55 (0, 0))) (hw2 : w1.heap[vb]? = some (.cells ys.toArray 55 (0, 0))) dc => run_copyK (P := Try.prog) w1 45 45 3 55 3 w.heap.size (i * 3) (n + 1 - i) dc ⟨vb, 0, none⟩ 1 1 ROW 55 ys Try.underlying45 hsz hw1
    (by rw [hy, show Nat.min 1 (n + 1 - i) = 1 by simp only [Nat.min_def]; split <;> omega]) (fun j v hj => by rw [hadd, (cellsOf hw2).1]; simpa using hj) (by rw [hy, hRs]; omega) hy1
  rw [← hc1] at hcp1
  have hcp2 := fun (w1 : World) (hw1 : w1.heap[w.heap.size]? = some (.cells cur1 55 (0, 0))) (hw2 : w1.heap[g]? = some (.cells cur 55 (0, 0))) dc sc => run_copyK (P := Try.prog) w1 45 45 3 55 3 w.heap.size ((i + 1) * 3) (n - i) dc ⟨g, i * 3, none⟩ (n - i) sc cur1 55 (xs.drop (i * 3)) Try.underlying45 hsz hw1
    (by rw [hdl, show Nat.min (n - i) (n - i) = n - i by simp only [Nat.min_def]; split <;> omega]) (fun j v hj => by
      rw [show (⟨g, i * 3, none⟩ : Addr).add j = ⟨g, i * 3 + j, none⟩ by unfold Addr.add; split <;> simp_all, (cellsOf hw2).1]
      rw [List.getElem?_drop, ← htk, List.getElem?_take] at hj
      split at hj
      · simpa using hj
      · cases hj) (by rw [hdl, hs1]; omega) (fun v hv => h1 v (List.mem_of_mem_drop hv))
  obtain ⟨cur2, hc2⟩ : ∃ cur2, cur2 = (cur1.toList.take ((i + 1) * 3) ++ xs.drop (i * 3) ++ cur1.toList.drop ((i + 1) * 3 + (xs.drop (i * 3)).length)).toArray := ⟨_, rfl⟩
  rw [← hc2] at hcp2
  have HL : Hid (_) := Lib.hid (laid_new xs ys ZS (i * 3) ((n - i) * 3) 3 (by omega) (by omega) hy ROW.toList cur1.toList cur2.toList hROWl (by rw [hc1]) (by rw [hc2, show i * 3 + 3 = (i + 1) * 3 by omega]))
  have HRZ := Lib.hid hrz
  have HP1 := Lib.hid hcp1
  have HP2 := Lib.hid hcp2
  have HS := Lib.hid (And.intro hRs (And.intro hdl hs1))
  have hG1 : ¬ G = i := by omega
  have hG2 : ¬ G = i + 1 := by omega
  have hG3 : (i : Int) + 1 ≤ (n : Int) + 1 := by omega
  have hG4 : (n : Int) + 1 ≤ G := by omega
  unfold maxLen at hcm hG63
  clear hrz hcp1 hcp2 hold hROW hROWl hc1 hRs hdl hs1 hcs htk hx hcell hown hc2 hkk hik hz0 hi0 hz1 hz2 hG hZS
  go_enter Try.func15, Try.ntmps15
  go_wp2_with (first
    | (at_builtin; refine Lib.wpList_append_run _ rfl _ _ _ _ rfl _ _ rfl rfl _ _ (HRZ.out _) ?_)
    | (refine wpList_copyK _ rfl (.tmp 43) (.tmp 44) 45 45 rfl (.slice (some ⟨w.heap.size, i * 3, none⟩) (n + 1 - i) (G - i)) (.slice (some ⟨vb, 0, none⟩) 1 1) rfl rfl (HP1.out _ (blkNew w.drew _) (blkOld (w := w.drew) hvb) _) ?_))
  have hga : ((w.drew.alloc (.cells ROW 55)).setRow w.heap.size cur1).heap[w.heap.size]? = some (.cells cur1 55 (0, 0)) := setRow_at (w := w.drew.alloc (.cells ROW 55)) (cs := cur1) (blkNew w.drew _)
  have hgb : ((w.drew.alloc (.cells ROW 55)).setRow w.heap.size cur1).heap[g]? = some (.cells cur 55 (0, 0)) := (setRow_ne _ (by omega)).trans (blkOld (w := w.drew) hg)
  have HM : Hid (Mdh (fun k => (Value.slice (some ⟨g, 0, none⟩) n cap).ownBlock = some k) w ((w.drew.alloc (.cells ROW 55)).setRow w.heap.size cur1)) := Lib.hid (setRow_mdh (((Mdh.refl _ w).drew).alloc _) (.inr (Nat.le_refl _)) _)
  generalize (w.drew.alloc (.cells ROW 55)).setRow w.heap.size cur1 = W1 at *
  have HGA := Lib.hid hga
  have HGB := Lib.hid hgb
  clear hgb hgw hvw
  go_simp
  refine wp_region_flo (fun k => k = w.heap.size) [] [] (by kernel_rfl) (by kernel_rfl) (fun k hk => by subst hk; exact blkLt hga) ?_
  refine flo_seg 8 rfl ?_
  simp only [List.take_succ_cons, List.take_zero, List.drop_succ_cons, List.drop_zero]
  repeat (go_big_quiet_step (fail))
  refine wpQuiet_nil ?_
  refine flo_eff rfl rfl rfl rfl (fun K hK => ?_)
  refine wp_copyK _ (.tmp 50) (.tmp 53) 45 45 rfl (.slice (some ⟨w.heap.size, (i + 1) * 3, none⟩) (n - i) (G - (i + 1))) (.slice (some ⟨g, i * 3, none⟩) (n - i) (cap - i)) rfl rfl (HP2.out W1.drew HGA.out HGB.out _ _) ?_; (have HG1 := Lib.hid (setRow_at (w := W1.drew) (cs := cur2) HGA.out)); (have HM1 := Lib.hid (setRow_mdh (S := fun k => k = w.heap.size) (Mdh.refl _ W1.drew) (g := w.heap.size) (.inl rfl) cur2)); go_wp2; refine ⟨HM1.out.mono (fun q hq => by simpa using hq), ?_⟩
  refine flo_nil ?_
  go_wp2
  go_ret
  obtain ⟨hRs, hdl, hs1⟩ := HS.out
  have hL := HL.out
  rw [show i * 3 + 3 = (i + 1) * 3 by omega, show (i + 1) * 3 + (n - i) * 3 = (n + 1) * 3 by omega] at hL
  refine ⟨w.heap.size, G, rfl, Own.ofParts HG1.out (by omega) (by unfold maxLen; omega) ?_ (by simpa using hL.1), .inr (Nat.le_refl _), ?_⟩
  · have := hL.2
    simp only [Array.length_toList] at this
    rw [this, hRs]
  · exact setRow_mdh HM.out.drew (.inr (Nat.le_refl _)) _

/-- One element laid into a row of the call's own. -/
theorem Insertbp (v : Value) (n i : Nat) (xs ys : List Value) (vb : Nat) (w : World) (hown : Own w 55 3 v n xs) (h1 : ∀ u ∈ xs, u.oneCell' = true) (hi : i ≤ n) (hn : n ≤ 1000000)
    (hvb : w.heap[vb]? = some (.cells ys.toArray 55 (0, 0))) (hy : ys.length = 3) (hy1 : ∀ u ∈ ys, u.oneCell' = true) (hne : v.ownBlock ≠ some vb) :
    Calls Try.prog 15 #[v, .int .i64 i, .slice (some ⟨vb, 0, none⟩) 1 1] w (InsPost 3 55 v n i xs ys w) := by
  by_cases hin : i = n
  · subst hin
    exact Insert_endbp v i xs ys vb w hown hn hvb hy hy1
  · rcases hown.2 with ⟨rfl, rfl⟩ | ⟨g, cap, cur, rfl, _⟩
    · omega
    · by_cases hr : n + 1 ≤ cap
      · exact Insert_shiftbp g n cap i xs ys vb w hown h1 (by omega) hr hvb hy hy1 (fun e => hne (by rw [e]; rfl))
      · exact Insert_growbp g n cap i xs ys vb w hown h1 (by omega) (by omega) hn hvb hy hy1
end Go.Proofs.Ytemjnppplmankaa

/- An ordered map in memory, and the methods that read it, at keys uint8 and values drumlin/drumlinlaw03.pair. Written from YOma.base by inst.py. -/
set_option linter.unusedVariables false
set_option linter.unusedSimpArgs false
namespace Go.Proofs.Ytemjnppplmankaa
open Go.RowKit
attribute [local go_sem] OvM cell_ovm obj_ovm

abbrev Itbp := Int × (Int × ByteArray)
def kvbp (k : Int) : Value := .int .u8 (k)
def vvbp (v : (Int × ByteArray)) : Value := .agg #[.int .i64 (v).1, .string (v).2]
def celbp (x : Itbp) : List Value := [.int .u8 x.1, .int .i64 x.2.1, .string x.2.2]
def rowbp (L : List Itbp) : List Value := L.flatMap celbp
theorem row_lenbp (L : List Itbp) : (rowbp L).length = L.length * 3 := by
  induction L with
  | nil => rfl
  | cons x L ih => simp only [rowbp, List.flatMap_cons, List.length_append, List.length_cons] at *; rw [ih]; simp [celbp]; omega
theorem row_onebp (L : List Itbp) : ∀ u ∈ rowbp L, u.oneCell' = true := by
  intro u hu
  simp only [rowbp, List.mem_flatMap] at hu
  obtain ⟨x, _, hx⟩ := hu
  simp only [celbp, List.mem_cons, List.not_mem_nil, or_false] at hx
  rcases hx with rfl | rfl | rfl <;> rfl
theorem row_appbp (L M : List Itbp) : rowbp (L ++ M) = rowbp L ++ rowbp M := by simp [rowbp]
theorem row_getbp (L : List Itbp) : ∀ i x, L[i]? = some x → (rowbp L)[i * 3]? = some (.int .u8 x.1) ∧ (rowbp L)[i * 3 + 1]? = some (.int .i64 x.2.1) ∧ (rowbp L)[i * 3 + 2]? = some (.string x.2.2) := by
  induction L with
  | nil => intro i x h; simp at h
  | cons y L ih =>
    intro i x h
    have e : rowbp (y :: L) = celbp y ++ rowbp L := rfl
    rw [e]
    cases i with
    | zero => simp at h; subst h; simp [celbp]
    | succ i =>
      have := ih i x (by simpa using h)
      have e1 : (i + 1) * 3 = i * 3 + 3 := by omega
      rw [e1, List.getElem?_append_right (by simp [celbp]), List.getElem?_append_right (by simp [celbp]), List.getElem?_append_right (by simp [celbp])]
      simpa [celbp, show i * 3 + 3 + 1 - 3 = i * 3 + 1 by omega, show i * 3 + 3 + 2 - 3 = i * 3 + 2 by omega] using this
theorem row_takebp (L : List Itbp) (i : Nat) : (rowbp L).take (i * 3) = rowbp (L.take i) := by
  induction L generalizing i with
  | nil => simp [rowbp]
  | cons y L ih =>
    cases i with
    | zero => simp [rowbp]
    | succ i =>
      have e : rowbp (y :: L) = celbp y ++ rowbp L := rfl
      rw [e, show (i + 1) * 3 = 3 + i * 3 by omega, List.take_succ_cons, show rowbp (y :: L.take i) = celbp y ++ rowbp (L.take i) from rfl, ← ih i]
      exact List.take_length_add_append (l₁ := celbp y) (l₂ := rowbp L) (i * 3)
theorem row_dropbp (L : List Itbp) (i : Nat) : (rowbp L).drop (i * 3) = rowbp (L.drop i) := by
  induction L generalizing i with
  | nil => simp [rowbp]
  | cons y L ih =>
    cases i with
    | zero => simp [rowbp]
    | succ i =>
      have e : rowbp (y :: L) = celbp y ++ rowbp L := rfl
      rw [e, show (i + 1) * 3 = 3 + i * 3 by omega, List.drop_succ_cons, ← ih i]
      exact List.drop_length_add_append (l₁ := celbp y) (l₂ := rowbp L) (i * 3)

theorem row_setbp (L : List Itbp) (i : Nat) (k : Int) (v u : (Int × ByteArray)) (h : L[i]? = some (k, v)) : rowbp (L.set i (k, u)) = ((rowbp L).set (i * 3 + 1) (.int .i64 u.1)).set (i * 3 + 2) (.string u.2) := by
  induction L generalizing i with
  | nil => simp at h
  | cons y L ih =>
    cases i with
    | zero => simp at h; subst h; rfl
    | succ i =>
      have e : ∀ M, rowbp (y :: M) = celbp y ++ rowbp M := fun _ => rfl
      rw [List.set_cons_succ, e, e, ih i (by simpa using h), show (i + 1) * 3 + 1 = i * 3 + 1 + 3 by omega, show (i + 1) * 3 + 2 = i * 3 + 2 + 3 by omega]
      rfl
/-- A map that was made, in the block b. -/
structure OMbp (w : World) (b : Nat) (v : Value) (L : List Itbp) : Prop where
  blk : w.heap[b]? = some (.cells #[.bool true, v] 47 (0, 0))
  own : Own w 55 3 v L.length (rowbp L)
  ne : v.ownBlock ≠ some b
  srt : Srt ltZ L
/-- What a map's items are: nil where there is no map. -/
def VWbp (w : World) (p : Option Addr) (v : Value) (L : List Itbp) : Prop :=
  (∃ b, p = some ⟨b, 0, none⟩ ∧ OMbp w b v L) ∨ ((p = none ∨ ∃ b, p = some ⟨b, 0, none⟩ ∧ w.heap[b]? = some (.cells #[.bool false, .slice none 0 0] 47 (0, 0))) ∧ v = .slice none 0 0 ∧ L = [])
theorem OMbp.gr {w w' : World} {b : Nat} {v : Value} {L : List Itbp} (h : OMbp w b v L) (g : Gr w w') : OMbp w' b v L := ⟨g.blk h.blk, h.own.gr g, h.ne, h.srt⟩
theorem OMbp.mdh {F : Nat → Prop} {w w' : World} {b : Nat} {v : Value} {L : List Itbp} (h : OMbp w b v L) (g : Mdh F w w') (hf : ∀ k, k = b ∨ v.ownBlock = some k → ¬ F k) : OMbp w' b v L :=
  ⟨g.blk h.blk (hf b (.inl rfl)), h.own.mdh g (fun k hk => hf k (.inr hk)), h.ne, h.srt⟩
theorem VWbp.gr {w w' : World} {p : Option Addr} {v : Value} {L : List Itbp} (h : VWbp w p v L) (g : Gr w w') : VWbp w' p v L := by
  rcases h with ⟨b, e, h⟩ | ⟨h1 | ⟨b, e, h1⟩, h2, h3⟩
  · exact .inl ⟨b, e, h.gr g⟩
  · exact .inr ⟨.inl h1, h2, h3⟩
  · exact .inr ⟨.inr ⟨b, e, g.blk h1⟩, h2, h3⟩
theorem VWbp.own {w : World} {p : Option Addr} {v : Value} {L : List Itbp} (h : VWbp w p v L) : Own w 55 3 v L.length (rowbp L) := by
  rcases h with ⟨b, e, h⟩ | ⟨_, rfl, rfl⟩
  · exact h.own
  · exact ⟨rfl, .inl ⟨rfl, rfl⟩⟩
theorem VWbp.srt {w : World} {p : Option Addr} {v : Value} {L : List Itbp} (h : VWbp w p v L) : Srt ltZ L := by
  rcases h with ⟨b, e, h⟩ | ⟨_, rfl, rfl⟩
  · exact h.srt
  · exact List.Pairwise.nil
/-- The cells of an item. -/
theorem VWbp.at {w : World} {p : Option Addr} {v : Value} {L : List Itbp} (h : VWbp w p v L) : ∃ a cap, v = .slice a L.length cap ∧ L.length ≤ cap ∧ cap ≤ maxLen ∧ ∀ i x, L[i]? = some x → ∃ g, a = some ⟨g, 0, none⟩ ∧ g < w.heap.size ∧
    w.cell? ⟨g, i * 3, none⟩ = some (.int .u8 x.1) ∧ w.cell? ⟨g, i * 3 + 1, none⟩ = some (.int .i64 x.2.1) ∧ w.cell? ⟨g, i * 3 + 2, none⟩ = some (.string x.2.2) := by
  have ho := h.own
  rcases ho.2 with ⟨hv, h0⟩ | ⟨g, cap, cur, hv, _, hg, h1, h2, h3, h4⟩
  · have hL : L = [] := List.eq_nil_of_length_eq_zero h0
    subst hL
    exact ⟨none, 0, hv, Nat.le_refl _, by simp [maxLen], fun i x hx => by simp at hx⟩
  · subst hv
    refine ⟨_, cap, rfl, h1, h2, fun i x hx => ⟨g, rfl, blkLt hg, ?_⟩⟩
    have hc := ho.cells (g := g) rfl
    obtain ⟨r1, r2, r3⟩ := row_getbp L i x hx
    have hadd : ∀ j, (⟨g, 0, none⟩ : Addr).add j = ⟨g, j, none⟩ := fun j => by unfold Addr.add; split <;> simp_all
    exact ⟨by rw [← hadd]; exact hc _ _ r1, by rw [← hadd]; exact hc _ _ r2, by rw [← hadd]; exact hc _ _ r3⟩

theorem itemsbp (p : Option Addr) (v : Value) (L : List Itbp) (w : World) (h : VWbp w p v L) :
    Calls Try.prog 21 #[.pointer p] w fun e w' => e = .returned v ∧ w = w' := by
  rcases h with ⟨b, rfl, h⟩ | ⟨rfl | ⟨b, rfl, h⟩, rfl, rfl⟩
  · have c0 := ((cellsOf h.blk).1 0).trans (show _ = some (Value.bool true) from rfl)
    have c1 := ((cellsOf h.blk).1 1).trans (show _ = some v from rfl)
    clear h
    go_enter Try.func21, Try.ntmps21
    go_wp2
    go_ret
    exact ⟨rfl, rfl⟩
  · go_enter Try.func21, Try.ntmps21
    go_wp2
    go_ret
    exact ⟨rfl, rfl⟩
  · have c0 := ((cellsOf h).1 0).trans (show _ = some (Value.bool false) from rfl)
    clear h
    go_enter Try.func21, Try.ntmps21
    go_wp2
    go_ret
    exact ⟨rfl, rfl⟩
end Go.Proofs.Ytemjnppplmankaa

/- The methods of an ordered map that read it, at keys uint8 and values drumlin/drumlinlaw03.pair. Written from YOmb.base by inst.py. -/
set_option linter.unusedVariables false
set_option linter.unusedSimpArgs false
namespace Go.Proofs.Ytemjnppplmankaa
open Go.RowKit
attribute [local go_sem] OvM cell_ovm obj_ovm

theorem Rank1bp (x : Itbp) (k : Int) (bk : Nat) (w : World) (hk : w.cell? ⟨bk, 0, none⟩ = some (.int .u8 (k))) :
    Calls Try.prog 54 #[.agg #[.int .u8 x.1, .int .i64 x.2.1, .string x.2.2], .pointer (some ⟨bk, 0, none⟩)] w fun e w' => e = .returned (.bool (!ltZ x.1 k)) ∧ Gr w w' := by
  have hb := World.block_lt_of_cell? w ⟨bk, 0, none⟩ hk
  simp only at hb
  obtain ⟨x1, x2, x3⟩ := x
  go_enter Try.func54, Try.ntmps54
  go_wp2
  all_goals
    go_ret
    exact ⟨ret_bool (by rw [Bool.eq_iff_iff]; simp [ltZ]; try omega), by (repeat (first | (with_reducible exact Gr.refl _) | assumption | (with_reducible apply Gr.from_drew) | (with_reducible apply Gr.alloc) | (with_reducible apply Gr.drew) | (with_reducible refine Gr.trans ?_ (by assumption)) | (with_reducible refine Gr.setCell ?_ (by omega) _)))⟩

set_option maxRecDepth 40000 in
set_option maxHeartbeats 2000000 in
theorem firstRankbp (p : Option Addr) (v : Value) (L : List Itbp) (k : Int) (bk : Nat) (w : World) (h : VWbp w p v L) (hn : L.length ≤ 1000000) (hk : w.cell? ⟨bk, 0, none⟩ = some (.int .u8 (k))) :
    Calls Try.prog 53 #[v, .func (.func 54) #[] #[.pointer (some ⟨bk, 0, none⟩)]] w fun e w' => e = .returned (.int .i64 (rk ltZ L k)) ∧ Gr w w' := by
  obtain ⟨a, cap, rfl, hnc, hcm, hat⟩ := h.at
  have hs := h.srt
  have HAT := Lib.hid hat
  have HS := Lib.hid hs
  have HK := Lib.hid hk
  clear h hat hs hk hcm hnc
  go_enter Try.func53, Try.ntmps53
  go_wp2_with fail
  go_loopw [5, 6] (fun t5 t6 wx => ∃ lo hi : Nat, lo ≤ hi ∧ hi ≤ L.length ∧ t5 = .int .i64 lo ∧ t6 = .int .i64 hi ∧ Hid (Gr w wx ∧ (∀ j x, j < lo → L[j]? = some x → ltZ x.1 k = true) ∧ (∀ j x, hi ≤ j → L[j]? = some x → ltZ x.1 k = false))) (fun t5 t6 _ => (intOf t6).toNat - (intOf t5).toNat)
  case atStart => exact ⟨0, L.length, by omega, by omega, rfl, rfl, Lib.hid ⟨by (repeat (first | (with_reducible exact Gr.refl _) | assumption | (with_reducible apply Gr.from_drew) | (with_reducible apply Gr.alloc) | (with_reducible apply Gr.drew) | (with_reducible refine Gr.trans ?_ (by assumption)) | (with_reducible refine Gr.setCell ?_ (by omega) _))), by omega, fun j x hj hx => by have := (List.getElem?_eq_some_iff.1 hx).1; omega⟩⟩
  case round =>
    obtain ⟨lo, hi, h1, h2, rfl, rfl, H⟩ := hrel
    by_cases hlt : lo < hi
    · have hlt' : (lo : Int) < hi := by omega
      obtain ⟨m, hm⟩ : ∃ m : Nat, m = (lo + hi) / 2 := ⟨_, rfl⟩
      have eM : ((lo : Int) + hi) / 2 = (m : Nat) := by omega
      have hm1 : lo ≤ m := by omega
      have hm2 : m < hi := by omega
      have hmL : m < L.length := by omega
      have hmL' : (m : Int) < L.length := by omega
      have hxm : L[m]? = some (L[m]'hmL) := List.getElem?_eq_getElem hmL
      obtain ⟨g, rfl, hg, c0, c1, c2⟩ := HAT.out m _ hxm
      have d0 := H.out.1.keep c0
      have d1 := H.out.1.keep c1
      have d2 := H.out.1.keep c2
      have HXM := Lib.hid hxm
      cases e : ltZ (L[m]'hmL).1 k with
      | true =>
        have HE := Lib.hid e
        generalize L[m]'hmL = x at *
        obtain ⟨x1, x2, x3⟩ := x
        simp only at d0 d1 d2
        clear c0 c1 c2 hg hm e hxm hmL
        go_wp2_with (go_at_call 54; refine (Rank1bp (x1, x2, x3) k bk _ (H.out.1.keep HK.out)).mono ?_; rintro e2 w1 ⟨rfl, hg1⟩; rw [HE.out])
        go_roundw
        case rel => exact ⟨m + 1, hi, by omega, h2, by go_num, rfl, Lib.hid ⟨H.out.1.trans hg1, mono_lo ordZ HS.out HXM.out HE.out, H.out.2.2⟩⟩
        case measure => simp [intOf]; omega
      | false =>
        have HE := Lib.hid e
        generalize L[m]'hmL = x at *
        obtain ⟨x1, x2, x3⟩ := x
        simp only at d0 d1 d2
        clear c0 c1 c2 hg hm e hxm hmL
        go_wp2_with (go_at_call 54; refine (Rank1bp (x1, x2, x3) k bk _ (H.out.1.keep HK.out)).mono ?_; rintro e2 w1 ⟨rfl, hg1⟩; rw [HE.out])
        go_roundw
        case rel => exact ⟨lo, m, by omega, by omega, rfl, rfl, Lib.hid ⟨H.out.1.trans hg1, H.out.2.1, mono_hi ordZ HS.out HXM.out HE.out⟩⟩
        case measure => simp [intOf]; omega
    · have hlt' : ¬ (lo : Int) < hi := by omega
      obtain rfl : lo = hi := by omega
      go_wp2
      go_ret
      exact ⟨by rw [← rk_uniq ordZ HS.out k lo h2 H.out.2.1 H.out.2.2]; rfl, H.out.1⟩

set_option maxRecDepth 40000 in
theorem Rankbp (p : Option Addr) (v : Value) (L : List Itbp) (k : Int) (w : World) (h : VWbp w p v L) (hn : L.length ≤ 1000000) :
    Calls Try.prog 35 #[.pointer p, .int .u8 (k)] w fun e w' => e = .returned (.int .i64 (rk ltZ L k)) ∧ Gr w w' := by
  have H := Lib.hid h
  clear h
  go_enter Try.func35, Try.ntmps35
  go_wp2_with (first
    | (go_at_call 21; refine (itemsbp p v L _ (H.out.gr (by (repeat (first | (with_reducible exact Gr.refl _) | assumption | (with_reducible apply Gr.from_drew) | (with_reducible apply Gr.alloc) | (with_reducible apply Gr.drew) | (with_reducible refine Gr.trans ?_ (by assumption)) | (with_reducible refine Gr.setCell ?_ (by omega) _)))))).mono ?_; rintro e w1 ⟨rfl, rfl⟩)
    | (go_at_call 53; refine (firstRankbp p v L k w.heap.size _ (H.out.gr (by (repeat (first | (with_reducible exact Gr.refl _) | assumption | (with_reducible apply Gr.from_drew) | (with_reducible apply Gr.alloc) | (with_reducible apply Gr.drew) | (with_reducible refine Gr.trans ?_ (by assumption)) | (with_reducible refine Gr.setCell ?_ (by omega) _))))) hn (by simp [go_sem])).mono ?_; rintro e w1 ⟨rfl, hg⟩))
  go_ret
  exact ⟨rfl, (Gr.alloc (Gr.refl w) _).trans hg⟩

def hasBbp (L : List Itbp) (k : Int) : Bool := (look ltZ L k).isSome
theorem hasB_atbp {L : List Itbp} {k : Int} {x : Itbp} (h : L[rk ltZ L k]? = some x) : hasBbp L k = decide (x.1 = k) := by
  unfold hasBbp look
  rw [h]
  by_cases e : x.1 = k <;> simp [e]
theorem hasB_outbp {L : List Itbp} {k : Int} (h : L.length ≤ rk ltZ L k) : hasBbp L k = false := by
  unfold hasBbp look
  rw [List.getElem?_eq_none h]
  rfl

set_option maxRecDepth 40000 in
set_option maxHeartbeats 1000000 in
theorem findbp (p : Option Addr) (v : Value) (L : List Itbp) (k : Int) (w : World) (h : VWbp w p v L) (hn : L.length ≤ 1000000) :
    Calls Try.prog 14 #[.pointer p, .int .u8 (k)] w fun e w' => e = .returned (.tuple #[.int .i64 (rk ltZ L k), .bool (hasBbp L k)]) ∧ Gr w w' := by
  have H := Lib.hid h
  obtain ⟨a, cap, rfl, hnc, hcm, hat⟩ := h.at
  have HAT := Lib.hid hat
  clear h hat
  unfold maxLen at hcm
  have hr := rk_le (lt := ltZ) L k
  obtain ⟨r, hrd⟩ : ∃ r, r = rk ltZ L k := ⟨_, rfl⟩
  have HRK := Lib.hid hrd
  rw [← hrd] at hr ⊢
  clear hrd
  go_enter Try.func14, Try.ntmps14
  go_wp2_with fail
  refine (Rankbp p _ L k _ H.out hn).mono ?_
  rintro e w1 ⟨rfl, hg⟩
  rw [← HRK.out]
  have H1 := Lib.hid (H.out.gr hg)
  have HG := Lib.hid hg
  clear hg
  go_wp2_with fail
  refine (itemsbp p _ L _ H1.out).mono ?_
  rintro e w2 ⟨rfl, rfl⟩
  by_cases hlt : r < L.length
  · obtain ⟨x, hx⟩ : ∃ x, L[r]? = some x := ⟨_, List.getElem?_eq_getElem hlt⟩
    have HB : Hid (hasBbp L k = decide (x.1 = k)) := Lib.hid (hasB_atbp (by rw [← HRK.out]; exact hx))
    obtain ⟨g, rfl, hg, c0, c1, c2⟩ := HAT.out _ x hx
    have d0 := HG.out.keep c0
    have hlt' : (r : Int) < L.length := by omega
    obtain ⟨x1, x2, x3⟩ := x
    simp only at d0
    clear c0 c1 c2 hg hx
    go_wp2
    refine wp_region_flo (fun _ => False) [] [] (by kernel_rfl) (by kernel_rfl) (fun _ h => h.elim) ?_
    refine flo_seg 16 rfl ?_
    simp only [List.take_succ_cons, List.take_zero, List.drop_succ_cons, List.drop_zero]
    repeat (go_big_quiet_step (fail))
    refine wpQuiet_nil ?_
    refine flo_nil ?_
    go_wp2
    go_ret2
    exact ⟨by rw [HB.out]; rfl, HG.out.drew⟩
  · have HB := Lib.hid (hasB_outbp (L := L) (k := k) (by rw [← HRK.out]; omega))
    have hlt' : ¬ (r : Int) < L.length := by omega
    go_wp2
    refine wp_region_flo (fun _ => False) [] [] (by kernel_rfl) (by kernel_rfl) (fun _ h => h.elim) ?_
    refine flo_seg 16 rfl ?_
    simp only [List.take_succ_cons, List.take_zero, List.drop_succ_cons, List.drop_zero]
    repeat (go_big_quiet_step (fail))
    refine wpQuiet_nil ?_
    refine flo_nil ?_
    go_wp2
    go_ret2
    exact ⟨by rw [HB.out]; rfl, HG.out.drew⟩

def lookVbp (L : List Itbp) (k : Int) : Value := match look ltZ L k with
  | some v => .agg #[.int .i64 (v).1, .string (v).2]
  | none => .agg #[.int .i64 0, .string ⟨#[]⟩]
end Go.Proofs.Ytemjnppplmankaa

/- The methods of an ordered map at its ends and neighbours, New, Set, Delete, at keys uint8 and values drumlin/drumlinlaw03.pair. Written from YOmc.base by inst.py. -/
set_option linter.unusedVariables false
set_option linter.unusedSimpArgs false
namespace Go.Proofs.Ytemjnppplmankaa
open Go.RowKit
attribute [local go_sem] OvM cell_ovm obj_ovm

set_option maxRecDepth 40000 in
theorem NewObp (w : World) : Calls Try.prog 4 #[] w fun e w' => e = .returned (.pointer (some ⟨w.heap.size, 0, none⟩)) ∧ OMbp w' w.heap.size (.slice none 0 0) [] ∧ Gr w w' := by
  go_enter Try.func4, Try.ntmps4
  go_wp2
  go_ret
  exact ⟨rfl, ⟨blkNew _ _, ⟨rfl, .inl ⟨rfl, rfl⟩⟩, (fun h => by cases h), List.Pairwise.nil⟩, by (repeat (first | (with_reducible exact Gr.refl _) | assumption | (with_reducible apply Gr.from_drew) | (with_reducible apply Gr.alloc) | (with_reducible apply Gr.drew) | (with_reducible refine Gr.trans ?_ (by assumption)) | (with_reducible refine Gr.setCell ?_ (by omega) _)))⟩

/-- What Set and Delete leave. -/
def OMPostbp (b : Nat) (v : Value) (L' : List Itbp) (w w' : World) : Prop := ∃ v', OMbp w' b v' L' ∧ (∀ g, v'.ownBlock = some g → v.ownBlock = some g ∨ w.heap.size ≤ g) ∧ Mdh (fun k => k = b ∨ v.ownBlock = some k) w w'

theorem pr_same {w : World} {b5 : Nat} {x y : Value} {t : TypeId} (h : w.heap[b5]? = some (.cells #[x, y] t)) : w.cell? ⟨b5, 0, none⟩ = some x ∧ w.cell? ⟨b5, 1, none⟩ = some y ∧ (∀ j, w.frozen? ⟨b5, j, none⟩ = false) := by
  obtain ⟨h1, h2⟩ := cellsOf h
  exact ⟨(h1 0).trans rfl, (h1 1).trans rfl, h2⟩
set_option maxRecDepth 40000 in
set_option maxHeartbeats 4000000 in
theorem Setbp (b : Nat) (v : Value) (L : List Itbp) (k : Int) (u : Int × ByteArray) (w : World) (h : OMbp w b v L) (hn : L.length ≤ 100000) :
    Calls Try.prog 6 #[.pointer (some ⟨b, 0, none⟩), .int .u8 k, .agg #[.int .i64 u.1, .string u.2]] w fun e w' => e = .returned (.tuple #[lookVbp L k, .bool (hasBbp L k), .int .i64 0]) ∧ OMPostbp b v (putL ltZ L k u) w w' := by
  obtain ⟨u1, u2⟩ := u
  have hbl := blkLt h.blk
  have hown : ∀ q, v.ownBlock = some q → q < w.heap.size := fun q hq => h.own.lt hq
  obtain ⟨w3, hw3⟩ : ∃ y, y = ((w.alloc (.cells #[.int .i64 u1, .string u2] 26)).alloc (.cells #[.int .i64 0, .string ⟨#[]⟩] 26)).alloc (.cells #[.int .i64 0, .string ⟨#[]⟩] 26) := ⟨_, rfl⟩
  obtain ⟨b5, hb5⟩ : ∃ q, q = w.heap.size := ⟨_, rfl⟩
  have HG3 : Hid (Gr w w3) := Lib.hid (by rw [hw3]; exact (((Gr.refl w).alloc _).alloc _).alloc _)
  have HX5 : Hid (w3.heap[b5]? = some (.cells #[.int .i64 u1, .string u2] 26)) := Lib.hid (by rw [hw3, hb5]; exact blkOld (blkOld (blkNew w _)))
  have HX6 : Hid (w3.heap[b5 + 1]? = some (.cells #[.int .i64 0, .string ⟨#[]⟩] 26)) := Lib.hid (by
    rw [hw3, hb5]
    have := blkNew (w.alloc (.cells #[.int .i64 u1, .string u2] 26)) (.cells #[.int .i64 0, .string ⟨#[]⟩] 26)
    rw [World.size_alloc] at this
    exact blkOld this)
  have HX9 : Hid (w3.heap[b5 + 1 + 1]? = some (.cells #[.int .i64 0, .string ⟨#[]⟩] 26)) := Lib.hid (by
    rw [hw3, hb5]
    have := blkNew ((w.alloc (.cells #[.int .i64 u1, .string u2] 26)).alloc (.cells #[.int .i64 0, .string ⟨#[]⟩] 26)) (.cells #[.int .i64 0, .string ⟨#[]⟩] 26)
    rwa [World.size_alloc, World.size_alloc] at this)
  have HB5 : Hid (b5 = w.heap.size) := Lib.hid hb5
  have hbn5 : b ≠ b5 := by omega
  have HOWN := Lib.hid hown
  have H := Lib.hid (h.gr HG3.out)
  have c0 := ((cellsOf H.out.blk).1 0).trans (show _ = some (Value.bool true) from rfl)
  have hr := rk_le (lt := ltZ) L k
  obtain ⟨r, hrd⟩ : ∃ r, r = rk ltZ L k := ⟨_, rfl⟩
  have HRK := Lib.hid hrd
  rw [← hrd] at hr
  have HSRT := Lib.hid (put_srt ordZ h.srt k (u1, u2))
  clear h hrd hown
  go_enter Try.func6, Try.ntmps6
  go_upto_region 2 with fail
  rw [← hb5, ← hw3]
  clear hw3 hb5
  go_wp2_with fail
  refine (findbp _ v L k _ (.inl ⟨b, rfl, H.out⟩) (by omega)).mono ?_
  rintro e w4 ⟨rfl, hg⟩
  rw [← HRK.out]
  have H4 := Lib.hid (H.out.gr hg)
  have HG4 := Lib.hid (HG3.out.trans hg)
  have HX5' := Lib.hid (hg.blk HX5.out)
  have HX6' := Lib.hid (hg.blk HX6.out)
  have HX9' := Lib.hid (hg.blk HX9.out)
  clear hg c0 HX5 HX6 HX9 H HG3
  cases hl : look ltZ L k with
  | none =>
    have HB := Lib.hid (show hasBbp L k = false by unfold hasBbp; rw [hl]; rfl)
    have HV := Lib.hid (show lookVbp L k = .agg #[.int .i64 0, .string ⟨#[]⟩] by unfold lookVbp; rw [hl])
    have HP := Lib.hid (show putL ltZ L k (u1, u2) = L.take r ++ [(k, (u1, u2))] ++ L.drop r by unfold putL; rw [hl, HRK.out])
    rw [HB.out]
    clear hl
    have d1 := ((cellsOf H4.out.blk).1 1).trans (show _ = some v from rfl)
    have df := (cellsOf H4.out.blk).2
    obtain ⟨c50, c51, _⟩ := pr_same HX5'.out
    have hlb : b < w4.heap.size := blkLt H4.out.blk
    have h4sz : w.heap.size ≤ w4.heap.size := HG4.out.sz
    have n5 : ¬ (v.ownBlock = some b5 ∨ b5 = b) := by
      rintro (h | h)
      · have := HOWN.out _ h; have := HB5.out; omega
      · omega
    go_wp2_with fail
    refine wp_region_flo (fun q => v.ownBlock = some q ∨ q = b) [39] [34] (by kernel_rfl) (by kernel_rfl) (fun q hq => hq.elim (fun h => H4.out.own.lt h) (fun h => h ▸ hlb)) ?_
    refine flo_seg 4 rfl ?_
    simp only [List.take_succ_cons, List.take_zero, List.drop_succ_cons, List.drop_zero]
    repeat (go_big_quiet_step (fail))
    refine wpQuiet_nil ?_
    refine flo_effg rfl rfl rfl (fun wg1 hgg1 K hK => ?_)
    (try replace HG := Gr.trans (Gr.trans HG (by (repeat (first | (with_reducible exact Gr.refl _) | assumption | (with_reducible apply Gr.from_drew) | (with_reducible apply Gr.alloc) | (with_reducible apply Gr.drew) | (with_reducible refine Gr.trans ?_ (by assumption)) | (with_reducible refine Gr.setCell ?_ (by omega) _))))) hgg1)
    have d1g := hgg1.keep (show w4.drew.cell? _ = _ from d1)
    go_wp2
    refine ⟨by (first | (refine Gr.mdh ?_ _; (repeat (first | (with_reducible exact Gr.refl _) | assumption | (with_reducible apply Gr.from_drew) | (with_reducible apply Gr.alloc) | (with_reducible apply Gr.drew) | (with_reducible refine Gr.trans ?_ (by assumption)) | (with_reducible refine Gr.setCell ?_ (by omega) _))); done) | (repeat (first | (with_reducible exact Mdh.refl _ _) | (with_reducible refine Mdh.setCell ?_ (by simp) _) | (with_reducible refine Mdh.setNew ?_ (by simp) _) | (with_reducible apply Mdh.alloc) | (with_reducible apply Mdh.from_drew) | (with_reducible apply Mdh.drew) | (with_reducible refine Mdh.gr ?_ (by assumption))))), ?_⟩
    refine flo_seg 4 rfl ?_
    simp only [List.take_succ_cons, List.take_zero, List.drop_succ_cons, List.drop_zero]
    repeat (go_big_quiet_step (fail))
    refine wpQuiet_nil ?_
    refine flo_float (fun b => .slice (some ⟨b, 0, none⟩) 1 1) (_) rfl rfl (fun w => by simp [go_sem]; rfl) (fun wf1 fb1 hgf1 fl1 fh1 ft1 fo1 => ?_)
    (try replace HG := Gr.trans (Gr.trans HG (by (repeat (first | (with_reducible exact Gr.refl _) | assumption | (with_reducible apply Gr.from_drew) | (with_reducible apply Gr.alloc) | (with_reducible apply Gr.drew) | (with_reducible refine Gr.trans ?_ (by assumption)) | (with_reducible refine Gr.setCell ?_ (by omega) _))))) hgf1)
    (try have fc1 := (cellsOf fo1).1)
    (try have ff1 := (cellsOf fo1).2)
    refine flo_eff rfl rfl rfl rfl (fun K hK => ?_)
    go_wp2_with fail; have HGF : Hid (Gr w4 wf1) := Lib.hid (((Gr.refl w4).drew.trans hgg1).trans hgf1); refine (Insertbp v L.length r (rowbp L) [.int .u8 k, .int .i64 u1, .string u2] fb1 wf1 (H4.out.own.gr HGF.out) (row_onebp L) hr (by omega) fo1 rfl (by intro x hx; simp only [List.mem_cons, List.not_mem_nil, or_false] at hx; rcases hx with rfl | rfl | rfl <;> rfl) (fun e => by have := H4.out.own.lt e; omega)).mono ?_; rintro e w7 ⟨g, cap, rfl, ho, hgw, hm⟩; have HO := Lib.hid (And.intro ho hgw); have HM := Lib.hid hm; have hb7 := hm.blk (HGF.out.blk H4.out.blk) (fun e => H4.out.ne e); have HB7 := Lib.hid hb7; have e1 := ((cellsOf hb7).1 1).trans (show _ = some v from rfl); have ef := (cellsOf hb7).2; clear ho hgw hm hb7; go_wp2_with fail; refine ⟨HM.out.mono (fun q hq => .inl (.inl hq)), ?_⟩
    refine flo_seg 2 rfl ?_
    simp only [List.take_succ_cons, List.take_zero, List.drop_succ_cons, List.drop_zero]
    repeat (go_big_quiet_step (fail))
    refine wpQuiet_nil ?_
    refine flo_eff rfl rfl rfl rfl (fun K hK => ?_)
    go_wp2_with fail; refine ⟨(Mdh.refl _ w7).setCell (p := ⟨b, 1, none⟩) (.inl (.inr rfl)) _, ?_⟩
    refine flo_nil ?_
    obtain ⟨w8, hw8⟩ : ∃ y, y = w7.setCell ⟨b, 1, none⟩ (.slice (some ⟨g, 0, none⟩) (L.length + 1) cap) := ⟨_, rfl⟩
    have hgb : g ≠ b := by
      rcases HO.out.2 with h | h
      · exact fun e => H4.out.ne (by rw [h, e])
      · have := HGF.out.sz; omega
    have hbs := HB5.out
    have h6 := blkLt HX6'.out
    have h9 := blkLt HX9'.out
    have h4f := HGF.out.sz
    have hg6 : g ≠ b5 + 1 := by
      rcases HO.out.2 with h | h
      · have := HOWN.out _ h; omega
      · omega
    have HM8 : Hid (Mdh (fun q => q = b ∨ v.ownBlock = some q) w4 w8) := Lib.hid (by
      rw [hw8]
      exact ((HGF.out.mdh _).trans (HM.out.mono (fun q hq => .inr hq))).setCell (p := ⟨b, 1, none⟩) (.inl rfl) _)
    have HOM8 : Hid (OMbp w8 b (.slice (some ⟨g, 0, none⟩) (L.length + 1) cap) (putL ltZ L k (u1, u2))) := Lib.hid (by
      have e : rowbp (putL ltZ L k (u1, u2)) = (rowbp L).take (r * 3) ++ [.int .u8 k, .int .i64 u1, .string u2] ++ (rowbp L).drop (r * 3) := by
        rw [HP.out, row_appbp, row_appbp, row_takebp, row_dropbp]; rfl
      have el : (putL ltZ L k (u1, u2)).length = L.length + 1 := by rw [HP.out]; simp; omega
      refine ⟨by rw [hw8]; exact blkSet (j := 1) (u := .slice (some ⟨g, 0, none⟩) (L.length + 1) cap) HB7.out, ?_, fun e => hgb (Option.some.inj e), HSRT.out⟩
      rw [e, el, hw8]
      exact HO.out.1.other (p := ⟨b, 1, none⟩) (fun h => hgb (Option.some.inj (show some g = some b from h))) _)
    have hnn : ∀ q, b5 ≤ q → ¬ (q = b ∨ v.ownBlock = some q) := fun q hq h => by
      rcases h with h | h
      · omega
      · have := HOWN.out _ h; omega
    have HY6 := Lib.hid (HM8.out.blk HX6'.out (hnn _ (by omega)))
    have HY9 := Lib.hid (HM8.out.blk HX9'.out (hnn _ (by omega)))
    have HN8 : Hid (g ≠ b5 + 1 ∧ b ≠ b5 + 1 ∧ (v.ownBlock = some g ∨ w.heap.size ≤ g)) := Lib.hid ⟨hg6, by omega, HO.out.2.imp (fun h => h) (fun h => by omega)⟩
    rw [← hw8]
    clear hbs h6 h9 h4f h4sz hw8 hgb hg6 hnn e1 ef d1 df d1g c50 c51 n5 hgg1 hgf1 fl1 fh1 ft1 fo1 fc1 ff1
    obtain ⟨c60, c61, c6f⟩ := pr_same HY6.out
    obtain ⟨c90, c91, _⟩ := pr_same HY9.out
    go_wp2_with fail
    obtain ⟨w9, hw9⟩ : ∃ y, y = ((w8.setCell ⟨b5 + 1, 0, none⟩ (.int .i64 0)).setCell ⟨b5 + 1, 1, none⟩ (.string ⟨#[]⟩)) := ⟨_, rfl⟩
    have HM9 : Hid (Mdh (fun q => q = b5 + 1) w8 w9) := Lib.hid (by rw [hw9]; exact ((Mdh.refl (fun q => q = b5 + 1) w8).setCell (p := ⟨b5 + 1, 0, none⟩) rfl _).setCell (p := ⟨b5 + 1, 1, none⟩) rfl _)
    have HZ6 : Hid (w9.heap[b5 + 1]? = some (.cells #[.int .i64 0, .string ⟨#[]⟩] 26)) := Lib.hid (by rw [hw9]; exact blk2 HY6.out)
    rw [← hw9]
    clear hw9 c60 c61 c6f c90 c91
    obtain ⟨c60, c61, _⟩ := pr_same HZ6.out
    refine bodyPost_ret (v := .tuple #[lookVbp L k, .bool (hasBbp L k), .int .i64 0]) ?_ rfl ⟨rfl, .slice (some ⟨g, 0, none⟩) (L.length + 1) cap, HOM8.out.mdh HM9.out (fun q hq e => ?_), fun g' hg' => ?_, ((HG4.out.mdh _).trans HM8.out).then HM9.out (fun q hq => .inr (by have := HB5.out; omega))⟩
    · rw [HV.out, HB.out]
      simp [results, Try.results6, go_sem, c60, c61]
    · rcases hq with h | h
      · exact HN8.out.2.1 (h.symm.trans e)
      · exact HN8.out.1 ((Option.some.inj h).trans e)
    · obtain rfl : g = g' := Option.some.inj hg'
      exact HN8.out.2.2
  | some u0 =>
    obtain ⟨o1, o2⟩ := u0
    have HB := Lib.hid (show hasBbp L k = true by unfold hasBbp; rw [hl]; rfl)
    have HV := Lib.hid (show lookVbp L k = .agg #[.int .i64 o1, .string o2] by unfold lookVbp; rw [hl])
    have HP := Lib.hid (show putL ltZ L k (u1, u2) = L.set r (k, (u1, u2)) by unfold putL; rw [hl, HRK.out])
    have hx : L[r]? = some (k, (o1, o2)) := by rw [HRK.out]; exact look_some hl
    rw [HB.out]
    obtain ⟨a, cap, rfl, hnc, hcm, hat⟩ := VWbp.at (.inl ⟨b, rfl, H4.out⟩)
    obtain ⟨g, rfl, hgl, i0, i1, i2⟩ := hat _ _ hx
    simp only at i1 i2
    have hlt : r < L.length := (List.getElem?_eq_some_iff.1 hx).1
    have hlt' : (r : Int) < L.length := by omega
    unfold maxLen at hcm
    have d1 := ((cellsOf H4.out.blk).1 1).trans (show _ = some (Value.slice (some ⟨g, 0, none⟩) L.length cap) from rfl)
    obtain ⟨cur, hgc, _⟩ := H4.out.own.parts
    have jf := (cellsOf hgc).2
    have hgne : g ≠ b := fun e => H4.out.ne (by rw [e]; rfl)
    have hgw : g < w.heap.size := HOWN.out g rfl
    have hb5e := HB5.out
    have h9 := blkLt HX9'.out
    have hg5 : g ≠ b5 := by omega
    have hg6 : g ≠ b5 + 1 := by omega
    have hg9 : g ≠ b5 + 1 + 1 := by omega
    have nb : ¬ (b = b5 + 1 + 1 ∨ b = g) := by omega
    have n5 : ¬ (b5 = b5 + 1 + 1 ∨ b5 = g) := by omega
    obtain ⟨c50, c51, _⟩ := pr_same HX5'.out
    obtain ⟨c90, c91, c9f⟩ := pr_same HX9'.out
    clear hb5e
    have HNE : Hid (g ≠ b ∧ g ≠ b5 + 1 ∧ g ≠ b5 + 1 + 1 ∧ b ≠ b5 + 1) := Lib.hid ⟨hgne, hg6, hg9, by have := HB5.out; omega⟩
    clear hl hat i0 hgc
    go_wp2_with fail
    refine wp_region_flo (fun q => q = b5 + 1 + 1 ∨ q = g) [] [56] (by kernel_rfl) (by kernel_rfl) (fun q hq => hq.elim (fun h => h ▸ h9) (fun h => h ▸ hgl)) ?_
    refine flo_seg 12 rfl ?_
    simp only [List.take_succ_cons, List.take_zero, List.drop_succ_cons, List.drop_zero]
    repeat (go_big_quiet_step (fail))
    refine wpQuiet_nil ?_
    refine flo_eff rfl rfl rfl rfl (fun K hK => ?_)
    (have j1 := (Gr.refl w4).drew.keep i1; have j2 := (Gr.refl w4).drew.keep i2)
    go_wp2
    refine ⟨by (first | (refine Gr.mdh ?_ _; (repeat (first | (with_reducible exact Gr.refl _) | assumption | (with_reducible apply Gr.from_drew) | (with_reducible apply Gr.alloc) | (with_reducible apply Gr.drew) | (with_reducible refine Gr.trans ?_ (by assumption)) | (with_reducible refine Gr.setCell ?_ (by omega) _))); done) | (repeat (first | (with_reducible exact Mdh.refl _ _) | (with_reducible refine Mdh.setCell ?_ (by simp) _) | (with_reducible refine Mdh.setNew ?_ (by simp) _) | (with_reducible apply Mdh.alloc) | (with_reducible apply Mdh.from_drew) | (with_reducible apply Mdh.drew) | (with_reducible refine Mdh.gr ?_ (by assumption))))), ?_⟩
    refine flo_seg 1 rfl ?_
    simp only [List.take_succ_cons, List.take_zero, List.drop_succ_cons, List.drop_zero]
    repeat (go_big_quiet_step (fail))
    refine wpQuiet_nil ?_
    refine flo_eff rfl rfl rfl rfl (fun K hK => ?_)
    go_wp2
    refine ⟨by (first | (refine Gr.mdh ?_ _; (repeat (first | (with_reducible exact Gr.refl _) | assumption | (with_reducible apply Gr.from_drew) | (with_reducible apply Gr.alloc) | (with_reducible apply Gr.drew) | (with_reducible refine Gr.trans ?_ (by assumption)) | (with_reducible refine Gr.setCell ?_ (by omega) _))); done) | (repeat (first | (with_reducible exact Mdh.refl _ _) | (with_reducible refine Mdh.setCell ?_ (by simp) _) | (with_reducible refine Mdh.setNew ?_ (by simp) _) | (with_reducible apply Mdh.alloc) | (with_reducible apply Mdh.from_drew) | (with_reducible apply Mdh.drew) | (with_reducible refine Mdh.gr ?_ (by assumption))))), ?_⟩
    refine flo_seg 2 rfl ?_
    simp only [List.take_succ_cons, List.take_zero, List.drop_succ_cons, List.drop_zero]
    repeat (go_big_quiet_step (fail))
    refine wpQuiet_nil ?_
    refine flo_eff rfl rfl rfl rfl (fun K hK => ?_)
    go_wp2
    refine ⟨by (first | (refine Gr.mdh ?_ _; (repeat (first | (with_reducible exact Gr.refl _) | assumption | (with_reducible apply Gr.from_drew) | (with_reducible apply Gr.alloc) | (with_reducible apply Gr.drew) | (with_reducible refine Gr.trans ?_ (by assumption)) | (with_reducible refine Gr.setCell ?_ (by omega) _))); done) | (repeat (first | (with_reducible exact Mdh.refl _ _) | (with_reducible refine Mdh.setCell ?_ (by simp) _) | (with_reducible refine Mdh.setNew ?_ (by simp) _) | (with_reducible apply Mdh.alloc) | (with_reducible apply Mdh.from_drew) | (with_reducible apply Mdh.drew) | (with_reducible refine Mdh.gr ?_ (by assumption))))), ?_⟩
    refine flo_nil ?_
    have HM8 : Hid (Mdh (fun q => q = b5 + 1 + 1 ∨ q = g) w4 (((((w4.setCell ⟨b5 + 1 + 1, 0, none⟩ (.int .i64 o1)).setCell ⟨b5 + 1 + 1, 1, none⟩ (.string o2)).setCell ⟨g, r * 3 + 1, none⟩ (.int .i64 u1)).setCell ⟨g, r * 3 + 1 + 1, none⟩ (.string u2)).drew)) := Lib.hid ((((((Mdh.refl _ w4).setCell (p := ⟨b5 + 1 + 1, 0, none⟩) (.inl rfl) _).setCell (p := ⟨b5 + 1 + 1, 1, none⟩) (.inl rfl) _).setCell (p := ⟨g, r * 3 + 1, none⟩) (.inr rfl) _).setCell (p := ⟨g, r * 3 + 1 + 1, none⟩) (.inr rfl) _).drew)
    have HO8 : Hid (OMbp (((((w4.setCell ⟨b5 + 1 + 1, 0, none⟩ (.int .i64 o1)).setCell ⟨b5 + 1 + 1, 1, none⟩ (.string o2)).setCell ⟨g, r * 3 + 1, none⟩ (.int .i64 u1)).setCell ⟨g, r * 3 + 1 + 1, none⟩ (.string u2)).drew) b (.slice (some ⟨g, 0, none⟩) L.length cap) (putL ltZ L k (u1, u2))) := Lib.hid (by
      have e : rowbp (putL ltZ L k (u1, u2)) = ((rowbp L).set (r * 3 + 1) (.int .i64 u1)).set (r * 3 + 1 + 1) (.string u2) := by
        rw [HP.out]
        exact row_setbp L r k (o1, o2) (u1, u2) hx
      have el : (putL ltZ L k (u1, u2)).length = L.length := by rw [HP.out]; simp
      obtain ⟨n1, n2, n3, n4⟩ := HNE.out
      have hbb : b ≠ b5 + 1 + 1 := by have := HB5.out; omega
      refine ⟨HM8.out.blk H4.out.blk (fun h => h.elim hbb (fun h => n1 h.symm)), ?_, fun h => n1 (Option.some.inj h), HSRT.out⟩
      rw [e, el]
      have hl3 := row_lenbp L
      refine Own.gr ?_ (Gr.refl _).drew
      exact ((((H4.out.own.other (p := ⟨b5 + 1 + 1, 0, none⟩) (fun h => n3 (Option.some.inj h)) _).other (p := ⟨b5 + 1 + 1, 1, none⟩) (fun h => n3 (Option.some.inj h)) _).set (by rw [hl3]; omega) _).set (by rw [List.length_set, hl3]; omega) _))
    have HY6 : Hid ((((((w4.setCell ⟨b5 + 1 + 1, 0, none⟩ (.int .i64 o1)).setCell ⟨b5 + 1 + 1, 1, none⟩ (.string o2)).setCell ⟨g, r * 3 + 1, none⟩ (.int .i64 u1)).setCell ⟨g, r * 3 + 1 + 1, none⟩ (.string u2)).drew).heap[b5 + 1]? = some (.cells #[.int .i64 0, .string ⟨#[]⟩] 26)) := Lib.hid (HM8.out.blk HX6'.out (by have := HNE.out; omega))
    have HY9 : Hid ((((((w4.setCell ⟨b5 + 1 + 1, 0, none⟩ (.int .i64 o1)).setCell ⟨b5 + 1 + 1, 1, none⟩ (.string o2)).setCell ⟨g, r * 3 + 1, none⟩ (.int .i64 u1)).setCell ⟨g, r * 3 + 1 + 1, none⟩ (.string u2)).drew).heap[b5 + 1 + 1]? = some (.cells #[.int .i64 o1, .string o2] 26)) := Lib.hid (by
      have n3 := HNE.out.2.2.1
      refine (Gr.refl _).drew.blk (blkSetO (blkSetO (blk2 HX9'.out) ?_) ?_)
      all_goals exact fun h => n3 (by simpa using h.symm))
    generalize ((((w4.setCell ⟨b5 + 1 + 1, 0, none⟩ (.int .i64 o1)).setCell ⟨b5 + 1 + 1, 1, none⟩ (.string o2)).setCell ⟨g, r * 3 + 1, none⟩ (.int .i64 u1)).setCell ⟨g, r * 3 + 1 + 1, none⟩ (.string u2)).drew = w8 at *
    clear d1 c50 c51 c90 c91 c9f n5 nb i1 i2 jf hgne hgw hg5 hg6 hg9 h9 hgl hnc hlt'
    obtain ⟨c60, c61, c6f⟩ := pr_same HY6.out
    obtain ⟨c90, c91, _⟩ := pr_same HY9.out
    go_wp2_with fail
    obtain ⟨w9, hw9⟩ : ∃ y, y = ((w8.setCell ⟨b5 + 1, 0, none⟩ (.int .i64 o1)).setCell ⟨b5 + 1, 1, none⟩ (.string o2)) := ⟨_, rfl⟩
    have HM9 : Hid (Mdh (fun q => q = b5 + 1) w8 w9) := Lib.hid (by rw [hw9]; exact ((Mdh.refl (fun q => q = b5 + 1) w8).setCell (p := ⟨b5 + 1, 0, none⟩) rfl _).setCell (p := ⟨b5 + 1, 1, none⟩) rfl _)
    have HZ6 : Hid (w9.heap[b5 + 1]? = some (.cells #[.int .i64 o1, .string o2] 26)) := Lib.hid (by rw [hw9]; exact blk2 HY6.out)
    rw [← hw9]
    clear hw9 c60 c61 c6f c90 c91
    obtain ⟨c60, c61, _⟩ := pr_same HZ6.out
    refine bodyPost_ret (v := .tuple #[lookVbp L k, .bool (hasBbp L k), .int .i64 0]) ?_ rfl ⟨rfl, .slice (some ⟨g, 0, none⟩) L.length cap, HO8.out.mdh HM9.out (fun q hq e => ?_), fun g' hg' => .inl hg', ?_⟩
    · rw [HV.out, HB.out]
      simp [results, Try.results6, go_sem, c60, c61]
    · rcases hq with h | h
      · exact HNE.out.2.2.2 (h.symm.trans e)
      · exact HNE.out.2.1 ((Option.some.inj h).trans e)
    · have h5 := HB5.out
      refine (((HG4.out.mdh (fun k => k = b ∨ (Value.slice (some ⟨g, 0, none⟩) L.length cap).ownBlock = some k)).then HM8.out (fun q hq => ?_)).then HM9.out (fun q hq => .inr (by omega)))
      rcases hq with h | h
      · exact .inr (by omega)
      · exact .inl (.inr (by rw [h]; rfl))
end Go.Proofs.Ytemjnppplmankaa
