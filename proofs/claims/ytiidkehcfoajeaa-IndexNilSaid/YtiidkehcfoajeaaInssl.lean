/- Contract of slices.Insert of one element, at drumlin/ordmap.item[string, drumlin/index.list]. Written from YIns.base by inst.py. -/
import Derived.Test.YtiidkehcfoajeaaIns
import Derived.Test.YtiidkehcfoajeaaRows
import Derived.BigQuiet
import Derived.Deep.QuietTactic
import Derived.Deep.DeepMust
import Derived.WalkKit
import Derived.Lib.Hide
set_option linter.unusedVariables false
set_option linter.unusedSimpArgs false
namespace Go.Proofs.Ytiidkehcfoajeaa
open Go.RowKit
attribute [local go_sem] OvM cell_ovm obj_ovm

theorem infoItsl : (Try.prog.info? 158).map (fun i => (i.zero, i.size, i.bytes)) = some (some (.agg #[.string ⟨#[]⟩, .slice none 0 0]), 2, 40) := by kernel_rfl
theorem sizeItsl (w : World) : (Go.sizeOf 158).run Try.prog w = .ok 2 w := by kernel_rfl
theorem ovlItsl (w : World) (g vb o lb cb : Nat) (cur ys : Array Value) (hg : w.heap[g]? = some (.cells cur 158 (0, 0))) (hv : w.heap[vb]? = some (.cells ys 158 (0, 0))) (hne : vb ≠ g) (hs : cur.size ≠ 0) :
    (callFunc 150 #[.slice (some ⟨vb, 0, none⟩) 1 1, .slice (some ⟨g, o, none⟩) lb cb]).run Try.prog w = .ok (.value (.bool false)) w := by
  rw [run_callFunc_extern Try.func150 (by kernel_rfl) (by kernel_rfl) (by kernel_rfl) (e := Extern.SlicesOverlaps.overlaps #[159, 159] #[4]) (by kernel_rfl),
    Lib.run_overlaps_apart w 159 4 158 Try.underlying159 2 sizeItsl ⟨vb, 0, none⟩ ⟨g, o, none⟩ 1 1 lb cb hne 158 158 ys.size cur.size (by simp [World.shape?, hv]) (by simp [World.shape?, hg]) hs ((cellsOf hv).2 _) ((cellsOf hv).2 _)]
  rfl

set_option maxRecDepth 40000 in
set_option maxHeartbeats 4000000 in
theorem Insert_shiftsl (g n cap i : Nat) (xs ys : List Value) (vb : Nat) (w : World) (hown : Own w 158 2 (.slice (some ⟨g, 0, none⟩) n cap) n xs) (h1 : ∀ u ∈ xs, u.oneCell' = true) (hi : i < n) (hroom : n + 1 ≤ cap)
    (hvb : w.heap[vb]? = some (.cells ys.toArray 158 (0, 0))) (hy : ys.length = 2) (hy1 : ∀ u ∈ ys, u.oneCell' = true) (hne : vb ≠ g) :
    Calls Try.prog 139 #[.slice (some ⟨g, 0, none⟩) n cap, .int .i64 i, .slice (some ⟨vb, 0, none⟩) 1 1] w (InsPost 2 158 (.slice (some ⟨g, 0, none⟩) n cap) n i xs ys w) := by
  obtain ⟨cur, hg, hnc, hcm, hcs, htk⟩ := hown.parts
  have hsz : (Try.prog.info? 158).map (·.size) = some 2 := by kernel_rfl
  have hx : xs.length = n * 2 := hown.1
  have hb2 : ¬ cap = i + 1 := by omega
  have hb4 : ¬ cap = i := by omega
  have hin : i ≤ n := by omega
  have hi1 : (i : Int) + 1 ≤ (n : Int) + 1 := by omega
  have hieq : ¬ (i : Int) = n := by omega
  have hroom' : ¬ (cap : Int) < (n : Int) + 1 := by omega
  unfold maxLen at hcm
  have hsrc : ∀ (w1 : World), w1.heap[g]? = some (.cells cur 158 (0, 0)) → ∀ j v, (xs.drop (i * 2))[j]? = some v → w1.cell? ((⟨g, i * 2, none⟩ : Addr).add j) = some v := fun w1 hw1 j v hj => by
    rw [show (⟨g, i * 2, none⟩ : Addr).add j = ⟨g, i * 2 + j, none⟩ by unfold Addr.add; split <;> simp_all, (cellsOf hw1).1]
    rw [List.getElem?_drop, ← htk, List.getElem?_take] at hj
    split at hj
    · simpa using hj
    · cases hj
  have HCUR : Hid (cur.size = cap * 2 ∧ cur.toList.take (n * 2) = xs ∧ xs.length = n * 2) := Lib.hid ⟨hcs, htk, hx⟩
  have hdl : (xs.drop (i * 2)).length = (n - i) * 2 := by rw [List.length_drop, hx]; omega
  have hcp1 := fun (w1 : World) (hw1 : w1.heap[g]? = some (.cells cur 158 (0, 0))) dc sc => run_copyK (P := Try.prog) w1 159 159 3 158 2 g ((i + 1) * 2) (n - i) dc ⟨g, i * 2, none⟩ (n + 1 - i) sc cur 158 (xs.drop (i * 2)) Try.underlying159 hsz hw1
    (by rw [hdl, show Nat.min (n + 1 - i) (n - i) = n - i by simp only [Nat.min_def]; split <;> omega]) (hsrc w1 hw1) (by rw [hdl, hcs]; omega) (fun v hv => h1 v (List.mem_of_mem_drop hv))
  obtain ⟨cur1, hc1⟩ : ∃ cur1, cur1 = (cur.toList.take ((i + 1) * 2) ++ xs.drop (i * 2) ++ cur.toList.drop ((i + 1) * 2 + (xs.drop (i * 2)).length)).toArray := ⟨_, rfl⟩
  rw [← hc1] at hcp1
  have hs1 : cur1.size = cur.size := by
    have := seg_len cur.toList (xs.drop (i * 2)) ((i + 1) * 2) (by rw [hdl, Array.length_toList, hcs]; omega)
    rw [hc1]; simpa using this
  have hcp2 := fun (w1 : World) (hw1 : w1.heap[g]? = some (.cells cur1 158 (0, 0))) (hw2 : w1.heap[vb]? = some (.cells ys.toArray 158 (0, 0))) dc => run_copyK (P := Try.prog) w1 159 159 3 158 2 g (i * 2) (n + 1 - i) dc ⟨vb, 0, none⟩ 1 1 cur1 158 ys Try.underlying159 hsz hw1
    (by rw [hy, show Nat.min 1 (n + 1 - i) = 1 by simp only [Nat.min_def]; split <;> omega]) (fun j v hj => by rw [show (⟨vb, 0, none⟩ : Addr).add j = ⟨vb, j, none⟩ by unfold Addr.add; split <;> simp_all, (cellsOf hw2).1]; simpa using hj) (by rw [hy, hs1, hcs]; omega) hy1
  have hov := fun (w1 : World) (hw1 : w1.heap[g]? = some (.cells cur 158 (0, 0))) (hw2 : w1.heap[vb]? = some (.cells ys.toArray 158 (0, 0))) o lb cb => ovlItsl w1 g vb o lb cb cur ys.toArray hw1 hw2 hne (by rw [hcs]; omega)
  have HC1 := Lib.hid hc1
  have HP1 := Lib.hid hcp1
  have HP2 := Lib.hid hcp2
  have hov1 := fun o lb cb => hov w hg hvb o lb cb
  clear hcp1 hcp2 hov hsrc hcs htk hx hdl hc1 hs1 hown
  go_enter Try.func139, Try.ntmps139
  go_wp2_with (simp only [hov1])
  refine wp_region_flo (fun k => k = g) [] [] (by kernel_rfl) (by kernel_rfl) (fun k hk => by subst hk; exact blkLt hg) ?_
  refine flo_seg 8 rfl ?_
  simp only [List.take_succ_cons, List.take_zero, List.drop_succ_cons, List.drop_zero]
  repeat (go_big_quiet_step (fail))
  refine wpQuiet_nil ?_
  refine flo_eff rfl rfl rfl rfl (fun K hK => ?_)
  refine wp_copyK _ (.tmp 73) (.tmp 76) 159 159 rfl (.slice (some ⟨g, (i + 1) * 2, none⟩) (n - i) (cap - (i + 1))) (.slice (some ⟨g, i * 2, none⟩) (n + 1 - i) (cap - i)) rfl rfl (HP1.out w.drew hg _ _) ?_; (have HG1 := Lib.hid (setRow_at (w := w.drew) (cs := cur1) hg)); (have HV1 := Lib.hid ((setRow_ne (w := w.drew) cur1 hne).trans hvb)); (have HM1 := Lib.hid (setRow_mdh (S := fun k => k = g) (Mdh.refl _ w.drew) (g := g) (.inl rfl) cur1)); go_wp2; refine ⟨HM1.out.mono (fun q hq => by simpa using hq), ?_⟩
  refine flo_nil ?_
  go_wp2_with (refine wpList_copyK _ rfl (.tmp 80) (.tmp 81) 159 159 rfl (.slice (some ⟨g, i * 2, none⟩) (n + 1 - i) (cap - i)) (.slice (some ⟨vb, 0, none⟩) 1 1) rfl rfl (HP2.out _ HG1.out HV1.out _) ?_)
  go_ret
  obtain ⟨hcs, htk, hx⟩ := HCUR.out
  have hL := laid_in cur.toList xs ys (i * 2) ((n - i) * 2) 2 (by rw [show i * 2 + (n - i) * 2 = n * 2 by omega]; exact htk) (by rw [Array.length_toList, hcs]; omega) hy cur1.toList (cur1.toList.take (i * 2) ++ ys ++ cur1.toList.drop (i * 2 + ys.length))
    (by rw [HC1.out, show i * 2 + 2 = (i + 1) * 2 by omega]) rfl
  refine ⟨g, cap, rfl, Own.ofParts (setRow_at HG1.out) hroom (by unfold maxLen; omega) ?_ ?_, .inl rfl, ?_⟩
  · have := hL.2
    simpa [hcs, hy] using this
  · have := hL.1
    rw [show i * 2 + 2 + (n - i) * 2 = (n + 1) * 2 by omega] at this
    simpa [hy] using this
  · exact setRow_mdh (S := fun k => (Value.slice (some ⟨g, 0, none⟩) n cap).ownBlock = some k) (setRow_mdh (S := fun k => (Value.slice (some ⟨g, 0, none⟩) n cap).ownBlock = some k) ((Mdh.refl _ w).drew) (g := g) (.inl rfl) cur1) (g := g) (.inl rfl) _

set_option maxRecDepth 40000 in
set_option maxHeartbeats 4000000 in
theorem Insert_endsl (v : Value) (n : Nat) (xs ys : List Value) (vb : Nat) (w : World) (hown : Own w 158 2 v n xs) (hn : n ≤ 1000000)
    (hvb : w.heap[vb]? = some (.cells ys.toArray 158 (0, 0))) (hy : ys.length = 2) (hy1 : ∀ u ∈ ys, u.oneCell' = true) :
    Calls Try.prog 139 #[v, .int .i64 n, .slice (some ⟨vb, 0, none⟩) 1 1] w (InsPost 2 158 v n n xs ys w) := by
  obtain ⟨i0, hi0, hz0, hz1, hz2⟩ := info_parts infoItsl
  have hx : xs.length = n * 2 := hown.1
  have HN : Hid (∀ j u, ys[j]? = some u → w.cell? ((⟨vb, 0, none⟩ : Addr).add j) = some u) := Lib.hid (fun j u hj => by
    rw [show (⟨vb, 0, none⟩ : Addr).add j = ⟨vb, j, none⟩ by unfold Addr.add; split <;> simp_all, (cellsOf hvb).1]; simpa using hj)
  have HO := Lib.hid hown
  have HX : Hid (xs.take (n * 2) ++ ys ++ xs.drop (n * 2) = xs ++ ys) := Lib.hid (by rw [List.take_of_length_le (by omega), List.drop_of_length_le (by omega), List.append_nil])
  rcases hown.2 with ⟨rfl, rfl⟩ | ⟨g, cap, cur, rfl, _, _, hnc, hcm, _⟩
  · clear hown hx
    go_enter Try.func139, Try.ntmps139
    go_wp2_with (at_builtin; go_must (refine wpList_app2 _ rfl (.tmp 23) (.tmp 24) 159 159 rfl 158 Try.underlying159 i0 _ 2 40 Try.underlying159 hi0 hz0 hz1 hz2 rfl (by decide) (.slice none 0 0) 0 xs rfl HO.out ⟨vb, 0, none⟩ 1 1 ys rfl hy HN.out hy1 (by decide) (by simp only [maxLen]; omega) (by omega) ?_); intro g2 cap2 w2 ho2 hwh hgr; have HO2 := Lib.hid ho2; have HW2 := Lib.hid hwh; have HG2 := Lib.hid hgr; clear ho2 hwh hgr)
    all_goals
      go_ret
      refine ⟨g2, cap2, rfl, by rw [HX.out]; exact HO2.out, HW2.out, Mdh.grown (Mdh.refl _ w) HG2.out (fun r hr => hr)⟩
  · clear hown hx
    unfold maxLen at hcm
    go_enter Try.func139, Try.ntmps139
    go_wp2_with (at_builtin; go_must (refine wpList_app2 _ rfl (.tmp 23) (.tmp 24) 159 159 rfl 158 Try.underlying159 i0 _ 2 40 Try.underlying159 hi0 hz0 hz1 hz2 rfl (by decide) (.slice (some ⟨g, 0, none⟩) n cap) n xs rfl HO.out ⟨vb, 0, none⟩ 1 1 ys rfl hy HN.out hy1 (by decide) (by simp only [maxLen]; omega) (by omega) ?_); intro g2 cap2 w2 ho2 hwh hgr; have HO2 := Lib.hid ho2; have HW2 := Lib.hid hwh; have HG2 := Lib.hid hgr; clear ho2 hwh hgr)
    all_goals
      go_ret
      refine ⟨g2, cap2, rfl, by rw [HX.out]; exact HO2.out, HW2.out, Mdh.grown (Mdh.refl _ w) HG2.out (fun r hr => hr)⟩

set_option maxRecDepth 40000 in
set_option maxHeartbeats 4000000 in
theorem Insert_growsl (g n cap i : Nat) (xs ys : List Value) (vb : Nat) (w : World) (hown : Own w 158 2 (.slice (some ⟨g, 0, none⟩) n cap) n xs) (h1 : ∀ u ∈ xs, u.oneCell' = true) (hi : i < n) (hroom : cap < n + 1) (hn : n ≤ 1000000)
    (hvb : w.heap[vb]? = some (.cells ys.toArray 158 (0, 0))) (hy : ys.length = 2) (hy1 : ∀ u ∈ ys, u.oneCell' = true) :
    Calls Try.prog 139 #[.slice (some ⟨g, 0, none⟩) n cap, .int .i64 i, .slice (some ⟨vb, 0, none⟩) 1 1] w (InsPost 2 158 (.slice (some ⟨g, 0, none⟩) n cap) n i xs ys w) := by
  obtain ⟨i0, hi0, hz0, hz1, hz2⟩ := info_parts infoItsl
  obtain ⟨cur, hg, hnc, hcm, hcs, htk⟩ := hown.parts
  have hsz : (Try.prog.info? 158).map (·.size) = some 2 := by kernel_rfl
  have hx : xs.length = n * 2 := hown.1
  have hcell := hown.cells rfl
  have hci : ¬ cap = i := by omega
  have hin : i ≤ n := by omega
  have hieq : ¬ (i : Int) = n := by omega
  have hroom' : (cap : Int) < (n : Int) + 1 := by omega
  have hkk : (n : Int) + 1 - (i : Int) = ((n + 1 - i : Nat) : Int) := by omega
  have hik : i + (n + 1 - i) = n + 1 := by omega
  have hgw := blkLt hg
  have hvw := blkLt hvb
  have hadd : ∀ b j : Nat, (⟨b, 0, none⟩ : Addr).add j = ⟨b, j, none⟩ := fun b j => by unfold Addr.add; split <;> simp_all
  have hold : (Builtin.firstCells i0.size i (.slice (some ⟨g, 0, none⟩) i cap)).run Try.prog w.drew = .ok (xs.take (i * 2)).toArray w.drew := by
    rw [hz1]
    exact run_firstCells_some w.drew 2 i ⟨g, 0, none⟩ i cap (xs.take (i * 2)) (by rw [List.length_take]; omega) (fun j v hj => by
      rw [List.getElem?_take] at hj
      split at hj
      · exact hcell j v hj
      · cases hj)
  have hrz : ∀ ty, (Builtin.append_ #[159, 3] ty #[.slice (some ⟨g, 0, none⟩) i cap, .int .i64 ((n : Int) + 1 - (i : Int))]).run Try.prog w =
      .ok (.slice (some ⟨w.heap.size, 0, none⟩) (n + 1) (grownCap w (n + 1) cap 158)) (w.drew.alloc (.cells ((xs.take (i * 2)).toArray ++ Builtin.zeroCells (Value.agg #[.string ⟨#[]⟩, .slice none 0 0]).cells (n + 1 - i) ++ Builtin.zeroCells (Value.agg #[.string ⟨#[]⟩, .slice none 0 0]).cells (grownCap w (n + 1) cap 158 - (n + 1))) 158)) := fun ty => by
    have h := Lib.run_append_grow_zeros w 159 3 ty 158 i0 _ .i64 .i64 Try.underlying159 Try.underlying3 hi0 hz0 (some ⟨g, 0, none⟩) i cap (xs.take (i * 2)) hold (n + 1 - i) (by omega) (by omega) (by omega) (by omega) (by rw [hz2]; omega) (by rw [hz2, hik]; exact growslice_fits hroom (by omega))
    rw [hik] at h
    rw [hkk]
    exact h
  obtain ⟨G, hG⟩ : ∃ G, G = grownCap w (n + 1) cap 158 := ⟨_, rfl⟩
  obtain ⟨ROW, hROW⟩ : ∃ ROW : Array Value, ROW = (xs.take (i * 2)).toArray ++ Builtin.zeroCells (Value.agg #[.string ⟨#[]⟩, .slice none 0 0]).cells (n + 1 - i) ++ Builtin.zeroCells (Value.agg #[.string ⟨#[]⟩, .slice none 0 0]).cells (G - (n + 1)) := ⟨_, rfl⟩
  rw [← hG] at hrz
  rw [← hROW] at hrz
  have hGn : n + 1 ≤ G := by rw [hG]; exact grownCap_ge w _ _ _
  have hG63 : G ≤ maxLen := by rw [hG]; exact grownCap_le_maxLen w _ _ _ (by unfold maxLen; omega)
  obtain ⟨ZS, hZS, hROWl⟩ : ∃ ZS : List Value, ZS.length = (G - i) * 2 ∧ ROW.toList = xs.take (i * 2) ++ ZS := by
    refine ⟨(Builtin.zeroCells (Value.agg #[.string ⟨#[]⟩, .slice none 0 0]).cells (n + 1 - i)).toList ++ (Builtin.zeroCells (Value.agg #[.string ⟨#[]⟩, .slice none 0 0]).cells (G - (n + 1))).toList, ?_, ?_⟩
    · rw [List.length_append, zeroCells_len, zeroCells_len, show (Value.agg #[.string ⟨#[]⟩, .slice none 0 0]).cells.size = 2 from rfl]; omega
    · rw [hROW]; simp
  have hRs : ROW.size = G * 2 := by
    rw [← Array.length_toList, hROWl, List.length_append, hZS, List.length_take]; omega
  have hdl : (xs.drop (i * 2)).length = (n - i) * 2 := by rw [List.length_drop, hx]; omega
  obtain ⟨cur1, hc1⟩ : ∃ cur1, cur1 = (ROW.toList.take (i * 2) ++ ys ++ ROW.toList.drop (i * 2 + ys.length)).toArray := ⟨_, rfl⟩
  have hs1 : cur1.size = G * 2 := by
    have := seg_len ROW.toList ys (i * 2) (by rw [hy, Array.length_toList, hRs]; omega)
    rw [hc1, ← hRs]; simpa using this
  have hcp1 := fun (w1 : World) (hw1 : w1.heap[w.heap.size]? = some (.cells ROW 158 (0, 0))) (hw2 : w1.heap[vb]? = some (.cells ys.toArray 158 (0, 0))) dc => run_copyK (P := Try.prog) w1 159 159 3 158 2 w.heap.size (i * 2) (n + 1 - i) dc ⟨vb, 0, none⟩ 1 1 ROW 158 ys Try.underlying159 hsz hw1
    (by rw [hy, show Nat.min 1 (n + 1 - i) = 1 by simp only [Nat.min_def]; split <;> omega]) (fun j v hj => by rw [hadd, (cellsOf hw2).1]; simpa using hj) (by rw [hy, hRs]; omega) hy1
  rw [← hc1] at hcp1
  have hcp2 := fun (w1 : World) (hw1 : w1.heap[w.heap.size]? = some (.cells cur1 158 (0, 0))) (hw2 : w1.heap[g]? = some (.cells cur 158 (0, 0))) dc sc => run_copyK (P := Try.prog) w1 159 159 3 158 2 w.heap.size ((i + 1) * 2) (n - i) dc ⟨g, i * 2, none⟩ (n - i) sc cur1 158 (xs.drop (i * 2)) Try.underlying159 hsz hw1
    (by rw [hdl, show Nat.min (n - i) (n - i) = n - i by simp only [Nat.min_def]; split <;> omega]) (fun j v hj => by
      rw [show (⟨g, i * 2, none⟩ : Addr).add j = ⟨g, i * 2 + j, none⟩ by unfold Addr.add; split <;> simp_all, (cellsOf hw2).1]
      rw [List.getElem?_drop, ← htk, List.getElem?_take] at hj
      split at hj
      · simpa using hj
      · cases hj) (by rw [hdl, hs1]; omega) (fun v hv => h1 v (List.mem_of_mem_drop hv))
  obtain ⟨cur2, hc2⟩ : ∃ cur2, cur2 = (cur1.toList.take ((i + 1) * 2) ++ xs.drop (i * 2) ++ cur1.toList.drop ((i + 1) * 2 + (xs.drop (i * 2)).length)).toArray := ⟨_, rfl⟩
  rw [← hc2] at hcp2
  have HL : Hid (_) := Lib.hid (laid_new xs ys ZS (i * 2) ((n - i) * 2) 2 (by omega) (by omega) hy ROW.toList cur1.toList cur2.toList hROWl (by rw [hc1]) (by rw [hc2, show i * 2 + 2 = (i + 1) * 2 by omega]))
  have HRZ := Lib.hid hrz
  have HP1 := Lib.hid hcp1
  have HP2 := Lib.hid hcp2
  have HS := Lib.hid (And.intro hRs (And.intro hdl hs1))
  have hG1 : ¬ G = i := by omega
  have hG2 : ¬ G = i + 1 := by omega
  have hG3 : (i : Int) + 1 ≤ (n : Int) + 1 := by omega
  have hG4 : (n : Int) + 1 ≤ G := by omega
  unfold maxLen at hcm hG63
  clear hrz hcp1 hcp2 hold hROW hROWl hc1 hRs hdl hs1 hcs htk hx hcell hown hc2 hkk hik hz0 hi0 hz1 hz2 hG hZS
  go_enter Try.func139, Try.ntmps139
  go_wp2_with (first
    | (at_builtin; refine Lib.wpList_append_run _ rfl _ _ _ _ rfl _ _ rfl rfl _ _ (HRZ.out _) ?_)
    | (refine wpList_copyK _ rfl (.tmp 43) (.tmp 44) 159 159 rfl (.slice (some ⟨w.heap.size, i * 2, none⟩) (n + 1 - i) (G - i)) (.slice (some ⟨vb, 0, none⟩) 1 1) rfl rfl (HP1.out _ (blkNew w.drew _) (blkOld (w := w.drew) hvb) _) ?_))
  have hga : ((w.drew.alloc (.cells ROW 158)).setRow w.heap.size cur1).heap[w.heap.size]? = some (.cells cur1 158 (0, 0)) := setRow_at (w := w.drew.alloc (.cells ROW 158)) (cs := cur1) (blkNew w.drew _)
  have hgb : ((w.drew.alloc (.cells ROW 158)).setRow w.heap.size cur1).heap[g]? = some (.cells cur 158 (0, 0)) := (setRow_ne _ (by omega)).trans (blkOld (w := w.drew) hg)
  have HM : Hid (Mdh (fun k => (Value.slice (some ⟨g, 0, none⟩) n cap).ownBlock = some k) w ((w.drew.alloc (.cells ROW 158)).setRow w.heap.size cur1)) := Lib.hid (setRow_mdh (((Mdh.refl _ w).drew).alloc _) (.inr (Nat.le_refl _)) _)
  generalize (w.drew.alloc (.cells ROW 158)).setRow w.heap.size cur1 = W1 at *
  have HGA := Lib.hid hga
  have HGB := Lib.hid hgb
  clear hgb hgw hvw
  go_simp
  refine wp_region_flo (fun k => k = w.heap.size) [] [] (by kernel_rfl) (by kernel_rfl) (fun k hk => by subst hk; exact blkLt hga) ?_
  refine flo_seg 8 rfl ?_
  simp only [List.take_succ_cons, List.take_zero, List.drop_succ_cons, List.drop_zero]
  repeat (go_big_quiet_step (fail))
  refine wpQuiet_nil ?_
  refine flo_eff rfl rfl rfl rfl (fun K hK => ?_)
  refine wp_copyK _ (.tmp 50) (.tmp 53) 159 159 rfl (.slice (some ⟨w.heap.size, (i + 1) * 2, none⟩) (n - i) (G - (i + 1))) (.slice (some ⟨g, i * 2, none⟩) (n - i) (cap - i)) rfl rfl (HP2.out W1.drew HGA.out HGB.out _ _) ?_; (have HG1 := Lib.hid (setRow_at (w := W1.drew) (cs := cur2) HGA.out)); (have HM1 := Lib.hid (setRow_mdh (S := fun k => k = w.heap.size) (Mdh.refl _ W1.drew) (g := w.heap.size) (.inl rfl) cur2)); go_wp2; refine ⟨HM1.out.mono (fun q hq => by simpa using hq), ?_⟩
  refine flo_nil ?_
  go_wp2
  go_ret
  obtain ⟨hRs, hdl, hs1⟩ := HS.out
  have hL := HL.out
  rw [show i * 2 + 2 = (i + 1) * 2 by omega, show (i + 1) * 2 + (n - i) * 2 = (n + 1) * 2 by omega] at hL
  refine ⟨w.heap.size, G, rfl, Own.ofParts HG1.out (by omega) (by unfold maxLen; omega) ?_ (by simpa using hL.1), .inr (Nat.le_refl _), ?_⟩
  · have := hL.2
    simp only [Array.length_toList] at this
    rw [this, hRs]
  · exact setRow_mdh HM.out.drew (.inr (Nat.le_refl _)) _

/-- One element laid into a row of the call's own. -/
theorem Insertsl (v : Value) (n i : Nat) (xs ys : List Value) (vb : Nat) (w : World) (hown : Own w 158 2 v n xs) (h1 : ∀ u ∈ xs, u.oneCell' = true) (hi : i ≤ n) (hn : n ≤ 1000000)
    (hvb : w.heap[vb]? = some (.cells ys.toArray 158 (0, 0))) (hy : ys.length = 2) (hy1 : ∀ u ∈ ys, u.oneCell' = true) (hne : v.ownBlock ≠ some vb) :
    Calls Try.prog 139 #[v, .int .i64 i, .slice (some ⟨vb, 0, none⟩) 1 1] w (InsPost 2 158 v n i xs ys w) := by
  by_cases hin : i = n
  · subst hin
    exact Insert_endsl v i xs ys vb w hown hn hvb hy hy1
  · rcases hown.2 with ⟨rfl, rfl⟩ | ⟨g, cap, cur, rfl, _⟩
    · omega
    · by_cases hr : n + 1 ≤ cap
      · exact Insert_shiftsl g n cap i xs ys vb w hown h1 (by omega) hr hvb hy hy1 (fun e => hne (by rw [e]; rfl))
      · exact Insert_growsl g n cap i xs ys vb w hown h1 (by omega) (by omega) hn hvb hy hy1
end Go.Proofs.Ytiidkehcfoajeaa
