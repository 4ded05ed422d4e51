/- Contracts for ScoreBest: made at any list, slices.Contains. -/
import Derived.Test.YtgpecjnnepocmaaScS
import Derived.Test.YtgpecjnnepocmaaScT
namespace Go.Proofs.Ytgpecjnnepocmaa
open Go.RowKit
attribute [local go_sem] Ovs cell_ov obj_ov shape_ov

theorem sd_cases {s q : Sd} (h : s ≠ q) : s.1 ≠ q.1 ∨ (s.1 = q.1 ∧ s.2.1 ≠ q.2.1) ∨ (s.1 = q.1 ∧ s.2.1 = q.2.1 ∧ s.2.2 ≠ q.2.2) := by
  obtain ⟨s1, s2, s3⟩ := s
  obtain ⟨q1, q2, q3⟩ := q
  simp only [ne_eq, Prod.mk.injEq] at *
  omega

set_option maxRecDepth 40000 in
set_option maxHeartbeats 1000000 in
theorem IndexSd (a : Option Addr) (len cap : Nat) (l : List Sd) (q1 q2 q3 : Int) (hlen : len ≤ 100) (w : World) (hs : SdIn w a len cap l) (hq : (q1, q2, q3) ∈ l) :
    Calls Try.prog 38 #[.slice a len cap, .agg #[.int .i64 q1, .int .i64 q2, .int .i64 q3]] w fun e w' => (∃ i : Nat, e = .returned (.int .i64 i)) ∧ Gr w w' := by
  have HS := Lib.hid hs.at
  have HL := Lib.hid hs.1
  have HQ := Lib.hid hq
  clear hs hq
  go_enter Try.func38, Try.ntmps38
  go_wp2_with fail
  go_loopw [8] (fun i wx => ∃ k : Nat, k ≤ len ∧ i = .int .i64 k ∧ Hid (Gr (w.alloc (.cells #[.int .i64 q1, .int .i64 q2, .int .i64 q3] 23)) wx ∧ ∀ j, j < k → l[j]?.getD (0, 0, 0) ≠ (q1, q2, q3))) (fun i _ => len - (intOf i).toNat)
  case atStart => exact ⟨0, by omega, rfl, Lib.hid ⟨Gr.refl _, by omega⟩⟩
  case round =>
    obtain ⟨k, hk, rfl, H⟩ := hrel
    by_cases hlt : k < len
    · have hlt' : (k : Int) < len := by omega
      obtain ⟨b, off, rfl, hb, x0, x1, x2⟩ := HS.out k hlt
      have hg := (Gr.alloc (Gr.refl w) (.cells #[.int .i64 q1, .int .i64 q2, .int .i64 q3] 23)).trans H.out.1
      have y0 := hg.keep x0
      have y1 := hg.keep x1
      have y2 := hg.keep x2
      have z0 := H.out.1.keep (show _ = some (Value.int .i64 q1) from cell_of_row _ w.heap.size 0 #[.int .i64 q1, .int .i64 q2, .int .i64 q3] 23 (0, 0) (World.alloc_heap_new _ _))
      have z1 := H.out.1.keep (show _ = some (Value.int .i64 q2) from cell_of_row _ w.heap.size 1 #[.int .i64 q1, .int .i64 q2, .int .i64 q3] 23 (0, 0) (World.alloc_heap_new _ _))
      have z2 := H.out.1.keep (show _ = some (Value.int .i64 q3) from cell_of_row _ w.heap.size 2 #[.int .i64 q1, .int .i64 q2, .int .i64 q3] 23 (0, 0) (World.alloc_heap_new _ _))
      obtain ⟨s, hs⟩ : ∃ s, s = l[k]?.getD (0, 0, 0) := ⟨_, rfl⟩
      rw [← hs] at y0 y1 y2
      have HSD := Lib.hid hs
      clear x0 x1 x2 hg hs hb
      by_cases he : s = (q1, q2, q3)
      · subst he
        simp only at y0 y1 y2
        go_wp2
        refine wp_region_flow (by kernel_rfl) (by kernel_rfl) ?_
        refine flow_seg 6 rfl ?_
        simp only [List.take_succ_cons, List.take_zero, List.drop_succ_cons, List.drop_zero]
        repeat (go_big_quiet_step (fail))
        refine wpQuiet_nil ?_
        refine flow_nil ?_
        go_wp2
        go_ret
        exact ⟨⟨k, rfl⟩, ((Gr.alloc (Gr.refl w) _).trans H.out.1).drew⟩
      · have HNE := Lib.hid he
        have hc := sd_cases he
        clear he
        obtain ⟨s1, s2, s3⟩ := s
        simp only at y0 y1 y2 hc
        rcases hc with hc | ⟨hc0, hc⟩ | ⟨hc0, hc1, hc⟩
        all_goals
          (try subst hc0)
          (try subst hc1)
          have hcb := beq_false_of_ne hc
          go_wp2
          refine wp_region_flow (by kernel_rfl) (by kernel_rfl) ?_
          refine flow_seg 6 rfl ?_
          simp only [List.take_succ_cons, List.take_zero, List.drop_succ_cons, List.drop_zero]
          repeat (go_big_quiet_step (fail))
          refine wpQuiet_nil ?_
          refine flow_nil ?_
          go_wp2
          go_roundw
          case rel =>
            refine ⟨k + 1, by omega, by go_num, Lib.hid ⟨H.out.1.drew, fun j hj => ?_⟩⟩
            by_cases hjk : j = k
            · subst hjk; rw [← HSD.out]; exact HNE.out
            · exact H.out.2 j (by omega)
          case measure => simp [intOf]; omega
    · exfalso
      obtain ⟨i, hi, he⟩ := List.mem_iff_getElem.1 HQ.out
      have hl := HL.out
      exact H.out.2 i (by omega) (by rw [List.getElem?_eq_getElem hi, he]; rfl)

theorem ContainsSd (a : Option Addr) (len cap : Nat) (l : List Sd) (q1 q2 q3 : Int) (hlen : len ≤ 100) (w : World) (hs : SdIn w a len cap l) (hq : (q1, q2, q3) ∈ l) :
    Calls Try.prog 25 #[.slice a len cap, .agg #[.int .i64 q1, .int .i64 q2, .int .i64 q3]] w fun e w' => e = .returned (.bool true) ∧ Gr w w' := by
  have HS := Lib.hid hs
  have HQ := Lib.hid hq
  clear hs hq
  go_enter Try.func25, Try.ntmps25
  go_wp2_with fail
  refine (IndexSd a len cap l q1 q2 q3 hlen _ (HS.out.grow (by (repeat (first | (with_reducible exact Gr.refl _) | assumption | (with_reducible apply Gr.from_drew) | (with_reducible apply Gr.alloc) | (with_reducible apply Gr.drew) | (with_reducible refine Gr.trans ?_ (by assumption)) | (with_reducible refine Gr.setCell ?_ (by omega) _))))) HQ.out).mono ?_
  rintro e w1 ⟨⟨i, rfl⟩, hg⟩
  have hi0 : (0 : Int) ≤ i := by omega
  go_wp2
  go_ret
  exact ⟨rfl, (Gr.alloc (Gr.refl w) _).trans hg⟩

set_option maxRecDepth 40000 in
set_option maxHeartbeats 1000000 in
theorem madeIn (a : Option Addr) (n cap : Nat) (l : List Nm) (room : Int) (h1 : 1 ≤ room) (h2 : room ≤ 8192) (hl : l.length = n) (hn : n ≤ cap) (hcap : cap ≤ maxLen) (w : World) (hs : NmIn w a n l) (hok : NumsOk l) :
    Calls Try.prog 19 #[.slice a n cap, .int .i64 room] w fun e w' =>
      ∃ v, e = .returned v ∧ w'.ownsRow w.heap.size 23 3 v (min n 20) (rowS (madeK l room (min n 20))) ∧ Gr w w' := by
  by_cases h0 : 0 < n
  · obtain ⟨b, off, rfl, hb, _⟩ := hs 0 h0
    refine made_any b off n cap l room h1 h2 hl hn hcap w (fun i hi => ?_) hok hb
    obtain ⟨b', off', he, _, c0, c1⟩ := hs i (by omega)
    obtain ⟨rfl, rfl⟩ : b = b' ∧ off = off' := by simpa using he
    exact ⟨c0, c1⟩
  · obtain rfl : n = 0 := by omega
    unfold maxLen at hcap
    clear hs hok
    rcases a with _ | ⟨b, off, sp⟩
    all_goals
      go_enter Try.func19, Try.ntmps19
      go_wp2
      go_loopw [5, 14] (fun v i wr => i = .int .i64 0 ∧ v = .slice none 0 0 ∧ Gr w wr) (fun _ _ _ => 0)
      case atStart => exact ⟨rfl, rfl, Gr.refl _⟩
      case round =>
        obtain ⟨rfl, rfl, hg⟩ := hrel
        go_wp2
        go_ret
        exact ⟨_, rfl, ⟨rfl, .inl ⟨rfl, rfl⟩⟩, hg⟩
end Go.Proofs.Ytgpecjnnepocmaa
