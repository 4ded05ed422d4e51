/- Contract of the reference's Best. -/
import Derived.Test.YtgpecjnnepocmaaScF
import Derived.Deep.CutBlock
import Derived.Deep.DeepMust
import Derived.Deep.DeepCutAuto
namespace Go.Proofs.Ytgpecjnnepocmaa
open Go.RowKit
attribute [local go_sem] Ovs cell_ov obj_ov shape_ov

def polB (p : Int) : Bool := p == 1 || p == 2
theorem policy_b (p : Int) (w : World) : Calls Try.prog 27 #[.int .i64 p] w fun e w' => e = .returned (.bool (polB p)) ∧ w = w' := policy_any p w
theorem bestK_chk {room : Int} {l : List Sd} {n : Nat} (f : Sd → Sd → Int) (h : ∀ i, i < n → chkS room (l[i]?.getD (0, 0, 0)) = true) : ∀ j, j < n → chkS room (bestK f l j) = true
  | 0, hj => h 0 hj
  | j + 1, hj => by
    simp only [bestK]
    split
    · exact h (j + 1) hj
    · exact bestK_chk f h j (by omega)
theorem cmpC_of {policy room s1 s2 s3 q1 q2 q3 : Int} (hp : policy = 1 ∨ policy = 2) (h1 : chkS room (s1, s2, s3) = true) (h2 : chkS room (q1, q2, q3) = true) : cmpC policy s1 s2 s3 q1 q2 q3 room = polS policy room (s1, s2, s3) (q1, q2, q3) := by
  have e1 : chkB s1 s2 s3 room = true := h1
  have e2 : chkB q1 q2 q3 room = true := h2
  have e0 : (policy == 1 || policy == 2) = true := by rcases hp with rfl | rfl <;> rfl
  have : okC policy s1 s2 s3 q1 q2 q3 room = true := by simp only [okC, e0, e1, e2, Bool.and_true]
  simp only [cmpC, this, if_true]
  rfl

/-- The memory of the call: block B the result. -/
structure RB (w : World) (B : Nat) (wr : World) : Prop where
  gr : Gr w wr
  lo : w.heap.size ≤ B
  sz : B < wr.heap.size
  res : ∀ j, j < 3 → ∃ v, wr.cell? ⟨B, j, none⟩ = some v
  rfree : ∀ j, wr.frozen? ⟨B, j, none⟩ = false
theorem RB.grow {w : World} {B : Nat} {wr w1 : World} (h : RB w B wr) (g : Gr wr w1) : RB w B w1 :=
  ⟨h.gr.trans g, h.lo, Nat.lt_of_lt_of_le h.sz g.sz, fun j hj => let ⟨v, hv⟩ := h.res j hj; ⟨v, (g.cell _ _ h.sz).trans hv⟩, fun j => (g.frozen _ _ h.sz).trans (h.rfree j)⟩
/-- Beside it the best so far, in the block Bb. -/
structure RJ (w : World) (B Bb : Nat) (x : Sd) (wr : World) : Prop where
  rb : RB w B wr
  lo : B < Bb
  hi : Bb < wr.heap.size
  c0 : wr.cell? ⟨Bb, 0, none⟩ = some (.int .i64 x.1)
  c1 : wr.cell? ⟨Bb, 1, none⟩ = some (.int .i64 x.2.1)
  c2 : wr.cell? ⟨Bb, 2, none⟩ = some (.int .i64 x.2.2)
  fr : ∀ j, wr.frozen? ⟨Bb, j, none⟩ = false
theorem RJ.grow {w : World} {B Bb : Nat} {x : Sd} {wr w1 : World} (h : RJ w B Bb x wr) (g : Gr wr w1) : RJ w B Bb x w1 :=
  ⟨h.rb.grow g, h.lo, Nat.lt_of_lt_of_le h.hi g.sz, (g.cell _ _ h.hi).trans h.c0, (g.cell _ _ h.hi).trans h.c1, (g.cell _ _ h.hi).trans h.c2, fun j => (g.frozen _ _ h.hi).trans (h.fr j)⟩
theorem RB.setOther {w : World} {B : Nat} {wr : World} (h : RB w B wr) {a : Addr} (ha : B < a.block) (v : Value) : RB w B (wr.setCell a v) := by
  have hl := h.lo
  refine ⟨h.gr.setCell (by omega) _, h.lo, by simpa using h.sz, fun j hj => ?_, fun j => ?_⟩
  · obtain ⟨v', hv⟩ := h.res j hj
    exact ⟨v', by rw [World.cell?_setCell_other _ _ _ _ (fun e => by have := congrArg Addr.block e; dsimp only at this; omega)]; exact hv⟩
  · rw [World.frozen?_setCell]; exact h.rfree j
theorem RJ.set {w : World} {B Bb : Nat} {x y : Sd} {wr : World} (h : RJ w B Bb x wr) :
    RJ w B Bb y (((wr.setCell ⟨Bb, 0, none⟩ (.int .i64 y.1)).setCell ⟨Bb, 1, none⟩ (.int .i64 y.2.1)).setCell ⟨Bb, 2, none⟩ (.int .i64 y.2.2)) := by
  have hl := h.lo
  have hz := h.hi
  refine ⟨((h.rb.setOther hl _).setOther hl _).setOther hl _, h.lo, by simpa using hz, ?_, ?_, ?_, fun j => ?_⟩
  · rw [World.cell?_setCell_other _ _ _ _ (by simp), World.cell?_setCell_other _ _ _ _ (by simp)]
    exact World.cell?_setCell_same' _ _ _ (by rw [h.c0]; rfl)
  · rw [World.cell?_setCell_other _ _ _ _ (by simp)]
    exact World.cell?_setCell_same' _ _ _ (by rw [World.cell?_setCell_other _ _ _ _ (by simp), h.c1]; rfl)
  · exact World.cell?_setCell_same' _ _ _ (by rw [World.cell?_setCell_other _ _ _ _ (by simp), World.cell?_setCell_other _ _ _ _ (by simp), h.c2]; rfl)
  · rw [World.frozen?_setCell, World.frozen?_setCell, World.frozen?_setCell]; exact h.fr j

theorem twB_step (l : List Sd) (k : Nat) (hk : k < l.length) (h : twB l k = false) (hn : ∀ m, m < k → (l[k]?.getD (0, 0, 0)).1 ≠ (l[m]?.getD (0, 0, 0)).1) : twB l (k + 1) = false := by
  cases e : twB l (k + 1) with
  | false => rfl
  | true =>
    obtain ⟨i, j, h1, h2, h3⟩ := (twB_iff l (k + 1) (by omega)).1 e
    by_cases hik : i = k
    · subst hik; exact absurd h3 (hn j h1)
    · have := (twB_iff l k (by omega)).2 ⟨i, j, h1, by omega, h3⟩
      rw [h] at this; cases this
theorem twB_hit (l : List Sd) (k m : Nat) (hk : k < l.length) (hm : m < k) (h : (l[k]?.getD (0, 0, 0)).1 = (l[m]?.getD (0, 0, 0)).1) : twB l l.length = true :=
  (twB_iff l l.length (Nat.le_refl _)).2 ⟨k, m, hm, hk, h⟩

theorem polS_of {policy room : Int} {l : List Sd} {j : Nat} {s q : Sd} (h1 : s = l[j + 1]?.getD (0, 0, 0)) (h2 : q = bestK (polS policy room) l j) :
    bestK (polS policy room) l (j + 1) = if polS policy room s q < 0 then s else q := by
  simp only [bestK, ← h1, ← h2]

set_option maxRecDepth 40000 in
set_option maxHeartbeats 4000000 in
theorem refBestAny (policy room : Int) (v : Value) (n : Nat) (l : List Sd) (hl : l.length = n) (hn : n ≤ 100) (w : World) (hown : Own w 24 3 v n (rowS l)) :
    Calls Try.prog 23 #[.int .i64 policy, v, .int .i64 room] w fun e w' => e = .returned (bestA policy room l) ∧ Gr w w' := by
  obtain ⟨a, cap, rfl, hin, hnc, hcap⟩ := SdIn.ofOwn hown hl
  unfold maxLen at hcap
  have HA := Lib.hid hin.at
  have HL := Lib.hid hl
  clear hown hin hl
  by_cases hpr : (policy = 1 ∨ policy = 2) ∧ inB room 1 8192 = true
  · have hpb : polB policy = true := by rcases hpr.1 with rfl | rfl <;> rfl
    have hr1 : ¬ room < 1 := by have := hpr.2; simp [inB] at this; omega
    have hr2 : ¬ 8192 < room := by have := hpr.2; simp [inB] at this; omega
    have HP := Lib.hid hpr
    have HB : Hid (bestA policy room l = bestR policy room l n) := Lib.hid (by rw [bestA_yes hpr.1 hpr.2, HL.out])
    clear hpr
    go_enter Try.func23, Try.ntmps23
    go_upto_block 0 with (go_at_call 27; refine (policy_b _ _).mono ?_; rintro e w1 ⟨rfl, rfl⟩)
    go_cut [] (fun wx => RB w w.heap.size wx ∧ Hid (∀ i, i < n → chkS room (l[i]?.getD (0, 0, 0)) = true))
    case first =>
      go_wp2_with fail
      go_loopw [9] (fun i wx => ∃ k : Nat, k ≤ n ∧ i = .int .i64 k ∧ RB w w.heap.size wx ∧ Hid (∀ i, i < k → chkS room (l[i]?.getD (0, 0, 0)) = true)) (fun i _ => n - (intOf i).toNat)
      case atStart =>
        refine ⟨0, by omega, rfl, ⟨by (repeat (first | (with_reducible exact Gr.refl _) | assumption | (with_reducible apply Gr.from_drew) | (with_reducible apply Gr.alloc) | (with_reducible apply Gr.drew) | (with_reducible refine Gr.trans ?_ (by assumption)) | (with_reducible refine Gr.setCell ?_ (by omega) _))), Nat.le_refl _, by simp, fun j hj => ?_, fun j => by simp [go_sem]⟩, Lib.hid (by omega)⟩
        match j, hj with
        | 0, _ => exact ⟨.int .i64 0, by simp [go_sem]⟩
        | 1, _ => exact ⟨.int .i64 0, by simp [go_sem]⟩
        | 2, _ => exact ⟨.int .i64 0, by simp [go_sem]⟩
      case round =>
        obtain ⟨k, hk, rfl, hB, hC⟩ := hrel
        have HR := Lib.hid hB
        by_cases hlt : k < n
        · have hlt' : (k : Int) < n := by omega
          obtain ⟨b, off, rfl, hb, x0, x1, x2⟩ := HA.out k hlt
          have y0 := (hB.gr.cell _ _ hb).trans x0
          have y1 := (hB.gr.cell _ _ hb).trans x1
          have y2 := (hB.gr.cell _ _ hb).trans x2
          obtain ⟨s, hs⟩ : ∃ s, s = l[k]?.getD (0, 0, 0) := ⟨_, rfl⟩
          rw [← hs] at y0 y1 y2
          have HSD := Lib.hid hs
          obtain ⟨s1, s2, s3⟩ := s
          simp only at y0 y1 y2
          clear x0 x1 x2 hB hs
          go_wp2_with fail
          refine (refCheck_any _ _ _ _ _).mono ?_
          rintro e w1 ⟨rfl, hg⟩
          have H1 := Lib.hid (HR.out.grow hg)
          cases hck : chkB s1 s2 s3 room with
          | false =>
            have e0 := errOf_false hck
            have ⟨r0, hr0⟩ := H1.out.res 0 (by decide)
            have ⟨r1, hr1'⟩ := H1.out.res 1 (by decide)
            have ⟨r2, hr2'⟩ := H1.out.res 2 (by decide)
            have rf := H1.out.rfree
            have HNO := Lib.hid (show ¬ ∀ i, i < n → chkS room (l[i]?.getD (0, 0, 0)) = true from fun h => by
              have := h k hlt
              rw [← HSD.out] at this
              simp [chkS, hck] at this)
            go_wp2
            refine bodyPost_ret (v := bestV zSd false 2) ?_ rfl ⟨?_, ?_⟩
            · simp [results, Try.results23, go_sem, hr0, hr1', hr2', bestV, zSd]
            · rw [HB.out, best_bad HNO.out]
            · exact ((H1.out.gr.setCell (by simp) _).setCell (by simp) _).setCell (by simp) _
          | true =>
            have e0 := errOf_true hck
            go_wp2
            go_roundw
            case rel =>
              refine ⟨k + 1, by omega, by go_num, H1.out, Lib.hid fun i hi => ?_⟩
              by_cases hik : i = k
              · subst hik; rw [← HSD.out]; exact hck
              · exact hC.out i (by omega)
            case measure => simp [intOf]; omega
        · have hlt' : ¬ (k : Int) < n := by omega
          obtain rfl : k = n := by omega
          go_wp2
          go_meet
          exact ⟨HR.out, hC⟩
    case rest =>
      obtain ⟨hB, hC⟩ := hcut
      have HR := Lib.hid hB
      clear hB
      go_upto_block 2 with fail
      go_cut [] (fun wx => RB w w.heap.size wx ∧ Hid (twB l n = false))
      case first =>
        go_wp2_with fail
        go_loopw [10] (fun i wx => ∃ k : Nat, k ≤ n ∧ i = .int .i64 k ∧ RB w w.heap.size wx ∧ Hid (twB l k = false)) (fun i _ => n - (intOf i).toNat)
        case atStart => exact ⟨0, by omega, rfl, HR.out, Lib.hid rfl⟩
        case round =>
          obtain ⟨k, hk, rfl, hB, hT⟩ := hrel
          clear HR
          have HR := Lib.hid hB
          clear hB
          by_cases hlt : k < n
          · have hlt' : (k : Int) < n := by omega
            go_wp2_with fail
            go_loopw [11] (fun i wx => ∃ m : Nat, m ≤ k ∧ i = .int .i64 m ∧ RB w w.heap.size wx ∧ Hid (∀ j, j < m → (l[k]?.getD (0, 0, 0)).1 ≠ (l[j]?.getD (0, 0, 0)).1)) (fun i _ => k - (intOf i).toNat)
            case atStart => exact ⟨0, by omega, rfl, HR.out, Lib.hid (by omega)⟩
            case round =>
              obtain ⟨m, hm, rfl, hB, hN⟩ := hrel
              clear HR
              have HR := Lib.hid hB
              by_cases hlm : m < k
              · have hlm' : (m : Int) < k := by omega
                have hln' : (m : Int) < n := by omega
                obtain ⟨b, off, rfl, hb, x0, _, _⟩ := HA.out k hlt
                obtain ⟨b', off', he, hb', x0', _, _⟩ := HA.out m (by omega)
                obtain ⟨rfl, rfl⟩ : b = b' ∧ off = off' := by simpa using he
                have y0 := (hB.gr.cell _ _ hb).trans x0
                have y0' := (hB.gr.cell _ _ hb).trans x0'
                obtain ⟨s, hs⟩ : ∃ s, s = (l[k]?.getD (0, 0, 0)).1 := ⟨_, rfl⟩
                obtain ⟨t, ht⟩ : ∃ t, t = (l[m]?.getD (0, 0, 0)).1 := ⟨_, rfl⟩
                rw [← hs] at y0
                rw [← ht] at y0'
                have HS1 := Lib.hid hs
                have HT1 := Lib.hid ht
                clear x0 x0' hs ht hB he hb' hb
                by_cases hst : s = t
                · have ⟨r0, hr0⟩ := HR.out.res 0 (by decide)
                  have ⟨r1, hr1'⟩ := HR.out.res 1 (by decide)
                  have ⟨r2, hr2'⟩ := HR.out.res 2 (by decide)
                  have rf := HR.out.rfree
                  have HTW := Lib.hid (show twB l n = true by rw [← HL.out]; exact twB_hit l k m (by rw [HL.out]; exact hlt) hlm (by rw [← HS1.out, ← HT1.out, hst]))
                  subst hst
                  go_wp2
                  refine wp_region_flow (by kernel_rfl) (by kernel_rfl) ?_
                  refine flow_seg 11 rfl ?_
                  simp only [List.take_succ_cons, List.take_zero, List.drop_succ_cons, List.drop_zero]
                  repeat (go_big_quiet_step (fail))
                  refine wpQuiet_nil ?_
                  refine flow_nil ?_
                  go_wp2
                  refine bodyPost_ret (v := bestV zSd false 6) ?_ rfl ⟨?_, ?_⟩
                  · simp [results, Try.results23, go_sem, hr0, hr1', hr2', bestV, zSd]
                  · rw [HB.out, best_twice hC.out HTW.out]
                  · exact (((Gr.drew HR.out.gr).setCell (by simp) _).setCell (by simp) _).setCell (by simp) _
                · go_wp2
                  refine wp_region_flow (by kernel_rfl) (by kernel_rfl) ?_
                  refine flow_seg 11 rfl ?_
                  simp only [List.take_succ_cons, List.take_zero, List.drop_succ_cons, List.drop_zero]
                  repeat (go_big_quiet_step (fail))
                  refine wpQuiet_nil ?_
                  refine flow_nil ?_
                  go_wp2
                  go_roundw
                  case rel =>
                    refine ⟨m + 1, by omega, by go_num, HR.out.grow (by (repeat (first | (with_reducible exact Gr.refl _) | assumption | (with_reducible apply Gr.from_drew) | (with_reducible apply Gr.alloc) | (with_reducible apply Gr.drew) | (with_reducible refine Gr.trans ?_ (by assumption)) | (with_reducible refine Gr.setCell ?_ (by omega) _)))), Lib.hid fun j hj => ?_⟩
                    by_cases hjm : j = m
                    · subst hjm; rw [← HS1.out, ← HT1.out]; exact hst
                    · exact hN.out j (by omega)
                  case measure => simp [intOf]; omega
              · have hlm' : ¬ (m : Int) < k := by omega
                obtain rfl : m = k := by omega
                go_wp2
                go_roundw
                case rel => exact ⟨m + 1, by omega, by go_num, HR.out, Lib.hid (twB_step l m (by rw [HL.out]; exact hlt) hT.out hN.out)⟩
                case measure => simp [intOf]; omega
          · have hlt' : ¬ (k : Int) < n := by omega
            obtain rfl : k = n := by omega
            go_wp2
            go_meet
            exact ⟨HR.out, hT⟩
      case rest =>
        obtain ⟨hB, hT⟩ := hcut
        clear HR
        have HR := Lib.hid hB
        have ⟨r0, hr0⟩ := hB.res 0 (by decide)
        have ⟨r1, hr1'⟩ := hB.res 1 (by decide)
        have ⟨r2, hr2'⟩ := hB.res 2 (by decide)
        have rf := hB.rfree
        have rz := hB.sz
        clear hB
        by_cases h0 : n = 0
        · subst h0
          go_wp2
          refine bodyPost_ret (v := bestV zSd false 0) ?_ rfl ⟨?_, ?_⟩
          · simp [results, Try.results23, go_sem, hr0, hr1', hr2', bestV, zSd]
          · rw [HB.out, best_none]
          · exact ((HR.out.gr.setCell (by simp) _).setCell (by simp) _).setCell (by simp) _
        · have hb0 : ((n : Int) == 0) = false := beq_false_of_ne (by omega)
          have h0' : (0 : Int) < n := by omega
          obtain ⟨b, off, rfl, hb, x0, x1, x2⟩ := HA.out 0 (by omega)
          have y0 := (HR.out.gr.cell _ _ hb).trans x0
          have y1 := (HR.out.gr.cell _ _ hb).trans x1
          have y2 := (HR.out.gr.cell _ _ hb).trans x2
          obtain ⟨t, ht⟩ : ∃ t, t = l[0]?.getD (0, 0, 0) := ⟨_, rfl⟩
          rw [← ht] at y0 y1 y2
          have HT0 := Lib.hid ht
          obtain ⟨t1, t2, t3⟩ := t
          simp only [Nat.zero_mul, Nat.add_zero] at y0 y1 y2
          clear x0 x1 x2 ht hr0 hr1' hr2' rf
          obtain ⟨wo, rfl⟩ : ∃ wo : World, wo = wc := ⟨_, rfl⟩
          go_wp2_with fail
          go_loopw [13] (fun i wx => ∃ j : Nat, 0 < j ∧ j ≤ n ∧ i = .int .i64 j ∧ RJ w w.heap.size wo.heap.size (bestK (polS policy room) l (j - 1)) wx) (fun i _ => n - (intOf i).toNat)
          case atStart => exact ⟨1, by omega, by omega, rfl, HR.out.grow (by (repeat (first | (with_reducible exact Gr.refl _) | assumption | (with_reducible apply Gr.from_drew) | (with_reducible apply Gr.alloc) | (with_reducible apply Gr.drew) | (with_reducible refine Gr.trans ?_ (by assumption)) | (with_reducible refine Gr.setCell ?_ (by omega) _)))), rz, by simp, by simp [go_sem, bestK, ← HT0.out], by simp [go_sem, bestK, ← HT0.out], by simp [go_sem, bestK, ← HT0.out], fun j => by simp [go_sem]⟩
          case round =>
            obtain ⟨j, hj0, hj, rfl, hJ⟩ := hrel
            have HJ := Lib.hid hJ
            obtain ⟨q, hq⟩ : ∃ q, q = bestK (polS policy room) l (j - 1) := ⟨_, rfl⟩
            rw [← hq] at hJ
            have HQ := Lib.hid hq
            obtain ⟨q1, q2, q3⟩ := q
            have d0 := hJ.c0
            have d1 := hJ.c1
            have d2 := hJ.c2
            have jz := hJ.hi
            have jl := hJ.lo
            simp only at d0 d1 d2
            clear hJ hq y0 y1 y2
            by_cases hlt : j < n
            · have hlt' : (j : Int) < n := by omega
              obtain ⟨b', off', he, hb', x0, x1, x2⟩ := HA.out j hlt
              obtain ⟨rfl, rfl⟩ : b = b' ∧ off = off' := by simpa using he
              have y0 := (HJ.out.rb.gr.cell _ _ hb).trans x0
              have y1 := (HJ.out.rb.gr.cell _ _ hb).trans x1
              have y2 := (HJ.out.rb.gr.cell _ _ hb).trans x2
              obtain ⟨s, hs⟩ : ∃ s, s = l[j]?.getD (0, 0, 0) := ⟨_, rfl⟩
              rw [← hs] at y0 y1 y2
              have HSD := Lib.hid hs
              have HSTEP : Hid (bestK (polS policy room) l j = if polS policy room s (q1, q2, q3) < 0 then s else (q1, q2, q3)) := Lib.hid (by
                have e := polS_of (policy := policy) (room := room) (l := l) (j := j - 1) (s := s) (q := (q1, q2, q3)) (by rw [Nat.sub_add_cancel hj0]; exact hs) HQ.out
                rwa [Nat.sub_add_cancel hj0] at e)
              obtain ⟨s1, s2, s3⟩ := s
              simp only at y0 y1 y2
              clear x0 x1 x2 hs he hb' hb rz jz jl
              have HCM : Hid (cmpC policy s1 s2 s3 q1 q2 q3 room = polS policy room (s1, s2, s3) (q1, q2, q3)) := Lib.hid (cmpC_of HP.out.1 (by rw [HSD.out]; exact hC.out _ hlt) (by rw [HQ.out]; exact bestK_chk _ hC.out (j - 1) (by omega)))
              have HG := Gr.refl wr.drew
              go_wp2
              refine wp_region_flow (by kernel_rfl) (by kernel_rfl) ?_
              refine flow_seg 7 rfl ?_
              simp only [List.take_succ_cons, List.take_zero, List.drop_succ_cons, List.drop_zero]
              repeat (go_big_quiet_step (fail))
              refine wpQuiet_nil ?_
              refine flow_eff rfl rfl (fun K hK => ?_)
              go_wp2_with ((go_at_call 10; refine (refCompare_any _ _ _ _ _ _ _ _ _).mono ?_; rintro e w1 ⟨rfl, hg⟩; replace HG := HG.trans hg; (try clear hc); have hc := HG.cell; (try simp only [World.size_alloc] at hc)))
              refine ⟨Gr.ovs (by (repeat (first | (with_reducible exact Gr.refl _) | assumption | (with_reducible apply Gr.from_drew) | (with_reducible apply Gr.alloc) | (with_reducible apply Gr.drew) | (with_reducible refine Gr.trans ?_ (by assumption)) | (with_reducible refine Gr.setCell ?_ (by omega) _)))), ?_⟩
              refine flow_seg 5 rfl ?_
              simp only [List.take_succ_cons, List.take_zero, List.drop_succ_cons, List.drop_zero]
              repeat (go_big_quiet_step (fail))
              refine wpQuiet_nil ?_
              refine flow_nil ?_
              have hG := Gr.of_drew HG
              have HJ2 := Lib.hid (HJ.out.grow hG)
              have z0 := HJ2.out.c0
              have z1 := HJ2.out.c1
              have z2 := HJ2.out.c2
              have zf := HJ2.out.fr
              rw [← HQ.out] at z0 z1 z2
              simp only at z0 z1 z2
              have v0 := hG.keep y0
              have v1 := hG.keep y1
              have v2 := hG.keep y2
              rw [HCM.out]
              clear y0 y1 y2 d0 d1 d2
              by_cases hneg : polS policy room (s1, s2, s3) (q1, q2, q3) < 0
              · have HBK : Hid (bestK (polS policy room) l j = (s1, s2, s3)) := Lib.hid (by rw [HSTEP.out, if_pos hneg])
                go_wp2
                go_roundw
                case rel => exact ⟨j + 1, by omega, by omega, by go_num, by rw [Nat.add_sub_cancel, HBK.out]; exact HJ2.out.set⟩
                case measure => simp [intOf]; omega
              · have HBK : Hid (bestK (polS policy room) l j = (q1, q2, q3)) := Lib.hid (by rw [HSTEP.out, if_neg hneg])
                go_wp2
                go_roundw
                case rel => exact ⟨j + 1, by omega, by omega, by go_num, by rw [Nat.add_sub_cancel, HBK.out, HQ.out]; exact HJ2.out⟩
                case measure => simp [intOf]; omega
            · have hlt' : ¬ (j : Int) < n := by omega
              have HJN := Lib.hid (show n - 1 = j - 1 by omega)
              have ⟨r0, hr0⟩ := HJ.out.rb.res 0 (by decide)
              have ⟨r1, hr1'⟩ := HJ.out.rb.res 1 (by decide)
              have ⟨r2, hr2'⟩ := HJ.out.rb.res 2 (by decide)
              have rf := HJ.out.rb.rfree
              go_wp2
              refine bodyPost_ret (v := bestV (q1, q2, q3) true 0) ?_ rfl ⟨?_, ?_⟩
              · simp [results, Try.results23, go_sem, hr0, hr1', hr2', bestV]
              · rw [HB.out, best_some hC.out hT.out h0, HJN.out, ← HQ.out]
              · exact ((HJ.out.rb.gr.setCell (by simp) _).setCell (by simp) _).setCell (by simp) _
  · rw [bestA_no hpr]
    cases hpb : polB policy with
    | false =>
      go_enter Try.func23, Try.ntmps23
      go_wp2_with (go_at_call 27; refine (policy_b _ _).mono ?_; rintro e w1 ⟨rfl, rfl⟩)
      refine bodyPost_ret (v := bestV zSd false 2) ?_ rfl ⟨rfl, by (repeat (first | (with_reducible exact Gr.refl _) | assumption | (with_reducible apply Gr.from_drew) | (with_reducible apply Gr.alloc) | (with_reducible apply Gr.drew) | (with_reducible refine Gr.trans ?_ (by assumption)) | (with_reducible refine Gr.setCell ?_ (by omega) _)))⟩
      simp [results, Try.results23, go_sem, bestV, zSd]
    | true =>
      have hr : room < 1 ∨ 8192 < room := by
        refine Classical.byContradiction fun hh => hpr ⟨?_, ?_⟩
        · simp only [polB, Bool.or_eq_true, beq_iff_eq] at hpb; exact hpb
        · simp [inB]; omega
      clear hpr
      go_enter Try.func23, Try.ntmps23
      rcases (show room < 1 ∨ (¬ room < 1 ∧ 8192 < room) by omega) with h1 | ⟨h1, h2⟩
      all_goals
        go_wp2_with (go_at_call 27; refine (policy_b _ _).mono ?_; rintro e w1 ⟨rfl, rfl⟩)
        refine bodyPost_ret (v := bestV zSd false 2) ?_ rfl ⟨rfl, by (repeat (first | (with_reducible exact Gr.refl _) | assumption | (with_reducible apply Gr.from_drew) | (with_reducible apply Gr.alloc) | (with_reducible apply Gr.drew) | (with_reducible refine Gr.trans ?_ (by assumption)) | (with_reducible refine Gr.setCell ?_ (by omega) _)))⟩
        simp [results, Try.results23, go_sem, bestV, zSd]
end Go.Proofs.Ytgpecjnnepocmaa
