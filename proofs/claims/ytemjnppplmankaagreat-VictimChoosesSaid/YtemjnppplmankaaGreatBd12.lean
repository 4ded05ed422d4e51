/- Contracts of score.Best and of its reference. -/
import Derived.Test.YtemjnppplmankaaGreatBd11
import Derived.Test.YtemjnppplmankaaGreatBd10
import Derived.Test.YtemjnppplmankaaGreatBd3
set_option linter.unusedVariables false
set_option linter.unusedSimpArgs false
namespace Go.Proofs.YtemjnppplmankaaGreat
open Go.RowKit
attribute [local go_sem] Ovs cell_ov obj_ov shape_ov

/-- The sides l lie in w one behind the other. -/
def SidesAt (w : World) (b off : Nat) (l : List Sd) : Prop :=
  ∀ i, i < l.length → w.cell? ⟨b, off + i * 3, none⟩ = some (.int .i64 (l[i]?.getD (0, 0, 0)).1) ∧ w.cell? ⟨b, off + i * 3 + 1, none⟩ = some (.int .i64 (l[i]?.getD (0, 0, 0)).2.1) ∧
    w.cell? ⟨b, off + i * 3 + 2, none⟩ = some (.int .i64 (l[i]?.getD (0, 0, 0)).2.2)

def chkS (room : Int) (x : Sd) : Bool := chkB x.1 x.2.1 x.2.2 room
def polS (policy room : Int) (x y : Sd) : Int := polC policy x.1 x.2.1 x.2.2 y.1 y.2.1 y.2.2 room

/-- The memory of the call: block B the result, B + 1 the room, B + 1 + 1 how often each slot has come. -/
structure BI (w : World) (B : Nat) (room : Int) (c : Int → Int) (wr : World) : Prop where
  gr : Gr w wr
  sz : B + 1 + 1 < wr.heap.size
  rm : wr.cell? ⟨B + 1, 0, none⟩ = some (.int .i64 room)
  seen : ∀ j : Nat, j < 32 → wr.cell? ⟨B + 1 + 1, j, none⟩ = some (.int .i64 (c j))
  free : ∀ j, wr.frozen? ⟨B + 1 + 1, j, none⟩ = false
  res : ∀ j, j < 3 → ∃ v, wr.cell? ⟨B, j, none⟩ = some v
  rfree : ∀ j, wr.frozen? ⟨B, j, none⟩ = false

theorem BI.grow {w : World} {B : Nat} {room : Int} {c : Int → Int} {wr w1 : World} (h : BI w B room c wr) (g : Gr wr w1) : BI w B room c w1 := by
  have hz := h.sz
  exact ⟨h.gr.trans g, Nat.lt_of_lt_of_le h.sz g.sz, (g.cell _ _ (by omega)).trans h.rm, fun j hj => (g.cell _ _ (by omega)).trans (h.seen j hj),
    fun j => (g.frozen _ _ (by omega)).trans (h.free j), fun j hj => let ⟨v, hv⟩ := h.res j hj; ⟨v, (g.cell _ _ (by omega)).trans hv⟩, fun j => (g.frozen _ _ (by omega)).trans (h.rfree j)⟩

/-- One more of a slot. -/
theorem BI.step {w : World} {B : Nat} {room : Int} {c c' : Int → Int} {wr : World} (h : BI w B room c wr) (hB : w.heap.size ≤ B) (s : Nat) (hs : s < 32) (n : Int) (hn : n = c' s)
    (ho : ∀ j : Nat, j < 32 → j ≠ s → c' j = c j) : BI w B room c' (wr.setCell ⟨B + 1 + 1, s, none⟩ (.int .i64 n)) := by
  subst hn
  have hz := h.sz
  refine ⟨h.gr.setCell (by show w.heap.size ≤ B + 1 + 1; omega) _, by simpa using hz, ?_, fun j hj => ?_, fun j => ?_, fun j hj => ?_, fun j => ?_⟩
  · rw [World.cell?_setCell_other _ _ _ _ (by simp)]; exact h.rm
  · by_cases hjs : j = s
    · subst hjs
      exact World.cell?_setCell_same' _ _ _ (by rw [h.seen j hj]; rfl)
    · rw [World.cell?_setCell_other _ _ _ _ (fun e => by have := congrArg Addr.off e; dsimp only at this; omega), ho j hj hjs]; exact h.seen j hj
  · rw [World.frozen?_setCell]; exact h.free j
  · obtain ⟨v, hv⟩ := h.res j hj
    exact ⟨v, by rw [World.cell?_setCell_other _ _ _ _ (by simp)]; exact hv⟩
  · rw [World.frozen?_setCell]; exact h.rfree j

theorem zerosN (n : Nat) (w : World) (t : TypeId) (B j : Nat) (hB : B = w.heap.size) (hj : j < n) : (w.alloc (.cells (List.replicate n (Value.int .i64 0)).toArray t)).cell? ⟨B, j, none⟩ = some (.int .i64 0) := by
  subst hB
  simp [go_sem, hj]

/-- Beside it the best so far, in the block Bb. -/
structure BJ (w : World) (B : Nat) (room : Int) (c : Int → Int) (Bb : Nat) (x : Sd) (wr : World) : Prop where
  bi : BI w B room c wr
  lo : B + 1 + 1 < Bb
  hi : Bb < wr.heap.size
  c0 : wr.cell? ⟨Bb, 0, none⟩ = some (.int .i64 x.1)
  c1 : wr.cell? ⟨Bb, 1, none⟩ = some (.int .i64 x.2.1)
  c2 : wr.cell? ⟨Bb, 2, none⟩ = some (.int .i64 x.2.2)
  fr : ∀ j, wr.frozen? ⟨Bb, j, none⟩ = false

theorem BJ.grow {w : World} {B : Nat} {room : Int} {c : Int → Int} {Bb : Nat} {x : Sd} {wr w1 : World} (h : BJ w B room c Bb x wr) (g : Gr wr w1) : BJ w B room c Bb x w1 := by
  have hz := h.hi
  exact ⟨h.bi.grow g, h.lo, Nat.lt_of_lt_of_le h.hi g.sz, (g.cell _ _ hz).trans h.c0, (g.cell _ _ hz).trans h.c1, (g.cell _ _ hz).trans h.c2, fun j => (g.frozen _ _ hz).trans (h.fr j)⟩

/-- A store into a block of the call's own beyond the first three. -/
theorem BI.setOther {w : World} {B : Nat} {room : Int} {c : Int → Int} {wr : World} (h : BI w B room c wr) (hB : w.heap.size ≤ B) {a : Addr} (ha : B + 1 + 1 < a.block) (v : Value) : BI w B room c (wr.setCell a v) := by
  have hz := h.sz
  refine ⟨h.gr.setCell (by omega) _, by simpa using hz, ?_, fun j hj => ?_, fun j => ?_, fun j hj => ?_, fun j => ?_⟩
  · rw [World.cell?_setCell_other _ _ _ _ (fun e => by have := congrArg Addr.block e; dsimp only at this; omega)]; exact h.rm
  · rw [World.cell?_setCell_other _ _ _ _ (fun e => by have := congrArg Addr.block e; dsimp only at this; omega)]; exact h.seen j hj
  · rw [World.frozen?_setCell]; exact h.free j
  · obtain ⟨v', hv⟩ := h.res j hj
    exact ⟨v', by rw [World.cell?_setCell_other _ _ _ _ (fun e => by have := congrArg Addr.block e; dsimp only at this; omega)]; exact hv⟩
  · rw [World.frozen?_setCell]; exact h.rfree j

theorem BJ.set {w : World} {B : Nat} {room : Int} {c : Int → Int} {Bb : Nat} {x y : Sd} {wr : World} (h : BJ w B room c Bb x wr) (hB : w.heap.size ≤ B) :
    BJ w B room c Bb y (((wr.setCell ⟨Bb, 0, none⟩ (.int .i64 y.1)).setCell ⟨Bb, 1, none⟩ (.int .i64 y.2.1)).setCell ⟨Bb, 2, none⟩ (.int .i64 y.2.2)) := by
  have hl := h.lo
  have hz := h.hi
  refine ⟨((h.bi.setOther hB (by simpa using hl) _).setOther hB (by simpa using hl) _).setOther hB (by simpa using hl) _, h.lo, by simpa using hz, ?_, ?_, ?_, fun j => ?_⟩
  · rw [World.cell?_setCell_other _ _ _ _ (by simp), World.cell?_setCell_other _ _ _ _ (by simp)]
    exact World.cell?_setCell_same' _ _ _ (by rw [h.c0]; rfl)
  · rw [World.cell?_setCell_other _ _ _ _ (by simp)]
    exact World.cell?_setCell_same' _ _ _ (by rw [World.cell?_setCell_other _ _ _ _ (by simp), h.c1]; rfl)
  · exact World.cell?_setCell_same' _ _ _ (by rw [World.cell?_setCell_other _ _ _ _ (by simp), World.cell?_setCell_other _ _ _ _ (by simp), h.c2]; rfl)
  · rw [World.frozen?_setCell, World.frozen?_setCell, World.frozen?_setCell]; exact h.fr j

/-- The result of Best, as a tuple. -/
def bestV (x : Sd) (is : Bool) (e : Int) : Value := .tuple #[.agg #[.int .i64 x.1, .int .i64 x.2.1, .int .i64 x.2.2], .bool is, .int .i64 e]
def zSd : Sd := (0, 0, 0)
def bestR (policy room : Int) (l : List Sd) (n : Nat) : Value :=
  if (∀ i, i < n → chkS room (l[i]?.getD (0, 0, 0)) = true) then (if twB l n = true then bestV zSd false 6 else if n = 0 then bestV zSd false 0 else bestV (bestK (polS policy room) l (n - 1)) true 0) else bestV zSd false 2
def BestPost (policy room : Int) (l : List Sd) (n : Nat) (w : World) (e : Ending) (w' : World) : Prop := e = .returned (bestR policy room l n) ∧ Gr w w'
theorem best_bad {policy room : Int} {l : List Sd} {n : Nat} (h : ¬ ∀ i, i < n → chkS room (l[i]?.getD (0, 0, 0)) = true) : bestR policy room l n = bestV zSd false 2 := if_neg h
theorem best_twice {policy room : Int} {l : List Sd} {n : Nat} (h : ∀ i, i < n → chkS room (l[i]?.getD (0, 0, 0)) = true) (h2 : twB l n = true) : bestR policy room l n = bestV zSd false 6 := by
  unfold bestR; rw [if_pos h, if_pos h2]
theorem best_none {policy room : Int} {l : List Sd} : bestR policy room l 0 = bestV zSd false 0 := by
  unfold bestR; rw [if_pos (by omega), if_neg (by simp [twB]), if_pos rfl]
theorem best_some {policy room : Int} {l : List Sd} {n : Nat} (h : ∀ i, i < n → chkS room (l[i]?.getD (0, 0, 0)) = true) (h2 : twB l n = false) (h3 : n ≠ 0) : bestR policy room l n = bestV (bestK (polS policy room) l (n - 1)) true 0 := by
  unfold bestR; rw [if_pos h, if_neg (by simp [h2]), if_neg h3]

theorem taken (l : List Sd) (k : Nat) (h : k < l.length) (S : Nat) (s2 s3 : Int) (e : ((S : Int), s2, s3) = l[k]?.getD (0, 0, 0)) (j : Int) :
    cntL (l.take (k + 1)) j = cntL (l.take k) j + if (S : Int) = j then 1 else 0 := by
  rw [take_snoc' l k h, cntL_snoc, ← e]

set_option maxRecDepth 40000 in
set_option maxHeartbeats 2000000 in
theorem Best_1 (room : Int) (hr : inB room 1 8192 = true) (b off n cap : Nat) (l : List Sd) (hl : l.length = n) (hn : n ≤ 1000000) (hnc : n ≤ cap) (hcap : cap ≤ maxLen) (w : World) (hs : SidesAt w b off l) (hb : b < w.heap.size) :
    Calls Tryz.prog 29 #[.int .i64 1, .slice (some ⟨b, off, none⟩) n cap, .int .i64 room] w (BestPost 1 room l n w) := by
  unfold maxLen at hcap
  have k1 := eqF1
  have k2 := eqF2
  have k3 := eqF3
  have HL := Lib.hid hl
  have HS := Lib.hid hs
  clear hl hs
  go_enter Tryz.func29, Tryz.ntmps29
  go_wp2_with (first
    | (go_at_call 52; refine (by_any _ _ _).mono ?_; rintro e w1 ⟨rfl, rfl⟩; simp only [byF, if_true])
    | (go_at_call 53; refine (in_int _ _ _ _).mono ?_; rintro e w1 ⟨rfl, rfl⟩))
  go_loopw [11, 30] (fun tw i wr => ∃ k : Nat, k ≤ n ∧ i = .int .i64 k ∧ tw = .bool (twB l k) ∧ BI w w.heap.size room (cntL (l.take k)) wr ∧ Hid (∀ i, i < k → chkS room (l[i]?.getD (0, 0, 0)) = true)) (fun _ i _ => n - (intOf i).toNat)
  case atStart =>
    refine ⟨0, by omega, rfl, rfl, ?_, Lib.hid (by omega)⟩
    refine ⟨by (repeat (first | (with_reducible exact Gr.refl _) | assumption | (with_reducible apply Gr.from_drew) | (with_reducible apply Gr.alloc) | (with_reducible apply Gr.drew) | (with_reducible refine Gr.trans ?_ (by assumption)) | (with_reducible refine Gr.setCell ?_ (by omega) _))), by simp, by simp [go_sem], fun j hj => ?_, fun j => by simp [go_sem], fun j hj => ?_, fun j => by simp [go_sem]⟩
    · have : cntL (l.take 0) j = 0 := by simp [cntL]
      rw [this]
      exact zerosN 32 ((w.alloc (.cells #[.int .i64 0, .int .i64 0, .int .i64 0] 44)).alloc (.cells #[.int .i64 room] 3)) _ _ j (by simp) hj
    · match j, hj with
      | 0, _ => exact ⟨.int .i64 0, by simp [go_sem]⟩
      | 1, _ => exact ⟨.int .i64 0, by simp [go_sem]⟩
      | 2, _ => exact ⟨.int .i64 0, by simp [go_sem]⟩
  case round =>
    obtain ⟨k, hk, rfl, rfl, hBI, hC⟩ := hrel
    by_cases hlt : k < n
    · obtain ⟨s, hsd⟩ : ∃ s, s = l[k]?.getD (0, 0, 0) := ⟨_, rfl⟩
      obtain ⟨s1, s2, s3⟩ := s
      have hx := HS.out k (by rw [HL.out]; exact hlt)
      rw [← hsd] at hx
      obtain ⟨x1, x2, x3⟩ := hx
      have y1 := (hBI.gr.cell _ (off + k * 3) hb).trans x1
      have y2 := (hBI.gr.cell _ (off + k * 3 + 1) hb).trans x2
      have y3 := (hBI.gr.cell _ (off + k * 3 + 2) hb).trans x3
      simp only at y1 y2 y3
      have HSD := Lib.hid hsd
      have HB := Lib.hid hBI
      have bz := hBI.sz
      clear x1 x2 x3 hsd hBI
      go_wp2_with fail
      refine (Check_any _ _ _ _ _).mono ?_
      rintro e w1 ⟨rfl, hg⟩
      have hg' := (Gr.alloc (Gr.refl wr) _).trans hg
      have HBI := Lib.hid (HB.out.grow hg')
      have z1 := (hg.cell wr.heap.size 0 (by simp)).trans (show _ = some (Value.int .i64 s1) by simp [go_sem])
      cases hck : chkB s1 s2 s3 room with
      | false =>
        have e0 := errOf_false hck
        have ⟨r0, hr0⟩ := HBI.out.res 0 (by decide)
        have ⟨r1, hr1⟩ := HBI.out.res 1 (by decide)
        have ⟨r2, hr2⟩ := HBI.out.res 2 (by decide)
        have rf := HBI.out.rfree
        have hno : ¬ ∀ i, i < n → chkS room (l[i]?.getD (0, 0, 0)) = true := fun h => by
          have := h k hlt
          rw [← HSD.out] at this
          simp [chkS, hck] at this
        have HNO := Lib.hid hno
        clear hno
        go_wp2
        refine bodyPost_ret (v := bestV zSd false 2) ?_ rfl ⟨?_, ?_⟩
        · simp [results, Tryz.results29, go_sem, hr0, hr1, hr2, bestV, zSd]
        · rw [best_bad HNO.out]
        · exact ((HBI.out.gr.setCell (by simp) _).setCell (by simp) _).setCell (by simp) _
      | true =>
        have e0 := errOf_true hck
        obtain ⟨_, _, p3, p4, _, _, _, _⟩ := chk_bd hck
        obtain ⟨S, rfl⟩ := Int.eq_ofNat_of_zero_le p3
        have hseen := HBI.out.seen S (by omega)
        have hfree := HBI.out.free S
        have hcb := cntL_bd (l.take k) S
        have hlen : ((l.take k).length : Int) ≤ k := by have := List.length_take_le k l; omega
        have HT := Lib.hid (taken l k (by rw [HL.out]; exact hlt) S s2 s3 HSD.out)
        have htw : twB l (k + 1) = (twB l k || decide (1 < cntL (l.take k) S + 1)) := by
          show (twB l k || decide (1 < cntL (l.take (k + 1)) (l[k]?.getD (0, 0, 0)).1)) = _
          rw [← HSD.out, HT.out, if_pos rfl]
        have HTW := Lib.hid htw
        have HCK : Hid (∀ i, i < k + 1 → chkS room (l[i]?.getD (0, 0, 0)) = true) := fun i hi => by
          by_cases hik : i = k
          · subst hik; rw [← HSD.out]; exact hck
          · exact hC.out i (by omega)
        have HBS := Lib.hid (HBI.out.step (c' := cntL (l.take (k + 1))) (Nat.le_refl _) S (by omega) (cntL (l.take k) S + 1) (by rw [HT.out, if_pos rfl]) (fun j _ hjs => by rw [HT.out, if_neg (by omega)]; omega))
        clear htw
        go_wp2
        all_goals
          go_roundw
          case rel => exact ⟨k + 1, by omega, by go_num, by rw [HTW.out]; simp_all, HBS.out, HCK⟩
          case measure => simp [intOf]; omega
    · obtain rfl : k = n := by omega
      have HB := Lib.hid hBI
      have ⟨r0, hr0⟩ := hBI.res 0 (by decide)
      have ⟨r1, hr1⟩ := hBI.res 1 (by decide)
      have ⟨r2, hr2⟩ := hBI.res 2 (by decide)
      have rf := hBI.rfree
      have hz := hBI.sz
      clear hBI
      cases htw : twB l k with
      | true =>
        have HTW := Lib.hid htw
        go_wp2
        refine bodyPost_ret (v := bestV zSd false 6) ?_ rfl ⟨?_, ?_⟩
        · simp [results, Tryz.results29, go_sem, hr0, hr1, hr2, bestV, zSd]
        · rw [best_twice hC.out HTW.out]
        · exact ((HB.out.gr.setCell (by simp) _).setCell (by simp) _).setCell (by simp) _
      | false =>
        have HTW := Lib.hid htw
        by_cases hk0 : k = 0
        · subst hk0
          go_wp2
          refine bodyPost_ret (v := bestV zSd false 0) ?_ rfl ⟨?_, ?_⟩
          · simp [results, Tryz.results29, go_sem, hr0, hr1, hr2, bestV, zSd]
          · rw [best_none]
          · exact ((HB.out.gr.setCell (by simp) _).setCell (by simp) _).setCell (by simp) _
        · obtain ⟨t, htd⟩ : ∃ t, t = l[0]?.getD (0, 0, 0) := ⟨_, rfl⟩
          obtain ⟨t1, t2, t3⟩ := t
          have hx := HS.out 0 (by rw [HL.out]; omega)
          rw [← htd] at hx
          obtain ⟨x1, x2, x3⟩ := hx
          have y1 := (HB.out.gr.cell _ (off + 0 * 3) hb).trans x1
          have y2 := (HB.out.gr.cell _ (off + 0 * 3 + 1) hb).trans x2
          have y3 := (HB.out.gr.cell _ (off + 0 * 3 + 2) hb).trans x3
          simp only [Nat.zero_mul, Nat.add_zero] at y1 y2 y3
          have HTD := Lib.hid htd
          clear x1 x2 x3 htd
          have hk1 : 1 ≤ k := by omega
          by_cases hcap1 : cap = 1
          · obtain rfl : k = 1 := by omega
            subst hcap1
            go_wp2
            go_loopw [66] (fun i w2 => i = .int .i64 0 ∧ BJ w w.heap.size room (cntL (l.take 1)) wr.heap.size (t1, t2, t3) w2) (fun _ _ => 0)
            case atStart => exact ⟨rfl, HB.out.grow (by (repeat (first | (with_reducible exact Gr.refl _) | assumption | (with_reducible apply Gr.from_drew) | (with_reducible apply Gr.alloc) | (with_reducible apply Gr.drew) | (with_reducible refine Gr.trans ?_ (by assumption)) | (with_reducible refine Gr.setCell ?_ (by omega) _)))), hz, by simp, by simp [go_sem], by simp [go_sem], by simp [go_sem], fun j => by simp [go_sem]⟩
            case round =>
              obtain ⟨rfl, hBJ⟩ := hrel
              have HJ := Lib.hid hBJ
              have ⟨r0, hr0⟩ := hBJ.bi.res 0 (by decide)
              have ⟨r1, hr1⟩ := hBJ.bi.res 1 (by decide)
              have ⟨r2, hr2⟩ := hBJ.bi.res 2 (by decide)
              have rf := hBJ.bi.rfree
              have d0 := hBJ.c0
              have d1 := hBJ.c1
              have d2 := hBJ.c2
              simp only at d0 d1 d2
              clear hBJ
              go_wp2
              refine bodyPost_ret (v := bestV (t1, t2, t3) true 0) ?_ rfl ⟨?_, ?_⟩
              · simp [results, Tryz.results29, go_sem, hr0, hr1, hr2, bestV]
              · rw [best_some hC.out HTW.out (by decide)]
                show _ = Ending.returned (bestV (l[0]?.getD (0, 0, 0)) true 0)
                rw [← HTD.out]
              · exact ((HJ.out.bi.gr.setCell (by simp) _).setCell (by simp) _).setCell (by simp) _
          · have hkb : ((k : Int) == 0) = false := by simpa using hk0
            go_wp2
            go_loopw [66] (fun i w2 => ∃ j : Nat, j + 1 ≤ k ∧ i = .int .i64 j ∧ BJ w w.heap.size room (cntL (l.take k)) wr.heap.size (bestK (polS 1 room) l j) w2) (fun i _ => k - (intOf i).toNat)
            case atStart => exact ⟨0, by omega, rfl, HB.out.grow (by (repeat (first | (with_reducible exact Gr.refl _) | assumption | (with_reducible apply Gr.from_drew) | (with_reducible apply Gr.alloc) | (with_reducible apply Gr.drew) | (with_reducible refine Gr.trans ?_ (by assumption)) | (with_reducible refine Gr.setCell ?_ (by omega) _)))), hz, by simp, by simp [go_sem, bestK, ← HTD.out], by simp [go_sem, bestK, ← HTD.out], by simp [go_sem, bestK, ← HTD.out], fun j => by simp [go_sem]⟩
            case round =>
              obtain ⟨j, hj, rfl, hBJ⟩ := hrel
              obtain ⟨q, hq⟩ : ∃ q, q = bestK (polS 1 room) l j := ⟨_, rfl⟩
              obtain ⟨q1, q2, q3⟩ := q
              rw [← hq] at hBJ
              have HQ := Lib.hid hq
              have HJ := Lib.hid hBJ
              have jz := hBJ.hi
              have jl := hBJ.lo
              have d0 := hBJ.c0
              have d1 := hBJ.c1
              have d2 := hBJ.c2
              simp only at d0 d1 d2
              clear hBJ hq y1 y2 y3
              by_cases hlt2 : j + 1 < k
              · obtain ⟨s, hsd⟩ : ∃ s, s = l[j + 1]?.getD (0, 0, 0) := ⟨_, rfl⟩
                obtain ⟨s1, s2, s3⟩ := s
                have hx := HS.out (j + 1) (by rw [HL.out]; exact hlt2)
                rw [← hsd, show off + (j + 1) * 3 = off + 3 + j * 3 by omega] at hx
                obtain ⟨x1, x2, x3⟩ := hx
                have y1 := (HJ.out.bi.gr.cell _ (off + 3 + j * 3) hb).trans x1
                have y2 := (HJ.out.bi.gr.cell _ (off + 3 + j * 3 + 1) hb).trans x2
                have y3 := (HJ.out.bi.gr.cell _ (off + 3 + j * 3 + 2) hb).trans x3
                simp only at y1 y2 y3
                have HSD := Lib.hid hsd
                clear x1 x2 x3 hsd
                have hlt3 : (j : Int) < k - 1 := by omega
                have hrm1 := ((Gr.alloc (Gr.refl wr) (.cells #[.int .i64 s1, .int .i64 s2, .int .i64 s3] 44)).cell _ 0 (show w.heap.size + 1 < wr.heap.size by omega)).trans HJ.out.bi.rm
                have HSTEP : Hid (bestK (polS 1 room) l (j + 1) = if greedy s1 s2 q1 q2 < 0 then (s1, s2, s3) else (q1, q2, q3)) := by
                  apply Lib.hid
                  simp only [bestK, ← HSD.out, ← HQ.out]
                  rfl
                go_wp2_with fail
                (go_at_call 87; refine (Greedy_any _ _ _ _ _ _ _).mono ?_; rintro e w2 ⟨rfl, hg2⟩)
                have hg3 := (Gr.alloc (Gr.refl wr) _).trans hg2
                have z1 := (hg2.cell wr.heap.size 0 (by simp)).trans (show _ = some (Value.int .i64 s1) by simp [go_sem])
                have z2 := (hg2.cell wr.heap.size 1 (by simp)).trans (show _ = some (Value.int .i64 s2) by simp [go_sem])
                have z3 := (hg2.cell wr.heap.size 2 (by simp)).trans (show _ = some (Value.int .i64 s3) by simp [go_sem])
                have HJ2 := Lib.hid (HJ.out.grow hg3)
                have e0 := HJ2.out.c0
                have e1 := HJ2.out.c1
                have e2 := HJ2.out.c2
                have ef := HJ2.out.fr
                simp only at e0 e1 e2
                clear hg2 hg3 hrm1 d0 d1 d2 y1 y2 y3
                by_cases hneg : greedy s1 s2 q1 q2 < 0
                · have HBK : Hid (bestK (polS 1 room) l (j + 1) = (s1, s2, s3)) := Lib.hid (by rw [HSTEP.out, if_pos hneg])
                  go_wp2
                  go_roundw
                  case rel => exact ⟨j + 1, by omega, by go_num, by rw [HBK.out]; exact HJ2.out.set (Nat.le_refl _)⟩
                  case measure => simp [intOf]; omega
                · have HBK : Hid (bestK (polS 1 room) l (j + 1) = (q1, q2, q3)) := Lib.hid (by rw [HSTEP.out, if_neg hneg])
                  go_wp2
                  go_roundw
                  case rel => exact ⟨j + 1, by omega, by go_num, by rw [HBK.out]; exact HJ2.out⟩
                  case measure => simp [intOf]; omega
              · have hjk : (j : Int) = k - 1 := by omega
                have HJK := Lib.hid (show k - 1 = j by omega)
                have ⟨r0, hr0⟩ := HJ.out.bi.res 0 (by decide)
                have ⟨r1, hr1⟩ := HJ.out.bi.res 1 (by decide)
                have ⟨r2, hr2⟩ := HJ.out.bi.res 2 (by decide)
                have rf := HJ.out.bi.rfree
                go_wp2
                refine bodyPost_ret (v := bestV (q1, q2, q3) true 0) ?_ rfl ⟨?_, ?_⟩
                · simp [results, Tryz.results29, go_sem, hr0, hr1, hr2, bestV]
                · rw [best_some hC.out HTW.out hk0, HJK.out, ← HQ.out]
                · exact ((HJ.out.bi.gr.setCell (by simp) _).setCell (by simp) _).setCell (by simp) _
set_option maxRecDepth 40000 in
set_option maxHeartbeats 2000000 in
theorem Best_2 (room : Int) (hr : inB room 1 8192 = true) (b off n cap : Nat) (l : List Sd) (hl : l.length = n) (hn : n ≤ 1000000) (hnc : n ≤ cap) (hcap : cap ≤ maxLen) (w : World) (hs : SidesAt w b off l) (hb : b < w.heap.size) :
    Calls Tryz.prog 29 #[.int .i64 2, .slice (some ⟨b, off, none⟩) n cap, .int .i64 room] w (BestPost 2 room l n w) := by
  unfold maxLen at hcap
  have k1 := eqF1
  have k2 := eqF2
  have k3 := eqF3
  have HL := Lib.hid hl
  have HS := Lib.hid hs
  clear hl hs
  go_enter Tryz.func29, Tryz.ntmps29
  go_wp2_with (first
    | (go_at_call 52; refine (by_any _ _ _).mono ?_; rintro e w1 ⟨rfl, rfl⟩; simp only [byF, if_true, if_neg (show ¬ (2 : Int) = 1 by decide)])
    | (go_at_call 53; refine (in_int _ _ _ _).mono ?_; rintro e w1 ⟨rfl, rfl⟩))
  go_loopw [11, 30] (fun tw i wr => ∃ k : Nat, k ≤ n ∧ i = .int .i64 k ∧ tw = .bool (twB l k) ∧ BI w w.heap.size room (cntL (l.take k)) wr ∧ Hid (∀ i, i < k → chkS room (l[i]?.getD (0, 0, 0)) = true)) (fun _ i _ => n - (intOf i).toNat)
  case atStart =>
    refine ⟨0, by omega, rfl, rfl, ?_, Lib.hid (by omega)⟩
    refine ⟨by (repeat (first | (with_reducible exact Gr.refl _) | assumption | (with_reducible apply Gr.from_drew) | (with_reducible apply Gr.alloc) | (with_reducible apply Gr.drew) | (with_reducible refine Gr.trans ?_ (by assumption)) | (with_reducible refine Gr.setCell ?_ (by omega) _))), by simp, by simp [go_sem], fun j hj => ?_, fun j => by simp [go_sem], fun j hj => ?_, fun j => by simp [go_sem]⟩
    · have : cntL (l.take 0) j = 0 := by simp [cntL]
      rw [this]
      exact zerosN 32 ((w.alloc (.cells #[.int .i64 0, .int .i64 0, .int .i64 0] 44)).alloc (.cells #[.int .i64 room] 3)) _ _ j (by simp) hj
    · match j, hj with
      | 0, _ => exact ⟨.int .i64 0, by simp [go_sem]⟩
      | 1, _ => exact ⟨.int .i64 0, by simp [go_sem]⟩
      | 2, _ => exact ⟨.int .i64 0, by simp [go_sem]⟩
  case round =>
    obtain ⟨k, hk, rfl, rfl, hBI, hC⟩ := hrel
    by_cases hlt : k < n
    · obtain ⟨s, hsd⟩ : ∃ s, s = l[k]?.getD (0, 0, 0) := ⟨_, rfl⟩
      obtain ⟨s1, s2, s3⟩ := s
      have hx := HS.out k (by rw [HL.out]; exact hlt)
      rw [← hsd] at hx
      obtain ⟨x1, x2, x3⟩ := hx
      have y1 := (hBI.gr.cell _ (off + k * 3) hb).trans x1
      have y2 := (hBI.gr.cell _ (off + k * 3 + 1) hb).trans x2
      have y3 := (hBI.gr.cell _ (off + k * 3 + 2) hb).trans x3
      simp only at y1 y2 y3
      have HSD := Lib.hid hsd
      have HB := Lib.hid hBI
      have bz := hBI.sz
      clear x1 x2 x3 hsd hBI
      go_wp2_with fail
      refine (Check_any _ _ _ _ _).mono ?_
      rintro e w1 ⟨rfl, hg⟩
      have hg' := (Gr.alloc (Gr.refl wr) _).trans hg
      have HBI := Lib.hid (HB.out.grow hg')
      have z1 := (hg.cell wr.heap.size 0 (by simp)).trans (show _ = some (Value.int .i64 s1) by simp [go_sem])
      cases hck : chkB s1 s2 s3 room with
      | false =>
        have e0 := errOf_false hck
        have ⟨r0, hr0⟩ := HBI.out.res 0 (by decide)
        have ⟨r1, hr1⟩ := HBI.out.res 1 (by decide)
        have ⟨r2, hr2⟩ := HBI.out.res 2 (by decide)
        have rf := HBI.out.rfree
        have hno : ¬ ∀ i, i < n → chkS room (l[i]?.getD (0, 0, 0)) = true := fun h => by
          have := h k hlt
          rw [← HSD.out] at this
          simp [chkS, hck] at this
        have HNO := Lib.hid hno
        clear hno
        go_wp2
        refine bodyPost_ret (v := bestV zSd false 2) ?_ rfl ⟨?_, ?_⟩
        · simp [results, Tryz.results29, go_sem, hr0, hr1, hr2, bestV, zSd]
        · rw [best_bad HNO.out]
        · exact ((HBI.out.gr.setCell (by simp) _).setCell (by simp) _).setCell (by simp) _
      | true =>
        have e0 := errOf_true hck
        obtain ⟨_, _, p3, p4, _, _, _, _⟩ := chk_bd hck
        obtain ⟨S, rfl⟩ := Int.eq_ofNat_of_zero_le p3
        have hseen := HBI.out.seen S (by omega)
        have hfree := HBI.out.free S
        have hcb := cntL_bd (l.take k) S
        have hlen : ((l.take k).length : Int) ≤ k := by have := List.length_take_le k l; omega
        have HT := Lib.hid (taken l k (by rw [HL.out]; exact hlt) S s2 s3 HSD.out)
        have htw : twB l (k + 1) = (twB l k || decide (1 < cntL (l.take k) S + 1)) := by
          show (twB l k || decide (1 < cntL (l.take (k + 1)) (l[k]?.getD (0, 0, 0)).1)) = _
          rw [← HSD.out, HT.out, if_pos rfl]
        have HTW := Lib.hid htw
        have HCK : Hid (∀ i, i < k + 1 → chkS room (l[i]?.getD (0, 0, 0)) = true) := fun i hi => by
          by_cases hik : i = k
          · subst hik; rw [← HSD.out]; exact hck
          · exact hC.out i (by omega)
        have HBS := Lib.hid (HBI.out.step (c' := cntL (l.take (k + 1))) (Nat.le_refl _) S (by omega) (cntL (l.take k) S + 1) (by rw [HT.out, if_pos rfl]) (fun j _ hjs => by rw [HT.out, if_neg (by omega)]; omega))
        clear htw
        go_wp2
        all_goals
          go_roundw
          case rel => exact ⟨k + 1, by omega, by go_num, by rw [HTW.out]; simp_all, HBS.out, HCK⟩
          case measure => simp [intOf]; omega
    · obtain rfl : k = n := by omega
      have HB := Lib.hid hBI
      have ⟨r0, hr0⟩ := hBI.res 0 (by decide)
      have ⟨r1, hr1⟩ := hBI.res 1 (by decide)
      have ⟨r2, hr2⟩ := hBI.res 2 (by decide)
      have rf := hBI.rfree
      have hz := hBI.sz
      clear hBI
      cases htw : twB l k with
      | true =>
        have HTW := Lib.hid htw
        go_wp2
        refine bodyPost_ret (v := bestV zSd false 6) ?_ rfl ⟨?_, ?_⟩
        · simp [results, Tryz.results29, go_sem, hr0, hr1, hr2, bestV, zSd]
        · rw [best_twice hC.out HTW.out]
        · exact ((HB.out.gr.setCell (by simp) _).setCell (by simp) _).setCell (by simp) _
      | false =>
        have HTW := Lib.hid htw
        by_cases hk0 : k = 0
        · subst hk0
          go_wp2
          refine bodyPost_ret (v := bestV zSd false 0) ?_ rfl ⟨?_, ?_⟩
          · simp [results, Tryz.results29, go_sem, hr0, hr1, hr2, bestV, zSd]
          · rw [best_none]
          · exact ((HB.out.gr.setCell (by simp) _).setCell (by simp) _).setCell (by simp) _
        · obtain ⟨t, htd⟩ : ∃ t, t = l[0]?.getD (0, 0, 0) := ⟨_, rfl⟩
          obtain ⟨t1, t2, t3⟩ := t
          have hx := HS.out 0 (by rw [HL.out]; omega)
          rw [← htd] at hx
          obtain ⟨x1, x2, x3⟩ := hx
          have y1 := (HB.out.gr.cell _ (off + 0 * 3) hb).trans x1
          have y2 := (HB.out.gr.cell _ (off + 0 * 3 + 1) hb).trans x2
          have y3 := (HB.out.gr.cell _ (off + 0 * 3 + 2) hb).trans x3
          simp only [Nat.zero_mul, Nat.add_zero] at y1 y2 y3
          have HTD := Lib.hid htd
          clear x1 x2 x3 htd
          have hk1 : 1 ≤ k := by omega
          by_cases hcap1 : cap = 1
          · obtain rfl : k = 1 := by omega
            subst hcap1
            go_wp2
            go_loopw [66] (fun i w2 => i = .int .i64 0 ∧ BJ w w.heap.size room (cntL (l.take 1)) wr.heap.size (t1, t2, t3) w2) (fun _ _ => 0)
            case atStart => exact ⟨rfl, HB.out.grow (by (repeat (first | (with_reducible exact Gr.refl _) | assumption | (with_reducible apply Gr.from_drew) | (with_reducible apply Gr.alloc) | (with_reducible apply Gr.drew) | (with_reducible refine Gr.trans ?_ (by assumption)) | (with_reducible refine Gr.setCell ?_ (by omega) _)))), hz, by simp, by simp [go_sem], by simp [go_sem], by simp [go_sem], fun j => by simp [go_sem]⟩
            case round =>
              obtain ⟨rfl, hBJ⟩ := hrel
              have HJ := Lib.hid hBJ
              have ⟨r0, hr0⟩ := hBJ.bi.res 0 (by decide)
              have ⟨r1, hr1⟩ := hBJ.bi.res 1 (by decide)
              have ⟨r2, hr2⟩ := hBJ.bi.res 2 (by decide)
              have rf := hBJ.bi.rfree
              have d0 := hBJ.c0
              have d1 := hBJ.c1
              have d2 := hBJ.c2
              simp only at d0 d1 d2
              clear hBJ
              go_wp2
              refine bodyPost_ret (v := bestV (t1, t2, t3) true 0) ?_ rfl ⟨?_, ?_⟩
              · simp [results, Tryz.results29, go_sem, hr0, hr1, hr2, bestV]
              · rw [best_some hC.out HTW.out (by decide)]
                show _ = Ending.returned (bestV (l[0]?.getD (0, 0, 0)) true 0)
                rw [← HTD.out]
              · exact ((HJ.out.bi.gr.setCell (by simp) _).setCell (by simp) _).setCell (by simp) _
          · have hkb : ((k : Int) == 0) = false := by simpa using hk0
            go_wp2
            go_loopw [66] (fun i w2 => ∃ j : Nat, j + 1 ≤ k ∧ i = .int .i64 j ∧ BJ w w.heap.size room (cntL (l.take k)) wr.heap.size (bestK (polS 2 room) l j) w2) (fun i _ => k - (intOf i).toNat)
            case atStart => exact ⟨0, by omega, rfl, HB.out.grow (by (repeat (first | (with_reducible exact Gr.refl _) | assumption | (with_reducible apply Gr.from_drew) | (with_reducible apply Gr.alloc) | (with_reducible apply Gr.drew) | (with_reducible refine Gr.trans ?_ (by assumption)) | (with_reducible refine Gr.setCell ?_ (by omega) _)))), hz, by simp, by simp [go_sem, bestK, ← HTD.out], by simp [go_sem, bestK, ← HTD.out], by simp [go_sem, bestK, ← HTD.out], fun j => by simp [go_sem]⟩
            case round =>
              obtain ⟨j, hj, rfl, hBJ⟩ := hrel
              obtain ⟨q, hq⟩ : ∃ q, q = bestK (polS 2 room) l j := ⟨_, rfl⟩
              obtain ⟨q1, q2, q3⟩ := q
              rw [← hq] at hBJ
              have HQ := Lib.hid hq
              have HJ := Lib.hid hBJ
              have jz := hBJ.hi
              have jl := hBJ.lo
              have d0 := hBJ.c0
              have d1 := hBJ.c1
              have d2 := hBJ.c2
              simp only at d0 d1 d2
              clear hBJ hq y1 y2 y3
              by_cases hlt2 : j + 1 < k
              · obtain ⟨s, hsd⟩ : ∃ s, s = l[j + 1]?.getD (0, 0, 0) := ⟨_, rfl⟩
                obtain ⟨s1, s2, s3⟩ := s
                have hx := HS.out (j + 1) (by rw [HL.out]; exact hlt2)
                rw [← hsd, show off + (j + 1) * 3 = off + 3 + j * 3 by omega] at hx
                obtain ⟨x1, x2, x3⟩ := hx
                have y1 := (HJ.out.bi.gr.cell _ (off + 3 + j * 3) hb).trans x1
                have y2 := (HJ.out.bi.gr.cell _ (off + 3 + j * 3 + 1) hb).trans x2
                have y3 := (HJ.out.bi.gr.cell _ (off + 3 + j * 3 + 2) hb).trans x3
                simp only at y1 y2 y3
                have HSD := Lib.hid hsd
                clear x1 x2 x3 hsd
                have hlt3 : (j : Int) < k - 1 := by omega
                have hrm1 := ((Gr.alloc (Gr.refl wr) (.cells #[.int .i64 s1, .int .i64 s2, .int .i64 s3] 44)).cell _ 0 (show w.heap.size + 1 < wr.heap.size by omega)).trans HJ.out.bi.rm
                have HSTEP : Hid (bestK (polS 2 room) l (j + 1) = if benefit s1 s2 s3 q1 q2 q3 room < 0 then (s1, s2, s3) else (q1, q2, q3)) := by
                  apply Lib.hid
                  simp only [bestK, ← HSD.out, ← HQ.out]
                  rfl
                go_wp2_with fail
                (go_at_call 88; refine (by1_any _ _ _ _ _ _ room _ _ hrm1).mono ?_; rintro e w2 ⟨rfl, hg2⟩)
                have hg3 := (Gr.alloc (Gr.refl wr) _).trans hg2
                have z1 := (hg2.cell wr.heap.size 0 (by simp)).trans (show _ = some (Value.int .i64 s1) by simp [go_sem])
                have z2 := (hg2.cell wr.heap.size 1 (by simp)).trans (show _ = some (Value.int .i64 s2) by simp [go_sem])
                have z3 := (hg2.cell wr.heap.size 2 (by simp)).trans (show _ = some (Value.int .i64 s3) by simp [go_sem])
                have HJ2 := Lib.hid (HJ.out.grow hg3)
                have e0 := HJ2.out.c0
                have e1 := HJ2.out.c1
                have e2 := HJ2.out.c2
                have ef := HJ2.out.fr
                simp only at e0 e1 e2
                clear hg2 hg3 hrm1 d0 d1 d2 y1 y2 y3
                by_cases hneg : benefit s1 s2 s3 q1 q2 q3 room < 0
                · have HBK : Hid (bestK (polS 2 room) l (j + 1) = (s1, s2, s3)) := Lib.hid (by rw [HSTEP.out, if_pos hneg])
                  go_wp2
                  go_roundw
                  case rel => exact ⟨j + 1, by omega, by go_num, by rw [HBK.out]; exact HJ2.out.set (Nat.le_refl _)⟩
                  case measure => simp [intOf]; omega
                · have HBK : Hid (bestK (polS 2 room) l (j + 1) = (q1, q2, q3)) := Lib.hid (by rw [HSTEP.out, if_neg hneg])
                  go_wp2
                  go_roundw
                  case rel => exact ⟨j + 1, by omega, by go_num, by rw [HBK.out]; exact HJ2.out⟩
                  case measure => simp [intOf]; omega
              · have hjk : (j : Int) = k - 1 := by omega
                have HJK := Lib.hid (show k - 1 = j by omega)
                have ⟨r0, hr0⟩ := HJ.out.bi.res 0 (by decide)
                have ⟨r1, hr1⟩ := HJ.out.bi.res 1 (by decide)
                have ⟨r2, hr2⟩ := HJ.out.bi.res 2 (by decide)
                have rf := HJ.out.bi.rfree
                go_wp2
                refine bodyPost_ret (v := bestV (q1, q2, q3) true 0) ?_ rfl ⟨?_, ?_⟩
                · simp [results, Tryz.results29, go_sem, hr0, hr1, hr2, bestV]
                · rw [best_some hC.out HTW.out hk0, HJK.out, ← HQ.out]
                · exact ((HJ.out.bi.gr.setCell (by simp) _).setCell (by simp) _).setCell (by simp) _
end Go.Proofs.YtemjnppplmankaaGreat

/- What a builder of chapters 21, 23, 24, 28 keeps: an index filled by moves. No walk. -/
set_option linter.unusedVariables false
set_option linter.unusedSimpArgs false
namespace Go.Proofs.YtemjnppplmankaaGreat

/-- An index behind moves: its entries in the order in which they were added, where each slot ends, the next number, how many moves. -/
structure FI (X : IX) (all : List En) (en : Int → Int) (nx j n : Int) : Prop where
  wf : X.Wf
  ln : (X.slots.length : Int) = n
  n0 : 1 ≤ n
  pm : all.Perm X.ents
  en0 : ∀ s, 0 ≤ en s ∧ en s ≤ 68 * j
  up : ∀ e ∈ all, e.off + e.size ≤ en e.slot
  j0 : 0 ≤ j
  nx0 : 1 ≤ nx
  nx1 : nx ≤ j + 1
  sq : ∀ e ∈ all, e.seq < nx
  cp : ∀ a ∈ all, ∀ b ∈ all, a.seq = b.seq → a.key = b.key ∧ a.del = b.del ∧ a.size = b.size
  sm : ∀ e ∈ all, e.size ≤ 68 ∧ e.key.size ≤ 3 ∧ Low e.key
def upd (en : Int → Int) (s v : Int) : Int → Int := fun t => if t = s then v else en t
theorem upd_same (en : Int → Int) (s v : Int) : upd en s v s = v := if_pos rfl
theorem upd_other (en : Int → Int) {s t : Int} (v : Int) (h : t ≠ s) : upd en s v t = en t := if_neg h
section
variable {X : IX} {all : List En} {en : Int → Int} {nx j n : Int}
theorem clash_end {l : List En} {e : En} (h : ∀ o ∈ l, o.off + o.size ≤ e.off) (hp : ∀ o ∈ l, 0 < o.size) : clash l e = false := by
  have hc : cnt (offP e.off) l = l.length := by
    refine (cnt_uniq (offP e.off) l l.length (Nat.le_refl _) (fun i x _ hx => ?_) (fun i x hi hx => ?_)).symm
    · have hm := List.mem_of_getElem? hx
      have := h x hm
      have := hp x hm
      unfold offP
      exact decide_eq_true (by omega)
    · have := (List.getElem?_eq_some_iff.1 hx).1; omega
  unfold clash
  rw [hc, List.getElem?_eq_none (Nat.le_refl _)]
  simp only [Bool.false_or]
  cases hl : l[l.length - 1]? with
  | none => simp
  | some o =>
    have := h o (List.mem_of_getElem? hl)
    simp only [Bool.and_eq_false_iff]
    exact .inr (decide_eq_false (by omega))
theorem FI.mem (h : FI X all en nx j n) (e : En) : e ∈ all ↔ e ∈ X.ents := h.pm.mem_iff
theorem FI.slot (h : FI X all en nx j n) (s : Int) (e : En) : e ∈ X.slot s ↔ e ∈ all ∧ e.slot = s := by rw [h.mem]; exact h.wf.slot_mem s e
theorem FI.of (h : FI X all en nx j n) (k : ByteArray) (e : En) : e ∈ X.of k ↔ e ∈ all ∧ e.key = k := by rw [h.mem]; exact h.wf.of_mem k e
theorem FI.ne (h : FI X all en nx j n) : X.slots ≠ [] := fun h0 => by have := h.ln; have := h.n0; rw [h0] at *; simp at *; omega
theorem FI.has (h : FI X all en nx j n) {s : Int} (h0 : 0 ≤ s) (h1 : s < n) : X.has s = true := by
  unfold IX.has
  exact decide_eq_true ⟨h0, by have := h.ln; omega⟩
theorem FI.clash (h : FI X all en nx j n) {e : En} (ho : e.off = en e.slot) : clash (X.slot e.slot) e = false := by
  refine clash_end (fun o hm => ?_) (fun o hm => ?_)
  · obtain ⟨h1, h2⟩ := (h.slot _ o).1 hm
    have := h.up o h1
    rw [h2] at this
    omega
  · obtain ⟨h1, h2⟩ := (h.slot _ o).1 hm
    have := (valid_iff o).1 (h.wf.valid ((h.mem o).1 h1)).1
    omega
theorem FI.later (h : FI X all en nx j n) {j' : Int} (hj : j ≤ j') : FI X all en nx j' n :=
  ⟨h.wf, h.ln, h.n0, h.pm, fun s => ⟨(h.en0 s).1, by have := (h.en0 s).2; omega⟩, h.up, by have := h.j0; omega, h.nx0, by have := h.nx1; omega, h.sq, h.cp, h.sm⟩
/-- An entry that goes behind those of its slot. -/
theorem FI.push (h : FI X all en nx j n) {e : En} {nx' : Int} (a : AddOk X e) (ho : e.off = en e.slot) (hs : e.size ≤ 68 ∧ e.key.size ≤ 3 ∧ Low e.key) (h1 : nx ≤ nx') (h2 : nx' ≤ j + 2) (h3 : e.seq < nx')
    (hc : ∀ o ∈ all, o.seq = e.seq → o.key = e.key ∧ o.del = e.del ∧ o.size = e.size) : FI (addX X e) (all ++ [e]) (upd en e.slot (e.off + e.size)) nx' (j + 1) n := by
  have hv := (valid_iff e).1 a.valid
  have he := h.en0 e.slot
  have hle : ∀ s, en s ≤ upd en e.slot (e.off + e.size) s := fun s => by
    unfold upd
    split
    · rename_i h0; subst h0; omega
    · exact Int.le_refl _
  refine ⟨add_wf h.wf a, ?_, h.n0, ?_, fun s => ?_, fun o hm => ?_, by have := h.j0; omega, by have := h.nx0; omega, by omega, fun o hm => ?_, fun x hx y hy hq => ?_, fun o hm => ?_⟩
  · rw [addX_eq a]; simp only [List.length_set]; exact h.ln
  · exact (List.perm_append_singleton e all).trans ((h.pm.cons e).trans (add_ents h.wf a).symm)
  · have := h.en0 s
    unfold upd
    split
    · omega
    · omega
  · rcases List.mem_append.1 hm with hm | hm
    · exact Int.le_trans (h.up o hm) (hle _)
    · rw [List.mem_singleton.1 hm, upd_same]
      exact Int.le_refl _
  · rcases List.mem_append.1 hm with hm | hm
    · have := h.sq o hm; omega
    · rw [List.mem_singleton.1 hm]; exact h3
  · rcases List.mem_append.1 hx with hx1 | hx1 <;> rcases List.mem_append.1 hy with hy1 | hy1
    · exact h.cp x hx1 y hy1 hq
    · obtain rfl := List.mem_singleton.1 hy1
      exact hc x hx1 hq
    · obtain rfl := List.mem_singleton.1 hx1
      obtain ⟨q1, q2, q3⟩ := hc y hy1 hq.symm
      exact ⟨q1.symm, q2.symm, q3.symm⟩
    · obtain rfl := List.mem_singleton.1 hx1
      obtain rfl := List.mem_singleton.1 hy1
      exact ⟨rfl, rfl, rfl⟩
  · rcases List.mem_append.1 hm with hm | hm
    · exact h.sm o hm
    · rw [List.mem_singleton.1 hm]; exact hs
/-- A new entry. -/
theorem FI.newOk (h : FI X all en nx j n) {e : En} (hj : j < 100) (hq : e.seq = nx) (h0 : 0 ≤ e.slot) (h1 : e.slot < n) (ho : e.off = en e.slot) (hk : keyChk e.key = 0) (hz : 16 + (e.key.size : Int) ≤ e.size) (hz2 : e.size = 16 + (e.key.size : Int) ∨ e.del = false) (hs : e.size ≤ 68) : AddOk X e := by
  have he := h.en0 e.slot
  have hx := h.nx0
  have hx1 := h.nx1
  refine ⟨h.ne, h.has h0 h1, (valid_iff e).2 ⟨hk, by omega, by omega, by omega, hz, hz2, by omega, by omega⟩, fun o hm => ?_, fun o hm => ?_, h.clash ho⟩
  · have := h.sq o ((h.of _ o).1 hm).1
    exact badE_no (fun hh => by omega)
  · have := h.sq o ((h.of _ o).1 hm).1
    unfold sameE
    exact decide_eq_false (fun hh => by omega)
theorem FI.new (h : FI X all en nx j n) {e : En} (hj : j < 100) (hq : e.seq = nx) (h0 : 0 ≤ e.slot) (h1 : e.slot < n) (ho : e.off = en e.slot) (hk : keyChk e.key = 0) (hz : 16 + (e.key.size : Int) ≤ e.size) (hz2 : e.size = 16 + (e.key.size : Int) ∨ e.del = false) (hs : e.size ≤ 68) (hkz : e.key.size ≤ 3) (hl : Low e.key) :
    addE X e = 0 ∧ FI (addX X e) (all ++ [e]) (upd en e.slot (e.off + e.size)) (nx + 1) (j + 1) n :=
  have a := h.newOk hj hq h0 h1 ho hk hz hz2 hs
  ⟨ok_add a, h.push a ho ⟨hs, hkz, hl⟩ (by omega) (by have := h.nx1; omega) (by omega) (fun o hm hh => by have := h.sq o hm; omega)⟩
/-- A copy: refused where the slot has one. -/
theorem FI.copyBad (h : FI X all en nx j n) {x e : En} (hx : x ∈ all) (he : e = { x with slot := e.slot, off := e.off }) : ∀ o ∈ X.of e.key, badE e o = false := by
  intro o hm
  obtain ⟨h1, h2⟩ := (h.of _ o).1 hm
  refine badE_no (fun hh => ?_)
  have e1 : e.seq = x.seq := by rw [he]
  have e3 : e.del = x.del := by rw [he]
  have e4 : e.size = x.size := by rw [he]
  obtain ⟨q1, q2, q3⟩ := h.cp o h1 x hx (by rw [hh, e1])
  exact En.ext' hh h2 (by rw [e3]; exact q2) rfl rfl (by rw [e4]; exact q3)
theorem FI.copyValid (h : FI X all en nx j n) {x e : En} (hj : j < 100) (hx : x ∈ all) (he : e = { x with slot := e.slot, off := e.off }) (ho : e.off = en e.slot) : validE e = true := by
  have hv := (valid_iff x).1 (h.wf.valid ((h.mem x).1 hx)).1
  have hs := h.sm x hx
  have he0 := h.en0 e.slot
  have e1 : e.seq = x.seq := by rw [he]
  have e2 : e.key = x.key := by rw [he]
  have e3 : e.del = x.del := by rw [he]
  have e4 : e.size = x.size := by rw [he]
  refine (valid_iff e).2 ⟨by rw [e2]; exact hv.1, by omega, by omega, by omega, by rw [e2]; omega, ?_, by omega, by omega⟩
  rw [e2, e3, e4]
  exact hv.2.2.2.2.2.1
theorem FI.copyNo (h : FI X all en nx j n) {x e : En} (hj : j < 100) (hx : x ∈ all) (he : e = { x with slot := e.slot, off := e.off }) (h0 : 0 ≤ e.slot) (h1 : e.slot < n) (ho : e.off = en e.slot) (hd : all.any (fun o => decide (o.slot = e.slot) && decide (o.seq = e.seq)) = true) :
    addE X e = 6 ∧ FI (addX X e) all en nx (j + 1) n := by
  have h6 : addE X e = 6 := by
    refine add_6 h.ne (h.has h0 h1) (h.copyValid hj hx he ho) (h.copyBad hx he) ?_
    rw [Bool.or_eq_true]
    refine .inl ?_
    obtain ⟨o, hm, hh⟩ := List.any_eq_true.1 hd
    simp only [Bool.and_eq_true, decide_eq_true_eq] at hh
    have e1 : e.seq = x.seq := by rw [he]
    have e2 : e.key = x.key := by rw [he]
    obtain ⟨q1, _, _⟩ := h.cp o hm x hx (by rw [hh.2, e1])
    exact List.any_eq_true.2 ⟨o, (h.of _ o).2 ⟨hm, by rw [q1, e2]⟩, decide_eq_true ⟨hh.2, hh.1⟩⟩
  refine ⟨h6, ?_⟩
  rw [addX_no (by rw [h6]; decide)]
  exact h.later (by omega)
theorem FI.copyYes (h : FI X all en nx j n) {x e : En} (hj : j < 100) (hx : x ∈ all) (he : e = { x with slot := e.slot, off := e.off }) (h0 : 0 ≤ e.slot) (h1 : e.slot < n) (ho : e.off = en e.slot) (hd : all.any (fun o => decide (o.slot = e.slot) && decide (o.seq = e.seq)) = false) :
    addE X e = 0 ∧ FI (addX X e) (all ++ [e]) (upd en e.slot (e.off + e.size)) nx (j + 1) n := by
  have e1 : e.seq = x.seq := by rw [he]
  have e2 : e.key = x.key := by rw [he]
  have e3 : e.del = x.del := by rw [he]
  have e4 : e.size = x.size := by rw [he]
  have a : AddOk X e := ⟨h.ne, h.has h0 h1, h.copyValid hj hx he ho, h.copyBad hx he, fun o hm => by
    have h2 := (h.of _ o).1 hm
    have h3 := List.any_eq_false.1 hd o h2.1
    unfold sameE
    refine decide_eq_false (fun hh => ?_)
    simp [hh.1, hh.2] at h3, h.clash ho⟩
  have hs := h.sm x hx
  refine ⟨ok_add a, h.push a ho (by rw [e4, e2]; exact hs) (Int.le_refl _) (by have := h.nx1; omega) (by rw [e1]; exact h.sq x hx) (fun o hm hh => ?_)⟩
  rw [e2, e3, e4]
  exact h.cp o hm x hx (by rw [hh, e1])
/-- A slot is emptied. -/
theorem FI.drop (h : FI X all en nx j n) {s : Int} (h0 : 0 ≤ s) (h1 : s < n) :
    dropC X s = 0 ∧ (X.slot s).length + (all.filter (fun o => !decide (o.slot = s))).length = all.length ∧ FI (dropX X s) (all.filter (fun o => !decide (o.slot = s))) (upd en s 0) nx (j + 1) n := by
  have hh := h.has h0 h1
  have hp := drop_ents h.wf hh
  have hw := drop_wf h.wf s
  have hne : ∀ o ∈ (dropX X s).ents, (!decide (o.slot = s)) = true := fun o ho => by
    simp only [Bool.not_eq_true', decide_eq_false_iff_not]
    intro e
    have h2 := (hw.slot_mem s o).2 ⟨ho, e⟩
    rw [drop_slot h.wf, if_pos rfl] at h2
    cases h2
  have hs : ∀ o ∈ X.slot s, ¬ (!decide (o.slot = s)) = true := fun o ho => by simp [((h.wf.slot_mem s o).1 ho).2]
  have hpm : (all.filter (fun o => !decide (o.slot = s))).Perm (dropX X s).ents := by
    have h2 := (h.pm.trans hp).filter (fun o => !decide (o.slot = s))
    rw [List.filter_append, List.filter_eq_nil_iff.2 hs, List.nil_append, List.filter_eq_self.2 hne] at h2
    exact h2
  refine ⟨if_pos hh, ?_, hw, ?_, h.n0, hpm, fun t => ?_, fun o ho => ?_, by have := h.j0; omega, h.nx0, by have := h.nx1; omega, fun o ho => h.sq o (List.mem_filter.1 ho).1, fun a ha b hb => h.cp a (List.mem_filter.1 ha).1 b (List.mem_filter.1 hb).1, fun o ho => h.sm o (List.mem_filter.1 ho).1⟩
  · have h2 := (h.pm.trans hp).length_eq
    have h3 := hpm.length_eq
    rw [List.length_append] at h2
    omega
  · rw [drop_yes hh]; simp only [List.length_set]; exact h.ln
  · have := h.en0 t
    have := h.j0
    unfold upd
    split <;> omega
  · obtain ⟨h2, h3⟩ := List.mem_filter.1 ho
    simp only [Bool.not_eq_true', decide_eq_false_iff_not] at h3
    rw [upd_other _ _ h3]
    exact h.up o h2
end
theorem FI.start (n : Nat) (h1 : 1 ≤ n) (h2 : n ≤ 32) : FI (ixNew n) [] (fun _ => 0) 1 0 n :=
  ⟨new_wf h2, by simp [ixNew], by omega, by simp [ixNew, IX.ents], fun _ => ⟨by omega, by omega⟩, (fun _ h => by cases h), by omega, by omega, by omega, (fun _ h => by cases h), (fun _ h => by cases h), (fun _ h => by cases h)⟩
end Go.Proofs.YtemjnppplmankaaGreat

/- An append of however many elements to a row of the call's own; what a slice of a row is made of. No program in sight. -/
set_option linter.unusedVariables false
set_option linter.unusedSimpArgs false
namespace Go.Proofs.YtemjnppplmankaaGreat
open Go.RowKit

/-- What is appended: m elements; they lie at xa, where there are any. -/
def SrcAt (w : World) (size : Nat) (xa : Option Addr) (m : Nat) (news : List Value) : Prop :=
  news.length = m * size ∧ (∀ u ∈ news, u.oneCell' = true) ∧ (m = 0 ∨ ∃ ad, xa = some ad ∧ ∀ j u, news[j]? = some u → w.cell? (ad.add j) = some u)
/-- What an append leaves. -/
def AppV (w : World) (e : TypeId) (size : Nat) (v : Value) (n : Nat) (xs : List Value) (v' : Value) (w' : World) : Prop :=
  Own w' e size v' n xs ∧ (∀ g, v'.ownBlock = some g → v.ownBlock = some g ∨ w.heap.size ≤ g) ∧ w.grownBy w' v.ownBlock
theorem addr_add (b o j : Nat) : (⟨b, o, none⟩ : Addr).add j = ⟨b, o + j, none⟩ := by unfold Addr.add; split <;> simp_all
theorem keepAdd {w w' : World} {S : Nat → Prop} (m : Mdh S w w') {b o j : Nat} {u : Value} (h : w.cell? ((⟨b, o, none⟩ : Addr).add j) = some u) (hs : ¬ S b) : w'.cell? ((⟨b, o, none⟩ : Addr).add j) = some u := by
  rw [addr_add] at h ⊢
  exact m.keep h hs
theorem SrcAt.gr {w w' : World} {K m : Nat} {xa : Option Addr} {news : List Value} (h : SrcAt w K xa m news) (g : Gr w w') : SrcAt w' K xa m news :=
  ⟨h.1, h.2.1, h.2.2.imp id (fun ⟨ad, e, hc⟩ => ⟨ad, e, fun j u hj => (World.cell?_of_block (Below.block g _ (World.block_lt_of_cell? w _ (hc j u hj)))).trans (hc j u hj)⟩)⟩
theorem SrcAt.mdh {w w' : World} {S : Nat → Prop} {K m : Nat} {xa : Option Addr} {news : List Value} (h : SrcAt w K xa m news) (g : Mdh S w w') (hs : ∀ ad, xa = some ad → ¬ S ad.block) : SrcAt w' K xa m news :=
  ⟨h.1, h.2.1, h.2.2.imp id (fun ⟨ad, e, hc⟩ => ⟨ad, e, fun j u hj => by
    have h0 : (ad.add j).block = ad.block := by unfold Addr.add; split <;> rfl
    have h1 := World.block_lt_of_cell? w _ (hc j u hj)
    exact (World.cell?_of_block (g.blocks _ h1 (by rw [h0]; exact hs ad e))).trans (hc j u hj)⟩)⟩
/-- A whole row, as a source. -/
theorem src_all {w : World} {e : TypeId} {K n cap : Nat} {a : Option Addr} {xs : List Value} (h : Own w e K (.slice a n cap) n xs) (h1 : ∀ u ∈ xs, u.oneCell' = true) : SrcAt w K a n xs := by
  refine ⟨h.1, h1, ?_⟩
  rcases h.2 with ⟨_, h0⟩ | ⟨g, cap', cur, hv, _⟩
  · exact .inl h0
  · simp only [Value.slice.injEq] at hv
    obtain ⟨rfl, _, _⟩ := hv
    exact .inr ⟨_, rfl, h.cells rfl⟩
/-- Its first elements. -/
theorem src_take {w : World} {e : TypeId} {K n cap i : Nat} {a : Option Addr} {xs : List Value} (h : Own w e K (.slice a n cap) n xs) (h1 : ∀ u ∈ xs, u.oneCell' = true) (hi : i ≤ n) : SrcAt w K a i (xs.take (i * K)) := by
  have hl := h.1
  have hm := Nat.mul_le_mul_right K hi
  refine ⟨by rw [List.length_take]; omega, fun u hu => h1 u (List.mem_of_mem_take hu), ?_⟩
  rcases (src_all h h1).2.2 with h0 | ⟨ad, rfl, hc⟩
  · exact .inl (by omega)
  · exact .inr ⟨ad, rfl, fun j u hj => hc j u (by
      rw [List.getElem?_take] at hj
      split at hj
      · exact hj
      · cases hj)⟩
/-- Its last ones. -/
theorem src_drop {w : World} {e : TypeId} {K n cap i : Nat} {a : Option Addr} {xs : List Value} (h : Own w e K (.slice a n cap) n xs) (h1 : ∀ u ∈ xs, u.oneCell' = true) (hi : i ≤ n) (xa : Option Addr) (hxa : ∀ g, a = some ⟨g, 0, none⟩ → i < n → xa = some ⟨g, i * K, none⟩) : SrcAt w K xa (n - i) (xs.drop (i * K)) := by
  have hl := h.1
  refine ⟨by rw [List.length_drop, hl, Nat.sub_mul], fun u hu => h1 u (List.mem_of_mem_drop hu), ?_⟩
  by_cases e0 : i = n
  · exact .inl (by omega)
  · rcases h.2 with ⟨_, h0⟩ | ⟨g, cap', cur, hv, _⟩
    · omega
    · simp only [Value.slice.injEq] at hv
      obtain ⟨rfl, _, _⟩ := hv
      refine .inr ⟨_, hxa g rfl (by omega), fun j u hj => ?_⟩
      rw [List.getElem?_drop] at hj
      have := h.cells (g := g) rfl _ u hj
      rw [addr_add] at this ⊢
      rwa [Nat.zero_add] at this
section
variable {P : Program} (w : World)
theorem run_app_none (t ty e : TypeId) (i : TypeInfo) (size : Nat) (ht : P.underlying t = some (.slice e)) (hi : P.info? e = some i) (_hsize : i.size = size)
    (v : Value) (n : Nat) (xs : List Value) (hown : Own w e size v n xs) (xa : Option Addr) (c : Nat) : (Builtin.append_ #[t, t] ty #[v, .slice xa 0 c]).run P w = .ok v w := by
  rcases hown.2 with ⟨rfl, rfl⟩ | ⟨g, cap, cur, rfl, _, _, hnc, _⟩
  · cases xa <;> simp [Builtin.append_, run_underlying ht, sizeOf, typeInfo, hi, Builtin.firstCells, Builtin.lenOf, loadCells, loadCellsFrom]
  · cases xa <;> simp [Builtin.append_, run_underlying ht, sizeOf, typeInfo, hi, Builtin.firstCells, Builtin.lenOf, storeCells, loadCells, loadCellsFrom, hnc]
theorem run_appv (t ty e : TypeId) (i : TypeInfo) (z : Value) (size bytes : Nat) (ht : P.underlying t = some (.slice e)) (hi : P.info? e = some i) (hz : i.zero = some z)
    (hsize : i.size = size) (hby : i.bytes = bytes) (hzs : z.cells.size = size) (hsz : 0 < size)
    (v : Value) (n : Nat) (xs : List Value) (hown : Own w e size v n xs) (xa : Option Addr) (m c : Nat) (news : List Value) (hsrc : SrcAt w size xa m news) (h63 : n + m ≤ maxLen) (hbytes : (n + m) * bytes ≤ 140737488355328) :
    ∃ v' w', (Builtin.append_ #[t, t] ty #[v, .slice xa m c]).run P w = .ok v' w' ∧ AppV w e size v (n + m) (xs ++ news) v' w' := by
  obtain ⟨hl, h1, hs⟩ := hsrc
  by_cases hm : m = 0
  · subst hm
    obtain rfl : news = [] := List.eq_nil_of_length_eq_zero (by omega)
    exact ⟨v, w, run_app_none w t ty e i size ht hi hsize v n xs hown xa c, by simpa using hown, fun g hg => .inl hg, ⟨rfl, rfl, rfl, Nat.le_refl _, fun _ _ _ => rfl⟩⟩
  · obtain ⟨ad, rfl, hc⟩ := hs.resolve_left hm
    obtain ⟨g, cap, w', hr, h2, h3, h4⟩ := run_app w t ty e i z size bytes ht hi hz hsize hby hzs hsz v n xs hown ad m c news hl hc h1 (by omega) h63 hbytes
    exact ⟨_, w', hr, h2, fun k hk => (by simpa [Value.ownBlock] using hk : g = k) ▸ h3, h4⟩
theorem wp_appv {o : Oper} {a : Act} {K : Act → World → Prop} {Q : Exit → Act → World → Prop} (s x : Operand) (t : TypeId)
    (ho : o.op = .call { callee := .builtin .append, args := #[s, x], argTypes := #[t, t] })
    (e : TypeId) (i : TypeInfo) (z : Value) (size bytes : Nat) (ht : P.underlying t = some (.slice e)) (hi : P.info? e = some i) (hz : i.zero = some z)
    (hsize : i.size = size) (hby : i.bytes = bytes) (hzs : z.cells.size = size) (hsz : 0 < size)
    (v : Value) (n : Nat) (xs : List Value) (hs : a.eval s = v) (hown : Own w e size v n xs)
    (xa : Option Addr) (m c : Nat) (news : List Value) (hx : a.eval x = .slice xa m c) (hsrc : SrcAt w size xa m news) (h63 : n + m ≤ maxLen) (hbytes : (n + m) * bytes ≤ 140737488355328)
    (h : ∀ v' w', AppV w e size v (n + m) (xs ++ news) v' w' → K (a.put o.dst v') w') : o.wp P a w K Q := by
  obtain ⟨v', w', hr, h2⟩ := run_appv (P := P) w t o.type e i z size bytes ht hi hz hsize hby hzs hsz v n xs hown xa m c news hsrc h63 hbytes
  unfold Oper.wp execOp
  simp only [ho, resolve, invoke, builtin, Sem.run_bind, Sem.run_pure, Result.andThen_ok, List.map_toArray, List.map_cons, List.map_nil, hs, hx, hr]
  exact h v' w' h2
theorem wpList_appv {ops : Array Oper} {rest : List Oper} {o : Oper} {a : Act} {Q : Exit → Act → World → Prop} (hgd : o.guard = none) (s x : Operand) (t : TypeId)
    (ho : o.op = .call { callee := .builtin .append, args := #[s, x], argTypes := #[t, t] })
    (e : TypeId) (i : TypeInfo) (z : Value) (size bytes : Nat) (ht : P.underlying t = some (.slice e)) (hi : P.info? e = some i) (hz : i.zero = some z)
    (hsize : i.size = size) (hby : i.bytes = bytes) (hzs : z.cells.size = size) (hsz : 0 < size)
    (v : Value) (n : Nat) (xs : List Value) (hs : a.eval s = v) (hown : Own w e size v n xs)
    (xa : Option Addr) (m c : Nat) (news : List Value) (hx : a.eval x = .slice xa m c) (hsrc : SrcAt w size xa m news) (h63 : n + m ≤ maxLen) (hbytes : (n + m) * bytes ≤ 140737488355328)
    (h : ∀ v' w', AppV w e size v (n + m) (xs ++ news) v' w' → wpList P ops Q rest (a.put o.dst v') w') : wpList P ops Q (o :: rest) a w :=
  wpList_plain hgd fun _ hK => wp_appv w s x t ho e i z size bytes ht hi hz hsize hby hzs hsz v n xs hs hown xa m c news hx hsrc h63 hbytes fun v' w' h2 => hK _ _ (h v' w' h2)
theorem wpIn_appv {F : Fence} {f : Nat} {o : Oper} {a : Act} {K : Act → World → Prop} {Q : Exit → Act → World → Prop} (s x : Operand) (t : TypeId)
    (ho : o.op = .call { callee := .builtin .append, args := #[s, x], argTypes := #[t, t] })
    (e : TypeId) (i : TypeInfo) (z : Value) (size bytes : Nat) (ht : P.underlying t = some (.slice e)) (hi : P.info? e = some i) (hz : i.zero = some z)
    (hsize : i.size = size) (hby : i.bytes = bytes) (hzs : z.cells.size = size) (hsz : 0 < size)
    (v : Value) (n : Nat) (xs : List Value) (hs : a.eval s = v) (hown : Own w e size v n xs)
    (xa : Option Addr) (m c : Nat) (news : List Value) (hx : a.eval x = .slice xa m c) (hsrc : SrcAt w size xa m news) (h63 : n + m ≤ maxLen) (hbytes : (n + m) * bytes ≤ 140737488355328)
    (h : ∀ v' w', AppV w e size v (n + m) (xs ++ news) v' w' → K (a.put o.dst v') w') : o.wpIn F f P a w K Q := by
  obtain ⟨v', w', hr, h2⟩ := run_appv (P := P) w t o.type e i z size bytes ht hi hz hsize hby hzs hsz v n xs hown xa m c news hsrc h63 hbytes
  unfold Oper.wpIn
  refine ⟨?_, ?_⟩
  · simp [Oper.about, ho, resolve, Target.leads, Sem.run_pure]
  · rw [Oper.semAt_plain F _ _ (by rw [ho]; intro c hc'; cases hc')]
    simp only [execOp, ho, resolve, invoke, builtin, Sem.run_bind, Sem.run_pure, Result.andThen_ok, List.map_toArray, List.map_cons, List.map_nil, hs, hx, hr]
    exact h v' w' h2
theorem wpListIn_appv {F : Fence} {f : Nat} {ops : Array Oper} {rest : List Oper} {o : Oper} {a : Act} {Q : Exit → Act → World → Prop} (hgd : o.guard = none) (s x : Operand) (t : TypeId)
    (ho : o.op = .call { callee := .builtin .append, args := #[s, x], argTypes := #[t, t] })
    (e : TypeId) (i : TypeInfo) (z : Value) (size bytes : Nat) (ht : P.underlying t = some (.slice e)) (hi : P.info? e = some i) (hz : i.zero = some z)
    (hsize : i.size = size) (hby : i.bytes = bytes) (hzs : z.cells.size = size) (hsz : 0 < size)
    (v : Value) (n : Nat) (xs : List Value) (hs : a.eval s = v) (hown : Own w e size v n xs)
    (xa : Option Addr) (m c : Nat) (news : List Value) (hx : a.eval x = .slice xa m c) (hsrc : SrcAt w size xa m news) (h63 : n + m ≤ maxLen) (hbytes : (n + m) * bytes ≤ 140737488355328)
    (h : ∀ v' w', AppV w e size v (n + m) (xs ++ news) v' w' → wpListIn F f P ops Q rest (a.put o.dst v') w') : wpListIn F f P ops Q (o :: rest) a w :=
  wpListIn_plain hgd fun _ hK => wpIn_appv w s x t ho e i z size bytes ht hi hz hsize hby hzs hsz v n xs hs hown xa m c news hx hsrc h63 hbytes fun v' w' h2 => hK _ _ (h v' w' h2)
end
/-- Slices of a row of the call's own, whatever its value looks like. -/
theorem slice_take {P : Program} {w : World} {t e : TypeId} {i0 : TypeInfo} (ht : P.underlying t = some (.slice e)) (hi : P.info? e = some i0) {K : Nat} (hs : i0.size = K) {v : Value} {n : Nat} {xs : List Value} (h : Own w e K v n xs) (h1 : ∀ u ∈ xs, u.oneCell' = true) {i : Nat} (hin : i ≤ n) :
    ∃ xa c, (∀ w', (Instr.slice t v none (some (.int .i64 (i : Int))) none).run P w' = .ok (.slice xa i c) w') ∧ SrcAt w K xa i (xs.take (i * K)) ∧ ∀ ad, xa = some ad → v.ownBlock = some ad.block := by
  have he : P.elem t = e := by simp [Program.elem, ht]
  have ht' : P.underlying t = some (.slice (P.elem t)) := by rw [he]; exact ht
  have hz : ∀ w', (sizeOf (P.elem t)).run P w' = .ok K w' := fun w' => by rw [he]; simp [sizeOf, typeInfo, hi, hs]
  rcases h.2 with ⟨rfl, h0⟩ | ⟨g, cap, cur, rfl, _, _, hnc, _⟩
  · obtain rfl : i = 0 := by omega
    refine ⟨none, 0, fun w' => ?_, by simpa using (show SrcAt w K none 0 [] from ⟨by simp, by simp, .inl rfl⟩), fun ad e => by cases e⟩
    rw [run_slice_h w' t none 0 0 ht' .i64 _ (by omega) (by simp), hz]
    simp [Result.andThen, sliced]
  · refine ⟨some ⟨g, 0, none⟩, cap, fun w' => ?_, src_take h h1 hin, fun ad e => by obtain rfl := Option.some.inj e; rfl⟩
    rw [run_slice_h w' t _ n cap ht' .i64 _ (by omega) (by omega), hz]
    simp [Result.andThen, sliced, addr_add]
theorem slice_drop {P : Program} {w : World} {t e : TypeId} {i0 : TypeInfo} (ht : P.underlying t = some (.slice e)) (hi : P.info? e = some i0) {K : Nat} (hs : i0.size = K) {v : Value} {n : Nat} {xs : List Value} (h : Own w e K v n xs) (h1 : ∀ u ∈ xs, u.oneCell' = true) {i : Nat} (hin : i ≤ n) :
    ∃ xa c, (∀ w', (Instr.slice t v (some (.int .i64 (i : Int))) none none).run P w' = .ok (.slice xa (n - i) c) w') ∧ SrcAt w K xa (n - i) (xs.drop (i * K)) ∧ ∀ ad, xa = some ad → v.ownBlock = some ad.block := by
  have he : P.elem t = e := by simp [Program.elem, ht]
  have ht' : P.underlying t = some (.slice (P.elem t)) := by rw [he]; exact ht
  have hz : ∀ w', (sizeOf (P.elem t)).run P w' = .ok K w' := fun w' => by rw [he]; simp [sizeOf, typeInfo, hi, hs]
  rcases h.2 with ⟨rfl, h0⟩ | ⟨g, cap, cur, rfl, _, _, hnc, _⟩
  · obtain rfl : i = 0 := by omega
    have hx : xs = [] := List.eq_nil_of_length_eq_zero (by rw [h.1, h0]; simp)
    refine ⟨none, 0, fun w' => ?_, by subst h0 hx; simpa using (show SrcAt w K none 0 [] from ⟨by simp, by simp, .inl rfl⟩), fun ad e => by cases e⟩
    subst h0
    rw [run_slice_l w' t none 0 0 ht' .i64 _ (by omega) (by simp), hz]
    simp [Result.andThen, sliced]
  · refine ⟨if cap = i then some ⟨g, 0, none⟩ else some ⟨g, i * K, none⟩, cap - i, fun w' => ?_, src_drop h h1 hin _ (fun g' hg' hlt => ?_), fun ad e => ?_⟩
    · rw [run_slice_l w' t _ n cap ht' .i64 _ (by omega) (by omega), hz]
      simp [Result.andThen, sliced, addr_add]
    · obtain rfl : g = g' := by simpa using hg'
      rw [if_neg (by omega)]
    · split at e <;> (obtain rfl := Option.some.inj e; rfl)
theorem src_new (w : World) (x : Value) (t : TypeId) (hx : x.oneCell' = true) : SrcAt (w.alloc (.cells #[x] t)) 1 (some ⟨w.heap.size, 0, none⟩) 1 [x] := by
  refine ⟨rfl, fun u hu => by obtain rfl := List.mem_singleton.1 hu; exact hx, .inr ⟨_, rfl, fun j u hj => ?_⟩⟩
  match j with
  | 0 => simp at hj; subst hj; simp [go_sem, Addr.add]
  | j + 1 => simp at hj
theorem src_newK (w : World) (cs : List Value) (t : TypeId) (K : Nat) (hK : cs.length = K) (hx : ∀ u ∈ cs, u.oneCell' = true) : SrcAt (w.alloc (.cells cs.toArray t)) K (some ⟨w.heap.size, 0, none⟩) 1 cs := by
  refine ⟨by omega, hx, .inr ⟨_, rfl, fun j u hj => ?_⟩⟩
  rw [addr_add, Nat.zero_add, (cellsOf (blkNew w (.cells cs.toArray t))).1 j]
  simpa using hj
theorem own_ne {w : World} {e t : TypeId} {K n b : Nat} {v : Value} {xs : List Value} {cs : Array Value} (h : Own w e K v n xs) (hb : w.heap[b]? = some (.cells cs t)) (hte : t ≠ e) : v.ownBlock ≠ some b := by
  rcases h.2 with ⟨rfl, _⟩ | ⟨g, cap, cur, rfl, _, hg, _⟩
  · intro h; cases h
  · intro h
    obtain rfl : g = b := by simpa [Value.ownBlock] using h
    rw [hg] at hb
    simp only [Option.some.injEq, Obj.cells.injEq] at hb
    exact hte hb.2.1.symm
theorem own_ne2 {w : World} {e e' : TypeId} {K K' n n' : Nat} {v v' : Value} {xs xs' : List Value} (h : Own w e K v n xs) (h' : Own w e' K' v' n' xs') (hte : e ≠ e') : ∀ g, v.ownBlock = some g → v'.ownBlock ≠ some g := by
  intro g hg
  rcases h.2 with ⟨rfl, _⟩ | ⟨g1, cap, cur, rfl, _, hc, _⟩
  · cases hg
  · obtain rfl : g1 = g := Option.some.inj hg
    exact own_ne h' hc hte
theorem own_blk {w : World} {e : TypeId} {K n g : Nat} {v : Value} {xs : List Value} (h : Own w e K v n xs) (hg : v.ownBlock = some g) : ∃ cs, w.heap[g]? = some (.cells cs e) := by
  rcases h.2 with ⟨rfl, _⟩ | ⟨g1, cap, cur, rfl, _, hc, _⟩
  · cases hg
  · obtain rfl : g1 = g := Option.some.inj hg
    exact ⟨cur, hc⟩
theorem ownB {b n c q : Nat} (h : Value.ownBlock (.slice (some ⟨b, 0, none⟩) n c) = some q) : q = b := (Option.some.inj h).symm
/-- A row whose block is new since w0. -/
structure Nw (w0 w : World) (e : TypeId) (K : Nat) (v : Value) (n : Nat) (xs : List Value) : Prop where
  own : Own w e K v n xs
  new : ∀ q, v.ownBlock = some q → w0.heap.size ≤ q
theorem Nw.gr {w0 w w' : World} {e : TypeId} {K n : Nat} {v : Value} {xs : List Value} (h : Nw w0 w e K v n xs) (g : Gr w w') : Nw w0 w' e K v n xs := ⟨h.own.gr g, h.new⟩
theorem Nw.mdh {S : Nat → Prop} {w0 w w' : World} {e : TypeId} {K n : Nat} {v : Value} {xs : List Value} (h : Nw w0 w e K v n xs) (m : Mdh S w w') (hs : ∀ q, v.ownBlock = some q → ¬ S q) : Nw w0 w' e K v n xs := ⟨h.own.mdh m hs, h.new⟩
theorem Nw.made {w0 w : World} {e : TypeId} {K : Nat} (hz : w0.heap.size ≤ w.heap.size) : Nw w0 (w.alloc (.cells #[] e)) e K (.slice (some ⟨w.heap.size, 0, none⟩) 0 0) 0 [] :=
  ⟨Own.ofParts (blkNew w _) (Nat.le_refl _) (by simp [maxLen]) (by simp) (by simp), fun q hq => (by simpa [Value.ownBlock] using hq : w.heap.size = q) ▸ hz⟩
/-- What an append to such a row leaves. -/
theorem AppV.nw {w0 w w' : World} {e : TypeId} {K n m : Nat} {v v' : Value} {xs ys : List Value} (h : AppV w e K v n xs v' w') (hv : Nw w0 w e K v m ys) (hz : w0.heap.size ≤ w.heap.size) : Nw w0 w' e K v' n xs :=
  ⟨h.1, fun q hq => (h.2.1 q hq).elim (hv.new q) (Nat.le_trans hz)⟩
theorem AppV.gw {w0 w w' : World} {e : TypeId} {K n m : Nat} {v v' : Value} {xs ys : List Value} (h : AppV w e K v n xs v' w') (hv : Nw w0 w e K v m ys) (g : Gr w0 w) : Gr w0 w' :=
  g.md ((Mdh.refl _ w).grown h.2.2 (fun _ hr => hr)) hv.new
theorem AppV.mw {S : Nat → Prop} {w0 w w' : World} {e : TypeId} {K n m : Nat} {v v' : Value} {xs ys : List Value} (h : AppV w e K v n xs v' w') (hv : Nw w0 w e K v m ys) (g : Mdh S w0 w) : Mdh S w0 w' :=
  g.then ((Mdh.refl _ w).grown h.2.2 (fun _ hr => hr)) (fun q hq => .inr (hv.new q hq))
theorem AppV.val {w w' : World} {e : TypeId} {K n : Nat} {v v' : Value} {xs : List Value} (h : AppV w e K v n xs v' w') : ∃ a c, v' = .slice a n c := by
  rcases h.1.2 with ⟨rfl, rfl⟩ | ⟨g, cap, cur, rfl, _⟩
  · exact ⟨none, 0, rfl⟩
  · exact ⟨_, cap, rfl⟩
theorem AppV.mdh {w w' : World} {e : TypeId} {size n : Nat} {v v' : Value} {xs : List Value} (h : AppV w e size v n xs v' w') {S : Nat → Prop} (hS : ∀ g, v.ownBlock = some g → S g) : Mdh S w w' :=
  (Mdh.refl _ w).grown h.2.2 hS
end Go.Proofs.YtemjnppplmankaaGreat
