/- Contracts of score.Best and of its reference. -/
import Derived.Test.YtgpecjnnepocmaaScC
import Derived.Test.YtgpecjnnepocmaaScQ
namespace Go.Proofs.Ytgpecjnnepocmaa
open Go.RowKit
attribute [local go_sem] Ovs cell_ov obj_ov shape_ov

/-- The sides l lie in w one behind the other. -/
def SidesAt (w : World) (b off : Nat) (l : List Sd) : Prop :=
  ∀ i, i < l.length → w.cell? ⟨b, off + i * 3, none⟩ = some (.int .i64 (l[i]?.getD (0, 0, 0)).1) ∧ w.cell? ⟨b, off + i * 3 + 1, none⟩ = some (.int .i64 (l[i]?.getD (0, 0, 0)).2.1) ∧
    w.cell? ⟨b, off + i * 3 + 2, none⟩ = some (.int .i64 (l[i]?.getD (0, 0, 0)).2.2)

def chkS (room : Int) (x : Sd) : Bool := chkB x.1 x.2.1 x.2.2 room
def polS (policy room : Int) (x y : Sd) : Int := polC policy x.1 x.2.1 x.2.2 y.1 y.2.1 y.2.2 room

/-- The memory of the call: block B the result, B + 1 the room, B + 1 + 1 how often each slot has come. -/
structure BI (w : World) (B : Nat) (room : Int) (c : Int → Int) (wr : World) : Prop where
  gr : Gr w wr
  sz : B + 1 + 1 < wr.heap.size
  rm : wr.cell? ⟨B + 1, 0, none⟩ = some (.int .i64 room)
  seen : ∀ j : Nat, j < 32 → wr.cell? ⟨B + 1 + 1, j, none⟩ = some (.int .i64 (c j))
  free : ∀ j, wr.frozen? ⟨B + 1 + 1, j, none⟩ = false
  res : ∀ j, j < 3 → ∃ v, wr.cell? ⟨B, j, none⟩ = some v
  rfree : ∀ j, wr.frozen? ⟨B, j, none⟩ = false

theorem BI.grow {w : World} {B : Nat} {room : Int} {c : Int → Int} {wr w1 : World} (h : BI w B room c wr) (g : Gr wr w1) : BI w B room c w1 := by
  have hz := h.sz
  exact ⟨h.gr.trans g, Nat.lt_of_lt_of_le h.sz g.sz, (g.cell _ _ (by omega)).trans h.rm, fun j hj => (g.cell _ _ (by omega)).trans (h.seen j hj),
    fun j => (g.frozen _ _ (by omega)).trans (h.free j), fun j hj => let ⟨v, hv⟩ := h.res j hj; ⟨v, (g.cell _ _ (by omega)).trans hv⟩, fun j => (g.frozen _ _ (by omega)).trans (h.rfree j)⟩

/-- One more of a slot. -/
theorem BI.step {w : World} {B : Nat} {room : Int} {c c' : Int → Int} {wr : World} (h : BI w B room c wr) (hB : w.heap.size ≤ B) (s : Nat) (hs : s < 32) (n : Int) (hn : n = c' s)
    (ho : ∀ j : Nat, j < 32 → j ≠ s → c' j = c j) : BI w B room c' (wr.setCell ⟨B + 1 + 1, s, none⟩ (.int .i64 n)) := by
  subst hn
  have hz := h.sz
  refine ⟨h.gr.setCell (by show w.heap.size ≤ B + 1 + 1; omega) _, by simpa using hz, ?_, fun j hj => ?_, fun j => ?_, fun j hj => ?_, fun j => ?_⟩
  · rw [World.cell?_setCell_other _ _ _ _ (by simp)]; exact h.rm
  · by_cases hjs : j = s
    · subst hjs
      exact World.cell?_setCell_same' _ _ _ (by rw [h.seen j hj]; rfl)
    · rw [World.cell?_setCell_other _ _ _ _ (fun e => by have := congrArg Addr.off e; dsimp only at this; omega), ho j hj hjs]; exact h.seen j hj
  · rw [World.frozen?_setCell]; exact h.free j
  · obtain ⟨v, hv⟩ := h.res j hj
    exact ⟨v, by rw [World.cell?_setCell_other _ _ _ _ (by simp)]; exact hv⟩
  · rw [World.frozen?_setCell]; exact h.rfree j

theorem zerosN (n : Nat) (w : World) (t : TypeId) (B j : Nat) (hB : B = w.heap.size) (hj : j < n) : (w.alloc (.cells (List.replicate n (Value.int .i64 0)).toArray t)).cell? ⟨B, j, none⟩ = some (.int .i64 0) := by
  subst hB
  simp [go_sem, hj]

/-- Beside it the best so far, in the block Bb. -/
structure BJ (w : World) (B : Nat) (room : Int) (c : Int → Int) (Bb : Nat) (x : Sd) (wr : World) : Prop where
  bi : BI w B room c wr
  lo : B + 1 + 1 < Bb
  hi : Bb < wr.heap.size
  c0 : wr.cell? ⟨Bb, 0, none⟩ = some (.int .i64 x.1)
  c1 : wr.cell? ⟨Bb, 1, none⟩ = some (.int .i64 x.2.1)
  c2 : wr.cell? ⟨Bb, 2, none⟩ = some (.int .i64 x.2.2)
  fr : ∀ j, wr.frozen? ⟨Bb, j, none⟩ = false

theorem BJ.grow {w : World} {B : Nat} {room : Int} {c : Int → Int} {Bb : Nat} {x : Sd} {wr w1 : World} (h : BJ w B room c Bb x wr) (g : Gr wr w1) : BJ w B room c Bb x w1 := by
  have hz := h.hi
  exact ⟨h.bi.grow g, h.lo, Nat.lt_of_lt_of_le h.hi g.sz, (g.cell _ _ hz).trans h.c0, (g.cell _ _ hz).trans h.c1, (g.cell _ _ hz).trans h.c2, fun j => (g.frozen _ _ hz).trans (h.fr j)⟩

/-- A store into a block of the call's own beyond the first three. -/
theorem BI.setOther {w : World} {B : Nat} {room : Int} {c : Int → Int} {wr : World} (h : BI w B room c wr) (hB : w.heap.size ≤ B) {a : Addr} (ha : B + 1 + 1 < a.block) (v : Value) : BI w B room c (wr.setCell a v) := by
  have hz := h.sz
  refine ⟨h.gr.setCell (by omega) _, by simpa using hz, ?_, fun j hj => ?_, fun j => ?_, fun j hj => ?_, fun j => ?_⟩
  · rw [World.cell?_setCell_other _ _ _ _ (fun e => by have := congrArg Addr.block e; dsimp only at this; omega)]; exact h.rm
  · rw [World.cell?_setCell_other _ _ _ _ (fun e => by have := congrArg Addr.block e; dsimp only at this; omega)]; exact h.seen j hj
  · rw [World.frozen?_setCell]; exact h.free j
  · obtain ⟨v', hv⟩ := h.res j hj
    exact ⟨v', by rw [World.cell?_setCell_other _ _ _ _ (fun e => by have := congrArg Addr.block e; dsimp only at this; omega)]; exact hv⟩
  · rw [World.frozen?_setCell]; exact h.rfree j

theorem BJ.set {w : World} {B : Nat} {room : Int} {c : Int → Int} {Bb : Nat} {x y : Sd} {wr : World} (h : BJ w B room c Bb x wr) (hB : w.heap.size ≤ B) :
    BJ w B room c Bb y (((wr.setCell ⟨Bb, 0, none⟩ (.int .i64 y.1)).setCell ⟨Bb, 1, none⟩ (.int .i64 y.2.1)).setCell ⟨Bb, 2, none⟩ (.int .i64 y.2.2)) := by
  have hl := h.lo
  have hz := h.hi
  refine ⟨((h.bi.setOther hB (by simpa using hl) _).setOther hB (by simpa using hl) _).setOther hB (by simpa using hl) _, h.lo, by simpa using hz, ?_, ?_, ?_, fun j => ?_⟩
  · rw [World.cell?_setCell_other _ _ _ _ (by simp), World.cell?_setCell_other _ _ _ _ (by simp)]
    exact World.cell?_setCell_same' _ _ _ (by rw [h.c0]; rfl)
  · rw [World.cell?_setCell_other _ _ _ _ (by simp)]
    exact World.cell?_setCell_same' _ _ _ (by rw [World.cell?_setCell_other _ _ _ _ (by simp), h.c1]; rfl)
  · exact World.cell?_setCell_same' _ _ _ (by rw [World.cell?_setCell_other _ _ _ _ (by simp), World.cell?_setCell_other _ _ _ _ (by simp), h.c2]; rfl)
  · rw [World.frozen?_setCell, World.frozen?_setCell, World.frozen?_setCell]; exact h.fr j

/-- The result of Best, as a tuple. -/
def bestV (x : Sd) (is : Bool) (e : Int) : Value := .tuple #[.agg #[.int .i64 x.1, .int .i64 x.2.1, .int .i64 x.2.2], .bool is, .int .i64 e]
def zSd : Sd := (0, 0, 0)
def bestR (policy room : Int) (l : List Sd) (n : Nat) : Value :=
  if (∀ i, i < n → chkS room (l[i]?.getD (0, 0, 0)) = true) then (if twB l n = true then bestV zSd false 6 else if n = 0 then bestV zSd false 0 else bestV (bestK (polS policy room) l (n - 1)) true 0) else bestV zSd false 2
def BestPost (policy room : Int) (l : List Sd) (n : Nat) (w : World) (e : Ending) (w' : World) : Prop := e = .returned (bestR policy room l n) ∧ Gr w w'
theorem best_bad {policy room : Int} {l : List Sd} {n : Nat} (h : ¬ ∀ i, i < n → chkS room (l[i]?.getD (0, 0, 0)) = true) : bestR policy room l n = bestV zSd false 2 := if_neg h
theorem best_twice {policy room : Int} {l : List Sd} {n : Nat} (h : ∀ i, i < n → chkS room (l[i]?.getD (0, 0, 0)) = true) (h2 : twB l n = true) : bestR policy room l n = bestV zSd false 6 := by
  unfold bestR; rw [if_pos h, if_pos h2]
theorem best_none {policy room : Int} {l : List Sd} : bestR policy room l 0 = bestV zSd false 0 := by
  unfold bestR; rw [if_pos (by omega), if_neg (by simp [twB]), if_pos rfl]
theorem best_some {policy room : Int} {l : List Sd} {n : Nat} (h : ∀ i, i < n → chkS room (l[i]?.getD (0, 0, 0)) = true) (h2 : twB l n = false) (h3 : n ≠ 0) : bestR policy room l n = bestV (bestK (polS policy room) l (n - 1)) true 0 := by
  unfold bestR; rw [if_pos h, if_neg (by simp [h2]), if_neg h3]

theorem taken (l : List Sd) (k : Nat) (h : k < l.length) (S : Nat) (s2 s3 : Int) (e : ((S : Int), s2, s3) = l[k]?.getD (0, 0, 0)) (j : Int) :
    cntL (l.take (k + 1)) j = cntL (l.take k) j + if (S : Int) = j then 1 else 0 := by
  rw [take_snoc' l k h, cntL_snoc, ← e]

set_option maxHeartbeats 2000000 in
theorem Best_1 (room : Int) (hr : inB room 1 8192 = true) (b off n cap : Nat) (l : List Sd) (hl : l.length = n) (hn : n ≤ 1000000) (hnc : n ≤ cap) (hcap : cap ≤ maxLen) (w : World) (hs : SidesAt w b off l) (hb : b < w.heap.size) :
    Calls Try.prog 21 #[.int .i64 1, .slice (some ⟨b, off, none⟩) n cap, .int .i64 room] w (BestPost 1 room l n w) := by
  unfold maxLen at hcap
  have k1 := eqF1
  have k2 := eqF2
  have k3 := eqF3
  have HL := Lib.hid hl
  have HS := Lib.hid hs
  clear hl hs
  go_enter Try.func21, Try.ntmps21
  go_wp2_with (first
    | (go_at_call 26; refine (by_any _ _ _).mono ?_; rintro e w1 ⟨rfl, rfl⟩; simp only [byV, if_true])
    | (go_at_call 28; refine (in_int _ _ _ _).mono ?_; rintro e w1 ⟨rfl, rfl⟩))
  go_loopw [11, 30] (fun tw i wr => ∃ k : Nat, k ≤ n ∧ i = .int .i64 k ∧ tw = .bool (twB l k) ∧ BI w w.heap.size room (cntL (l.take k)) wr ∧ Hid (∀ i, i < k → chkS room (l[i]?.getD (0, 0, 0)) = true)) (fun _ i _ => n - (intOf i).toNat)
  case atStart =>
    refine ⟨0, by omega, rfl, rfl, ?_, Lib.hid (by omega)⟩
    refine ⟨by (repeat (first | (with_reducible exact Gr.refl _) | assumption | (with_reducible apply Gr.from_drew) | (with_reducible apply Gr.alloc) | (with_reducible apply Gr.drew) | (with_reducible refine Gr.trans ?_ (by assumption)) | (with_reducible refine Gr.setCell ?_ (by omega) _))), by simp, by simp [go_sem], fun j hj => ?_, fun j => by simp [go_sem], fun j hj => ?_, fun j => by simp [go_sem]⟩
    · have : cntL (l.take 0) j = 0 := by simp [cntL]
      rw [this]
      exact zerosN 32 ((w.alloc (.cells #[.int .i64 0, .int .i64 0, .int .i64 0] 23)).alloc (.cells #[.int .i64 room] 3)) _ _ j (by simp) hj
    · match j, hj with
      | 0, _ => exact ⟨.int .i64 0, by simp [go_sem]⟩
      | 1, _ => exact ⟨.int .i64 0, by simp [go_sem]⟩
      | 2, _ => exact ⟨.int .i64 0, by simp [go_sem]⟩
  case round =>
    obtain ⟨k, hk, rfl, rfl, hBI, hC⟩ := hrel
    by_cases hlt : k < n
    · obtain ⟨s, hsd⟩ : ∃ s, s = l[k]?.getD (0, 0, 0) := ⟨_, rfl⟩
      obtain ⟨s1, s2, s3⟩ := s
      have hx := HS.out k (by rw [HL.out]; exact hlt)
      rw [← hsd] at hx
      obtain ⟨x1, x2, x3⟩ := hx
      have y1 := (hBI.gr.cell _ (off + k * 3) hb).trans x1
      have y2 := (hBI.gr.cell _ (off + k * 3 + 1) hb).trans x2
      have y3 := (hBI.gr.cell _ (off + k * 3 + 2) hb).trans x3
      simp only at y1 y2 y3
      have HSD := Lib.hid hsd
      have HB := Lib.hid hBI
      have bz := hBI.sz
      clear x1 x2 x3 hsd hBI
      go_wp2_with fail
      refine (Check_any _ _ _ _ _).mono ?_
      rintro e w1 ⟨rfl, hg⟩
      have hg' := (Gr.alloc (Gr.refl wr) _).trans hg
      have HBI := Lib.hid (HB.out.grow hg')
      have z1 := (hg.cell wr.heap.size 0 (by simp)).trans (show _ = some (Value.int .i64 s1) by simp [go_sem])
      cases hck : chkB s1 s2 s3 room with
      | false =>
        have e0 := errOf_false hck
        have ⟨r0, hr0⟩ := HBI.out.res 0 (by decide)
        have ⟨r1, hr1⟩ := HBI.out.res 1 (by decide)
        have ⟨r2, hr2⟩ := HBI.out.res 2 (by decide)
        have rf := HBI.out.rfree
        have hno : ¬ ∀ i, i < n → chkS room (l[i]?.getD (0, 0, 0)) = true := fun h => by
          have := h k hlt
          rw [← HSD.out] at this
          simp [chkS, hck] at this
        have HNO := Lib.hid hno
        clear hno
        go_wp2
        refine bodyPost_ret (v := bestV zSd false 2) ?_ rfl ⟨?_, ?_⟩
        · simp [results, Try.results21, go_sem, hr0, hr1, hr2, bestV, zSd]
        · rw [best_bad HNO.out]
        · exact ((HBI.out.gr.setCell (by simp) _).setCell (by simp) _).setCell (by simp) _
      | true =>
        have e0 := errOf_true hck
        obtain ⟨_, _, p3, p4, _, _, _, _⟩ := chk_bd hck
        obtain ⟨S, rfl⟩ := Int.eq_ofNat_of_zero_le p3
        have hseen := HBI.out.seen S (by omega)
        have hfree := HBI.out.free S
        have hcb := cntL_bd (l.take k) S
        have hlen : ((l.take k).length : Int) ≤ k := by have := List.length_take_le k l; omega
        have HT := Lib.hid (taken l k (by rw [HL.out]; exact hlt) S s2 s3 HSD.out)
        have htw : twB l (k + 1) = (twB l k || decide (1 < cntL (l.take k) S + 1)) := by
          show (twB l k || decide (1 < cntL (l.take (k + 1)) (l[k]?.getD (0, 0, 0)).1)) = _
          rw [← HSD.out, HT.out, if_pos rfl]
        have HTW := Lib.hid htw
        have HCK : Hid (∀ i, i < k + 1 → chkS room (l[i]?.getD (0, 0, 0)) = true) := fun i hi => by
          by_cases hik : i = k
          · subst hik; rw [← HSD.out]; exact hck
          · exact hC.out i (by omega)
        have HBS := Lib.hid (HBI.out.step (c' := cntL (l.take (k + 1))) (Nat.le_refl _) S (by omega) (cntL (l.take k) S + 1) (by rw [HT.out, if_pos rfl]) (fun j _ hjs => by rw [HT.out, if_neg (by omega)]; omega))
        clear htw
        go_wp2
        all_goals
          go_roundw
          case rel => exact ⟨k + 1, by omega, by go_num, by rw [HTW.out]; simp_all, HBS.out, HCK⟩
          case measure => simp [intOf]; omega
    · obtain rfl : k = n := by omega
      have HB := Lib.hid hBI
      have ⟨r0, hr0⟩ := hBI.res 0 (by decide)
      have ⟨r1, hr1⟩ := hBI.res 1 (by decide)
      have ⟨r2, hr2⟩ := hBI.res 2 (by decide)
      have rf := hBI.rfree
      have hz := hBI.sz
      clear hBI
      cases htw : twB l k with
      | true =>
        have HTW := Lib.hid htw
        go_wp2
        refine bodyPost_ret (v := bestV zSd false 6) ?_ rfl ⟨?_, ?_⟩
        · simp [results, Try.results21, go_sem, hr0, hr1, hr2, bestV, zSd]
        · rw [best_twice hC.out HTW.out]
        · exact ((HB.out.gr.setCell (by simp) _).setCell (by simp) _).setCell (by simp) _
      | false =>
        have HTW := Lib.hid htw
        by_cases hk0 : k = 0
        · subst hk0
          go_wp2
          refine bodyPost_ret (v := bestV zSd false 0) ?_ rfl ⟨?_, ?_⟩
          · simp [results, Try.results21, go_sem, hr0, hr1, hr2, bestV, zSd]
          · rw [best_none]
          · exact ((HB.out.gr.setCell (by simp) _).setCell (by simp) _).setCell (by simp) _
        · obtain ⟨t, htd⟩ : ∃ t, t = l[0]?.getD (0, 0, 0) := ⟨_, rfl⟩
          obtain ⟨t1, t2, t3⟩ := t
          have hx := HS.out 0 (by rw [HL.out]; omega)
          rw [← htd] at hx
          obtain ⟨x1, x2, x3⟩ := hx
          have y1 := (HB.out.gr.cell _ (off + 0 * 3) hb).trans x1
          have y2 := (HB.out.gr.cell _ (off + 0 * 3 + 1) hb).trans x2
          have y3 := (HB.out.gr.cell _ (off + 0 * 3 + 2) hb).trans x3
          simp only [Nat.zero_mul, Nat.add_zero] at y1 y2 y3
          have HTD := Lib.hid htd
          clear x1 x2 x3 htd
          have hk1 : 1 ≤ k := by omega
          by_cases hcap1 : cap = 1
          · obtain rfl : k = 1 := by omega
            subst hcap1
            go_wp2
            go_loopw [66] (fun i w2 => i = .int .i64 0 ∧ BJ w w.heap.size room (cntL (l.take 1)) wr.heap.size (t1, t2, t3) w2) (fun _ _ => 0)
            case atStart => exact ⟨rfl, HB.out.grow (by (repeat (first | (with_reducible exact Gr.refl _) | assumption | (with_reducible apply Gr.from_drew) | (with_reducible apply Gr.alloc) | (with_reducible apply Gr.drew) | (with_reducible refine Gr.trans ?_ (by assumption)) | (with_reducible refine Gr.setCell ?_ (by omega) _)))), hz, by simp, by simp [go_sem], by simp [go_sem], by simp [go_sem], fun j => by simp [go_sem]⟩
            case round =>
              obtain ⟨rfl, hBJ⟩ := hrel
              have HJ := Lib.hid hBJ
              have ⟨r0, hr0⟩ := hBJ.bi.res 0 (by decide)
              have ⟨r1, hr1⟩ := hBJ.bi.res 1 (by decide)
              have ⟨r2, hr2⟩ := hBJ.bi.res 2 (by decide)
              have rf := hBJ.bi.rfree
              have d0 := hBJ.c0
              have d1 := hBJ.c1
              have d2 := hBJ.c2
              simp only at d0 d1 d2
              clear hBJ
              go_wp2
              refine bodyPost_ret (v := bestV (t1, t2, t3) true 0) ?_ rfl ⟨?_, ?_⟩
              · simp [results, Try.results21, go_sem, hr0, hr1, hr2, bestV]
              · rw [best_some hC.out HTW.out (by decide)]
                show _ = Ending.returned (bestV (l[0]?.getD (0, 0, 0)) true 0)
                rw [← HTD.out]
              · exact ((HJ.out.bi.gr.setCell (by simp) _).setCell (by simp) _).setCell (by simp) _
          · have hkb : ((k : Int) == 0) = false := by simpa using hk0
            go_wp2
            go_loopw [66] (fun i w2 => ∃ j : Nat, j + 1 ≤ k ∧ i = .int .i64 j ∧ BJ w w.heap.size room (cntL (l.take k)) wr.heap.size (bestK (polS 1 room) l j) w2) (fun i _ => k - (intOf i).toNat)
            case atStart => exact ⟨0, by omega, rfl, HB.out.grow (by (repeat (first | (with_reducible exact Gr.refl _) | assumption | (with_reducible apply Gr.from_drew) | (with_reducible apply Gr.alloc) | (with_reducible apply Gr.drew) | (with_reducible refine Gr.trans ?_ (by assumption)) | (with_reducible refine Gr.setCell ?_ (by omega) _)))), hz, by simp, by simp [go_sem, bestK, ← HTD.out], by simp [go_sem, bestK, ← HTD.out], by simp [go_sem, bestK, ← HTD.out], fun j => by simp [go_sem]⟩
            case round =>
              obtain ⟨j, hj, rfl, hBJ⟩ := hrel
              obtain ⟨q, hq⟩ : ∃ q, q = bestK (polS 1 room) l j := ⟨_, rfl⟩
              obtain ⟨q1, q2, q3⟩ := q
              rw [← hq] at hBJ
              have HQ := Lib.hid hq
              have HJ := Lib.hid hBJ
              have jz := hBJ.hi
              have jl := hBJ.lo
              have d0 := hBJ.c0
              have d1 := hBJ.c1
              have d2 := hBJ.c2
              simp only at d0 d1 d2
              clear hBJ hq y1 y2 y3
              by_cases hlt2 : j + 1 < k
              · obtain ⟨s, hsd⟩ : ∃ s, s = l[j + 1]?.getD (0, 0, 0) := ⟨_, rfl⟩
                obtain ⟨s1, s2, s3⟩ := s
                have hx := HS.out (j + 1) (by rw [HL.out]; exact hlt2)
                rw [← hsd, show off + (j + 1) * 3 = off + 3 + j * 3 by omega] at hx
                obtain ⟨x1, x2, x3⟩ := hx
                have y1 := (HJ.out.bi.gr.cell _ (off + 3 + j * 3) hb).trans x1
                have y2 := (HJ.out.bi.gr.cell _ (off + 3 + j * 3 + 1) hb).trans x2
                have y3 := (HJ.out.bi.gr.cell _ (off + 3 + j * 3 + 2) hb).trans x3
                simp only at y1 y2 y3
                have HSD := Lib.hid hsd
                clear x1 x2 x3 hsd
                have hlt3 : (j : Int) < k - 1 := by omega
                have hrm1 := ((Gr.alloc (Gr.refl wr) (.cells #[.int .i64 s1, .int .i64 s2, .int .i64 s3] 23)).cell _ 0 (show w.heap.size + 1 < wr.heap.size by omega)).trans HJ.out.bi.rm
                have HSTEP : Hid (bestK (polS 1 room) l (j + 1) = if greedy s1 s2 q1 q2 < 0 then (s1, s2, s3) else (q1, q2, q3)) := by
                  apply Lib.hid
                  simp only [bestK, ← HSD.out, ← HQ.out]
                  rfl
                go_wp2_with fail
                (go_at_call 13; refine (Greedy_any _ _ _ _ _ _ _).mono ?_; rintro e w2 ⟨rfl, hg2⟩)
                have hg3 := (Gr.alloc (Gr.refl wr) _).trans hg2
                have z1 := (hg2.cell wr.heap.size 0 (by simp)).trans (show _ = some (Value.int .i64 s1) by simp [go_sem])
                have z2 := (hg2.cell wr.heap.size 1 (by simp)).trans (show _ = some (Value.int .i64 s2) by simp [go_sem])
                have z3 := (hg2.cell wr.heap.size 2 (by simp)).trans (show _ = some (Value.int .i64 s3) by simp [go_sem])
                have HJ2 := Lib.hid (HJ.out.grow hg3)
                have e0 := HJ2.out.c0
                have e1 := HJ2.out.c1
                have e2 := HJ2.out.c2
                have ef := HJ2.out.fr
                simp only at e0 e1 e2
                clear hg2 hg3 hrm1 d0 d1 d2 y1 y2 y3
                by_cases hneg : greedy s1 s2 q1 q2 < 0
                · have HBK : Hid (bestK (polS 1 room) l (j + 1) = (s1, s2, s3)) := Lib.hid (by rw [HSTEP.out, if_pos hneg])
                  go_wp2
                  go_roundw
                  case rel => exact ⟨j + 1, by omega, by go_num, by rw [HBK.out]; exact HJ2.out.set (Nat.le_refl _)⟩
                  case measure => simp [intOf]; omega
                · have HBK : Hid (bestK (polS 1 room) l (j + 1) = (q1, q2, q3)) := Lib.hid (by rw [HSTEP.out, if_neg hneg])
                  go_wp2
                  go_roundw
                  case rel => exact ⟨j + 1, by omega, by go_num, by rw [HBK.out]; exact HJ2.out⟩
                  case measure => simp [intOf]; omega
              · have hjk : (j : Int) = k - 1 := by omega
                have HJK := Lib.hid (show k - 1 = j by omega)
                have ⟨r0, hr0⟩ := HJ.out.bi.res 0 (by decide)
                have ⟨r1, hr1⟩ := HJ.out.bi.res 1 (by decide)
                have ⟨r2, hr2⟩ := HJ.out.bi.res 2 (by decide)
                have rf := HJ.out.bi.rfree
                go_wp2
                refine bodyPost_ret (v := bestV (q1, q2, q3) true 0) ?_ rfl ⟨?_, ?_⟩
                · simp [results, Try.results21, go_sem, hr0, hr1, hr2, bestV]
                · rw [best_some hC.out HTW.out hk0, HJK.out, ← HQ.out]
                · exact ((HJ.out.bi.gr.setCell (by simp) _).setCell (by simp) _).setCell (by simp) _
set_option maxHeartbeats 2000000 in
theorem Best_2 (room : Int) (hr : inB room 1 8192 = true) (b off n cap : Nat) (l : List Sd) (hl : l.length = n) (hn : n ≤ 1000000) (hnc : n ≤ cap) (hcap : cap ≤ maxLen) (w : World) (hs : SidesAt w b off l) (hb : b < w.heap.size) :
    Calls Try.prog 21 #[.int .i64 2, .slice (some ⟨b, off, none⟩) n cap, .int .i64 room] w (BestPost 2 room l n w) := by
  unfold maxLen at hcap
  have k1 := eqF1
  have k2 := eqF2
  have k3 := eqF3
  have HL := Lib.hid hl
  have HS := Lib.hid hs
  clear hl hs
  go_enter Try.func21, Try.ntmps21
  go_wp2_with (first
    | (go_at_call 26; refine (by_any _ _ _).mono ?_; rintro e w1 ⟨rfl, rfl⟩; simp only [byV, if_true, if_neg (show ¬ (2 : Int) = 1 by decide)])
    | (go_at_call 28; refine (in_int _ _ _ _).mono ?_; rintro e w1 ⟨rfl, rfl⟩))
  go_loopw [11, 30] (fun tw i wr => ∃ k : Nat, k ≤ n ∧ i = .int .i64 k ∧ tw = .bool (twB l k) ∧ BI w w.heap.size room (cntL (l.take k)) wr ∧ Hid (∀ i, i < k → chkS room (l[i]?.getD (0, 0, 0)) = true)) (fun _ i _ => n - (intOf i).toNat)
  case atStart =>
    refine ⟨0, by omega, rfl, rfl, ?_, Lib.hid (by omega)⟩
    refine ⟨by (repeat (first | (with_reducible exact Gr.refl _) | assumption | (with_reducible apply Gr.from_drew) | (with_reducible apply Gr.alloc) | (with_reducible apply Gr.drew) | (with_reducible refine Gr.trans ?_ (by assumption)) | (with_reducible refine Gr.setCell ?_ (by omega) _))), by simp, by simp [go_sem], fun j hj => ?_, fun j => by simp [go_sem], fun j hj => ?_, fun j => by simp [go_sem]⟩
    · have : cntL (l.take 0) j = 0 := by simp [cntL]
      rw [this]
      exact zerosN 32 ((w.alloc (.cells #[.int .i64 0, .int .i64 0, .int .i64 0] 23)).alloc (.cells #[.int .i64 room] 3)) _ _ j (by simp) hj
    · match j, hj with
      | 0, _ => exact ⟨.int .i64 0, by simp [go_sem]⟩
      | 1, _ => exact ⟨.int .i64 0, by simp [go_sem]⟩
      | 2, _ => exact ⟨.int .i64 0, by simp [go_sem]⟩
  case round =>
    obtain ⟨k, hk, rfl, rfl, hBI, hC⟩ := hrel
    by_cases hlt : k < n
    · obtain ⟨s, hsd⟩ : ∃ s, s = l[k]?.getD (0, 0, 0) := ⟨_, rfl⟩
      obtain ⟨s1, s2, s3⟩ := s
      have hx := HS.out k (by rw [HL.out]; exact hlt)
      rw [← hsd] at hx
      obtain ⟨x1, x2, x3⟩ := hx
      have y1 := (hBI.gr.cell _ (off + k * 3) hb).trans x1
      have y2 := (hBI.gr.cell _ (off + k * 3 + 1) hb).trans x2
      have y3 := (hBI.gr.cell _ (off + k * 3 + 2) hb).trans x3
      simp only at y1 y2 y3
      have HSD := Lib.hid hsd
      have HB := Lib.hid hBI
      have bz := hBI.sz
      clear x1 x2 x3 hsd hBI
      go_wp2_with fail
      refine (Check_any _ _ _ _ _).mono ?_
      rintro e w1 ⟨rfl, hg⟩
      have hg' := (Gr.alloc (Gr.refl wr) _).trans hg
      have HBI := Lib.hid (HB.out.grow hg')
      have z1 := (hg.cell wr.heap.size 0 (by simp)).trans (show _ = some (Value.int .i64 s1) by simp [go_sem])
      cases hck : chkB s1 s2 s3 room with
      | false =>
        have e0 := errOf_false hck
        have ⟨r0, hr0⟩ := HBI.out.res 0 (by decide)
        have ⟨r1, hr1⟩ := HBI.out.res 1 (by decide)
        have ⟨r2, hr2⟩ := HBI.out.res 2 (by decide)
        have rf := HBI.out.rfree
        have hno : ¬ ∀ i, i < n → chkS room (l[i]?.getD (0, 0, 0)) = true := fun h => by
          have := h k hlt
          rw [← HSD.out] at this
          simp [chkS, hck] at this
        have HNO := Lib.hid hno
        clear hno
        go_wp2
        refine bodyPost_ret (v := bestV zSd false 2) ?_ rfl ⟨?_, ?_⟩
        · simp [results, Try.results21, go_sem, hr0, hr1, hr2, bestV, zSd]
        · rw [best_bad HNO.out]
        · exact ((HBI.out.gr.setCell (by simp) _).setCell (by simp) _).setCell (by simp) _
      | true =>
        have e0 := errOf_true hck
        obtain ⟨_, _, p3, p4, _, _, _, _⟩ := chk_bd hck
        obtain ⟨S, rfl⟩ := Int.eq_ofNat_of_zero_le p3
        have hseen := HBI.out.seen S (by omega)
        have hfree := HBI.out.free S
        have hcb := cntL_bd (l.take k) S
        have hlen : ((l.take k).length : Int) ≤ k := by have := List.length_take_le k l; omega
        have HT := Lib.hid (taken l k (by rw [HL.out]; exact hlt) S s2 s3 HSD.out)
        have htw : twB l (k + 1) = (twB l k || decide (1 < cntL (l.take k) S + 1)) := by
          show (twB l k || decide (1 < cntL (l.take (k + 1)) (l[k]?.getD (0, 0, 0)).1)) = _
          rw [← HSD.out, HT.out, if_pos rfl]
        have HTW := Lib.hid htw
        have HCK : Hid (∀ i, i < k + 1 → chkS room (l[i]?.getD (0, 0, 0)) = true) := fun i hi => by
          by_cases hik : i = k
          · subst hik; rw [← HSD.out]; exact hck
          · exact hC.out i (by omega)
        have HBS := Lib.hid (HBI.out.step (c' := cntL (l.take (k + 1))) (Nat.le_refl _) S (by omega) (cntL (l.take k) S + 1) (by rw [HT.out, if_pos rfl]) (fun j _ hjs => by rw [HT.out, if_neg (by omega)]; omega))
        clear htw
        go_wp2
        all_goals
          go_roundw
          case rel => exact ⟨k + 1, by omega, by go_num, by rw [HTW.out]; simp_all, HBS.out, HCK⟩
          case measure => simp [intOf]; omega
    · obtain rfl : k = n := by omega
      have HB := Lib.hid hBI
      have ⟨r0, hr0⟩ := hBI.res 0 (by decide)
      have ⟨r1, hr1⟩ := hBI.res 1 (by decide)
      have ⟨r2, hr2⟩ := hBI.res 2 (by decide)
      have rf := hBI.rfree
      have hz := hBI.sz
      clear hBI
      cases htw : twB l k with
      | true =>
        have HTW := Lib.hid htw
        go_wp2
        refine bodyPost_ret (v := bestV zSd false 6) ?_ rfl ⟨?_, ?_⟩
        · simp [results, Try.results21, go_sem, hr0, hr1, hr2, bestV, zSd]
        · rw [best_twice hC.out HTW.out]
        · exact ((HB.out.gr.setCell (by simp) _).setCell (by simp) _).setCell (by simp) _
      | false =>
        have HTW := Lib.hid htw
        by_cases hk0 : k = 0
        · subst hk0
          go_wp2
          refine bodyPost_ret (v := bestV zSd false 0) ?_ rfl ⟨?_, ?_⟩
          · simp [results, Try.results21, go_sem, hr0, hr1, hr2, bestV, zSd]
          · rw [best_none]
          · exact ((HB.out.gr.setCell (by simp) _).setCell (by simp) _).setCell (by simp) _
        · obtain ⟨t, htd⟩ : ∃ t, t = l[0]?.getD (0, 0, 0) := ⟨_, rfl⟩
          obtain ⟨t1, t2, t3⟩ := t
          have hx := HS.out 0 (by rw [HL.out]; omega)
          rw [← htd] at hx
          obtain ⟨x1, x2, x3⟩ := hx
          have y1 := (HB.out.gr.cell _ (off + 0 * 3) hb).trans x1
          have y2 := (HB.out.gr.cell _ (off + 0 * 3 + 1) hb).trans x2
          have y3 := (HB.out.gr.cell _ (off + 0 * 3 + 2) hb).trans x3
          simp only [Nat.zero_mul, Nat.add_zero] at y1 y2 y3
          have HTD := Lib.hid htd
          clear x1 x2 x3 htd
          have hk1 : 1 ≤ k := by omega
          by_cases hcap1 : cap = 1
          · obtain rfl : k = 1 := by omega
            subst hcap1
            go_wp2
            go_loopw [66] (fun i w2 => i = .int .i64 0 ∧ BJ w w.heap.size room (cntL (l.take 1)) wr.heap.size (t1, t2, t3) w2) (fun _ _ => 0)
            case atStart => exact ⟨rfl, HB.out.grow (by (repeat (first | (with_reducible exact Gr.refl _) | assumption | (with_reducible apply Gr.from_drew) | (with_reducible apply Gr.alloc) | (with_reducible apply Gr.drew) | (with_reducible refine Gr.trans ?_ (by assumption)) | (with_reducible refine Gr.setCell ?_ (by omega) _)))), hz, by simp, by simp [go_sem], by simp [go_sem], by simp [go_sem], fun j => by simp [go_sem]⟩
            case round =>
              obtain ⟨rfl, hBJ⟩ := hrel
              have HJ := Lib.hid hBJ
              have ⟨r0, hr0⟩ := hBJ.bi.res 0 (by decide)
              have ⟨r1, hr1⟩ := hBJ.bi.res 1 (by decide)
              have ⟨r2, hr2⟩ := hBJ.bi.res 2 (by decide)
              have rf := hBJ.bi.rfree
              have d0 := hBJ.c0
              have d1 := hBJ.c1
              have d2 := hBJ.c2
              simp only at d0 d1 d2
              clear hBJ
              go_wp2
              refine bodyPost_ret (v := bestV (t1, t2, t3) true 0) ?_ rfl ⟨?_, ?_⟩
              · simp [results, Try.results21, go_sem, hr0, hr1, hr2, bestV]
              · rw [best_some hC.out HTW.out (by decide)]
                show _ = Ending.returned (bestV (l[0]?.getD (0, 0, 0)) true 0)
                rw [← HTD.out]
              · exact ((HJ.out.bi.gr.setCell (by simp) _).setCell (by simp) _).setCell (by simp) _
          · have hkb : ((k : Int) == 0) = false := by simpa using hk0
            go_wp2
            go_loopw [66] (fun i w2 => ∃ j : Nat, j + 1 ≤ k ∧ i = .int .i64 j ∧ BJ w w.heap.size room (cntL (l.take k)) wr.heap.size (bestK (polS 2 room) l j) w2) (fun i _ => k - (intOf i).toNat)
            case atStart => exact ⟨0, by omega, rfl, HB.out.grow (by (repeat (first | (with_reducible exact Gr.refl _) | assumption | (with_reducible apply Gr.from_drew) | (with_reducible apply Gr.alloc) | (with_reducible apply Gr.drew) | (with_reducible refine Gr.trans ?_ (by assumption)) | (with_reducible refine Gr.setCell ?_ (by omega) _)))), hz, by simp, by simp [go_sem, bestK, ← HTD.out], by simp [go_sem, bestK, ← HTD.out], by simp [go_sem, bestK, ← HTD.out], fun j => by simp [go_sem]⟩
            case round =>
              obtain ⟨j, hj, rfl, hBJ⟩ := hrel
              obtain ⟨q, hq⟩ : ∃ q, q = bestK (polS 2 room) l j := ⟨_, rfl⟩
              obtain ⟨q1, q2, q3⟩ := q
              rw [← hq] at hBJ
              have HQ := Lib.hid hq
              have HJ := Lib.hid hBJ
              have jz := hBJ.hi
              have jl := hBJ.lo
              have d0 := hBJ.c0
              have d1 := hBJ.c1
              have d2 := hBJ.c2
              simp only at d0 d1 d2
              clear hBJ hq y1 y2 y3
              by_cases hlt2 : j + 1 < k
              · obtain ⟨s, hsd⟩ : ∃ s, s = l[j + 1]?.getD (0, 0, 0) := ⟨_, rfl⟩
                obtain ⟨s1, s2, s3⟩ := s
                have hx := HS.out (j + 1) (by rw [HL.out]; exact hlt2)
                rw [← hsd, show off + (j + 1) * 3 = off + 3 + j * 3 by omega] at hx
                obtain ⟨x1, x2, x3⟩ := hx
                have y1 := (HJ.out.bi.gr.cell _ (off + 3 + j * 3) hb).trans x1
                have y2 := (HJ.out.bi.gr.cell _ (off + 3 + j * 3 + 1) hb).trans x2
                have y3 := (HJ.out.bi.gr.cell _ (off + 3 + j * 3 + 2) hb).trans x3
                simp only at y1 y2 y3
                have HSD := Lib.hid hsd
                clear x1 x2 x3 hsd
                have hlt3 : (j : Int) < k - 1 := by omega
                have hrm1 := ((Gr.alloc (Gr.refl wr) (.cells #[.int .i64 s1, .int .i64 s2, .int .i64 s3] 23)).cell _ 0 (show w.heap.size + 1 < wr.heap.size by omega)).trans HJ.out.bi.rm
                have HSTEP : Hid (bestK (polS 2 room) l (j + 1) = if benefit s1 s2 s3 q1 q2 q3 room < 0 then (s1, s2, s3) else (q1, q2, q3)) := by
                  apply Lib.hid
                  simp only [bestK, ← HSD.out, ← HQ.out]
                  rfl
                go_wp2_with fail
                (go_at_call 39; refine (by1_any _ _ _ _ _ _ room _ _ hrm1).mono ?_; rintro e w2 ⟨rfl, hg2⟩)
                have hg3 := (Gr.alloc (Gr.refl wr) _).trans hg2
                have z1 := (hg2.cell wr.heap.size 0 (by simp)).trans (show _ = some (Value.int .i64 s1) by simp [go_sem])
                have z2 := (hg2.cell wr.heap.size 1 (by simp)).trans (show _ = some (Value.int .i64 s2) by simp [go_sem])
                have z3 := (hg2.cell wr.heap.size 2 (by simp)).trans (show _ = some (Value.int .i64 s3) by simp [go_sem])
                have HJ2 := Lib.hid (HJ.out.grow hg3)
                have e0 := HJ2.out.c0
                have e1 := HJ2.out.c1
                have e2 := HJ2.out.c2
                have ef := HJ2.out.fr
                simp only at e0 e1 e2
                clear hg2 hg3 hrm1 d0 d1 d2 y1 y2 y3
                by_cases hneg : benefit s1 s2 s3 q1 q2 q3 room < 0
                · have HBK : Hid (bestK (polS 2 room) l (j + 1) = (s1, s2, s3)) := Lib.hid (by rw [HSTEP.out, if_pos hneg])
                  go_wp2
                  go_roundw
                  case rel => exact ⟨j + 1, by omega, by go_num, by rw [HBK.out]; exact HJ2.out.set (Nat.le_refl _)⟩
                  case measure => simp [intOf]; omega
                · have HBK : Hid (bestK (polS 2 room) l (j + 1) = (q1, q2, q3)) := Lib.hid (by rw [HSTEP.out, if_neg hneg])
                  go_wp2
                  go_roundw
                  case rel => exact ⟨j + 1, by omega, by go_num, by rw [HBK.out]; exact HJ2.out⟩
                  case measure => simp [intOf]; omega
              · have hjk : (j : Int) = k - 1 := by omega
                have HJK := Lib.hid (show k - 1 = j by omega)
                have ⟨r0, hr0⟩ := HJ.out.bi.res 0 (by decide)
                have ⟨r1, hr1⟩ := HJ.out.bi.res 1 (by decide)
                have ⟨r2, hr2⟩ := HJ.out.bi.res 2 (by decide)
                have rf := HJ.out.bi.rfree
                go_wp2
                refine bodyPost_ret (v := bestV (q1, q2, q3) true 0) ?_ rfl ⟨?_, ?_⟩
                · simp [results, Try.results21, go_sem, hr0, hr1, hr2, bestV]
                · rw [best_some hC.out HTW.out hk0, HJK.out, ← HQ.out]
                · exact ((HJ.out.bi.gr.setCell (by simp) _).setCell (by simp) _).setCell (by simp) _
end Go.Proofs.Ytgpecjnnepocmaa
