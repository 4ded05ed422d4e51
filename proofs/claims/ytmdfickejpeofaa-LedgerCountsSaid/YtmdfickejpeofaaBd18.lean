/- drumlinref23's with, valid, Of, Sum, All over a reference index. -/
import Derived.Test.YtmdfickejpeofaaBd15
import Derived.Test.YtmdfickejpeofaaBd12
import Derived.Test.YtmdfickejpeofaaBd2
import Derived.Deep.Slices
import Derived.Deep.Fields
import Derived.ChangeSame
import Derived.ChangeArms
import Derived.OpenShut
import Derived.ShutString
import Derived.ChangeOld
import Derived.Lib.SmallJoins
import Derived.Test.YtmdfickejpeofaaBd6
import Derived.Test.YtmdfickejpeofaaBd17
import Derived.Laws.StructEq
set_option linter.unusedVariables false
set_option linter.unusedSimpArgs false
namespace Go.Proofs.Ytmdfickejpeofaa
open Go.RowKit Go.Shelf
attribute [local go_sem] OvM cell_ovm obj_ovm
attribute [local go_sem] Oper.semAt_some

/-- One more entry. -/
def wthB (X : IX) (b : By) (e : En) : By :=
  if classE X e = 0 then ⟨b.total + e.size, b.live + e.size, b.tombs, b.dead, max b.last e.seq⟩ else if classE X e = 1 then ⟨b.total + e.size, b.live, b.tombs + e.size, b.dead, max b.last e.seq⟩ else ⟨b.total + e.size, b.live, b.tombs, b.dead + e.size, max b.last e.seq⟩
def wthL (X : IX) (b : By) (l : List En) : By := l.foldl (wthB X) b
theorem wthL_snoc (X : IX) (b : By) (l : List En) (e : En) : wthL X b (l ++ [e]) = wthB X (wthL X b l) e := by simp [wthL]
def toBy (a : AccB) : By := ⟨a.l + a.t + a.d, a.l, a.t, a.d, a.last⟩
theorem wth_step (X : IX) (a : AccB) (e : En) : wthB X (toBy a) e = toBy (stepB X a e) := by
  unfold wthB stepB toBy
  (repeat' split) <;> simp only [By.mk.injEq, and_true, true_and] <;> omega
theorem wth_of (X : IX) (s : Int) : wthL X zBy (X.slot s) = byOf X s := by
  have h : ∀ (l : List En) (a : AccB), wthL X (toBy a) l = toBy (l.foldl (stepB X) a) := by
    intro l
    induction l with
    | nil => intro a; rfl
    | cons e l ih =>
      intro a
      show wthL X (wthB X (toBy a) e) l = _
      rw [wth_step, ih]
      rfl
  exact h (X.slot s) ⟨0, 0, 0, 0⟩
theorem addB_wth (X : IX) (b c : By) (e : En) : wthB X (addB b c) e = addB b (wthB X c e) := by
  obtain ⟨b1, b2, b3, b4, b5⟩ := b
  obtain ⟨c1, c2, c3, c4, c5⟩ := c
  unfold wthB addB
  by_cases h0 : classE X e = 0
  · simp only [if_pos h0]
    congr 1 <;> omega
  · by_cases h1 : classE X e = 1
    · simp only [if_neg h0, if_pos h1]
      congr 1 <;> omega
    · simp only [if_neg h0, if_neg h1]
      congr 1 <;> omega
theorem addB_wthL (X : IX) (b : By) : ∀ (l : List En) (c : By), wthL X (addB b c) l = addB b (wthL X c l)
  | [], c => rfl
  | e :: l, c => by
    show wthL X (wthB X (addB b c) e) l = addB b (wthL X (wthB X c e) l)
    rw [addB_wth, addB_wthL X b l]
theorem addB_zero {b : By} (h : 0 ≤ b.last) : addB b zBy = b := by
  unfold addB zBy
  obtain ⟨t, l, m, d, s⟩ := b
  simp only at h
  simp only [By.mk.injEq, Int.add_zero, true_and]
  omega
theorem wth_slot (X : IX) {b : By} (h : 0 ≤ b.last) (s : Int) : wthL X b (X.slot s) = addB b (byOf X s) := by
  rw [← wth_of, ← addB_wthL, addB_zero h]
theorem wth_le {X : IX} {b : By} {M : Int} {e : En} (h : ByLe b M) (hv : validE e = true) : ByLe (wthB X b e) (M + 8192) := by
  have hv := (valid_iff e).1 hv
  obtain ⟨h1, h2, h3, h4, h5⟩ := h
  unfold wthB
  (repeat' split) <;> exact ⟨by simp only; omega, by simp only; omega, by simp only; omega, by simp only; omega, by simp only; omega⟩
theorem wthL_le {X : IX} : ∀ (l : List En) {b : By} {M : Int}, ByLe b M → (∀ e ∈ l, validE e = true) → ByLe (wthL X b l) (M + 8192 * l.length)
  | [], b, M, h, _ => by simpa [wthL] using h
  | e :: l, b, M, h, hv => by
    have := wthL_le (X := X) l (wth_le (X := X) h (hv e (List.mem_cons_self ..))) (fun x hx => hv x (List.mem_cons_of_mem _ hx))
    rw [List.length_cons, show M + 8192 * ((l.length + 1 : Nat) : Int) = M + 8192 + 8192 * l.length by omega]
    exact this
theorem zBy_le : ByLe zBy 0 := ⟨by simp [zBy], by simp [zBy], by simp [zBy], by simp [zBy], by simp [zBy]⟩
theorem maxI (a b : Int) : (if a < b then b else a) = max a b := by split <;> omega
set_option maxRecDepth 40000 in
set_option maxHeartbeats 4000000 in
theorem rWith {w : World} {p : Option Addr} {X : IX} (h : RP w p X) (b : By) (e : En) (hb : ByLe b 1000000000) (hv : validE e = true) : Calls Try.prog 92 #[byV b, .pointer p, enV e] w fun r w' => r = .returned (byV (wthB X b e)) ∧ Gr w w' := by
  have HNW : Hid (∀ W, Gr w W → Calls Try.prog 107 #[.pointer p, .string e.key] W fun r w' => r = .returned (.tuple #[enV (newE (X.of e.key)), .bool (!(X.of e.key).isEmpty)]) ∧ Gr W w') := Lib.hid (fun W g => by rw [← newV_by]; exact rpNewest (h.gr g) e.key)
  have HCL : Hid (classE X e = if (newE (X.of e.key)).seq = e.seq then (if e.del = true then 1 else 0) else 2) := Lib.hid rfl
  have HWB : Hid (wthB X b e = if classE X e = 0 then ⟨b.total + e.size, b.live + e.size, b.tombs, b.dead, max b.last e.seq⟩ else if classE X e = 1 then ⟨b.total + e.size, b.live, b.tombs + e.size, b.dead, max b.last e.seq⟩ else ⟨b.total + e.size, b.live, b.tombs, b.dead + e.size, max b.last e.seq⟩) := Lib.hid rfl
  have hv := (valid_iff e).1 hv
  obtain ⟨_, _, hq, _, hz0, _, hz1, _⟩ := hv
  obtain ⟨⟨t0, t1⟩, ⟨l0, l1⟩, ⟨m0, m1⟩, ⟨d0, d1⟩, s0, s1⟩ := hb
  generalize wthB X b e = V at *
  generalize classE X e = K at *
  obtain ⟨B, hB⟩ : ∃ B : Bool, B = !(X.of e.key).isEmpty := ⟨_, rfl⟩
  rw [← hB] at HNW
  clear hB
  generalize newE (X.of e.key) = y at *
  clear h
  obtain ⟨bt, bl, bm, bd, bs⟩ := b
  obtain ⟨e0, e1, e2, e3, e4, e5⟩ := e
  obtain ⟨y0, y1, y2, y3, y4, y5⟩ := y
  simp only [enV, byV] at *
  have hz2 : 0 ≤ e5 := by omega
  clear hz0
  obtain ⟨b3, hb3⟩ : ∃ q, q = w.heap.size := ⟨_, rfl⟩
  obtain ⟨w1, hw1⟩ : ∃ x, x = ((w.alloc (.cells #[.int .i64 bt, .int .i64 bl, .int .i64 bm, .int .i64 bd, .int .i64 bs] 59)).alloc (.cells #[.int .i64 e0, .string e1, .bool e2, .int .i64 e3, .int .i64 e4, .int .i64 e5] 53)).alloc (.cells #[.int .i64 0, .int .i64 0, .int .i64 0, .int .i64 0, .int .i64 0] 59) := ⟨_, rfl⟩
  have HX : Hid (∀ W, Gr w1 W → W.heap[b3]? = some (.cells #[.int .i64 bt, .int .i64 bl, .int .i64 bm, .int .i64 bd, .int .i64 bs] 59) ∧ W.heap[b3 + 1]? = some (.cells #[.int .i64 e0, .string e1, .bool e2, .int .i64 e3, .int .i64 e4, .int .i64 e5] 53) ∧ W.heap[b3 + 1 + 1]? = some (.cells #[.int .i64 0, .int .i64 0, .int .i64 0, .int .i64 0, .int .i64 0] 59)) := Lib.hid (fun W g => by
    refine ⟨g.blk ?_, g.blk ?_, g.blk ?_⟩
    · rw [hw1, hb3]; exact blkOld (blkOld (blkNew _ _))
    · rw [hw1, hb3]
      refine blkOld ?_
      have := blkNew (w.alloc (.cells #[.int .i64 bt, .int .i64 bl, .int .i64 bm, .int .i64 bd, .int .i64 bs] 59)) (.cells #[.int .i64 e0, .string e1, .bool e2, .int .i64 e3, .int .i64 e4, .int .i64 e5] 53)
      rwa [World.size_alloc] at this
    · rw [hw1, hb3]
      have := blkNew ((w.alloc (.cells #[.int .i64 bt, .int .i64 bl, .int .i64 bm, .int .i64 bd, .int .i64 bs] 59)).alloc (.cells #[.int .i64 e0, .string e1, .bool e2, .int .i64 e3, .int .i64 e4, .int .i64 e5] 53)) (.cells #[.int .i64 0, .int .i64 0, .int .i64 0, .int .i64 0, .int .i64 0] 59)
      rwa [World.size_alloc, World.size_alloc] at this)
  have HG1 : Hid (Gr w w1) := Lib.hid (by rw [hw1]; exact (((Gr.refl w).alloc _).alloc _).alloc _)
  have hle : w.heap.size ≤ b3 := by omega
  go_enter Try.func92, Try.ntmps92
  go_upto_region 1 with fail
  (try simp only [World.size_alloc])
  rw [← hw1, ← hb3]
  clear hw1 hb3
  have q5 := (cellsOf (HX.out _ (Gr.refl _)).2.1).1
  have q51 := (q5 1).trans (show _ = some (Value.string e1) from rfl)
  clear q5
  go_upto_region 2 with (first
    | (go_at_call 107; refine Calls.mono (HNW.out _ HG1.out) ?_; rintro r w2 ⟨rfl, hg⟩; have HG2 := Lib.hid hg; clear hg q51)
    | fail)
  obtain ⟨b7, hb7⟩ : ∃ q, q = w2.heap.size := ⟨_, rfl⟩
  obtain ⟨w3, hw3⟩ : ∃ x, x = w2.alloc (.cells #[.int .i64 y0, .string y1, .bool y2, .int .i64 y3, .int .i64 y4, .int .i64 y5] 53) := ⟨_, rfl⟩
  have HX7 : Hid (w3.heap[b7]? = some (.cells #[.int .i64 y0, .string y1, .bool y2, .int .i64 y3, .int .i64 y4, .int .i64 y5] 53)) := Lib.hid (by rw [hb7, hw3]; exact blkNew _ _)
  have HG3 : Hid (Gr w1 w3) := Lib.hid (by rw [hw3]; exact HG2.out.alloc _)
  rw [← hb7, ← hw3]
  have n37 : b7 ≠ b3 := by
    have := blkLt (HX.out _ HG2.out).1
    omega
  have n57 : b7 ≠ b3 + 1 := by
    have := blkLt (HX.out _ HG2.out).2.1
    omega
  have n67 : b7 ≠ b3 + 1 + 1 := by
    have := blkLt (HX.out _ HG2.out).2.2
    omega
  clear hb7 hw3
  obtain ⟨r1, r2, r3⟩ := HX.out _ HG3.out
  have HR := Lib.hid (And.intro r1 (And.intro r2 r3))
  obtain ⟨g3, f3⟩ := cellsOf r1
  obtain ⟨g5, f5⟩ := cellsOf r2
  obtain ⟨g6, f6⟩ := cellsOf r3
  have g7 := (cellsOf HX7.out).1
  clear r1 r2 r3
  by_cases hy : y0 = e0
  · have hyb : (y0 != e0) = false := by simp [hy]
    cases e2 with
    | true =>
      have HV : Hid (V = ⟨bt + e5, bl, bm + e5, bd, max bs e0⟩) := Lib.hid (by rw [HWB.out, HCL.out, if_pos hy, if_pos rfl, if_neg (by decide), if_pos rfl])
      clear hy
      repeat (first | go_values | go_skip | go_guarded | go_step | go_upon)
      have hm : ((((w3.setCell ⟨b3, 0, none⟩ (.int .i64 (bt + e5))).setCell ⟨b3, 4, none⟩ (.int .i64 (if bs < e0 then e0 else bs))).setCell ⟨b3, 2, none⟩ (.int .i64 (bm + e5)))).heap[b3 + 1 + 1]? = some (.cells #[.int .i64 0, .int .i64 0, .int .i64 0, .int .i64 0, .int .i64 0] 59) := ((((Mdh.refl (fun k => k = b3) w3).setCell (p := ⟨b3, 0, none⟩) rfl _).setCell (p := ⟨b3, 4, none⟩) rfl _).setCell (p := ⟨b3, 2, none⟩) rfl _).blk HR.out.2.2 (by omega)
      have hb6 := blk5 hm (.int .i64 (bt + e5)) (.int .i64 (bl)) (.int .i64 (bm + e5)) (.int .i64 (bd)) (.int .i64 (if bs < e0 then e0 else bs))
      obtain ⟨d6, _⟩ := cellsOf hb6
      simp only [maxI] at d6
      refine bodyPost_ret (v := byV V) ?_ rfl ⟨rfl, ?_⟩
      · simp [results, Try.results92, go_sem, d6, HV.out, byV, maxI]
      · exact ((((((((HG1.out.trans HG3.out).setCell (p := ⟨b3, 0, none⟩) hle _).setCell (p := ⟨b3, 4, none⟩) hle _).setCell (p := ⟨b3, 2, none⟩) hle _).setCell (p := ⟨b3 + 1 + 1, 0, none⟩) (by show w.heap.size ≤ b3 + 1 + 1; omega) _).setCell (p := ⟨b3 + 1 + 1, 1, none⟩) (by show w.heap.size ≤ b3 + 1 + 1; omega) _).setCell (p := ⟨b3 + 1 + 1, 2, none⟩) (by show w.heap.size ≤ b3 + 1 + 1; omega) _).setCell (p := ⟨b3 + 1 + 1, 3, none⟩) (by show w.heap.size ≤ b3 + 1 + 1; omega) _).setCell (p := ⟨b3 + 1 + 1, 4, none⟩) (by show w.heap.size ≤ b3 + 1 + 1; omega) _
    | false =>
      have HV : Hid (V = ⟨bt + e5, bl + e5, bm, bd, max bs e0⟩) := Lib.hid (by rw [HWB.out, HCL.out, if_pos hy, if_neg Bool.false_ne_true, if_pos rfl])
      clear hy
      repeat (first | go_values | go_skip | go_guarded | go_step | go_upon)
      have hm : ((((w3.setCell ⟨b3, 0, none⟩ (.int .i64 (bt + e5))).setCell ⟨b3, 4, none⟩ (.int .i64 (if bs < e0 then e0 else bs))).setCell ⟨b3, 1, none⟩ (.int .i64 (bl + e5)))).heap[b3 + 1 + 1]? = some (.cells #[.int .i64 0, .int .i64 0, .int .i64 0, .int .i64 0, .int .i64 0] 59) := ((((Mdh.refl (fun k => k = b3) w3).setCell (p := ⟨b3, 0, none⟩) rfl _).setCell (p := ⟨b3, 4, none⟩) rfl _).setCell (p := ⟨b3, 1, none⟩) rfl _).blk HR.out.2.2 (by omega)
      have hb6 := blk5 hm (.int .i64 (bt + e5)) (.int .i64 (bl + e5)) (.int .i64 (bm)) (.int .i64 (bd)) (.int .i64 (if bs < e0 then e0 else bs))
      obtain ⟨d6, _⟩ := cellsOf hb6
      simp only [maxI] at d6
      refine bodyPost_ret (v := byV V) ?_ rfl ⟨rfl, ?_⟩
      · simp [results, Try.results92, go_sem, d6, HV.out, byV, maxI]
      · exact ((((((((HG1.out.trans HG3.out).setCell (p := ⟨b3, 0, none⟩) hle _).setCell (p := ⟨b3, 4, none⟩) hle _).setCell (p := ⟨b3, 1, none⟩) hle _).setCell (p := ⟨b3 + 1 + 1, 0, none⟩) (by show w.heap.size ≤ b3 + 1 + 1; omega) _).setCell (p := ⟨b3 + 1 + 1, 1, none⟩) (by show w.heap.size ≤ b3 + 1 + 1; omega) _).setCell (p := ⟨b3 + 1 + 1, 2, none⟩) (by show w.heap.size ≤ b3 + 1 + 1; omega) _).setCell (p := ⟨b3 + 1 + 1, 3, none⟩) (by show w.heap.size ≤ b3 + 1 + 1; omega) _).setCell (p := ⟨b3 + 1 + 1, 4, none⟩) (by show w.heap.size ≤ b3 + 1 + 1; omega) _
  · have hyb : (y0 != e0) = true := by simp [hy]
    have HV : Hid (V = ⟨bt + e5, bl, bm, bd + e5, max bs e0⟩) := Lib.hid (by rw [HWB.out, HCL.out, if_neg hy, if_neg (by decide), if_neg (by decide)])
    clear hy
    repeat (first | go_values | go_skip | go_guarded | go_step | go_upon)
    have hm : ((((w3.setCell ⟨b3, 0, none⟩ (.int .i64 (bt + e5))).setCell ⟨b3, 4, none⟩ (.int .i64 (if bs < e0 then e0 else bs))).setCell ⟨b3, 3, none⟩ (.int .i64 (bd + e5)))).heap[b3 + 1 + 1]? = some (.cells #[.int .i64 0, .int .i64 0, .int .i64 0, .int .i64 0, .int .i64 0] 59) := ((((Mdh.refl (fun k => k = b3) w3).setCell (p := ⟨b3, 0, none⟩) rfl _).setCell (p := ⟨b3, 4, none⟩) rfl _).setCell (p := ⟨b3, 3, none⟩) rfl _).blk HR.out.2.2 (by omega)
    have hb6 := blk5 hm (.int .i64 (bt + e5)) (.int .i64 (bl)) (.int .i64 (bm)) (.int .i64 (bd + e5)) (.int .i64 (if bs < e0 then e0 else bs))
    obtain ⟨d6, _⟩ := cellsOf hb6
    simp only [maxI] at d6
    refine bodyPost_ret (v := byV V) ?_ rfl ⟨rfl, ?_⟩
    · simp [results, Try.results92, go_sem, d6, HV.out, byV, maxI]
    · exact ((((((((HG1.out.trans HG3.out).setCell (p := ⟨b3, 0, none⟩) hle _).setCell (p := ⟨b3, 4, none⟩) hle _).setCell (p := ⟨b3, 3, none⟩) hle _).setCell (p := ⟨b3 + 1 + 1, 0, none⟩) (by show w.heap.size ≤ b3 + 1 + 1; omega) _).setCell (p := ⟨b3 + 1 + 1, 1, none⟩) (by show w.heap.size ≤ b3 + 1 + 1; omega) _).setCell (p := ⟨b3 + 1 + 1, 2, none⟩) (by show w.heap.size ≤ b3 + 1 + 1; omega) _).setCell (p := ⟨b3 + 1 + 1, 3, none⟩) (by show w.heap.size ≤ b3 + 1 + 1; omega) _).setCell (p := ⟨b3 + 1 + 1, 4, none⟩) (by show w.heap.size ≤ b3 + 1 + 1; omega) _
end Go.Proofs.Ytmdfickejpeofaa

/- drumlinref23's valid, Of and Sum over a reference index. Printed by rlq.py. -/
set_option linter.unusedVariables false
set_option linter.unusedSimpArgs false
namespace Go.Proofs.Ytmdfickejpeofaa
open Go.RowKit Go.Shelf
attribute [local go_sem] OvM cell_ovm obj_ovm
attribute [local go_sem] Oper.semAt_some

abbrev byO (b : By) : Obj := .cells #[.int .i64 b.total, .int .i64 b.live, .int .i64 b.tombs, .int .i64 b.dead, .int .i64 b.last] 59
theorem rValid23 {w : World} {p : Option Addr} {X : IX} (h : RP w p X) : Calls Try.prog 89 #[.pointer p] w fun e w' => e = .returned (.bool (decide (X.slots.length ≠ 0))) ∧ w = w' := by
  have HS := Lib.hid (rpSlots h)
  rcases h with ⟨rfl, rfl⟩ | ⟨rb, rfl, h⟩
  · go_enter Try.func89, Try.ntmps89
    go_wp2
    go_ret
    exact ⟨rfl, rfl⟩
  · have hN := h.pos
    have hz : decide (X.slots.length ≠ 0) = true := decide_eq_true (by omega)
    rw [hz]
    clear h hz
    generalize X.slots.length = n at *
    go_enter Try.func89, Try.ntmps89
    go_wp2_with (go_at_call 90; refine Calls.mono HS.out ?_; rintro e w1 ⟨rfl, rfl⟩)
    go_ret
    exact ⟨ret_bool (decide_eq_true (by omega)), rfl⟩
set_option maxRecDepth 40000 in
set_option maxHeartbeats 8000000 in
theorem rOf23 {w : World} {p : Option Addr} {X : IX} (h : RP w p X) (s : Int) : Calls Try.prog 23 #[.pointer p, .int .i64 s] w fun e w' => e = .returned (.tuple #[byV (ofL X s).1, .int .i64 (ofL X s).2]) ∧ Gr w w' := by
  have HOF : Hid (ofL X s = if X.slots.length = 0 then (zBy, 1) else if s < 0 ∨ (X.slots.length : Int) ≤ s then (zBy, 3) else (byOf X s, 0)) := Lib.hid rfl
  have HRP := Lib.hid h
  have HVA := Lib.hid (fun W (g : Gr w W) => rValid23 (h.gr g))
  have HSL := Lib.hid (fun W (g : Gr w W) => rpSlots (h.gr g))
  have HST : Hid (∀ W, Gr w W → Calls Try.prog 91 #[.pointer p, .int .i64 s] W (fun e w' => ∃ v, e = .returned v ∧ Nw W w' 53 6 v (X.slot s).length (rowE (X.slot s)) ∧ Gr W w')) := Lib.hid (fun W g => rpSlot (h.gr g) s)
  have hsl := h.ok.slot_le s
  have HVL := Lib.hid (fun e he => ((h.ok.slotOk s).e e he).2)
  have HWS := Lib.hid (wth_of X s)
  clear h
  obtain ⟨w0, hw0⟩ : ∃ y, y = w.alloc (.cells #[.int .i64 0, .int .i64 0, .int .i64 0, .int .i64 0, .int .i64 0] 59) := ⟨_, rfl⟩
  obtain ⟨b4, hb4⟩ : ∃ q, q = w.heap.size := ⟨_, rfl⟩
  have HG0 : Hid (Gr w w0) := Lib.hid (by rw [hw0]; exact (Gr.refl w).alloc _)
  have HX0 : Hid (w0.heap[b4]? = some (.cells #[.int .i64 0, .int .i64 0, .int .i64 0, .int .i64 0, .int .i64 0] 59)) := Lib.hid (by rw [hw0, hb4]; exact blkNew _ _)
  have HBW : Hid (w.heap.size ≤ b4) := Lib.hid (Nat.le_of_eq hb4.symm)
  obtain ⟨V, hV⟩ : ∃ V, V = Value.tuple #[byV (ofL X s).1, .int .i64 (ofL X s).2] := ⟨_, rfl⟩
  have HV := Lib.hid hV
  rw [← hV]
  clear hV
  generalize X.slots.length = n at *
  by_cases hn : n = 0
  · have HV1 : Hid (V = .tuple #[.agg #[.int .i64 0, .int .i64 0, .int .i64 0, .int .i64 0, .int .i64 0], .int .i64 1]) := Lib.hid (by rw [HV.out, HOF.out, if_pos hn]; rfl)
    subst hn
    go_enter Try.func23, Try.ntmps23
    go_upto_region 1 with fail
    rw [← hw0, ← hb4]
    clear hw0 hb4
    go_upto_region 2 with (first | (go_at_call 89; refine Calls.mono (HVA.out _ HG0.out) ?_; rintro e w1 ⟨rfl, rfl⟩) | fail)
    obtain ⟨d4, f4⟩ := cellsOf HX0.out
    repeat (first | go_values | go_skip | go_guarded | go_step | go_upon)
    have hb4 := blk5 HX0.out (.int .i64 zBy.total) (.int .i64 zBy.live) (.int .i64 zBy.tombs) (.int .i64 zBy.dead) (.int .i64 zBy.last)
    obtain ⟨d4', _⟩ := cellsOf hb4
    refine bodyPost_ret (v := V) ?_ rfl ⟨rfl, HG0.out.cell5 HBW.out _ _ _ _ _⟩
    (try simp only [zBy] at d4')
    simp [results, Try.results23, go_sem, d4', HV1.out]
  · have hnz : decide (n ≠ 0) = true := decide_eq_true hn
    rw [hnz] at HVA
    by_cases hb : s < 0 ∨ (n : Int) ≤ s
    · have HV1 : Hid (V = .tuple #[.agg #[.int .i64 0, .int .i64 0, .int .i64 0, .int .i64 0, .int .i64 0], .int .i64 3]) := Lib.hid (by rw [HV.out, HOF.out, if_neg hn, if_pos hb]; rfl)
      by_cases hs0 : s < 0
      · clear hn hb hnz
        go_enter Try.func23, Try.ntmps23
        go_upto_region 1 with fail
        rw [← hw0, ← hb4]
        clear hw0 hb4
        go_upto_region 4 with (first | (go_at_call 89; refine Calls.mono (HVA.out _ HG0.out) ?_; rintro e w1 ⟨rfl, rfl⟩) | (go_at_call 90; refine Calls.mono (HSL.out _ HG0.out) ?_; rintro e w1 ⟨rfl, rfl⟩) | fail)
        obtain ⟨d4, f4⟩ := cellsOf HX0.out
        repeat (first | go_values | go_skip | go_guarded | go_step | go_upon)
        have hb4 := blk5 HX0.out (.int .i64 zBy.total) (.int .i64 zBy.live) (.int .i64 zBy.tombs) (.int .i64 zBy.dead) (.int .i64 zBy.last)
        obtain ⟨d4', _⟩ := cellsOf hb4
        refine bodyPost_ret (v := V) ?_ rfl ⟨rfl, HG0.out.cell5 HBW.out _ _ _ _ _⟩
        (try simp only [zBy] at d4')
        simp [results, Try.results23, go_sem, d4', HV1.out]
      · have hs1 : (n : Int) ≤ s := by omega
        clear hn hb hnz
        go_enter Try.func23, Try.ntmps23
        go_upto_region 1 with fail
        rw [← hw0, ← hb4]
        clear hw0 hb4
        go_upto_region 4 with (first | (go_at_call 89; refine Calls.mono (HVA.out _ HG0.out) ?_; rintro e w1 ⟨rfl, rfl⟩) | (go_at_call 90; refine Calls.mono (HSL.out _ HG0.out) ?_; rintro e w1 ⟨rfl, rfl⟩) | fail)
        obtain ⟨d4, f4⟩ := cellsOf HX0.out
        repeat (first | go_values | go_skip | go_guarded | go_step | go_upon)
        have hb4 := blk5 HX0.out (.int .i64 zBy.total) (.int .i64 zBy.live) (.int .i64 zBy.tombs) (.int .i64 zBy.dead) (.int .i64 zBy.last)
        obtain ⟨d4', _⟩ := cellsOf hb4
        refine bodyPost_ret (v := V) ?_ rfl ⟨rfl, HG0.out.cell5 HBW.out _ _ _ _ _⟩
        (try simp only [zBy] at d4')
        simp [results, Try.results23, go_sem, d4', HV1.out]
    · have hs0 : ¬ s < 0 := by omega
      have hs1 : ¬ (n : Int) ≤ s := by omega
      have HV1 : Hid (V = .tuple #[byV (byOf X s), .int .i64 0]) := Lib.hid (by rw [HV.out, HOF.out, if_neg hn, if_neg hb])
      rw [← HWS.out] at HV1
      clear hn hb hnz HOF HV HWS
      go_enter Try.func23, Try.ntmps23
      go_upto_region 1 with fail
      rw [← hw0, ← hb4]
      clear hw0 hb4
      go_upto_region 6 with (first | (go_at_call 89; refine Calls.mono (HVA.out _ HG0.out) ?_; rintro e w1 ⟨rfl, rfl⟩) | (go_at_call 90; refine Calls.mono (HSL.out _ HG0.out) ?_; rintro e w1 ⟨rfl, rfl⟩) | fail)
      obtain ⟨b6, hb6⟩ : ∃ q, q = w0.heap.size := ⟨_, rfl⟩
      obtain ⟨w5, hw5⟩ : ∃ y, y = w0.alloc (.cells #[.int .i64 0, .int .i64 0, .int .i64 0, .int .i64 0, .int .i64 0] 59) := ⟨_, rfl⟩
      have HX5 : Hid (Gr w w5 ∧ w5.heap[b4]? = some (.cells #[.int .i64 0, .int .i64 0, .int .i64 0, .int .i64 0, .int .i64 0] 59) ∧ w5.heap[b6]? = some (.cells #[.int .i64 0, .int .i64 0, .int .i64 0, .int .i64 0, .int .i64 0] 59)) := Lib.hid (by rw [hw5, hb6]; exact ⟨HG0.out.alloc _, blkOld HX0.out, blkNew _ _⟩)
      have n46 : b4 ≠ b6 := by
        have := blkLt HX0.out
        omega
      have HBW6 : Hid (w.heap.size ≤ b6) := Lib.hid (by have := HG0.out.sz; omega)
      rw [← hw5, ← hb6]
      clear hw5 hb6
      go_wp2_with fail
      refine Calls.mono (HST.out _ HX5.out.1) ?_
      rintro r w6 ⟨v, rfl, hn, hg⟩
      have HN6 := Lib.hid hn
      have HX6 : Hid (Gr w w6 ∧ w6.heap[b4]? = some (.cells #[.int .i64 0, .int .i64 0, .int .i64 0, .int .i64 0, .int .i64 0] 59) ∧ w6.heap[b6]? = some (.cells #[.int .i64 0, .int .i64 0, .int .i64 0, .int .i64 0, .int .i64 0] 59)) := Lib.hid ⟨HX5.out.1.trans hg, hg.blk HX5.out.2.1, hg.blk HX5.out.2.2⟩
      clear hn hg
      generalize X.slot s = L at *
      obtain ⟨av, cv, rfl, _, hcv, _⟩ := ownE_at HN6.out.own
      unfold maxLen at hcv
      have HNE : Hid ((Value.slice av L.length cv).ownBlock ≠ some b6) := Lib.hid (fun h => by have h1 := HN6.out.new b6 h; have h2 := blkLt HX5.out.2.2; omega)
      obtain ⟨B0, hB0⟩ : ∃ B0, B0 = zBy := ⟨_, rfl⟩
      have HB0 : Hid (ByLe B0 0) := Lib.hid (by rw [hB0]; exact zBy_le)
      rw [← hB0] at HV1
      have HSTART : Hid (Gr w w6 ∧ w6.heap[b4]? = some (.cells #[.int .i64 0, .int .i64 0, .int .i64 0, .int .i64 0, .int .i64 0] 59) ∧ w6.heap[b6]? = some (byO (wthL X B0 (L.take 0))) ∧ Own w6 53 6 (.slice av L.length cv) L.length (rowE L)) := Lib.hid ⟨HX6.out.1, HX6.out.2.1, by rw [hB0]; exact HX6.out.2.2, HN6.out.own⟩
      clear hB0
      go_wp2_with fail
      go_loopw [8] (fun t8 wx => ∃ i : Nat, i ≤ L.length ∧ t8 = .int .i64 i ∧ Hid (Gr w wx ∧ wx.heap[b4]? = some (.cells #[.int .i64 0, .int .i64 0, .int .i64 0, .int .i64 0, .int .i64 0] 59) ∧ wx.heap[b6]? = some (byO (wthL X B0 (L.take i))) ∧ Own wx 53 6 (.slice av L.length cv) L.length (rowE L))) (fun t8 _ => L.length - (intOf t8).toNat)
      case atStart => exact ⟨0, by omega, by go_num, HSTART⟩
      case round =>
        obtain ⟨i, hil, rfl, HR⟩ := hrel
        by_cases hlt : i < L.length
        · have hlt' : (i : Int) < L.length := by omega
          obtain ⟨x, hx⟩ : ∃ x, L[i]? = some x := ⟨_, List.getElem?_eq_getElem hlt⟩
          have hvx := HVL.out x (List.mem_of_getElem? hx)
          have HTK : Hid (wthL X B0 (L.take (i + 1)) = wthB X (wthL X B0 (L.take i)) x) := Lib.hid (by rw [List.take_add_one, hx]; exact wthL_snoc X B0 _ x)
          have hle := wthL_le (X := X) (L.take i) HB0.out (fun e he => HVL.out e (List.mem_of_mem_take he))
          have hlen : (L.take i).length ≤ 512 := by rw [List.length_take]; omega
          have HWI := Lib.hid (fun W (g : Gr w W) => rWith (HRP.out.gr g) (wthL X B0 (L.take i)) x ⟨⟨hle.t.1, by have := hle.t.2; omega⟩, ⟨hle.l.1, by have := hle.l.2; omega⟩, ⟨hle.m.1, by have := hle.m.2; omega⟩, ⟨hle.d.1, by have := hle.d.2; omega⟩, hle.s⟩ hvx)
          have HB6 := Lib.hid HR.out.2.2.1
          generalize wthB X (wthL X B0 (L.take i)) x = b' at *
          generalize wthL X B0 (L.take i) = b at *
          obtain ⟨g0, hg0e, hg0, y0, y1, y2, y3, y4, y5⟩ := ent6 HR.out.2.2.2 hx
          have HGN : Hid (∀ W, Gr wr W → W.heap[b6]? = some (byO b)) := Lib.hid (fun W g => g.blk HB6.out)
          obtain ⟨x0, x1, x2, x3, x4, x5⟩ := x
          obtain ⟨q0, q1, q2, q3, q4⟩ := b
          simp only [enV, byV] at HWI
          simp only at y0 y1 y2 y3 y4 y5
          simp only [byO] at HGN
          have d6 := (cellsOf (HGN.out _ (Gr.refl _))).1
          have lb6 := blkLt (HGN.out _ (Gr.refl _))
          have hne6 : g0 ≠ b6 := fun e => HNE.out (by rw [hg0e, e]; rfl)
          subst hg0e
          clear hx hle hvx
          go_wp2_with fail
          refine wp_region_flo (fun k => k = b6) [] [32] (by kernel_rfl) (by kernel_rfl) (fun k hk => by subst hk; exact lb6) ?_
          refine flo_eff rfl rfl rfl rfl (fun K hK => ?_)
          go_wp2
          refine ⟨by exact Mdh.refl _ _, ?_⟩
          refine flo_seg 5 rfl ?_
          simp only [List.take_succ_cons, List.take_zero, List.drop_succ_cons, List.drop_zero]
          repeat (go_big_quiet_step (fail))
          refine wpQuiet_nil ?_
          refine flo_eff rfl rfl rfl rfl (fun K hK => ?_)
          go_wp2_with ((go_at_call 92; refine Calls.mono (HWI.out _ (HR.out.1.trans (Gr.refl wr).drew)) ?_; rintro r w8 ⟨rfl, hg⟩; have HG8 := Lib.hid hg; (obtain ⟨d8, f8⟩ := cellsOf (HGN.out _ ((Gr.refl wr).drew.trans hg))); clear hg))
          refine ⟨by exact HG8.out.mdh _, ?_⟩
          refine flo_eff rfl rfl rfl rfl (fun K hK => ?_)
          go_wp2
          refine ⟨by (first | (refine Gr.mdh ?_ _; (repeat (first | (with_reducible exact Gr.refl _) | assumption | (with_reducible apply Gr.from_drew) | (with_reducible apply Gr.alloc) | (with_reducible apply Gr.drew) | (with_reducible refine Gr.trans ?_ (by assumption)) | (with_reducible refine Gr.setCell ?_ (by omega) _))); done) | (repeat (first | (with_reducible exact Mdh.refl _ _) | (with_reducible refine Mdh.setCell ?_ (by simp) _) | (with_reducible refine Mdh.setNew ?_ (by simp) _) | (with_reducible apply Mdh.alloc) | (with_reducible apply Mdh.from_drew) | (with_reducible apply Mdh.drew) | (with_reducible refine Mdh.gr ?_ (by assumption))))), ?_⟩
          refine flo_nil ?_
          obtain ⟨W9, hW9⟩ : ∃ y, y = (((((w8.setCell ⟨b6, 0, none⟩ (.int .i64 b'.total)).setCell ⟨b6, 1, none⟩ (.int .i64 b'.live)).setCell ⟨b6, 2, none⟩ (.int .i64 b'.tombs)).setCell ⟨b6, 3, none⟩ (.int .i64 b'.dead)).setCell ⟨b6, 4, none⟩ (.int .i64 b'.last)) := ⟨_, rfl⟩
          have HM9 : Hid (Mdh (fun k => k = b6) w8 W9) := Lib.hid (by rw [hW9]; exact (((((Mdh.refl (fun k => k = b6) w8).setCell (p := ⟨b6, 0, none⟩) rfl _).setCell (p := ⟨b6, 1, none⟩) rfl _).setCell (p := ⟨b6, 2, none⟩) rfl _).setCell (p := ⟨b6, 3, none⟩) rfl _).setCell (p := ⟨b6, 4, none⟩) rfl _)
          have HG9 : Hid (Gr w W9) := Lib.hid (by rw [hW9]; exact ((HR.out.1.trans (Gr.refl wr).drew).trans HG8.out).cell5 HBW6.out _ _ _ _ _)
          have HB9 : Hid (W9.heap[b6]? = some (byO b')) := Lib.hid (by rw [hW9]; exact blk5 (HGN.out _ ((Gr.refl wr).drew.trans HG8.out)) _ _ _ _ _)
          have HS9 := Lib.hid (And.intro HG9.out (And.intro (HM9.out.blk (((Gr.refl wr).drew.trans HG8.out).blk HR.out.2.1) n46) (And.intro HB9.out ((HR.out.2.2.2.gr ((Gr.refl wr).drew.trans HG8.out)).mdh HM9.out (fun q hq hk => HNE.out (hk ▸ hq))))))
          rw [← hW9]
          clear hW9 d6 d8 f8 y0 y1 y2 y3 y4 y5
          go_wp2_with fail
          go_roundw
          case rel => exact ⟨i + 1, by omega, by go_num, Lib.hid ⟨HS9.out.1, HS9.out.2.1, by rw [HTK.out]; exact HS9.out.2.2.1, HS9.out.2.2.2⟩⟩
          case measure => simp [intOf]; omega
        · have hlt' : ¬ (i : Int) < L.length := by omega
          have HNZ : Hid (L.take i = L) := Lib.hid (List.take_of_length_le (by omega))
          have HE : Hid (Gr w wr ∧ wr.heap[b4]? = some (.cells #[.int .i64 0, .int .i64 0, .int .i64 0, .int .i64 0, .int .i64 0] 59) ∧ wr.heap[b6]? = some (byO (wthL X B0 L))) := Lib.hid ⟨HR.out.1, HR.out.2.1, by have := HR.out.2.2.1; rw [HNZ.out] at this; exact this⟩
          clear HR
          have HD6 := Lib.hid HE.out.2.2
          generalize wthL X B0 L = bb at *
          obtain ⟨q0, q1, q2, q3, q4⟩ := bb
          simp only [byO] at HD6
          have d6 := (cellsOf HD6.out).1
          obtain ⟨d4, f4⟩ := cellsOf HE.out.2.1
          go_upto_region 11 with fail
          repeat (first | go_values | go_skip | go_guarded | go_step | go_upon)
          have hb4 := blk5 HE.out.2.1 (.int .i64 (⟨q0, q1, q2, q3, q4⟩ : By).total) (.int .i64 (⟨q0, q1, q2, q3, q4⟩ : By).live) (.int .i64 (⟨q0, q1, q2, q3, q4⟩ : By).tombs) (.int .i64 (⟨q0, q1, q2, q3, q4⟩ : By).dead) (.int .i64 (⟨q0, q1, q2, q3, q4⟩ : By).last)
          obtain ⟨d4', _⟩ := cellsOf hb4
          refine bodyPost_ret (v := V) ?_ rfl ⟨rfl, HE.out.1.cell5 HBW.out _ _ _ _ _⟩
          (try simp only at d4')
          simp [results, Try.results23, go_sem, d4', HV1.out, byV]
set_option maxRecDepth 40000 in
set_option maxHeartbeats 8000000 in
theorem rSum23 {w : World} {p : Option Addr} {X : IX} (h : RP w p X) : Calls Try.prog 25 #[.pointer p] w fun e w' => e = .returned (.tuple #[byV (sumBy X).1, .int .i64 (sumBy X).2]) ∧ Gr w w' := by
  have HOF : Hid (sumBy X = if X.slots.length = 0 then (zBy, 1) else (addL (allL X X.slots.length), 0)) := Lib.hid rfl
  have HRP := Lib.hid h
  have HVA := Lib.hid (fun W (g : Gr w W) => rValid23 (h.gr g))
  have HSL := Lib.hid (fun W (g : Gr w W) => rpSlots (h.gr g))
  have HST : Hid (∀ s W, Gr w W → Calls Try.prog 91 #[.pointer p, .int .i64 s] W (fun e w' => ∃ v, e = .returned v ∧ Nw W w' 53 6 v (X.slot s).length (rowE (X.slot s)) ∧ Gr W w')) := Lib.hid (fun s W g => rpSlot (h.gr g) s)
  have HLE := Lib.hid (fun s => h.ok.slot_le s)
  have HVA2 := Lib.hid (fun s e he => ((h.ok.slotOk s).e e he).2)
  have hN32 := h.ok.n
  have HAL := Lib.hid (fun (m : Nat) => addL_le (l := allL X m) (fun b hb => by
    unfold allL at hb
    obtain ⟨i, _, rfl⟩ := List.mem_map.1 hb
    exact byOf_le h.ok _))
  have HAN : Hid (∀ m, (allL X m).length = m) := Lib.hid (fun m => by unfold allL; simp)
  have HAS : Hid (∀ m : Nat, addL (allL X (m + 1)) = addB (addL (allL X m)) (byOf X m)) := Lib.hid (fun m => by rw [allL_succ, addL_snoc])
  have HWS := Lib.hid (fun (b : By) (hb : 0 ≤ b.last) (s : Int) => wth_slot X hb s)
  have HA0 : Hid (addL (allL X 0) = zBy) := Lib.hid rfl
  clear h
  obtain ⟨w0, hw0⟩ : ∃ y, y = w.alloc (.cells #[.int .i64 0, .int .i64 0, .int .i64 0, .int .i64 0, .int .i64 0] 59) := ⟨_, rfl⟩
  obtain ⟨b4, hb4⟩ : ∃ q, q = w.heap.size := ⟨_, rfl⟩
  have HG0 : Hid (Gr w w0) := Lib.hid (by rw [hw0]; exact (Gr.refl w).alloc _)
  have HX0 : Hid (w0.heap[b4]? = some (.cells #[.int .i64 0, .int .i64 0, .int .i64 0, .int .i64 0, .int .i64 0] 59)) := Lib.hid (by rw [hw0, hb4]; exact blkNew _ _)
  have HBW : Hid (w.heap.size ≤ b4) := Lib.hid (Nat.le_of_eq hb4.symm)
  obtain ⟨V, hV⟩ : ∃ V, V = Value.tuple #[byV (sumBy X).1, .int .i64 (sumBy X).2] := ⟨_, rfl⟩
  have HV := Lib.hid hV
  rw [← hV]
  clear hV
  generalize X.slots.length = n at *
  by_cases hn : n = 0
  · have HV1 : Hid (V = .tuple #[.agg #[.int .i64 0, .int .i64 0, .int .i64 0, .int .i64 0, .int .i64 0], .int .i64 1]) := Lib.hid (by rw [HV.out, HOF.out, if_pos hn]; rfl)
    subst hn
    go_enter Try.func25, Try.ntmps25
    go_upto_region 1 with fail
    rw [← hw0, ← hb4]
    clear hw0 hb4
    go_upto_region 2 with (first | (go_at_call 89; refine Calls.mono (HVA.out _ HG0.out) ?_; rintro e w1 ⟨rfl, rfl⟩) | fail)
    obtain ⟨d4, f4⟩ := cellsOf HX0.out
    repeat (first | go_values | go_skip | go_guarded | go_step | go_upon)
    have hb4 := blk5 HX0.out (.int .i64 zBy.total) (.int .i64 zBy.live) (.int .i64 zBy.tombs) (.int .i64 zBy.dead) (.int .i64 zBy.last)
    obtain ⟨d4', _⟩ := cellsOf hb4
    refine bodyPost_ret (v := V) ?_ rfl ⟨rfl, HG0.out.cell5 HBW.out _ _ _ _ _⟩
    (try simp only [zBy] at d4')
    simp [results, Try.results25, go_sem, d4', HV1.out]
  · have hnz : decide (n ≠ 0) = true := decide_eq_true hn
    rw [hnz] at HVA
    have HV1 : Hid (V = .tuple #[byV (addL (allL X n)), .int .i64 0]) := Lib.hid (by rw [HV.out, HOF.out, if_neg hn])
    clear hn hnz HOF HV
    generalize byOf X = bO at *
    obtain ⟨aL, haL⟩ : ∃ aL : Nat → By, aL = fun m => addL (allL X m) := ⟨_, rfl⟩
    have HAL2 : Hid (∀ m : Nat, ByLe (aL m) (8388608 * m)) := Lib.hid (fun m => by rw [haL]; have := HAL.out m; rw [HAN.out] at this; exact this)
    have HAS2 : Hid (∀ m : Nat, aL (m + 1) = addB (aL m) (bO m)) := Lib.hid (fun m => by rw [haL]; exact HAS.out m)
    have HA02 : Hid (aL 0 = zBy) := Lib.hid (by rw [haL]; exact HA0.out)
    have HV2 : Hid (V = .tuple #[byV (aL n), .int .i64 0]) := Lib.hid (by rw [haL]; exact HV1.out)
    clear haL HAL HAS HA0 HAN HV1
    go_enter Try.func25, Try.ntmps25
    go_upto_region 1 with fail
    rw [← hw0, ← hb4]
    clear hw0 hb4
    go_upto_region 4 with (first | (go_at_call 89; refine Calls.mono (HVA.out _ HG0.out) ?_; rintro e w1 ⟨rfl, rfl⟩) | fail)
    obtain ⟨b6, hb6⟩ : ∃ q, q = w0.heap.size := ⟨_, rfl⟩
    obtain ⟨w5, hw5⟩ : ∃ y, y = w0.alloc (.cells #[.int .i64 0, .int .i64 0, .int .i64 0, .int .i64 0, .int .i64 0] 59) := ⟨_, rfl⟩
    have HX5 : Hid (Gr w w5 ∧ w5.heap[b4]? = some (.cells #[.int .i64 0, .int .i64 0, .int .i64 0, .int .i64 0, .int .i64 0] 59) ∧ w5.heap[b6]? = some (.cells #[.int .i64 0, .int .i64 0, .int .i64 0, .int .i64 0, .int .i64 0] 59)) := Lib.hid (by rw [hw5, hb6]; exact ⟨HG0.out.alloc _, blkOld HX0.out, blkNew _ _⟩)
    have n46 : b4 ≠ b6 := by
      have := blkLt HX0.out
      omega
    have HBW6 : Hid (w.heap.size ≤ b6) := Lib.hid (by have := HG0.out.sz; omega)
    rw [← hw5, ← hb6]
    clear hw5 hb6
    go_wp2_with fail
    go_loopw [5] (fun t5 wx => ∃ m : Nat, m ≤ n ∧ t5 = .int .i64 m ∧ Hid (Gr w wx ∧ wx.heap[b4]? = some (.cells #[.int .i64 0, .int .i64 0, .int .i64 0, .int .i64 0, .int .i64 0] 59) ∧ wx.heap[b6]? = some (byO (aL m)))) (fun t5 _ => n - (intOf t5).toNat)
    case atStart => exact ⟨0, by omega, by go_num, Lib.hid ⟨HX5.out.1, HX5.out.2.1, by rw [HA02.out]; exact HX5.out.2.2⟩⟩
    case round =>
      obtain ⟨m, hm, rfl, HO⟩ := hrel
      by_cases hmn : m < n
      · have hmn' : (m : Int) < n := by omega
        have HSTM := Lib.hid (HST.out (m : Int))
        have hsl := HLE.out (m : Int)
        have HVL := Lib.hid (HVA2.out (m : Int))
        have HASM := Lib.hid ((HAS2.out m).trans (HWS.out (aL m) (HAL2.out m).s.1 (m : Int)).symm)
        have HB0 := Lib.hid (HAL2.out m)
        generalize aL m = B0 at *
        generalize X.slot (m : Int) = L at *
        have hM0 : (8388608 * (m : Int)) ≤ 268435456 := by omega
        go_wp2_with (first
          | (go_at_call 90; refine Calls.mono (HSL.out _ HO.out.1) ?_; rintro r w2 ⟨rfl, rfl⟩)
          | (go_at_call 91; refine Calls.mono (HSTM.out _ HO.out.1) ?_; rintro r w6 ⟨v, rfl, hn, hg⟩; have HN6 := Lib.hid hn; have HX6 := Lib.hid (And.intro (HO.out.1.trans hg) (And.intro (hg.blk HO.out.2.1) (hg.blk HO.out.2.2))); have HSZ := Lib.hid (blkLt HO.out.2.2); clear hn hg; obtain ⟨av, cv, rfl, _, hcv, _⟩ := ownE_at HN6.out.own; unfold maxLen at hcv)
          | fail)
        have HNE : Hid ((Value.slice av L.length cv).ownBlock ≠ some b6) := Lib.hid (fun h => by have h1 := HN6.out.new b6 h; have h2 := HSZ.out; omega)
        have HSTART : Hid (Gr w w6 ∧ w6.heap[b4]? = some (.cells #[.int .i64 0, .int .i64 0, .int .i64 0, .int .i64 0, .int .i64 0] 59) ∧ w6.heap[b6]? = some (byO (wthL X B0 (L.take 0))) ∧ Own w6 53 6 (.slice av L.length cv) L.length (rowE L)) := Lib.hid ⟨HX6.out.1, HX6.out.2.1, HX6.out.2.2, HN6.out.own⟩
        (try go_wp2_with fail)
        go_loopw [7] (fun t8 wx => ∃ i : Nat, i ≤ L.length ∧ t8 = .int .i64 i ∧ Hid (Gr w wx ∧ wx.heap[b4]? = some (.cells #[.int .i64 0, .int .i64 0, .int .i64 0, .int .i64 0, .int .i64 0] 59) ∧ wx.heap[b6]? = some (byO (wthL X B0 (L.take i))) ∧ Own wx 53 6 (.slice av L.length cv) L.length (rowE L))) (fun t8 _ => L.length - (intOf t8).toNat)
        case atStart => exact ⟨0, by omega, by go_num, HSTART⟩
        case round =>
          obtain ⟨i, hil, rfl, HR⟩ := hrel
          by_cases hlt : i < L.length
          · have hlt' : (i : Int) < L.length := by omega
            obtain ⟨x, hx⟩ : ∃ x, L[i]? = some x := ⟨_, List.getElem?_eq_getElem hlt⟩
            have hvx := HVL.out x (List.mem_of_getElem? hx)
            have HTK : Hid (wthL X B0 (L.take (i + 1)) = wthB X (wthL X B0 (L.take i)) x) := Lib.hid (by rw [List.take_add_one, hx]; exact wthL_snoc X B0 _ x)
            have hle := wthL_le (X := X) (L.take i) HB0.out (fun e he => HVL.out e (List.mem_of_mem_take he))
            have hlen : (L.take i).length ≤ 512 := by rw [List.length_take]; omega
            have HWI := Lib.hid (fun W (g : Gr w W) => rWith (HRP.out.gr g) (wthL X B0 (L.take i)) x ⟨⟨hle.t.1, by have := hle.t.2; omega⟩, ⟨hle.l.1, by have := hle.l.2; omega⟩, ⟨hle.m.1, by have := hle.m.2; omega⟩, ⟨hle.d.1, by have := hle.d.2; omega⟩, hle.s⟩ hvx)
            have HB6 := Lib.hid HR.out.2.2.1
            generalize wthB X (wthL X B0 (L.take i)) x = b' at *
            generalize wthL X B0 (L.take i) = b at *
            obtain ⟨g0, hg0e, hg0, y0, y1, y2, y3, y4, y5⟩ := ent6 HR.out.2.2.2 hx
            have HGN : Hid (∀ W, Gr wr W → W.heap[b6]? = some (byO b)) := Lib.hid (fun W g => g.blk HB6.out)
            obtain ⟨x0, x1, x2, x3, x4, x5⟩ := x
            obtain ⟨q0, q1, q2, q3, q4⟩ := b
            simp only [enV, byV] at HWI
            simp only at y0 y1 y2 y3 y4 y5
            simp only [byO] at HGN
            have d6 := (cellsOf (HGN.out _ (Gr.refl _))).1
            have lb6 := blkLt (HGN.out _ (Gr.refl _))
            have hne6 : g0 ≠ b6 := fun e => HNE.out (by rw [hg0e, e]; rfl)
            subst hg0e
            clear hx hle hvx
            go_wp2_with fail
            refine wp_region_flo (fun k => k = b6) [] [28] (by kernel_rfl) (by kernel_rfl) (fun k hk => by subst hk; exact lb6) ?_
            refine flo_eff rfl rfl rfl rfl (fun K hK => ?_)
            go_wp2
            refine ⟨by exact Mdh.refl _ _, ?_⟩
            refine flo_seg 5 rfl ?_
            simp only [List.take_succ_cons, List.take_zero, List.drop_succ_cons, List.drop_zero]
            repeat (go_big_quiet_step (fail))
            refine wpQuiet_nil ?_
            refine flo_eff rfl rfl rfl rfl (fun K hK => ?_)
            go_wp2_with ((go_at_call 92; refine Calls.mono (HWI.out _ (HR.out.1.trans (Gr.refl wr).drew)) ?_; rintro r w8 ⟨rfl, hg⟩; have HG8 := Lib.hid hg; (obtain ⟨d8, f8⟩ := cellsOf (HGN.out _ ((Gr.refl wr).drew.trans hg))); clear hg))
            refine ⟨by exact HG8.out.mdh _, ?_⟩
            refine flo_eff rfl rfl rfl rfl (fun K hK => ?_)
            go_wp2
            refine ⟨by (first | (refine Gr.mdh ?_ _; (repeat (first | (with_reducible exact Gr.refl _) | assumption | (with_reducible apply Gr.from_drew) | (with_reducible apply Gr.alloc) | (with_reducible apply Gr.drew) | (with_reducible refine Gr.trans ?_ (by assumption)) | (with_reducible refine Gr.setCell ?_ (by omega) _))); done) | (repeat (first | (with_reducible exact Mdh.refl _ _) | (with_reducible refine Mdh.setCell ?_ (by simp) _) | (with_reducible refine Mdh.setNew ?_ (by simp) _) | (with_reducible apply Mdh.alloc) | (with_reducible apply Mdh.from_drew) | (with_reducible apply Mdh.drew) | (with_reducible refine Mdh.gr ?_ (by assumption))))), ?_⟩
            refine flo_nil ?_
            obtain ⟨W9, hW9⟩ : ∃ y, y = (((((w8.setCell ⟨b6, 0, none⟩ (.int .i64 b'.total)).setCell ⟨b6, 1, none⟩ (.int .i64 b'.live)).setCell ⟨b6, 2, none⟩ (.int .i64 b'.tombs)).setCell ⟨b6, 3, none⟩ (.int .i64 b'.dead)).setCell ⟨b6, 4, none⟩ (.int .i64 b'.last)) := ⟨_, rfl⟩
            have HM9 : Hid (Mdh (fun k => k = b6) w8 W9) := Lib.hid (by rw [hW9]; exact (((((Mdh.refl (fun k => k = b6) w8).setCell (p := ⟨b6, 0, none⟩) rfl _).setCell (p := ⟨b6, 1, none⟩) rfl _).setCell (p := ⟨b6, 2, none⟩) rfl _).setCell (p := ⟨b6, 3, none⟩) rfl _).setCell (p := ⟨b6, 4, none⟩) rfl _)
            have HG9 : Hid (Gr w W9) := Lib.hid (by rw [hW9]; exact ((HR.out.1.trans (Gr.refl wr).drew).trans HG8.out).cell5 HBW6.out _ _ _ _ _)
            have HB9 : Hid (W9.heap[b6]? = some (byO b')) := Lib.hid (by rw [hW9]; exact blk5 (HGN.out _ ((Gr.refl wr).drew.trans HG8.out)) _ _ _ _ _)
            have HS9 := Lib.hid (And.intro HG9.out (And.intro (HM9.out.blk (((Gr.refl wr).drew.trans HG8.out).blk HR.out.2.1) n46) (And.intro HB9.out ((HR.out.2.2.2.gr ((Gr.refl wr).drew.trans HG8.out)).mdh HM9.out (fun q hq hk => HNE.out (hk ▸ hq))))))
            rw [← hW9]
            clear hW9 d6 d8 f8 y0 y1 y2 y3 y4 y5
            go_wp2_with fail
            go_roundw
            case rel => exact ⟨i + 1, by omega, by go_num, Lib.hid ⟨HS9.out.1, HS9.out.2.1, by rw [HTK.out]; exact HS9.out.2.2.1, HS9.out.2.2.2⟩⟩
            case measure => simp [intOf]; omega
          · have hlt' : ¬ (i : Int) < L.length := by omega
            have HNZ : Hid (L.take i = L) := Lib.hid (List.take_of_length_le (by omega))
            have HE : Hid (Gr w wr ∧ wr.heap[b4]? = some (.cells #[.int .i64 0, .int .i64 0, .int .i64 0, .int .i64 0, .int .i64 0] 59) ∧ wr.heap[b6]? = some (byO (wthL X B0 L))) := Lib.hid ⟨HR.out.1, HR.out.2.1, by have := HR.out.2.2.1; rw [HNZ.out] at this; exact this⟩
            clear HR
            go_wp2_with fail
            go_roundw
            case rel => exact ⟨m + 1, by omega, by go_num, Lib.hid ⟨HE.out.1, HE.out.2.1, by rw [HASM.out]; exact HE.out.2.2⟩⟩
            case measure => simp [intOf]; omega
      · have hmn' : ¬ (m : Int) < n := by omega
        obtain rfl : m = n := by omega
        have HD6 := Lib.hid HO.out.2.2
        generalize aL m = bb at *
        obtain ⟨q0, q1, q2, q3, q4⟩ := bb
        simp only [byO] at HD6
        have d6 := (cellsOf HD6.out).1
        obtain ⟨d4, f4⟩ := cellsOf HO.out.2.1
        go_upto_region 12 with (go_at_call 90; refine Calls.mono (HSL.out _ HO.out.1) ?_; rintro r w2 ⟨rfl, rfl⟩)
        repeat (first | go_values | go_skip | go_guarded | go_step | go_upon)
        have hb4 := blk5 HO.out.2.1 (.int .i64 (⟨q0, q1, q2, q3, q4⟩ : By).total) (.int .i64 (⟨q0, q1, q2, q3, q4⟩ : By).live) (.int .i64 (⟨q0, q1, q2, q3, q4⟩ : By).tombs) (.int .i64 (⟨q0, q1, q2, q3, q4⟩ : By).dead) (.int .i64 (⟨q0, q1, q2, q3, q4⟩ : By).last)
        obtain ⟨d4', _⟩ := cellsOf hb4
        refine bodyPost_ret (v := V) ?_ rfl ⟨rfl, HO.out.1.cell5 HBW.out _ _ _ _ _⟩
        (try simp only at d4')
        simp [results, Try.results25, go_sem, d4', HV2.out, byV]
end Go.Proofs.Ytmdfickejpeofaa

/- drumlinref23's All over a reference index. -/
set_option linter.unusedVariables false
set_option linter.unusedSimpArgs false
namespace Go.Proofs.Ytmdfickejpeofaa
open Go.RowKit Go.Shelf
attribute [local go_sem] OvM cell_ovm obj_ovm
attribute [local go_sem] Oper.semAt_some

theorem infoByR : (Try.prog.info? 59).map (fun i => (i.zero, i.size, i.bytes)) = some (some (.agg #[.int .i64 0, .int .i64 0, .int .i64 0, .int .i64 0, .int .i64 0]), 5, 40) := by kernel_rfl
def AllR (X : IX) (w : World) (e : Ending) (w' : World) : Prop :=
  ∃ v, e = .returned (.tuple #[v, .int .i64 (if X.slots.length = 0 then 1 else 0)]) ∧ Nw w w' 59 5 v X.slots.length (rowBy (allL X X.slots.length)) ∧ Gr w w'
set_option maxRecDepth 40000 in
set_option maxHeartbeats 4000000 in
theorem rAll23 {w : World} {p : Option Addr} {X : IX} (h : RP w p X) : Calls Try.prog 27 #[.pointer p] w (AllR X w) := by
  have h32 := h.ok.n
  have HVA := Lib.hid (fun W (g : Gr w W) => rValid23 (h.gr g))
  have HSL := Lib.hid (fun W (g : Gr w W) => rpSlots (h.gr g))
  have HOF := Lib.hid (fun (s : Int) W (g : Gr w W) => rOf23 (h.gr g) s)
  have HOL : Hid (∀ j : Nat, j < X.slots.length → ofL X j = (byOf X j, 0)) := Lib.hid (fun j hj => by
    unfold ofL
    rw [if_neg (by omega), if_neg (by omega)])
  have HAP : Hid (∀ v w', Nw w w' 59 5 v X.slots.length (rowBy (allL X X.slots.length)) → Gr w w' → AllR X w (.returned (.tuple #[v, .int .i64 (if X.slots.length = 0 then 1 else 0)])) w') := Lib.hid (fun v w' h1 h2 => ⟨v, rfl, h1, h2⟩)
  obtain ⟨n, hn⟩ : ∃ n : Nat, n = X.slots.length := ⟨_, rfl⟩
  rw [← hn] at h32 HVA HSL HOL HAP
  obtain ⟨i0, hi, hz0, hz1, hz2⟩ := info_parts infoByR
  generalize AllR X w = Q at *
  clear h hn
  by_cases hz : n = 0
  · subst hz
    go_enter Try.func27, Try.ntmps27
    go_wp2_with (go_at_call 89; refine Calls.mono (HVA.out _ (Gr.refl _)) ?_; rintro e w1 ⟨rfl, rfl⟩)
    exact HAP.out _ _ (Nw.nil w _ _) (Gr.refl _)
  · have hnz : decide (n ≠ 0) = true := decide_eq_true hz
    rw [hnz] at HVA
    go_enter Try.func27, Try.ntmps27
    go_wp2_with (go_at_call 89; refine Calls.mono (HVA.out _ (Gr.refl _)) ?_; rintro e w1 ⟨rfl, rfl⟩)
    go_loopw [4, 5] (fun t4 t5 wx => ∃ (j : Nat) (a4 : Option Addr) (c4 : Nat), j ≤ n ∧ t4 = .slice a4 j c4 ∧ t5 = .int .i64 j ∧ Hid (Nw w wx 59 5 (.slice a4 j c4) j (rowBy (allL X j)) ∧ Gr w wx)) (fun _ t5 _ => n - (intOf t5).toNat)
    case atStart => exact ⟨0, none, 0, by omega, rfl, rfl, Lib.hid ⟨Nw.nil w _ _, Gr.refl _⟩⟩
    case round =>
      obtain ⟨j, a4, c4, hj, rfl, rfl, HR⟩ := hrel
      by_cases hlt : j < n
      · have hlt' : (j : Int) < n := by omega
        have HROW : Hid (rowBy (allL X (j + 1)) = rowBy (allL X j) ++ cellsBy (byOf X j)) := Lib.hid (by rw [allL_succ, rowBy_snoc])
        have hO := HOF.out (j : Int)
        rw [HOL.out j hlt] at hO
        simp only at hO
        generalize byOf X j = y at *
        obtain ⟨y0, y1, y2, y3, y4⟩ := y
        simp only [byV] at hO
        have HO := Lib.hid hO
        clear hO
        go_wp2_with (first
          | (go_at_call 90; refine Calls.mono (HSL.out _ HR.out.2) ?_; rintro r w2 ⟨rfl, rfl⟩)
          | fail)
        refine Calls.mono (HO.out _ HR.out.2) ?_
        rintro r w1 ⟨rfl, hg⟩
        have N1 := Lib.hid (HR.out.1.gr hg)
        have HG1 := Lib.hid (HR.out.2.trans hg)
        clear hg
        go_upto_region 8 with fail
        obtain ⟨b6, hb6⟩ : ∃ q, q = w1.heap.size := ⟨_, rfl⟩
        obtain ⟨w5, hw5⟩ : ∃ y, y = w1.alloc (.cells #[.int .i64 y0, .int .i64 y1, .int .i64 y2, .int .i64 y3, .int .i64 y4] 59) := ⟨_, rfl⟩
        have HX5 : Hid (w5.heap[b6]? = some (.cells #[.int .i64 y0, .int .i64 y1, .int .i64 y2, .int .i64 y3, .int .i64 y4] 59)) := Lib.hid (by rw [hw5, hb6]; exact blkNew _ _)
        have N5 : Hid (Nw w w5 59 5 (.slice a4 j c4) j (rowBy (allL X j))) := Lib.hid (by rw [hw5]; exact N1.out.gr ((Gr.refl w1).alloc _))
        have HG5 : Hid (Gr w w5) := Lib.hid (by rw [hw5]; exact HG1.out.alloc _)
        rw [← hb6, ← hw5]
        clear hb6 hw5
        have d6 := (cellsOf HX5.out).1
        go_wp2_with (first
          | (at_builtin; go_must (refine wpList_appv _ rfl (.tmp 23) (.tmp 25) 67 rfl 59 i0 _ 5 40 Try.underlying67 hi hz0 hz1 hz2 rfl (by decide) (.slice a4 j c4) j (rowBy (allL X j)) rfl (N5.out.own.gr (by (repeat (first | (with_reducible exact Gr.refl _) | assumption | (with_reducible apply Gr.from_drew) | (with_reducible apply Gr.alloc) | (with_reducible apply Gr.drew) | (with_reducible refine Gr.trans ?_ (by assumption)) | (with_reducible refine Gr.setCell ?_ (by omega) _))))) (some ⟨w5.heap.size, 0, none⟩) 1 1 (cellsBy ⟨y0, y1, y2, y3, y4⟩) rfl (src_newK w5 (cellsBy ⟨y0, y1, y2, y3, y4⟩) _ 5 rfl (by simp [cellsBy, Value.oneCell'])) (by simp only [maxLen]; omega) (by omega) ?_); intro v2 w6 hA; have N6 := Lib.hid (hA.nw (N5.out.gr ((Gr.refl w5).alloc _)) (by have := HG5.out.sz; simp; omega)); have HG6 := Lib.hid (hA.gw (N5.out.gr ((Gr.refl w5).alloc _)) (HG5.out.alloc _)); obtain ⟨a7, c7, rfl⟩ := hA.val; clear hA)
          | fail)
        go_roundw
        case rel => exact ⟨j + 1, a7, c7, by omega, rfl, by go_num, Lib.hid ⟨by rw [HROW.out]; exact N6.out, HG6.out⟩⟩
        case measure => simp [intOf]; omega
      · have hlt' : ¬ (j : Int) < n := by omega
        have hjn : j = n := by omega
        subst hjn
        have HP := HAP.out _ _ HR.out.1 HR.out.2
        rw [if_neg hz] at HP
        have HQ := Lib.hid HP
        clear HP
        go_wp2_with (go_at_call 90; refine Calls.mono (HSL.out _ HR.out.2) ?_; rintro r w2 ⟨rfl, rfl⟩)
        exact HQ.out
end Go.Proofs.Ytmdfickejpeofaa

/- For rows: slices of structs, and bytes. -/
set_option linter.unusedVariables false
set_option linter.unusedSimpArgs false
namespace Go.Proofs.Ytmdfickejpeofaa
open Go.ChangeShapes Go.WideShapes Go.Deep
section
variable {H : Type} {enc : TypeId × Value → H} {P : Program} {w : World} {base : Nat} {spare : Nat → Bool} {held : Bool}
theorem open_slice_fields {t e : TypeId} {fs : Array Field} {fuel : Nat} {cs : List Value} {x : DataW H × List MemPlace} (ht : P.underlying t = some (.slice e)) (he : P.underlying e = some (.struct fs))
    (hone : oneCellFields P fs = true) (hC : P.cellsOf e = fs.size) (h : DataW.trod enc P w base spare held fuel t cs = some x) :
    (cs = [.slice none 0 0] ∧ x = (.nil, [])) ∨
    ∃ (a : Addr) (len cap m : Nat) (D : Nat → DataW H) (Pl : Nat → List MemPlace), cs = [.slice (some a) len cap] ∧ base ≤ a.block ∧ len ≤ cap ∧ cap ≤ maxLen ∧ m = (if spare a.block then cap else len) ∧
      x = (.slice ((List.range len).map D) ((List.range (m - len)).map fun j => D (len + j)), MemPlace.row a (m * fs.size) ++ (List.range m).flatMap Pl) ∧
      ∀ i, i < m → ∃ (ys : List (DataW H × List MemPlace)) (n : Nat), D i = .agg (ys.map (·.1)) ∧ Pl i = ys.flatMap (·.2) ∧ ys.length = fs.size ∧
        ∀ (j : Nat) (f : Field), fs[j]? = some f → ∃ (v : Value) (y : DataW H × List MemPlace), w.cell? (a.add (i * fs.size + j)) = some v ∧ ys[j]? = some y ∧ DataW.trod enc P w base spare held n f.type [v] = some y := by
  rcases open_slice ht h with h0 | ⟨a, len, cap, m, n, D, Pl, hcs, hb, hl, hm, hmm, hx, hi⟩
  · exact .inl h0
  · refine .inr ⟨a, len, cap, m, D, Pl, hcs, hb, hl, hm, hmm, by rw [hC] at hx; exact hx, fun i him => ?_⟩
    obtain ⟨cs', hc, ht'⟩ := hi i him
    rw [hC] at hc
    obtain ⟨ys, n', hn', hy, hlen, hyl, hf⟩ := DataW.trod_struct he ht'
    obtain ⟨_, hcl, hat⟩ := World.cells?_some hc
    simp only [Prod.mk.injEq] at hy
    refine ⟨ys, n', hy.1, hy.2, hyl, fun j f hj => ?_⟩
    obtain ⟨ho, hk⟩ := hone_of hone j f hj
    have hjl : j < fs.size := (Array.getElem?_eq_some_iff.1 hj).1
    have hcell := hat j hjl
    have hv : cs'[j]? = some (cs'[j]'(by omega)) := List.getElem?_eq_getElem (by omega)
    have h1 := hf j f hj
    rw [ho, hk] at h1
    have hone' : (cs'.drop j).take 1 = [cs'[j]'(by omega)] := by
      rw [List.drop_eq_getElem_cons (by omega)]
      rfl
    rw [hone'] at h1
    have hys : ys[j]? = some (ys[j]'(by omega)) := List.getElem?_eq_getElem (by omega)
    refine ⟨_, _, ?_, hys, h1.trans hys⟩
    rw [← Go.Deep.add_add, hcell, hv]
end

open Go.RowKit
theorem list_of {α : Type} (len : Nat) (d : α) (R : Nat → α → Prop) (h : ∀ i, i < len → ∃ x, R i x) : ∃ l : List α, l.length = len ∧ ∀ i, i < l.length → R i (l[i]?.getD d) := by
  classical
  refine ⟨(List.range len).map (fun i => if hi : i < len then Classical.choose (h i hi) else d), by simp, fun i hi => ?_⟩
  have hi' : i < len := by simpa using hi
  simp only [List.getElem?_map, List.getElem?_range hi', Option.map_some, Option.getD_some, dif_pos hi']
  exact Classical.choose_spec (h i hi')
theorem u8_of {a : Int} (h : (Lit.int .u8 a).wf = true) : ∃ c : UInt8, a = (c.toNat : Int) := by
  have h' : (decide (IntKind.u8.min ≤ a) && decide (a ≤ IntKind.u8.max)) = true := h
  have : 0 ≤ a ∧ a ≤ 255 := by simpa [IntKind.min, IntKind.max, IntKind.signed, IntKind.bits] using h'
  refine ⟨UInt8.ofNat a.toNat, ?_⟩
  rw [UInt8.toNat_ofNat_of_lt' (by have : UInt8.size = 256 := rfl; omega)]
  omega
theorem at_add {w : World} {a : Addr} {k : Nat} {v : Value} (h : w.cell? (a.add k) = some v) (hs : a.spot = none) : a.block < w.heap.size ∧ w.cell? ⟨a.block, a.off + k, none⟩ = some v := by
  have e : a.add k = ⟨a.block, a.off + k, none⟩ := by
    unfold Addr.add
    obtain ⟨b, o, s⟩ := a
    split
    · simp_all
    · rfl
  rw [e] at h
  refine ⟨?_, h⟩
  unfold World.cell? at h
  refine Classical.byContradiction fun hc => ?_
  rw [Array.getElem?_eq_none (by simpa using hc)] at h
  cases h
theorem spot_add {w : World} {a : Addr} {v : Value} (h : w.cell? (a.add 0) = some v) : a.spot = none := by
  simpa [Addr.add] using World.cell?_spot h
end Go.Proofs.Ytmdfickejpeofaa

/- Rows of entries. -/
set_option linter.unusedVariables false
set_option linter.unusedSimpArgs false
namespace Go.Proofs.Ytmdfickejpeofaa
open Go.ChangeShapes Go.WideShapes Go.Deep Go.RowKit
theorem i64e {a : Int} (h : (Lit.int .i64 a).wf = true) : -9223372036854775808 ≤ a ∧ a ≤ 9223372036854775807 := by
  simp only [Lit.wf, Bool.and_eq_true, decide_eq_true_eq] at h
  exact h
/-- The entries of a list lie at a. -/
def EntAt (w : World) (a : Option Addr) (l : List En) : Prop :=
  ∀ i x, l[i]? = some x → ∃ b off, a = some ⟨b, off, none⟩ ∧ b < w.heap.size ∧ w.cell? ⟨b, off + i * 6, none⟩ = some (.int .i64 x.seq) ∧ w.cell? ⟨b, off + i * 6 + 1, none⟩ = some (.string x.key) ∧ w.cell? ⟨b, off + i * 6 + 2, none⟩ = some (.bool x.del) ∧ w.cell? ⟨b, off + i * 6 + 3, none⟩ = some (.int .i64 x.slot) ∧ w.cell? ⟨b, off + i * 6 + 4, none⟩ = some (.int .i64 x.off) ∧ w.cell? ⟨b, off + i * 6 + 5, none⟩ = some (.int .i64 x.size) ∧ -9223372036854775808 ≤ x.size ∧ x.size ≤ 9223372036854775807
theorem open_entries {H : Type} {enc : TypeId × Value → H} {w : World} {base : Nat} {spare : Nat → Bool} {held : Bool} {fuel : Nat} {a : Option Addr} {len cap : Nat} {x : DataW H × List MemPlace}
    (h : DataW.trod enc Try.prog w base spare held fuel 45 (Value.slice a len cap).cells.toList = some x) : len ≤ cap ∧ cap ≤ maxLen ∧ ∃ l : List En, l.length = len ∧ EntAt w a l := by
  rcases open_slice_fields Try.underlying45 Try.underlying53 (by kernel_rfl) (show Try.prog.cellsOf 53 = 6 by kernel_rfl) h with ⟨hcs, _⟩ | ⟨a', l, c, m, D, Pl, hcs, _, hl, hm, hmm, _, hi⟩
  · simp [Value.cells] at hcs
    obtain ⟨rfl, rfl, rfl⟩ := hcs
    exact ⟨by omega, by simp [maxLen], [], rfl, fun i x hx => by simp at hx⟩
  · simp [Value.cells] at hcs
    obtain ⟨rfl, rfl, rfl⟩ := hcs
    refine ⟨hl, hm, ?_⟩
    by_cases h0 : 0 < len
    · have hml : len ≤ m := by rw [hmm]; split <;> omega
      have hsp : a'.spot = none := by
        obtain ⟨ys, n, _, _, _, hf⟩ := hi 0 (by omega)
        obtain ⟨v, y, hc, _, _⟩ := hf 0 _ rfl
        exact spot_add (by simpa using hc)
      obtain ⟨l, hl1, hl2⟩ := list_of len (⟨0, ⟨#[]⟩, false, 0, 0, 0⟩ : En) (fun i t => w.cell? ⟨a'.block, a'.off + i * 6, none⟩ = some (.int .i64 t.seq) ∧ w.cell? ⟨a'.block, a'.off + i * 6 + 1, none⟩ = some (.string t.key) ∧ w.cell? ⟨a'.block, a'.off + i * 6 + 2, none⟩ = some (.bool t.del) ∧ w.cell? ⟨a'.block, a'.off + i * 6 + 3, none⟩ = some (.int .i64 t.slot) ∧ w.cell? ⟨a'.block, a'.off + i * 6 + 4, none⟩ = some (.int .i64 t.off) ∧ w.cell? ⟨a'.block, a'.off + i * 6 + 5, none⟩ = some (.int .i64 t.size) ∧ a'.block < w.heap.size ∧ -9223372036854775808 ≤ t.size ∧ t.size ≤ 9223372036854775807) (fun i hil => by
        obtain ⟨ys, n, _, _, _, hf⟩ := hi i (by omega)
        obtain ⟨v0, y0, c0, _, t0⟩ := hf 0 _ rfl
        obtain ⟨v1, y1, c1, _, t1⟩ := hf 1 _ rfl
        obtain ⟨v2, y2, c2, _, t2⟩ := hf 2 _ rfl
        obtain ⟨v3, y3, c3, _, t3⟩ := hf 3 _ rfl
        obtain ⟨v4, y4, c4, _, t4⟩ := hf 4 _ rfl
        obtain ⟨v5, y5, c5, _, t5⟩ := hf 5 _ rfl
        obtain ⟨x0, e0, _, w0⟩ := DataW.trod_int Try.underlying2 t0
        obtain ⟨x1, e1, _⟩ := DataW.trod_string Try.underlying9 t1
        obtain ⟨x2, e2, _⟩ := DataW.trod_bool Try.underlying4 t2
        obtain ⟨x3, e3, _, w3⟩ := DataW.trod_int Try.underlying3 t3
        obtain ⟨x4, e4, _, w4⟩ := DataW.trod_int Try.underlying3 t4
        obtain ⟨x5, e5, _, w5⟩ := DataW.trod_int Try.underlying3 t5
        obtain rfl := List.cons.inj e0 |>.1
        obtain rfl := List.cons.inj e1 |>.1
        obtain rfl := List.cons.inj e2 |>.1
        obtain rfl := List.cons.inj e3 |>.1
        obtain rfl := List.cons.inj e4 |>.1
        obtain rfl := List.cons.inj e5 |>.1
        obtain ⟨hb, d0⟩ := at_add c0 hsp
        exact ⟨⟨x0, x1, x2, x3, x4, x5⟩, d0, (at_add c1 hsp).2, (at_add c2 hsp).2, (at_add c3 hsp).2, (at_add c4 hsp).2, (at_add c5 hsp).2, hb, i64e w5⟩)
      refine ⟨l, hl1, fun i x hx => ?_⟩
      obtain ⟨hlt, rfl⟩ := List.getElem?_eq_some_iff.1 hx
      obtain ⟨c0, c1, c2, c3, c4, c5, hb, h4⟩ := hl2 i (by omega)
      rw [hx] at c0 c1 c2 c3 c4 c5 h4
      exact ⟨_, _, by obtain ⟨b, o, s⟩ := a'; simp_all, hb, c0, c1, c2, c3, c4, c5, h4⟩
    · obtain rfl : len = 0 := by omega
      exact ⟨[], rfl, fun i x hx => by simp at hx⟩
end Go.Proofs.Ytmdfickejpeofaa

/- drumlinlaw23's entries; rows and comparison of drumlinref23.Bytes; both indexes beside one more block. -/
set_option linter.unusedVariables false
set_option linter.unusedSimpArgs false
namespace Go.Proofs.Ytmdfickejpeofaa
open Go.RowKit Go.Shelf
attribute [local go_sem] OvM cell_ovm obj_ovm
attribute [local go_sem] Oper.semAt_some

def entsTo (X : IX) (n : Nat) : List En := (List.range n).flatMap fun s => X.slot (s : Nat)
theorem entsTo_succ (X : IX) (n : Nat) : entsTo X (n + 1) = entsTo X n ++ X.slot (n : Nat) := by simp [entsTo, List.range_succ]
theorem entsTo_all (X : IX) : entsTo X X.slots.length = X.ents := by
  have h : X.slots = (List.range X.slots.length).map (fun s => X.slot (s : Nat)) := by
    refine List.ext_getElem (by simp) (fun i h1 h2 => ?_)
    rw [List.getElem_map, List.getElem_range, slot_at (List.getElem?_eq_getElem h1)]
  unfold entsTo IX.ents
  rw [List.flatMap]
  exact congrArg List.flatten h.symm
theorem entsTo_le {X : IX} (h : X.Wf) : ∀ n, (entsTo X n).length ≤ 512 * n
  | 0 => by simp [entsTo]
  | n + 1 => by
    rw [entsTo_succ, List.length_append]
    have h1 := entsTo_le h n
    have h2 := h.slot_le (n : Nat)
    omega
def EntsP (X : IX) (w : World) (e : Ending) (w' : World) : Prop := ∃ v, e = .returned v ∧ Nw w w' 53 6 v X.ents.length (rowE X.ents) ∧ Gr w w'
set_option maxRecDepth 40000 in
set_option maxHeartbeats 4000000 in
theorem entries_any {w : World} {p : Option Addr} {X : IX} (h : RP w p X) : Calls Try.prog 29 #[.pointer p] w (EntsP X w) := by
  obtain ⟨i0, hi, hz0, hz1, hz2⟩ := info_parts infoIten
  have HSL := Lib.hid (fun W (g : Gr w W) => rpSlots (h.gr g))
  have HST : Hid (∀ s W, Gr w W → Calls Try.prog 91 #[.pointer p, .int .i64 s] W (fun e w' => ∃ v, e = .returned v ∧ Nw W w' 53 6 v (X.slot s).length (rowE (X.slot s)) ∧ Gr W w')) := Lib.hid (fun s W g => rpSlot (h.gr g) s)
  have HLE := Lib.hid (fun s => h.ok.slot_le s)
  have HEL := Lib.hid (entsTo_le h.ok)
  have HES := Lib.hid (entsTo_succ X)
  have HE0 : Hid (entsTo X 0 = []) := Lib.hid rfl
  have hN32 := h.ok.n
  unfold EntsP
  rw [← entsTo_all]
  rcases h with ⟨rfl, rfl⟩ | ⟨rb, rfl, h⟩
  · clear HSL HST HLE HEL HES HE0 hN32
    go_enter Try.func29, Try.ntmps29
    go_wp2_with fail
    go_ret
    exact ⟨.slice none 0 0, rfl, Nw.nil w _ _, Gr.refl w⟩
  · clear h
    generalize entsTo X = eT at *
    generalize X.slots.length = n at *
    go_enter Try.func29, Try.ntmps29
    go_wp2_with (go_at_call 90; refine Calls.mono (HSL.out _ (Gr.refl _)) ?_; rintro r w2 ⟨rfl, rfl⟩)
    go_loopw [3, 9] (fun t3 t9 wx => ∃ (m : Nat) (a3 : Option Addr) (c3 : Nat), m ≤ n ∧ t3 = .slice a3 (eT m).length c3 ∧ t9 = .int .i64 m ∧ Hid (Nw w wx 53 6 (.slice a3 (eT m).length c3) (eT m).length (rowE (eT m)) ∧ Gr w wx)) (fun _ t9 _ => n - (intOf t9).toNat)
    case atStart => exact ⟨0, none, 0, by omega, by rw [HE0.out]; rfl, rfl, Lib.hid ⟨by rw [HE0.out]; exact Nw.nil w _ _, Gr.refl _⟩⟩
    case round =>
      obtain ⟨m, a3, c3, hm, rfl, rfl, HR⟩ := hrel
      by_cases hlt : m < n
      · have hlt' : (m : Int) < n := by omega
        have HSTM := Lib.hid (HST.out (m : Int))
        have hsl := HLE.out (m : Int)
        have hel := HEL.out m
        have HESM := Lib.hid (HES.out m)
        generalize eT m = F at *
        generalize X.slot (m : Int) = L at *
        go_wp2_with (first
          | (go_at_call 91; refine Calls.mono (HSTM.out _ HR.out.2) ?_; rintro r w4 ⟨v, rfl, hn, hg⟩; have HN4 := Lib.hid hn; have HG4 := Lib.hid (HR.out.2.trans hg); have HF4 := Lib.hid (HR.out.1.gr hg); clear hn hg; obtain ⟨av, cv, rfl, _, hcv, _⟩ := ownE_at HN4.out.own; unfold maxLen at hcv; have SRC := Lib.hid (src_all HN4.out.own (rowE_one L)))
          | (at_builtin; go_must (refine wpList_appv _ rfl (.tmp 12) (.tmp 15) 45 rfl 53 i0 _ 6 56 Try.underlying45 hi hz0 hz1 hz2 rfl (by decide) (.slice a3 F.length c3) F.length (rowE F) rfl HF4.out.own av L.length cv (rowE L) rfl SRC.out (by simp only [maxLen]; omega) (by omega) ?_); intro v3 w6 hA; have N6 := Lib.hid (hA.nw HF4.out HG4.out.sz); have HG6 := Lib.hid (hA.gw HF4.out HG4.out); obtain ⟨a7, c7, rfl⟩ := hA.val; clear hA)
          | fail)
        go_roundw
        case rel => exact ⟨m + 1, a7, c7, by omega, by rw [HESM.out, List.length_append], by go_num, Lib.hid ⟨by rw [HESM.out, List.length_append, rowE_app]; exact N6.out, HG6.out⟩⟩
        case measure => simp [intOf]; omega
      · have hlt' : ¬ (m : Int) < n := by omega
        obtain rfl : m = n := by omega
        go_wp2_with fail
        go_ret
        exact ⟨.slice a3 (eT m).length c3, rfl, HR.out.1, HR.out.2⟩
theorem ownByR_at {w : World} {v : Value} {l : List By} (h : Own w 59 5 v l.length (rowBy l)) : ∃ a cap, v = .slice a l.length cap ∧ l.length ≤ cap ∧ cap ≤ maxLen ∧ ∀ i x, l[i]? = some x → ∃ g, a = some ⟨g, 0, none⟩ ∧
    ∀ j u, (cellsBy x)[j]? = some u → w.cell? ⟨g, i * 5 + j, none⟩ = some u := by
  rcases h.2 with ⟨hv, h0⟩ | ⟨g, cap, cur, hv, _, hg, h1, h2, h3, h4⟩
  · have hL : l = [] := List.eq_nil_of_length_eq_zero h0
    subst hL
    exact ⟨none, 0, hv, Nat.le_refl _, by simp [maxLen], fun i x hx => by simp at hx⟩
  · subst hv
    refine ⟨_, cap, rfl, h1, h2, fun i x hx => ⟨g, rfl, fun j u hu => ?_⟩⟩
    have hc := h.cells (g := g) rfl
    have hadd : ∀ j, (⟨g, 0, none⟩ : Addr).add j = ⟨g, j, none⟩ := fun j => by unfold Addr.add; split <;> simp_all
    rw [← hadd]
    exact hc _ _ (rowBy_get l i x hx j u hu)
set_option maxRecDepth 40000 in
theorem neqR_same (b0 b1 b2 b3 b4 : Int) (w : World) : (binOp .neq 59 (.agg #[.int .i64 b0, .int .i64 b1, .int .i64 b2, .int .i64 b3, .int .i64 b4]) (.agg #[.int .i64 b0, .int .i64 b1, .int .i64 b2, .int .i64 b3, .int .i64 b4])).run Try.prog w = .ok (.bool false) w := by
  rw [run_neq_struct]
  have h : (Op.equalIn 10000 59 (.agg #[.int .i64 b0, .int .i64 b1, .int .i64 b2, .int .i64 b3, .int .i64 b4]) (.agg #[.int .i64 b0, .int .i64 b1, .int .i64 b2, .int .i64 b3, .int .i64 b4])).run Try.prog w = .ok true w := by
    simp [go_sem]
  rw [h]
  rfl
theorem PX.allocT {w0 w : World} {p q : Option Addr} {X : IX} {all : List En} {R : List Asn} (h : PX w0 p q X all R w) (o : Obj) : PX w0 p q X all (blkA w.heap.size o :: R) (w.alloc o) := by
  rcases h with ⟨h1, h2, h3, h4, h5⟩ | ⟨b, rb, S, v, h1, h2, h3, h4⟩
  · exact .inl ⟨h1, h2, h3, h4, h5.alloc o⟩
  · refine .inr ⟨b, rb, S, v, h1, h2, h3, ?_⟩
    have h6 := h4.alloc o
    exact ((h6.pick (i := 3) rfl).pick (i := 3) rfl).pick (i := 3) rfl
theorem PX.cut {w0 w : World} {p q : Option Addr} {X : IX} {all : List En} {A : Asn} {R : List Asn} (h : PX w0 p q X all (A :: R) w) : PX w0 p q X all R w := by
  rcases h with ⟨h1, h2, h3, h4, h5⟩ | ⟨b, rb, S, v, h1, h2, h3, h4⟩
  · exact .inl ⟨h1, h2, h3, h4, h5.sub (.cons _ (List.Sublist.refl _))⟩
  · exact .inr ⟨b, rb, S, v, h1, h2, h3, h4.sub (.cons_cons _ (.cons_cons _ (.cons_cons _ (.cons _ (List.Sublist.refl _)))))⟩
end Go.Proofs.Ytmdfickejpeofaa
