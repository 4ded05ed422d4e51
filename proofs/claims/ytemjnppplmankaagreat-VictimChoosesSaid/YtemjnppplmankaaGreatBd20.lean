/- What drumlinref21's functions answer of a pointer to an index, made or not: Slots, Slot, Of, Newest, Len. -/
import Derived.Test.YtemjnppplmankaaGreatBd19
import Derived.Test.YtemjnppplmankaaGreatBd16
import Derived.Test.YtemjnppplmankaaGreatBd15
import Derived.Test.YtemjnppplmankaaGreatBd14
set_option linter.unusedVariables false
set_option linter.unusedSimpArgs false
namespace Go.Proofs.YtemjnppplmankaaGreat
open Go.RowKit Go.Shelf
attribute [local go_sem] OvM cell_ovm obj_ovm
attribute [local go_sem] Oper.semAt_some

/-- A reference index that was made, in block rb. -/
def RPa (w : World) (rb : Nat) (X : IX) : Prop := ∃ v all, w.heap[rb]? = some (rmO X.slots.length v) ∧ X.slots ≠ [] ∧ Own w 89 6 v all.length (rowE all) ∧ X.Wf ∧ all.Perm X.ents ∧ all.length ≤ 1000
/-- A pointer to a reference index, made or nil. -/
def RP (w : World) (p : Option Addr) (X : IX) : Prop := (p = none ∧ X = ⟨[], []⟩) ∨ ∃ rb, p = some ⟨rb, 0, none⟩ ∧ RPa w rb X
theorem RPa.gr {w w' : World} {rb : Nat} {X : IX} (h : RPa w rb X) (g : Gr w w') : RPa w' rb X := by
  obtain ⟨v, all, h1, h2, h3, h4⟩ := h
  exact ⟨v, all, g.blk h1, h2, h3.gr g, h4⟩
theorem RP.gr {w w' : World} {p : Option Addr} {X : IX} (h : RP w p X) (g : Gr w w') : RP w' p X := h.imp (fun h => h) (fun ⟨rb, e, h⟩ => ⟨rb, e, h.gr g⟩)
theorem RPa.pos {w : World} {rb : Nat} {X : IX} (h : RPa w rb X) : (0 : Int) < X.slots.length := by
  obtain ⟨v, all, h1, h2, _⟩ := h
  have := List.length_pos_iff.2 h2
  omega
theorem RP.ok {w : World} {p : Option Addr} {X : IX} (h : RP w p X) : X.Wf := by
  rcases h with ⟨_, rfl⟩ | ⟨rb, _, v, all, _, _, _, h, _⟩
  · exact none_wf
  · exact h
theorem slot_no0 (s : Int) : (⟨[], []⟩ : IX).slot s = [] := by simp [IX.slot]
theorem of_no0 (k : ByteArray) : (⟨[], []⟩ : IX).of k = [] := rfl
theorem rvalid_no (w : World) : Calls Tryz.prog 35 #[.pointer none] w fun e w' => e = .returned (.bool false) ∧ w = w' := by
  go_enter Tryz.func35, Tryz.ntmps35
  go_wp2
  go_ret
  exact ⟨rfl, rfl⟩
theorem rpSlots {w : World} {p : Option Addr} {X : IX} (h : RP w p X) : Calls Tryz.prog 23 #[.pointer p] w fun e w' => e = .returned (.int .i64 X.slots.length) ∧ w = w' := by
  rcases h with ⟨rfl, rfl⟩ | ⟨rb, rfl, h⟩
  · go_enter Tryz.func23, Tryz.ntmps23
    go_wp2_with (go_at_call 35; refine Calls.mono (rvalid_no _) ?_; rintro e w1 ⟨rfl, rfl⟩)
    go_ret
    exact ⟨rfl, rfl⟩
  · have hN := h.pos
    obtain ⟨v, all, h1, _⟩ := h
    exact rSlots h1 hN
theorem rpOf {w : World} {p : Option Addr} {X : IX} (h : RP w p X) (k : ByteArray) : Calls Tryz.prog 121 #[.pointer p, .string k] w (OfP X k w) := by
  rcases h with ⟨rfl, rfl⟩ | ⟨rb, rfl, h⟩
  · have HE : Hid (∀ W, Gr w W → OfP ⟨[], []⟩ k w (.returned (.slice none 0 0)) W) := Lib.hid (fun W g => ⟨_, rfl, (Nw.nil w _ _).gr g, g⟩)
    generalize OfP ⟨[], []⟩ k w = Q at *
    go_enter Tryz.func121, Tryz.ntmps121
    go_wp2_with (go_at_call 35; refine Calls.mono (rvalid_no _) ?_; rintro e w1 ⟨rfl, rfl⟩)
    go_loopw [5, 6] (fun t5 t6 wx => t5 = .slice none 0 0 ∧ t6 = .slice none 0 0 ∧ Gr w wx) (fun _ t6 _ => match t6 with | .slice _ m _ => m | _ => 0)
    case atStart => exact ⟨rfl, rfl, by (repeat (first | (with_reducible exact Gr.refl _) | assumption | (with_reducible apply Gr.from_drew) | (with_reducible apply Gr.alloc) | (with_reducible apply Gr.drew) | (with_reducible refine Gr.trans ?_ (by assumption)) | (with_reducible refine Gr.setCell ?_ (by omega) _)))⟩
    case round =>
      obtain ⟨rfl, rfl, hg⟩ := hrel
      go_wp2_with fail
      exact HE.out _ hg
  · have hN := h.pos
    obtain ⟨v, all, h1, _, h3, h4, h5, h6⟩ := h
    exact rOf_any h1 hN h3 h4 h5 h6 k
theorem rpSlot {w : World} {p : Option Addr} {X : IX} (h : RP w p X) (s : Int) : Calls Tryz.prog 49 #[.pointer p, .int .i64 s] w (SlP X s w) := by
  rcases h with ⟨rfl, rfl⟩ | ⟨rb, rfl, h⟩
  · have HE : Hid (SlP ⟨[], []⟩ s w (.returned (.slice none 0 0)) w) := Lib.hid ⟨_, rfl, by rw [slot_no0]; exact Nw.nil w _ _, Gr.refl w⟩
    generalize SlP ⟨[], []⟩ s w = Q at *
    go_enter Tryz.func49, Tryz.ntmps49
    go_wp2_with (go_at_call 35; refine Calls.mono (rvalid_no _) ?_; rintro e w1 ⟨rfl, rfl⟩)
    exact HE.out
  · have hN := h.pos
    obtain ⟨v, all, h1, _, h3, h4, h5, h6⟩ := h
    exact rSlot_any h1 hN h3 h4 h5 h6 s
theorem Gr.cell6 {w w' : World} (g : Gr w w') {b : Nat} (h : w.heap.size ≤ b) (u0 u1 u2 u3 u4 u5 : Value) : Gr w ((((((w'.setCell ⟨b, 0, none⟩ u0).setCell ⟨b, 1, none⟩ u1).setCell ⟨b, 2, none⟩ u2).setCell ⟨b, 3, none⟩ u3).setCell ⟨b, 4, none⟩ u4).setCell ⟨b, 5, none⟩ u5) :=
  (g.cell5 h u0 u1 u2 u3 u4).setCell (p := ⟨b, 5, none⟩) h u5
set_option maxRecDepth 40000 in
set_option maxHeartbeats 4000000 in
theorem rpNewest {w : World} {p : Option Addr} {X : IX} (h : RP w p X) (k : ByteArray) : Calls Tryz.prog 84 #[.pointer p, .string k] w fun e w' => e = .returned (newV (X.of k)) ∧ Gr w w' := by
  have H := Lib.hid h
  clear h
  obtain ⟨w0, hw0⟩ : ∃ y, y = w.alloc (.cells #[.int .i64 0, .string ⟨#[]⟩, .bool false, .int .i64 0, .int .i64 0, .int .i64 0] 89) := ⟨_, rfl⟩
  obtain ⟨b4, hb4⟩ : ∃ q, q = w.heap.size := ⟨_, rfl⟩
  have HG0 : Hid (Gr w w0) := Lib.hid (by rw [hw0]; exact (Gr.refl w).alloc _)
  have HX0 : Hid (w0.heap[b4]? = some (.cells #[.int .i64 0, .string ⟨#[]⟩, .bool false, .int .i64 0, .int .i64 0, .int .i64 0] 89)) := Lib.hid (by rw [hw0, hb4]; exact blkNew _ _)
  have HBW : Hid (w.heap.size ≤ b4) := Lib.hid (Nat.le_of_eq hb4.symm)
  have HOF : Hid (∀ W, Gr w W → Calls Tryz.prog 121 #[.pointer p, .string k] W (fun e w' => ∃ v, e = .returned v ∧ Nw W w' 89 6 v (X.of k).length (rowE (X.of k)) ∧ Gr W w')) := Lib.hid (fun W g => rpOf (H.out.gr g) k)
  generalize X.of k = L at *
  clear H
  go_enter Tryz.func84, Tryz.ntmps84
  go_upto_region 2 with (first
    | (go_at_call 121; rw [← hw0, ← hb4]; clear hw0 hb4; refine Calls.mono (HOF.out _ HG0.out) ?_; rintro e w1 ⟨v, rfl, hn, hg⟩; have HN1 := Lib.hid hn; have HG1 := Lib.hid (HG0.out.trans hg); have HX1 := Lib.hid (hg.blk HX0.out); clear hn hg; obtain ⟨d4, f4⟩ := cellsOf HX1.out; obtain ⟨a1, c1, rfl, _, hm1, _⟩ := ownE_at HN1.out.own)
    | fail)
  rcases L with _ | ⟨x, L⟩
  · simp only [List.length_nil]
    have hb6 := blk6 (y0 := .int .i64 0) (y1 := .string ⟨#[]⟩) (y2 := .bool false) (y3 := .int .i64 0) (y4 := .int .i64 0) (y5 := .int .i64 0) HX1.out
    obtain ⟨d6, _⟩ := cellsOf hb6
    go_wp2_with fail
    refine bodyPost_ret (v := newV []) ?_ rfl ⟨rfl, HG1.out.cell6 HBW.out _ _ _ _ _ _⟩
    simp [results, Tryz.results84, go_sem, d6, newV, enV, zE]
  · obtain ⟨g1, rfl, hg1, y0, y1, y2, y3, y4, y5⟩ := ent6 HN1.out.own (i := 0) rfl
    simp only [Nat.zero_mul, Nat.zero_add] at y0 y1 y2 y3 y4 y5
    have hl : (0 : Int) < (x :: L).length := by simp
    have hl2 : (((x :: L).length : Int) == 0) = false := beq_false_of_ne (by omega)
    obtain ⟨n, hn⟩ : ∃ n, n = (x :: L).length := ⟨_, rfl⟩
    rw [← hn] at hl hl2 ⊢
    have hne : g1 ≠ b4 := fun e => by
      obtain ⟨cs, h⟩ := own_blk HN1.out.own (g := g1) rfl
      have h1 := HN1.out.new g1 rfl
      have h2 := blkLt HX0.out
      omega
    have hne' : b4 ≠ g1 := fun e => hne e.symm
    obtain ⟨x0, x1, x2, x3, x4, x5⟩ := x
    simp only at y0 y1 y2 y3 y4 y5
    go_upto_region 4 with fail
    go_wp2_with fail
    have hb6 := blk6 (y0 := .int .i64 x0) (y1 := .string x1) (y2 := .bool x2) (y3 := .int .i64 x3) (y4 := .int .i64 x4) (y5 := .int .i64 x5) HX1.out
    obtain ⟨d6, _⟩ := cellsOf hb6
    refine bodyPost_ret (v := newV (⟨x0, x1, x2, x3, x4, x5⟩ :: L)) ?_ rfl ⟨rfl, HG1.out.cell6 HBW.out _ _ _ _ _ _⟩
    simp [results, Tryz.results84, go_sem, d6, newV, enV]
end Go.Proofs.YtemjnppplmankaaGreat

/- drumlinref23's with, valid, Of, Sum, All over a reference index. -/
set_option linter.unusedVariables false
set_option linter.unusedSimpArgs false
namespace Go.Proofs.YtemjnppplmankaaGreat
open Go.RowKit Go.Shelf
attribute [local go_sem] OvM cell_ovm obj_ovm
attribute [local go_sem] Oper.semAt_some

/-- One more entry. -/
def wthB (X : IX) (b : By) (e : En) : By :=
  if classE X e = 0 then ⟨b.total + e.size, b.live + e.size, b.tombs, b.dead, max b.last e.seq⟩ else if classE X e = 1 then ⟨b.total + e.size, b.live, b.tombs + e.size, b.dead, max b.last e.seq⟩ else ⟨b.total + e.size, b.live, b.tombs, b.dead + e.size, max b.last e.seq⟩
def wthL (X : IX) (b : By) (l : List En) : By := l.foldl (wthB X) b
theorem wthL_snoc (X : IX) (b : By) (l : List En) (e : En) : wthL X b (l ++ [e]) = wthB X (wthL X b l) e := by simp [wthL]
def toBy (a : AccB) : By := ⟨a.l + a.t + a.d, a.l, a.t, a.d, a.last⟩
theorem wth_step (X : IX) (a : AccB) (e : En) : wthB X (toBy a) e = toBy (stepB X a e) := by
  unfold wthB stepB toBy
  (repeat' split) <;> simp only [By.mk.injEq, and_true, true_and] <;> omega
theorem wth_of (X : IX) (s : Int) : wthL X zBy (X.slot s) = byOf X s := by
  have h : ∀ (l : List En) (a : AccB), wthL X (toBy a) l = toBy (l.foldl (stepB X) a) := by
    intro l
    induction l with
    | nil => intro a; rfl
    | cons e l ih =>
      intro a
      show wthL X (wthB X (toBy a) e) l = _
      rw [wth_step, ih]
      rfl
  exact h (X.slot s) ⟨0, 0, 0, 0⟩
theorem addB_wth (X : IX) (b c : By) (e : En) : wthB X (addB b c) e = addB b (wthB X c e) := by
  obtain ⟨b1, b2, b3, b4, b5⟩ := b
  obtain ⟨c1, c2, c3, c4, c5⟩ := c
  unfold wthB addB
  by_cases h0 : classE X e = 0
  · simp only [if_pos h0]
    congr 1 <;> omega
  · by_cases h1 : classE X e = 1
    · simp only [if_neg h0, if_pos h1]
      congr 1 <;> omega
    · simp only [if_neg h0, if_neg h1]
      congr 1 <;> omega
theorem addB_wthL (X : IX) (b : By) : ∀ (l : List En) (c : By), wthL X (addB b c) l = addB b (wthL X c l)
  | [], c => rfl
  | e :: l, c => by
    show wthL X (wthB X (addB b c) e) l = addB b (wthL X (wthB X c e) l)
    rw [addB_wth, addB_wthL X b l]
theorem addB_zero {b : By} (h : 0 ≤ b.last) : addB b zBy = b := by
  unfold addB zBy
  obtain ⟨t, l, m, d, s⟩ := b
  simp only at h
  simp only [By.mk.injEq, Int.add_zero, true_and]
  omega
theorem wth_slot (X : IX) {b : By} (h : 0 ≤ b.last) (s : Int) : wthL X b (X.slot s) = addB b (byOf X s) := by
  rw [← wth_of, ← addB_wthL, addB_zero h]
theorem wth_le {X : IX} {b : By} {M : Int} {e : En} (h : ByLe b M) (hv : validE e = true) : ByLe (wthB X b e) (M + 8192) := by
  have hv := (valid_iff e).1 hv
  obtain ⟨h1, h2, h3, h4, h5⟩ := h
  unfold wthB
  (repeat' split) <;> exact ⟨by simp only; omega, by simp only; omega, by simp only; omega, by simp only; omega, by simp only; omega⟩
theorem wthL_le {X : IX} : ∀ (l : List En) {b : By} {M : Int}, ByLe b M → (∀ e ∈ l, validE e = true) → ByLe (wthL X b l) (M + 8192 * l.length)
  | [], b, M, h, _ => by simpa [wthL] using h
  | e :: l, b, M, h, hv => by
    have := wthL_le (X := X) l (wth_le (X := X) h (hv e (List.mem_cons_self ..))) (fun x hx => hv x (List.mem_cons_of_mem _ hx))
    rw [List.length_cons, show M + 8192 * ((l.length + 1 : Nat) : Int) = M + 8192 + 8192 * l.length by omega]
    exact this
theorem zBy_le : ByLe zBy 0 := ⟨by simp [zBy], by simp [zBy], by simp [zBy], by simp [zBy], by simp [zBy]⟩
theorem maxI (a b : Int) : (if a < b then b else a) = max a b := by split <;> omega
set_option maxRecDepth 40000 in
set_option maxHeartbeats 4000000 in
theorem rWith {w : World} {p : Option Addr} {X : IX} (h : RP w p X) (b : By) (e : En) (hb : ByLe b 1000000000) (hv : validE e = true) : Calls Tryz.prog 50 #[byV b, .pointer p, enV e] w fun r w' => r = .returned (byV (wthB X b e)) ∧ Gr w w' := by
  have HNW : Hid (∀ W, Gr w W → Calls Tryz.prog 84 #[.pointer p, .string e.key] W fun r w' => r = .returned (.tuple #[enV (newE (X.of e.key)), .bool (!(X.of e.key).isEmpty)]) ∧ Gr W w') := Lib.hid (fun W g => by rw [← newV_by]; exact rpNewest (h.gr g) e.key)
  have HCL : Hid (classE X e = if (newE (X.of e.key)).seq = e.seq then (if e.del = true then 1 else 0) else 2) := Lib.hid rfl
  have HWB : Hid (wthB X b e = if classE X e = 0 then ⟨b.total + e.size, b.live + e.size, b.tombs, b.dead, max b.last e.seq⟩ else if classE X e = 1 then ⟨b.total + e.size, b.live, b.tombs + e.size, b.dead, max b.last e.seq⟩ else ⟨b.total + e.size, b.live, b.tombs, b.dead + e.size, max b.last e.seq⟩) := Lib.hid rfl
  have hv := (valid_iff e).1 hv
  obtain ⟨_, _, hq, _, hz0, _, hz1, _⟩ := hv
  obtain ⟨⟨t0, t1⟩, ⟨l0, l1⟩, ⟨m0, m1⟩, ⟨d0, d1⟩, s0, s1⟩ := hb
  generalize wthB X b e = V at *
  generalize classE X e = K at *
  obtain ⟨B, hB⟩ : ∃ B : Bool, B = !(X.of e.key).isEmpty := ⟨_, rfl⟩
  rw [← hB] at HNW
  clear hB
  generalize newE (X.of e.key) = y at *
  clear h
  obtain ⟨bt, bl, bm, bd, bs⟩ := b
  obtain ⟨e0, e1, e2, e3, e4, e5⟩ := e
  obtain ⟨y0, y1, y2, y3, y4, y5⟩ := y
  simp only [enV, byV] at *
  have hz2 : 0 ≤ e5 := by omega
  clear hz0
  obtain ⟨b3, hb3⟩ : ∃ q, q = w.heap.size := ⟨_, rfl⟩
  obtain ⟨w1, hw1⟩ : ∃ x, x = ((w.alloc (.cells #[.int .i64 bt, .int .i64 bl, .int .i64 bm, .int .i64 bd, .int .i64 bs] 69)).alloc (.cells #[.int .i64 e0, .string e1, .bool e2, .int .i64 e3, .int .i64 e4, .int .i64 e5] 89)).alloc (.cells #[.int .i64 0, .int .i64 0, .int .i64 0, .int .i64 0, .int .i64 0] 69) := ⟨_, rfl⟩
  have HX : Hid (∀ W, Gr w1 W → W.heap[b3]? = some (.cells #[.int .i64 bt, .int .i64 bl, .int .i64 bm, .int .i64 bd, .int .i64 bs] 69) ∧ W.heap[b3 + 1]? = some (.cells #[.int .i64 e0, .string e1, .bool e2, .int .i64 e3, .int .i64 e4, .int .i64 e5] 89) ∧ W.heap[b3 + 1 + 1]? = some (.cells #[.int .i64 0, .int .i64 0, .int .i64 0, .int .i64 0, .int .i64 0] 69)) := Lib.hid (fun W g => by
    refine ⟨g.blk ?_, g.blk ?_, g.blk ?_⟩
    · rw [hw1, hb3]; exact blkOld (blkOld (blkNew _ _))
    · rw [hw1, hb3]
      refine blkOld ?_
      have := blkNew (w.alloc (.cells #[.int .i64 bt, .int .i64 bl, .int .i64 bm, .int .i64 bd, .int .i64 bs] 69)) (.cells #[.int .i64 e0, .string e1, .bool e2, .int .i64 e3, .int .i64 e4, .int .i64 e5] 89)
      rwa [World.size_alloc] at this
    · rw [hw1, hb3]
      have := blkNew ((w.alloc (.cells #[.int .i64 bt, .int .i64 bl, .int .i64 bm, .int .i64 bd, .int .i64 bs] 69)).alloc (.cells #[.int .i64 e0, .string e1, .bool e2, .int .i64 e3, .int .i64 e4, .int .i64 e5] 89)) (.cells #[.int .i64 0, .int .i64 0, .int .i64 0, .int .i64 0, .int .i64 0] 69)
      rwa [World.size_alloc, World.size_alloc] at this)
  have HG1 : Hid (Gr w w1) := Lib.hid (by rw [hw1]; exact (((Gr.refl w).alloc _).alloc _).alloc _)
  have hle : w.heap.size ≤ b3 := by omega
  go_enter Tryz.func50, Tryz.ntmps50
  go_upto_region 1 with fail
  (try simp only [World.size_alloc])
  rw [← hw1, ← hb3]
  clear hw1 hb3
  have q5 := (cellsOf (HX.out _ (Gr.refl _)).2.1).1
  have q51 := (q5 1).trans (show _ = some (Value.string e1) from rfl)
  clear q5
  go_upto_region 2 with (first
    | (go_at_call 84; refine Calls.mono (HNW.out _ HG1.out) ?_; rintro r w2 ⟨rfl, hg⟩; have HG2 := Lib.hid hg; clear hg q51)
    | fail)
  obtain ⟨b7, hb7⟩ : ∃ q, q = w2.heap.size := ⟨_, rfl⟩
  obtain ⟨w3, hw3⟩ : ∃ x, x = w2.alloc (.cells #[.int .i64 y0, .string y1, .bool y2, .int .i64 y3, .int .i64 y4, .int .i64 y5] 89) := ⟨_, rfl⟩
  have HX7 : Hid (w3.heap[b7]? = some (.cells #[.int .i64 y0, .string y1, .bool y2, .int .i64 y3, .int .i64 y4, .int .i64 y5] 89)) := Lib.hid (by rw [hb7, hw3]; exact blkNew _ _)
  have HG3 : Hid (Gr w1 w3) := Lib.hid (by rw [hw3]; exact HG2.out.alloc _)
  rw [← hb7, ← hw3]
  have n37 : b7 ≠ b3 := by
    have := blkLt (HX.out _ HG2.out).1
    omega
  have n57 : b7 ≠ b3 + 1 := by
    have := blkLt (HX.out _ HG2.out).2.1
    omega
  have n67 : b7 ≠ b3 + 1 + 1 := by
    have := blkLt (HX.out _ HG2.out).2.2
    omega
  clear hb7 hw3
  obtain ⟨r1, r2, r3⟩ := HX.out _ HG3.out
  have HR := Lib.hid (And.intro r1 (And.intro r2 r3))
  obtain ⟨g3, f3⟩ := cellsOf r1
  obtain ⟨g5, f5⟩ := cellsOf r2
  obtain ⟨g6, f6⟩ := cellsOf r3
  have g7 := (cellsOf HX7.out).1
  clear r1 r2 r3
  by_cases hy : y0 = e0
  · have hyb : (y0 != e0) = false := by simp [hy]
    cases e2 with
    | true =>
      have HV : Hid (V = ⟨bt + e5, bl, bm + e5, bd, max bs e0⟩) := Lib.hid (by rw [HWB.out, HCL.out, if_pos hy, if_pos rfl, if_neg (by decide), if_pos rfl])
      clear hy
      repeat (first | go_values | go_skip | go_guarded | go_step | go_upon)
      have hm : ((((w3.setCell ⟨b3, 0, none⟩ (.int .i64 (bt + e5))).setCell ⟨b3, 4, none⟩ (.int .i64 (if bs < e0 then e0 else bs))).setCell ⟨b3, 2, none⟩ (.int .i64 (bm + e5)))).heap[b3 + 1 + 1]? = some (.cells #[.int .i64 0, .int .i64 0, .int .i64 0, .int .i64 0, .int .i64 0] 69) := ((((Mdh.refl (fun k => k = b3) w3).setCell (p := ⟨b3, 0, none⟩) rfl _).setCell (p := ⟨b3, 4, none⟩) rfl _).setCell (p := ⟨b3, 2, none⟩) rfl _).blk HR.out.2.2 (by omega)
      have hb6 := blk5 hm (.int .i64 (bt + e5)) (.int .i64 (bl)) (.int .i64 (bm + e5)) (.int .i64 (bd)) (.int .i64 (if bs < e0 then e0 else bs))
      obtain ⟨d6, _⟩ := cellsOf hb6
      simp only [maxI] at d6
      refine bodyPost_ret (v := byV V) ?_ rfl ⟨rfl, ?_⟩
      · simp [results, Tryz.results50, go_sem, d6, HV.out, byV, maxI]
      · exact ((((((((HG1.out.trans HG3.out).setCell (p := ⟨b3, 0, none⟩) hle _).setCell (p := ⟨b3, 4, none⟩) hle _).setCell (p := ⟨b3, 2, none⟩) hle _).setCell (p := ⟨b3 + 1 + 1, 0, none⟩) (by show w.heap.size ≤ b3 + 1 + 1; omega) _).setCell (p := ⟨b3 + 1 + 1, 1, none⟩) (by show w.heap.size ≤ b3 + 1 + 1; omega) _).setCell (p := ⟨b3 + 1 + 1, 2, none⟩) (by show w.heap.size ≤ b3 + 1 + 1; omega) _).setCell (p := ⟨b3 + 1 + 1, 3, none⟩) (by show w.heap.size ≤ b3 + 1 + 1; omega) _).setCell (p := ⟨b3 + 1 + 1, 4, none⟩) (by show w.heap.size ≤ b3 + 1 + 1; omega) _
    | false =>
      have HV : Hid (V = ⟨bt + e5, bl + e5, bm, bd, max bs e0⟩) := Lib.hid (by rw [HWB.out, HCL.out, if_pos hy, if_neg Bool.false_ne_true, if_pos rfl])
      clear hy
      repeat (first | go_values | go_skip | go_guarded | go_step | go_upon)
      have hm : ((((w3.setCell ⟨b3, 0, none⟩ (.int .i64 (bt + e5))).setCell ⟨b3, 4, none⟩ (.int .i64 (if bs < e0 then e0 else bs))).setCell ⟨b3, 1, none⟩ (.int .i64 (bl + e5)))).heap[b3 + 1 + 1]? = some (.cells #[.int .i64 0, .int .i64 0, .int .i64 0, .int .i64 0, .int .i64 0] 69) := ((((Mdh.refl (fun k => k = b3) w3).setCell (p := ⟨b3, 0, none⟩) rfl _).setCell (p := ⟨b3, 4, none⟩) rfl _).setCell (p := ⟨b3, 1, none⟩) rfl _).blk HR.out.2.2 (by omega)
      have hb6 := blk5 hm (.int .i64 (bt + e5)) (.int .i64 (bl + e5)) (.int .i64 (bm)) (.int .i64 (bd)) (.int .i64 (if bs < e0 then e0 else bs))
      obtain ⟨d6, _⟩ := cellsOf hb6
      simp only [maxI] at d6
      refine bodyPost_ret (v := byV V) ?_ rfl ⟨rfl, ?_⟩
      · simp [results, Tryz.results50, go_sem, d6, HV.out, byV, maxI]
      · exact ((((((((HG1.out.trans HG3.out).setCell (p := ⟨b3, 0, none⟩) hle _).setCell (p := ⟨b3, 4, none⟩) hle _).setCell (p := ⟨b3, 1, none⟩) hle _).setCell (p := ⟨b3 + 1 + 1, 0, none⟩) (by show w.heap.size ≤ b3 + 1 + 1; omega) _).setCell (p := ⟨b3 + 1 + 1, 1, none⟩) (by show w.heap.size ≤ b3 + 1 + 1; omega) _).setCell (p := ⟨b3 + 1 + 1, 2, none⟩) (by show w.heap.size ≤ b3 + 1 + 1; omega) _).setCell (p := ⟨b3 + 1 + 1, 3, none⟩) (by show w.heap.size ≤ b3 + 1 + 1; omega) _).setCell (p := ⟨b3 + 1 + 1, 4, none⟩) (by show w.heap.size ≤ b3 + 1 + 1; omega) _
  · have hyb : (y0 != e0) = true := by simp [hy]
    have HV : Hid (V = ⟨bt + e5, bl, bm, bd + e5, max bs e0⟩) := Lib.hid (by rw [HWB.out, HCL.out, if_neg hy, if_neg (by decide), if_neg (by decide)])
    clear hy
    repeat (first | go_values | go_skip | go_guarded | go_step | go_upon)
    have hm : ((((w3.setCell ⟨b3, 0, none⟩ (.int .i64 (bt + e5))).setCell ⟨b3, 4, none⟩ (.int .i64 (if bs < e0 then e0 else bs))).setCell ⟨b3, 3, none⟩ (.int .i64 (bd + e5)))).heap[b3 + 1 + 1]? = some (.cells #[.int .i64 0, .int .i64 0, .int .i64 0, .int .i64 0, .int .i64 0] 69) := ((((Mdh.refl (fun k => k = b3) w3).setCell (p := ⟨b3, 0, none⟩) rfl _).setCell (p := ⟨b3, 4, none⟩) rfl _).setCell (p := ⟨b3, 3, none⟩) rfl _).blk HR.out.2.2 (by omega)
    have hb6 := blk5 hm (.int .i64 (bt + e5)) (.int .i64 (bl)) (.int .i64 (bm)) (.int .i64 (bd + e5)) (.int .i64 (if bs < e0 then e0 else bs))
    obtain ⟨d6, _⟩ := cellsOf hb6
    simp only [maxI] at d6
    refine bodyPost_ret (v := byV V) ?_ rfl ⟨rfl, ?_⟩
    · simp [results, Tryz.results50, go_sem, d6, HV.out, byV, maxI]
    · exact ((((((((HG1.out.trans HG3.out).setCell (p := ⟨b3, 0, none⟩) hle _).setCell (p := ⟨b3, 4, none⟩) hle _).setCell (p := ⟨b3, 3, none⟩) hle _).setCell (p := ⟨b3 + 1 + 1, 0, none⟩) (by show w.heap.size ≤ b3 + 1 + 1; omega) _).setCell (p := ⟨b3 + 1 + 1, 1, none⟩) (by show w.heap.size ≤ b3 + 1 + 1; omega) _).setCell (p := ⟨b3 + 1 + 1, 2, none⟩) (by show w.heap.size ≤ b3 + 1 + 1; omega) _).setCell (p := ⟨b3 + 1 + 1, 3, none⟩) (by show w.heap.size ≤ b3 + 1 + 1; omega) _).setCell (p := ⟨b3 + 1 + 1, 4, none⟩) (by show w.heap.size ≤ b3 + 1 + 1; omega) _
end Go.Proofs.YtemjnppplmankaaGreat

/- drumlinref23's valid, Of and Sum over a reference index. Printed by rlq.py. -/
set_option linter.unusedVariables false
set_option linter.unusedSimpArgs false
namespace Go.Proofs.YtemjnppplmankaaGreat
open Go.RowKit Go.Shelf
attribute [local go_sem] OvM cell_ovm obj_ovm
attribute [local go_sem] Oper.semAt_some

abbrev byO (b : By) : Obj := .cells #[.int .i64 b.total, .int .i64 b.live, .int .i64 b.tombs, .int .i64 b.dead, .int .i64 b.last] 69
theorem rValid23 {w : World} {p : Option Addr} {X : IX} (h : RP w p X) : Calls Tryz.prog 48 #[.pointer p] w fun e w' => e = .returned (.bool (decide (X.slots.length ≠ 0))) ∧ w = w' := by
  have HS := Lib.hid (rpSlots h)
  rcases h with ⟨rfl, rfl⟩ | ⟨rb, rfl, h⟩
  · go_enter Tryz.func48, Tryz.ntmps48
    go_wp2
    go_ret
    exact ⟨rfl, rfl⟩
  · have hN := h.pos
    have hz : decide (X.slots.length ≠ 0) = true := decide_eq_true (by omega)
    rw [hz]
    clear h hz
    generalize X.slots.length = n at *
    go_enter Tryz.func48, Tryz.ntmps48
    go_wp2_with (go_at_call 23; refine Calls.mono HS.out ?_; rintro e w1 ⟨rfl, rfl⟩)
    go_ret
    exact ⟨ret_bool (decide_eq_true (by omega)), rfl⟩
set_option maxRecDepth 40000 in
set_option maxHeartbeats 8000000 in
theorem rOf23 {w : World} {p : Option Addr} {X : IX} (h : RP w p X) (s : Int) : Calls Tryz.prog 25 #[.pointer p, .int .i64 s] w fun e w' => e = .returned (.tuple #[byV (ofL X s).1, .int .i64 (ofL X s).2]) ∧ Gr w w' := by
  have HOF : Hid (ofL X s = if X.slots.length = 0 then (zBy, 1) else if s < 0 ∨ (X.slots.length : Int) ≤ s then (zBy, 3) else (byOf X s, 0)) := Lib.hid rfl
  have HRP := Lib.hid h
  have HVA := Lib.hid (fun W (g : Gr w W) => rValid23 (h.gr g))
  have HSL := Lib.hid (fun W (g : Gr w W) => rpSlots (h.gr g))
  have HST : Hid (∀ W, Gr w W → Calls Tryz.prog 49 #[.pointer p, .int .i64 s] W (fun e w' => ∃ v, e = .returned v ∧ Nw W w' 89 6 v (X.slot s).length (rowE (X.slot s)) ∧ Gr W w')) := Lib.hid (fun W g => rpSlot (h.gr g) s)
  have hsl := h.ok.slot_le s
  have HVL := Lib.hid (fun e he => ((h.ok.slotOk s).e e he).2)
  have HWS := Lib.hid (wth_of X s)
  clear h
  obtain ⟨w0, hw0⟩ : ∃ y, y = w.alloc (.cells #[.int .i64 0, .int .i64 0, .int .i64 0, .int .i64 0, .int .i64 0] 69) := ⟨_, rfl⟩
  obtain ⟨b4, hb4⟩ : ∃ q, q = w.heap.size := ⟨_, rfl⟩
  have HG0 : Hid (Gr w w0) := Lib.hid (by rw [hw0]; exact (Gr.refl w).alloc _)
  have HX0 : Hid (w0.heap[b4]? = some (.cells #[.int .i64 0, .int .i64 0, .int .i64 0, .int .i64 0, .int .i64 0] 69)) := Lib.hid (by rw [hw0, hb4]; exact blkNew _ _)
  have HBW : Hid (w.heap.size ≤ b4) := Lib.hid (Nat.le_of_eq hb4.symm)
  obtain ⟨V, hV⟩ : ∃ V, V = Value.tuple #[byV (ofL X s).1, .int .i64 (ofL X s).2] := ⟨_, rfl⟩
  have HV := Lib.hid hV
  rw [← hV]
  clear hV
  generalize X.slots.length = n at *
  by_cases hn : n = 0
  · have HV1 : Hid (V = .tuple #[.agg #[.int .i64 0, .int .i64 0, .int .i64 0, .int .i64 0, .int .i64 0], .int .i64 1]) := Lib.hid (by rw [HV.out, HOF.out, if_pos hn]; rfl)
    subst hn
    go_enter Tryz.func25, Tryz.ntmps25
    go_upto_region 1 with fail
    rw [← hw0, ← hb4]
    clear hw0 hb4
    go_upto_region 2 with (first | (go_at_call 48; refine Calls.mono (HVA.out _ HG0.out) ?_; rintro e w1 ⟨rfl, rfl⟩) | fail)
    obtain ⟨d4, f4⟩ := cellsOf HX0.out
    repeat (first | go_values | go_skip | go_guarded | go_step | go_upon)
    have hb4 := blk5 HX0.out (.int .i64 zBy.total) (.int .i64 zBy.live) (.int .i64 zBy.tombs) (.int .i64 zBy.dead) (.int .i64 zBy.last)
    obtain ⟨d4', _⟩ := cellsOf hb4
    refine bodyPost_ret (v := V) ?_ rfl ⟨rfl, HG0.out.cell5 HBW.out _ _ _ _ _⟩
    (try simp only [zBy] at d4')
    simp [results, Tryz.results25, go_sem, d4', HV1.out]
  · have hnz : decide (n ≠ 0) = true := decide_eq_true hn
    rw [hnz] at HVA
    by_cases hb : s < 0 ∨ (n : Int) ≤ s
    · have HV1 : Hid (V = .tuple #[.agg #[.int .i64 0, .int .i64 0, .int .i64 0, .int .i64 0, .int .i64 0], .int .i64 3]) := Lib.hid (by rw [HV.out, HOF.out, if_neg hn, if_pos hb]; rfl)
      by_cases hs0 : s < 0
      · clear hn hb hnz
        go_enter Tryz.func25, Tryz.ntmps25
        go_upto_region 1 with fail
        rw [← hw0, ← hb4]
        clear hw0 hb4
        go_upto_region 4 with (first | (go_at_call 48; refine Calls.mono (HVA.out _ HG0.out) ?_; rintro e w1 ⟨rfl, rfl⟩) | (go_at_call 23; refine Calls.mono (HSL.out _ HG0.out) ?_; rintro e w1 ⟨rfl, rfl⟩) | fail)
        obtain ⟨d4, f4⟩ := cellsOf HX0.out
        repeat (first | go_values | go_skip | go_guarded | go_step | go_upon)
        have hb4 := blk5 HX0.out (.int .i64 zBy.total) (.int .i64 zBy.live) (.int .i64 zBy.tombs) (.int .i64 zBy.dead) (.int .i64 zBy.last)
        obtain ⟨d4', _⟩ := cellsOf hb4
        refine bodyPost_ret (v := V) ?_ rfl ⟨rfl, HG0.out.cell5 HBW.out _ _ _ _ _⟩
        (try simp only [zBy] at d4')
        simp [results, Tryz.results25, go_sem, d4', HV1.out]
      · have hs1 : (n : Int) ≤ s := by omega
        clear hn hb hnz
        go_enter Tryz.func25, Tryz.ntmps25
        go_upto_region 1 with fail
        rw [← hw0, ← hb4]
        clear hw0 hb4
        go_upto_region 4 with (first | (go_at_call 48; refine Calls.mono (HVA.out _ HG0.out) ?_; rintro e w1 ⟨rfl, rfl⟩) | (go_at_call 23; refine Calls.mono (HSL.out _ HG0.out) ?_; rintro e w1 ⟨rfl, rfl⟩) | fail)
        obtain ⟨d4, f4⟩ := cellsOf HX0.out
        repeat (first | go_values | go_skip | go_guarded | go_step | go_upon)
        have hb4 := blk5 HX0.out (.int .i64 zBy.total) (.int .i64 zBy.live) (.int .i64 zBy.tombs) (.int .i64 zBy.dead) (.int .i64 zBy.last)
        obtain ⟨d4', _⟩ := cellsOf hb4
        refine bodyPost_ret (v := V) ?_ rfl ⟨rfl, HG0.out.cell5 HBW.out _ _ _ _ _⟩
        (try simp only [zBy] at d4')
        simp [results, Tryz.results25, go_sem, d4', HV1.out]
    · have hs0 : ¬ s < 0 := by omega
      have hs1 : ¬ (n : Int) ≤ s := by omega
      have HV1 : Hid (V = .tuple #[byV (byOf X s), .int .i64 0]) := Lib.hid (by rw [HV.out, HOF.out, if_neg hn, if_neg hb])
      rw [← HWS.out] at HV1
      clear hn hb hnz HOF HV HWS
      go_enter Tryz.func25, Tryz.ntmps25
      go_upto_region 1 with fail
      rw [← hw0, ← hb4]
      clear hw0 hb4
      go_upto_region 6 with (first | (go_at_call 48; refine Calls.mono (HVA.out _ HG0.out) ?_; rintro e w1 ⟨rfl, rfl⟩) | (go_at_call 23; refine Calls.mono (HSL.out _ HG0.out) ?_; rintro e w1 ⟨rfl, rfl⟩) | fail)
      obtain ⟨b6, hb6⟩ : ∃ q, q = w0.heap.size := ⟨_, rfl⟩
      obtain ⟨w5, hw5⟩ : ∃ y, y = w0.alloc (.cells #[.int .i64 0, .int .i64 0, .int .i64 0, .int .i64 0, .int .i64 0] 69) := ⟨_, rfl⟩
      have HX5 : Hid (Gr w w5 ∧ w5.heap[b4]? = some (.cells #[.int .i64 0, .int .i64 0, .int .i64 0, .int .i64 0, .int .i64 0] 69) ∧ w5.heap[b6]? = some (.cells #[.int .i64 0, .int .i64 0, .int .i64 0, .int .i64 0, .int .i64 0] 69)) := Lib.hid (by rw [hw5, hb6]; exact ⟨HG0.out.alloc _, blkOld HX0.out, blkNew _ _⟩)
      have n46 : b4 ≠ b6 := by
        have := blkLt HX0.out
        omega
      have HBW6 : Hid (w.heap.size ≤ b6) := Lib.hid (by have := HG0.out.sz; omega)
      rw [← hw5, ← hb6]
      clear hw5 hb6
      go_wp2_with fail
      refine Calls.mono (HST.out _ HX5.out.1) ?_
      rintro r w6 ⟨v, rfl, hn, hg⟩
      have HN6 := Lib.hid hn
      have HX6 : Hid (Gr w w6 ∧ w6.heap[b4]? = some (.cells #[.int .i64 0, .int .i64 0, .int .i64 0, .int .i64 0, .int .i64 0] 69) ∧ w6.heap[b6]? = some (.cells #[.int .i64 0, .int .i64 0, .int .i64 0, .int .i64 0, .int .i64 0] 69)) := Lib.hid ⟨HX5.out.1.trans hg, hg.blk HX5.out.2.1, hg.blk HX5.out.2.2⟩
      clear hn hg
      generalize X.slot s = L at *
      obtain ⟨av, cv, rfl, _, hcv, _⟩ := ownE_at HN6.out.own
      unfold maxLen at hcv
      have HNE : Hid ((Value.slice av L.length cv).ownBlock ≠ some b6) := Lib.hid (fun h => by have h1 := HN6.out.new b6 h; have h2 := blkLt HX5.out.2.2; omega)
      obtain ⟨B0, hB0⟩ : ∃ B0, B0 = zBy := ⟨_, rfl⟩
      have HB0 : Hid (ByLe B0 0) := Lib.hid (by rw [hB0]; exact zBy_le)
      rw [← hB0] at HV1
      have HSTART : Hid (Gr w w6 ∧ w6.heap[b4]? = some (.cells #[.int .i64 0, .int .i64 0, .int .i64 0, .int .i64 0, .int .i64 0] 69) ∧ w6.heap[b6]? = some (byO (wthL X B0 (L.take 0))) ∧ Own w6 89 6 (.slice av L.length cv) L.length (rowE L)) := Lib.hid ⟨HX6.out.1, HX6.out.2.1, by rw [hB0]; exact HX6.out.2.2, HN6.out.own⟩
      clear hB0
      go_wp2_with fail
      go_loopw [8] (fun t8 wx => ∃ i : Nat, i ≤ L.length ∧ t8 = .int .i64 i ∧ Hid (Gr w wx ∧ wx.heap[b4]? = some (.cells #[.int .i64 0, .int .i64 0, .int .i64 0, .int .i64 0, .int .i64 0] 69) ∧ wx.heap[b6]? = some (byO (wthL X B0 (L.take i))) ∧ Own wx 89 6 (.slice av L.length cv) L.length (rowE L))) (fun t8 _ => L.length - (intOf t8).toNat)
      case atStart => exact ⟨0, by omega, by go_num, HSTART⟩
      case round =>
        obtain ⟨i, hil, rfl, HR⟩ := hrel
        by_cases hlt : i < L.length
        · have hlt' : (i : Int) < L.length := by omega
          obtain ⟨x, hx⟩ : ∃ x, L[i]? = some x := ⟨_, List.getElem?_eq_getElem hlt⟩
          have hvx := HVL.out x (List.mem_of_getElem? hx)
          have HTK : Hid (wthL X B0 (L.take (i + 1)) = wthB X (wthL X B0 (L.take i)) x) := Lib.hid (by rw [List.take_add_one, hx]; exact wthL_snoc X B0 _ x)
          have hle := wthL_le (X := X) (L.take i) HB0.out (fun e he => HVL.out e (List.mem_of_mem_take he))
          have hlen : (L.take i).length ≤ 512 := by rw [List.length_take]; omega
          have HWI := Lib.hid (fun W (g : Gr w W) => rWith (HRP.out.gr g) (wthL X B0 (L.take i)) x ⟨⟨hle.t.1, by have := hle.t.2; omega⟩, ⟨hle.l.1, by have := hle.l.2; omega⟩, ⟨hle.m.1, by have := hle.m.2; omega⟩, ⟨hle.d.1, by have := hle.d.2; omega⟩, hle.s⟩ hvx)
          have HB6 := Lib.hid HR.out.2.2.1
          generalize wthB X (wthL X B0 (L.take i)) x = b' at *
          generalize wthL X B0 (L.take i) = b at *
          obtain ⟨g0, hg0e, hg0, y0, y1, y2, y3, y4, y5⟩ := ent6 HR.out.2.2.2 hx
          have HGN : Hid (∀ W, Gr wr W → W.heap[b6]? = some (byO b)) := Lib.hid (fun W g => g.blk HB6.out)
          obtain ⟨x0, x1, x2, x3, x4, x5⟩ := x
          obtain ⟨q0, q1, q2, q3, q4⟩ := b
          simp only [enV, byV] at HWI
          simp only at y0 y1 y2 y3 y4 y5
          simp only [byO] at HGN
          have d6 := (cellsOf (HGN.out _ (Gr.refl _))).1
          have lb6 := blkLt (HGN.out _ (Gr.refl _))
          have hne6 : g0 ≠ b6 := fun e => HNE.out (by rw [hg0e, e]; rfl)
          subst hg0e
          clear hx hle hvx
          go_wp2_with fail
          refine wp_region_flo (fun k => k = b6) [] [32] (by kernel_rfl) (by kernel_rfl) (fun k hk => by subst hk; exact lb6) ?_
          refine flo_eff rfl rfl rfl rfl (fun K hK => ?_)
          go_wp2
          refine ⟨by exact Mdh.refl _ _, ?_⟩
          refine flo_seg 5 rfl ?_
          simp only [List.take_succ_cons, List.take_zero, List.drop_succ_cons, List.drop_zero]
          repeat (go_big_quiet_step (fail))
          refine wpQuiet_nil ?_
          refine flo_eff rfl rfl rfl rfl (fun K hK => ?_)
          go_wp2_with ((go_at_call 50; refine Calls.mono (HWI.out _ (HR.out.1.trans (Gr.refl wr).drew)) ?_; rintro r w8 ⟨rfl, hg⟩; have HG8 := Lib.hid hg; (obtain ⟨d8, f8⟩ := cellsOf (HGN.out _ ((Gr.refl wr).drew.trans hg))); clear hg))
          refine ⟨by exact HG8.out.mdh _, ?_⟩
          refine flo_eff rfl rfl rfl rfl (fun K hK => ?_)
          go_wp2
          refine ⟨by (first | (refine Gr.mdh ?_ _; (repeat (first | (with_reducible exact Gr.refl _) | assumption | (with_reducible apply Gr.from_drew) | (with_reducible apply Gr.alloc) | (with_reducible apply Gr.drew) | (with_reducible refine Gr.trans ?_ (by assumption)) | (with_reducible refine Gr.setCell ?_ (by omega) _))); done) | (repeat (first | (with_reducible exact Mdh.refl _ _) | (with_reducible refine Mdh.setCell ?_ (by simp) _) | (with_reducible refine Mdh.setNew ?_ (by simp) _) | (with_reducible apply Mdh.alloc) | (with_reducible apply Mdh.from_drew) | (with_reducible apply Mdh.drew) | (with_reducible refine Mdh.gr ?_ (by assumption))))), ?_⟩
          refine flo_nil ?_
          obtain ⟨W9, hW9⟩ : ∃ y, y = (((((w8.setCell ⟨b6, 0, none⟩ (.int .i64 b'.total)).setCell ⟨b6, 1, none⟩ (.int .i64 b'.live)).setCell ⟨b6, 2, none⟩ (.int .i64 b'.tombs)).setCell ⟨b6, 3, none⟩ (.int .i64 b'.dead)).setCell ⟨b6, 4, none⟩ (.int .i64 b'.last)) := ⟨_, rfl⟩
          have HM9 : Hid (Mdh (fun k => k = b6) w8 W9) := Lib.hid (by rw [hW9]; exact (((((Mdh.refl (fun k => k = b6) w8).setCell (p := ⟨b6, 0, none⟩) rfl _).setCell (p := ⟨b6, 1, none⟩) rfl _).setCell (p := ⟨b6, 2, none⟩) rfl _).setCell (p := ⟨b6, 3, none⟩) rfl _).setCell (p := ⟨b6, 4, none⟩) rfl _)
          have HG9 : Hid (Gr w W9) := Lib.hid (by rw [hW9]; exact ((HR.out.1.trans (Gr.refl wr).drew).trans HG8.out).cell5 HBW6.out _ _ _ _ _)
          have HB9 : Hid (W9.heap[b6]? = some (byO b')) := Lib.hid (by rw [hW9]; exact blk5 (HGN.out _ ((Gr.refl wr).drew.trans HG8.out)) _ _ _ _ _)
          have HS9 := Lib.hid (And.intro HG9.out (And.intro (HM9.out.blk (((Gr.refl wr).drew.trans HG8.out).blk HR.out.2.1) n46) (And.intro HB9.out ((HR.out.2.2.2.gr ((Gr.refl wr).drew.trans HG8.out)).mdh HM9.out (fun q hq hk => HNE.out (hk ▸ hq))))))
          rw [← hW9]
          clear hW9 d6 d8 f8 y0 y1 y2 y3 y4 y5
          go_wp2_with fail
          go_roundw
          case rel => exact ⟨i + 1, by omega, by go_num, Lib.hid ⟨HS9.out.1, HS9.out.2.1, by rw [HTK.out]; exact HS9.out.2.2.1, HS9.out.2.2.2⟩⟩
          case measure => simp [intOf]; omega
        · have hlt' : ¬ (i : Int) < L.length := by omega
          have HNZ : Hid (L.take i = L) := Lib.hid (List.take_of_length_le (by omega))
          have HE : Hid (Gr w wr ∧ wr.heap[b4]? = some (.cells #[.int .i64 0, .int .i64 0, .int .i64 0, .int .i64 0, .int .i64 0] 69) ∧ wr.heap[b6]? = some (byO (wthL X B0 L))) := Lib.hid ⟨HR.out.1, HR.out.2.1, by have := HR.out.2.2.1; rw [HNZ.out] at this; exact this⟩
          clear HR
          have HD6 := Lib.hid HE.out.2.2
          generalize wthL X B0 L = bb at *
          obtain ⟨q0, q1, q2, q3, q4⟩ := bb
          simp only [byO] at HD6
          have d6 := (cellsOf HD6.out).1
          obtain ⟨d4, f4⟩ := cellsOf HE.out.2.1
          go_upto_region 11 with fail
          repeat (first | go_values | go_skip | go_guarded | go_step | go_upon)
          have hb4 := blk5 HE.out.2.1 (.int .i64 (⟨q0, q1, q2, q3, q4⟩ : By).total) (.int .i64 (⟨q0, q1, q2, q3, q4⟩ : By).live) (.int .i64 (⟨q0, q1, q2, q3, q4⟩ : By).tombs) (.int .i64 (⟨q0, q1, q2, q3, q4⟩ : By).dead) (.int .i64 (⟨q0, q1, q2, q3, q4⟩ : By).last)
          obtain ⟨d4', _⟩ := cellsOf hb4
          refine bodyPost_ret (v := V) ?_ rfl ⟨rfl, HE.out.1.cell5 HBW.out _ _ _ _ _⟩
          (try simp only at d4')
          simp [results, Tryz.results25, go_sem, d4', HV1.out, byV]
end Go.Proofs.YtemjnppplmankaaGreat

/- drumlinref21's Len, Last, Copy; which entries it has, as drumlinref22 and drumlinref24 ask. -/
set_option linter.unusedVariables false
set_option linter.unusedSimpArgs false
namespace Go.Proofs.YtemjnppplmankaaGreat
open Go.RowKit Go.Shelf
attribute [local go_sem] OvM cell_ovm obj_ovm
attribute [local go_sem] Oper.semAt_some

set_option maxRecDepth 40000 in
theorem rLen_any {w : World} {rb : Nat} {N : Int} {a : Option Addr} {k cap : Nat} (h : w.heap[rb]? = some (rmO N (.slice a k cap))) (hN : 0 < N) : Calls Tryz.prog 15 #[.pointer (some ⟨rb, 0, none⟩)] w fun e w' => e = .returned (.int .i64 k) ∧ w = w' := by
  have c1 := ((cellsOf h).1 1).trans (show _ = some (Value.slice a k cap) from rfl)
  have HV := Lib.hid (rvalid h hN)
  clear h
  go_enter Tryz.func15, Tryz.ntmps15
  go_wp2_with (go_at_call 35; refine Calls.mono HV.out ?_; rintro e w1 ⟨rfl, rfl⟩)
  go_ret
  exact ⟨rfl, rfl⟩
theorem rpLen {w : World} {p : Option Addr} {X : IX} (h : RP w p X) : Calls Tryz.prog 15 #[.pointer p] w fun e w' => e = .returned (.int .i64 X.ents.length) ∧ w = w' := by
  rcases h with ⟨rfl, rfl⟩ | ⟨rb, rfl, h⟩
  · go_enter Tryz.func15, Tryz.ntmps15
    go_wp2_with (go_at_call 35; refine Calls.mono (rvalid_no _) ?_; rintro e w1 ⟨rfl, rfl⟩)
    go_ret
    exact ⟨rfl, rfl⟩
  · have hN := h.pos
    obtain ⟨v, all, h1, _, h3, h4, h5, h6⟩ := h
    obtain ⟨a, c, rfl, _, _, _⟩ := ownE_at h3
    rw [← h5.length_eq]
    exact rLen_any h1 hN
set_option maxRecDepth 40000 in
set_option maxHeartbeats 2000000 in
theorem rCopy_any {w : World} {rb : Nat} {N : Int} {v : Value} {all : List En} (h : w.heap[rb]? = some (rmO N v)) (hN : 0 < N) (ho : Own w 89 6 v all.length (rowE all)) (h1000 : all.length ≤ 1000) :
    Calls Tryz.prog 85 #[.pointer (some ⟨rb, 0, none⟩)] w fun e w' => ∃ rb' v', e = .returned (.pointer (some ⟨rb', 0, none⟩)) ∧ w.heap.size ≤ rb' ∧ w'.heap[rb']? = some (rmO N v') ∧ Nw w w' 89 6 v' all.length (rowE all) ∧ v'.ownBlock ≠ some rb' ∧ Gr w w' := by
  obtain ⟨i0, hi, hz0, hz1, hz2⟩ := info_parts infoIten
  have HO := Lib.hid ho
  have HV := Lib.hid (rvalid h hN)
  obtain ⟨a, c, rfl, hc, hm, _⟩ := ownE_at ho
  unfold maxLen at hm
  have c0 := ((cellsOf h).1 0).trans (show _ = some (Value.int .i64 N) from rfl)
  have c1 := ((cellsOf h).1 1).trans (show _ = some (Value.slice a all.length c) from rfl)
  clear h ho
  go_enter Tryz.func85, Tryz.ntmps85
  go_wp2_with (go_at_call 35; refine Calls.mono HV.out ?_; rintro e w1 ⟨rfl, rfl⟩)
  have SRC := Lib.hid (src_all HO.out (rowE_one all))
  refine wp_region_flo (fun _ => False) [] [] (by kernel_rfl) (by kernel_rfl) (fun _ h => h.elim) ?_
  refine flo_seg 4 rfl ?_
  simp only [List.take_succ_cons, List.take_zero, List.drop_succ_cons, List.drop_zero]
  repeat (go_big_quiet_step (fail))
  refine wpQuiet_nil ?_
  refine flo_eff rfl rfl rfl rfl (fun K hK => ?_)
  go_wp2
  refine ⟨by (first | (refine Gr.mdh ?_ _; (repeat (first | (with_reducible exact Gr.refl _) | assumption | (with_reducible apply Gr.from_drew) | (with_reducible apply Gr.alloc) | (with_reducible apply Gr.drew) | (with_reducible refine Gr.trans ?_ (by assumption)) | (with_reducible refine Gr.setCell ?_ (by omega) _))); done) | (repeat (first | (with_reducible exact Mdh.refl _ _) | (with_reducible refine Mdh.setCell ?_ (by simp) _) | (with_reducible refine Mdh.setNew ?_ (by simp) _) | (with_reducible apply Mdh.alloc) | (with_reducible apply Mdh.from_drew) | (with_reducible apply Mdh.drew) | (with_reducible refine Mdh.gr ?_ (by assumption))))), ?_⟩
  refine flo_seg 4 rfl ?_
  simp only [List.take_succ_cons, List.take_zero, List.drop_succ_cons, List.drop_zero]
  repeat (go_big_quiet_step (fail))
  refine wpQuiet_nil ?_
  refine flo_eff rfl rfl rfl rfl (fun K hK => ?_)
  refine wp_appv _ (.tmp 10) (.tmp 14) 37 rfl 89 i0 _ 6 56 Tryz.underlying37 hi hz0 hz1 hz2 rfl (by decide) (.slice (some ⟨w.heap.size, 0, none⟩) 0 0) 0 [] rfl ((Nw.made (w0 := w) (w := w) (Nat.le_refl _)).own.gr (by (repeat (first | (with_reducible exact Gr.refl _) | assumption | (with_reducible apply Gr.from_drew) | (with_reducible apply Gr.alloc) | (with_reducible apply Gr.drew) | (with_reducible refine Gr.trans ?_ (by assumption)) | (with_reducible refine Gr.setCell ?_ (by omega) _))))) a all.length _ (rowE all) rfl (SRC.out.gr (by (repeat (first | (with_reducible exact Gr.refl _) | assumption | (with_reducible apply Gr.from_drew) | (with_reducible apply Gr.alloc) | (with_reducible apply Gr.drew) | (with_reducible refine Gr.trans ?_ (by assumption)) | (with_reducible refine Gr.setCell ?_ (by omega) _))))) (by simp only [maxLen]; omega) (by omega) (fun k3 xa hk3 => ?_); rw [Nat.zero_add, List.nil_append] at hk3; (have n3 := hk3.nw (w0 := w) ((Nw.made (w0 := w) (w := w) (e := 89) (K := 6) (Nat.le_refl _)).gr (by (repeat (first | (with_reducible exact Gr.refl _) | assumption | (with_reducible apply Gr.from_drew) | (with_reducible apply Gr.alloc) | (with_reducible apply Gr.drew) | (with_reducible refine Gr.trans ?_ (by assumption)) | (with_reducible refine Gr.setCell ?_ (by omega) _))))) (Gr.sz (by (repeat (first | (with_reducible exact Gr.refl _) | assumption | (with_reducible apply Gr.from_drew) | (with_reducible apply Gr.alloc) | (with_reducible apply Gr.drew) | (with_reducible refine Gr.trans ?_ (by assumption)) | (with_reducible refine Gr.setCell ?_ (by omega) _)))))); (have m3 := hk3.gw (w0 := w) ((Nw.made (w0 := w) (w := w) (e := 89) (K := 6) (Nat.le_refl _)).gr (by (repeat (first | (with_reducible exact Gr.refl _) | assumption | (with_reducible apply Gr.from_drew) | (with_reducible apply Gr.alloc) | (with_reducible apply Gr.drew) | (with_reducible refine Gr.trans ?_ (by assumption)) | (with_reducible refine Gr.setCell ?_ (by omega) _))))) (by (repeat (first | (with_reducible exact Gr.refl _) | assumption | (with_reducible apply Gr.from_drew) | (with_reducible apply Gr.alloc) | (with_reducible apply Gr.drew) | (with_reducible refine Gr.trans ?_ (by assumption)) | (with_reducible refine Gr.setCell ?_ (by omega) _))))); obtain ⟨a3, c3, rfl⟩ := hk3.val; refine hK _ _ ⟨hk3.mdh (fun q hq => by rw [ownB hq]; right; right; exact ⟨Nat.le_refl _, by simp⟩), ?_⟩; simp only [Act.put, List.setIfInBounds_toArray, List.set_cons_succ, List.set_cons_zero]
  refine flo_seg 1 rfl ?_
  simp only [List.take_succ_cons, List.take_zero, List.drop_succ_cons, List.drop_zero]
  repeat (go_big_quiet_step (fail))
  refine wpQuiet_nil ?_
  refine flo_eff rfl rfl rfl rfl (fun K hK => ?_)
  go_wp2
  refine ⟨by (first | (refine Gr.mdh ?_ _; (repeat (first | (with_reducible exact Gr.refl _) | assumption | (with_reducible apply Gr.from_drew) | (with_reducible apply Gr.alloc) | (with_reducible apply Gr.drew) | (with_reducible refine Gr.trans ?_ (by assumption)) | (with_reducible refine Gr.setCell ?_ (by omega) _))); done) | (repeat (first | (with_reducible exact Mdh.refl _ _) | (with_reducible refine Mdh.setCell ?_ (by simp) _) | (with_reducible refine Mdh.setNew ?_ (by simp) _) | (with_reducible apply Mdh.alloc) | (with_reducible apply Mdh.from_drew) | (with_reducible apply Mdh.drew) | (with_reducible refine Mdh.gr ?_ (by assumption))))), ?_⟩
  refine flo_seg 1 rfl ?_
  simp only [List.take_succ_cons, List.take_zero, List.drop_succ_cons, List.drop_zero]
  repeat (go_big_quiet_step (fail))
  refine wpQuiet_nil ?_
  refine flo_nil ?_
  have N3 := Lib.hid n3
  have M3 := Lib.hid m3
  clear hK hk3 n3 m3
  go_wp2_with fail
  go_ret
  exact ⟨xa.heap.size, .slice a3 all.length c3, rfl, M3.out.sz, blkNew _ _, N3.out.gr ((Gr.refl xa).alloc _), fun h => absurd (N3.out.own.lt h) (Nat.lt_irrefl _), M3.out.alloc _⟩
theorem rCopy_no (w : World) : Calls Tryz.prog 85 #[.pointer none] w fun e w' => e = .returned (.pointer none) ∧ w = w' := by
  go_enter Tryz.func85, Tryz.ntmps85
  go_wp2_with (go_at_call 35; refine Calls.mono (rvalid_no _) ?_; rintro e w1 ⟨rfl, rfl⟩)
  go_ret
  exact ⟨rfl, rfl⟩
/-- Whether there is a copy. -/
theorem rpCopy {w : World} {p : Option Addr} {X : IX} (h : RP w p X) : Calls Tryz.prog 85 #[.pointer p] w fun e w' => (∃ q, e = .returned (.pointer q) ∧ (q = none ↔ X.slots = [])) ∧ Gr w w' := by
  rcases h with ⟨rfl, rfl⟩ | ⟨rb, rfl, h⟩
  · refine (rCopy_no w).mono ?_
    rintro e w' ⟨rfl, rfl⟩
    exact ⟨⟨none, rfl, ⟨fun _ => rfl, fun _ => rfl⟩⟩, Gr.refl w⟩
  · have hN := h.pos
    obtain ⟨v, all, h1, h2, h3, h4, h5, h6⟩ := h
    refine (rCopy_any h1 hN h3 h6).mono ?_
    rintro e w' ⟨rb', v', rfl, _, _, _, _, hg⟩
    exact ⟨⟨_, rfl, ⟨(fun h => by cases h), fun h => absurd h h2⟩⟩, hg⟩
end Go.Proofs.YtemjnppplmankaaGreat
