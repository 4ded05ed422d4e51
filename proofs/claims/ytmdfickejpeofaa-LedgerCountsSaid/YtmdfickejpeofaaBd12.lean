/- ledger.add: the sum of a row; ledger.Sum. -/
import Derived.Test.YtmdfickejpeofaaBd11
import Derived.Test.YtmdfickejpeofaaBd6
import Derived.Laws.MakeOwn
import Derived.Test.YtmdfickejpeofaaBd9
set_option linter.unusedVariables false
set_option linter.unusedSimpArgs false
namespace Go.Proofs.Ytmdfickejpeofaa
open Go.RowKit Go.Shelf
attribute [local go_sem] OvM cell_ovm obj_ovm
attribute [local go_sem] Oper.semAt_some

theorem rowBy_cons (x : By) (l : List By) : rowBy (x :: l) = cellsBy x ++ rowBy l := rfl
theorem rowBy_get (l : List By) : ∀ i x, l[i]? = some x → ∀ j u, (cellsBy x)[j]? = some u → (rowBy l)[i * 5 + j]? = some u := by
  induction l with
  | nil => intro i x h; simp at h
  | cons y l ih =>
    intro i x h j u hu
    have hj : j < 5 := by have := (List.getElem?_eq_some_iff.1 hu).1; simpa [cellsBy] using this
    rw [rowBy_cons]
    cases i with
    | zero => simp at h; subst h; rw [List.getElem?_append_left (by simp [cellsBy]; omega)]; simpa using hu
    | succ i =>
      rw [List.getElem?_append_right (by simp [cellsBy]; omega), show (i + 1) * 5 + j - (cellsBy y).length = i * 5 + j by simp [cellsBy]; omega]
      exact ih i x (by simpa using h) j u hu
theorem ownBy_at {w : World} {v : Value} {l : List By} (h : Own w 56 5 v l.length (rowBy l)) : ∃ a cap, v = .slice a l.length cap ∧ l.length ≤ cap ∧ cap ≤ maxLen ∧ ∀ i x, l[i]? = some x → ∃ g, a = some ⟨g, 0, none⟩ ∧
    ∀ j u, (cellsBy x)[j]? = some u → w.cell? ⟨g, i * 5 + j, none⟩ = some u := by
  rcases h.2 with ⟨hv, h0⟩ | ⟨g, cap, cur, hv, _, hg, h1, h2, h3, h4⟩
  · have hL : l = [] := List.eq_nil_of_length_eq_zero h0
    subst hL
    exact ⟨none, 0, hv, Nat.le_refl _, by simp [maxLen], fun i x hx => by simp at hx⟩
  · subst hv
    refine ⟨_, cap, rfl, h1, h2, fun i x hx => ⟨g, rfl, fun j u hu => ?_⟩⟩
    have hc := h.cells (g := g) rfl
    have hadd : ∀ j, (⟨g, 0, none⟩ : Addr).add j = ⟨g, j, none⟩ := fun j => by unfold Addr.add; split <;> simp_all
    rw [← hadd]
    exact hc _ _ (rowBy_get l i x hx j u hu)
def addB (a b : By) : By := ⟨a.total + b.total, a.live + b.live, a.tombs + b.tombs, a.dead + b.dead, max a.last b.last⟩
def addL (l : List By) : By := l.foldl addB zBy
theorem addL_snoc (l : List By) (b : By) : addL (l ++ [b]) = addB (addL l) b := by simp [addL]
/-- No more than M in any field. -/
structure ByLe (b : By) (M : Int) : Prop where
  t : 0 ≤ b.total ∧ b.total ≤ M
  l : 0 ≤ b.live ∧ b.live ≤ M
  m : 0 ≤ b.tombs ∧ b.tombs ≤ M
  d : 0 ≤ b.dead ∧ b.dead ≤ M
  s : 0 ≤ b.last ∧ b.last ≤ 1099511627776
theorem addL_le {l : List By} (h : ∀ b ∈ l, ByLe b 8388608) : ByLe (addL l) (8388608 * l.length) := by
  have : ∀ (l : List By) (a : By) (M : Int), ByLe a M → (∀ b ∈ l, ByLe b 8388608) → ByLe (l.foldl addB a) (M + 8388608 * l.length) := by
    intro l
    induction l with
    | nil => intro a M ha _; simpa using ha
    | cons y l ih =>
      intro a M ha hl
      have hy := hl y (by simp)
      obtain ⟨t1, l1, m1, d1, s1⟩ := ha
      obtain ⟨t2, l2, m2, d2, s2⟩ := hy
      have := ih (addB a y) (M + 8388608) ⟨by simp only [addB]; omega, by simp only [addB]; omega, by simp only [addB]; omega, by simp only [addB]; omega, by simp only [addB]; omega⟩ (fun b hb => hl b (List.mem_cons_of_mem _ hb))
      rw [List.foldl_cons, List.length_cons, show M + 8388608 * ((l.length + 1 : Nat) : Int) = M + 8388608 + 8388608 * l.length by omega]
      exact this
  have := this l zBy 0 ⟨by simp [zBy], by simp [zBy], by simp [zBy], by simp [zBy], by simp [zBy]⟩ h
  simpa [addL] using this
theorem byOf_le {X : IX} (h : X.Wf) (s : Int) : ByLe (byOf X s) 8388608 := by
  have h1 := acc_ok X (X.slot s) (fun e he => ((h.slotOk s).e e he).2)
  have h2 := h.slot_le s
  obtain ⟨o1, o2, o3, o4, o5, o6⟩ := h1
  exact ⟨by simp only [byOf]; omega, by simp only [byOf]; omega, by simp only [byOf]; omega, by simp only [byOf]; omega, by simp only [byOf]; omega⟩
set_option maxRecDepth 40000 in
set_option maxHeartbeats 4000000 in
theorem add_any {w : World} {v : Value} {l : List By} (h : Own w 56 5 v l.length (rowBy l)) (hl : l.length ≤ 32) (hb : ∀ b ∈ l, ByLe b 8388608) : Calls Try.prog 93 #[v] w fun e w' => e = .returned (byV (addL l)) ∧ Gr w w' := by
  obtain ⟨a, cap, rfl, hc1, hc2, hat⟩ := ownBy_at h
  obtain ⟨n, hn⟩ : ∃ n, n = l.length := ⟨_, rfl⟩
  have HAT := Lib.hid hat
  have HB := Lib.hid hb
  have HN := Lib.hid hn
  rw [← hn] at hl hc1 ⊢
  unfold maxLen at hc2
  clear h hat hb hn
  refine calls_of_wp_marks Try.func93 rfl ?_
  simp only [Try.ntmps93, List.size_toArray, List.length_cons, List.length_nil, Nat.reduceAdd, Nat.reduceSub, Array.replicate_succ, Array.replicate_zero, List.push_toArray, List.append_toArray, List.nil_append, List.cons_append]
  go_wp2_with fail
  obtain ⟨b2, hb2⟩ : ∃ q, q = w.heap.size := ⟨_, rfl⟩
  obtain ⟨w0, hw0⟩ : ∃ y, y = (w.alloc (.cells #[.int .i64 0, .int .i64 0, .int .i64 0, .int .i64 0, .int .i64 0] 56)).alloc (.cells #[.int .i64 0, .int .i64 0, .int .i64 0, .int .i64 0, .int .i64 0] 56) := ⟨_, rfl⟩
  have H0 : Hid (w.heap.size ≤ b2 ∧ Gr w w0 ∧ w0.heap[b2]? = some (.cells #[.int .i64 0, .int .i64 0, .int .i64 0, .int .i64 0, .int .i64 0] 56) ∧ w0.heap[b2 + 1]? = some (.cells (cellsBy (addL (l.take 0))).toArray 56)) := Lib.hid (by
    have h1 := blkNew w (.cells #[.int .i64 0, .int .i64 0, .int .i64 0, .int .i64 0, .int .i64 0] 56)
    have h2 := blkNew (w.alloc (.cells #[.int .i64 0, .int .i64 0, .int .i64 0, .int .i64 0, .int .i64 0] 56)) (.cells #[.int .i64 0, .int .i64 0, .int .i64 0, .int .i64 0, .int .i64 0] 56)
    rw [World.size_alloc] at h2
    rw [hw0, hb2]
    exact ⟨Nat.le_refl _, ((Gr.refl w).alloc _).alloc _, ((Gr.refl _).alloc _).blk h1, h2⟩)
  rw [← hw0, ← hb2]
  clear hw0 hb2
  go_loopw [8] (fun t8 wx => ∃ j : Nat, j ≤ n ∧ t8 = .int .i64 j ∧ Hid (Gr w wx ∧ wx.heap[b2]? = some (.cells #[.int .i64 0, .int .i64 0, .int .i64 0, .int .i64 0, .int .i64 0] 56) ∧ wx.heap[b2 + 1]? = some (.cells (cellsBy (addL (l.take j))).toArray 56))) (fun t8 _ => n - (intOf t8).toNat)
  case atStart => exact ⟨0, by omega, rfl, Lib.hid H0.out.2⟩
  case round =>
    obtain ⟨j, hj, rfl, HR⟩ := hrel
    by_cases hlt : j < n
    · have hlt' : (j : Int) < n := by omega
      have hx : l[j]? = some (l[j]'(by have := HN.out; omega)) := List.getElem?_eq_getElem _
      obtain ⟨g, rfl, hc⟩ := HAT.out j _ hx
      have HT : Hid (addL (l.take (j + 1)) = addB (addL (l.take j)) (l[j]'(by have := HN.out; omega))) := Lib.hid (by
        rw [List.take_add_one, hx]; exact addL_snoc _ _)
      have HL1 := Lib.hid (addL_le (l := l.take j) (fun b hb => HB.out b (List.mem_of_mem_take hb)))
      have HL2 := Lib.hid (HB.out _ (List.mem_of_getElem? hx))
      have HLN : Hid ((l.take j).length ≤ 32) := Lib.hid (by rw [List.length_take]; omega)
      obtain ⟨hr1, hr2, hr3⟩ := HR.out
      have d0 := hr1.keep (hc 0 _ rfl)
      have d1 := hr1.keep (hc 1 _ rfl)
      have d2 := hr1.keep (hc 2 _ rfl)
      have d3 := hr1.keep (hc 3 _ rfl)
      have d4 := hr1.keep (hc 4 _ rfl)
      simp only [Nat.add_zero] at d0 d1 d2 d3 d4
      clear hc hx HR
      generalize l[j]'_ = y at *
      generalize hla : addL (l.take j) = z at *
      generalize (l.take j).length = k at *
      clear hla
      obtain ⟨z0, z1, z2, z3, z4⟩ := z
      obtain ⟨y0, y1, y2, y3, y4⟩ := y
      obtain ⟨⟨p0, p0'⟩, ⟨p1, p1'⟩, ⟨p2, p2'⟩, ⟨p3, p3'⟩, p4, p4'⟩ := HL1.out
      obtain ⟨⟨q0, q0'⟩, ⟨q1, q1'⟩, ⟨q2, q2'⟩, ⟨q3, q3'⟩, q4, q4'⟩ := HL2.out
      have hk := HLN.out
      simp only at *
      simp only [cellsBy] at hr3
      obtain ⟨c3, f3⟩ := cellsOf hr3
      have hlt3 := blkLt hr3
      have HR1 := Lib.hid hr1
      have HR2 := Lib.hid hr2
      have HR3 := Lib.hid hr3
      clear hr1 hr2 hr3
      go_wp2_with fail
      have hm : (if z4 < y4 then y4 else z4) = max z4 y4 := by split <;> omega
      rw [hm]
      have hn1 : b2 ≠ b2 + 1 := by omega
      refine ⟨⟨j + 1, by omega, by go_num, Lib.hid ⟨(Gr.cell5 HR1.out (by have := H0.out.1; omega) _ _ _ _ _).alloc _, ((Gr.refl _).alloc _).blk (blkSetO (blkSetO (blkSetO (blkSetO (blkSetO HR2.out hn1) hn1) hn1) hn1) hn1), ((Gr.refl _).alloc _).blk ?_⟩⟩, by simp [intOf]; omega⟩
      rw [HT.out]
      exact blk5 HR3.out _ _ _ _ _
    · have hlt' : ¬ (j : Int) < n := by omega
      have hjn : j = n := by omega
      subst hjn
      have HX : Hid (l.take j = l) := Lib.hid (List.take_of_length_le (by have := HN.out; omega))
      obtain ⟨hr1, hr2, hr3⟩ := HR.out
      rw [HX.out] at hr3
      have HR1 := Lib.hid hr1
      have HR2 := Lib.hid hr2
      generalize hz : addL l = z at *
      obtain ⟨z0, z1, z2, z3, z4⟩ := z
      have HZ := Lib.hid hz
      clear hz
      simp only [cellsBy] at hr3
      obtain ⟨c3, f3⟩ := cellsOf hr3
      obtain ⟨c2, f2⟩ := cellsOf hr2
      clear hr1 hr2 hr3 HR
      go_wp2_with fail
      have hb5 := blk5 HR2.out (.int .i64 z0) (.int .i64 z1) (.int .i64 z2) (.int .i64 z3) (.int .i64 z4)
      obtain ⟨d4, _⟩ := cellsOf hb5
      refine retM0 (v := byV ⟨z0, z1, z2, z3, z4⟩) ?_ rfl ⟨by rw [HZ.out], Gr.cell5 HR1.out H0.out.1 _ _ _ _ _⟩
      simp [results, Try.results93, go_sem, d4, byV]
def sumBy (X : IX) : By × Int := if X.slots.length = 0 then (zBy, 1) else (addL (allL X X.slots.length), 0)
set_option maxRecDepth 40000 in
set_option maxHeartbeats 4000000 in
theorem Sum_any {w : World} {p : Option Addr} {X : IX} {S : Nat → Prop} (h : IXP w p X S) : Calls Try.prog 24 #[.pointer p] w fun e w' => e = .returned (.tuple #[byV (sumBy X).1, .int .i64 (sumBy X).2]) ∧ Gr w w' := by
  have H := Lib.hid h
  have HL : Hid ((allL X X.slots.length).length = X.slots.length) := Lib.hid (by simp [allL])
  have HLE : Hid (∀ b ∈ allL X X.slots.length, ByLe b 8388608) := Lib.hid (fun b hb => by
    simp only [allL, List.mem_map] at hb
    obtain ⟨i, _, rfl⟩ := hb
    exact byOf_le h.ok i)
  have H32 := Lib.hid h.ok.n
  have HS : Hid (sumBy X = (addL (allL X X.slots.length), if X.slots.length = 0 then 1 else 0)) := Lib.hid (by
    unfold sumBy
    split
    · next h0 => rw [h0]; rfl
    · rfl)
  clear h
  refine calls_of_wp_marks Try.func24 rfl ?_
  simp only [Try.ntmps24, List.size_toArray, List.length_cons, List.length_nil, Nat.reduceAdd, Nat.reduceSub, Array.replicate_succ, Array.replicate_zero, List.push_toArray, List.append_toArray, List.nil_append, List.cons_append]
  go_wp2_with fail
  obtain ⟨b, hb⟩ : ∃ q, q = w.heap.size := ⟨_, rfl⟩
  obtain ⟨w0, hw0⟩ : ∃ y, y = w.alloc (.cells #[.int .i64 0, .int .i64 0, .int .i64 0, .int .i64 0, .int .i64 0] 56) := ⟨_, rfl⟩
  have H0 : Hid (w.heap.size ≤ b ∧ Gr w w0 ∧ w0.heap[b]? = some (.cells #[.int .i64 0, .int .i64 0, .int .i64 0, .int .i64 0, .int .i64 0] 56)) := Lib.hid (by
    rw [hw0, hb]
    exact ⟨Nat.le_refl _, (Gr.refl w).alloc _, blkNew w _⟩)
  rw [← hw0, ← hb]
  clear hw0 hb
  refine (All_any (H.out.gr H0.out.2.1)).mono ?_
  rintro e w1 ⟨v, rfl, hrow, hg1⟩
  have HG1 := Lib.hid (H0.out.2.1.trans hg1)
  have HB1 := Lib.hid (hg1.blk H0.out.2.2)
  have HROW := Lib.hid hrow.own
  clear hrow hg1
  generalize hq : (if X.slots.length = 0 then (1 : Int) else 0) = q at *
  generalize hz : addL (allL X X.slots.length) = z at *
  go_wp2_with (go_at_call 93; refine (add_any (l := allL X X.slots.length) (by rw [HL.out]; exact HROW.out) (by rw [HL.out]; exact H32.out) HLE.out).mono ?_; rintro e w2 ⟨rfl, hg2⟩; have HG2 := Lib.hid (HG1.out.trans hg2); have HB2 := Lib.hid (hg2.blk HB1.out); obtain ⟨c2, f2⟩ := cellsOf HB2.out; clear hg2; rw [hz]; obtain ⟨z0, z1, z2, z3, z4⟩ := z; simp only [byV])
  have hb5 := blk5 HB2.out (.int .i64 z0) (.int .i64 z1) (.int .i64 z2) (.int .i64 z3) (.int .i64 z4)
  obtain ⟨d4, _⟩ := cellsOf hb5
  refine retM0 (v := .tuple #[byV ⟨z0, z1, z2, z3, z4⟩, .int .i64 q]) ?_ rfl ⟨by rw [HS.out], Gr.cell5 HG2.out H0.out.1 _ _ _ _ _⟩
  simp [results, Try.results24, go_sem, d4, byV]
end Go.Proofs.Ytmdfickejpeofaa

/- ledger.Check and Age, and the reference's. -/
set_option linter.unusedVariables false
set_option linter.unusedSimpArgs false
namespace Go.Proofs.Ytmdfickejpeofaa
open Go.RowKit
attribute [local go_sem] OvM cell_ovm obj_ovm

theorem inBy_yes {n : Int} (h : inBy n = true) : 0 ≤ n ∧ n ≤ 262144 := by simpa [inBy] using h
theorem chk_0 {b : By} (h1 : inBy b.live = true) (h2 : inBy b.tombs = true) (h3 : inBy b.dead = true) (h4 : inBy b.total = true) (h5 : b.total = b.live + b.tombs + b.dead) (h6 : 0 ≤ b.last) (h7 : b.last ≤ 1099511627776) (h8 : b.last = 0 ↔ b.total = 0) : chkBy b = 0 := if_pos ⟨h1, h2, h3, h4, h5, h6, h7, h8⟩
theorem chk_2 {b : By} (h : ¬ (inBy b.live = true ∧ inBy b.tombs = true ∧ inBy b.dead = true ∧ inBy b.total = true ∧ b.total = b.live + b.tombs + b.dead ∧ 0 ≤ b.last ∧ b.last ≤ 1099511627776 ∧ (b.last = 0 ↔ b.total = 0))) : chkBy b = 2 := if_neg h
set_option maxRecDepth 40000 in
set_option maxHeartbeats 2000000 in
theorem Check_by (b : By) (w : World) : Calls Try.prog 139 #[byV b] w fun e w' => e = .returned (.int .i64 (chkBy b)) ∧ Gr w w' := by
  obtain ⟨l, hl⟩ : ∃ l : List Int, l = [b.live, b.tombs, b.dead, b.total] := ⟨_, rfl⟩
  have HL := Lib.hid hl
  clear hl
  simp only [byV]
  go_enter Try.func139, Try.ntmps139
  go_wp2_with fail
  obtain ⟨w1, hw1⟩ : ∃ y, y = (w.alloc (.cells #[.int .i64 b.total, .int .i64 b.live, .int .i64 b.tombs, .int .i64 b.dead, .int .i64 b.last] 56)).alloc (.cells #[.int .i64 b.live, .int .i64 b.tombs, .int .i64 b.dead, .int .i64 b.total] 3) := ⟨_, rfl⟩
  obtain ⟨b1, hb1⟩ : ∃ q, q = w.heap.size := ⟨_, rfl⟩
  have HW : Hid (Gr w w1 ∧ w1.heap[b1]? = some (.cells #[.int .i64 b.total, .int .i64 b.live, .int .i64 b.tombs, .int .i64 b.dead, .int .i64 b.last] 56) ∧ ∀ k v, l[k]? = some v → w1.cell? ⟨b1 + 1, k, none⟩ = some (.int .i64 v)) := Lib.hid (by
    have h2 : w1.heap[b1 + 1]? = some (.cells (l.map (Value.int .i64)).toArray 3) := by
      rw [hw1, hb1, HL.out]
      have := blkNew (w.alloc (.cells #[.int .i64 b.total, .int .i64 b.live, .int .i64 b.tombs, .int .i64 b.dead, .int .i64 b.last] 56)) (.cells #[.int .i64 b.live, .int .i64 b.tombs, .int .i64 b.dead, .int .i64 b.total] 3)
      rwa [World.size_alloc] at this
    refine ⟨by rw [hw1]; exact ((Gr.refl w).alloc _).alloc _, by rw [hw1, hb1]; exact blkOld (blkNew w _), fun k v hk => ?_⟩
    rw [(cellsOf h2).1]
    simp [hk])
  have HN : Hid (l.length = 4) := Lib.hid (by rw [HL.out]; rfl)
  rw [← hw1, ← hb1]
  clear hw1 hb1
  go_loop [15] (fun t15 => ∃ k : Nat, k ≤ 4 ∧ t15 = .int .i64 k ∧ Hid (∀ j v, j < k → l[j]? = some v → inBy v = true)) (fun t15 => 4 - (intOf t15).toNat)
  case atStart => exact ⟨0, by omega, rfl, Lib.hid (fun j v h => by omega)⟩
  case round =>
    obtain ⟨k, hk, rfl, HK⟩ := hrel
    by_cases hlt : k < 4
    · have hlt' : (k : Int) < 4 := by omega
      obtain ⟨v, hv⟩ : ∃ v, l[k]? = some v := ⟨_, List.getElem?_eq_getElem (by rw [HN.out]; exact hlt)⟩
      have hc := HW.out.2.2 k v hv
      have HV := Lib.hid hv
      clear hv
      by_cases hin : 0 ≤ v ∧ v ≤ 262144
      · have hI : Hid (inBy v = true) := Lib.hid (by simpa [inBy] using hin)
        obtain ⟨h1, h2⟩ := hin
        go_wp2
        go_round
        case rel => exact ⟨k + 1, by omega, by go_num, Lib.hid (fun j u hj hu => by
          rcases Nat.lt_or_ge j k with h | h
          · exact HK.out j u h hu
          · obtain rfl : j = k := by omega
            rw [HV.out] at hu
            rw [← Option.some.inj hu]; exact hI.out)⟩
        case measure => simp [intOf]; omega
      · have hI : Hid (inBy v = false) := Lib.hid (by simpa [inBy] using hin)
        have HR : Hid (chkBy b = 2) := Lib.hid (chk_2 (fun h => by
          have h0 := HV.out
          have h1 := hI.out
          rw [HL.out] at h0
          obtain ⟨a1, a2, a3, a4, _⟩ := h
          match k, hlt, h0 with
          | 0, _, h0 => simp at h0; rw [h0] at a1; rw [a1] at h1; cases h1
          | 1, _, h0 => simp at h0; rw [h0] at a2; rw [a2] at h1; cases h1
          | 2, _, h0 => simp at h0; rw [h0] at a3; rw [a3] at h1; cases h1
          | 3, _, h0 => simp at h0; rw [h0] at a4; rw [a4] at h1; cases h1))
        by_cases h1 : v < 0
        · clear hin
          go_wp2
          go_ret
          exact ⟨ret_int HR.out.symm, HW.out.1⟩
        · have h2 : 262144 < v := by omega
          clear hin
          go_wp2
          go_ret
          exact ⟨ret_int HR.out.symm, HW.out.1⟩
    · have hlt' : ¬ (k : Int) < 4 := by omega
      have hk4 : k = 4 := by omega
      have a1 : inBy b.live = true := HK.out 0 _ (by omega) (by rw [HL.out]; rfl)
      have a2 : inBy b.tombs = true := HK.out 1 _ (by omega) (by rw [HL.out]; rfl)
      have a3 : inBy b.dead = true := HK.out 2 _ (by omega) (by rw [HL.out]; rfl)
      have a4 : inBy b.total = true := HK.out 3 _ (by omega) (by rw [HL.out]; rfl)
      have HA := Lib.hid (And.intro a1 (And.intro a2 (And.intro a3 a4)))
      obtain ⟨p1, q1⟩ := inBy_yes a1
      obtain ⟨p2, q2⟩ := inBy_yes a2
      obtain ⟨p3, q3⟩ := inBy_yes a3
      obtain ⟨p4, q4⟩ := inBy_yes a4
      have cb := (cellsOf HW.out.2.1).1
      have HG := Lib.hid HW.out.1
      clear a1 a2 a3 a4 hk4 HK hk HL HW
      obtain ⟨t, l, m, d, s⟩ := b
      simp only at *
      by_cases t1 : t = l + m + d
      · subst t1
        by_cases t2 : s < 0
        · have HR : Hid (chkBy ⟨l + m + d, l, m, d, s⟩ = 2) := Lib.hid (chk_2 (fun h => by have h5 := h.2.2.2.2.1; have h6 := h.2.2.2.2.2.1; have h7 := h.2.2.2.2.2.2.1; have h8 := h.2.2.2.2.2.2.2; simp only at h5 h6 h7; first | omega | exact absurd (h8.1 rfl) t5 | (simp only at h8; omega)))
          go_wp2
          go_ret
          exact ⟨ret_int HR.out.symm, HG.out⟩
        · by_cases t3 : 1099511627776 < s
          · have HR : Hid (chkBy ⟨l + m + d, l, m, d, s⟩ = 2) := Lib.hid (chk_2 (fun h => by have h5 := h.2.2.2.2.1; have h6 := h.2.2.2.2.2.1; have h7 := h.2.2.2.2.2.2.1; have h8 := h.2.2.2.2.2.2.2; simp only at h5 h6 h7; first | omega | exact absurd (h8.1 rfl) t5 | (simp only at h8; omega)))
            go_wp2
            go_ret
            exact ⟨ret_int HR.out.symm, HG.out⟩
          · by_cases t4 : s = 0
            · subst t4
              by_cases t5 : l + m + d = 0
              · obtain rfl : l = 0 := by omega
                obtain rfl : m = 0 := by omega
                obtain rfl : d = 0 := by omega
                have HR : Hid (chkBy ⟨0 + 0 + 0, 0, 0, 0, 0⟩ = 0) := Lib.hid (chk_0 HA.out.1 HA.out.2.1 HA.out.2.2.1 HA.out.2.2.2 rfl (by simp) (by simp) (by simp))
                go_wp2
                go_ret
                exact ⟨ret_int HR.out.symm, HG.out⟩
              · have HR : Hid (chkBy ⟨l + m + d, l, m, d, 0⟩ = 2) := Lib.hid (chk_2 (fun h => by have h5 := h.2.2.2.2.1; have h6 := h.2.2.2.2.2.1; have h7 := h.2.2.2.2.2.2.1; have h8 := h.2.2.2.2.2.2.2; simp only at h5 h6 h7; first | omega | exact absurd (h8.1 rfl) t5 | (simp only at h8; omega)))
                have e1 : (l + m + d == 0) = false := by simp [t5]
                go_wp2
                go_ret
                exact ⟨ret_int HR.out.symm, HG.out⟩
            · by_cases t5 : l + m + d = 0
              · obtain rfl : l = 0 := by omega
                obtain rfl : m = 0 := by omega
                obtain rfl : d = 0 := by omega
                have HR : Hid (chkBy ⟨0 + 0 + 0, 0, 0, 0, s⟩ = 2) := Lib.hid (chk_2 (fun h => by have h5 := h.2.2.2.2.1; have h6 := h.2.2.2.2.2.1; have h7 := h.2.2.2.2.2.2.1; have h8 := h.2.2.2.2.2.2.2; simp only at h5 h6 h7; first | omega | exact absurd (h8.1 rfl) t5 | (simp only at h8; omega)))
                have e1 : (s == 0) = false := by simp [t4]
                go_wp2
                go_ret
                exact ⟨ret_int HR.out.symm, HG.out⟩
              · have HR : Hid (chkBy ⟨l + m + d, l, m, d, s⟩ = 0) := Lib.hid (chk_0 HA.out.1 HA.out.2.1 HA.out.2.2.1 HA.out.2.2.2 rfl (by simp only; omega) (by simp only; omega) (by simp only; omega))
                have e1 : (s == 0) = false := by simp [t4]
                have e2 : (l + m + d == 0) = false := by simp [t5]
                go_wp2
                go_ret
                exact ⟨ret_int HR.out.symm, HG.out⟩
      · have HR : Hid (chkBy ⟨t, l, m, d, s⟩ = 2) := Lib.hid (chk_2 (fun h => by have h5 := h.2.2.2.2.1; have h6 := h.2.2.2.2.2.1; have h7 := h.2.2.2.2.2.2.1; have h8 := h.2.2.2.2.2.2.2; simp only at h5 h6 h7; first | omega | exact absurd (h8.1 rfl) t5 | (simp only at h8; omega)))
        have e1 : (t == l + m + d) = false := by simp [t1]
        go_wp2
        go_ret
        exact ⟨ret_int HR.out.symm, HG.out⟩
/-- The age: how much older than the next number. -/
def ageBy (b : By) (n : Int) : Value := if chkBy b = 0 ∧ b.last ≤ n ∧ n ≤ 1099511627777 then .tuple #[.int .i64 (n - b.last), .int .i64 0] else .tuple #[.int .i64 0, .int .i64 2]
theorem age_yes {b : By} {n : Int} (h1 : chkBy b = 0) (h2 : b.last ≤ n) (h3 : n ≤ 1099511627777) : ageBy b n = .tuple #[.int .i64 (n - b.last), .int .i64 0] := if_pos ⟨h1, h2, h3⟩
theorem age_no {b : By} {n : Int} (h : ¬ (chkBy b = 0 ∧ b.last ≤ n ∧ n ≤ 1099511627777)) : ageBy b n = .tuple #[.int .i64 0, .int .i64 2] := if_neg h
theorem chk_or (b : By) : (chkBy b = 0 ∧ 0 ≤ b.last ∧ b.last ≤ 1099511627776) ∨ chkBy b = 2 := by
  unfold chkBy
  split
  · rename_i h; exact .inl ⟨rfl, h.2.2.2.2.2.1, h.2.2.2.2.2.2.1⟩
  · exact .inr rfl
set_option maxRecDepth 40000 in
set_option maxHeartbeats 2000000 in
theorem Age_by (b : By) (n : Int) (w : World) : Calls Try.prog 70 #[byV b, .int .i64 n] w fun e w' => e = .returned (ageBy b n) ∧ Gr w w' := by
  have c0 := (cellsOf (blkNew w (.cells #[.int .i64 b.total, .int .i64 b.live, .int .i64 b.tombs, .int .i64 b.dead, .int .i64 b.last] 56))).1
  have hlt : w.heap.size < (w.alloc (.cells #[.int .i64 b.total, .int .i64 b.live, .int .i64 b.tombs, .int .i64 b.dead, .int .i64 b.last] 56)).heap.size := by simp
  rcases chk_or b with ⟨hc, hl0, hl1⟩ | hc
  · by_cases h1 : n < b.last
    · have HR := Lib.hid (age_no (b := b) (n := n) (fun h => by omega))
      have HC := Lib.hid hc
      clear hc
      simp only [byV]
      go_enter Try.func70, Try.ntmps70
      go_wp2_with fail
      refine (Check_by b _).mono ?_
      rintro e w1 ⟨rfl, hg⟩
      rw [HC.out]
      have d0 := hg.cell
      have HG := Lib.hid (((Gr.refl w).alloc _).trans hg)
      clear hg
      go_wp2
      go_ret2
      exact ⟨by rw [HR.out]; rfl, HG.out⟩
    · by_cases h2 : 1099511627777 < n
      · have HR := Lib.hid (age_no (b := b) (n := n) (fun h => by omega))
        have HC := Lib.hid hc
        clear hc
        simp only [byV]
        go_enter Try.func70, Try.ntmps70
        go_wp2_with fail
        refine (Check_by b _).mono ?_
        rintro e w1 ⟨rfl, hg⟩
        rw [HC.out]
        have d0 := hg.cell
        have HG := Lib.hid (((Gr.refl w).alloc _).trans hg)
        clear hg
        go_wp2
        go_ret2
        exact ⟨by rw [HR.out]; rfl, HG.out⟩
      · have HR := Lib.hid (age_yes (b := b) (n := n) hc (by omega) (by omega))
        have HC := Lib.hid hc
        clear hc
        simp only [byV]
        go_enter Try.func70, Try.ntmps70
        go_wp2_with fail
        refine (Check_by b _).mono ?_
        rintro e w1 ⟨rfl, hg⟩
        rw [HC.out]
        have d0 := hg.cell
        have HG := Lib.hid (((Gr.refl w).alloc _).trans hg)
        clear hg
        go_wp2
        go_ret2
        exact ⟨by rw [HR.out]; rfl, HG.out⟩
  · have HR := Lib.hid (age_no (b := b) (n := n) (fun h => by omega))
    have HC := Lib.hid hc
    clear hc
    simp only [byV]
    go_enter Try.func70, Try.ntmps70
    go_wp2_with fail
    refine (Check_by b _).mono ?_
    rintro e w1 ⟨rfl, hg⟩
    rw [HC.out]
    have d0 := hg.cell
    have HG := Lib.hid (((Gr.refl w).alloc _).trans hg)
    clear hg
    go_wp2
    go_ret2
    exact ⟨by rw [HR.out]; rfl, HG.out⟩
end Go.Proofs.Ytmdfickejpeofaa

/- Contract of index.New. -/
set_option linter.unusedVariables false
set_option linter.unusedSimpArgs false
namespace Go.Proofs.Ytmdfickejpeofaa
open Go.RowKit
attribute [local go_sem] OvM cell_ovm obj_ovm

theorem infoList : (Try.prog.info? 137).map (fun i => (i.zero, i.size, i.bytes)) = some (some (.slice none 0 0), 1, 24) := by kernel_rfl
theorem new_bad (n : Int) (h : n < 1 ∨ 32 < n) (w : World) : Calls Try.prog 18 #[.int .i64 n] w fun e w' => e = .returned (.tuple #[.pointer none, .int .i64 2]) ∧ w = w' := by
  rcases h with h | h
  · go_enter Try.func18, Try.ntmps18
    go_wp2
    go_ret2
    exact ⟨rfl, rfl⟩
  · have h1 : ¬ n < 1 := by omega
    go_enter Try.func18, Try.ntmps18
    go_wp2
    go_ret2
    exact ⟨rfl, rfl⟩
theorem ixNew_pos {n : Nat} (h : 1 ≤ n) : (ixNew n).slots ≠ [] := by
  intro h0
  have := congrArg List.length h0
  simp [ixNew] at this
  omega
/-- The rows of empty slots. -/
theorem new_sep {w : World} {b bm g n : Nat} (hn : 1 ≤ n) (h1 : n ≤ 32) (hb : w.heap[b]? = some (.cells #[.pointer (some ⟨bm, 0, none⟩), .slice (some ⟨g, 0, none⟩) n n] 140)) (ho : OMsl w bm (.slice none 0 0) []) (hg : w.heap[g]? = some (.cells (madeCells #[.slice none 0 0] (n * 1)) 137))
    (n1 : b ≠ bm) (n2 : b ≠ g) (n3 : bm ≠ g) : IXR w b (ixNew n) (fun k => k = b ∨ k = bm ∨ k = g) := by
  have hrep : (List.replicate n ((none, 0, 0) : Sl)).map slV = List.replicate n (Value.slice none 0 0) := by simp [slV]
  have hrow : Own w 137 1 (.slice (some ⟨g, 0, none⟩) n n) n ((List.replicate n ((none, 0, 0) : Sl)).map slV) := by
    refine Own.ofParts hg (Nat.le_refl _) (by simp only [maxLen]; omega) (by rw [size_madeCells]) ?_
    rw [hrep]
    apply List.ext_getElem?
    intro i
    by_cases hi : i < n
    · rw [List.getElem?_take_of_lt (by omega), made_get _ n i hi]
      simp [hi]
    · rw [List.getElem?_eq_none (by simp [size_madeCells]; omega), List.getElem?_eq_none (by simp; omega)]
  have hemp : ∀ (m : Nat), ∀ A ∈ slotRows (List.replicate m ((none, 0, 0) : Sl)) (List.replicate m []), A = enA (none, 0, 0) [] := fun m A hA => by
    unfold slotRows at hA
    rw [List.zipWith_replicate] at hA
    exact (List.mem_replicate.1 hA).2
  have hno : ∀ k, ¬ (enA (none, 0, 0) []).S k := fun k h => by cases h
  refine ⟨new_wf h1, ixNew_pos hn, ⟨bm, .slice none 0 0, .slice (some ⟨g, 0, none⟩) n n, [], List.replicate n (none, 0, 0)⟩, ⟨fun A hA => ?_, ?_⟩, ⟨rfl, by simp [ixNew]⟩, fun k => ⟨fun hk => ?_, fun ⟨A, hA, hk⟩ => ?_⟩⟩
  · simp only [Lay.list, Lay.hd, List.mem_append, List.mem_cons, List.not_mem_nil, or_false, ixNew, List.length_replicate] at hA
    rcases hA with (rfl | rfl | rfl) | hA | hA
    · exact hb
    · exact ho
    · exact hrow
    · cases hA
    · rw [hemp n A hA]; exact nilRow w _ _
  · simp only [Lay.list, Lay.hd, ixNew, keyRows, List.zipWith_nil_left, List.nil_append, List.cons_append, List.length_replicate]
    refine List.pairwise_cons.2 ⟨fun A hA k h1 h2 => ?_, List.pairwise_cons.2 ⟨fun A hA k h1 h2 => ?_, List.pairwise_cons.2 ⟨fun A hA k h1 h2 => ?_, ?_⟩⟩⟩
    · have h1' : k = b := h1
      subst h1'
      simp only [List.mem_cons] at hA
      rcases hA with rfl | rfl | hA
      · rcases h2 with h | h
        · exact n1 h
        · cases h
      · exact n2 (Option.some.inj h2).symm
      · rw [hemp n A hA] at h2; exact hno _ h2
    · have h1' : k = bm := h1.elim (fun h => h) (fun h => by cases h)
      subst h1'
      simp only [List.mem_cons] at hA
      rcases hA with rfl | hA
      · exact n3 (Option.some.inj h2).symm
      · rw [hemp n A hA] at h2; exact hno _ h2
    · rw [hemp n A hA] at h2; exact hno _ h2
    · refine List.pairwise_of_forall_mem_list (fun A hA B hB k h1 h2 => ?_)
      rw [hemp n A hA] at h1; exact hno _ h1
  · rcases hk with rfl | rfl | rfl
    · exact ⟨blkA k _, by simp [Lay.list, Lay.hd]; exact .inl rfl, rfl⟩
    · exact ⟨omA k (.slice none 0 0) [], by simp [Lay.list, Lay.hd], .inl rfl⟩
    · exact ⟨rowA 137 1 (.slice (some ⟨k, 0, none⟩) n n) n ((List.replicate n ((none, 0, 0) : Sl)).map slV), by simp [Lay.list, Lay.hd, ixNew], rfl⟩
  · simp only [Lay.list, Lay.hd, List.mem_append, List.mem_cons, List.not_mem_nil, or_false, ixNew, List.length_replicate] at hA
    rcases hA with (rfl | rfl | rfl) | hA | hA
    · exact .inl hk
    · exact .inr (.inl (hk.elim (fun h => h) (fun h => by cases h)))
    · exact .inr (.inr (Option.some.inj hk).symm)
    · cases hA
    · rw [hemp n A hA] at hk; exact (hno _ hk).elim
set_option maxRecDepth 40000 in
set_option maxHeartbeats 1000000 in
theorem New_any (n : Nat) (w : World) (h1 : 1 ≤ n) (h2 : n ≤ 32) : Calls Try.prog 18 #[.int .i64 n] w fun e w' => ∃ b S, e = .returned (.tuple #[.pointer (some ⟨b, 0, none⟩), .int .i64 0]) ∧ IXR w' b (ixNew n) S ∧ (∀ k, S k → w.heap.size ≤ k) ∧ Gr w w' := by
  obtain ⟨i0, hi, hz0, hz1, hz2⟩ := info_parts infoList
  have hn1 : ¬ (n : Int) < 1 := by omega
  have hn2 : ¬ (32 : Int) < n := by omega
  have hm1 : ∀ w : World, (Instr.makeSlice 138 (.int .i64 (n : Int)) (.int .i64 (n : Int))).run Try.prog w = .ok (.slice (some ⟨w.heap.size, 0, none⟩) n n) (w.alloc (.cells (madeCells #[.slice none 0 0] (n * 1)) 137)) := fun w => by
    have := run_make (P := Try.prog) w 138 137 i0 _ Try.underlying138 hi hz0 .i64 .i64 n n (by omega) (by omega) (by rw [hz2]; omega) (by omega)
    rw [hz1] at this
    simp only [Int.toNat_natCast] at this
    exact this
  have HM1 := Lib.hid hm1
  clear hm1 hi hz0 hz1 hz2
  go_enter Try.func18, Try.ntmps18
  go_wp2
  have HG := Gr.refl w.drew
  refine wp_region_flo (fun _ => False) [12] [] (by kernel_rfl) (by kernel_rfl) (fun _ h => h.elim) ?_
  refine flo_effg rfl rfl rfl (fun wg1 hgg1 K hK => ?_)
  (try replace HG := Gr.trans (Gr.trans HG (by (repeat (first | (with_reducible exact Gr.refl _) | assumption | (with_reducible apply Gr.from_drew) | (with_reducible apply Gr.alloc) | (with_reducible apply Gr.drew) | (with_reducible refine Gr.trans ?_ (by assumption)) | (with_reducible refine Gr.setCell ?_ (by omega) _))))) hgg1)
  go_wp2_with fail; refine (NewOsl _).mono ?_; rintro e' wa1 ⟨rfl, hom, hg⟩; have HOM := Lib.hid hom; have HGA := Lib.hid (HG.trans hg); have HSZ := Lib.hid HG.sz; have HGW := Lib.hid hg; replace HG := HG.trans hg; clear hom hg; go_wp2_with fail; refine ⟨HGW.out.mdh _, ?_⟩
  refine flo_seg 1 rfl ?_
  simp only [List.take_succ_cons, List.take_zero, List.drop_succ_cons, List.drop_zero]
  repeat (go_big_quiet_step (fail))
  refine wpQuiet_nil ?_
  refine flo_float (fun b ↦ .slice (some ⟨b, 0, none⟩) n n) (.cells (madeCells #[.slice none 0 0] (n * 1)) 137 ) rfl rfl ( fun w ↦ by simp [go_sem, HM1.out w] ) (fun wf1 fb1 hgf1 fl1 fh1 ft1 fo1 => ?_)
  (try replace HG := Gr.trans (Gr.trans HG (by (repeat (first | (with_reducible exact Gr.refl _) | assumption | (with_reducible apply Gr.from_drew) | (with_reducible apply Gr.alloc) | (with_reducible apply Gr.drew) | (with_reducible refine Gr.trans ?_ (by assumption)) | (with_reducible refine Gr.setCell ?_ (by omega) _))))) hgf1)
  (try have fc1 := (cellsOf fo1).1)
  (try have ff1 := (cellsOf fo1).2)
  simp only [Act.put, List.setIfInBounds_toArray, List.set_cons_succ, List.set_cons_zero]
  refine flo_seg 1 rfl ?_
  simp only [List.take_succ_cons, List.take_zero, List.drop_succ_cons, List.drop_zero]
  repeat (go_big_quiet_step (fail))
  refine wpQuiet_nil ?_
  refine flo_eff rfl rfl rfl rfl (fun K hK => ?_)
  go_wp2
  refine ⟨by (first | (refine Gr.mdh ?_ _; (repeat (first | (with_reducible exact Gr.refl _) | assumption | (with_reducible apply Gr.from_drew) | (with_reducible apply Gr.alloc) | (with_reducible apply Gr.drew) | (with_reducible refine Gr.trans ?_ (by assumption)) | (with_reducible refine Gr.setCell ?_ (by omega) _))); done) | (repeat (first | (with_reducible exact Mdh.refl _ _) | (with_reducible refine Mdh.setCell ?_ (by simp) _) | (with_reducible refine Mdh.setNew ?_ (by simp) _) | (with_reducible apply Mdh.alloc) | (with_reducible apply Mdh.from_drew) | (with_reducible apply Mdh.drew) | (with_reducible refine Mdh.gr ?_ (by assumption))))), ?_⟩
  refine flo_seg 2 rfl ?_
  simp only [List.take_succ_cons, List.take_zero, List.drop_succ_cons, List.drop_zero]
  repeat (go_big_quiet_step (fail))
  refine wpQuiet_nil ?_
  refine flo_nil ?_
  have hf := Lib.hid (And.intro fo1 (And.intro HG (And.intro fl1 (And.intro fh1 (And.intro ft1 hgf1)))))
  clear fo1 HG fl1 fh1 ft1 hgf1 hgg1
  (try clear fc1 ff1)
  go_wp2
  go_ret2
  obtain ⟨fo1, HG, fl1, fh1, ft1, hgf1⟩ := hf.out
  have l1 := blkLt HOM.out.blk
  have l2 := hgf1.sz
  have l3 : w.heap.size ≤ wg1.heap.size := HSZ.out
  have l4 : w.heap.size ≤ wf1.heap.size := HG.sz
  refine ⟨wf1.heap.size, _, rfl, new_sep h1 h2 (blkNew wf1 _) ((HOM.out.gr hgf1).gr ((Gr.refl _).alloc _)) (blkOld fo1) (by omega) (by omega) (fun h => ft1 (.inr (by omega))), fun k hk => ?_, (Gr.of_drew HG).alloc _⟩
  rcases hk with rfl | rfl | rfl <;> omega
end Go.Proofs.Ytmdfickejpeofaa

/- drumlinlaw23: the example in plain Lean. -/
set_option linter.unusedVariables false
set_option linter.unusedSimpArgs false
namespace Go.Proofs.Ytmdfickejpeofaa
open Go.RowKit Go.Shelf
attribute [local go_sem] OvM cell_ovm obj_ovm
attribute [local go_sem] Oper.semAt_some

def lgE1 : En := ⟨1, ⟨#[97]⟩, false, 0, 0, 20⟩
def lgE2 : En := ⟨4, ⟨#[98]⟩, true, 0, 20, 17⟩
def lgE3 : En := ⟨2, ⟨#[98]⟩, false, 1, 0, 30⟩
def lgE4 : En := ⟨3, ⟨#[97]⟩, false, 1, 30, 40⟩
def lgE5 : En := ⟨3, ⟨#[97]⟩, false, 2, 0, 40⟩
def lgX1 : IX := addX (ixNew 3) lgE1
def lgX2 : IX := addX lgX1 lgE2
def lgX3 : IX := addX lgX2 lgE3
def lgX4 : IX := addX lgX3 lgE4
def lgX5 : IX := addX lgX4 lgE5
theorem lg_a1 : addE (ixNew 3) lgE1 = 0 := by kernel_rfl
theorem lg_a2 : addE lgX1 lgE2 = 0 := by kernel_rfl
theorem lg_a3 : addE lgX2 lgE3 = 0 := by kernel_rfl
theorem lg_a4 : addE lgX3 lgE4 = 0 := by kernel_rfl
theorem lg_a5 : addE lgX4 lgE5 = 0 := by kernel_rfl
theorem lg_o0 : ofL lgX4 0 = (⟨37, 0, 17, 20, 4⟩, 0) := by kernel_rfl
theorem lg_o1 : ofL lgX4 1 = (⟨70, 40, 0, 30, 3⟩, 0) := by kernel_rfl
theorem lg_o3 : ofL lgX4 3 = (zBy, 3) := by kernel_rfl
theorem lg_s : sumBy lgX4 = (⟨107, 40, 17, 50, 4⟩, 0) := by kernel_rfl
theorem lg_o2 : ofL lgX5 2 = (⟨40, 40, 0, 0, 3⟩, 0) := by kernel_rfl
theorem lg_s5 : sumBy lgX5 = (⟨147, 80, 17, 50, 4⟩, 0) := by kernel_rfl
def lgL : List En := [lgE1, lgE2, lgE3, lgE4]
def lgSt : Nat → IX | 0 => ixNew 3 | 1 => lgX1 | 2 => lgX2 | 3 => lgX3 | _ => lgX4
theorem low_one {k : ByteArray} {c : UInt8} (h : k = ⟨#[c]⟩) (hc : c.toNat < 128) : Low k := by
  subst h
  intro j hj
  have h1 : j < 1 := hj
  have h0 : j = 0 := by omega
  subst h0
  exact hc
theorem lg_step : ∀ j x, lgL[j]? = some x → addE (lgSt j) x = 0 ∧ addX (lgSt j) x = lgSt (j + 1) ∧ Low x.key ∧ En64 x := by
  intro j x h
  match j, h with
  | 0, h => cases h; exact ⟨lg_a1, rfl, low_one rfl (by decide), by unfold En64; decide⟩
  | 1, h => cases h; exact ⟨lg_a2, rfl, low_one rfl (by decide), by unfold En64; decide⟩
  | 2, h => cases h; exact ⟨lg_a3, rfl, low_one rfl (by decide), by unfold En64; decide⟩
  | 3, h => cases h; exact ⟨lg_a4, rfl, low_one rfl (by decide), by unfold En64; decide⟩
  | _ + 4, h => cases h
/-- An index made since w. -/
structure IXW (w W : World) (b : Nat) (X : IX) (S : Nat → Prop) : Prop where
  ix : IXR W b X S
  g : Gr w W
  n : ∀ k, S k → w.heap.size ≤ k
theorem IXW.gr {w W W' : World} {b : Nat} {X : IX} {S : Nat → Prop} (h : IXW w W b X S) (g : Gr W W') : IXW w W' b X S := ⟨h.ix.gr g, h.g.trans g, h.n⟩
theorem IXW.post {w W W' : World} {b : Nat} {X X' : IX} {S : Nat → Prop} (h : IXW w W b X S) (p : IXPost b X' S W W') : ∃ S', IXW w W' b X' S' ∧ Mdh S W W' ∧ ∀ k, S' k → S k ∨ W.heap.size ≤ k := by
  obtain ⟨S', h1, h2, h3⟩ := p
  exact ⟨S', ⟨h1, h.g.md h2 h.n, fun k hk => (h3 k hk).elim (h.n k) (fun h4 => Nat.le_trans h.g.sz h4)⟩, h2, h3⟩
set_option maxRecDepth 40000 in
set_option maxHeartbeats 4000000 in
theorem lg_example (w : World) : Calls Try.prog 69 #[] w fun e w' => ∃ b S, e = .returned (.pointer (some ⟨b, 0, none⟩)) ∧ IXW w w' b lgX4 S := by
  have HST := Lib.hid lg_step
  go_enter Try.func69, Try.ntmps69
  go_wp2_with fail
  refine (New_any 3 w (by decide) (by decide)).mono ?_
  rintro e w1 ⟨b, S, rfl, h1, h2, h3⟩
  have H1 : Hid (IXW w w1 b (lgSt 0) S) := Lib.hid ⟨h1, h3, h2⟩
  have HLT : Hid (∀ k, S k → k < w1.heap.size) := Lib.hid (fun k hk => h1.lt k hk)
  clear h1 h2 h3
  go_wp2_with fail
  obtain ⟨g, hg⟩ : ∃ q, q = w1.heap.size := ⟨_, rfl⟩
  obtain ⟨w2, hw2⟩ : ∃ y, y = w1.alloc (.cells #[.int .i64 1, .string { data := #[97] }, .bool false, .int .i64 0, .int .i64 0, .int .i64 20, .int .i64 4, .string { data := #[98] }, .bool true, .int .i64 0, .int .i64 20, .int .i64 17, .int .i64 2, .string { data := #[98] }, .bool false, .int .i64 1, .int .i64 0, .int .i64 30, .int .i64 3, .string { data := #[97] }, .bool false, .int .i64 1, .int .i64 30, .int .i64 40] 53) := ⟨_, rfl⟩
  have H2 : Hid (IXW w w2 b (lgSt 0) S ∧ w2.heap[g]? = some (.cells (rowE lgL).toArray 53) ∧ ¬ S g) := Lib.hid ⟨by rw [hw2]; exact H1.out.gr ((Gr.refl _).alloc _), by rw [hw2, hg]; exact blkNew _ _, fun h => by have := HLT.out _ h; omega⟩
  rw [← hw2, ← hg]
  clear hw2 hg
  go_loopw [17] (fun t17 wx => ∃ (j : Nat) (S : Nat → Prop), j ≤ 4 ∧ t17 = .int .i64 j ∧ Hid (IXW w wx b (lgSt j) S ∧ wx.heap[g]? = some (.cells (rowE lgL).toArray 53) ∧ ¬ S g)) (fun t17 _ => 4 - (intOf t17).toNat)
  case atStart => exact ⟨0, S, by omega, rfl, H2⟩
  case round =>
    obtain ⟨j, S, hj, rfl, HR⟩ := hrel
    by_cases hlt : j < 4
    · have hlt' : (j : Int) < 4 := by omega
      have hx : lgL[j]? = some (lgL[j]'(show j < 4 from hlt)) := List.getElem?_eq_getElem _
      obtain ⟨x, hxx⟩ : ∃ y, lgL[j]? = some y := ⟨_, hx⟩
      have HX := Lib.hid (HST.out j x hxx)
      have cc := (cellsOf HR.out.2.1).1
      have hr : ∀ c u, (enC x)[c]? = some u → wr.cell? ⟨g, j * 6 + c, none⟩ = some u := fun c u hu => (cc _).trans (by rw [List.getElem?_toArray]; exact rowE_get lgL j x hxx c u hu)
      have d0 := hr 0 _ rfl
      have d1 := hr 1 _ rfl
      have d2 := hr 2 _ rfl
      have d3 := hr 3 _ rfl
      have d4 := hr 4 _ rfl
      have d5 := hr 5 _ rfl
      simp only [Nat.add_zero] at d0 d1 d2 d3 d4 d5
      clear hr cc hxx hx
      generalize hst : lgSt (j + 1) = Y1 at HX
      have HY := Lib.hid hst
      clear hst
      go_wp2_with (go_at_call 20; refine (Add_any (HR.out.1.ix.gr ((Gr.refl _).alloc _)) x HX.out.2.2.1 HX.out.2.2.2).mono ?_; rintro e w3 ⟨rfl, hp⟩; rw [HX.out.1]; have HP := Lib.hid hp; clear hp)
      obtain ⟨S', hI, hm, hs⟩ := (HR.out.1.gr ((Gr.refl _).alloc _)).post HP.out
      refine ⟨⟨j + 1, S', by omega, by go_num, Lib.hid ⟨by rw [HY.out, ← HX.out.2.1]; exact hI, hm.blk (((Gr.refl _).alloc _).blk HR.out.2.1) HR.out.2.2, fun h => (hs g h).elim HR.out.2.2 (fun h4 => by have := blkLt HR.out.2.1; rw [World.size_alloc] at h4; omega)⟩⟩, by simp [intOf]; omega⟩
    · have hlt' : ¬ (j : Int) < 4 := by omega
      have hj4 : j = 4 := by omega
      subst hj4
      go_wp2
      go_ret
      exact ⟨b, rfl, S, HR.out.1⟩
end Go.Proofs.Ytmdfickejpeofaa

/- drumlinlaw23: works. -/
set_option linter.unusedVariables false
set_option linter.unusedSimpArgs false
namespace Go.Proofs.Ytmdfickejpeofaa
open Go.RowKit Go.Shelf
attribute [local go_sem] OvM cell_ovm obj_ovm
attribute [local go_sem] Oper.semAt_some

theorem IXW.p {w W : World} {b : Nat} {X : IX} {S : Nat → Prop} (h : IXW w W b X S) : IXP W (some ⟨b, 0, none⟩) X S := .inl ⟨b, rfl, h.ix⟩
theorem lg_low5 : Low lgE5.key := low_one rfl (by decide)
theorem lg_64 : En64 lgE5 := by unfold En64; decide
theorem lg_g5 : ageBy ⟨70, 40, 0, 30, 3⟩ 5 = .tuple #[.int .i64 2, .int .i64 0] := by kernel_rfl
theorem lg_g2 : ageBy ⟨70, 40, 0, 30, 3⟩ 2 = .tuple #[.int .i64 0, .int .i64 2] := by kernel_rfl
set_option maxRecDepth 40000 in
set_option maxHeartbeats 4000000 in
theorem lg_works (w : World) : Calls Try.prog 17 #[] w fun e w' => e = .returned (.bool true) ∧ Gr w w' := by
  go_enter Try.func17, Try.ntmps17
  go_wp2_with fail
  refine (lg_example w).mono ?_
  rintro e w1 ⟨b, S, rfl, h1⟩
  have H1 := Lib.hid h1
  clear h1
  go_wp2_with fail
  refine (OfL_any H1.out.p 0).mono ?_
  rintro e w2 ⟨rfl, hg2⟩
  rw [lg_o0]
  simp only [byV]
  have H2 := Lib.hid (H1.out.gr hg2)
  clear hg2
  go_wp2_with fail
  refine (OfL_any (H2.out.gr ((Gr.refl _).alloc _)).p 1).mono ?_
  rintro e w3 ⟨rfl, hg3⟩
  rw [lg_o1]
  simp only [byV]
  have H3 := Lib.hid ((H2.out.gr ((Gr.refl _).alloc _)).gr hg3)
  obtain ⟨b2, hb2⟩ : ∃ q, q = w2.heap.size := ⟨_, rfl⟩
  have HB2 : Hid (w3.heap[b2]? = some (.cells #[.int .i64 37, .int .i64 0, .int .i64 17, .int .i64 20, .int .i64 4] 56)) := Lib.hid (by rw [hb2]; exact hg3.blk (blkNew w2 _))
  rw [← hb2]
  clear hg3 hb2
  go_wp2_with fail
  refine (OfL_any (H3.out.gr ((Gr.refl _).alloc _)).p 3).mono ?_
  rintro e w4 ⟨rfl, hg4⟩
  rw [lg_o3]
  simp only [byV, zBy]
  have H4 := Lib.hid ((H3.out.gr ((Gr.refl _).alloc _)).gr hg4)
  obtain ⟨b3, hb3⟩ : ∃ q, q = w3.heap.size := ⟨_, rfl⟩
  have HB3 : Hid (w4.heap[b2]? = some (.cells #[.int .i64 37, .int .i64 0, .int .i64 17, .int .i64 20, .int .i64 4] 56) ∧ w4.heap[b3]? = some (.cells #[.int .i64 70, .int .i64 40, .int .i64 0, .int .i64 30, .int .i64 3] 56)) := Lib.hid ⟨hg4.blk (((Gr.refl _).alloc _).blk HB2.out), by rw [hb3]; exact hg4.blk (blkNew w3 _)⟩
  rw [← hb3]
  clear hg4 hb3
  go_wp2_with fail
  refine (Sum_any (H4.out.gr ((Gr.refl _).alloc _)).p).mono ?_
  rintro e w5 ⟨rfl, hg5⟩
  rw [lg_s]
  simp only [byV]
  have H5 := Lib.hid ((H4.out.gr ((Gr.refl _).alloc _)).gr hg5)
  obtain ⟨c2, _⟩ := cellsOf (hg5.blk (((Gr.refl _).alloc _).blk HB3.out.1))
  obtain ⟨c3, _⟩ := cellsOf (hg5.blk (((Gr.refl _).alloc _).blk HB3.out.2))
  have HB5 := Lib.hid (And.intro (hg5.blk (((Gr.refl _).alloc _).blk HB3.out.1)) (hg5.blk (((Gr.refl _).alloc _).blk HB3.out.2)))
  have l2 := blkLt HB5.out.1
  have l3 := blkLt HB5.out.2
  clear hg5
  go_wp2_with fail
  have H5' := Lib.hid (H5.out.gr ((Gr.refl _).alloc (.cells #[.int .i64 107, .int .i64 40, .int .i64 17, .int .i64 50, .int .i64 4] 56)))
  obtain ⟨b8, hb8⟩ : ∃ q, q = w5.heap.size := ⟨_, rfl⟩
  have HB5' : Hid ((w5.alloc (.cells #[.int .i64 107, .int .i64 40, .int .i64 17, .int .i64 50, .int .i64 4] 56)).heap[b8]? = some (.cells #[.int .i64 107, .int .i64 40, .int .i64 17, .int .i64 50, .int .i64 4] 56) ∧ (w5.alloc (.cells #[.int .i64 107, .int .i64 40, .int .i64 17, .int .i64 50, .int .i64 4] 56)).heap[b3]? = some (.cells #[.int .i64 70, .int .i64 40, .int .i64 0, .int .i64 30, .int .i64 3] 56)) := Lib.hid ⟨by rw [hb8]; exact blkNew w5 _, ((Gr.refl _).alloc _).blk HB5.out.2⟩
  have HN8 : Hid (¬ S b8 ∧ w.heap.size ≤ b8) := Lib.hid ⟨fun h => by have := H5.out.ix.lt _ h; omega, by have := H5.out.g.sz; omega⟩
  rw [← hb8]
  clear hb8 c2 c3 l2 l3
  generalize w5.alloc (.cells #[.int .i64 107, .int .i64 40, .int .i64 17, .int .i64 50, .int .i64 4] 56) = w5' at *
  refine (Age_by ⟨70, 40, 0, 30, 3⟩ 5 _).mono ?_
  rintro e w6 ⟨rfl, hg6⟩
  rw [lg_g5]
  have H6 := Lib.hid (H5'.out.gr hg6)
  have HB6 := Lib.hid (And.intro (hg6.blk HB5'.out.1) (hg6.blk HB5'.out.2))
  obtain ⟨c3, _⟩ := cellsOf HB6.out.2
  have l3 := blkLt HB6.out.2
  clear hg6
  go_wp2_with fail
  refine (Age_by ⟨70, 40, 0, 30, 3⟩ 2 _).mono ?_
  rintro e w7 ⟨rfl, hg7⟩
  rw [lg_g2]
  have H7 := Lib.hid (H6.out.gr hg7)
  have HB7 := Lib.hid (hg7.blk HB6.out.1)
  clear hg7 c3 l3
  go_wp2_with (go_at_call 20; refine (Add_any H7.out.ix lgE5 lg_low5 lg_64).mono ?_; rintro e w8 ⟨rfl, hp⟩; rw [lg_a5]; have HP := Lib.hid hp; clear hp)
  obtain ⟨S8, hI8, hm8, hs8⟩ := H7.out.post HP.out
  have H8 : Hid (IXW w w8 b lgX5 S8) := Lib.hid hI8
  have HB8 := Lib.hid (hm8.blk HB7.out HN8.out.1)
  clear hI8 hm8 hs8
  refine (OfL_any H8.out.p 2).mono ?_
  rintro e w9 ⟨rfl, hg9⟩
  rw [lg_o2]
  simp only [byV]
  have H9 := Lib.hid (H8.out.gr hg9)
  have HB9 := Lib.hid (hg9.blk HB8.out)
  clear hg9
  go_wp2_with fail
  refine (Sum_any (H9.out.gr ((Gr.refl _).alloc _)).p).mono ?_
  rintro e w10 ⟨rfl, hg10⟩
  rw [lg_s5]
  simp only [byV]
  have H10 := Lib.hid ((H9.out.gr ((Gr.refl _).alloc _)).gr hg10)
  obtain ⟨b11, hb11⟩ : ∃ q, q = w9.heap.size := ⟨_, rfl⟩
  have HB11 : Hid (w10.heap[b11]? = some (.cells #[.int .i64 40, .int .i64 40, .int .i64 0, .int .i64 0, .int .i64 3] 56)) := Lib.hid (by rw [hb11]; exact hg10.blk (blkNew w9 _))
  have HB10 := Lib.hid (hg10.blk (((Gr.refl _).alloc _).blk HB9.out))
  have hne : b11 ≠ b8 := by have := blkLt HB9.out; omega
  rw [← hb11]
  obtain ⟨c11, _⟩ := cellsOf HB11.out
  obtain ⟨c8, f8⟩ := cellsOf HB10.out
  clear hg10 hb11
  go_wp2_with fail
  go_ret
  exact ⟨rfl, Gr.cell5 H10.out.g HN8.out.2 _ _ _ _ _⟩
end Go.Proofs.Ytmdfickejpeofaa
