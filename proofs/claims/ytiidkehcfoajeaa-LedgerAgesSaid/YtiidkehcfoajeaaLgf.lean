/- ledger.add: the sum of a row; ledger.Sum. -/
import Derived.Test.YtiidkehcfoajeaaLge
set_option linter.unusedVariables false
set_option linter.unusedSimpArgs false
namespace Go.Proofs.Ytiidkehcfoajeaa
open Go.RowKit Go.Shelf
attribute [local go_sem] OvM cell_ovm obj_ovm
attribute [local go_sem] Oper.semAt_some

theorem rowBy_cons (x : By) (l : List By) : rowBy (x :: l) = cellsBy x ++ rowBy l := rfl
theorem rowBy_get (l : List By) : ∀ i x, l[i]? = some x → ∀ j u, (cellsBy x)[j]? = some u → (rowBy l)[i * 5 + j]? = some u := by
  induction l with
  | nil => intro i x h; simp at h
  | cons y l ih =>
    intro i x h j u hu
    have hj : j < 5 := by have := (List.getElem?_eq_some_iff.1 hu).1; simpa [cellsBy] using this
    rw [rowBy_cons]
    cases i with
    | zero => simp at h; subst h; rw [List.getElem?_append_left (by simp [cellsBy]; omega)]; simpa using hu
    | succ i =>
      rw [List.getElem?_append_right (by simp [cellsBy]; omega), show (i + 1) * 5 + j - (cellsBy y).length = i * 5 + j by simp [cellsBy]; omega]
      exact ih i x (by simpa using h) j u hu
theorem ownBy_at {w : World} {v : Value} {l : List By} (h : Own w 44 5 v l.length (rowBy l)) : ∃ a cap, v = .slice a l.length cap ∧ l.length ≤ cap ∧ cap ≤ maxLen ∧ ∀ i x, l[i]? = some x → ∃ g, a = some ⟨g, 0, none⟩ ∧
    ∀ j u, (cellsBy x)[j]? = some u → w.cell? ⟨g, i * 5 + j, none⟩ = some u := by
  rcases h.2 with ⟨hv, h0⟩ | ⟨g, cap, cur, hv, _, hg, h1, h2, h3, h4⟩
  · have hL : l = [] := List.eq_nil_of_length_eq_zero h0
    subst hL
    exact ⟨none, 0, hv, Nat.le_refl _, by simp [maxLen], fun i x hx => by simp at hx⟩
  · subst hv
    refine ⟨_, cap, rfl, h1, h2, fun i x hx => ⟨g, rfl, fun j u hu => ?_⟩⟩
    have hc := h.cells (g := g) rfl
    have hadd : ∀ j, (⟨g, 0, none⟩ : Addr).add j = ⟨g, j, none⟩ := fun j => by unfold Addr.add; split <;> simp_all
    rw [← hadd]
    exact hc _ _ (rowBy_get l i x hx j u hu)
def addB (a b : By) : By := ⟨a.total + b.total, a.live + b.live, a.tombs + b.tombs, a.dead + b.dead, max a.last b.last⟩
def addL (l : List By) : By := l.foldl addB zBy
theorem addL_snoc (l : List By) (b : By) : addL (l ++ [b]) = addB (addL l) b := by simp [addL]
/-- No more than M in any field. -/
structure ByLe (b : By) (M : Int) : Prop where
  t : 0 ≤ b.total ∧ b.total ≤ M
  l : 0 ≤ b.live ∧ b.live ≤ M
  m : 0 ≤ b.tombs ∧ b.tombs ≤ M
  d : 0 ≤ b.dead ∧ b.dead ≤ M
  s : 0 ≤ b.last ∧ b.last ≤ 1099511627776
theorem addL_le {l : List By} (h : ∀ b ∈ l, ByLe b 8388608) : ByLe (addL l) (8388608 * l.length) := by
  have : ∀ (l : List By) (a : By) (M : Int), ByLe a M → (∀ b ∈ l, ByLe b 8388608) → ByLe (l.foldl addB a) (M + 8388608 * l.length) := by
    intro l
    induction l with
    | nil => intro a M ha _; simpa using ha
    | cons y l ih =>
      intro a M ha hl
      have hy := hl y (by simp)
      obtain ⟨t1, l1, m1, d1, s1⟩ := ha
      obtain ⟨t2, l2, m2, d2, s2⟩ := hy
      have := ih (addB a y) (M + 8388608) ⟨by simp only [addB]; omega, by simp only [addB]; omega, by simp only [addB]; omega, by simp only [addB]; omega, by simp only [addB]; omega⟩ (fun b hb => hl b (List.mem_cons_of_mem _ hb))
      rw [List.foldl_cons, List.length_cons, show M + 8388608 * ((l.length + 1 : Nat) : Int) = M + 8388608 + 8388608 * l.length by omega]
      exact this
  have := this l zBy 0 ⟨by simp [zBy], by simp [zBy], by simp [zBy], by simp [zBy], by simp [zBy]⟩ h
  simpa [addL] using this
theorem byOf_le {X : IX} (h : X.Wf) (s : Int) : ByLe (byOf X s) 8388608 := by
  have h1 := acc_ok X (X.slot s) (fun e he => ((h.slotOk s).e e he).2)
  have h2 := h.slot_le s
  obtain ⟨o1, o2, o3, o4, o5, o6⟩ := h1
  exact ⟨by simp only [byOf]; omega, by simp only [byOf]; omega, by simp only [byOf]; omega, by simp only [byOf]; omega, by simp only [byOf]; omega⟩
set_option maxRecDepth 40000 in
set_option maxHeartbeats 4000000 in
theorem add_any {w : World} {v : Value} {l : List By} (h : Own w 44 5 v l.length (rowBy l)) (hl : l.length ≤ 32) (hb : ∀ b ∈ l, ByLe b 8388608) : Calls Try.prog 89 #[v] w fun e w' => e = .returned (byV (addL l)) ∧ Gr w w' := by
  obtain ⟨a, cap, rfl, hc1, hc2, hat⟩ := ownBy_at h
  obtain ⟨n, hn⟩ : ∃ n, n = l.length := ⟨_, rfl⟩
  have HAT := Lib.hid hat
  have HB := Lib.hid hb
  have HN := Lib.hid hn
  rw [← hn] at hl hc1 ⊢
  unfold maxLen at hc2
  clear h hat hb hn
  refine calls_of_wp_marks Try.func89 rfl ?_
  simp only [Try.ntmps89, List.size_toArray, List.length_cons, List.length_nil, Nat.reduceAdd, Nat.reduceSub, Array.replicate_succ, Array.replicate_zero, List.push_toArray, List.append_toArray, List.nil_append, List.cons_append]
  go_wp2_with fail
  obtain ⟨b2, hb2⟩ : ∃ q, q = w.heap.size := ⟨_, rfl⟩
  obtain ⟨w0, hw0⟩ : ∃ y, y = (w.alloc (.cells #[.int .i64 0, .int .i64 0, .int .i64 0, .int .i64 0, .int .i64 0] 44)).alloc (.cells #[.int .i64 0, .int .i64 0, .int .i64 0, .int .i64 0, .int .i64 0] 44) := ⟨_, rfl⟩
  have H0 : Hid (w.heap.size ≤ b2 ∧ Gr w w0 ∧ w0.heap[b2]? = some (.cells #[.int .i64 0, .int .i64 0, .int .i64 0, .int .i64 0, .int .i64 0] 44) ∧ w0.heap[b2 + 1]? = some (.cells (cellsBy (addL (l.take 0))).toArray 44)) := Lib.hid (by
    have h1 := blkNew w (.cells #[.int .i64 0, .int .i64 0, .int .i64 0, .int .i64 0, .int .i64 0] 44)
    have h2 := blkNew (w.alloc (.cells #[.int .i64 0, .int .i64 0, .int .i64 0, .int .i64 0, .int .i64 0] 44)) (.cells #[.int .i64 0, .int .i64 0, .int .i64 0, .int .i64 0, .int .i64 0] 44)
    rw [World.size_alloc] at h2
    rw [hw0, hb2]
    exact ⟨Nat.le_refl _, ((Gr.refl w).alloc _).alloc _, ((Gr.refl _).alloc _).blk h1, h2⟩)
  rw [← hw0, ← hb2]
  clear hw0 hb2
  go_loopw [8] (fun t8 wx => ∃ j : Nat, j ≤ n ∧ t8 = .int .i64 j ∧ Hid (Gr w wx ∧ wx.heap[b2]? = some (.cells #[.int .i64 0, .int .i64 0, .int .i64 0, .int .i64 0, .int .i64 0] 44) ∧ wx.heap[b2 + 1]? = some (.cells (cellsBy (addL (l.take j))).toArray 44))) (fun t8 _ => n - (intOf t8).toNat)
  case atStart => exact ⟨0, by omega, rfl, Lib.hid H0.out.2⟩
  case round =>
    obtain ⟨j, hj, rfl, HR⟩ := hrel
    by_cases hlt : j < n
    · have hlt' : (j : Int) < n := by omega
      have hx : l[j]? = some (l[j]'(by have := HN.out; omega)) := List.getElem?_eq_getElem _
      obtain ⟨g, rfl, hc⟩ := HAT.out j _ hx
      have HT : Hid (addL (l.take (j + 1)) = addB (addL (l.take j)) (l[j]'(by have := HN.out; omega))) := Lib.hid (by
        rw [List.take_add_one, hx]; exact addL_snoc _ _)
      have HL1 := Lib.hid (addL_le (l := l.take j) (fun b hb => HB.out b (List.mem_of_mem_take hb)))
      have HL2 := Lib.hid (HB.out _ (List.mem_of_getElem? hx))
      have HLN : Hid ((l.take j).length ≤ 32) := Lib.hid (by rw [List.length_take]; omega)
      obtain ⟨hr1, hr2, hr3⟩ := HR.out
      have d0 := hr1.keep (hc 0 _ rfl)
      have d1 := hr1.keep (hc 1 _ rfl)
      have d2 := hr1.keep (hc 2 _ rfl)
      have d3 := hr1.keep (hc 3 _ rfl)
      have d4 := hr1.keep (hc 4 _ rfl)
      simp only [Nat.add_zero] at d0 d1 d2 d3 d4
      clear hc hx HR
      generalize l[j]'_ = y at *
      generalize hla : addL (l.take j) = z at *
      generalize (l.take j).length = k at *
      clear hla
      obtain ⟨z0, z1, z2, z3, z4⟩ := z
      obtain ⟨y0, y1, y2, y3, y4⟩ := y
      obtain ⟨⟨p0, p0'⟩, ⟨p1, p1'⟩, ⟨p2, p2'⟩, ⟨p3, p3'⟩, p4, p4'⟩ := HL1.out
      obtain ⟨⟨q0, q0'⟩, ⟨q1, q1'⟩, ⟨q2, q2'⟩, ⟨q3, q3'⟩, q4, q4'⟩ := HL2.out
      have hk := HLN.out
      simp only at *
      simp only [cellsBy] at hr3
      obtain ⟨c3, f3⟩ := cellsOf hr3
      have hlt3 := blkLt hr3
      have HR1 := Lib.hid hr1
      have HR2 := Lib.hid hr2
      have HR3 := Lib.hid hr3
      clear hr1 hr2 hr3
      go_wp2_with fail
      have hm : (if z4 < y4 then y4 else z4) = max z4 y4 := by split <;> omega
      rw [hm]
      have hn1 : b2 ≠ b2 + 1 := by omega
      refine ⟨⟨j + 1, by omega, by go_num, Lib.hid ⟨(Gr.cell5 HR1.out (by have := H0.out.1; omega) _ _ _ _ _).alloc _, ((Gr.refl _).alloc _).blk (blkSetO (blkSetO (blkSetO (blkSetO (blkSetO HR2.out hn1) hn1) hn1) hn1) hn1), ((Gr.refl _).alloc _).blk ?_⟩⟩, by simp [intOf]; omega⟩
      rw [HT.out]
      exact blk5 HR3.out _ _ _ _ _
    · have hlt' : ¬ (j : Int) < n := by omega
      have hjn : j = n := by omega
      subst hjn
      have HX : Hid (l.take j = l) := Lib.hid (List.take_of_length_le (by have := HN.out; omega))
      obtain ⟨hr1, hr2, hr3⟩ := HR.out
      rw [HX.out] at hr3
      have HR1 := Lib.hid hr1
      have HR2 := Lib.hid hr2
      generalize hz : addL l = z at *
      obtain ⟨z0, z1, z2, z3, z4⟩ := z
      have HZ := Lib.hid hz
      clear hz
      simp only [cellsBy] at hr3
      obtain ⟨c3, f3⟩ := cellsOf hr3
      obtain ⟨c2, f2⟩ := cellsOf hr2
      clear hr1 hr2 hr3 HR
      go_wp2_with fail
      have hb5 := blk5 HR2.out (.int .i64 z0) (.int .i64 z1) (.int .i64 z2) (.int .i64 z3) (.int .i64 z4)
      obtain ⟨d4, _⟩ := cellsOf hb5
      refine retM0 (v := byV ⟨z0, z1, z2, z3, z4⟩) ?_ rfl ⟨by rw [HZ.out], Gr.cell5 HR1.out H0.out.1 _ _ _ _ _⟩
      simp [results, Try.results89, go_sem, d4, byV]
def sumBy (X : IX) : By × Int := if X.slots.length = 0 then (zBy, 1) else (addL (allL X X.slots.length), 0)
set_option maxRecDepth 40000 in
set_option maxHeartbeats 4000000 in
theorem Sum_any {w : World} {p : Option Addr} {X : IX} {S : Nat → Prop} (h : IXP w p X S) : Calls Try.prog 28 #[.pointer p] w fun e w' => e = .returned (.tuple #[byV (sumBy X).1, .int .i64 (sumBy X).2]) ∧ Gr w w' := by
  have H := Lib.hid h
  have HL : Hid ((allL X X.slots.length).length = X.slots.length) := Lib.hid (by simp [allL])
  have HLE : Hid (∀ b ∈ allL X X.slots.length, ByLe b 8388608) := Lib.hid (fun b hb => by
    simp only [allL, List.mem_map] at hb
    obtain ⟨i, _, rfl⟩ := hb
    exact byOf_le h.ok i)
  have H32 := Lib.hid h.ok.n
  have HS : Hid (sumBy X = (addL (allL X X.slots.length), if X.slots.length = 0 then 1 else 0)) := Lib.hid (by
    unfold sumBy
    split
    · next h0 => rw [h0]; rfl
    · rfl)
  clear h
  refine calls_of_wp_marks Try.func28 rfl ?_
  simp only [Try.ntmps28, List.size_toArray, List.length_cons, List.length_nil, Nat.reduceAdd, Nat.reduceSub, Array.replicate_succ, Array.replicate_zero, List.push_toArray, List.append_toArray, List.nil_append, List.cons_append]
  go_wp2_with fail
  obtain ⟨b, hb⟩ : ∃ q, q = w.heap.size := ⟨_, rfl⟩
  obtain ⟨w0, hw0⟩ : ∃ y, y = w.alloc (.cells #[.int .i64 0, .int .i64 0, .int .i64 0, .int .i64 0, .int .i64 0] 44) := ⟨_, rfl⟩
  have H0 : Hid (w.heap.size ≤ b ∧ Gr w w0 ∧ w0.heap[b]? = some (.cells #[.int .i64 0, .int .i64 0, .int .i64 0, .int .i64 0, .int .i64 0] 44)) := Lib.hid (by
    rw [hw0, hb]
    exact ⟨Nat.le_refl _, (Gr.refl w).alloc _, blkNew w _⟩)
  rw [← hw0, ← hb]
  clear hw0 hb
  refine (All_any (H.out.gr H0.out.2.1)).mono ?_
  rintro e w1 ⟨v, rfl, hrow, hg1⟩
  have HG1 := Lib.hid (H0.out.2.1.trans hg1)
  have HB1 := Lib.hid (hg1.blk H0.out.2.2)
  have HROW := Lib.hid hrow.own
  clear hrow hg1
  generalize hq : (if X.slots.length = 0 then (1 : Int) else 0) = q at *
  generalize hz : addL (allL X X.slots.length) = z at *
  go_wp2_with (go_at_call 89; refine (add_any (l := allL X X.slots.length) (by rw [HL.out]; exact HROW.out) (by rw [HL.out]; exact H32.out) HLE.out).mono ?_; rintro e w2 ⟨rfl, hg2⟩; have HG2 := Lib.hid (HG1.out.trans hg2); have HB2 := Lib.hid (hg2.blk HB1.out); obtain ⟨c2, f2⟩ := cellsOf HB2.out; clear hg2; rw [hz]; obtain ⟨z0, z1, z2, z3, z4⟩ := z; simp only [byV])
  have hb5 := blk5 HB2.out (.int .i64 z0) (.int .i64 z1) (.int .i64 z2) (.int .i64 z3) (.int .i64 z4)
  obtain ⟨d4, _⟩ := cellsOf hb5
  refine retM0 (v := .tuple #[byV ⟨z0, z1, z2, z3, z4⟩, .int .i64 q]) ?_ rfl ⟨by rw [HS.out], Gr.cell5 HG2.out H0.out.1 _ _ _ _ _⟩
  simp [results, Try.results28, go_sem, d4, byV]
end Go.Proofs.Ytiidkehcfoajeaa
