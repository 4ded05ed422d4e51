/- ledger.All: the bytes of all slots. -/
import Derived.Test.YtiidkehcfoajeaaBd7
import Derived.Test.YtiidkehcfoajeaaBd6
import Derived.Laws.MakeOwn
set_option linter.unusedVariables false
set_option linter.unusedSimpArgs false
namespace Go.Proofs.Ytiidkehcfoajeaa
open Go.RowKit Go.Shelf
attribute [local go_sem] OvM cell_ovm obj_ovm
attribute [local go_sem] Oper.semAt_some

theorem infoBy : (Try.prog.info? 44).map (fun i => (i.zero, i.size, i.bytes)) = some (some (.agg #[.int .i64 0, .int .i64 0, .int .i64 0, .int .i64 0, .int .i64 0]), 5, 40) := by kernel_rfl
def cellsBy (b : By) : List Value := [.int .i64 b.total, .int .i64 b.live, .int .i64 b.tombs, .int .i64 b.dead, .int .i64 b.last]
def rowBy (l : List By) : List Value := l.flatMap cellsBy
def allL (X : IX) (n : Nat) : List By := (List.range n).map fun i => byOf X (i : Nat)
theorem allL_succ (X : IX) (n : Nat) : allL X (n + 1) = allL X n ++ [byOf X n] := by simp [allL, List.range_succ]
theorem rowBy_snoc (l : List By) (b : By) : rowBy (l ++ [b]) = rowBy l ++ cellsBy b := by simp [rowBy]
def AllPost (X : IX) (w : World) (e : Ending) (w' : World) : Prop :=
  ∃ v, e = .returned (.tuple #[v, .int .i64 (if X.slots.length = 0 then 1 else 0)]) ∧ Nw w w' 44 5 v X.slots.length (rowBy (allL X X.slots.length)) ∧ Gr w w'
theorem Nw.nil (w : World) (e : TypeId) (K : Nat) : Nw w w e K (.slice none 0 0) 0 [] := ⟨Own.lift (World.ownsRow_nil w w.heap.size e K), fun q hq => by cases hq⟩
set_option maxRecDepth 40000 in
set_option maxHeartbeats 4000000 in
theorem All_any {w : World} {p : Option Addr} {X : IX} {S : Nat → Prop} (h : IXP w p X S) : Calls Try.prog 27 #[.pointer p] w (AllPost X w) := by
  have H := Lib.hid h
  have h32 := h.ok.n
  obtain ⟨n, hn⟩ : ∃ n : Nat, n = X.slots.length := ⟨_, rfl⟩
  have HSL : Hid (∀ w1, Gr w w1 → Calls Try.prog 67 #[.pointer p] w1 fun e w' => e = .returned (.int .i64 n) ∧ w1 = w') := Lib.hid (fun w1 g => by rw [hn]; exact Slots_any (h.gr g))
  have HAP : Hid (∀ v w', Nw w w' 44 5 v n (rowBy (allL X n)) → Gr w w' → AllPost X w (.returned (.tuple #[v, .int .i64 (if n = 0 then 1 else 0)])) w') := Lib.hid (by rw [hn]; exact fun v w' h1 h2 => ⟨v, rfl, h1, h2⟩)
  rw [← hn] at h32
  obtain ⟨i0, hi, hz0, hz1, hz2⟩ := info_parts infoBy
  generalize AllPost X w = Q at *
  clear h hn
  go_enter Try.func27, Try.ntmps27
  by_cases hz : n = 0
  · subst hz
    go_wp2_with (go_at_call 67; refine (HSL.out _ (Gr.refl _)).mono ?_; rintro e w1 ⟨rfl, rfl⟩)
    exact HAP.out _ _ (Nw.nil w _ _) (Gr.refl _)
  · have hz' : decide ((n : Int) = 0) = false := by simpa using hz
    go_wp2_with (go_at_call 67; refine (HSL.out _ (Gr.refl _)).mono ?_; rintro e w1 ⟨rfl, rfl⟩)
    go_loopw [4, 11] (fun t4 t11 wx => ∃ (j : Nat) (v : Value), j ≤ n ∧ v = t4 ∧ t11 = .int .i64 j ∧ Hid (Nw w wx 44 5 v j (rowBy (allL X j)) ∧ Gr w wx)) (fun _ t11 _ => n - (intOf t11).toNat)
    case atStart => exact ⟨0, _, by omega, rfl, rfl, Lib.hid ⟨Nw.nil w _ _, Gr.refl _⟩⟩
    case round =>
      obtain ⟨j, v, hj, rfl, rfl, HR⟩ := hrel
      by_cases hlt : j < n
      · have hlt' : (j : Int) < n := by omega
        have HROW : Hid (rowBy (allL X (j + 1)) = rowBy (allL X j) ++ cellsBy (byOf X j)) := Lib.hid (by rw [allL_succ, rowBy_snoc])
        go_wp2_with (first
          | (go_at_call 88; refine (of_any (H.out.gr HR.out.2) j).mono ?_; rintro e w1 ⟨rfl, hg⟩; generalize byOf X j = y at *; obtain ⟨y0, y1, y2, y3, y4⟩ := y; simp only [byV]; have N1 := Lib.hid (HR.out.1.gr hg); have HG1 := Lib.hid (HR.out.2.trans hg); clear hg)
          | (at_builtin; go_must (refine wpList_appv _ rfl (.tmp 14) (.tmp 18) 54 rfl 44 i0 _ 5 40 Try.underlying54 hi hz0 hz1 hz2 rfl (by decide) v j (rowBy (allL X j)) rfl (N1.out.own.gr (by (repeat (first | (with_reducible exact Gr.refl _) | assumption | (with_reducible apply Gr.from_drew) | (with_reducible apply Gr.alloc) | (with_reducible apply Gr.drew) | (with_reducible refine Gr.trans ?_ (by assumption)) | (with_reducible refine Gr.setCell ?_ (by omega) _))))) (some ⟨w1.heap.size, 0, none⟩) 1 1 (cellsBy ⟨y0, y1, y2, y3, y4⟩) rfl (src_newK w1 (cellsBy ⟨y0, y1, y2, y3, y4⟩) _ 5 rfl (by simp [cellsBy, Value.oneCell'])) (by simp only [maxLen]; omega) (by omega) ?_); intro v2 w2 hA; have N2 := Lib.hid (hA.nw (N1.out.gr ((Gr.refl w1).alloc _)) (by have := HG1.out.sz; simp; omega)); have HG2 := Lib.hid (hA.gw (N1.out.gr ((Gr.refl w1).alloc _)) (HG1.out.alloc _)); clear hA)
          | fail)
        go_roundw
        case rel => exact ⟨j + 1, v2, by omega, rfl, by go_num, Lib.hid ⟨by rw [HROW.out]; exact N2.out, HG2.out⟩⟩
        case measure => simp [intOf]; omega
      · have hlt' : ¬ (j : Int) < n := by omega
        have hjn : j = n := by omega
        subst hjn
        go_wp2
        have := HAP.out _ _ HR.out.1 HR.out.2
        rwa [if_neg hz] at this
end Go.Proofs.Ytiidkehcfoajeaa

/- ledger.add: the sum of a row; ledger.Sum. -/
set_option linter.unusedVariables false
set_option linter.unusedSimpArgs false
namespace Go.Proofs.Ytiidkehcfoajeaa
open Go.RowKit Go.Shelf
attribute [local go_sem] OvM cell_ovm obj_ovm
attribute [local go_sem] Oper.semAt_some

theorem rowBy_cons (x : By) (l : List By) : rowBy (x :: l) = cellsBy x ++ rowBy l := rfl
theorem rowBy_get (l : List By) : ∀ i x, l[i]? = some x → ∀ j u, (cellsBy x)[j]? = some u → (rowBy l)[i * 5 + j]? = some u := by
  induction l with
  | nil => intro i x h; simp at h
  | cons y l ih =>
    intro i x h j u hu
    have hj : j < 5 := by have := (List.getElem?_eq_some_iff.1 hu).1; simpa [cellsBy] using this
    rw [rowBy_cons]
    cases i with
    | zero => simp at h; subst h; rw [List.getElem?_append_left (by simp [cellsBy]; omega)]; simpa using hu
    | succ i =>
      rw [List.getElem?_append_right (by simp [cellsBy]; omega), show (i + 1) * 5 + j - (cellsBy y).length = i * 5 + j by simp [cellsBy]; omega]
      exact ih i x (by simpa using h) j u hu
theorem ownBy_at {w : World} {v : Value} {l : List By} (h : Own w 44 5 v l.length (rowBy l)) : ∃ a cap, v = .slice a l.length cap ∧ l.length ≤ cap ∧ cap ≤ maxLen ∧ ∀ i x, l[i]? = some x → ∃ g, a = some ⟨g, 0, none⟩ ∧
    ∀ j u, (cellsBy x)[j]? = some u → w.cell? ⟨g, i * 5 + j, none⟩ = some u := by
  rcases h.2 with ⟨hv, h0⟩ | ⟨g, cap, cur, hv, _, hg, h1, h2, h3, h4⟩
  · have hL : l = [] := List.eq_nil_of_length_eq_zero h0
    subst hL
    exact ⟨none, 0, hv, Nat.le_refl _, by simp [maxLen], fun i x hx => by simp at hx⟩
  · subst hv
    refine ⟨_, cap, rfl, h1, h2, fun i x hx => ⟨g, rfl, fun j u hu => ?_⟩⟩
    have hc := h.cells (g := g) rfl
    have hadd : ∀ j, (⟨g, 0, none⟩ : Addr).add j = ⟨g, j, none⟩ := fun j => by unfold Addr.add; split <;> simp_all
    rw [← hadd]
    exact hc _ _ (rowBy_get l i x hx j u hu)
def addB (a b : By) : By := ⟨a.total + b.total, a.live + b.live, a.tombs + b.tombs, a.dead + b.dead, max a.last b.last⟩
def addL (l : List By) : By := l.foldl addB zBy
theorem addL_snoc (l : List By) (b : By) : addL (l ++ [b]) = addB (addL l) b := by simp [addL]
/-- No more than M in any field. -/
structure ByLe (b : By) (M : Int) : Prop where
  t : 0 ≤ b.total ∧ b.total ≤ M
  l : 0 ≤ b.live ∧ b.live ≤ M
  m : 0 ≤ b.tombs ∧ b.tombs ≤ M
  d : 0 ≤ b.dead ∧ b.dead ≤ M
  s : 0 ≤ b.last ∧ b.last ≤ 1099511627776
theorem addL_le {l : List By} (h : ∀ b ∈ l, ByLe b 8388608) : ByLe (addL l) (8388608 * l.length) := by
  have : ∀ (l : List By) (a : By) (M : Int), ByLe a M → (∀ b ∈ l, ByLe b 8388608) → ByLe (l.foldl addB a) (M + 8388608 * l.length) := by
    intro l
    induction l with
    | nil => intro a M ha _; simpa using ha
    | cons y l ih =>
      intro a M ha hl
      have hy := hl y (by simp)
      obtain ⟨t1, l1, m1, d1, s1⟩ := ha
      obtain ⟨t2, l2, m2, d2, s2⟩ := hy
      have := ih (addB a y) (M + 8388608) ⟨by simp only [addB]; omega, by simp only [addB]; omega, by simp only [addB]; omega, by simp only [addB]; omega, by simp only [addB]; omega⟩ (fun b hb => hl b (List.mem_cons_of_mem _ hb))
      rw [List.foldl_cons, List.length_cons, show M + 8388608 * ((l.length + 1 : Nat) : Int) = M + 8388608 + 8388608 * l.length by omega]
      exact this
  have := this l zBy 0 ⟨by simp [zBy], by simp [zBy], by simp [zBy], by simp [zBy], by simp [zBy]⟩ h
  simpa [addL] using this
theorem byOf_le {X : IX} (h : X.Wf) (s : Int) : ByLe (byOf X s) 8388608 := by
  have h1 := acc_ok X (X.slot s) (fun e he => ((h.slotOk s).e e he).2)
  have h2 := h.slot_le s
  obtain ⟨o1, o2, o3, o4, o5, o6⟩ := h1
  exact ⟨by simp only [byOf]; omega, by simp only [byOf]; omega, by simp only [byOf]; omega, by simp only [byOf]; omega, by simp only [byOf]; omega⟩
set_option maxRecDepth 40000 in
set_option maxHeartbeats 4000000 in
theorem add_any {w : World} {v : Value} {l : List By} (h : Own w 44 5 v l.length (rowBy l)) (hl : l.length ≤ 32) (hb : ∀ b ∈ l, ByLe b 8388608) : Calls Try.prog 89 #[v] w fun e w' => e = .returned (byV (addL l)) ∧ Gr w w' := by
  obtain ⟨a, cap, rfl, hc1, hc2, hat⟩ := ownBy_at h
  obtain ⟨n, hn⟩ : ∃ n, n = l.length := ⟨_, rfl⟩
  have HAT := Lib.hid hat
  have HB := Lib.hid hb
  have HN := Lib.hid hn
  rw [← hn] at hl hc1 ⊢
  unfold maxLen at hc2
  clear h hat hb hn
  refine calls_of_wp_marks Try.func89 rfl ?_
  simp only [Try.ntmps89, List.size_toArray, List.length_cons, List.length_nil, Nat.reduceAdd, Nat.reduceSub, Array.replicate_succ, Array.replicate_zero, List.push_toArray, List.append_toArray, List.nil_append, List.cons_append]
  go_wp2_with fail
  obtain ⟨b2, hb2⟩ : ∃ q, q = w.heap.size := ⟨_, rfl⟩
  obtain ⟨w0, hw0⟩ : ∃ y, y = (w.alloc (.cells #[.int .i64 0, .int .i64 0, .int .i64 0, .int .i64 0, .int .i64 0] 44)).alloc (.cells #[.int .i64 0, .int .i64 0, .int .i64 0, .int .i64 0, .int .i64 0] 44) := ⟨_, rfl⟩
  have H0 : Hid (w.heap.size ≤ b2 ∧ Gr w w0 ∧ w0.heap[b2]? = some (.cells #[.int .i64 0, .int .i64 0, .int .i64 0, .int .i64 0, .int .i64 0] 44) ∧ w0.heap[b2 + 1]? = some (.cells (cellsBy (addL (l.take 0))).toArray 44)) := Lib.hid (by
    have h1 := blkNew w (.cells #[.int .i64 0, .int .i64 0, .int .i64 0, .int .i64 0, .int .i64 0] 44)
    have h2 := blkNew (w.alloc (.cells #[.int .i64 0, .int .i64 0, .int .i64 0, .int .i64 0, .int .i64 0] 44)) (.cells #[.int .i64 0, .int .i64 0, .int .i64 0, .int .i64 0, .int .i64 0] 44)
    rw [World.size_alloc] at h2
    rw [hw0, hb2]
    exact ⟨Nat.le_refl _, ((Gr.refl w).alloc _).alloc _, ((Gr.refl _).alloc _).blk h1, h2⟩)
  rw [← hw0, ← hb2]
  clear hw0 hb2
  go_loopw [8] (fun t8 wx => ∃ j : Nat, j ≤ n ∧ t8 = .int .i64 j ∧ Hid (Gr w wx ∧ wx.heap[b2]? = some (.cells #[.int .i64 0, .int .i64 0, .int .i64 0, .int .i64 0, .int .i64 0] 44) ∧ wx.heap[b2 + 1]? = some (.cells (cellsBy (addL (l.take j))).toArray 44))) (fun t8 _ => n - (intOf t8).toNat)
  case atStart => exact ⟨0, by omega, rfl, Lib.hid H0.out.2⟩
  case round =>
    obtain ⟨j, hj, rfl, HR⟩ := hrel
    by_cases hlt : j < n
    · have hlt' : (j : Int) < n := by omega
      have hx : l[j]? = some (l[j]'(by have := HN.out; omega)) := List.getElem?_eq_getElem _
      obtain ⟨g, rfl, hc⟩ := HAT.out j _ hx
      have HT : Hid (addL (l.take (j + 1)) = addB (addL (l.take j)) (l[j]'(by have := HN.out; omega))) := Lib.hid (by
        rw [List.take_add_one, hx]; exact addL_snoc _ _)
      have HL1 := Lib.hid (addL_le (l := l.take j) (fun b hb => HB.out b (List.mem_of_mem_take hb)))
      have HL2 := Lib.hid (HB.out _ (List.mem_of_getElem? hx))
      have HLN : Hid ((l.take j).length ≤ 32) := Lib.hid (by rw [List.length_take]; omega)
      obtain ⟨hr1, hr2, hr3⟩ := HR.out
      have d0 := hr1.keep (hc 0 _ rfl)
      have d1 := hr1.keep (hc 1 _ rfl)
      have d2 := hr1.keep (hc 2 _ rfl)
      have d3 := hr1.keep (hc 3 _ rfl)
      have d4 := hr1.keep (hc 4 _ rfl)
      simp only [Nat.add_zero] at d0 d1 d2 d3 d4
      clear hc hx HR
      generalize l[j]'_ = y at *
      generalize hla : addL (l.take j) = z at *
      generalize (l.take j).length = k at *
      clear hla
      obtain ⟨z0, z1, z2, z3, z4⟩ := z
      obtain ⟨y0, y1, y2, y3, y4⟩ := y
      obtain ⟨⟨p0, p0'⟩, ⟨p1, p1'⟩, ⟨p2, p2'⟩, ⟨p3, p3'⟩, p4, p4'⟩ := HL1.out
      obtain ⟨⟨q0, q0'⟩, ⟨q1, q1'⟩, ⟨q2, q2'⟩, ⟨q3, q3'⟩, q4, q4'⟩ := HL2.out
      have hk := HLN.out
      simp only at *
      simp only [cellsBy] at hr3
      obtain ⟨c3, f3⟩ := cellsOf hr3
      have hlt3 := blkLt hr3
      have HR1 := Lib.hid hr1
      have HR2 := Lib.hid hr2
      have HR3 := Lib.hid hr3
      clear hr1 hr2 hr3
      go_wp2_with fail
      have hm : (if z4 < y4 then y4 else z4) = max z4 y4 := by split <;> omega
      rw [hm]
      have hn1 : b2 ≠ b2 + 1 := by omega
      refine ⟨⟨j + 1, by omega, by go_num, Lib.hid ⟨(Gr.cell5 HR1.out (by have := H0.out.1; omega) _ _ _ _ _).alloc _, ((Gr.refl _).alloc _).blk (blkSetO (blkSetO (blkSetO (blkSetO (blkSetO HR2.out hn1) hn1) hn1) hn1) hn1), ((Gr.refl _).alloc _).blk ?_⟩⟩, by simp [intOf]; omega⟩
      rw [HT.out]
      exact blk5 HR3.out _ _ _ _ _
    · have hlt' : ¬ (j : Int) < n := by omega
      have hjn : j = n := by omega
      subst hjn
      have HX : Hid (l.take j = l) := Lib.hid (List.take_of_length_le (by have := HN.out; omega))
      obtain ⟨hr1, hr2, hr3⟩ := HR.out
      rw [HX.out] at hr3
      have HR1 := Lib.hid hr1
      have HR2 := Lib.hid hr2
      generalize hz : addL l = z at *
      obtain ⟨z0, z1, z2, z3, z4⟩ := z
      have HZ := Lib.hid hz
      clear hz
      simp only [cellsBy] at hr3
      obtain ⟨c3, f3⟩ := cellsOf hr3
      obtain ⟨c2, f2⟩ := cellsOf hr2
      clear hr1 hr2 hr3 HR
      go_wp2_with fail
      have hb5 := blk5 HR2.out (.int .i64 z0) (.int .i64 z1) (.int .i64 z2) (.int .i64 z3) (.int .i64 z4)
      obtain ⟨d4, _⟩ := cellsOf hb5
      refine retM0 (v := byV ⟨z0, z1, z2, z3, z4⟩) ?_ rfl ⟨by rw [HZ.out], Gr.cell5 HR1.out H0.out.1 _ _ _ _ _⟩
      simp [results, Try.results89, go_sem, d4, byV]
def sumBy (X : IX) : By × Int := if X.slots.length = 0 then (zBy, 1) else (addL (allL X X.slots.length), 0)
set_option maxRecDepth 40000 in
set_option maxHeartbeats 4000000 in
theorem Sum_any {w : World} {p : Option Addr} {X : IX} {S : Nat → Prop} (h : IXP w p X S) : Calls Try.prog 28 #[.pointer p] w fun e w' => e = .returned (.tuple #[byV (sumBy X).1, .int .i64 (sumBy X).2]) ∧ Gr w w' := by
  have H := Lib.hid h
  have HL : Hid ((allL X X.slots.length).length = X.slots.length) := Lib.hid (by simp [allL])
  have HLE : Hid (∀ b ∈ allL X X.slots.length, ByLe b 8388608) := Lib.hid (fun b hb => by
    simp only [allL, List.mem_map] at hb
    obtain ⟨i, _, rfl⟩ := hb
    exact byOf_le h.ok i)
  have H32 := Lib.hid h.ok.n
  have HS : Hid (sumBy X = (addL (allL X X.slots.length), if X.slots.length = 0 then 1 else 0)) := Lib.hid (by
    unfold sumBy
    split
    · next h0 => rw [h0]; rfl
    · rfl)
  clear h
  refine calls_of_wp_marks Try.func28 rfl ?_
  simp only [Try.ntmps28, List.size_toArray, List.length_cons, List.length_nil, Nat.reduceAdd, Nat.reduceSub, Array.replicate_succ, Array.replicate_zero, List.push_toArray, List.append_toArray, List.nil_append, List.cons_append]
  go_wp2_with fail
  obtain ⟨b, hb⟩ : ∃ q, q = w.heap.size := ⟨_, rfl⟩
  obtain ⟨w0, hw0⟩ : ∃ y, y = w.alloc (.cells #[.int .i64 0, .int .i64 0, .int .i64 0, .int .i64 0, .int .i64 0] 44) := ⟨_, rfl⟩
  have H0 : Hid (w.heap.size ≤ b ∧ Gr w w0 ∧ w0.heap[b]? = some (.cells #[.int .i64 0, .int .i64 0, .int .i64 0, .int .i64 0, .int .i64 0] 44)) := Lib.hid (by
    rw [hw0, hb]
    exact ⟨Nat.le_refl _, (Gr.refl w).alloc _, blkNew w _⟩)
  rw [← hw0, ← hb]
  clear hw0 hb
  refine (All_any (H.out.gr H0.out.2.1)).mono ?_
  rintro e w1 ⟨v, rfl, hrow, hg1⟩
  have HG1 := Lib.hid (H0.out.2.1.trans hg1)
  have HB1 := Lib.hid (hg1.blk H0.out.2.2)
  have HROW := Lib.hid hrow.own
  clear hrow hg1
  generalize hq : (if X.slots.length = 0 then (1 : Int) else 0) = q at *
  generalize hz : addL (allL X X.slots.length) = z at *
  go_wp2_with (go_at_call 89; refine (add_any (l := allL X X.slots.length) (by rw [HL.out]; exact HROW.out) (by rw [HL.out]; exact H32.out) HLE.out).mono ?_; rintro e w2 ⟨rfl, hg2⟩; have HG2 := Lib.hid (HG1.out.trans hg2); have HB2 := Lib.hid (hg2.blk HB1.out); obtain ⟨c2, f2⟩ := cellsOf HB2.out; clear hg2; rw [hz]; obtain ⟨z0, z1, z2, z3, z4⟩ := z; simp only [byV])
  have hb5 := blk5 HB2.out (.int .i64 z0) (.int .i64 z1) (.int .i64 z2) (.int .i64 z3) (.int .i64 z4)
  obtain ⟨d4, _⟩ := cellsOf hb5
  refine retM0 (v := .tuple #[byV ⟨z0, z1, z2, z3, z4⟩, .int .i64 q]) ?_ rfl ⟨by rw [HS.out], Gr.cell5 HG2.out H0.out.1 _ _ _ _ _⟩
  simp [results, Try.results28, go_sem, d4, byV]
end Go.Proofs.Ytiidkehcfoajeaa

/- ledger.Check and Age, and the reference's. -/
set_option linter.unusedVariables false
set_option linter.unusedSimpArgs false
namespace Go.Proofs.Ytiidkehcfoajeaa
open Go.RowKit
attribute [local go_sem] OvM cell_ovm obj_ovm

theorem inBy_yes {n : Int} (h : inBy n = true) : 0 ≤ n ∧ n ≤ 262144 := by simpa [inBy] using h
theorem chk_0 {b : By} (h1 : inBy b.live = true) (h2 : inBy b.tombs = true) (h3 : inBy b.dead = true) (h4 : inBy b.total = true) (h5 : b.total = b.live + b.tombs + b.dead) (h6 : 0 ≤ b.last) (h7 : b.last ≤ 1099511627776) (h8 : b.last = 0 ↔ b.total = 0) : chkBy b = 0 := if_pos ⟨h1, h2, h3, h4, h5, h6, h7, h8⟩
theorem chk_2 {b : By} (h : ¬ (inBy b.live = true ∧ inBy b.tombs = true ∧ inBy b.dead = true ∧ inBy b.total = true ∧ b.total = b.live + b.tombs + b.dead ∧ 0 ≤ b.last ∧ b.last ≤ 1099511627776 ∧ (b.last = 0 ↔ b.total = 0))) : chkBy b = 2 := if_neg h
set_option maxRecDepth 40000 in
set_option maxHeartbeats 2000000 in
theorem Check_by (b : By) (w : World) : Calls Try.prog 23 #[byV b] w fun e w' => e = .returned (.int .i64 (chkBy b)) ∧ Gr w w' := by
  obtain ⟨l, hl⟩ : ∃ l : List Int, l = [b.live, b.tombs, b.dead, b.total] := ⟨_, rfl⟩
  have HL := Lib.hid hl
  clear hl
  simp only [byV]
  go_enter Try.func23, Try.ntmps23
  go_wp2_with fail
  obtain ⟨w1, hw1⟩ : ∃ y, y = (w.alloc (.cells #[.int .i64 b.total, .int .i64 b.live, .int .i64 b.tombs, .int .i64 b.dead, .int .i64 b.last] 44)).alloc (.cells #[.int .i64 b.live, .int .i64 b.tombs, .int .i64 b.dead, .int .i64 b.total] 3) := ⟨_, rfl⟩
  obtain ⟨b1, hb1⟩ : ∃ q, q = w.heap.size := ⟨_, rfl⟩
  have HW : Hid (Gr w w1 ∧ w1.heap[b1]? = some (.cells #[.int .i64 b.total, .int .i64 b.live, .int .i64 b.tombs, .int .i64 b.dead, .int .i64 b.last] 44) ∧ ∀ k v, l[k]? = some v → w1.cell? ⟨b1 + 1, k, none⟩ = some (.int .i64 v)) := Lib.hid (by
    have h2 : w1.heap[b1 + 1]? = some (.cells (l.map (Value.int .i64)).toArray 3) := by
      rw [hw1, hb1, HL.out]
      have := blkNew (w.alloc (.cells #[.int .i64 b.total, .int .i64 b.live, .int .i64 b.tombs, .int .i64 b.dead, .int .i64 b.last] 44)) (.cells #[.int .i64 b.live, .int .i64 b.tombs, .int .i64 b.dead, .int .i64 b.total] 3)
      rwa [World.size_alloc] at this
    refine ⟨by rw [hw1]; exact ((Gr.refl w).alloc _).alloc _, by rw [hw1, hb1]; exact blkOld (blkNew w _), fun k v hk => ?_⟩
    rw [(cellsOf h2).1]
    simp [hk])
  have HN : Hid (l.length = 4) := Lib.hid (by rw [HL.out]; rfl)
  rw [← hw1, ← hb1]
  clear hw1 hb1
  go_loop [15] (fun t15 => ∃ k : Nat, k ≤ 4 ∧ t15 = .int .i64 k ∧ Hid (∀ j v, j < k → l[j]? = some v → inBy v = true)) (fun t15 => 4 - (intOf t15).toNat)
  case atStart => exact ⟨0, by omega, rfl, Lib.hid (fun j v h => by omega)⟩
  case round =>
    obtain ⟨k, hk, rfl, HK⟩ := hrel
    by_cases hlt : k < 4
    · have hlt' : (k : Int) < 4 := by omega
      obtain ⟨v, hv⟩ : ∃ v, l[k]? = some v := ⟨_, List.getElem?_eq_getElem (by rw [HN.out]; exact hlt)⟩
      have hc := HW.out.2.2 k v hv
      have HV := Lib.hid hv
      clear hv
      by_cases hin : 0 ≤ v ∧ v ≤ 262144
      · have hI : Hid (inBy v = true) := Lib.hid (by simpa [inBy] using hin)
        obtain ⟨h1, h2⟩ := hin
        go_wp2
        go_round
        case rel => exact ⟨k + 1, by omega, by go_num, Lib.hid (fun j u hj hu => by
          rcases Nat.lt_or_ge j k with h | h
          · exact HK.out j u h hu
          · obtain rfl : j = k := by omega
            rw [HV.out] at hu
            rw [← Option.some.inj hu]; exact hI.out)⟩
        case measure => simp [intOf]; omega
      · have hI : Hid (inBy v = false) := Lib.hid (by simpa [inBy] using hin)
        have HR : Hid (chkBy b = 2) := Lib.hid (chk_2 (fun h => by
          have h0 := HV.out
          have h1 := hI.out
          rw [HL.out] at h0
          obtain ⟨a1, a2, a3, a4, _⟩ := h
          match k, hlt, h0 with
          | 0, _, h0 => simp at h0; rw [h0] at a1; rw [a1] at h1; cases h1
          | 1, _, h0 => simp at h0; rw [h0] at a2; rw [a2] at h1; cases h1
          | 2, _, h0 => simp at h0; rw [h0] at a3; rw [a3] at h1; cases h1
          | 3, _, h0 => simp at h0; rw [h0] at a4; rw [a4] at h1; cases h1))
        by_cases h1 : v < 0
        · clear hin
          go_wp2
          go_ret
          exact ⟨ret_int HR.out.symm, HW.out.1⟩
        · have h2 : 262144 < v := by omega
          clear hin
          go_wp2
          go_ret
          exact ⟨ret_int HR.out.symm, HW.out.1⟩
    · have hlt' : ¬ (k : Int) < 4 := by omega
      have hk4 : k = 4 := by omega
      have a1 : inBy b.live = true := HK.out 0 _ (by omega) (by rw [HL.out]; rfl)
      have a2 : inBy b.tombs = true := HK.out 1 _ (by omega) (by rw [HL.out]; rfl)
      have a3 : inBy b.dead = true := HK.out 2 _ (by omega) (by rw [HL.out]; rfl)
      have a4 : inBy b.total = true := HK.out 3 _ (by omega) (by rw [HL.out]; rfl)
      have HA := Lib.hid (And.intro a1 (And.intro a2 (And.intro a3 a4)))
      obtain ⟨p1, q1⟩ := inBy_yes a1
      obtain ⟨p2, q2⟩ := inBy_yes a2
      obtain ⟨p3, q3⟩ := inBy_yes a3
      obtain ⟨p4, q4⟩ := inBy_yes a4
      have cb := (cellsOf HW.out.2.1).1
      have HG := Lib.hid HW.out.1
      clear a1 a2 a3 a4 hk4 HK hk HL HW
      obtain ⟨t, l, m, d, s⟩ := b
      simp only at *
      by_cases t1 : t = l + m + d
      · subst t1
        by_cases t2 : s < 0
        · have HR : Hid (chkBy ⟨l + m + d, l, m, d, s⟩ = 2) := Lib.hid (chk_2 (fun h => by have h5 := h.2.2.2.2.1; have h6 := h.2.2.2.2.2.1; have h7 := h.2.2.2.2.2.2.1; have h8 := h.2.2.2.2.2.2.2; simp only at h5 h6 h7; first | omega | exact absurd (h8.1 rfl) t5 | (simp only at h8; omega)))
          go_wp2
          go_ret
          exact ⟨ret_int HR.out.symm, HG.out⟩
        · by_cases t3 : 1099511627776 < s
          · have HR : Hid (chkBy ⟨l + m + d, l, m, d, s⟩ = 2) := Lib.hid (chk_2 (fun h => by have h5 := h.2.2.2.2.1; have h6 := h.2.2.2.2.2.1; have h7 := h.2.2.2.2.2.2.1; have h8 := h.2.2.2.2.2.2.2; simp only at h5 h6 h7; first | omega | exact absurd (h8.1 rfl) t5 | (simp only at h8; omega)))
            go_wp2
            go_ret
            exact ⟨ret_int HR.out.symm, HG.out⟩
          · by_cases t4 : s = 0
            · subst t4
              by_cases t5 : l + m + d = 0
              · obtain rfl : l = 0 := by omega
                obtain rfl : m = 0 := by omega
                obtain rfl : d = 0 := by omega
                have HR : Hid (chkBy ⟨0 + 0 + 0, 0, 0, 0, 0⟩ = 0) := Lib.hid (chk_0 HA.out.1 HA.out.2.1 HA.out.2.2.1 HA.out.2.2.2 rfl (by simp) (by simp) (by simp))
                go_wp2
                go_ret
                exact ⟨ret_int HR.out.symm, HG.out⟩
              · have HR : Hid (chkBy ⟨l + m + d, l, m, d, 0⟩ = 2) := Lib.hid (chk_2 (fun h => by have h5 := h.2.2.2.2.1; have h6 := h.2.2.2.2.2.1; have h7 := h.2.2.2.2.2.2.1; have h8 := h.2.2.2.2.2.2.2; simp only at h5 h6 h7; first | omega | exact absurd (h8.1 rfl) t5 | (simp only at h8; omega)))
                have e1 : (l + m + d == 0) = false := by simp [t5]
                go_wp2
                go_ret
                exact ⟨ret_int HR.out.symm, HG.out⟩
            · by_cases t5 : l + m + d = 0
              · obtain rfl : l = 0 := by omega
                obtain rfl : m = 0 := by omega
                obtain rfl : d = 0 := by omega
                have HR : Hid (chkBy ⟨0 + 0 + 0, 0, 0, 0, s⟩ = 2) := Lib.hid (chk_2 (fun h => by have h5 := h.2.2.2.2.1; have h6 := h.2.2.2.2.2.1; have h7 := h.2.2.2.2.2.2.1; have h8 := h.2.2.2.2.2.2.2; simp only at h5 h6 h7; first | omega | exact absurd (h8.1 rfl) t5 | (simp only at h8; omega)))
                have e1 : (s == 0) = false := by simp [t4]
                go_wp2
                go_ret
                exact ⟨ret_int HR.out.symm, HG.out⟩
              · have HR : Hid (chkBy ⟨l + m + d, l, m, d, s⟩ = 0) := Lib.hid (chk_0 HA.out.1 HA.out.2.1 HA.out.2.2.1 HA.out.2.2.2 rfl (by simp only; omega) (by simp only; omega) (by simp only; omega))
                have e1 : (s == 0) = false := by simp [t4]
                have e2 : (l + m + d == 0) = false := by simp [t5]
                go_wp2
                go_ret
                exact ⟨ret_int HR.out.symm, HG.out⟩
      · have HR : Hid (chkBy ⟨t, l, m, d, s⟩ = 2) := Lib.hid (chk_2 (fun h => by have h5 := h.2.2.2.2.1; have h6 := h.2.2.2.2.2.1; have h7 := h.2.2.2.2.2.2.1; have h8 := h.2.2.2.2.2.2.2; simp only at h5 h6 h7; first | omega | exact absurd (h8.1 rfl) t5 | (simp only at h8; omega)))
        have e1 : (t == l + m + d) = false := by simp [t1]
        go_wp2
        go_ret
        exact ⟨ret_int HR.out.symm, HG.out⟩
set_option maxRecDepth 40000 in
set_option maxHeartbeats 2000000 in
theorem CheckRef_by (b : By) (w : World) : Calls Try.prog 24 #[byV b] w fun e w' => e = .returned (.int .i64 (chkBy b)) ∧ Gr w w' := by
  simp only [byV]
  cases i1 : inBy b.total with
  | false =>
    have HR : Hid (chkBy b = 2) := Lib.hid (chk_2 (fun h => by rw [i1] at h; simp at h))
    go_enter Try.func24, Try.ntmps24
    go_wp2_with (go_at_call 86; refine (inRef_any _ _).mono ?_; rintro e w1 ⟨rfl, rfl⟩; simp only [i1])
    go_ret
    exact ⟨ret_int HR.out.symm, by (repeat (first | (with_reducible exact Gr.refl _) | assumption | (with_reducible apply Gr.from_drew) | (with_reducible apply Gr.alloc) | (with_reducible apply Gr.drew) | (with_reducible refine Gr.trans ?_ (by assumption)) | (with_reducible refine Gr.setCell ?_ (by omega) _)))⟩
  | true =>
  cases i2 : inBy b.live with
  | false =>
    have HR : Hid (chkBy b = 2) := Lib.hid (chk_2 (fun h => by rw [i2] at h; simp at h))
    go_enter Try.func24, Try.ntmps24
    go_wp2_with (go_at_call 86; refine (inRef_any _ _).mono ?_; rintro e w1 ⟨rfl, rfl⟩; simp only [i1, i2])
    go_ret
    exact ⟨ret_int HR.out.symm, by (repeat (first | (with_reducible exact Gr.refl _) | assumption | (with_reducible apply Gr.from_drew) | (with_reducible apply Gr.alloc) | (with_reducible apply Gr.drew) | (with_reducible refine Gr.trans ?_ (by assumption)) | (with_reducible refine Gr.setCell ?_ (by omega) _)))⟩
  | true =>
  cases i3 : inBy b.tombs with
  | false =>
    have HR : Hid (chkBy b = 2) := Lib.hid (chk_2 (fun h => by rw [i3] at h; simp at h))
    go_enter Try.func24, Try.ntmps24
    go_wp2_with (go_at_call 86; refine (inRef_any _ _).mono ?_; rintro e w1 ⟨rfl, rfl⟩; simp only [i1, i2, i3])
    go_ret
    exact ⟨ret_int HR.out.symm, by (repeat (first | (with_reducible exact Gr.refl _) | assumption | (with_reducible apply Gr.from_drew) | (with_reducible apply Gr.alloc) | (with_reducible apply Gr.drew) | (with_reducible refine Gr.trans ?_ (by assumption)) | (with_reducible refine Gr.setCell ?_ (by omega) _)))⟩
  | true =>
  cases i4 : inBy b.dead with
  | false =>
    have HR : Hid (chkBy b = 2) := Lib.hid (chk_2 (fun h => by rw [i4] at h; simp at h))
    go_enter Try.func24, Try.ntmps24
    go_wp2_with (go_at_call 86; refine (inRef_any _ _).mono ?_; rintro e w1 ⟨rfl, rfl⟩; simp only [i1, i2, i3, i4])
    go_ret
    exact ⟨ret_int HR.out.symm, by (repeat (first | (with_reducible exact Gr.refl _) | assumption | (with_reducible apply Gr.from_drew) | (with_reducible apply Gr.alloc) | (with_reducible apply Gr.drew) | (with_reducible refine Gr.trans ?_ (by assumption)) | (with_reducible refine Gr.setCell ?_ (by omega) _)))⟩
  | true =>
    obtain ⟨p1, q1⟩ := inBy_yes i2
    obtain ⟨p2, q2⟩ := inBy_yes i3
    obtain ⟨p3, q3⟩ := inBy_yes i4
    obtain ⟨p4, q4⟩ := inBy_yes i1
    have HA := Lib.hid (And.intro i2 (And.intro i3 (And.intro i4 i1)))
    have HI := Lib.hid (And.intro i1 (And.intro i2 (And.intro i3 i4)))
    obtain ⟨t, l, m, d, s⟩ := b
    simp only at *
    clear i1 i2 i3 i4
    by_cases t1 : t = l + m + d
    · subst t1
      by_cases t2 : s < 0
      · have HR : Hid (chkBy ⟨l + m + d, l, m, d, s⟩ = 2) := Lib.hid (chk_2 (fun h => by have h5 := h.2.2.2.2.1; have h6 := h.2.2.2.2.2.1; have h7 := h.2.2.2.2.2.2.1; have h8 := h.2.2.2.2.2.2.2; simp only at h5 h6 h7; first | omega | exact absurd (h8.1 rfl) t5 | (simp only at h8; omega)))
        go_enter Try.func24, Try.ntmps24
        go_wp2_with (go_at_call 86; refine (inRef_any _ _).mono ?_; rintro e w1 ⟨rfl, rfl⟩; first | rw [HI.out.1] | rw [HI.out.2.1] | rw [HI.out.2.2.1] | rw [HI.out.2.2.2])
        go_ret
        exact ⟨ret_int HR.out.symm, by (repeat (first | (with_reducible exact Gr.refl _) | assumption | (with_reducible apply Gr.from_drew) | (with_reducible apply Gr.alloc) | (with_reducible apply Gr.drew) | (with_reducible refine Gr.trans ?_ (by assumption)) | (with_reducible refine Gr.setCell ?_ (by omega) _)))⟩
      · by_cases t3 : 1099511627776 < s
        · have HR : Hid (chkBy ⟨l + m + d, l, m, d, s⟩ = 2) := Lib.hid (chk_2 (fun h => by have h5 := h.2.2.2.2.1; have h6 := h.2.2.2.2.2.1; have h7 := h.2.2.2.2.2.2.1; have h8 := h.2.2.2.2.2.2.2; simp only at h5 h6 h7; first | omega | exact absurd (h8.1 rfl) t5 | (simp only at h8; omega)))
          go_enter Try.func24, Try.ntmps24
          go_wp2_with (go_at_call 86; refine (inRef_any _ _).mono ?_; rintro e w1 ⟨rfl, rfl⟩; first | rw [HI.out.1] | rw [HI.out.2.1] | rw [HI.out.2.2.1] | rw [HI.out.2.2.2])
          go_ret
          exact ⟨ret_int HR.out.symm, by (repeat (first | (with_reducible exact Gr.refl _) | assumption | (with_reducible apply Gr.from_drew) | (with_reducible apply Gr.alloc) | (with_reducible apply Gr.drew) | (with_reducible refine Gr.trans ?_ (by assumption)) | (with_reducible refine Gr.setCell ?_ (by omega) _)))⟩
        · by_cases t4 : s = 0
          · subst t4
            by_cases t5 : l + m + d = 0
            · obtain rfl : l = 0 := by omega
              obtain rfl : m = 0 := by omega
              obtain rfl : d = 0 := by omega
              have HR : Hid (chkBy ⟨0 + 0 + 0, 0, 0, 0, 0⟩ = 0) := Lib.hid (chk_0 HA.out.1 HA.out.2.1 HA.out.2.2.1 HA.out.2.2.2 rfl (by simp) (by simp) (by simp))
              go_enter Try.func24, Try.ntmps24
              go_wp2_with (go_at_call 86; refine (inRef_any _ _).mono ?_; rintro e w1 ⟨rfl, rfl⟩; first | rw [HI.out.1] | rw [HI.out.2.1] | rw [HI.out.2.2.1] | rw [HI.out.2.2.2])
              go_ret
              exact ⟨ret_int HR.out.symm, by (repeat (first | (with_reducible exact Gr.refl _) | assumption | (with_reducible apply Gr.from_drew) | (with_reducible apply Gr.alloc) | (with_reducible apply Gr.drew) | (with_reducible refine Gr.trans ?_ (by assumption)) | (with_reducible refine Gr.setCell ?_ (by omega) _)))⟩
            · have HR : Hid (chkBy ⟨l + m + d, l, m, d, 0⟩ = 2) := Lib.hid (chk_2 (fun h => by have h5 := h.2.2.2.2.1; have h6 := h.2.2.2.2.2.1; have h7 := h.2.2.2.2.2.2.1; have h8 := h.2.2.2.2.2.2.2; simp only at h5 h6 h7; first | omega | exact absurd (h8.1 rfl) t5 | (simp only at h8; omega)))
              have e1 : (l + m + d == 0) = false := by simp [t5]
              go_enter Try.func24, Try.ntmps24
              go_wp2_with (go_at_call 86; refine (inRef_any _ _).mono ?_; rintro e w1 ⟨rfl, rfl⟩; first | rw [HI.out.1] | rw [HI.out.2.1] | rw [HI.out.2.2.1] | rw [HI.out.2.2.2])
              go_ret
              exact ⟨ret_int HR.out.symm, by (repeat (first | (with_reducible exact Gr.refl _) | assumption | (with_reducible apply Gr.from_drew) | (with_reducible apply Gr.alloc) | (with_reducible apply Gr.drew) | (with_reducible refine Gr.trans ?_ (by assumption)) | (with_reducible refine Gr.setCell ?_ (by omega) _)))⟩
          · by_cases t5 : l + m + d = 0
            · obtain rfl : l = 0 := by omega
              obtain rfl : m = 0 := by omega
              obtain rfl : d = 0 := by omega
              have HR : Hid (chkBy ⟨0 + 0 + 0, 0, 0, 0, s⟩ = 2) := Lib.hid (chk_2 (fun h => by have h5 := h.2.2.2.2.1; have h6 := h.2.2.2.2.2.1; have h7 := h.2.2.2.2.2.2.1; have h8 := h.2.2.2.2.2.2.2; simp only at h5 h6 h7; first | omega | exact absurd (h8.1 rfl) t5 | (simp only at h8; omega)))
              have e1 : (s == 0) = false := by simp [t4]
              go_enter Try.func24, Try.ntmps24
              go_wp2_with (go_at_call 86; refine (inRef_any _ _).mono ?_; rintro e w1 ⟨rfl, rfl⟩; first | rw [HI.out.1] | rw [HI.out.2.1] | rw [HI.out.2.2.1] | rw [HI.out.2.2.2])
              go_ret
              exact ⟨ret_int HR.out.symm, by (repeat (first | (with_reducible exact Gr.refl _) | assumption | (with_reducible apply Gr.from_drew) | (with_reducible apply Gr.alloc) | (with_reducible apply Gr.drew) | (with_reducible refine Gr.trans ?_ (by assumption)) | (with_reducible refine Gr.setCell ?_ (by omega) _)))⟩
            · have HR : Hid (chkBy ⟨l + m + d, l, m, d, s⟩ = 0) := Lib.hid (chk_0 HA.out.1 HA.out.2.1 HA.out.2.2.1 HA.out.2.2.2 rfl (by simp only; omega) (by simp only; omega) (by simp only; omega))
              have e1 : (s == 0) = false := by simp [t4]
              have e2 : (l + m + d == 0) = false := by simp [t5]
              go_enter Try.func24, Try.ntmps24
              go_wp2_with (go_at_call 86; refine (inRef_any _ _).mono ?_; rintro e w1 ⟨rfl, rfl⟩; first | rw [HI.out.1] | rw [HI.out.2.1] | rw [HI.out.2.2.1] | rw [HI.out.2.2.2])
              go_ret
              exact ⟨ret_int HR.out.symm, by (repeat (first | (with_reducible exact Gr.refl _) | assumption | (with_reducible apply Gr.from_drew) | (with_reducible apply Gr.alloc) | (with_reducible apply Gr.drew) | (with_reducible refine Gr.trans ?_ (by assumption)) | (with_reducible refine Gr.setCell ?_ (by omega) _)))⟩
    · have HR : Hid (chkBy ⟨t, l, m, d, s⟩ = 2) := Lib.hid (chk_2 (fun h => by have h5 := h.2.2.2.2.1; have h6 := h.2.2.2.2.2.1; have h7 := h.2.2.2.2.2.2.1; have h8 := h.2.2.2.2.2.2.2; simp only at h5 h6 h7; first | omega | exact absurd (h8.1 rfl) t5 | (simp only at h8; omega)))
      have e1 : (t == l + m + d) = false := by simp [t1]
      go_enter Try.func24, Try.ntmps24
      go_wp2_with (go_at_call 86; refine (inRef_any _ _).mono ?_; rintro e w1 ⟨rfl, rfl⟩; first | rw [HI.out.1] | rw [HI.out.2.1] | rw [HI.out.2.2.1] | rw [HI.out.2.2.2])
      go_ret
      exact ⟨ret_int HR.out.symm, by (repeat (first | (with_reducible exact Gr.refl _) | assumption | (with_reducible apply Gr.from_drew) | (with_reducible apply Gr.alloc) | (with_reducible apply Gr.drew) | (with_reducible refine Gr.trans ?_ (by assumption)) | (with_reducible refine Gr.setCell ?_ (by omega) _)))⟩
/-- The age: how much older than the next number. -/
def ageBy (b : By) (n : Int) : Value := if chkBy b = 0 ∧ b.last ≤ n ∧ n ≤ 1099511627777 then .tuple #[.int .i64 (n - b.last), .int .i64 0] else .tuple #[.int .i64 0, .int .i64 2]
theorem age_yes {b : By} {n : Int} (h1 : chkBy b = 0) (h2 : b.last ≤ n) (h3 : n ≤ 1099511627777) : ageBy b n = .tuple #[.int .i64 (n - b.last), .int .i64 0] := if_pos ⟨h1, h2, h3⟩
theorem age_no {b : By} {n : Int} (h : ¬ (chkBy b = 0 ∧ b.last ≤ n ∧ n ≤ 1099511627777)) : ageBy b n = .tuple #[.int .i64 0, .int .i64 2] := if_neg h
theorem chk_or (b : By) : (chkBy b = 0 ∧ 0 ≤ b.last ∧ b.last ≤ 1099511627776) ∨ chkBy b = 2 := by
  unfold chkBy
  split
  · rename_i h; exact .inl ⟨rfl, h.2.2.2.2.2.1, h.2.2.2.2.2.2.1⟩
  · exact .inr rfl
set_option maxRecDepth 40000 in
set_option maxHeartbeats 2000000 in
theorem Age_by (b : By) (n : Int) (w : World) : Calls Try.prog 21 #[byV b, .int .i64 n] w fun e w' => e = .returned (ageBy b n) ∧ Gr w w' := by
  have c0 := (cellsOf (blkNew w (.cells #[.int .i64 b.total, .int .i64 b.live, .int .i64 b.tombs, .int .i64 b.dead, .int .i64 b.last] 44))).1
  have hlt : w.heap.size < (w.alloc (.cells #[.int .i64 b.total, .int .i64 b.live, .int .i64 b.tombs, .int .i64 b.dead, .int .i64 b.last] 44)).heap.size := by simp
  rcases chk_or b with ⟨hc, hl0, hl1⟩ | hc
  · by_cases h1 : n < b.last
    · have HR := Lib.hid (age_no (b := b) (n := n) (fun h => by omega))
      have HC := Lib.hid hc
      clear hc
      simp only [byV]
      go_enter Try.func21, Try.ntmps21
      go_wp2_with fail
      refine (Check_by b _).mono ?_
      rintro e w1 ⟨rfl, hg⟩
      rw [HC.out]
      have d0 := hg.cell
      have HG := Lib.hid (((Gr.refl w).alloc _).trans hg)
      clear hg
      go_wp2
      go_ret2
      exact ⟨by rw [HR.out]; rfl, HG.out⟩
    · by_cases h2 : 1099511627777 < n
      · have HR := Lib.hid (age_no (b := b) (n := n) (fun h => by omega))
        have HC := Lib.hid hc
        clear hc
        simp only [byV]
        go_enter Try.func21, Try.ntmps21
        go_wp2_with fail
        refine (Check_by b _).mono ?_
        rintro e w1 ⟨rfl, hg⟩
        rw [HC.out]
        have d0 := hg.cell
        have HG := Lib.hid (((Gr.refl w).alloc _).trans hg)
        clear hg
        go_wp2
        go_ret2
        exact ⟨by rw [HR.out]; rfl, HG.out⟩
      · have HR := Lib.hid (age_yes (b := b) (n := n) hc (by omega) (by omega))
        have HC := Lib.hid hc
        clear hc
        simp only [byV]
        go_enter Try.func21, Try.ntmps21
        go_wp2_with fail
        refine (Check_by b _).mono ?_
        rintro e w1 ⟨rfl, hg⟩
        rw [HC.out]
        have d0 := hg.cell
        have HG := Lib.hid (((Gr.refl w).alloc _).trans hg)
        clear hg
        go_wp2
        go_ret2
        exact ⟨by rw [HR.out]; rfl, HG.out⟩
  · have HR := Lib.hid (age_no (b := b) (n := n) (fun h => by omega))
    have HC := Lib.hid hc
    clear hc
    simp only [byV]
    go_enter Try.func21, Try.ntmps21
    go_wp2_with fail
    refine (Check_by b _).mono ?_
    rintro e w1 ⟨rfl, hg⟩
    rw [HC.out]
    have d0 := hg.cell
    have HG := Lib.hid (((Gr.refl w).alloc _).trans hg)
    clear hg
    go_wp2
    go_ret2
    exact ⟨by rw [HR.out]; rfl, HG.out⟩
set_option maxRecDepth 40000 in
set_option maxHeartbeats 2000000 in
theorem AgeRef_by (b : By) (n : Int) (w : World) : Calls Try.prog 22 #[byV b, .int .i64 n] w fun e w' => e = .returned (ageBy b n) ∧ Gr w w' := by
  have c0 := (cellsOf (blkNew w (.cells #[.int .i64 b.total, .int .i64 b.live, .int .i64 b.tombs, .int .i64 b.dead, .int .i64 b.last] 48))).1
  have hlt : w.heap.size < (w.alloc (.cells #[.int .i64 b.total, .int .i64 b.live, .int .i64 b.tombs, .int .i64 b.dead, .int .i64 b.last] 48)).heap.size := by simp
  rcases chk_or b with ⟨hc, hl0, hl1⟩ | hc
  · by_cases h1 : n < b.last
    · have HR := Lib.hid (age_no (b := b) (n := n) (fun h => by omega))
      have HC := Lib.hid hc
      clear hc
      simp only [byV]
      go_enter Try.func22, Try.ntmps22
      go_wp2_with fail
      refine (CheckRef_by b _).mono ?_
      rintro e w1 ⟨rfl, hg⟩
      rw [HC.out]
      have d0 := hg.cell
      have HG := Lib.hid (((Gr.refl w).alloc _).trans hg)
      clear hg
      go_wp2
      go_ret2
      exact ⟨by rw [HR.out]; rfl, HG.out⟩
    · by_cases h2 : 1099511627777 < n
      · have HR := Lib.hid (age_no (b := b) (n := n) (fun h => by omega))
        have HC := Lib.hid hc
        clear hc
        simp only [byV]
        go_enter Try.func22, Try.ntmps22
        go_wp2_with fail
        refine (CheckRef_by b _).mono ?_
        rintro e w1 ⟨rfl, hg⟩
        rw [HC.out]
        have d0 := hg.cell
        have HG := Lib.hid (((Gr.refl w).alloc _).trans hg)
        clear hg
        go_wp2
        go_ret2
        exact ⟨by rw [HR.out]; rfl, HG.out⟩
      · have HR := Lib.hid (age_yes (b := b) (n := n) hc (by omega) (by omega))
        have HC := Lib.hid hc
        clear hc
        simp only [byV]
        go_enter Try.func22, Try.ntmps22
        go_wp2_with fail
        refine (CheckRef_by b _).mono ?_
        rintro e w1 ⟨rfl, hg⟩
        rw [HC.out]
        have d0 := hg.cell
        have HG := Lib.hid (((Gr.refl w).alloc _).trans hg)
        clear hg
        go_wp2
        go_ret2
        exact ⟨by rw [HR.out]; rfl, HG.out⟩
  · have HR := Lib.hid (age_no (b := b) (n := n) (fun h => by omega))
    have HC := Lib.hid hc
    clear hc
    simp only [byV]
    go_enter Try.func22, Try.ntmps22
    go_wp2_with fail
    refine (CheckRef_by b _).mono ?_
    rintro e w1 ⟨rfl, hg⟩
    rw [HC.out]
    have d0 := hg.cell
    have HG := Lib.hid (((Gr.refl w).alloc _).trans hg)
    clear hg
    go_wp2
    go_ret2
    exact ⟨by rw [HR.out]; rfl, HG.out⟩
end Go.Proofs.Ytiidkehcfoajeaa

/- Contract of index.New. -/
set_option linter.unusedVariables false
set_option linter.unusedSimpArgs false
namespace Go.Proofs.Ytiidkehcfoajeaa
open Go.RowKit
attribute [local go_sem] OvM cell_ovm obj_ovm

theorem infoList : (Try.prog.info? 127).map (fun i => (i.zero, i.size, i.bytes)) = some (some (.slice none 0 0), 1, 24) := by kernel_rfl
theorem new_bad (n : Int) (h : n < 1 ∨ 32 < n) (w : World) : Calls Try.prog 55 #[.int .i64 n] w fun e w' => e = .returned (.tuple #[.pointer none, .int .i64 2]) ∧ w = w' := by
  rcases h with h | h
  · go_enter Try.func55, Try.ntmps55
    go_wp2
    go_ret2
    exact ⟨rfl, rfl⟩
  · have h1 : ¬ n < 1 := by omega
    go_enter Try.func55, Try.ntmps55
    go_wp2
    go_ret2
    exact ⟨rfl, rfl⟩
theorem ixNew_pos {n : Nat} (h : 1 ≤ n) : (ixNew n).slots ≠ [] := by
  intro h0
  have := congrArg List.length h0
  simp [ixNew] at this
  omega
/-- The rows of empty slots. -/
theorem new_sep {w : World} {b bm g n : Nat} (hn : 1 ≤ n) (h1 : n ≤ 32) (hb : w.heap[b]? = some (.cells #[.pointer (some ⟨bm, 0, none⟩), .slice (some ⟨g, 0, none⟩) n n] 29)) (ho : OMsl w bm (.slice none 0 0) []) (hg : w.heap[g]? = some (.cells (madeCells #[.slice none 0 0] (n * 1)) 127))
    (n1 : b ≠ bm) (n2 : b ≠ g) (n3 : bm ≠ g) : IXR w b (ixNew n) (fun k => k = b ∨ k = bm ∨ k = g) := by
  have hrep : (List.replicate n ((none, 0, 0) : Sl)).map slV = List.replicate n (Value.slice none 0 0) := by simp [slV]
  have hrow : Own w 127 1 (.slice (some ⟨g, 0, none⟩) n n) n ((List.replicate n ((none, 0, 0) : Sl)).map slV) := by
    refine Own.ofParts hg (Nat.le_refl _) (by simp only [maxLen]; omega) (by rw [size_madeCells]) ?_
    rw [hrep]
    apply List.ext_getElem?
    intro i
    by_cases hi : i < n
    · rw [List.getElem?_take_of_lt (by omega), made_get _ n i hi]
      simp [hi]
    · rw [List.getElem?_eq_none (by simp [size_madeCells]; omega), List.getElem?_eq_none (by simp; omega)]
  have hemp : ∀ (m : Nat), ∀ A ∈ slotRows (List.replicate m ((none, 0, 0) : Sl)) (List.replicate m []), A = enA (none, 0, 0) [] := fun m A hA => by
    unfold slotRows at hA
    rw [List.zipWith_replicate] at hA
    exact (List.mem_replicate.1 hA).2
  have hno : ∀ k, ¬ (enA (none, 0, 0) []).S k := fun k h => by cases h
  refine ⟨new_wf h1, ixNew_pos hn, ⟨bm, .slice none 0 0, .slice (some ⟨g, 0, none⟩) n n, [], List.replicate n (none, 0, 0)⟩, ⟨fun A hA => ?_, ?_⟩, ⟨rfl, by simp [ixNew]⟩, fun k => ⟨fun hk => ?_, fun ⟨A, hA, hk⟩ => ?_⟩⟩
  · simp only [Lay.list, Lay.hd, List.mem_append, List.mem_cons, List.not_mem_nil, or_false, ixNew, List.length_replicate] at hA
    rcases hA with (rfl | rfl | rfl) | hA | hA
    · exact hb
    · exact ho
    · exact hrow
    · cases hA
    · rw [hemp n A hA]; exact nilRow w _ _
  · simp only [Lay.list, Lay.hd, ixNew, keyRows, List.zipWith_nil_left, List.nil_append, List.cons_append, List.length_replicate]
    refine List.pairwise_cons.2 ⟨fun A hA k h1 h2 => ?_, List.pairwise_cons.2 ⟨fun A hA k h1 h2 => ?_, List.pairwise_cons.2 ⟨fun A hA k h1 h2 => ?_, ?_⟩⟩⟩
    · have h1' : k = b := h1
      subst h1'
      simp only [List.mem_cons] at hA
      rcases hA with rfl | rfl | hA
      · rcases h2 with h | h
        · exact n1 h
        · cases h
      · exact n2 (Option.some.inj h2).symm
      · rw [hemp n A hA] at h2; exact hno _ h2
    · have h1' : k = bm := h1.elim (fun h => h) (fun h => by cases h)
      subst h1'
      simp only [List.mem_cons] at hA
      rcases hA with rfl | hA
      · exact n3 (Option.some.inj h2).symm
      · rw [hemp n A hA] at h2; exact hno _ h2
    · rw [hemp n A hA] at h2; exact hno _ h2
    · refine List.pairwise_of_forall_mem_list (fun A hA B hB k h1 h2 => ?_)
      rw [hemp n A hA] at h1; exact hno _ h1
  · rcases hk with rfl | rfl | rfl
    · exact ⟨blkA k _, by simp [Lay.list, Lay.hd]; exact .inl rfl, rfl⟩
    · exact ⟨omA k (.slice none 0 0) [], by simp [Lay.list, Lay.hd], .inl rfl⟩
    · exact ⟨rowA 127 1 (.slice (some ⟨k, 0, none⟩) n n) n ((List.replicate n ((none, 0, 0) : Sl)).map slV), by simp [Lay.list, Lay.hd, ixNew], rfl⟩
  · simp only [Lay.list, Lay.hd, List.mem_append, List.mem_cons, List.not_mem_nil, or_false, ixNew, List.length_replicate] at hA
    rcases hA with (rfl | rfl | rfl) | hA | hA
    · exact .inl hk
    · exact .inr (.inl (hk.elim (fun h => h) (fun h => by cases h)))
    · exact .inr (.inr (Option.some.inj hk).symm)
    · cases hA
    · rw [hemp n A hA] at hk; exact (hno _ hk).elim
set_option maxRecDepth 40000 in
set_option maxHeartbeats 1000000 in
theorem New_any (n : Nat) (w : World) (h1 : 1 ≤ n) (h2 : n ≤ 32) : Calls Try.prog 55 #[.int .i64 n] w fun e w' => ∃ b S, e = .returned (.tuple #[.pointer (some ⟨b, 0, none⟩), .int .i64 0]) ∧ IXR w' b (ixNew n) S ∧ (∀ k, S k → w.heap.size ≤ k) ∧ Gr w w' := by
  obtain ⟨i0, hi, hz0, hz1, hz2⟩ := info_parts infoList
  have hn1 : ¬ (n : Int) < 1 := by omega
  have hn2 : ¬ (32 : Int) < n := by omega
  have hm1 : ∀ w : World, (Instr.makeSlice 27 (.int .i64 (n : Int)) (.int .i64 (n : Int))).run Try.prog w = .ok (.slice (some ⟨w.heap.size, 0, none⟩) n n) (w.alloc (.cells (madeCells #[.slice none 0 0] (n * 1)) 127)) := fun w => by
    have := run_make (P := Try.prog) w 27 127 i0 _ Try.underlying27 hi hz0 .i64 .i64 n n (by omega) (by omega) (by rw [hz2]; omega) (by omega)
    rw [hz1] at this
    simp only [Int.toNat_natCast] at this
    exact this
  have HM1 := Lib.hid hm1
  clear hm1 hi hz0 hz1 hz2
  go_enter Try.func55, Try.ntmps55
  go_wp2
  have HG := Gr.refl w.drew
  refine wp_region_flo (fun _ => False) [12] [] (by kernel_rfl) (by kernel_rfl) (fun _ h => h.elim) ?_
  refine flo_effg rfl rfl rfl (fun wg1 hgg1 K hK => ?_)
  (try replace HG := Gr.trans (Gr.trans HG (by (repeat (first | (with_reducible exact Gr.refl _) | assumption | (with_reducible apply Gr.from_drew) | (with_reducible apply Gr.alloc) | (with_reducible apply Gr.drew) | (with_reducible refine Gr.trans ?_ (by assumption)) | (with_reducible refine Gr.setCell ?_ (by omega) _))))) hgg1)
  go_wp2_with fail; refine (NewOsl _).mono ?_; rintro e' wa1 ⟨rfl, hom, hg⟩; have HOM := Lib.hid hom; have HGA := Lib.hid (HG.trans hg); have HSZ := Lib.hid HG.sz; have HGW := Lib.hid hg; replace HG := HG.trans hg; clear hom hg; go_wp2_with fail; refine ⟨HGW.out.mdh _, ?_⟩
  refine flo_seg 1 rfl ?_
  simp only [List.take_succ_cons, List.take_zero, List.drop_succ_cons, List.drop_zero]
  repeat (go_big_quiet_step (fail))
  refine wpQuiet_nil ?_
  refine flo_float (fun b ↦ .slice (some ⟨b, 0, none⟩) n n) (.cells (madeCells #[.slice none 0 0] (n * 1)) 127 ) rfl rfl ( fun w ↦ by simp [go_sem, HM1.out w] ) (fun wf1 fb1 hgf1 fl1 fh1 ft1 fo1 => ?_)
  (try replace HG := Gr.trans (Gr.trans HG (by (repeat (first | (with_reducible exact Gr.refl _) | assumption | (with_reducible apply Gr.from_drew) | (with_reducible apply Gr.alloc) | (with_reducible apply Gr.drew) | (with_reducible refine Gr.trans ?_ (by assumption)) | (with_reducible refine Gr.setCell ?_ (by omega) _))))) hgf1)
  (try have fc1 := (cellsOf fo1).1)
  (try have ff1 := (cellsOf fo1).2)
  simp only [Act.put, List.setIfInBounds_toArray, List.set_cons_succ, List.set_cons_zero]
  refine flo_seg 1 rfl ?_
  simp only [List.take_succ_cons, List.take_zero, List.drop_succ_cons, List.drop_zero]
  repeat (go_big_quiet_step (fail))
  refine wpQuiet_nil ?_
  refine flo_eff rfl rfl rfl rfl (fun K hK => ?_)
  go_wp2
  refine ⟨by (first | (refine Gr.mdh ?_ _; (repeat (first | (with_reducible exact Gr.refl _) | assumption | (with_reducible apply Gr.from_drew) | (with_reducible apply Gr.alloc) | (with_reducible apply Gr.drew) | (with_reducible refine Gr.trans ?_ (by assumption)) | (with_reducible refine Gr.setCell ?_ (by omega) _))); done) | (repeat (first | (with_reducible exact Mdh.refl _ _) | (with_reducible refine Mdh.setCell ?_ (by simp) _) | (with_reducible refine Mdh.setNew ?_ (by simp) _) | (with_reducible apply Mdh.alloc) | (with_reducible apply Mdh.from_drew) | (with_reducible apply Mdh.drew) | (with_reducible refine Mdh.gr ?_ (by assumption))))), ?_⟩
  refine flo_seg 2 rfl ?_
  simp only [List.take_succ_cons, List.take_zero, List.drop_succ_cons, List.drop_zero]
  repeat (go_big_quiet_step (fail))
  refine wpQuiet_nil ?_
  refine flo_nil ?_
  have hf := Lib.hid (And.intro fo1 (And.intro HG (And.intro fl1 (And.intro fh1 (And.intro ft1 hgf1)))))
  clear fo1 HG fl1 fh1 ft1 hgf1 hgg1
  (try clear fc1 ff1)
  go_wp2
  go_ret2
  obtain ⟨fo1, HG, fl1, fh1, ft1, hgf1⟩ := hf.out
  have l1 := blkLt HOM.out.blk
  have l2 := hgf1.sz
  have l3 : w.heap.size ≤ wg1.heap.size := HSZ.out
  have l4 : w.heap.size ≤ wf1.heap.size := HG.sz
  refine ⟨wf1.heap.size, _, rfl, new_sep h1 h2 (blkNew wf1 _) ((HOM.out.gr hgf1).gr ((Gr.refl _).alloc _)) (blkOld fo1) (by omega) (by omega) (fun h => ft1 (.inr (by omega))), fun k hk => ?_, (Gr.of_drew HG).alloc _⟩
  rcases hk with rfl | rfl | rfl <;> omega
end Go.Proofs.Ytiidkehcfoajeaa

/- How the parts of an index lie behind a change: a slot's row, a key's row. -/
set_option linter.unusedVariables false
set_option linter.unusedSimpArgs false
namespace Go.Proofs.Ytiidkehcfoajeaa
open Go.RowKit

theorem zip_set {α β γ : Type} (f : α → β → γ) : ∀ (L : List α) (M : List β) (i : Nat) (a : α) (b : β), List.zipWith f (L.set i a) (M.set i b) = (List.zipWith f L M).set i (f a b)
  | [], _, _, _, _ => by simp
  | _ :: _, [], _, _, _ => by simp
  | x :: L, y :: M, 0, a, b => rfl
  | x :: L, y :: M, i + 1, a, b => by simp [zip_set f L M i a b]
theorem zip_erase {α β γ : Type} (f : α → β → γ) : ∀ (L : List α) (M : List β) (i : Nat), List.zipWith f (L.eraseIdx i) (M.eraseIdx i) = (List.zipWith f L M).eraseIdx i
  | [], _, _ => by simp
  | x :: L, [], i => by cases i <;> simp
  | x :: L, y :: M, 0 => rfl
  | x :: L, y :: M, i + 1 => by simp [zip_erase f L M i]
theorem erase_perm' {α : Type} {R : List α} {i : Nat} {x : α} (h : R[i]? = some x) : R.Perm (x :: R.eraseIdx i) := by
  obtain ⟨hlt, rfl⟩ := List.getElem?_eq_some_iff.1 h
  exact (erase_perm hlt).symm
theorem set_perm {α : Type} {R : List α} {i : Nat} (x : α) (h : i < R.length) : (R.set i x).Perm (x :: R.eraseIdx i) := by
  have h1 : i < (R.set i x).length := by simpa using h
  have := (erase_perm h1).symm
  rwa [List.getElem_set_self, erase_set] at this
section
variable {w w' : World} {b : Nat} {X : IX} {Y : Lay}
theorem slotRows_split {SL : List Sl} {ls : List (List En)} {i : Nat} {sl : Sl} {l : List En} (hs : SL[i]? = some sl) (hl : ls[i]? = some l) (sl' : Sl) (l' : List En) :
    ∃ R, (slotRows SL ls).Perm (enA sl l :: R) ∧ (slotRows (SL.set i sl') (ls.set i l')).Perm (enA sl' l' :: R) := by
  have h : (slotRows SL ls)[i]? = some (enA sl l) := zip_at enA hs hl
  refine ⟨(slotRows SL ls).eraseIdx i, erase_perm' h, ?_⟩
  unfold slotRows
  rw [zip_set]
  exact set_perm _ (List.getElem?_eq_some_iff.1 h).1
abbrev kf (a : ByteArray × Sl) (b : ByteArray × List En) : Asn := enA a.2 b.2
theorem keyRows_eq (KL : List (ByteArray × Sl)) (ks : List (ByteArray × List En)) : keyRows KL ks = List.zipWith kf KL ks := rfl
/-- A key's row in the map's list, set and taken out. -/
theorem keyRows_split {KL : List (ByteArray × Sl)} {ks : List (ByteArray × List En)} (hk : KL.map Prod.fst = ks.map Prod.fst) (k : ByteArray) (s' : Sl) (l' : List En) :
    ∃ old R, (keyRows KL ks).Perm (old ++ R) ∧ (∀ A ∈ old, ∃ s l, look ltS KL k = some s ∧ look ltS ks k = some l ∧ A = enA s l) ∧
      (keyRows (putL ltS KL k s') (putL ltS ks k l')).Perm (enA s' l' :: R) ∧ (keyRows (delL ltS KL k) (delL ltS ks k)).Perm R ∧
      (putL ltS KL k s').map Prod.fst = (putL ltS ks k l').map Prod.fst ∧ (delL ltS KL k).map Prod.fst = (delL ltS ks k).map Prod.fst := by
  have f : Lay.Fit ⟨0, .bool true, .bool true, KL, []⟩ ⟨[], ks⟩ := ⟨hk, rfl⟩
  have hr : rk ltS KL k = rk ltS ks k := f.rkE k
  have hlen : KL.length = ks.length := by simpa using congrArg List.length hk
  rcases f.lookE k with ⟨h1, h2⟩ | ⟨s, l, h1, h2, h3, h4⟩
  · refine ⟨[], keyRows KL ks, by simp, fun A hA => (by cases hA), ?_, ?_, ?_, ?_⟩
    · unfold putL
      simp only [show look ltS KL k = none from h1, h2, hr]
      rw [keyRows_eq, List.zipWith_append (by simp [hlen]), List.zipWith_append (by simp [hlen]), ← List.take_zipWith, ← List.drop_zipWith]
      have : (List.zipWith kf KL ks).Perm (List.take (rk ltS ks k) (List.zipWith kf KL ks) ++ List.drop (rk ltS ks k) (List.zipWith kf KL ks)) := by rw [List.take_append_drop]
      simp only [List.zipWith_cons_cons, List.zipWith_nil_left, List.append_assoc, List.singleton_append]
      exact (List.perm_middle).trans (this.symm.cons _)
    · unfold delL
      simp only [show look ltS KL k = none from h1, h2]
      exact List.Perm.refl _
    · unfold putL
      simp only [show look ltS KL k = none from h1, h2, hr]
      simp [List.map_take, List.map_drop, hk]
    · unfold delL
      simp only [show look ltS KL k = none from h1, h2]
      exact hk
  · have h : (keyRows KL ks)[rk ltS ks k]? = some (enA s l) := zip_at kf h3 h4
    refine ⟨[enA s l], (keyRows KL ks).eraseIdx (rk ltS ks k), erase_perm' h, fun A hA => ⟨s, l, h1, h2, by simpa using hA⟩, ?_, ?_, ?_, ?_⟩
    · unfold putL
      simp only [show look ltS KL k = some s from h1, h2, hr]
      rw [keyRows_eq, zip_set]
      exact set_perm _ (List.getElem?_eq_some_iff.1 h).1
    · unfold delL
      simp only [show look ltS KL k = some s from h1, h2, hr]
      rw [← List.eraseIdx_eq_take_drop_succ, ← List.eraseIdx_eq_take_drop_succ, keyRows_eq, zip_erase]
      exact List.Perm.refl _
    · unfold putL
      simp only [show look ltS KL k = some s from h1, h2, hr]
      rw [List.map_set, List.map_set, hk]
    · unfold delL
      simp only [show look ltS KL k = some s from h1, h2, hr]
      simp [List.map_take, List.map_drop, hk]
/-- A slot's row is another one, in its block or a new one. -/
theorem Lay.setSlot (h : Sep (Y.list b X) w) (f : Y.Fit X) {i : Nat} {sl sl' : Sl} {l l' : List En} (hsl : Y.SL[i]? = some sl) (hl : X.slots[i]? = some l) {T : Nat → Prop} (m : Mdh T w w')
    (hT : ∀ k, T k → (slV sl).ownBlock = some k ∨ Y.sv.ownBlock = some k ∨ w.heap.size ≤ k) (ho : Own w' 23 6 (slV sl') l'.length (rowE l')) (hn : ∀ k, (slV sl').ownBlock = some k → (slV sl).ownBlock = some k ∨ w.heap.size ≤ k)
    (hs : Own w' 127 1 Y.sv X.slots.length ((Y.SL.set i sl').map slV)) :
    Sep (({ Y with SL := Y.SL.set i sl' } : Lay).list b ⟨X.slots.set i l', X.keys⟩) w' ∧ ({ Y with SL := Y.SL.set i sl' } : Lay).Fit ⟨X.slots.set i l', X.keys⟩ ∧
      ∀ k, (∃ A ∈ ({ Y with SL := Y.SL.set i sl' } : Lay).list b ⟨X.slots.set i l', X.keys⟩, A.S k) → (∃ A ∈ Y.list b X, A.S k) ∨ w.heap.size ≤ k := by
  obtain ⟨R, p1, p2⟩ := slotRows_split hsl hl sl' l'
  have q1 : (Y.list b X).Perm ([rowA 127 1 Y.sv X.slots.length (Y.SL.map slV), enA sl l] ++ ([blkA b (.cells #[.pointer (some ⟨Y.bm, 0, none⟩), Y.sv] 29), omA Y.bm Y.v Y.KL] ++ (keyRows Y.KL X.keys ++ R))) := by
    refine ((p1.append_left (keyRows Y.KL X.keys)).append_left _).trans ?_
    simp only [Lay.hd, List.cons_append, List.nil_append]
    refine ((List.perm_middle (l₁ := [blkA b _, omA Y.bm Y.v Y.KL])).trans (List.Perm.cons _ ?_))
    exact (List.perm_middle (l₁ := blkA b _ :: omA Y.bm Y.v Y.KL :: keyRows Y.KL X.keys))
  have q2 : (({ Y with SL := Y.SL.set i sl' } : Lay).list b ⟨X.slots.set i l', X.keys⟩).Perm ([rowA 127 1 Y.sv X.slots.length ((Y.SL.set i sl').map slV), enA sl' l'] ++ ([blkA b (.cells #[.pointer (some ⟨Y.bm, 0, none⟩), Y.sv] 29), omA Y.bm Y.v Y.KL] ++ (keyRows Y.KL X.keys ++ R))) := by
    refine ((p2.append_left (keyRows Y.KL X.keys)).append_left _).trans ?_
    simp only [Lay.hd, List.cons_append, List.nil_append, List.length_set]
    refine ((List.perm_middle (l₁ := [blkA b _, omA Y.bm Y.v Y.KL])).trans (List.Perm.cons _ ?_))
    exact (List.perm_middle (l₁ := blkA b _ :: omA Y.bm Y.v Y.KL :: keyRows Y.KL X.keys))
  have h1 := h.perm q1
  have hd : Dis (rowA 127 1 Y.sv X.slots.length (Y.SL.map slV)) (enA sl l) := h1.dis _ (by simp)
  have hlt := h1.lt (A := rowA 127 1 Y.sv X.slots.length (Y.SL.map slV)) (by simp)
  have hS : ∀ B ∈ [rowA 127 1 Y.sv X.slots.length ((Y.SL.set i sl').map slV), enA sl' l'], ∀ k, B.S k → (∃ A ∈ [rowA 127 1 Y.sv X.slots.length (Y.SL.map slV), enA sl l], A.S k) ∨ w.heap.size ≤ k := fun B hB k hk => by
    simp only [List.mem_cons, List.not_mem_nil, or_false] at hB
    rcases hB with rfl | rfl
    · exact .inl ⟨rowA 127 1 Y.sv X.slots.length (Y.SL.map slV), by simp, hk⟩
    · exact (hn k hk).imp (fun h => ⟨enA sl l, by simp, h⟩) (fun h => h)
  refine ⟨(Sep.steps h1 m (fun k hk => ?_) ⟨fun B hB => ?_, List.pairwise_cons.2 ⟨fun B hB k ka kb => ?_, List.pairwise_cons.2 ⟨fun _ h => (by cases h), List.Pairwise.nil⟩⟩⟩ hS).perm q2.symm, ⟨f.k, by simpa using f.s⟩, fun k hk => ?_⟩
  · rcases hT k hk with h | h | h
    · exact .inl ⟨enA sl l, by simp, h⟩
    · exact .inl ⟨rowA 127 1 Y.sv X.slots.length (Y.SL.map slV), by simp, h⟩
    · exact .inr h
  · simp only [List.mem_cons, List.not_mem_nil, or_false] at hB
    rcases hB with rfl | rfl
    · exact hs
    · exact ho
  · simp only [List.mem_cons, List.not_mem_nil, or_false] at hB
    subst hB
    rcases hn k kb with h | h
    · exact hd k ka h
    · have := hlt k ka; omega
  · obtain ⟨A, hA, hk⟩ := hk
    rcases List.mem_append.1 (q2.mem_iff.1 hA) with hA | hA
    · rcases hS A hA k hk with ⟨B, hB, hb⟩ | h
      · exact .inl ⟨B, q1.mem_iff.2 (List.mem_append_left _ hB), hb⟩
      · exact .inr h
    · exact .inl ⟨A, q1.mem_iff.2 (List.mem_append_right _ hA), hk⟩
/-- What the map's own part takes. -/
theorem Lay.om_disj (h : Sep (Y.list b X) w) : ∀ k, (k = Y.bm ∨ Y.v.ownBlock = some k) → ∀ A ∈ (blkA b (.cells #[.pointer (some ⟨Y.bm, 0, none⟩), Y.sv] 29) :: rowA 127 1 Y.sv X.slots.length (Y.SL.map slV) :: (keyRows Y.KL X.keys ++ slotRows Y.SL X.slots)), ¬ A.S k := by
  intro k hk A hA
  have h1 : Sep (omA Y.bm Y.v Y.KL :: (blkA b (.cells #[.pointer (some ⟨Y.bm, 0, none⟩), Y.sv] 29) :: rowA 127 1 Y.sv X.slots.length (Y.SL.map slV) :: (keyRows Y.KL X.keys ++ slotRows Y.SL X.slots))) w := h.perm (by
    simp only [Lay.list, Lay.hd, List.cons_append, List.nil_append]
    exact List.Perm.swap _ _ _)
  exact h1.dis A hA k hk
/-- A key's row is another one, in new blocks; the map's list with it. -/
theorem Lay.putKey {w1 : World} (h0 : Sep (Y.list b X) w) (f : Y.Fit X) (g : Gr w w1) (k : ByteArray) {s' : Sl} {l' : List En} (ho : Own w1 23 6 (slV s') l'.length (rowE l')) (hn : ∀ q, (slV s').ownBlock = some q → w.heap.size ≤ q)
    {v' : Value} (hm : OMsl w' Y.bm v' (putL ltS Y.KL k s')) (hv : ∀ q, v'.ownBlock = some q → Y.v.ownBlock = some q ∨ w1.heap.size ≤ q) (m : Mdh (fun q => q = Y.bm ∨ Y.v.ownBlock = some q) w1 w') :
    Sep (({ Y with v := v', KL := putL ltS Y.KL k s' } : Lay).list b ⟨X.slots, putL ltS X.keys k l'⟩) w' ∧ ({ Y with v := v', KL := putL ltS Y.KL k s' } : Lay).Fit ⟨X.slots, putL ltS X.keys k l'⟩ ∧
      ∀ q, (∃ A ∈ ({ Y with v := v', KL := putL ltS Y.KL k s' } : Lay).list b ⟨X.slots, putL ltS X.keys k l'⟩, A.S q) → (∃ A ∈ Y.list b X, A.S q) ∨ w.heap.size ≤ q := by
  obtain ⟨old, R, p1, _, p2, _, e1, _⟩ := keyRows_split f.k k s' l'
  have h1 := h0.new g (A := enA s' l') ho hn
  have q1 : (enA s' l' :: Y.list b X).Perm (omA Y.bm Y.v Y.KL :: ([enA s' l', blkA b (.cells #[.pointer (some ⟨Y.bm, 0, none⟩), Y.sv] 29), rowA 127 1 Y.sv X.slots.length (Y.SL.map slV)] ++ ((old ++ R) ++ slotRows Y.SL X.slots))) := by
    refine List.Perm.trans (l₂ := enA s' l' :: omA Y.bm Y.v Y.KL :: (blkA b (.cells #[.pointer (some ⟨Y.bm, 0, none⟩), Y.sv] 29) :: rowA 127 1 Y.sv X.slots.length (Y.SL.map slV) :: ((old ++ R) ++ slotRows Y.SL X.slots))) (List.Perm.cons _ ?_) (List.Perm.swap _ _ _)
    simp only [Lay.list, Lay.hd, List.cons_append, List.nil_append]
    exact (((((p1.append_right _)).cons _).cons _).cons _).trans (List.Perm.swap _ _ _)
  have q2 : (({ Y with v := v', KL := putL ltS Y.KL k s' } : Lay).list b ⟨X.slots, putL ltS X.keys k l'⟩).Perm (omA Y.bm v' (putL ltS Y.KL k s') :: ([enA s' l', blkA b (.cells #[.pointer (some ⟨Y.bm, 0, none⟩), Y.sv] 29), rowA 127 1 Y.sv X.slots.length (Y.SL.map slV)] ++ (R ++ slotRows Y.SL X.slots))) := by
    simp only [Lay.list, Lay.hd, List.cons_append, List.nil_append]
    refine ((((p2.append_right _).cons _).cons _).cons _).trans ((List.Perm.swap _ _ _).trans (List.Perm.cons _ ?_))
    simp only [List.cons_append]
    exact (List.perm_middle (l₁ := [blkA b _, rowA 127 1 Y.sv X.slots.length (Y.SL.map slV)]))
  have h2 := h1.perm q1
  have h3 := h2.step (B := omA Y.bm v' (putL ltS Y.KL k s')) m (fun q hq => .inl hq) hm (fun q hq => hq.elim (fun e => .inl (.inl e)) (fun e => (hv q e).imp .inr (fun h => h)))
  have sub : (R ++ slotRows Y.SL X.slots).Sublist ((old ++ R) ++ slotRows Y.SL X.slots) := (List.sublist_append_right _ _).append_right _
  refine ⟨(h3.sub ((sub.append_left [enA s' l', _, _]).cons_cons _)).perm q2.symm, ⟨e1, f.s⟩, fun q hq => ?_⟩
  obtain ⟨A, hA, ha⟩ := hq
  rcases List.mem_cons.1 (q2.mem_iff.1 hA) with rfl | hA
  · rcases ha with e | e
    · exact .inl ⟨omA Y.bm Y.v Y.KL, by simp [Lay.list, Lay.hd], .inl e⟩
    · rcases hv q e with h | h
      · exact .inl ⟨omA Y.bm Y.v Y.KL, by simp [Lay.list, Lay.hd], .inr h⟩
      · exact .inr (Nat.le_trans g.sz h)
  · rcases List.mem_append.1 hA with hA | hA
    · rcases List.mem_cons.1 hA with e | hA
      · subst e; exact .inr (hn q ha)
      · refine .inl ⟨A, ?_, ha⟩
        rcases List.mem_cons.1 hA with e | hA
        · rw [e]; exact List.mem_append_left _ (List.mem_cons_self ..)
        · rw [List.mem_singleton.1 hA]; exact List.mem_append_left _ (List.mem_cons_of_mem _ (List.mem_cons_of_mem _ (List.mem_cons_self ..)))
    · refine .inl ⟨A, List.mem_append_right _ ?_, ha⟩
      rcases List.mem_append.1 hA with hA | hA
      · exact List.mem_append_left _ (p1.mem_iff.2 (List.mem_append_right _ hA))
      · exact List.mem_append_right _ hA
/-- A key is taken out. -/
theorem Lay.delKey (h0 : Sep (Y.list b X) w) (f : Y.Fit X) (k : ByteArray)
    {v' : Value} (hm : OMsl w' Y.bm v' (delL ltS Y.KL k)) (hv : ∀ q, v'.ownBlock = some q → Y.v.ownBlock = some q ∨ w.heap.size ≤ q) (m : Mdh (fun q => q = Y.bm ∨ Y.v.ownBlock = some q) w w') :
    Sep (({ Y with v := v', KL := delL ltS Y.KL k } : Lay).list b ⟨X.slots, delL ltS X.keys k⟩) w' ∧ ({ Y with v := v', KL := delL ltS Y.KL k } : Lay).Fit ⟨X.slots, delL ltS X.keys k⟩ ∧
      ∀ q, (∃ A ∈ ({ Y with v := v', KL := delL ltS Y.KL k } : Lay).list b ⟨X.slots, delL ltS X.keys k⟩, A.S q) → (∃ A ∈ Y.list b X, A.S q) ∨ w.heap.size ≤ q := by
  obtain ⟨old, R, p1, _, _, p2, _, e1⟩ := keyRows_split f.k k (none, 0, 0) []
  have q1 : (Y.list b X).Perm (omA Y.bm Y.v Y.KL :: ([blkA b (.cells #[.pointer (some ⟨Y.bm, 0, none⟩), Y.sv] 29), rowA 127 1 Y.sv X.slots.length (Y.SL.map slV)] ++ ((old ++ R) ++ slotRows Y.SL X.slots))) := by
    simp only [Lay.list, Lay.hd, List.cons_append, List.nil_append]
    exact (((((p1.append_right _)).cons _).cons _).cons _).trans (List.Perm.swap _ _ _)
  have q2 : (({ Y with v := v', KL := delL ltS Y.KL k } : Lay).list b ⟨X.slots, delL ltS X.keys k⟩).Perm (omA Y.bm v' (delL ltS Y.KL k) :: ([blkA b (.cells #[.pointer (some ⟨Y.bm, 0, none⟩), Y.sv] 29), rowA 127 1 Y.sv X.slots.length (Y.SL.map slV)] ++ (R ++ slotRows Y.SL X.slots))) := by
    simp only [Lay.list, Lay.hd, List.cons_append, List.nil_append]
    exact (((((p2.append_right _)).cons _).cons _).cons _).trans (List.Perm.swap _ _ _)
  have h2 := h0.perm q1
  have h3 := h2.step (B := omA Y.bm v' (delL ltS Y.KL k)) m (fun q hq => .inl hq) hm (fun q hq => hq.elim (fun e => .inl (.inl e)) (fun e => (hv q e).imp .inr (fun h => h)))
  have sub : (R ++ slotRows Y.SL X.slots).Sublist ((old ++ R) ++ slotRows Y.SL X.slots) := (List.sublist_append_right _ _).append_right _
  refine ⟨(h3.sub ((sub.append_left [_, _]).cons_cons _)).perm q2.symm, ⟨e1, f.s⟩, fun q hq => ?_⟩
  obtain ⟨A, hA, ha⟩ := hq
  rcases List.mem_cons.1 (q2.mem_iff.1 hA) with rfl | hA
  · rcases ha with e | e
    · exact .inl ⟨omA Y.bm Y.v Y.KL, by simp [Lay.list, Lay.hd], .inl e⟩
    · rcases hv q e with h | h
      · exact .inl ⟨omA Y.bm Y.v Y.KL, by simp [Lay.list, Lay.hd], .inr h⟩
      · exact .inr h
  · exact .inl ⟨A, q1.mem_iff.2 (List.mem_cons_of_mem _ ((sub.append_left [_, _]).subset hA)), ha⟩
end
end Go.Proofs.Ytiidkehcfoajeaa
