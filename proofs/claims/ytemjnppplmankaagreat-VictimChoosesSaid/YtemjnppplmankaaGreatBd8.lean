/- slices.DeleteFunc at rows of entries. -/
import Derived.Test.YtemjnppplmankaaGreatBd7
import Derived.Test.YtemjnppplmankaaGreatBd6
set_option linter.unusedVariables false
set_option linter.unusedSimpArgs false
namespace Go.Proofs.YtemjnppplmankaaGreat
open Go.RowKit Go.Shelf
attribute [local go_sem] OvM cell_ovm obj_ovm

theorem zeroEn (w : World) : (zeroValue 89).run Tryz.prog w = .ok (.agg #[.int .i64 0, .string ⟨#[]⟩, .bool false, .int .i64 0, .int .i64 0, .int .i64 0]) w := by kernel_rfl
def set6 (xs : List Value) (k : Nat) (x : En) : List Value := (((((xs.set k (.int .i64 x.seq)).set (k + 1) (.string x.key)).set (k + 2) (.bool x.del)).set (k + 3) (.int .i64 x.slot)).set (k + 4) (.int .i64 x.off)).set (k + 5) (.int .i64 x.size)
theorem set6_len (xs : List Value) (k : Nat) (x : En) : (set6 xs k x).length = xs.length := by simp [set6]
theorem set6_pre (a xs : List Value) (k : Nat) (x : En) : set6 (a ++ xs) (a.length + k) x = a ++ set6 xs k x := by
  unfold set6
  simp only [Nat.add_assoc, List.set_append_right _ _ (Nat.le_add_right _ _), Nat.add_sub_cancel_left]
theorem rowE_set (M : List En) : ∀ (i : Nat) (x : En), i < M.length → set6 (rowE M) (i * 6) x = rowE (M.set i x) := by
  induction M with
  | nil => intro i x h; simp at h
  | cons y M ih =>
    intro i x h
    cases i with
    | zero => simp only [rowE_cons, List.set_cons_zero]; rfl
    | succ i =>
      rw [List.set_cons_succ, rowE_cons, rowE_cons, ← ih i x (by simpa using h), show (i + 1) * 6 = (enC y).length + i * 6 by simp [enC]; omega]
      exact set6_pre _ _ _ _
theorem set6_take (cs : List Value) (n k : Nat) (x : En) : (set6 cs k x).take n = set6 (cs.take n) k x := by
  simp only [set6, List.take_set]
theorem ownE_set {w : World} {g n cap : Nat} {M : List En} (h : Own w 89 6 (.slice (some ⟨g, 0, none⟩) n cap) n (rowE M)) {i : Nat} (hi : i < n) (x : En) :
    Own ((((((w.setCell ⟨g, i * 6, none⟩ (.int .i64 x.seq)).setCell ⟨g, i * 6 + 1, none⟩ (.string x.key)).setCell ⟨g, i * 6 + 2, none⟩ (.bool x.del)).setCell ⟨g, i * 6 + 3, none⟩ (.int .i64 x.slot)).setCell ⟨g, i * 6 + 4, none⟩ (.int .i64 x.off)).setCell ⟨g, i * 6 + 5, none⟩ (.int .i64 x.size)) 89 6 (.slice (some ⟨g, 0, none⟩) n cap) n (rowE (M.set i x)) := by
  have hl : (rowE M).length = n * 6 := h.1
  rw [rowE_len] at hl
  obtain ⟨cur, hg, hnc, hcm, hcs, htk⟩ := h.parts
  have e := blkSet (j := i * 6 + 5) (u := .int .i64 x.size) (blkSet (j := i * 6 + 4) (u := .int .i64 x.off) (blkSet (j := i * 6 + 3) (u := .int .i64 x.slot) (blkSet (j := i * 6 + 2) (u := .bool x.del) (blkSet (j := i * 6 + 1) (u := .string x.key) (blkSet (j := i * 6) (u := .int .i64 x.seq) hg)))))
  refine Own.ofParts e hnc hcm (by simpa using hcs) ?_
  have hM : i < M.length := by omega
  rw [← rowE_set M i x hM, ← htk, ← set6_take]
  simp [set6]
theorem filter_snoc_yes {p : En → Bool} {l : List En} {j : Nat} {x : En} (hx : l[j]? = some x) (hp : p x = true) : (l.take (j + 1)).filter (fun y => !p y) = (l.take j).filter (fun y => !p y) := by
  rw [List.take_add_one, hx]; simp [hp]
theorem filter_snoc_no {p : En → Bool} {l : List En} {j : Nat} {x : En} (hx : l[j]? = some x) (hp : p x = false) : (l.take (j + 1)).filter (fun y => !p y) = (l.take j).filter (fun y => !p y) ++ [x] := by
  rw [List.take_add_one, hx]; simp [hp]
/-- What stands in the row behind j elements, of which i were kept. -/
structure DelM (p : En → Bool) (l M : List En) (i j : Nat) : Prop where
  n : M.length = l.length
  ij : i < j
  jn : j ≤ l.length
  f : M.take i = (l.take j).filter (fun y => !p y)
  d : M.drop j = l.drop j
theorem DelM.start {p : En → Bool} {l : List En} (h : idxP p l < l.length) : DelM p l l (idxP p l) (idxP p l + 1) := by
  refine ⟨rfl, by omega, by omega, ?_, rfl⟩
  have h0 := cnt_at (fun x => !p x) l _ (List.getElem?_eq_getElem h)
  rw [filter_snoc_yes (List.getElem?_eq_getElem h) (by simpa using h0)]
  refine (List.filter_eq_self.2 (fun x hx => ?_)).symm
  obtain ⟨i, hi, rfl⟩ := List.mem_iff_getElem.1 hx
  rw [List.getElem_take]
  have : i < idxP p l := by rw [List.length_take] at hi; omega
  exact cnt_lo (fun x => !p x) l i _ this (List.getElem?_eq_getElem (by omega))
theorem DelM.at {p : En → Bool} {l M : List En} {i j : Nat} (h : DelM p l M i j) : M[j]? = l[j]? := by
  have := congrArg (fun x => x[0]?) h.d
  simpa [List.getElem?_drop] using this
theorem DelM.yes {p : En → Bool} {l M : List En} {i j : Nat} {x : En} (h : DelM p l M i j) (hx : l[j]? = some x) (hp : p x = true) : DelM p l M i (j + 1) := by
  have hj := (List.getElem?_eq_some_iff.1 hx).1
  refine ⟨h.n, by have := h.ij; omega, by omega, by rw [filter_snoc_yes hx hp]; exact h.f, ?_⟩
  have := congrArg (List.drop 1) h.d
  simpa [List.drop_drop] using this
theorem DelM.no {p : En → Bool} {l M : List En} {i j : Nat} {x : En} (h : DelM p l M i j) (hx : l[j]? = some x) (hp : p x = false) : DelM p l (M.set i x) (i + 1) (j + 1) := by
  have hj := (List.getElem?_eq_some_iff.1 hx).1
  have hij := h.ij
  have hn := h.n
  refine ⟨by rw [List.length_set]; exact hn, by omega, by omega, ?_, ?_⟩
  · rw [filter_snoc_no hx hp, ← h.f, List.take_add_one, List.take_set_of_le (Nat.le_refl i), List.getElem?_set_self (by omega)]
    rfl
  · rw [List.drop_set_of_lt (by omega)]
    have := congrArg (List.drop 1) h.d
    simpa [List.drop_drop] using this
theorem DelM.len {p : En → Bool} {l M : List En} {i : Nat} (h : DelM p l M i l.length) : (l.filter (fun y => !p y)).length = i := by
  have := congrArg List.length h.f
  rw [List.take_of_length_le (Nat.le_refl _), List.length_take, h.n] at this
  have := h.ij
  omega
/-- Elements at the front of a row. -/
theorem idxV_none {p : En → Bool} {l : List En} (h : ¬ idxP p l < l.length) : l.filter (fun y => !p y) = l := by
  refine List.filter_eq_self.2 (fun x hx => ?_)
  obtain ⟨i, hi, rfl⟩ := List.mem_iff_getElem.1 hx
  exact cnt_lo (fun x => !p x) l i _ (by have := idxP_le p l; unfold idxP at *; omega) (List.getElem?_eq_getElem hi)

def DelFPost (s : Sl) (left : List En) (w : World) (e : Ending) (w' : World) : Prop :=
  ∃ s' : Sl, e = .returned (slV s') ∧ Own w' 89 6 (slV s') left.length (rowE left) ∧ (∀ k, (slV s').ownBlock = some k → (slV s).ownBlock = some k) ∧ Mdh (fun k => (slV s).ownBlock = some k) w w'
set_option maxRecDepth 40000 in
set_option maxHeartbeats 4000000 in
theorem DeleteFL (l : List En) (hn : l.length ≤ 1000000) (s : Sl) (w : World) (h : Own w 89 6 (slV s) l.length (rowE l)) {g : Nat} {lb : Array Value} {p : En → Bool} (hp : PredC g lb p (fun k => (slV s).ownBlock = some k) w) :
    Calls Tryz.prog 74 #[slV s, .func (.func g) #[] lb] w (DelFPost s (l.filter (fun y => !p y)) w) := by
  obtain ⟨s1, s2, s3⟩ := s
  obtain ⟨a', cap', hv, hnc, hcm, hat⟩ := ownE_at h
  simp only [slV] at *
  injection hv with e1 e2 e3
  subst e1 e2 e3
  have HO := Lib.hid h
  have HP := Lib.hid hp
  have HIF := Lib.hid (IndexFL l hn s1 s3 w h hp)
  have heg := hp.enter
  clear h hat hp
  by_cases hlt : idxP p l < l.length
  · have HV : Hid (idxV p l = (idxP p l : Nat)) := Lib.hid (by unfold idxV; rw [if_pos hlt])
    have HM0 := Lib.hid (DelM.start hlt)
    obtain ⟨g0, rfl⟩ : ∃ g0, s1 = some ⟨g0, 0, none⟩ := by
      rcases HO.out.2 with ⟨hv, h0⟩ | ⟨g0, cap, cur, hv, _⟩
      · omega
      · injection hv with e1 _ _; exact ⟨g0, e1⟩
    generalize idxP p l = i0 at *
    have hi0 : ((i0 : Int) == -1) = false := beq_false_of_ne (by omega)
    go_enter Tryz.func74, Tryz.ntmps74
    go_wp2_with fail
    refine Calls.mono HIF.out ?_
    rintro e w1 ⟨rfl, hg⟩
    rw [HV.out]
    have HG := Lib.hid hg
    clear hg
    go_wp2_with fail
    go_loopw [5, 6] (fun t5 t6 wx => ∃ (i j : Nat) (M : List En), i < j ∧ j ≤ l.length ∧ t5 = .int .i64 i ∧ t6 = .int .i64 j ∧ Hid (DelM p l M i j ∧ Own wx 89 6 (.slice (some ⟨g0, 0, none⟩) l.length s3) l.length (rowE M) ∧ Mdh (fun k => k = g0) w wx)) (fun _ t6 _ => l.length - (intOf t6).toNat)
    case atStart => exact ⟨i0, i0 + 1, l, by omega, by omega, rfl, by go_num, Lib.hid ⟨HM0.out, HO.out.gr HG.out, HG.out.mdh _⟩⟩
    case round =>
      obtain ⟨i, j, M, hij, hj, rfl, rfl, H⟩ := hrel
      by_cases hjl : j < l.length
      · have hjl' : (j : Int) < l.length := by omega
        have hx : l[j]? = some (l[j]'hjl) := List.getElem?_eq_getElem hjl
        have hM : M[j]? = some (l[j]'hjl) := H.out.1.at.trans hx
        have HX := Lib.hid hx
        generalize l[j]'hjl = x at *
        obtain ⟨a2, cap2, hv2, z1, z2, hat2⟩ := ownE_at (l := M) (by rw [H.out.1.n]; exact H.out.2.1)
        obtain ⟨g2, hg2, z1, z2, hc⟩ := hat2 j _ hM
        clear z1 z2
        injection hv2 with f1 f2 f3
        rw [hg2] at f1
        injection f1 with f1
        injection f1 with f1 f4 f5
        subst f1
        clear f2 f3 f4 f5
        have HLT := Lib.hid (blkLt (Own.parts H.out.2.1).choose_spec.1)
        have d0 := hc 0 _ rfl
        have d1 := hc 1 _ rfl
        have d2 := hc 2 _ rfl
        have d3 := hc 3 _ rfl
        have d4 := hc 4 _ rfl
        have d5 := hc 5 _ rfl
        simp only [Nat.add_zero] at d0 d1 d2 d3 d4 d5
        clear hc hx hM hat2 hg2 z1 z2
        have HR := Lib.hid (fun w2 (g : Gr wr w2) => HP.out.run x w2 ((H.out.2.2.gr g).mono (fun k hk => by subst hk; rfl)))
        cases hpx : p x with
        | true =>
          have HPX := Lib.hid hpx
          clear hpx
          go_wp2_with fail
          refine Calls.mono (HR.out _ ((Gr.refl _).alloc _)) ?_
          rintro e w2 ⟨rfl, hg⟩
          rw [HPX.out]
          have HG2 := Lib.hid (((Gr.refl wr).alloc _).trans hg)
          clear hg
          go_wp2
          go_roundw
          case rel => exact ⟨i, j + 1, M, by omega, by omega, rfl, by go_num, Lib.hid ⟨H.out.1.yes HX.out HPX.out, H.out.2.1.gr HG2.out, H.out.2.2.gr HG2.out⟩⟩
          case measure => simp [intOf]; omega
        | false =>
          have HPX := Lib.hid hpx
          clear hpx
          have hil : (i : Int) < l.length := by omega
          go_wp2_with fail
          refine Calls.mono (HR.out _ ((Gr.refl _).alloc _)) ?_
          rintro e w2 ⟨rfl, hg⟩
          rw [HPX.out]
          have HG2 := Lib.hid (((Gr.refl wr).alloc _).trans hg)
          have cb := (cellsOf (hg.blk (blkNew wr _))).1
          have l0 := HLT.out
          have fg := (cellsOf (HG2.out.blk (Own.parts H.out.2.1).choose_spec.1)).2
          have hcl : ∀ c, c < 6 → ∃ u, w2.cell? ⟨g0, i * 6 + c, none⟩ = some u := fun c hc => by
            obtain ⟨cur, hg1, hnc1, hcm1, hcs1, _⟩ := Own.parts H.out.2.1
            have hlt : i * 6 + c < cur.size := by rw [hcs1]; omega
            exact ⟨_, ((cellsOf (HG2.out.blk hg1)).1 _).trans (Array.getElem?_eq_getElem hlt)⟩
          have f0 := hcl 0 (by omega)
          have f1 := hcl 1 (by omega)
          have f2 := hcl 2 (by omega)
          have f3 := hcl 3 (by omega)
          have f4 := hcl 4 (by omega)
          have f5 := hcl 5 (by omega)
          rw [Nat.add_zero] at f0
          clear hcl
          obtain ⟨u0, f0⟩ := f0
          obtain ⟨u1, f1⟩ := f1
          obtain ⟨u2, f2⟩ := f2
          obtain ⟨u3, f3⟩ := f3
          obtain ⟨u4, f4⟩ := f4
          obtain ⟨u5, f5⟩ := f5
          clear hg
          go_wp2
          go_roundw
          case rel => exact ⟨i + 1, j + 1, M.set i x, by omega, by omega, by go_num, by go_num, Lib.hid ⟨H.out.1.no HX.out HPX.out, ownE_set (H.out.2.1.gr HG2.out) (by omega) x, ((((((H.out.2.2.gr HG2.out).setCell (p := ⟨g0, i * 6, none⟩) rfl _).setCell (p := ⟨g0, i * 6 + 1, none⟩) rfl _).setCell (p := ⟨g0, i * 6 + 2, none⟩) rfl _).setCell (p := ⟨g0, i * 6 + 3, none⟩) rfl _).setCell (p := ⟨g0, i * 6 + 4, none⟩) rfl _).setCell (p := ⟨g0, i * 6 + 5, none⟩) rfl _⟩⟩
          case measure => simp [intOf]; omega
      · have hjl' : ¬ (j : Int) < l.length := by omega
        obtain rfl : j = l.length := by omega
        obtain ⟨cur, hg1, hnc1, hcm1, hcs1, htk1⟩ := Own.parts H.out.2.1
        have hclr := run_clearK (P := Tryz.prog) wr 85 89 0 (.agg #[.int .i64 0, .string ⟨#[]⟩, .bool false, .int .i64 0, .int .i64 0, .int .i64 0]) 6 Tryz.underlying85 zeroEn rfl (by decide) g0 (i * 6) (l.length - i) (s3 - i) (by omega) cur 89 hg1 (by rw [hcs1]; omega)
        obtain ⟨cur3, hc3⟩ : ∃ cur3, cur3 = (cur.toList.take (i * 6) ++ (Builtin.zeroCells (Value.agg #[.int .i64 0, .string ⟨#[]⟩, .bool false, .int .i64 0, .int .i64 0, .int .i64 0]).cells (l.length - i)).toList ++ cur.toList.drop (i * 6 + (l.length - i) * 6)).toArray := ⟨_, rfl⟩
        rw [← hc3] at hclr
        have HCL := Lib.hid hclr
        have hcl0 : cur.toList.length = s3 * 6 := by simp [hcs1]
        have hzl : (Builtin.zeroCells (Value.agg #[.int .i64 0, .string ⟨#[]⟩, .bool false, .int .i64 0, .int .i64 0, .int .i64 0]).cells (l.length - i)).toList.length = (l.length - i) * 6 := by rw [zeroCells_len]; rfl
        have H3 : Hid (cur3.size = s3 * 6 ∧ cur3.toList.take (i * 6) = rowE (l.filter (fun y => !p y)) ∧ (l.filter (fun y => !p y)).length = i) := Lib.hid (by
          refine ⟨?_, ?_, H.out.1.len⟩
          · have := seg_len cur.toList (Builtin.zeroCells (Value.agg #[.int .i64 0, .string ⟨#[]⟩, .bool false, .int .i64 0, .int .i64 0, .int .i64 0]).cells (l.length - i)).toList (i * 6) (by rw [hzl, hcl0]; omega)
            rw [hzl] at this
            rw [hc3, ← hcs1]
            exact List.size_toArray.trans (this.trans Array.length_toList)
          · rw [hc3]
            show List.take _ (_ ++ _ ++ _) = _
            rw [List.append_assoc, List.take_append_of_le_length (by rw [List.length_take, hcl0]; omega), List.take_take, Nat.min_self]
            have h1 := congrArg (List.take (i * 6)) htk1
            rw [List.take_take, Nat.min_eq_left (by omega), rowE_take, H.out.1.f, List.take_of_length_le (Nat.le_refl _)] at h1
            exact h1)
        have HG1 := Lib.hid hg1
        have hl0 : (i : Int) ≤ l.length := by omega
        have hs3 : ¬ s3 = i := by omega
        have hli : ((l.length : Int) - i) = ((l.length - i : Nat) : Int) := by omega
        unfold maxLen at hcm
        clear hcl0 hclr hc3 hzl hg1 hnc1 hcm1 hcs1 htk1
        go_wp2_with (refine wpList_clear_eq HCL.out rfl (.tmp 38) rfl rfl rfl ?_)
        go_ret
        refine ⟨(some ⟨g0, 0, none⟩, i, s3), rfl, ?_, fun k hk => hk, setRow_mdh (S := fun k => (Value.slice (some ⟨g0, 0, none⟩) l.length s3).ownBlock = some k) (H.out.2.2.mono (fun k hk => by subst hk; rfl)) (.inl rfl) _⟩
        rw [H3.out.2.2]
        exact Own.ofParts (setRow_at HG1.out) (show i ≤ s3 by omega) (show s3 ≤ maxLen by unfold maxLen; omega) H3.out.1 H3.out.2.1
  · have HV : Hid (idxV p l = -1) := Lib.hid (by unfold idxV; rw [if_neg hlt])
    have HE := Lib.hid (idxV_none hlt)
    rw [HE.out]
    go_enter Tryz.func74, Tryz.ntmps74
    go_wp2_with fail
    refine Calls.mono HIF.out ?_
    rintro e w1 ⟨rfl, hg⟩
    rw [HV.out]
    have HG := Lib.hid hg
    clear hg
    go_wp2
    go_ret
    exact ⟨(s1, l.length, s3), rfl, HO.out.gr HG.out, fun k hk => hk, HG.out.mdh _⟩
end Go.Proofs.YtemjnppplmankaaGreat

/- Dropping a slot: what it calls. -/
set_option linter.unusedVariables false
set_option linter.unusedSimpArgs false
namespace Go.Proofs.YtemjnppplmankaaGreat
open Go.RowKit Go.Shelf
attribute [local go_sem] OvM cell_ovm obj_ovm
attribute [local go_sem] Oper.semAt_some

set_option maxRecDepth 40000 in
theorem made_c {w : World} {b n cap g : Nat} (hn : 0 < n) (c1 : w.cell? ⟨b, 1, none⟩ = some (.slice (some ⟨g, 0, none⟩) n cap)) : Calls Tryz.prog 34 #[.pointer (some ⟨b, 0, none⟩)] w fun e w' => e = .returned (.bool true) ∧ w = w' := by
  have c5 : (0 : Int) < n := by omega
  go_enter Tryz.func34, Tryz.ntmps34
  go_wp2
  go_ret
  exact ⟨rfl, rfl⟩
set_option maxRecDepth 40000 in
theorem has_c {w : World} {b n cap g i : Nat} (hn : i < n) (c1 : w.cell? ⟨b, 1, none⟩ = some (.slice (some ⟨g, 0, none⟩) n cap)) : Calls Tryz.prog 59 #[.pointer (some ⟨b, 0, none⟩), .int .i64 i] w fun e w' => e = .returned (.bool true) ∧ w = w' := by
  have c5 : (i : Int) < n := by omega
  have H := Lib.hid c1
  go_enter Tryz.func59, Tryz.ntmps59
  go_wp2_with (go_at_call 34; refine (made_c (by omega) H.out).mono ?_; rintro e w1 ⟨rfl, rfl⟩)
  go_ret
  exact ⟨rfl, rfl⟩
set_option maxRecDepth 40000 in
set_option maxHeartbeats 4000000 in
/-- A slot's entries, by the blocks that are read. -/
theorem SeqSlotA {w : World} {b g cap n i : Nat} {u : Value} {sl : Sl} {l : List En} (hb : w.heap[b]? = some (.cells #[u, .slice (some ⟨g, 0, none⟩) n cap] 84)) (hi : i < n) (hnc : n ≤ cap) (hcm : cap ≤ maxLen) (hc : w.cell? ⟨g, i, none⟩ = some (slV sl))
    (ho : Own w 89 6 (slV sl) l.length (rowE l)) (hl : l.length ≤ 1000) (A : Nat → Prop) (hAb : A b) (hAg : A g) (hAs : ∀ q, (slV sl).ownBlock = some q → A q) (bb bs : Nat) (hAbb : A bb) (hAbs : A bs)
    (hbb : w.cell? ⟨bb, 0, none⟩ = some (.pointer (some ⟨b, 0, none⟩))) (hbs : w.cell? ⟨bs, 0, none⟩ = some (.int .i64 i)) :
    SeqZ Fence.wide 2 Tryz.prog 113 #[.pointer (some ⟨bb, 0, none⟩), .pointer (some ⟨bs, 0, none⟩)] encE A (fun xs => xs = l) (fun pre => pre <+: l) w := by
  intro ly J Jx W hW hJ hJx hY h0
  have hbW : W.cell? ⟨bb, 0, none⟩ = some (.pointer (some ⟨b, 0, none⟩)) := hW.keep hbb (fun h => h hAbb)
  have hsW : W.cell? ⟨bs, 0, none⟩ = some (.int .i64 i) := hW.keep hbs (fun h => h hAbs)
  have hB := hW.blk hb (fun h => h hAb)
  have e1 : W.cell? ⟨b, 1, none⟩ = some (.slice (some ⟨g, 0, none⟩) n cap) := ((cellsOf hB).1 1).trans rfl
  have E1 := Lib.hid e1
  have e2 : W.cell? ⟨g, i, none⟩ = some (slV sl) := hW.keep hc (fun h => h hAg)
  have hoW := ho.mdh hW (fun q hq h => h (hAs q hq))
  have HI := Lib.hid hi
  have hi' : (i : Int) < n := by omega
  have HV : Hid (∀ (w1 : World), Gr W w1 → ∀ b0, w1.cell? ⟨b0, 0, none⟩ = some (slV sl) → W.heap.size ≤ b0 →
      Calls Tryz.prog 131 #[.func (.yield ly) #[] #[], .pointer (some ⟨b0, 0, none⟩)] w1 (SinPost l J Jx)) := Lib.hid (fun w1 g1 b0 hb0 hlt => by
    have hin := Val1 (slV sl) l (by omega) w1 (hoW.gr g1) b0 hb0 (fun q => A q ∨ q = b0) (.inr rfl) (fun q hq => .inl (hAs q hq)) ly (plusB b0 J) (plusB b0 Jx) w1 (Mdh.refl _ _) (plusB_apart b0 hJ) (plusB_apart b0 hJx) (fun Z pre x X' hj hs => plusB_yield (hY _ pre x X' hj hs)) (hJ _ _ _ _ _ h0 (g1.mdh _) (fun q hq => hq.elim .inl (fun e => .inr ⟨by omega, by have := World.block_lt_of_cell? w1 _ hb0; simp only at this; omega⟩)))
    exact (callsIn_wide.1 hin).mono (fun e w' h => plusB_sin h))
  unfold maxLen at hcm
  obtain ⟨s1, s2, s3⟩ := sl
  simp only [slV] at *
  clear hY h0 hW hbb hbs ho hoW hc hb hB hAs
  refine callsIn_wide.2 ?_
  go_enter Tryz.func113, Tryz.ntmps113
  go_wp2_with (go_at_call 59; refine (has_c HI.out E1.out).mono ?_; rintro e w1 ⟨rfl, rfl⟩)
  go_region_with (first
    | (go_at_call 105; refine (Values_any _ _ _ _).mono ?_; rintro e w3 ⟨rfl, rfl⟩)
    | (go_at_call 131; refine (HV.out _ (by (repeat (first | (with_reducible exact Gr.refl _) | assumption | (with_reducible apply Gr.from_drew) | (with_reducible apply Gr.alloc) | (with_reducible apply Gr.drew) | (with_reducible refine Gr.trans ?_ (by assumption)) | (with_reducible refine Gr.setCell ?_ (by omega) _)))) _ (by simp [go_sem]) (by simp)).mono ?_; rintro e w4 ⟨⟨u, rfl⟩, hcc⟩))
  all_goals
    go_wp2
    go_end0
    exact ⟨⟨_, rfl⟩, hcc⟩
set_option maxRecDepth 40000 in
theorem Drop1 (o e : En) (be : Nat) (w : World) (h : w.heap[be]? = some (.cells #[.int .i64 e.seq, .string e.key, .bool e.del, .int .i64 e.slot, .int .i64 e.off, .int .i64 e.size] 89)) :
    Calls Tryz.prog 75 #[enV o, .pointer (some ⟨be, 0, none⟩)] w fun r w' => r = .returned (.bool (decide (o = e))) ∧ Gr w w' := by
  have c := (cellsOf h).1
  have l := blkLt h
  have k1 := eqlE_run o e
  simp only [enV]
  go_enter Tryz.func75, Tryz.ntmps75
  go_wp2
  go_ret
  exact ⟨rfl, by (repeat (first | (with_reducible exact Gr.refl _) | assumption | (with_reducible apply Gr.from_drew) | (with_reducible apply Gr.alloc) | (with_reducible apply Gr.drew) | (with_reducible refine Gr.trans ?_ (by assumption)) | (with_reducible refine Gr.setCell ?_ (by omega) _)))⟩
theorem DropP (e : En) (be : Nat) (w : World) (T : Nat → Prop) (hT : ¬ T be) (h : w.heap[be]? = some (.cells #[.int .i64 e.seq, .string e.key, .bool e.del, .int .i64 e.slot, .int .i64 e.off, .int .i64 e.size] 89)) :
    PredC 75 #[.pointer (some ⟨be, 0, none⟩)] (fun o => decide (o = e)) T w :=
  ⟨enters_of Tryz.func75 (by kernel_rfl) rfl, fun x w' m => Drop1 x e be w' (m.blk h hT)⟩

/-- The index while its slot's entries are taken out of its keys. -/
structure DrI (w1 : World) (b : Nat) (X : IX) (Y : Lay) (A S : Nat → Prop) (l : List En) (v : Value) (KL : List (ByteArray × Sl)) (Z : Nat → Prop) (W : World) : Prop where
  s : Sep (({ Y with v := v, KL := KL } : Lay).list b (dropK X l)) W
  f : ({ Y with v := v, KL := KL } : Lay).Fit (dropK X l)
  z : ∀ k, (∃ B ∈ ({ Y with v := v, KL := KL } : Lay).list b (dropK X l), B.S k) → ¬ Z k
  d : ∀ k, (k = Y.bm ∨ v.ownBlock = some k) → ¬ A k
  n : ∀ k, (∃ B ∈ ({ Y with v := v, KL := KL } : Lay).list b (dropK X l), B.S k) → S k ∨ w1.heap.size ≤ k
  m : Frm w1 (fun k => S k ∧ ¬ A k) Z W
section
variable {w1 W W' : World} {b : Nat} {X : IX} {Y : Lay} {A S Z : Nat → Prop} {l l' : List En} {v v' : Value} {KL KL' : List (ByteArray × Sl)}
theorem DrI.apart : Apart (fun Z (l : List En) W => ∃ v KL, DrI w1 b X Y A S l v KL Z W) := fun Z Z' l X' Y' ⟨v, KL, h⟩ hm hz =>
  ⟨v, KL, h.s.mdh hm (fun B hB k hk => h.z k ⟨B, hB, hk⟩), h.f, fun k ⟨B, hB, hk⟩ h1 => (hz k h1).elim (h.z k ⟨B, hB, hk⟩) (fun y => by have := h.s.lt hB k hk; omega), h.d, h.n, Frm.apart (β := Unit) _ _ Z Z' () X' Y' h.m hm hz⟩
theorem DrI.om (h : DrI w1 b X Y A S l v KL Z W) : ∀ k, (k = Y.bm ∨ v.ownBlock = some k) → (S k ∧ ¬ A k) ∨ w1.heap.size ≤ k := fun k hk =>
  (h.n k ⟨omA Y.bm v KL, by simp [Lay.list, Lay.hd], hk⟩).imp (fun h1 => ⟨h1, h.d k hk⟩) (fun h => h)
theorem DrI.omz (h : DrI w1 b X Y A S l v KL Z W) : ∀ k, (k = Y.bm ∨ v.ownBlock = some k) → ¬ Z k := fun k hk => h.z k ⟨omA Y.bm v KL, by simp [Lay.list, Lay.hd], hk⟩
theorem DrI.next (h : DrI w1 b X Y A S l v KL Z W) (m : Mdh (fun q => q = Y.bm ∨ v.ownBlock = some q) W W') (hs : Sep (({ Y with v := v', KL := KL' } : Lay).list b (dropK X l')) W') (hf : ({ Y with v := v', KL := KL' } : Lay).Fit (dropK X l'))
    (hn : ∀ q, (∃ B ∈ ({ Y with v := v', KL := KL' } : Lay).list b (dropK X l'), B.S q) → (∃ B ∈ ({ Y with v := v, KL := KL } : Lay).list b (dropK X l), B.S q) ∨ W.heap.size ≤ q)
    (hv : ∀ q, v'.ownBlock = some q → v.ownBlock = some q ∨ W.heap.size ≤ q) (hA : ∀ k, A k → k < w1.heap.size) : DrI w1 b X Y A S l' v' KL' Z W' ∧ Mdh (fun k => ¬ A k ∧ ¬ Z k) W W' := by
  have hsz := h.m.m.size
  refine ⟨⟨hs, hf, fun k hk hz => (hn k hk).elim (fun h1 => h.z k h1 hz) (fun h1 => by have := h.m.t k hz; omega), fun k hk ha => ?_, fun k hk => (hn k hk).elim (h.n k) (fun h1 => .inr (by omega)), h.m.step m h.om⟩, m.mono (fun k hk => ⟨h.d k hk, h.omz k hk⟩)⟩
  rcases hk with hk | hk
  · exact h.d k (.inl hk) ha
  · rcases hv k hk with h1 | h1
    · exact h.d k (.inr h1) ha
    · have := hA k ha; omega
end
theorem remE_del {X : IX} {e : En} (h : leftE X e = []) : remE X e = ⟨X.slots, delL ltS X.keys e.key⟩ := by unfold remE; rw [if_pos h]
theorem remE_put {X : IX} {e : En} (h : leftE X e ≠ []) : remE X e = ⟨X.slots, putL ltS X.keys e.key (leftE X e)⟩ := by unfold remE; rw [if_neg h]
def dropC (X : IX) (s : Int) : Int := if X.has s = true then 0 else 3
end Go.Proofs.YtemjnppplmankaaGreat

/- Contracts of slices.BinarySearchFunc at rows of entries: by offset, and by how entries of a key compare. -/
set_option linter.unusedVariables false
set_option linter.unusedSimpArgs false
namespace Go.Proofs.YtemjnppplmankaaGreat
open Go.RowKit
attribute [local go_sem] OvM cell_ovm obj_ovm

def foundO (l : List En) (off : Int) : Bool := match l[cnt (offP off) l]? with | some o => decide (o.off = off) | none => false
def foundN (l : List En) (e : En) : Bool := match l[cnt (fun o => ltE o e) l]? with | some o => decide (newerZ o e = 0) | none => false
theorem cmpZ_tests (x y : Int) : (decide (cmpZ x y < 0) = decide (x < y)) ∧ ((cmpZ x y == 0) = decide (x = y)) := by
  constructor
  · rw [Bool.eq_iff_iff]; simp [cmpZ_neg]
  · rw [Bool.eq_iff_iff]; simp [cmpZ_zero]
set_option maxRecDepth 40000 in
set_option maxHeartbeats 4000000 in
theorem BsfOff (l : List En) (off : Int) (a : Option Addr) (cap : Nat) (w : World) (h : Own w 89 6 (.slice a l.length cap) l.length (rowE l)) (hn : l.length ≤ 1000000) (hmono : ∀ j x, cnt (offP off) l ≤ j → l[j]? = some x → (offP off) x = false) :
    Calls Tryz.prog 63 #[.slice a l.length cap, .int .i64 off, .func (.func 64) #[] #[]] w fun e' w' => e' = .returned (.tuple #[.int .i64 (cnt (offP off) l), .bool (foundO l off)]) ∧ Gr w w' := by
  obtain ⟨n, hnn⟩ : ∃ n, n = l.length := ⟨_, rfl⟩
  obtain ⟨r, hr⟩ : ∃ r, r = cnt (offP off) l := ⟨_, rfl⟩
  have hrn : r ≤ n := by rw [hr, hnn]; exact cnt_le _ l
  have HO : Hid (∀ j, j < n → ∃ g x, a = some ⟨g, 0, none⟩ ∧ l[j]? = some x ∧ ∀ i u, (enC x)[i]? = some u → w.cell? ⟨g, j * 6 + i, none⟩ = some u) := Lib.hid (by
    intro j hj
    rw [hnn] at hj
    obtain ⟨a', cap', hv, _, _, hat⟩ := ownE_at h
    obtain ⟨g, ha, _, _, hc⟩ := hat j _ (List.getElem?_eq_getElem hj)
    injection hv with e1 _ _
    exact ⟨g, _, e1.trans ha, List.getElem?_eq_getElem hj, hc⟩)
  have hnegs : ∀ x : En, (offP off) x = true ↔ cmpZ x.off off < 0 := fun x => by unfold offP; rw [decide_eq_true_iff]; exact (cmpZ_neg _ _).symm
  have HM : Hid ((∀ j x, j < r → l[j]? = some x → cmpZ x.off off < 0) ∧ (∀ j x, r ≤ j → l[j]? = some x → ¬ cmpZ x.off off < 0)) := Lib.hid ⟨fun j x hj hx => (hnegs x).1 (cnt_lo _ l j x (by rw [← hr]; exact hj) hx), fun j x hj hx hz => by
    have h1 := hmono j x (by rw [← hr]; exact hj) hx
    rw [(hnegs x).2 hz] at h1
    cases h1⟩
  have HF : Hid ((∀ x, l[r]? = some x → foundO l off = decide (cmpZ x.off off = 0)) ∧ (l[r]? = none → foundO l off = false)) := Lib.hid ⟨fun x hx => by
    rw [hr] at hx
    exact by unfold foundO; rw [hx]; simp [cmpZ_zero], fun hx => by
    rw [hr] at hx
    exact by unfold foundO; rw [hx]⟩
  have HR : Hid (n = l.length) := Lib.hid hnn
  rw [← hr, ← hnn]
  rw [← hnn] at hn
  generalize foundO l off = fb at *
  have HRR := Lib.hid hr
  clear h hnn hmono hnegs hr
  skip
  go_enter Tryz.func63, Tryz.ntmps63
  go_wp2_with fail
  obtain ⟨wb, hwb⟩ : ∃ y, y = w := ⟨_, rfl⟩
  have HG0 : Hid (Gr w wb ∧ True) := Lib.hid (by rw [hwb]; exact ⟨Gr.refl w, trivial⟩)
  rw [← hwb]
  clear hwb
  go_loopw [9, 10] (fun t9 t10 wx => ∃ i j : Nat, t9 = .int .i64 i ∧ t10 = .int .i64 j ∧ i ≤ r ∧ r ≤ j ∧ j ≤ n ∧ Hid (Gr wb wx)) (fun t9 t10 _ => (intOf t10).toNat - (intOf t9).toNat)
  case atStart => exact ⟨0, n, rfl, rfl, by omega, hrn, by omega, Lib.hid (Gr.refl _)⟩
  case round =>
    obtain ⟨i, j, rfl, rfl, h1, h2, h3, HG⟩ := hrel
    by_cases hij : i < j
    · have hij' : (i : Int) < j := by omega
      obtain ⟨m, hm⟩ : ∃ m, m = (i + j) / 2 := ⟨_, rfl⟩
      have hmj : m < j := by omega
      have him : i ≤ m := by omega
      obtain ⟨g, x, rfl, hx, hc⟩ := HO.out m (by omega)
      have hmn : (m : Int) < n := by omega
      have e2 : ((i : Int) + (j : Int)) / 2 = (m : Int) := by omega
      have HW := Lib.hid (HG0.out.1.trans HG.out)
      have d0 := HW.out.keep (hc 0 _ rfl)
      have d1 := HW.out.keep (hc 1 _ rfl)
      have d2 := HW.out.keep (hc 2 _ rfl)
      have d3 := HW.out.keep (hc 3 _ rfl)
      have d4 := HW.out.keep (hc 4 _ rfl)
      have d5 := HW.out.keep (hc 5 _ rfl)
      simp only [Nat.add_zero] at d0 d1 d2 d3 d4 d5
      skip
      clear hm hc
      by_cases hlt : cmpZ x.off off < 0
      · have hmr : m + 1 ≤ r := by
          rcases Nat.lt_or_ge m r with h | h
          · exact h
          · exfalso; have := HM.out.2 m x h hx; omega
        clear hx
        generalize hzz : cmpZ x.off off = z at *
        have HZ := Lib.hid hzz
        clear hzz
        go_wp2_with (go_at_call 64; refine (cmp_off x off _).mono ?_; rintro e w1 ⟨rfl, hg⟩; rw [HZ.out]; have HG1 := Lib.hid hg; clear hg)
        go_roundw
        case rel => exact ⟨m + 1, j, by go_num, rfl, by omega, by omega, by omega, Lib.hid (HG.out.trans HG1.out)⟩
        case measure => simp [intOf]; omega
      · have hmr : r ≤ m := by
          rcases Nat.lt_or_ge m r with h | h
          · exfalso; have := HM.out.1 m x h hx; omega
          · exact h
        clear hx
        generalize hzz : cmpZ x.off off = z at *
        have HZ := Lib.hid hzz
        clear hzz
        go_wp2_with (go_at_call 64; refine (cmp_off x off _).mono ?_; rintro e w1 ⟨rfl, hg⟩; rw [HZ.out]; have HG1 := Lib.hid hg; clear hg)
        go_roundw
        case rel => exact ⟨i, m, rfl, rfl, by omega, by omega, by omega, Lib.hid (HG.out.trans HG1.out)⟩
        case measure => simp [intOf]; omega
    · have hij' : ¬ (i : Int) < j := by omega
      obtain rfl : i = r := by omega
      obtain rfl : j = i := by omega
      by_cases hjn : j < n
      · have hjn' : (j : Int) < n := by omega
        obtain ⟨g, x, rfl, hx, hc⟩ := HO.out j hjn
        have F1 : Hid (fb = decide (cmpZ x.off off = 0)) := Lib.hid (HF.out.1 x hx)
        have HW := Lib.hid (HG0.out.1.trans HG.out)
        have d0 := HW.out.keep (hc 0 _ rfl)
        have d1 := HW.out.keep (hc 1 _ rfl)
        have d2 := HW.out.keep (hc 2 _ rfl)
        have d3 := HW.out.keep (hc 3 _ rfl)
        have d4 := HW.out.keep (hc 4 _ rfl)
        have d5 := HW.out.keep (hc 5 _ rfl)
        simp only [Nat.add_zero] at d0 d1 d2 d3 d4 d5
        skip
        clear hx hc HM HF
        generalize hzz : cmpZ x.off off = z at *
        have HZ := Lib.hid hzz
        clear hzz
        have F2 : Hid ((z == 0) = fb) := Lib.hid (by rw [F1.out]; by_cases h : z = 0 <;> simp [h])
        go_wp2_with (go_at_call 64; refine (cmp_off x off _).mono ?_; rintro e w1 ⟨rfl, hg⟩; rw [HZ.out]; have HG1 := Lib.hid hg; clear hg)
        go_ret2
        exact ⟨by rw [F2.out]; rfl, HW.out.trans HG1.out⟩
      · have hjn' : ¬ (j : Int) < n := by omega
        have F1 : Hid (fb = false) := Lib.hid (HF.out.2 (List.getElem?_eq_none (by have := HR.out; omega)))
        go_wp2
        go_ret2
        exact ⟨by rw [F1.out]; rfl, HG0.out.1.trans HG.out⟩
set_option maxRecDepth 40000 in
set_option maxHeartbeats 4000000 in
theorem BsfNew (l : List En) (e : En) (a : Option Addr) (cap : Nat) (w : World) (h : Own w 89 6 (.slice a l.length cap) l.length (rowE l)) (hn : l.length ≤ 1000000) (hmono : ∀ j x, cnt (fun o => ltE o e) l ≤ j → l[j]? = some x → (fun o => ltE o e) x = false) :
    Calls Tryz.prog 67 #[.slice a l.length cap, enV e, .func (.func 68) #[] #[]] w fun e' w' => e' = .returned (.tuple #[.int .i64 (cnt (fun o => ltE o e) l), .bool (foundN l e)]) ∧ Gr w w' := by
  obtain ⟨n, hnn⟩ : ∃ n, n = l.length := ⟨_, rfl⟩
  obtain ⟨r, hr⟩ : ∃ r, r = cnt (fun o => ltE o e) l := ⟨_, rfl⟩
  have hrn : r ≤ n := by rw [hr, hnn]; exact cnt_le _ l
  have HO : Hid (∀ j, j < n → ∃ g x, a = some ⟨g, 0, none⟩ ∧ l[j]? = some x ∧ ∀ i u, (enC x)[i]? = some u → w.cell? ⟨g, j * 6 + i, none⟩ = some u) := Lib.hid (by
    intro j hj
    rw [hnn] at hj
    obtain ⟨a', cap', hv, _, _, hat⟩ := ownE_at h
    obtain ⟨g, ha, _, _, hc⟩ := hat j _ (List.getElem?_eq_getElem hj)
    injection hv with e1 _ _
    exact ⟨g, _, e1.trans ha, List.getElem?_eq_getElem hj, hc⟩)
  have hnegs : ∀ x : En, (fun o => ltE o e) x = true ↔ newerZ x e < 0 := fun x => (newer_neg _ _).symm
  have HM : Hid ((∀ j x, j < r → l[j]? = some x → newerZ x e < 0) ∧ (∀ j x, r ≤ j → l[j]? = some x → ¬ newerZ x e < 0)) := Lib.hid ⟨fun j x hj hx => (hnegs x).1 (cnt_lo _ l j x (by rw [← hr]; exact hj) hx), fun j x hj hx hz => by
    have h1 := hmono j x (by rw [← hr]; exact hj) hx
    rw [(hnegs x).2 hz] at h1
    cases h1⟩
  have HF : Hid ((∀ x, l[r]? = some x → foundN l e = decide (newerZ x e = 0)) ∧ (l[r]? = none → foundN l e = false)) := Lib.hid ⟨fun x hx => by
    rw [hr] at hx
    exact by unfold foundN; rw [hx], fun hx => by
    rw [hr] at hx
    exact by unfold foundN; rw [hx]⟩
  have HR : Hid (n = l.length) := Lib.hid hnn
  rw [← hr, ← hnn]
  rw [← hnn] at hn
  generalize foundN l e = fb at *
  have HRR := Lib.hid hr
  clear h hnn hmono hnegs hr
  simp only [enV]
  go_enter Tryz.func67, Tryz.ntmps67
  go_wp2_with fail
  obtain ⟨wb, hwb⟩ : ∃ y, y = w.alloc (.cells #[.int .i64 e.seq, .string e.key, .bool e.del, .int .i64 e.slot, .int .i64 e.off, .int .i64 e.size] 89) := ⟨_, rfl⟩
  have HG0 : Hid (Gr w wb ∧ wb.heap[w.heap.size]? = some (.cells #[.int .i64 e.seq, .string e.key, .bool e.del, .int .i64 e.slot, .int .i64 e.off, .int .i64 e.size] 89)) := Lib.hid (by rw [hwb]; exact ⟨(Gr.refl w).alloc _, blkNew w _⟩)
  rw [← hwb]
  clear hwb
  go_loopw [9, 10] (fun t9 t10 wx => ∃ i j : Nat, t9 = .int .i64 i ∧ t10 = .int .i64 j ∧ i ≤ r ∧ r ≤ j ∧ j ≤ n ∧ Hid (Gr wb wx)) (fun t9 t10 _ => (intOf t10).toNat - (intOf t9).toNat)
  case atStart => exact ⟨0, n, rfl, rfl, by omega, hrn, by omega, Lib.hid (Gr.refl _)⟩
  case round =>
    obtain ⟨i, j, rfl, rfl, h1, h2, h3, HG⟩ := hrel
    by_cases hij : i < j
    · have hij' : (i : Int) < j := by omega
      obtain ⟨m, hm⟩ : ∃ m, m = (i + j) / 2 := ⟨_, rfl⟩
      have hmj : m < j := by omega
      have him : i ≤ m := by omega
      obtain ⟨g, x, rfl, hx, hc⟩ := HO.out m (by omega)
      have hmn : (m : Int) < n := by omega
      have e2 : ((i : Int) + (j : Int)) / 2 = (m : Int) := by omega
      have HW := Lib.hid (HG0.out.1.trans HG.out)
      have d0 := HW.out.keep (hc 0 _ rfl)
      have d1 := HW.out.keep (hc 1 _ rfl)
      have d2 := HW.out.keep (hc 2 _ rfl)
      have d3 := HW.out.keep (hc 3 _ rfl)
      have d4 := HW.out.keep (hc 4 _ rfl)
      have d5 := HW.out.keep (hc 5 _ rfl)
      simp only [Nat.add_zero] at d0 d1 d2 d3 d4 d5
      have ce := (cellsOf (HG.out.blk HG0.out.2)).1
      clear hm hc
      by_cases hlt : newerZ x e < 0
      · have hmr : m + 1 ≤ r := by
          rcases Nat.lt_or_ge m r with h | h
          · exact h
          · exfalso; have := HM.out.2 m x h hx; omega
        clear hx
        generalize hzz : newerZ x e = z at *
        have HZ := Lib.hid hzz
        clear hzz
        go_wp2_with fail
        have HGx := Gr.refl wr.drew
        refine wp_region_flo (fun _ => False) [] [] (by kernel_rfl) (by kernel_rfl) (fun _ h => h.elim) ?_
        refine flo_seg 6 rfl ?_
        simp only [List.take_succ_cons, List.take_zero, List.drop_succ_cons, List.drop_zero]
        repeat (go_big_quiet_step (fail))
        refine wpQuiet_nil ?_
        refine flo_eff rfl rfl rfl rfl (fun K hK => ?_)
        go_wp2_with fail; refine (newer_any x e _).mono ?_; rintro e' w1 ⟨rfl, hg⟩; rw [HZ.out]; have HG1 := Lib.hid (Gr.of_drew hg); clear hg; go_wp2_with fail; refine ⟨by (first | (refine Gr.mdh ?_ _; (repeat (first | (with_reducible exact Gr.refl _) | assumption | (with_reducible apply Gr.from_drew) | (with_reducible apply Gr.alloc) | (with_reducible apply Gr.drew) | (with_reducible refine Gr.trans ?_ (by assumption)) | (with_reducible refine Gr.setCell ?_ (by omega) _))); done) | (repeat (first | (with_reducible exact Mdh.refl _ _) | (with_reducible refine Mdh.setCell ?_ (by simp) _) | (with_reducible refine Mdh.setNew ?_ (by simp) _) | (with_reducible apply Mdh.alloc) | (with_reducible apply Mdh.from_drew) | (with_reducible apply Mdh.drew) | (with_reducible refine Mdh.gr ?_ (by assumption))))), ?_⟩
        refine flo_seg 1 rfl ?_
        simp only [List.take_succ_cons, List.take_zero, List.drop_succ_cons, List.drop_zero]
        repeat (go_big_quiet_step (fail))
        refine wpQuiet_nil ?_
        refine flo_nil ?_
        go_wp2_with fail
        go_roundw
        case rel => exact ⟨m + 1, j, by go_num, rfl, by omega, by omega, by omega, Lib.hid (HG.out.trans HG1.out)⟩
        case measure => simp [intOf]; omega
      · have hmr : r ≤ m := by
          rcases Nat.lt_or_ge m r with h | h
          · exfalso; have := HM.out.1 m x h hx; omega
          · exact h
        clear hx
        generalize hzz : newerZ x e = z at *
        have HZ := Lib.hid hzz
        clear hzz
        go_wp2_with fail
        have HGx := Gr.refl wr.drew
        refine wp_region_flo (fun _ => False) [] [] (by kernel_rfl) (by kernel_rfl) (fun _ h => h.elim) ?_
        refine flo_seg 6 rfl ?_
        simp only [List.take_succ_cons, List.take_zero, List.drop_succ_cons, List.drop_zero]
        repeat (go_big_quiet_step (fail))
        refine wpQuiet_nil ?_
        refine flo_eff rfl rfl rfl rfl (fun K hK => ?_)
        go_wp2_with fail; refine (newer_any x e _).mono ?_; rintro e' w1 ⟨rfl, hg⟩; rw [HZ.out]; have HG1 := Lib.hid (Gr.of_drew hg); clear hg; go_wp2_with fail; refine ⟨by (first | (refine Gr.mdh ?_ _; (repeat (first | (with_reducible exact Gr.refl _) | assumption | (with_reducible apply Gr.from_drew) | (with_reducible apply Gr.alloc) | (with_reducible apply Gr.drew) | (with_reducible refine Gr.trans ?_ (by assumption)) | (with_reducible refine Gr.setCell ?_ (by omega) _))); done) | (repeat (first | (with_reducible exact Mdh.refl _ _) | (with_reducible refine Mdh.setCell ?_ (by simp) _) | (with_reducible refine Mdh.setNew ?_ (by simp) _) | (with_reducible apply Mdh.alloc) | (with_reducible apply Mdh.from_drew) | (with_reducible apply Mdh.drew) | (with_reducible refine Mdh.gr ?_ (by assumption))))), ?_⟩
        refine flo_seg 1 rfl ?_
        simp only [List.take_succ_cons, List.take_zero, List.drop_succ_cons, List.drop_zero]
        repeat (go_big_quiet_step (fail))
        refine wpQuiet_nil ?_
        refine flo_nil ?_
        go_wp2_with fail
        go_roundw
        case rel => exact ⟨i, m, rfl, rfl, by omega, by omega, by omega, Lib.hid (HG.out.trans HG1.out)⟩
        case measure => simp [intOf]; omega
    · have hij' : ¬ (i : Int) < j := by omega
      obtain rfl : i = r := by omega
      obtain rfl : j = i := by omega
      by_cases hjn : j < n
      · have hjn' : (j : Int) < n := by omega
        obtain ⟨g, x, rfl, hx, hc⟩ := HO.out j hjn
        have F1 : Hid (fb = decide (newerZ x e = 0)) := Lib.hid (HF.out.1 x hx)
        have HW := Lib.hid (HG0.out.1.trans HG.out)
        have d0 := HW.out.keep (hc 0 _ rfl)
        have d1 := HW.out.keep (hc 1 _ rfl)
        have d2 := HW.out.keep (hc 2 _ rfl)
        have d3 := HW.out.keep (hc 3 _ rfl)
        have d4 := HW.out.keep (hc 4 _ rfl)
        have d5 := HW.out.keep (hc 5 _ rfl)
        simp only [Nat.add_zero] at d0 d1 d2 d3 d4 d5
        have ce := (cellsOf (HG.out.blk HG0.out.2)).1
        clear hx hc HM HF
        generalize hzz : newerZ x e = z at *
        have HZ := Lib.hid hzz
        clear hzz
        have F2 : Hid ((z == 0) = fb) := Lib.hid (by rw [F1.out]; by_cases h : z = 0 <;> simp [h])
        go_wp2_with fail
        refine wp_region_flo (fun _ => False) [] [] (by kernel_rfl) (by kernel_rfl) (fun _ h => h.elim) ?_
        refine flo_seg 11 rfl ?_
        simp only [List.take_succ_cons, List.take_zero, List.drop_succ_cons, List.drop_zero]
        repeat (go_big_quiet_step (fail))
        refine wpQuiet_nil ?_
        refine flo_eff rfl rfl rfl rfl (fun K hK => ?_)
        go_wp2_with fail; refine (newer_any x e _).mono ?_; rintro e' w1 ⟨rfl, hg⟩; rw [HZ.out]; have HG1 := Lib.hid (Gr.of_drew hg); clear hg; go_wp2_with fail; refine ⟨by (first | (refine Gr.mdh ?_ _; (repeat (first | (with_reducible exact Gr.refl _) | assumption | (with_reducible apply Gr.from_drew) | (with_reducible apply Gr.alloc) | (with_reducible apply Gr.drew) | (with_reducible refine Gr.trans ?_ (by assumption)) | (with_reducible refine Gr.setCell ?_ (by omega) _))); done) | (repeat (first | (with_reducible exact Mdh.refl _ _) | (with_reducible refine Mdh.setCell ?_ (by simp) _) | (with_reducible refine Mdh.setNew ?_ (by simp) _) | (with_reducible apply Mdh.alloc) | (with_reducible apply Mdh.from_drew) | (with_reducible apply Mdh.drew) | (with_reducible refine Mdh.gr ?_ (by assumption))))), ?_⟩
        refine flo_seg 4 rfl ?_
        simp only [List.take_succ_cons, List.take_zero, List.drop_succ_cons, List.drop_zero]
        repeat (go_big_quiet_step (fail))
        refine wpQuiet_nil ?_
        refine flo_nil ?_
        go_wp2_with fail
        go_ret2
        exact ⟨by rw [F2.out]; rfl, HW.out.trans HG1.out⟩
      · have hjn' : ¬ (j : Int) < n := by omega
        have F1 : Hid (fb = false) := Lib.hid (HF.out.2 (List.getElem?_eq_none (by have := HR.out; omega)))
        go_wp2_with fail
        refine wp_region_flo (fun _ => False) [] [] (by kernel_rfl) (by kernel_rfl) (fun _ h => h.elim) ?_
        refine flo_seg 11 rfl ?_
        simp only [List.take_succ_cons, List.take_zero, List.drop_succ_cons, List.drop_zero]
        repeat (go_big_quiet_step (fail))
        refine wpQuiet_nil ?_
        refine flo_pass rfl rfl rfl ?_
        (try go_simp)
        refine flo_seg 4 rfl ?_
        simp only [List.take_succ_cons, List.take_zero, List.drop_succ_cons, List.drop_zero]
        repeat (go_big_quiet_step (fail))
        refine wpQuiet_nil ?_
        refine flo_nil ?_
        go_wp2_with fail
        go_ret2
        exact ⟨by rw [F1.out]; rfl, (HG0.out.1.trans HG.out).drew⟩
end Go.Proofs.YtemjnppplmankaaGreat
