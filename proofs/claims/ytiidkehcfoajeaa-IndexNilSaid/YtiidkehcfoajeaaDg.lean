/- slices.DeleteFunc at rows of entries. -/
import Derived.Test.YtiidkehcfoajeaaDf
set_option linter.unusedVariables false
set_option linter.unusedSimpArgs false
namespace Go.Proofs.Ytiidkehcfoajeaa
open Go.RowKit Go.Shelf
attribute [local go_sem] OvM cell_ovm obj_ovm

theorem zeroEn (w : World) : (zeroValue 23).run Try.prog w = .ok (.agg #[.int .i64 0, .string ⟨#[]⟩, .bool false, .int .i64 0, .int .i64 0, .int .i64 0]) w := by kernel_rfl
def set6 (xs : List Value) (k : Nat) (x : En) : List Value := (((((xs.set k (.int .i64 x.seq)).set (k + 1) (.string x.key)).set (k + 2) (.bool x.del)).set (k + 3) (.int .i64 x.slot)).set (k + 4) (.int .i64 x.off)).set (k + 5) (.int .i64 x.size)
theorem set6_len (xs : List Value) (k : Nat) (x : En) : (set6 xs k x).length = xs.length := by simp [set6]
theorem set6_pre (a xs : List Value) (k : Nat) (x : En) : set6 (a ++ xs) (a.length + k) x = a ++ set6 xs k x := by
  unfold set6
  simp only [Nat.add_assoc, List.set_append_right _ _ (Nat.le_add_right _ _), Nat.add_sub_cancel_left]
theorem rowE_set (M : List En) : ∀ (i : Nat) (x : En), i < M.length → set6 (rowE M) (i * 6) x = rowE (M.set i x) := by
  induction M with
  | nil => intro i x h; simp at h
  | cons y M ih =>
    intro i x h
    cases i with
    | zero => simp only [rowE_cons, List.set_cons_zero]; rfl
    | succ i =>
      rw [List.set_cons_succ, rowE_cons, rowE_cons, ← ih i x (by simpa using h), show (i + 1) * 6 = (enC y).length + i * 6 by simp [enC]; omega]
      exact set6_pre _ _ _ _
theorem set6_take (cs : List Value) (n k : Nat) (x : En) : (set6 cs k x).take n = set6 (cs.take n) k x := by
  simp only [set6, List.take_set]
theorem ownE_set {w : World} {g n cap : Nat} {M : List En} (h : Own w 23 6 (.slice (some ⟨g, 0, none⟩) n cap) n (rowE M)) {i : Nat} (hi : i < n) (x : En) :
    Own ((((((w.setCell ⟨g, i * 6, none⟩ (.int .i64 x.seq)).setCell ⟨g, i * 6 + 1, none⟩ (.string x.key)).setCell ⟨g, i * 6 + 2, none⟩ (.bool x.del)).setCell ⟨g, i * 6 + 3, none⟩ (.int .i64 x.slot)).setCell ⟨g, i * 6 + 4, none⟩ (.int .i64 x.off)).setCell ⟨g, i * 6 + 5, none⟩ (.int .i64 x.size)) 23 6 (.slice (some ⟨g, 0, none⟩) n cap) n (rowE (M.set i x)) := by
  have hl : (rowE M).length = n * 6 := h.1
  rw [rowE_len] at hl
  obtain ⟨cur, hg, hnc, hcm, hcs, htk⟩ := h.parts
  have e := blkSet (j := i * 6 + 5) (u := .int .i64 x.size) (blkSet (j := i * 6 + 4) (u := .int .i64 x.off) (blkSet (j := i * 6 + 3) (u := .int .i64 x.slot) (blkSet (j := i * 6 + 2) (u := .bool x.del) (blkSet (j := i * 6 + 1) (u := .string x.key) (blkSet (j := i * 6) (u := .int .i64 x.seq) hg)))))
  refine Own.ofParts e hnc hcm (by simpa using hcs) ?_
  have hM : i < M.length := by omega
  rw [← rowE_set M i x hM, ← htk, ← set6_take]
  simp [set6]
theorem filter_snoc_yes {p : En → Bool} {l : List En} {j : Nat} {x : En} (hx : l[j]? = some x) (hp : p x = true) : (l.take (j + 1)).filter (fun y => !p y) = (l.take j).filter (fun y => !p y) := by
  rw [List.take_add_one, hx]; simp [hp]
theorem filter_snoc_no {p : En → Bool} {l : List En} {j : Nat} {x : En} (hx : l[j]? = some x) (hp : p x = false) : (l.take (j + 1)).filter (fun y => !p y) = (l.take j).filter (fun y => !p y) ++ [x] := by
  rw [List.take_add_one, hx]; simp [hp]
/-- What stands in the row behind j elements, of which i were kept. -/
structure DelM (p : En → Bool) (l M : List En) (i j : Nat) : Prop where
  n : M.length = l.length
  ij : i < j
  jn : j ≤ l.length
  f : M.take i = (l.take j).filter (fun y => !p y)
  d : M.drop j = l.drop j
theorem DelM.start {p : En → Bool} {l : List En} (h : idxP p l < l.length) : DelM p l l (idxP p l) (idxP p l + 1) := by
  refine ⟨rfl, by omega, by omega, ?_, rfl⟩
  have h0 := cnt_at (fun x => !p x) l _ (List.getElem?_eq_getElem h)
  rw [filter_snoc_yes (List.getElem?_eq_getElem h) (by simpa using h0)]
  refine (List.filter_eq_self.2 (fun x hx => ?_)).symm
  obtain ⟨i, hi, rfl⟩ := List.mem_iff_getElem.1 hx
  rw [List.getElem_take]
  have : i < idxP p l := by rw [List.length_take] at hi; omega
  exact cnt_lo (fun x => !p x) l i _ this (List.getElem?_eq_getElem (by omega))
theorem DelM.at {p : En → Bool} {l M : List En} {i j : Nat} (h : DelM p l M i j) : M[j]? = l[j]? := by
  have := congrArg (fun x => x[0]?) h.d
  simpa [List.getElem?_drop] using this
theorem DelM.yes {p : En → Bool} {l M : List En} {i j : Nat} {x : En} (h : DelM p l M i j) (hx : l[j]? = some x) (hp : p x = true) : DelM p l M i (j + 1) := by
  have hj := (List.getElem?_eq_some_iff.1 hx).1
  refine ⟨h.n, by have := h.ij; omega, by omega, by rw [filter_snoc_yes hx hp]; exact h.f, ?_⟩
  have := congrArg (List.drop 1) h.d
  simpa [List.drop_drop] using this
theorem DelM.no {p : En → Bool} {l M : List En} {i j : Nat} {x : En} (h : DelM p l M i j) (hx : l[j]? = some x) (hp : p x = false) : DelM p l (M.set i x) (i + 1) (j + 1) := by
  have hj := (List.getElem?_eq_some_iff.1 hx).1
  have hij := h.ij
  have hn := h.n
  refine ⟨by rw [List.length_set]; exact hn, by omega, by omega, ?_, ?_⟩
  · rw [filter_snoc_no hx hp, ← h.f, List.take_add_one, List.take_set_of_le (Nat.le_refl i), List.getElem?_set_self (by omega)]
    rfl
  · rw [List.drop_set_of_lt (by omega)]
    have := congrArg (List.drop 1) h.d
    simpa [List.drop_drop] using this
theorem DelM.len {p : En → Bool} {l M : List En} {i : Nat} (h : DelM p l M i l.length) : (l.filter (fun y => !p y)).length = i := by
  have := congrArg List.length h.f
  rw [List.take_of_length_le (Nat.le_refl _), List.length_take, h.n] at this
  have := h.ij
  omega
/-- Elements at the front of a row. -/
theorem idxV_none {p : En → Bool} {l : List En} (h : ¬ idxP p l < l.length) : l.filter (fun y => !p y) = l := by
  refine List.filter_eq_self.2 (fun x hx => ?_)
  obtain ⟨i, hi, rfl⟩ := List.mem_iff_getElem.1 hx
  exact cnt_lo (fun x => !p x) l i _ (by have := idxP_le p l; unfold idxP at *; omega) (List.getElem?_eq_getElem hi)

def DelFPost (s : Sl) (left : List En) (w : World) (e : Ending) (w' : World) : Prop :=
  ∃ s' : Sl, e = .returned (slV s') ∧ Own w' 23 6 (slV s') left.length (rowE left) ∧ (∀ k, (slV s').ownBlock = some k → (slV s).ownBlock = some k) ∧ Mdh (fun k => (slV s).ownBlock = some k) w w'
set_option maxRecDepth 40000 in
set_option maxHeartbeats 4000000 in
theorem DeleteFL (l : List En) (hn : l.length ≤ 1000000) (s : Sl) (w : World) (h : Own w 23 6 (slV s) l.length (rowE l)) {g : Nat} {lb : Array Value} {p : En → Bool} (hp : PredC g lb p (fun k => (slV s).ownBlock = some k) w) :
    Calls Try.prog 113 #[slV s, .func (.func g) #[] lb] w (DelFPost s (l.filter (fun y => !p y)) w) := by
  obtain ⟨s1, s2, s3⟩ := s
  obtain ⟨a', cap', hv, hnc, hcm, hat⟩ := ownE_at h
  simp only [slV] at *
  injection hv with e1 e2 e3
  subst e1 e2 e3
  have HO := Lib.hid h
  have HP := Lib.hid hp
  have HIF := Lib.hid (IndexFL l hn s1 s3 w h hp)
  have heg := hp.enter
  clear h hat hp
  by_cases hlt : idxP p l < l.length
  · have HV : Hid (idxV p l = (idxP p l : Nat)) := Lib.hid (by unfold idxV; rw [if_pos hlt])
    have HM0 := Lib.hid (DelM.start hlt)
    obtain ⟨g0, rfl⟩ : ∃ g0, s1 = some ⟨g0, 0, none⟩ := by
      rcases HO.out.2 with ⟨hv, h0⟩ | ⟨g0, cap, cur, hv, _⟩
      · omega
      · injection hv with e1 _ _; exact ⟨g0, e1⟩
    generalize idxP p l = i0 at *
    have hi0 : ((i0 : Int) == -1) = false := beq_false_of_ne (by omega)
    go_enter Try.func113, Try.ntmps113
    go_wp2_with fail
    refine Calls.mono HIF.out ?_
    rintro e w1 ⟨rfl, hg⟩
    rw [HV.out]
    have HG := Lib.hid hg
    clear hg
    go_wp2_with fail
    go_loopw [5, 6] (fun t5 t6 wx => ∃ (i j : Nat) (M : List En), i < j ∧ j ≤ l.length ∧ t5 = .int .i64 i ∧ t6 = .int .i64 j ∧ Hid (DelM p l M i j ∧ Own wx 23 6 (.slice (some ⟨g0, 0, none⟩) l.length s3) l.length (rowE M) ∧ Mdh (fun k => k = g0) w wx)) (fun _ t6 _ => l.length - (intOf t6).toNat)
    case atStart => exact ⟨i0, i0 + 1, l, by omega, by omega, rfl, by go_num, Lib.hid ⟨HM0.out, HO.out.gr HG.out, HG.out.mdh _⟩⟩
    case round =>
      obtain ⟨i, j, M, hij, hj, rfl, rfl, H⟩ := hrel
      by_cases hjl : j < l.length
      · have hjl' : (j : Int) < l.length := by omega
        have hx : l[j]? = some (l[j]'hjl) := List.getElem?_eq_getElem hjl
        have hM : M[j]? = some (l[j]'hjl) := H.out.1.at.trans hx
        have HX := Lib.hid hx
        generalize l[j]'hjl = x at *
        obtain ⟨a2, cap2, hv2, z1, z2, hat2⟩ := ownE_at (l := M) (by rw [H.out.1.n]; exact H.out.2.1)
        obtain ⟨g2, hg2, z1, z2, hc⟩ := hat2 j _ hM
        clear z1 z2
        injection hv2 with f1 f2 f3
        rw [hg2] at f1
        injection f1 with f1
        injection f1 with f1 f4 f5
        subst f1
        clear f2 f3 f4 f5
        have HLT := Lib.hid (blkLt (Own.parts H.out.2.1).choose_spec.1)
        have d0 := hc 0 _ rfl
        have d1 := hc 1 _ rfl
        have d2 := hc 2 _ rfl
        have d3 := hc 3 _ rfl
        have d4 := hc 4 _ rfl
        have d5 := hc 5 _ rfl
        simp only [Nat.add_zero] at d0 d1 d2 d3 d4 d5
        clear hc hx hM hat2 hg2 z1 z2
        have HR := Lib.hid (fun w2 (g : Gr wr w2) => HP.out.run x w2 ((H.out.2.2.gr g).mono (fun k hk => by subst hk; rfl)))
        cases hpx : p x with
        | true =>
          have HPX := Lib.hid hpx
          clear hpx
          go_wp2_with fail
          refine Calls.mono (HR.out _ ((Gr.refl _).alloc _)) ?_
          rintro e w2 ⟨rfl, hg⟩
          rw [HPX.out]
          have HG2 := Lib.hid (((Gr.refl wr).alloc _).trans hg)
          clear hg
          go_wp2
          go_roundw
          case rel => exact ⟨i, j + 1, M, by omega, by omega, rfl, by go_num, Lib.hid ⟨H.out.1.yes HX.out HPX.out, H.out.2.1.gr HG2.out, H.out.2.2.gr HG2.out⟩⟩
          case measure => simp [intOf]; omega
        | false =>
          have HPX := Lib.hid hpx
          clear hpx
          have hil : (i : Int) < l.length := by omega
          go_wp2_with fail
          refine Calls.mono (HR.out _ ((Gr.refl _).alloc _)) ?_
          rintro e w2 ⟨rfl, hg⟩
          rw [HPX.out]
          have HG2 := Lib.hid (((Gr.refl wr).alloc _).trans hg)
          have cb := (cellsOf (hg.blk (blkNew wr _))).1
          have l0 := HLT.out
          have fg := (cellsOf (HG2.out.blk (Own.parts H.out.2.1).choose_spec.1)).2
          have hcl : ∀ c, c < 6 → ∃ u, w2.cell? ⟨g0, i * 6 + c, none⟩ = some u := fun c hc => by
            obtain ⟨cur, hg1, hnc1, hcm1, hcs1, _⟩ := Own.parts H.out.2.1
            have hlt : i * 6 + c < cur.size := by rw [hcs1]; omega
            exact ⟨_, ((cellsOf (HG2.out.blk hg1)).1 _).trans (Array.getElem?_eq_getElem hlt)⟩
          have f0 := hcl 0 (by omega)
          have f1 := hcl 1 (by omega)
          have f2 := hcl 2 (by omega)
          have f3 := hcl 3 (by omega)
          have f4 := hcl 4 (by omega)
          have f5 := hcl 5 (by omega)
          rw [Nat.add_zero] at f0
          clear hcl
          obtain ⟨u0, f0⟩ := f0
          obtain ⟨u1, f1⟩ := f1
          obtain ⟨u2, f2⟩ := f2
          obtain ⟨u3, f3⟩ := f3
          obtain ⟨u4, f4⟩ := f4
          obtain ⟨u5, f5⟩ := f5
          clear hg
          go_wp2
          go_roundw
          case rel => exact ⟨i + 1, j + 1, M.set i x, by omega, by omega, by go_num, by go_num, Lib.hid ⟨H.out.1.no HX.out HPX.out, ownE_set (H.out.2.1.gr HG2.out) (by omega) x, ((((((H.out.2.2.gr HG2.out).setCell (p := ⟨g0, i * 6, none⟩) rfl _).setCell (p := ⟨g0, i * 6 + 1, none⟩) rfl _).setCell (p := ⟨g0, i * 6 + 2, none⟩) rfl _).setCell (p := ⟨g0, i * 6 + 3, none⟩) rfl _).setCell (p := ⟨g0, i * 6 + 4, none⟩) rfl _).setCell (p := ⟨g0, i * 6 + 5, none⟩) rfl _⟩⟩
          case measure => simp [intOf]; omega
      · have hjl' : ¬ (j : Int) < l.length := by omega
        obtain rfl : j = l.length := by omega
        obtain ⟨cur, hg1, hnc1, hcm1, hcs1, htk1⟩ := Own.parts H.out.2.1
        have hclr := run_clearK (P := Try.prog) wr 127 23 0 (.agg #[.int .i64 0, .string ⟨#[]⟩, .bool false, .int .i64 0, .int .i64 0, .int .i64 0]) 6 Try.underlying127 zeroEn rfl (by decide) g0 (i * 6) (l.length - i) (s3 - i) (by omega) cur 23 hg1 (by rw [hcs1]; omega)
        obtain ⟨cur3, hc3⟩ : ∃ cur3, cur3 = (cur.toList.take (i * 6) ++ (Builtin.zeroCells (Value.agg #[.int .i64 0, .string ⟨#[]⟩, .bool false, .int .i64 0, .int .i64 0, .int .i64 0]).cells (l.length - i)).toList ++ cur.toList.drop (i * 6 + (l.length - i) * 6)).toArray := ⟨_, rfl⟩
        rw [← hc3] at hclr
        have HCL := Lib.hid hclr
        have hcl0 : cur.toList.length = s3 * 6 := by simp [hcs1]
        have hzl : (Builtin.zeroCells (Value.agg #[.int .i64 0, .string ⟨#[]⟩, .bool false, .int .i64 0, .int .i64 0, .int .i64 0]).cells (l.length - i)).toList.length = (l.length - i) * 6 := by rw [zeroCells_len]; rfl
        have H3 : Hid (cur3.size = s3 * 6 ∧ cur3.toList.take (i * 6) = rowE (l.filter (fun y => !p y)) ∧ (l.filter (fun y => !p y)).length = i) := Lib.hid (by
          refine ⟨?_, ?_, H.out.1.len⟩
          · have := seg_len cur.toList (Builtin.zeroCells (Value.agg #[.int .i64 0, .string ⟨#[]⟩, .bool false, .int .i64 0, .int .i64 0, .int .i64 0]).cells (l.length - i)).toList (i * 6) (by rw [hzl, hcl0]; omega)
            rw [hzl] at this
            rw [hc3, ← hcs1]
            exact List.size_toArray.trans (this.trans Array.length_toList)
          · rw [hc3]
            show List.take _ (_ ++ _ ++ _) = _
            rw [List.append_assoc, List.take_append_of_le_length (by rw [List.length_take, hcl0]; omega), List.take_take, Nat.min_self]
            have h1 := congrArg (List.take (i * 6)) htk1
            rw [List.take_take, Nat.min_eq_left (by omega), rowE_take, H.out.1.f, List.take_of_length_le (Nat.le_refl _)] at h1
            exact h1)
        have HG1 := Lib.hid hg1
        have hl0 : (i : Int) ≤ l.length := by omega
        have hs3 : ¬ s3 = i := by omega
        have hli : ((l.length : Int) - i) = ((l.length - i : Nat) : Int) := by omega
        unfold maxLen at hcm
        clear hcl0 hclr hc3 hzl hg1 hnc1 hcm1 hcs1 htk1
        go_wp2_with (refine wpList_clear_eq HCL.out rfl (.tmp 38) rfl rfl rfl ?_)
        go_ret
        refine ⟨(some ⟨g0, 0, none⟩, i, s3), rfl, ?_, fun k hk => hk, setRow_mdh (S := fun k => (Value.slice (some ⟨g0, 0, none⟩) l.length s3).ownBlock = some k) (H.out.2.2.mono (fun k hk => by subst hk; rfl)) (.inl rfl) _⟩
        rw [H3.out.2.2]
        exact Own.ofParts (setRow_at HG1.out) (show i ≤ s3 by omega) (show s3 ≤ maxLen by unfold maxLen; omega) H3.out.1 H3.out.2.1
  · have HV : Hid (idxV p l = -1) := Lib.hid (by unfold idxV; rw [if_neg hlt])
    have HE := Lib.hid (idxV_none hlt)
    rw [HE.out]
    go_enter Try.func113, Try.ntmps113
    go_wp2_with fail
    refine Calls.mono HIF.out ?_
    rintro e w1 ⟨rfl, hg⟩
    rw [HV.out]
    have HG := Lib.hid hg
    clear hg
    go_wp2
    go_ret
    exact ⟨(s1, l.length, s3), rfl, HO.out.gr HG.out, fun k hk => hk, HG.out.mdh _⟩
set_option maxRecDepth 40000 in
set_option maxHeartbeats 4000000 in
theorem DeleteFE (l : List En) (hn : l.length ≤ 1000000) (s : Sl) (w : World) (h : Own w 23 6 (slV s) l.length (rowE l)) {g : Nat} {lb : Array Value} {p : En → Bool} (hp : PredC g lb p (fun k => (slV s).ownBlock = some k) w) :
    Calls Try.prog 90 #[slV s, .func (.func g) #[] lb] w (DelFPost s (l.filter (fun y => !p y)) w) := by
  obtain ⟨s1, s2, s3⟩ := s
  obtain ⟨a', cap', hv, hnc, hcm, hat⟩ := ownE_at h
  simp only [slV] at *
  injection hv with e1 e2 e3
  subst e1 e2 e3
  have HO := Lib.hid h
  have HP := Lib.hid hp
  have HIF := Lib.hid (IndexFE l hn s1 s3 w h hp)
  have heg := hp.enter
  clear h hat hp
  by_cases hlt : idxP p l < l.length
  · have HV : Hid (idxV p l = (idxP p l : Nat)) := Lib.hid (by unfold idxV; rw [if_pos hlt])
    have HM0 := Lib.hid (DelM.start hlt)
    obtain ⟨g0, rfl⟩ : ∃ g0, s1 = some ⟨g0, 0, none⟩ := by
      rcases HO.out.2 with ⟨hv, h0⟩ | ⟨g0, cap, cur, hv, _⟩
      · omega
      · injection hv with e1 _ _; exact ⟨g0, e1⟩
    generalize idxP p l = i0 at *
    have hi0 : ((i0 : Int) == -1) = false := beq_false_of_ne (by omega)
    go_enter Try.func90, Try.ntmps90
    go_wp2_with fail
    refine Calls.mono HIF.out ?_
    rintro e w1 ⟨rfl, hg⟩
    rw [HV.out]
    have HG := Lib.hid hg
    clear hg
    go_wp2_with fail
    go_loopw [5, 6] (fun t5 t6 wx => ∃ (i j : Nat) (M : List En), i < j ∧ j ≤ l.length ∧ t5 = .int .i64 i ∧ t6 = .int .i64 j ∧ Hid (DelM p l M i j ∧ Own wx 23 6 (.slice (some ⟨g0, 0, none⟩) l.length s3) l.length (rowE M) ∧ Mdh (fun k => k = g0) w wx)) (fun _ t6 _ => l.length - (intOf t6).toNat)
    case atStart => exact ⟨i0, i0 + 1, l, by omega, by omega, rfl, by go_num, Lib.hid ⟨HM0.out, HO.out.gr HG.out, HG.out.mdh _⟩⟩
    case round =>
      obtain ⟨i, j, M, hij, hj, rfl, rfl, H⟩ := hrel
      by_cases hjl : j < l.length
      · have hjl' : (j : Int) < l.length := by omega
        have hx : l[j]? = some (l[j]'hjl) := List.getElem?_eq_getElem hjl
        have hM : M[j]? = some (l[j]'hjl) := H.out.1.at.trans hx
        have HX := Lib.hid hx
        generalize l[j]'hjl = x at *
        obtain ⟨a2, cap2, hv2, z1, z2, hat2⟩ := ownE_at (l := M) (by rw [H.out.1.n]; exact H.out.2.1)
        obtain ⟨g2, hg2, z1, z2, hc⟩ := hat2 j _ hM
        clear z1 z2
        injection hv2 with f1 f2 f3
        rw [hg2] at f1
        injection f1 with f1
        injection f1 with f1 f4 f5
        subst f1
        clear f2 f3 f4 f5
        have HLT := Lib.hid (blkLt (Own.parts H.out.2.1).choose_spec.1)
        have d0 := hc 0 _ rfl
        have d1 := hc 1 _ rfl
        have d2 := hc 2 _ rfl
        have d3 := hc 3 _ rfl
        have d4 := hc 4 _ rfl
        have d5 := hc 5 _ rfl
        simp only [Nat.add_zero] at d0 d1 d2 d3 d4 d5
        clear hc hx hM hat2 hg2 z1 z2
        have HR := Lib.hid (fun w2 (g : Gr wr w2) => HP.out.run x w2 ((H.out.2.2.gr g).mono (fun k hk => by subst hk; rfl)))
        cases hpx : p x with
        | true =>
          have HPX := Lib.hid hpx
          clear hpx
          go_wp2_with fail
          refine Calls.mono (HR.out _ ((Gr.refl _).alloc _)) ?_
          rintro e w2 ⟨rfl, hg⟩
          rw [HPX.out]
          have HG2 := Lib.hid (((Gr.refl wr).alloc _).trans hg)
          clear hg
          go_wp2
          go_roundw
          case rel => exact ⟨i, j + 1, M, by omega, by omega, rfl, by go_num, Lib.hid ⟨H.out.1.yes HX.out HPX.out, H.out.2.1.gr HG2.out, H.out.2.2.gr HG2.out⟩⟩
          case measure => simp [intOf]; omega
        | false =>
          have HPX := Lib.hid hpx
          clear hpx
          have hil : (i : Int) < l.length := by omega
          go_wp2_with fail
          refine Calls.mono (HR.out _ ((Gr.refl _).alloc _)) ?_
          rintro e w2 ⟨rfl, hg⟩
          rw [HPX.out]
          have HG2 := Lib.hid (((Gr.refl wr).alloc _).trans hg)
          have cb := (cellsOf (hg.blk (blkNew wr _))).1
          have l0 := HLT.out
          have fg := (cellsOf (HG2.out.blk (Own.parts H.out.2.1).choose_spec.1)).2
          have hcl : ∀ c, c < 6 → ∃ u, w2.cell? ⟨g0, i * 6 + c, none⟩ = some u := fun c hc => by
            obtain ⟨cur, hg1, hnc1, hcm1, hcs1, _⟩ := Own.parts H.out.2.1
            have hlt : i * 6 + c < cur.size := by rw [hcs1]; omega
            exact ⟨_, ((cellsOf (HG2.out.blk hg1)).1 _).trans (Array.getElem?_eq_getElem hlt)⟩
          have f0 := hcl 0 (by omega)
          have f1 := hcl 1 (by omega)
          have f2 := hcl 2 (by omega)
          have f3 := hcl 3 (by omega)
          have f4 := hcl 4 (by omega)
          have f5 := hcl 5 (by omega)
          rw [Nat.add_zero] at f0
          clear hcl
          obtain ⟨u0, f0⟩ := f0
          obtain ⟨u1, f1⟩ := f1
          obtain ⟨u2, f2⟩ := f2
          obtain ⟨u3, f3⟩ := f3
          obtain ⟨u4, f4⟩ := f4
          obtain ⟨u5, f5⟩ := f5
          clear hg
          go_wp2
          go_roundw
          case rel => exact ⟨i + 1, j + 1, M.set i x, by omega, by omega, by go_num, by go_num, Lib.hid ⟨H.out.1.no HX.out HPX.out, ownE_set (H.out.2.1.gr HG2.out) (by omega) x, ((((((H.out.2.2.gr HG2.out).setCell (p := ⟨g0, i * 6, none⟩) rfl _).setCell (p := ⟨g0, i * 6 + 1, none⟩) rfl _).setCell (p := ⟨g0, i * 6 + 2, none⟩) rfl _).setCell (p := ⟨g0, i * 6 + 3, none⟩) rfl _).setCell (p := ⟨g0, i * 6 + 4, none⟩) rfl _).setCell (p := ⟨g0, i * 6 + 5, none⟩) rfl _⟩⟩
          case measure => simp [intOf]; omega
      · have hjl' : ¬ (j : Int) < l.length := by omega
        obtain rfl : j = l.length := by omega
        obtain ⟨cur, hg1, hnc1, hcm1, hcs1, htk1⟩ := Own.parts H.out.2.1
        have hclr := run_clearK (P := Try.prog) wr 39 23 0 (.agg #[.int .i64 0, .string ⟨#[]⟩, .bool false, .int .i64 0, .int .i64 0, .int .i64 0]) 6 Try.underlying39 zeroEn rfl (by decide) g0 (i * 6) (l.length - i) (s3 - i) (by omega) cur 23 hg1 (by rw [hcs1]; omega)
        obtain ⟨cur3, hc3⟩ : ∃ cur3, cur3 = (cur.toList.take (i * 6) ++ (Builtin.zeroCells (Value.agg #[.int .i64 0, .string ⟨#[]⟩, .bool false, .int .i64 0, .int .i64 0, .int .i64 0]).cells (l.length - i)).toList ++ cur.toList.drop (i * 6 + (l.length - i) * 6)).toArray := ⟨_, rfl⟩
        rw [← hc3] at hclr
        have HCL := Lib.hid hclr
        have hcl0 : cur.toList.length = s3 * 6 := by simp [hcs1]
        have hzl : (Builtin.zeroCells (Value.agg #[.int .i64 0, .string ⟨#[]⟩, .bool false, .int .i64 0, .int .i64 0, .int .i64 0]).cells (l.length - i)).toList.length = (l.length - i) * 6 := by rw [zeroCells_len]; rfl
        have H3 : Hid (cur3.size = s3 * 6 ∧ cur3.toList.take (i * 6) = rowE (l.filter (fun y => !p y)) ∧ (l.filter (fun y => !p y)).length = i) := Lib.hid (by
          refine ⟨?_, ?_, H.out.1.len⟩
          · have := seg_len cur.toList (Builtin.zeroCells (Value.agg #[.int .i64 0, .string ⟨#[]⟩, .bool false, .int .i64 0, .int .i64 0, .int .i64 0]).cells (l.length - i)).toList (i * 6) (by rw [hzl, hcl0]; omega)
            rw [hzl] at this
            rw [hc3, ← hcs1]
            exact List.size_toArray.trans (this.trans Array.length_toList)
          · rw [hc3]
            show List.take _ (_ ++ _ ++ _) = _
            rw [List.append_assoc, List.take_append_of_le_length (by rw [List.length_take, hcl0]; omega), List.take_take, Nat.min_self]
            have h1 := congrArg (List.take (i * 6)) htk1
            rw [List.take_take, Nat.min_eq_left (by omega), rowE_take, H.out.1.f, List.take_of_length_le (Nat.le_refl _)] at h1
            exact h1)
        have HG1 := Lib.hid hg1
        have hl0 : (i : Int) ≤ l.length := by omega
        have hs3 : ¬ s3 = i := by omega
        have hli : ((l.length : Int) - i) = ((l.length - i : Nat) : Int) := by omega
        unfold maxLen at hcm
        clear hcl0 hclr hc3 hzl hg1 hnc1 hcm1 hcs1 htk1
        go_wp2_with (refine wpList_clear_eq HCL.out rfl (.tmp 38) rfl rfl rfl ?_)
        go_ret
        refine ⟨(some ⟨g0, 0, none⟩, i, s3), rfl, ?_, fun k hk => hk, setRow_mdh (S := fun k => (Value.slice (some ⟨g0, 0, none⟩) l.length s3).ownBlock = some k) (H.out.2.2.mono (fun k hk => by subst hk; rfl)) (.inl rfl) _⟩
        rw [H3.out.2.2]
        exact Own.ofParts (setRow_at HG1.out) (show i ≤ s3 by omega) (show s3 ≤ maxLen by unfold maxLen; omega) H3.out.1 H3.out.2.1
  · have HV : Hid (idxV p l = -1) := Lib.hid (by unfold idxV; rw [if_neg hlt])
    have HE := Lib.hid (idxV_none hlt)
    rw [HE.out]
    go_enter Try.func90, Try.ntmps90
    go_wp2_with fail
    refine Calls.mono HIF.out ?_
    rintro e w1 ⟨rfl, hg⟩
    rw [HV.out]
    have HG := Lib.hid hg
    clear hg
    go_wp2
    go_ret
    exact ⟨(s1, l.length, s3), rfl, HO.out.gr HG.out, fun k hk => hk, HG.out.mdh _⟩
end Go.Proofs.Ytiidkehcfoajeaa
