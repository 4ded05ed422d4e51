/- slices.Equal at rows of ints; the examples of chapter 3. -/
import Derived.Test.YtbhkigjmjmfbgaaOmdis
import Derived.Test.YtbhkigjmjmfbgaaBox
import Derived.LoopN
set_option linter.unusedVariables false
set_option linter.unusedSimpArgs false
namespace Go.Proofs.Ytbhkigjmjmfbgaa
open Go.RowKit Go.Shelf
attribute [local go_sem] OvM cell_ovm obj_ovm
attribute [local go_sem] Oper.semAt_some

abbrev iv (x : Int) : Value := .int .i64 x
theorem own_cells {w : World} {t : TypeId} {v : Value} {l : List Value} (h : Own w t 1 v l.length l) : ∃ a cap, v = .slice a l.length cap ∧ l.length ≤ cap ∧ cap ≤ maxLen ∧ ∀ i u, l[i]? = some u → ∃ g, a = some ⟨g, 0, none⟩ ∧ w.cell? ⟨g, i, none⟩ = some u := by
  rcases h.2 with ⟨hv, h0⟩ | ⟨g, cap, cur, hv, _, hg, h1, h2, h3, h4⟩
  · have hL : l = [] := List.eq_nil_of_length_eq_zero h0
    subst hL
    exact ⟨none, 0, hv, Nat.le_refl _, by simp [maxLen], fun i x hx => by simp at hx⟩
  · subst hv
    refine ⟨_, cap, rfl, h1, h2, fun i x hx => ⟨g, rfl, ?_⟩⟩
    have hc := h.cells (g := g) rfl i x hx
    rwa [show (⟨g, 0, none⟩ : Addr).add i = ⟨g, i, none⟩ by unfold Addr.add; split <;> simp_all] at hc

set_option maxRecDepth 40000 in
set_option maxHeartbeats 1000000 in
theorem EqualI (l1 l2 : List Int) (v1 v2 : Value) (w : World) (h1 : Own w 3 1 v1 l1.length (l1.map iv)) (h2 : Own w 3 1 v2 l2.length (l2.map iv)) (hn : l1.length ≤ 1000000) :
    Calls Try.prog 13 #[v1, v2] w fun e w' => e = .returned (.bool (decide (l1 = l2))) ∧ Gr w w' := by
  obtain ⟨a1, cap1, rfl, hc1, hm1, hat1⟩ := own_cells (by rw [List.length_map]; exact h1)
  obtain ⟨a2, cap2, rfl, hc2, hm2, hat2⟩ := own_cells (by rw [List.length_map]; exact h2)
  simp only [List.length_map] at *
  have HA1 := Lib.hid hat1
  have HA2 := Lib.hid hat2
  clear h1 h2 hat1 hat2
  unfold maxLen at hm1 hm2
  by_cases hl : l1.length = l2.length
  · go_enter Try.func13, Try.ntmps13
    rw [← hl]
    rw [← hl] at hc2
    have HL := Lib.hid hl
    clear hl
    go_wp2_with fail
    go_loopw [13] (fun i wx => ∃ k : Nat, k ≤ l1.length ∧ i = .int .i64 k ∧ Gr w wx ∧ Hid (l1.take k = l2.take k)) (fun i _ => l1.length - (intOf i).toNat)
    case atStart => exact ⟨0, by omega, rfl, by (repeat (first | (with_reducible exact Gr.refl _) | assumption | (with_reducible apply Gr.from_drew) | (with_reducible apply Gr.alloc) | (with_reducible apply Gr.drew) | (with_reducible refine Gr.trans ?_ (by assumption)) | (with_reducible refine Gr.setCell ?_ (by omega) _))), Lib.hid (by simp)⟩
    case round =>
      obtain ⟨k, hk, rfl, hg, HT⟩ := hrel
      by_cases hlt : k < l1.length
      · have hlt' : (k : Int) < l1.length := by omega
        have hx : l1[k]? = some (l1[k]'hlt) := List.getElem?_eq_getElem hlt
        have hy : l2[k]? = some (l2[k]'(by rw [← HL.out]; exact hlt)) := List.getElem?_eq_getElem _
        obtain ⟨g, rfl, c0⟩ := HA1.out k _ (by rw [List.getElem?_map, hx]; rfl)
        obtain ⟨g', rfl, c1⟩ := HA2.out k _ (by rw [List.getElem?_map, hy]; rfl)
        have d0 := hg.keep c0
        have d1 := hg.keep c1
        have HX := Lib.hid hx
        have HY := Lib.hid hy
        generalize l1[k]'hlt = x at *
        generalize l2[k]'(by rw [← HL.out]; exact hlt) = y at *
        clear c0 c1 hx hy
        by_cases hxy : x = y
        · subst hxy
          go_wp2
          refine wp_region_flo (fun _ => False) [] [] (by kernel_rfl) (by kernel_rfl) (fun _ h => h.elim) ?_
          refine flo_seg 9 rfl ?_
          simp only [List.take_succ_cons, List.take_zero, List.drop_succ_cons, List.drop_zero]
          repeat (go_big_quiet_step (fail))
          refine wpQuiet_nil ?_
          refine flo_nil ?_
          go_wp2
          go_roundw
          case rel => exact ⟨k + 1, by omega, by go_num, by (repeat (first | (with_reducible exact Gr.refl _) | assumption | (with_reducible apply Gr.from_drew) | (with_reducible apply Gr.alloc) | (with_reducible apply Gr.drew) | (with_reducible refine Gr.trans ?_ (by assumption)) | (with_reducible refine Gr.setCell ?_ (by omega) _))), Lib.hid (by rw [List.take_add_one, List.take_add_one, HT.out, HX.out, HY.out])⟩
          case measure => simp [intOf]; omega
        · have hb := beq_false_of_ne hxy
          have HNE : Hid (decide (l1 = l2) = false) := Lib.hid (by
            apply decide_eq_false
            rintro rfl
            rw [HX.out] at HY
            exact hxy (Option.some.inj HY.out))
          go_wp2
          refine wp_region_flo (fun _ => False) [] [] (by kernel_rfl) (by kernel_rfl) (fun _ h => h.elim) ?_
          refine flo_seg 9 rfl ?_
          simp only [List.take_succ_cons, List.take_zero, List.drop_succ_cons, List.drop_zero]
          repeat (go_big_quiet_step (fail))
          refine wpQuiet_nil ?_
          refine flo_nil ?_
          go_wp2
          go_ret
          exact ⟨by rw [HNE.out]; rfl, by (repeat (first | (with_reducible exact Gr.refl _) | assumption | (with_reducible apply Gr.from_drew) | (with_reducible apply Gr.alloc) | (with_reducible apply Gr.drew) | (with_reducible refine Gr.trans ?_ (by assumption)) | (with_reducible refine Gr.setCell ?_ (by omega) _)))⟩
      · have hlt' : ¬ (k : Int) < l1.length := by omega
        have HEQ : Hid (decide (l1 = l2) = true) := Lib.hid (by
          apply decide_eq_true
          have := HT.out
          rwa [List.take_of_length_le (by omega), List.take_of_length_le (by have := HL.out; omega)] at this)
        go_wp2
        go_ret
        exact ⟨by rw [HEQ.out]; rfl, hg⟩
  · have HNE : Hid (decide (l1 = l2) = false) := Lib.hid (decide_eq_false (fun e => hl (by rw [e])))
    have hb : ((l1.length : Int) == l2.length) = false := beq_false_of_ne (by omega)
    rw [HNE.out]
    go_enter Try.func13, Try.ntmps13
    go_wp2
    go_ret
    exact ⟨rfl, Gr.refl w⟩

theorem box1 {w : World} {b : Nat} {v : Value} {t : TypeId} (h : w.heap[b]? = some (.cells #[v] t)) : w.cell? ⟨b, 0, none⟩ = some v ∧ ∀ j, w.frozen? ⟨b, j, none⟩ = false :=
  ⟨by rw [(cellsOf h).1]; rfl, (cellsOf h).2⟩
theorem own_val {w : World} {t : TypeId} {v : Value} {n : Nat} {xs : List Value} (h : Own w t 1 v n xs) : ∃ a cap, v = .slice a n cap ∧ n ≤ cap ∧ cap ≤ maxLen := by
  rcases h.2 with ⟨rfl, rfl⟩ | ⟨g, cap, cur, rfl, _, _, h1, h2, _⟩
  · exact ⟨none, 0, rfl, Nat.le_refl _, by simp [maxLen]⟩
  · exact ⟨_, cap, rfl, h1, h2⟩
theorem Try.infoInt : (Try.prog.info? 3).map (fun i => (i.zero, i.size, i.bytes)) = some (some (.int .i64 0), 1, 8) := by kernel_rfl
theorem news1 (w1 : World) (x : Value) (t : TypeId) : ∀ j u, [x][j]? = some u → (w1.alloc (.cells #[x] t)).cell? ((⟨w1.heap.size, 0, none⟩ : Addr).add j) = some u := by
  intro j u hj
  match j with
  | 0 => simp at hj; subst hj; simp [go_sem, Addr.add]
  | j + 1 => simp at hj

theorem OMWis.touch {w0 w w' : World} {b q : Nat} {o : Obj} {L : List Itis} {K : List (Nat × Obj)} (h : OMWis w0 w b L ((q, o) :: K)) (m : Mdh (fun k => k = q) w w') (hq : w0.heap.size ≤ q) (hK : ∀ r ∈ K, r.1 ≠ q) : OMWis w0 w' b L K := by
  obtain ⟨v, h1, h2, h3, h4, h5⟩ := h
  have hn := (h5 _ (List.mem_cons_self)).2
  refine ⟨v, h1.mdh m (fun k hk e => hn (by subst e; exact hk.elim (fun e => .inl ⟨_, rfl, e⟩) .inr)), h2, h3, h4.md m (fun k hk => by rw [hk]; exact hq), fun r hr => ?_⟩
  obtain ⟨a1, a2⟩ := h5 r (List.mem_cons_of_mem _ hr)
  exact ⟨m.blk a1 (hK r hr), a2⟩
theorem AtW {w0 w : World} {b : Nat} {L : List Itis} {K : List (Nat × Obj)} (i : Int) (h : OMWis w0 w b L K) :
    Calls Try.prog 63 #[.pointer (some ⟨b, 0, none⟩), .int .i64 i] w fun e w' => e = .returned (atEis (some ⟨b, 0, none⟩) true (atO _ L i)) ∧ Gr w w' :=
  let ⟨v, h1, _⟩ := h; Atis b v L i w h1

set_option maxRecDepth 40000 in
set_option maxHeartbeats 8000000 in
theorem works_any (w : World) : Calls Try.prog 18 #[] w fun e w' => e = .returned (.bool true) ∧ Gr w w' := by
  obtain ⟨i0, hi, hz0, hz1, hz2⟩ := info_parts Try.infoInt
  refine calls_of_wp_marks Try.func18 rfl ?_
  simp only [Try.ntmps18, List.size_toArray, List.length_cons, List.length_nil, Nat.reduceAdd, Nat.reduceSub, Array.replicate_succ, Array.replicate_zero, List.push_toArray, List.append_toArray, List.nil_append, List.cons_append]
  go_wp2_with fail
  refine (NewWis w w (Gr.refl w)).mono ?_
  rintro e w1 ⟨b, rfl, h1⟩
  have H0 := Lib.hid (h1.keep (.cells #[.int .i64 5, .string ⟨#[97]⟩, .string ⟨#[]⟩, .bool false, .int .i64 2, .string ⟨#[98]⟩, .string ⟨#[]⟩, .bool false, .int .i64 9, .string ⟨#[99]⟩, .string ⟨#[]⟩, .bool false, .int .i64 5, .string ⟨#[100]⟩, .string ⟨#[97]⟩, .bool true] 113))
  clear h1
  go_wp2_with fail
  generalize w1.alloc (.cells #[.int .i64 5, .string ⟨#[97]⟩, .string ⟨#[]⟩, .bool false, .int .i64 2, .string ⟨#[98]⟩, .string ⟨#[]⟩, .bool false, .int .i64 9, .string ⟨#[99]⟩, .string ⟨#[]⟩, .bool false, .int .i64 5, .string ⟨#[100]⟩, .string ⟨#[97]⟩, .bool true] 113) = v0 at *
  generalize w1.heap.size = bl at *
  refine wp_loop_rounds 5 ?_
  rw [rounds_succ]
  have bk := H0.out.kept (List.mem_cons_self)
  have c0 := ((cellsOf bk).1 0).trans (show _ = some (Value.int .i64 5) from rfl)
  have c1 := ((cellsOf bk).1 1).trans (show _ = some (Value.string ⟨#[97]⟩) from rfl)
  have c2 := ((cellsOf bk).1 2).trans (show _ = some (Value.string ⟨#[]⟩) from rfl)
  have c3 := ((cellsOf bk).1 3).trans (show _ = some (Value.bool false) from rfl)
  clear bk
  go_wp2_with fail
  refine (SetWis 5 ⟨#[97]⟩ (H0.out.keep (.cells #[.int .i64 5, .string ⟨#[97]⟩, .string ⟨#[]⟩, .bool false] 113)) (by decide)).mono ?_
  rintro e u0 ⟨rfl, hs⟩
  rw [show lookVis ([] : List Itis) 5 = .string ⟨#[]⟩ from rfl, show hasBis ([] : List Itis) 5 = false from rfl]
  have bk := hs.kept (List.mem_cons_self)
  have d2 := ((cellsOf bk).1 2).trans (show _ = some (Value.string ⟨#[]⟩) from rfl)
  have d3 := ((cellsOf bk).1 3).trans (show _ = some (Value.bool false) from rfl)
  have H1 : Hid (OMWis w u0 b ([(5, ⟨#[97]⟩)] : List Itis) [(bl, (.cells #[.int .i64 5, .string ⟨#[97]⟩, .string ⟨#[]⟩, .bool false, .int .i64 2, .string ⟨#[98]⟩, .string ⟨#[]⟩, .bool false, .int .i64 9, .string ⟨#[99]⟩, .string ⟨#[]⟩, .bool false, .int .i64 5, .string ⟨#[100]⟩, .string ⟨#[97]⟩, .bool true] 113))]) := Lib.hid (hs.drop _ (fun q hq => List.mem_cons_of_mem _ hq))
  clear bk hs c0 c1 c2 c3
  go_wp2_with fail
  clear d2 d3
  rw [rounds_succ]
  have bk := H1.out.kept (List.mem_cons_self)
  have c0 := ((cellsOf bk).1 4).trans (show _ = some (Value.int .i64 2) from rfl)
  have c1 := ((cellsOf bk).1 5).trans (show _ = some (Value.string ⟨#[98]⟩) from rfl)
  have c2 := ((cellsOf bk).1 6).trans (show _ = some (Value.string ⟨#[]⟩) from rfl)
  have c3 := ((cellsOf bk).1 7).trans (show _ = some (Value.bool false) from rfl)
  clear bk
  go_wp2_with fail
  refine (SetWis 2 ⟨#[98]⟩ (H1.out.keep (.cells #[.int .i64 2, .string ⟨#[98]⟩, .string ⟨#[]⟩, .bool false] 113)) (by decide)).mono ?_
  rintro e u1 ⟨rfl, hs⟩
  rw [show lookVis ([(5, ⟨#[97]⟩)] : List Itis) 2 = .string ⟨#[]⟩ from rfl, show hasBis ([(5, ⟨#[97]⟩)] : List Itis) 2 = false from rfl]
  have bk := hs.kept (List.mem_cons_self)
  have d2 := ((cellsOf bk).1 2).trans (show _ = some (Value.string ⟨#[]⟩) from rfl)
  have d3 := ((cellsOf bk).1 3).trans (show _ = some (Value.bool false) from rfl)
  have H2 : Hid (OMWis w u1 b ([(2, ⟨#[98]⟩), (5, ⟨#[97]⟩)] : List Itis) [(bl, (.cells #[.int .i64 5, .string ⟨#[97]⟩, .string ⟨#[]⟩, .bool false, .int .i64 2, .string ⟨#[98]⟩, .string ⟨#[]⟩, .bool false, .int .i64 9, .string ⟨#[99]⟩, .string ⟨#[]⟩, .bool false, .int .i64 5, .string ⟨#[100]⟩, .string ⟨#[97]⟩, .bool true] 113))]) := Lib.hid (hs.drop _ (fun q hq => List.mem_cons_of_mem _ hq))
  clear bk hs c0 c1 c2 c3
  go_wp2_with fail
  clear d2 d3
  rw [rounds_succ]
  have bk := H2.out.kept (List.mem_cons_self)
  have c0 := ((cellsOf bk).1 8).trans (show _ = some (Value.int .i64 9) from rfl)
  have c1 := ((cellsOf bk).1 9).trans (show _ = some (Value.string ⟨#[99]⟩) from rfl)
  have c2 := ((cellsOf bk).1 10).trans (show _ = some (Value.string ⟨#[]⟩) from rfl)
  have c3 := ((cellsOf bk).1 11).trans (show _ = some (Value.bool false) from rfl)
  clear bk
  go_wp2_with fail
  refine (SetWis 9 ⟨#[99]⟩ (H2.out.keep (.cells #[.int .i64 9, .string ⟨#[99]⟩, .string ⟨#[]⟩, .bool false] 113)) (by decide)).mono ?_
  rintro e u2 ⟨rfl, hs⟩
  rw [show lookVis ([(2, ⟨#[98]⟩), (5, ⟨#[97]⟩)] : List Itis) 9 = .string ⟨#[]⟩ from rfl, show hasBis ([(2, ⟨#[98]⟩), (5, ⟨#[97]⟩)] : List Itis) 9 = false from rfl]
  have bk := hs.kept (List.mem_cons_self)
  have d2 := ((cellsOf bk).1 2).trans (show _ = some (Value.string ⟨#[]⟩) from rfl)
  have d3 := ((cellsOf bk).1 3).trans (show _ = some (Value.bool false) from rfl)
  have H3 : Hid (OMWis w u2 b ([(2, ⟨#[98]⟩), (5, ⟨#[97]⟩), (9, ⟨#[99]⟩)] : List Itis) [(bl, (.cells #[.int .i64 5, .string ⟨#[97]⟩, .string ⟨#[]⟩, .bool false, .int .i64 2, .string ⟨#[98]⟩, .string ⟨#[]⟩, .bool false, .int .i64 9, .string ⟨#[99]⟩, .string ⟨#[]⟩, .bool false, .int .i64 5, .string ⟨#[100]⟩, .string ⟨#[97]⟩, .bool true] 113))]) := Lib.hid (hs.drop _ (fun q hq => List.mem_cons_of_mem _ hq))
  clear bk hs c0 c1 c2 c3
  go_wp2_with fail
  clear d2 d3
  rw [rounds_succ]
  have bk := H3.out.kept (List.mem_cons_self)
  have c0 := ((cellsOf bk).1 12).trans (show _ = some (Value.int .i64 5) from rfl)
  have c1 := ((cellsOf bk).1 13).trans (show _ = some (Value.string ⟨#[100]⟩) from rfl)
  have c2 := ((cellsOf bk).1 14).trans (show _ = some (Value.string ⟨#[97]⟩) from rfl)
  have c3 := ((cellsOf bk).1 15).trans (show _ = some (Value.bool true) from rfl)
  clear bk
  go_wp2_with fail
  refine (SetWis 5 ⟨#[100]⟩ (H3.out.keep (.cells #[.int .i64 5, .string ⟨#[100]⟩, .string ⟨#[97]⟩, .bool true] 113)) (by decide)).mono ?_
  rintro e u3 ⟨rfl, hs⟩
  rw [show lookVis ([(2, ⟨#[98]⟩), (5, ⟨#[97]⟩), (9, ⟨#[99]⟩)] : List Itis) 5 = .string ⟨#[97]⟩ from rfl, show hasBis ([(2, ⟨#[98]⟩), (5, ⟨#[97]⟩), (9, ⟨#[99]⟩)] : List Itis) 5 = true from rfl]
  have bk := hs.kept (List.mem_cons_self)
  have d2 := ((cellsOf bk).1 2).trans (show _ = some (Value.string ⟨#[97]⟩) from rfl)
  have d3 := ((cellsOf bk).1 3).trans (show _ = some (Value.bool true) from rfl)
  have H4 : Hid (OMWis w u3 b ([(2, ⟨#[98]⟩), (5, ⟨#[100]⟩), (9, ⟨#[99]⟩)] : List Itis) [(bl, (.cells #[.int .i64 5, .string ⟨#[97]⟩, .string ⟨#[]⟩, .bool false, .int .i64 2, .string ⟨#[98]⟩, .string ⟨#[]⟩, .bool false, .int .i64 9, .string ⟨#[99]⟩, .string ⟨#[]⟩, .bool false, .int .i64 5, .string ⟨#[100]⟩, .string ⟨#[97]⟩, .bool true] 113))]) := Lib.hid (hs.drop _ (fun q hq => List.mem_cons_of_mem _ hq))
  clear bk hs c0 c1 c2 c3
  go_wp2_with fail
  clear d2 d3
  rw [rounds_succ]
  go_wp2_with fail
  have H4' := Lib.hid (H4.out.drop [] (fun q hq => by cases hq))
  clear H0 H1 H2 H3 H4
  have H4 := H4'
  clear H4'
  obtain ⟨vv, hv⟩ := H4.out.vw
  refine (Flooris _ vv ([(2, ⟨#[98]⟩), (5, ⟨#[100]⟩), (9, ⟨#[99]⟩)] : List Itis) 4 _ hv (by decide)).mono ?_
  rintro e u4 ⟨rfl, hg⟩
  rw [show atVis (atO _ ([(2, ⟨#[98]⟩), (5, ⟨#[100]⟩), (9, ⟨#[99]⟩)] : List Itis) ((up ltZ ([(2, ⟨#[98]⟩), (5, ⟨#[100]⟩), (9, ⟨#[99]⟩)] : List Itis) 4 : Nat) - 1)) = .tuple #[.int .i64 2, .string ⟨#[98]⟩, .bool true] from rfl]
  have H5 := Lib.hid (H4.out.gr hg)
  clear hg hv H4
  go_wp2_with fail
  obtain ⟨vv, hv⟩ := H5.out.vw
  refine (Ceilis _ vv ([(2, ⟨#[98]⟩), (5, ⟨#[100]⟩), (9, ⟨#[99]⟩)] : List Itis) 4 _ hv (by decide)).mono ?_
  rintro e u5 ⟨rfl, hg⟩
  rw [show atVis (([(2, ⟨#[98]⟩), (5, ⟨#[100]⟩), (9, ⟨#[99]⟩)] : List Itis)[rk ltZ ([(2, ⟨#[98]⟩), (5, ⟨#[100]⟩), (9, ⟨#[99]⟩)] : List Itis) 4]?) = .tuple #[.int .i64 5, .string ⟨#[100]⟩, .bool true] from rfl]
  have H6 := Lib.hid (H5.out.gr hg)
  clear hg hv H5
  go_wp2_with fail
  obtain ⟨vv, hv⟩ := H6.out.vw
  refine (Flooris _ vv ([(2, ⟨#[98]⟩), (5, ⟨#[100]⟩), (9, ⟨#[99]⟩)] : List Itis) 1 _ hv (by decide)).mono ?_
  rintro e u6 ⟨rfl, hg⟩
  rw [show atVis (atO _ ([(2, ⟨#[98]⟩), (5, ⟨#[100]⟩), (9, ⟨#[99]⟩)] : List Itis) ((up ltZ ([(2, ⟨#[98]⟩), (5, ⟨#[100]⟩), (9, ⟨#[99]⟩)] : List Itis) 1 : Nat) - 1)) = .tuple #[.int .i64 0, .string ⟨#[]⟩, .bool false] from rfl]
  have H7 := Lib.hid (H6.out.gr hg)
  clear hg hv H6
  go_wp2_with fail
  obtain ⟨vv, hv⟩ := H7.out.vw
  refine (Ceilis _ vv ([(2, ⟨#[98]⟩), (5, ⟨#[100]⟩), (9, ⟨#[99]⟩)] : List Itis) 10 _ hv (by decide)).mono ?_
  rintro e u7 ⟨rfl, hg⟩
  rw [show atVis (([(2, ⟨#[98]⟩), (5, ⟨#[100]⟩), (9, ⟨#[99]⟩)] : List Itis)[rk ltZ ([(2, ⟨#[98]⟩), (5, ⟨#[100]⟩), (9, ⟨#[99]⟩)] : List Itis) 10]?) = .tuple #[.int .i64 0, .string ⟨#[]⟩, .bool false] from rfl]
  have H8 := Lib.hid (H7.out.gr hg)
  clear hg hv H7
  go_wp2_with fail
  obtain ⟨vv, hv⟩ := H8.out.vw
  refine (AtW 2 H8.out).mono ?_
  rintro e u8 ⟨rfl, hg⟩
  rw [show atEis (some ⟨b, 0, none⟩) true (atO _ ([(2, ⟨#[98]⟩), (5, ⟨#[100]⟩), (9, ⟨#[99]⟩)] : List Itis) 2) = .tuple #[.int .i64 9, .string ⟨#[99]⟩, .int .i64 0] from rfl]
  have H9 := Lib.hid (H8.out.gr hg)
  clear hg hv H8
  go_wp2_with fail
  obtain ⟨vv, hv⟩ := H9.out.vw
  refine (AtW 3 H9.out).mono ?_
  rintro e u9 ⟨rfl, hg⟩
  rw [show atEis (some ⟨b, 0, none⟩) true (atO _ ([(2, ⟨#[98]⟩), (5, ⟨#[100]⟩), (9, ⟨#[99]⟩)] : List Itis) 3) = .tuple #[.int .i64 0, .string ⟨#[]⟩, .int .i64 3] from rfl]
  have H10 := Lib.hid (H9.out.gr hg)
  clear hg hv H9
  go_wp2_with fail
  have H11 := Lib.hid (H10.out.keep (.cells #[.slice none 0 0] 30))
  have hb9 : w.heap.size ≤ u9.heap.size := H10.out.g.sz
  generalize hU : u9.alloc (.cells #[.slice none 0 0] 30) = v9 at *
  have hz9 : u9.heap.size < v9.heap.size := by rw [← hU]; simp
  generalize u9.heap.size = b25 at *
  clear H10 hU
  refine (FromOis _ 3 _).mono ?_
  rintro e u10 ⟨bb, bk, rfl, hbb, hbk, hbb2, hbk2, hg⟩
  have H12 := Lib.hid (H11.out.gr hg)
  clear H11 hg
  go_wp2_with fail
  refine (yieldsTwois _ _ _).mono ?_
  rintro e u11 ⟨rfl, rfl⟩
  obtain ⟨u10, rfl⟩ : ∃ x, x = u10 := ⟨_, rfl⟩
  obtain ⟨v, hom, hbw, hvw, hgw, hK⟩ := H12.out
  obtain ⟨hbox, hnb⟩ := hK _ List.mem_cons_self
  simp only at hbox hnb
  have HV : Hid (VWis u10 (some ⟨b, 0, none⟩) v ([(2, ⟨#[98]⟩), (5, ⟨#[100]⟩), (9, ⟨#[99]⟩)] : List Itis)) := Lib.hid (.inl ⟨b, rfl, hom⟩)
  have HNA : Hid (¬ (b25 = bb ∨ b25 = bk ∨ OMB (some ⟨b, 0, none⟩) v b25)) := Lib.hid (by rintro (h | h | h); omega; omega; exact hnb h)
  have HLT : Hid (∀ k, (k = bb ∨ k = bk ∨ OMB (some ⟨b, 0, none⟩) v k) → k < u10.heap.size) := Lib.hid (by
    rintro k (h | h | h)
    · rw [h]; exact World.block_lt_of_cell? u10 ⟨bb, 0, none⟩ hbb
    · rw [h]; exact World.block_lt_of_cell? u10 ⟨bk, 0, none⟩ hbk
    · exact HV.out.lt k h)
  have HOM := Lib.hid hom
  have HW := Lib.hid (And.intro hbw (And.intro hvw hgw))
  have hb25w : w.heap.size ≤ b25 ∧ b25 < u10.heap.size := ⟨hb9, blkLt hbox⟩
  clear hom hbw hvw hgw hK hnb H12
  go_wp2_with fail
  apply wp_rangeFunc_zb (gf := 121) (lb := #[.pointer (some ⟨bb, 0, none⟩), .pointer (some ⟨bk, 0, none⟩)]) rfl (enters_of Try.func121 (by kernel_rfl) rfl)
    (SeqFis (some ⟨b, 0, none⟩) v ([(2, ⟨#[98]⟩), (5, ⟨#[100]⟩), (9, ⟨#[99]⟩)] : List Itis) 3 (by decide) bb bk u10 HV.out hbb hbk) (Mdh.refl _ u10) HLT.out (fun _ => rfl)
    (fun Z pre W => (∃ v2, BoxRow W Z b25 30 3 v2 (pre.map fun x => .int .i64 x.1) ∧ (∀ g, v2.ownBlock = some g → u10.heap.size ≤ g)) ∧ Frm u10 (fun k => k = b25) Z W)
    (fun _ _ _ => False) (fun _ _ _ => False)
    ((Apart.ex fun v2 => (BoxRow.apart _ _ _ v2 _).and (Apart.pure _)).and (Frm.apart _ _)) apart_no apart_no
    ⟨⟨_, ⟨hbox, fun h => h, ⟨rfl, .inl ⟨rfl, rfl⟩⟩, fun g hg => by cases hg⟩, fun g hg => by cases hg⟩, Frm.refl _ _⟩
    _ ?assign ?body ?hend ?hret
  case assign =>
    intro l x W K hK
    dsimp only [encOis]
    gi_wp2
    exact hK
  case hret => intro _ _ _ _ _ _ _ h; exact h.elim
  case body =>
    intro l Z pre x W hI hsp
    obtain ⟨⟨v2, hB, hgr⟩, hF⟩ := hI
    obtain ⟨av, capv, hv, hle1, hcap1⟩ := own_val hB.own
    rw [List.length_map] at hv hle1
    subst hv
    have hpl : pre.length < 3 := by have := hsp.length_le; simp at this; omega
    have HB := Lib.hid hB
    have HF := Lib.hid hF
    have HGR := Lib.hid hgr
    have HT : Hid (∀ k, Z k → k < W.heap.size) := Lib.hid hF.t
    have c10 := hB.cell
    have f10 := hB.fr
    clear hB hF hgr
    unfold maxLen at hcap1
    have hg0 : Gr W (W.alloc (.cells #[.int .i64 x.1] 3)) := (Gr.refl W).alloc _
    gi_wp2_with (gi_at_builtin; go_must (refine wpListIn_app _ rfl (.tmp 109) (.tmp 111) 30 rfl 3 i0 _ 1 8 Try.underlying30 hi hz0 hz1 hz2 rfl (by decide) (.slice av pre.length capv) _ _ rfl (HB.out.own.gr hg0) ⟨W.heap.size, 0, none⟩ 1 1 [.int .i64 x.1] rfl rfl (news1 _ _ _) (by simp [Value.oneCell']) (by decide) (by simp only [maxLen]; simp; omega) (by simp; omega) ?_); intro g capg w4 hown hwh hgrow; obtain ⟨c4, f4⟩ := box1 (HB.out.at2 hg0 hgrow); have HA := Lib.hid (HB.out.app HT.out hg0 hown hwh hgrow); simp only [List.length_map] at HA; have HWH := Lib.hid hwh; clear hown hwh hgrow)
    refine ⟨HA.out.2.mono (fun k hk => ?_), ⟨_, by rw [List.map_append]; exact HA.out.1, fun g' hg' => ?_⟩, HF.out.step HA.out.2 (fun k hk => ?_)⟩
    · rcases hk with rfl | hk
      · exact ⟨HNA.out, HB.out.nz⟩
      · exact ⟨fun h => by have := HLT.out _ h; have := HGR.out k hk; omega, (HB.out.rz k hk).1⟩
    · obtain rfl : g = g' := by simpa [Value.ownBlock] using hg'
      rcases HWH.out with h | h
      · exact HGR.out _ h
      · have := HF.out.m.size; simp at h; omega
    · rcases hk with rfl | hk
      · exact .inl rfl
      · exact .inr (HGR.out k hk)
  case hend =>
    intro Z D xs W hD hZD hcase hdef
    obtain ⟨hxs, ⟨v2, hB, hgr⟩, hF⟩ := hcase.elim (fun h => h) (fun h => h.2.elim)
    have hxs' : xs = [(5, ⟨#[100]⟩), (9, ⟨#[99]⟩)] := hxs
    subst hxs'
    have hm := hF.m
    obtain ⟨g25, cap25, cur, rfl, hgc, hcl⟩ : ∃ g cap, ∃ cur : Array Value, v2 = .slice (some ⟨g, 0, none⟩) 2 cap ∧ W.heap[g]? = some (.cells cur 3 (0, 0)) ∧ (2 ≤ cap ∧ cap ≤ maxLen ∧ cur.size = cap * 1 ∧ cur.toList.take (2 * 1) = [.int .i64 5, .int .i64 9]) := by
      rcases hB.own.2 with ⟨_, h⟩ | ⟨g, cap, cur, hv, _, h1, h2⟩
      · simp at h
      · exact ⟨g, cap, cur, hv, h1, h2⟩
    have hg25 := hgr g25 rfl
    have H13 : Hid (OMWis w W b ([(2, ⟨#[98]⟩), (5, ⟨#[100]⟩), (9, ⟨#[99]⟩)] : List Itis) [(b25, .cells #[.slice (some ⟨g25, 0, none⟩) 2 cap25] 30), (g25, .cells cur 3), (D, .deferred (some []))]) := Lib.hid (by
      have hom := HOM.out.mdh hm (fun k hk e => HNA.out (by subst e; exact .inr (.inr (hk.elim (fun e => .inl ⟨_, rfl, e⟩) .inr))))
      refine ⟨v, hom, HW.out.1, HW.out.2.1, HW.out.2.2.md hm (fun k hk => by rw [hk]; exact hb25w.1), fun q hq => ?_⟩
      simp only [List.mem_cons, List.not_mem_nil, or_false] at hq
      rcases hq with rfl | rfl | rfl
      · exact ⟨hB.box, fun h => HNA.out (.inr (.inr h))⟩
      · exact ⟨hgc, fun h => by have := HLT.out _ (.inr (.inr h)); simp only at this; omega⟩
      · exact ⟨hdef, fun h => by have := HLT.out _ (.inr (.inr h)); simp only at this; omega⟩)
    have HC := Lib.hid hcl
    have hDw : w.heap.size ≤ D := by omega
    clear hcase hxs hB hgr hF hm hgc hcl hdef hZD hbb hbk hbox
    dsimp only
    go_wp2_with fail
    refine (DeleteWis 2 H13.out (by decide)).mono ?_
    rintro e x1 ⟨rfl, hs⟩
    rw [show lookVis ([(2, ⟨#[98]⟩), (5, ⟨#[100]⟩), (9, ⟨#[99]⟩)] : List Itis) 2 = .string ⟨#[98]⟩ from rfl, show hasBis ([(2, ⟨#[98]⟩), (5, ⟨#[100]⟩), (9, ⟨#[99]⟩)] : List Itis) 2 = true from rfl]
    have H14 : Hid (OMWis w x1 b ([(5, ⟨#[100]⟩), (9, ⟨#[99]⟩)] : List Itis) [(b25, .cells #[.slice (some ⟨g25, 0, none⟩) 2 cap25] 30), (g25, .cells cur 3), (D, .deferred (some []))]) := Lib.hid hs
    clear hs H13
    go_wp2_with fail
    obtain ⟨vv, hv⟩ := H14.out.vw
    refine (Minis _ vv ([(5, ⟨#[100]⟩), (9, ⟨#[99]⟩)] : List Itis) _ hv (by decide)).mono ?_
    rintro e x2 ⟨rfl, hg⟩
    rw [show atVis (atO _ ([(5, ⟨#[100]⟩), (9, ⟨#[99]⟩)] : List Itis) 0) = .tuple #[.int .i64 5, .string ⟨#[100]⟩, .bool true] from rfl]
    have H15 := Lib.hid (H14.out.gr hg)
    clear hg hv H14
    go_wp2_with fail
    obtain ⟨vv, hv⟩ := H15.out.vw
    refine (Rankis _ vv ([(5, ⟨#[100]⟩), (9, ⟨#[99]⟩)] : List Itis) 100 _ hv (by decide)).mono ?_
    rintro e x3 ⟨rfl, hg⟩
    rw [show rk ltZ ([(5, ⟨#[100]⟩), (9, ⟨#[99]⟩)] : List Itis) 100 = 2 from rfl]
    have H16 := Lib.hid (H15.out.gr hg)
    have c25 := (box1 (H16.out.kept List.mem_cons_self)).1
    clear hg hv H15
    go_wp2_with fail
    refine (EqualI [5, 9] [5, 9] _ _ _ ((Own.ofParts (H16.out.kept (List.mem_cons_of_mem _ List.mem_cons_self)) HC.out.1 HC.out.2.1 HC.out.2.2.1 HC.out.2.2.2).gr (by (repeat (first | (with_reducible exact Gr.refl _) | assumption | (with_reducible apply Gr.from_drew) | (with_reducible apply Gr.alloc) | (with_reducible apply Gr.drew) | (with_reducible refine Gr.trans ?_ (by assumption)) | (with_reducible refine Gr.setCell ?_ (by omega) _))))) (Own.ofParts (cur := #[.int .i64 5, .int .i64 9]) (blkNew x3 _) (Nat.le_refl 2) (by simp [maxLen]) rfl rfl) (by decide)).mono ?_
    rintro e x4 ⟨rfl, hg⟩
    rw [show decide (([5, 9] : List Int) = [5, 9]) = true from rfl]
    have H17 := Lib.hid (H16.out.gr ((Gr.alloc (Gr.refl x3) _).trans hg))
    clear hg c25
    go_wp2_with fail
    obtain ⟨vv, hv⟩ := H17.out.vw
    refine (Lenis _ vv ([(5, ⟨#[100]⟩), (9, ⟨#[99]⟩)] : List Itis) _ hv).mono ?_
    rintro e x5 ⟨rfl, rfl⟩
    clear hv
    go_wp2_with fail
    have hd := H17.out.kept (List.mem_cons_of_mem _ (List.mem_cons_of_mem _ List.mem_cons_self))
    refine retM1 (D := D) (v := .bool true) rfl hd ?_ ⟨rfl, H17.out.g.putObj hDw _⟩
    simp [results, Try.results18, go_sem]
end Go.Proofs.Ytbhkigjmjmfbgaa
