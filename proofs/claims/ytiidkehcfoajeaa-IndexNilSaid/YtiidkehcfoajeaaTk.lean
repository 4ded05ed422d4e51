/- drumlinlaw21.take: the first elements of an iterator, in a row. -/
import Derived.Test.YtiidkehcfoajeaaIxz
set_option linter.unusedVariables false
set_option linter.unusedSimpArgs false
namespace Go.Proofs.Ytiidkehcfoajeaa
open Go.RowKit Go.Shelf
attribute [local go_sem] OvM cell_ovm obj_ovm
attribute [local go_sem] Oper.semAt_some

theorem info_str : (Try.prog.info? 9).map (fun i => (i.zero, i.size, i.bytes)) = some (some (.string ⟨#[]⟩), 1, 16) := by kernel_rfl
theorem rowE_snoc (l : List En) (x : En) : rowE (l ++ [x]) = rowE l ++ enC x := by rw [rowE_app]; simp [rowE]
theorem enC_one (x : En) : ∀ u ∈ enC x, u.oneCell' = true := fun u hu => rowE_one [x] u (by simpa [rowE] using hu)
theorem take_pre {α : Type} {n : Nat} {pre L : List α} (h : pre <+: L) (hn : pre.length = n) : pre = L.take n := by
  obtain ⟨t, rfl⟩ := h
  rw [← hn, List.take_left']
  rfl
def kS (l : List ByteArray) : List Value := l.map Value.string
set_option maxRecDepth 40000 in
set_option maxHeartbeats 4000000 in
theorem TakeE {gf : Nat} {lb : Array Value} {A : Nat → Prop} {L : List En} {w : World} (eg : ∀ args w, (callFunc gf args).run Try.prog w = .ok (.enter gf args) w) (hseq : SeqZ Fence.wide 2 Try.prog gf lb encE A (fun xs => xs = L) (fun pre => pre <+: L) w) (hA : ∀ k, A k → k < w.heap.size) :
    Calls Try.prog 32 #[.func (.func gf) #[] lb] w fun e w' => ∃ v, e = .returned v ∧ Nw w w' 23 6 v (L.take 5000).length (rowE (L.take 5000)) ∧ Gr w w' := by
  obtain ⟨i0, hi, hz0, hz1, hz2⟩ := info_parts infoIten
  have k1 : ∀ w : World, (binOp .eql 66 (.func (.func gf) #[] lb) .nilFunc).run Try.prog w = .ok (.bool false) w := fun w => by kernel_rfl
  have HSEQ := Lib.hid hseq
  have HA := Lib.hid hA
  have HEG := Lib.hid eg
  clear hseq hA eg
  refine calls_of_wp_marks Try.func32 rfl ?_
  simp only [Try.ntmps32, List.size_toArray, List.length_cons, List.length_nil, Nat.reduceAdd, Nat.reduceSub, Array.replicate_succ, Array.replicate_zero, List.push_toArray, List.append_toArray, List.nil_append, List.cons_append]
  go_wp2_with fail
  obtain ⟨b, hb⟩ : ∃ q, q = w.heap.size := ⟨_, rfl⟩
  obtain ⟨w1, hw1⟩ : ∃ y, y = w.alloc (.cells #[.slice none 0 0] 39) := ⟨_, rfl⟩
  have HG1 : Hid (Gr w w1) := Lib.hid (by rw [hw1]; exact (Gr.refl w).alloc _)
  have HAL : Hid (∀ k, A k → k < w1.heap.size) := Lib.hid (fun k hk => by have := HA.out k hk; have := HG1.out.sz; omega)
  have HZ : Hid (SWz w w1 A [blkA b (.cells #[.slice none 0 0] 39), rowA 23 6 (.slice none 0 0) 0 []] (fun _ => False) w1) := Lib.hid (by
    have h1 : SW w [rowA 23 6 (.slice none 0 0) 0 []] w := (SW.start w).new (Gr.refl _) (nilRow _ _ _) (fun k hk => by cases hk)
    have h2 := h1.alloc (.cells #[.slice none 0 0] 39)
    rw [← hw1, ← hb] at h2
    refine SWz.start h2 (fun B hB k hk ha => ?_)
    have := h2.n B hB k hk
    have := HA.out k ha
    omega)
  rw [← hw1, ← hb]
  clear hw1 hb
  apply wp_rangeFunc_zx (gf := gf) (lb := lb) rfl HEG.out HSEQ.out (HG1.out.mdh _) HAL.out (fun _ => rfl)
    (fun Z pre X' => ∃ v, pre.length < 5000 ∧ SWz w w1 A [blkA b (.cells #[v] 39), rowA 23 6 v pre.length (rowE pre)] Z X')
    (fun Z pre X' => ∃ v, pre.length = 5000 ∧ SWz w w1 A [blkA b (.cells #[v] 39), rowA 23 6 v pre.length (rowE pre)] Z X') (fun _ _ _ => False)
    (Apart.ex fun v => (Apart.pure (fun pre : List En => pre.length < 5000)).and (SWz.apart HG1.out.sz (fun pre : List En => [blkA b (.cells #[v] 39), rowA 23 6 v pre.length (rowE pre)])))
    (Apart.ex fun v => (Apart.pure (fun pre : List En => pre.length = 5000)).and (SWz.apart HG1.out.sz (fun pre : List En => [blkA b (.cells #[v] 39), rowA 23 6 v pre.length (rowE pre)]))) apart_no
    ⟨_, by decide, HZ.out⟩ (fun Z pre X' ⟨v, _, h⟩ => h.frm HG1.out) (fun x => .cells #[.int .i64 x.seq, .string x.key, .bool x.del, .int .i64 x.slot, .int .i64 x.off, .int .i64 x.size] 23)
    _ ?assign ?body ?hend ?hret
  case hret => intro _ _ _ _ _ _ _ h; exact h.elim
  case assign =>
    intro l x bx X' K hbx hK
    dsimp only [encE, enV]
    gi_wp2
    rw [← hbx]
    exact hK
  case body =>
    intro l Z pre x bx X' hI hbx hx hzx hzl hlr hsp
    obtain ⟨v, hlt, hI⟩ := hI
    have HIZ := Lib.hid hI
    have HX := Lib.hid hx
    have HO := Lib.hid (show Own X' 23 6 v pre.length (rowE pre) from hI.s.get (i := 1) rfl)
    have HB := Lib.hid (show X'.heap[b]? = _ from hI.s.get (i := 0) rfl)
    have dx := (cellsOf HX.out).1
    have lx := blkLt HX.out
    obtain ⟨db, fb⟩ := cellsOf HB.out
    have lbb := blkLt HB.out
    have nb : ¬ v.ownBlock = some b := own_ne HO.out HB.out (by decide)
    have HNB := Lib.hid nb
    clear hI hbx hx hzx hzl hlr hsp nb
    by_cases h5 : pre.length + 1 = 5000
    · have h5' : ((pre.length : Int) + 1 == 5000) = true := beq_iff_eq.2 (by omega)
      gi_wp2_with (first
        | (gi_at_builtin; go_must (refine wpListIn_appv _ rfl (.tmp 9) (.tmp 11) 39 rfl 23 i0 _ 6 56 Try.underlying39 hi hz0 hz1 hz2 rfl (by decide) v pre.length (rowE pre) rfl (HO.out.gr (by (repeat (first | (with_reducible exact Gr.refl _) | assumption | (with_reducible apply Gr.from_drew) | (with_reducible apply Gr.alloc) | (with_reducible apply Gr.drew) | (with_reducible refine Gr.trans ?_ (by assumption)) | (with_reducible refine Gr.setCell ?_ (by omega) _))))) (some ⟨X'.heap.size, 0, none⟩) 1 1 (enC x) rfl ((src_newK X' (enC x) _ 6 rfl (enC_one x))) (by simp only [maxLen]; omega) (by omega) ?_); intro v2 w2 hA; obtain ⟨a2, c2, rfl⟩ := hA.val; have HAV := Lib.hid hA; have HB2 := Lib.hid ((hA.mdh (fun g h => h)).blk (((Gr.refl X').alloc _).blk HB.out) HNB.out); clear hA; obtain ⟨db2, fb2⟩ := cellsOf HB2.out)
        | fail)
      have z2 := HIZ.out.gr ((Gr.refl X').alloc (.cells (enC x).toArray 23))
      have z3 := z2.1.step (i := 1) (B' := rowA 23 6 (.slice a2 (pre.length + 1) c2) (pre.length + 1) (rowE pre ++ enC x)) rfl HAL.out (HAV.out.mdh (fun g h => h)) (fun k hk => .inl hk) HAV.out.1 (fun k hq => HAV.out.2.1 k hq)
      have z4 := z3.1.step (i := 0) (B' := blkA b (.cells #[.slice a2 (pre.length + 1) c2] 39)) rfl HAL.out ((Mdh.refl (fun k => k = b) w2).setCell (p := ⟨b, 0, none⟩) rfl (.slice a2 (pre.length + 1) c2)) (fun k hk => .inl hk) (blkSet (j := 0) (u := .slice a2 (pre.length + 1) c2) HB2.out) (fun k hk => .inl hk)
      have zM := (z2.2.trans z3.2).trans z4.2
      have zR : SWz w w1 A [blkA b (.cells #[.slice a2 (pre.length + 1) c2] 39), rowA 23 6 (.slice a2 (pre.length + 1) c2) (pre ++ [x]).length (rowE (pre ++ [x]))] Z (w2.setCell ⟨b, 0, none⟩ (.slice a2 (pre.length + 1) c2)) := by
        rw [rowE_snoc, List.length_append]
        exact z4.1
      rw [h5] at zM zR
      exact ⟨zM.mono (fun k h => h.2), rfl, _, by simp; omega, zR⟩
    · have h5' : ((pre.length : Int) + 1 == 5000) = false := beq_false_of_ne (by omega)
      gi_wp2_with (first
        | (gi_at_builtin; go_must (refine wpListIn_appv _ rfl (.tmp 9) (.tmp 11) 39 rfl 23 i0 _ 6 56 Try.underlying39 hi hz0 hz1 hz2 rfl (by decide) v pre.length (rowE pre) rfl (HO.out.gr (by (repeat (first | (with_reducible exact Gr.refl _) | assumption | (with_reducible apply Gr.from_drew) | (with_reducible apply Gr.alloc) | (with_reducible apply Gr.drew) | (with_reducible refine Gr.trans ?_ (by assumption)) | (with_reducible refine Gr.setCell ?_ (by omega) _))))) (some ⟨X'.heap.size, 0, none⟩) 1 1 (enC x) rfl ((src_newK X' (enC x) _ 6 rfl (enC_one x))) (by simp only [maxLen]; omega) (by omega) ?_); intro v2 w2 hA; obtain ⟨a2, c2, rfl⟩ := hA.val; have HAV := Lib.hid hA; have HB2 := Lib.hid ((hA.mdh (fun g h => h)).blk (((Gr.refl X').alloc _).blk HB.out) HNB.out); clear hA; obtain ⟨db2, fb2⟩ := cellsOf HB2.out)
        | fail)
      have z2 := HIZ.out.gr ((Gr.refl X').alloc (.cells (enC x).toArray 23))
      have z3 := z2.1.step (i := 1) (B' := rowA 23 6 (.slice a2 (pre.length + 1) c2) (pre.length + 1) (rowE pre ++ enC x)) rfl HAL.out (HAV.out.mdh (fun g h => h)) (fun k hk => .inl hk) HAV.out.1 (fun k hq => HAV.out.2.1 k hq)
      have z4 := z3.1.step (i := 0) (B' := blkA b (.cells #[.slice a2 (pre.length + 1) c2] 39)) rfl HAL.out ((Mdh.refl (fun k => k = b) w2).setCell (p := ⟨b, 0, none⟩) rfl (.slice a2 (pre.length + 1) c2)) (fun k hk => .inl hk) (blkSet (j := 0) (u := .slice a2 (pre.length + 1) c2) HB2.out) (fun k hk => .inl hk)
      have zM := (z2.2.trans z3.2).trans z4.2
      have zR : SWz w w1 A [blkA b (.cells #[.slice a2 (pre.length + 1) c2] 39), rowA 23 6 (.slice a2 (pre.length + 1) c2) (pre ++ [x]).length (rowE (pre ++ [x]))] Z (w2.setCell ⟨b, 0, none⟩ (.slice a2 (pre.length + 1) c2)) := by
        rw [rowE_snoc, List.length_append]
        exact z4.1
      exact ⟨zM, _, by simp; omega, zR⟩
  case hend =>
    intro Z D xs W hD hZD hcase hdef
    have hx : ∃ v, xs = L.take 5000 ∧ SWz w w1 A [blkA b (.cells #[v] 39), rowA 23 6 v xs.length (rowE xs)] Z W := by
      rcases hcase with ⟨h1, v, h2, h3⟩ | ⟨h1, v, h2, h3⟩
      · exact ⟨v, by rw [show xs = L from h1] at h2 ⊢; rw [List.take_of_length_le (by omega)], h3⟩
      · exact ⟨v, take_pre h1 h2, h3⟩
    obtain ⟨v, rfl, hZ⟩ := hx
    have db := (cellsOf (show W.heap[b]? = _ from hZ.s.get (i := 0) rfl)).1
    have HZW := Lib.hid hZ
    have HD := Lib.hid (And.intro hD (And.intro hZD hdef))
    clear hcase hZ hD hZD hdef
    dsimp only
    go_wp2_with fail
    obtain ⟨hD, hZD, hdef⟩ := HD.out
    have hm : Mdh (fun k => k = D) W (W.putObj D (.deferred none)) := (Mdh.refl (fun k => k = D) W).putObj rfl _
    refine retM1 (D := D) rfl hdef (results_tmp rfl _ _ _) ⟨v, rfl, ⟨(show Own W _ _ _ _ _ from HZW.out.s.get (i := 1) rfl).mdh hm (fun k hk e => HZW.out.z _ (List.mem_cons_of_mem _ (List.mem_cons_self ..)) k hk (e ▸ hZD)), fun q hq => HZW.out.s.n _ (List.mem_cons_of_mem _ (List.mem_cons_self ..)) q hq⟩, HZW.out.s.g.putObj (Nat.le_trans HG1.out.sz hD) _⟩
theorem kS_snoc (l : List ByteArray) (x : ByteArray) : kS (l ++ [x]) = kS l ++ [.string x] := by simp [kS]
set_option maxRecDepth 40000 in
set_option maxHeartbeats 4000000 in
theorem TakeS {gf : Nat} {lb : Array Value} {A : Nat → Prop} {L : List ByteArray} {w : World} (eg : ∀ args w, (callFunc gf args).run Try.prog w = .ok (.enter gf args) w) (hseq : SeqZ Fence.wide 2 Try.prog gf lb encK A (fun xs => xs = L) (fun pre => pre <+: L) w) (hA : ∀ k, A k → k < w.heap.size) :
    Calls Try.prog 37 #[.func (.func gf) #[] lb] w fun e w' => ∃ v, e = .returned v ∧ Nw w w' 9 1 v (L.take 5000).length (kS (L.take 5000)) ∧ Gr w w' := by
  obtain ⟨i0, hi, hz0, hz1, hz2⟩ := info_parts info_str
  have k1 : ∀ w : World, (binOp .eql 75 (.func (.func gf) #[] lb) .nilFunc).run Try.prog w = .ok (.bool false) w := fun w => by kernel_rfl
  have HSEQ := Lib.hid hseq
  have HA := Lib.hid hA
  have HEG := Lib.hid eg
  clear hseq hA eg
  refine calls_of_wp_marks Try.func37 rfl ?_
  simp only [Try.ntmps37, List.size_toArray, List.length_cons, List.length_nil, Nat.reduceAdd, Nat.reduceSub, Array.replicate_succ, Array.replicate_zero, List.push_toArray, List.append_toArray, List.nil_append, List.cons_append]
  go_wp2_with fail
  obtain ⟨b, hb⟩ : ∃ q, q = w.heap.size := ⟨_, rfl⟩
  obtain ⟨w1, hw1⟩ : ∃ y, y = w.alloc (.cells #[.slice none 0 0] 38) := ⟨_, rfl⟩
  have HG1 : Hid (Gr w w1) := Lib.hid (by rw [hw1]; exact (Gr.refl w).alloc _)
  have HAL : Hid (∀ k, A k → k < w1.heap.size) := Lib.hid (fun k hk => by have := HA.out k hk; have := HG1.out.sz; omega)
  have HZ : Hid (SWz w w1 A [blkA b (.cells #[.slice none 0 0] 38), rowA 9 1 (.slice none 0 0) 0 []] (fun _ => False) w1) := Lib.hid (by
    have h1 : SW w [rowA 9 1 (.slice none 0 0) 0 []] w := (SW.start w).new (Gr.refl _) (nilRow _ _ _) (fun k hk => by cases hk)
    have h2 := h1.alloc (.cells #[.slice none 0 0] 38)
    rw [← hw1, ← hb] at h2
    refine SWz.start h2 (fun B hB k hk ha => ?_)
    have := h2.n B hB k hk
    have := HA.out k ha
    omega)
  rw [← hw1, ← hb]
  clear hw1 hb
  apply wp_rangeFunc_zb (gf := gf) (lb := lb) rfl HEG.out HSEQ.out (HG1.out.mdh _) HAL.out (fun _ => rfl)
    (fun Z pre X' => ∃ v, pre.length < 5000 ∧ SWz w w1 A [blkA b (.cells #[v] 38), rowA 9 1 v pre.length (kS pre)] Z X')
    (fun Z pre X' => ∃ v, pre.length = 5000 ∧ SWz w w1 A [blkA b (.cells #[v] 38), rowA 9 1 v pre.length (kS pre)] Z X') (fun _ _ _ => False)
    (Apart.ex fun v => (Apart.pure (fun pre : List ByteArray => pre.length < 5000)).and (SWz.apart HG1.out.sz (fun pre : List ByteArray => [blkA b (.cells #[v] 38), rowA 9 1 v pre.length (kS pre)])))
    (Apart.ex fun v => (Apart.pure (fun pre : List ByteArray => pre.length = 5000)).and (SWz.apart HG1.out.sz (fun pre : List ByteArray => [blkA b (.cells #[v] 38), rowA 9 1 v pre.length (kS pre)]))) apart_no
    ⟨_, by decide, HZ.out⟩
    _ ?assign ?body ?hend ?hret
  case hret => intro _ _ _ _ _ _ _ h; exact h.elim
  case assign =>
    intro l x X' K hK
    dsimp only [encK]
    gi_wp2
    exact hK
  case body =>
    intro l Z pre x X' hI hsp
    obtain ⟨v, hlt, hI⟩ := hI
    have HIZ := Lib.hid hI
    have HO := Lib.hid (show Own X' 9 1 v pre.length (kS pre) from hI.s.get (i := 1) rfl)
    have HB := Lib.hid (show X'.heap[b]? = _ from hI.s.get (i := 0) rfl)
    obtain ⟨db, fb⟩ := cellsOf HB.out
    have lbb := blkLt HB.out
    have nb : ¬ v.ownBlock = some b := own_ne HO.out HB.out (by decide)
    have HNB := Lib.hid nb
    clear hI hsp nb
    by_cases h5 : pre.length + 1 = 5000
    · have h5' : ((pre.length : Int) + 1 == 5000) = true := beq_iff_eq.2 (by omega)
      gi_wp2_with (first
        | (gi_at_builtin; go_must (refine wpListIn_appv _ rfl (.tmp 9) (.tmp 11) 38 rfl 9 i0 _ 1 16 Try.underlying38 hi hz0 hz1 hz2 rfl (by decide) v pre.length (kS pre) rfl (HO.out.gr (by (repeat (first | (with_reducible exact Gr.refl _) | assumption | (with_reducible apply Gr.from_drew) | (with_reducible apply Gr.alloc) | (with_reducible apply Gr.drew) | (with_reducible refine Gr.trans ?_ (by assumption)) | (with_reducible refine Gr.setCell ?_ (by omega) _))))) (some ⟨X'.heap.size, 0, none⟩) 1 1 ([Value.string x]) rfl ((src_newK X' ([Value.string x]) _ 1 rfl (by simp [Value.oneCell']))) (by simp only [maxLen]; omega) (by omega) ?_); intro v2 w2 hA; obtain ⟨a2, c2, rfl⟩ := hA.val; have HAV := Lib.hid hA; have HB2 := Lib.hid ((hA.mdh (fun g h => h)).blk (((Gr.refl X').alloc _).blk HB.out) HNB.out); clear hA; obtain ⟨db2, fb2⟩ := cellsOf HB2.out)
        | fail)
      have z2 := HIZ.out.gr ((Gr.refl X').alloc (.cells ([Value.string x]).toArray 9))
      have z3 := z2.1.step (i := 1) (B' := rowA 9 1 (.slice a2 (pre.length + 1) c2) (pre.length + 1) (kS pre ++ [Value.string x])) rfl HAL.out (HAV.out.mdh (fun g h => h)) (fun k hk => .inl hk) HAV.out.1 (fun k hq => HAV.out.2.1 k hq)
      have z4 := z3.1.step (i := 0) (B' := blkA b (.cells #[.slice a2 (pre.length + 1) c2] 38)) rfl HAL.out ((Mdh.refl (fun k => k = b) w2).setCell (p := ⟨b, 0, none⟩) rfl (.slice a2 (pre.length + 1) c2)) (fun k hk => .inl hk) (blkSet (j := 0) (u := .slice a2 (pre.length + 1) c2) HB2.out) (fun k hk => .inl hk)
      have zM := (z2.2.trans z3.2).trans z4.2
      have zR : SWz w w1 A [blkA b (.cells #[.slice a2 (pre.length + 1) c2] 38), rowA 9 1 (.slice a2 (pre.length + 1) c2) (pre ++ [x]).length (kS (pre ++ [x]))] Z (w2.setCell ⟨b, 0, none⟩ (.slice a2 (pre.length + 1) c2)) := by
        rw [kS_snoc, List.length_append]
        exact z4.1
      rw [h5] at zM zR
      exact ⟨zM.mono (fun k h => h.2), rfl, _, by simp; omega, zR⟩
    · have h5' : ((pre.length : Int) + 1 == 5000) = false := beq_false_of_ne (by omega)
      gi_wp2_with (first
        | (gi_at_builtin; go_must (refine wpListIn_appv _ rfl (.tmp 9) (.tmp 11) 38 rfl 9 i0 _ 1 16 Try.underlying38 hi hz0 hz1 hz2 rfl (by decide) v pre.length (kS pre) rfl (HO.out.gr (by (repeat (first | (with_reducible exact Gr.refl _) | assumption | (with_reducible apply Gr.from_drew) | (with_reducible apply Gr.alloc) | (with_reducible apply Gr.drew) | (with_reducible refine Gr.trans ?_ (by assumption)) | (with_reducible refine Gr.setCell ?_ (by omega) _))))) (some ⟨X'.heap.size, 0, none⟩) 1 1 ([Value.string x]) rfl ((src_newK X' ([Value.string x]) _ 1 rfl (by simp [Value.oneCell']))) (by simp only [maxLen]; omega) (by omega) ?_); intro v2 w2 hA; obtain ⟨a2, c2, rfl⟩ := hA.val; have HAV := Lib.hid hA; have HB2 := Lib.hid ((hA.mdh (fun g h => h)).blk (((Gr.refl X').alloc _).blk HB.out) HNB.out); clear hA; obtain ⟨db2, fb2⟩ := cellsOf HB2.out)
        | fail)
      have z2 := HIZ.out.gr ((Gr.refl X').alloc (.cells ([Value.string x]).toArray 9))
      have z3 := z2.1.step (i := 1) (B' := rowA 9 1 (.slice a2 (pre.length + 1) c2) (pre.length + 1) (kS pre ++ [Value.string x])) rfl HAL.out (HAV.out.mdh (fun g h => h)) (fun k hk => .inl hk) HAV.out.1 (fun k hq => HAV.out.2.1 k hq)
      have z4 := z3.1.step (i := 0) (B' := blkA b (.cells #[.slice a2 (pre.length + 1) c2] 38)) rfl HAL.out ((Mdh.refl (fun k => k = b) w2).setCell (p := ⟨b, 0, none⟩) rfl (.slice a2 (pre.length + 1) c2)) (fun k hk => .inl hk) (blkSet (j := 0) (u := .slice a2 (pre.length + 1) c2) HB2.out) (fun k hk => .inl hk)
      have zM := (z2.2.trans z3.2).trans z4.2
      have zR : SWz w w1 A [blkA b (.cells #[.slice a2 (pre.length + 1) c2] 38), rowA 9 1 (.slice a2 (pre.length + 1) c2) (pre ++ [x]).length (kS (pre ++ [x]))] Z (w2.setCell ⟨b, 0, none⟩ (.slice a2 (pre.length + 1) c2)) := by
        rw [kS_snoc, List.length_append]
        exact z4.1
      exact ⟨zM, _, by simp; omega, zR⟩
  case hend =>
    intro Z D xs W hD hZD hcase hdef
    have hx : ∃ v, xs = L.take 5000 ∧ SWz w w1 A [blkA b (.cells #[v] 38), rowA 9 1 v xs.length (kS xs)] Z W := by
      rcases hcase with ⟨h1, v, h2, h3⟩ | ⟨h1, v, h2, h3⟩
      · exact ⟨v, by rw [show xs = L from h1] at h2 ⊢; rw [List.take_of_length_le (by omega)], h3⟩
      · exact ⟨v, take_pre h1 h2, h3⟩
    obtain ⟨v, rfl, hZ⟩ := hx
    have db := (cellsOf (show W.heap[b]? = _ from hZ.s.get (i := 0) rfl)).1
    have HZW := Lib.hid hZ
    have HD := Lib.hid (And.intro hD (And.intro hZD hdef))
    clear hcase hZ hD hZD hdef
    dsimp only
    go_wp2_with fail
    obtain ⟨hD, hZD, hdef⟩ := HD.out
    have hm : Mdh (fun k => k = D) W (W.putObj D (.deferred none)) := (Mdh.refl (fun k => k = D) W).putObj rfl _
    refine retM1 (D := D) rfl hdef (results_tmp rfl _ _ _) ⟨v, rfl, ⟨(show Own W _ _ _ _ _ from HZW.out.s.get (i := 1) rfl).mdh hm (fun k hk e => HZW.out.z _ (List.mem_cons_of_mem _ (List.mem_cons_self ..)) k hk (e ▸ hZD)), fun q hq => HZW.out.s.n _ (List.mem_cons_of_mem _ (List.mem_cons_self ..)) q hq⟩, HZW.out.s.g.putObj (Nat.le_trans HG1.out.sz hD) _⟩
end Go.Proofs.Ytiidkehcfoajeaa
