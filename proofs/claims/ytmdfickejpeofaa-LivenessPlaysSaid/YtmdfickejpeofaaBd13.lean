/- drumlinlaw21.take: the first elements of an iterator, in a row. -/
import Derived.Test.YtmdfickejpeofaaBd12
set_option linter.unusedVariables false
set_option linter.unusedSimpArgs false
namespace Go.Proofs.Ytmdfickejpeofaa
open Go.RowKit Go.Shelf
attribute [local go_sem] OvM cell_ovm obj_ovm
attribute [local go_sem] Oper.semAt_some

theorem info_str : (Try.prog.info? 9).map (fun i => (i.zero, i.size, i.bytes)) = some (some (.string ⟨#[]⟩), 1, 16) := by kernel_rfl
theorem rowE_snoc (l : List En) (x : En) : rowE (l ++ [x]) = rowE l ++ enC x := by rw [rowE_app]; simp [rowE]
theorem enC_one (x : En) : ∀ u ∈ enC x, u.oneCell' = true := fun u hu => rowE_one [x] u (by simpa [rowE] using hu)
theorem take_pre {α : Type} {n : Nat} {pre L : List α} (h : pre <+: L) (hn : pre.length = n) : pre = L.take n := by
  obtain ⟨t, rfl⟩ := h
  rw [← hn, List.take_left']
  rfl
def kS (l : List ByteArray) : List Value := l.map Value.string
set_option maxRecDepth 40000 in
set_option maxHeartbeats 4000000 in
theorem TakeE {gf : Nat} {lb : Array Value} {A : Nat → Prop} {L : List En} {w : World} (eg : ∀ args w, (callFunc gf args).run Try.prog w = .ok (.enter gf args) w) (hseq : SeqZ Fence.wide 2 Try.prog gf lb encE A (fun xs => xs = L) (fun pre => pre <+: L) w) (hA : ∀ k, A k → k < w.heap.size) :
    Calls Try.prog 96 #[.func (.func gf) #[] lb] w fun e w' => ∃ v, e = .returned v ∧ Nw w w' 53 6 v (L.take 5000).length (rowE (L.take 5000)) ∧ Gr w w' := by
  obtain ⟨i0, hi, hz0, hz1, hz2⟩ := info_parts infoIten
  have k1 : ∀ w : World, (binOp .eql 148 (.func (.func gf) #[] lb) .nilFunc).run Try.prog w = .ok (.bool false) w := fun w => by kernel_rfl
  have HSEQ := Lib.hid hseq
  have HA := Lib.hid hA
  have HEG := Lib.hid eg
  clear hseq hA eg
  refine calls_of_wp_marks Try.func96 rfl ?_
  simp only [Try.ntmps96, List.size_toArray, List.length_cons, List.length_nil, Nat.reduceAdd, Nat.reduceSub, Array.replicate_succ, Array.replicate_zero, List.push_toArray, List.append_toArray, List.nil_append, List.cons_append]
  go_wp2_with fail
  obtain ⟨b, hb⟩ : ∃ q, q = w.heap.size := ⟨_, rfl⟩
  obtain ⟨w1, hw1⟩ : ∃ y, y = w.alloc (.cells #[.slice none 0 0] 45) := ⟨_, rfl⟩
  have HG1 : Hid (Gr w w1) := Lib.hid (by rw [hw1]; exact (Gr.refl w).alloc _)
  have HAL : Hid (∀ k, A k → k < w1.heap.size) := Lib.hid (fun k hk => by have := HA.out k hk; have := HG1.out.sz; omega)
  have HZ : Hid (SWz w w1 A [blkA b (.cells #[.slice none 0 0] 45), rowA 53 6 (.slice none 0 0) 0 []] (fun _ => False) w1) := Lib.hid (by
    have h1 : SW w [rowA 53 6 (.slice none 0 0) 0 []] w := (SW.start w).new (Gr.refl _) (nilRow _ _ _) (fun k hk => by cases hk)
    have h2 := h1.alloc (.cells #[.slice none 0 0] 45)
    rw [← hw1, ← hb] at h2
    refine SWz.start h2 (fun B hB k hk ha => ?_)
    have := h2.n B hB k hk
    have := HA.out k ha
    omega)
  rw [← hw1, ← hb]
  clear hw1 hb
  apply wp_rangeFunc_zx (gf := gf) (lb := lb) rfl HEG.out HSEQ.out (HG1.out.mdh _) HAL.out (fun _ => rfl)
    (fun Z pre X' => ∃ v, pre.length < 5000 ∧ SWz w w1 A [blkA b (.cells #[v] 45), rowA 53 6 v pre.length (rowE pre)] Z X')
    (fun Z pre X' => ∃ v, pre.length = 5000 ∧ SWz w w1 A [blkA b (.cells #[v] 45), rowA 53 6 v pre.length (rowE pre)] Z X') (fun _ _ _ => False)
    (Apart.ex fun v => (Apart.pure (fun pre : List En => pre.length < 5000)).and (SWz.apart HG1.out.sz (fun pre : List En => [blkA b (.cells #[v] 45), rowA 53 6 v pre.length (rowE pre)])))
    (Apart.ex fun v => (Apart.pure (fun pre : List En => pre.length = 5000)).and (SWz.apart HG1.out.sz (fun pre : List En => [blkA b (.cells #[v] 45), rowA 53 6 v pre.length (rowE pre)]))) apart_no
    ⟨_, by decide, HZ.out⟩ (fun Z pre X' ⟨v, _, h⟩ => h.frm HG1.out) (fun x => .cells #[.int .i64 x.seq, .string x.key, .bool x.del, .int .i64 x.slot, .int .i64 x.off, .int .i64 x.size] 53)
    _ ?assign ?body ?hend ?hret
  case hret => intro _ _ _ _ _ _ _ h; exact h.elim
  case assign =>
    intro l x bx X' K hbx hK
    dsimp only [encE, enV]
    gi_wp2
    rw [← hbx]
    exact hK
  case body =>
    intro l Z pre x bx X' hI hbx hx hzx hzl hlr hsp
    obtain ⟨v, hlt, hI⟩ := hI
    have HIZ := Lib.hid hI
    have HX := Lib.hid hx
    have HO := Lib.hid (show Own X' 53 6 v pre.length (rowE pre) from hI.s.get (i := 1) rfl)
    have HB := Lib.hid (show X'.heap[b]? = _ from hI.s.get (i := 0) rfl)
    have dx := (cellsOf HX.out).1
    have lx := blkLt HX.out
    obtain ⟨db, fb⟩ := cellsOf HB.out
    have lbb := blkLt HB.out
    have nb : ¬ v.ownBlock = some b := own_ne HO.out HB.out (by decide)
    have HNB := Lib.hid nb
    clear hI hbx hx hzx hzl hlr hsp nb
    by_cases h5 : pre.length + 1 = 5000
    · have h5' : ((pre.length : Int) + 1 == 5000) = true := beq_iff_eq.2 (by omega)
      gi_wp2_with (first
        | (gi_at_builtin; go_must (refine wpListIn_appv _ rfl (.tmp 9) (.tmp 11) 45 rfl 53 i0 _ 6 56 Try.underlying45 hi hz0 hz1 hz2 rfl (by decide) v pre.length (rowE pre) rfl (HO.out.gr (by (repeat (first | (with_reducible exact Gr.refl _) | assumption | (with_reducible apply Gr.from_drew) | (with_reducible apply Gr.alloc) | (with_reducible apply Gr.drew) | (with_reducible refine Gr.trans ?_ (by assumption)) | (with_reducible refine Gr.setCell ?_ (by omega) _))))) (some ⟨X'.heap.size, 0, none⟩) 1 1 (enC x) rfl ((src_newK X' (enC x) _ 6 rfl (enC_one x))) (by simp only [maxLen]; omega) (by omega) ?_); intro v2 w2 hA; obtain ⟨a2, c2, rfl⟩ := hA.val; have HAV := Lib.hid hA; have HB2 := Lib.hid ((hA.mdh (fun g h => h)).blk (((Gr.refl X').alloc _).blk HB.out) HNB.out); clear hA; obtain ⟨db2, fb2⟩ := cellsOf HB2.out)
        | fail)
      have z2 := HIZ.out.gr ((Gr.refl X').alloc (.cells (enC x).toArray 53))
      have z3 := z2.1.step (i := 1) (B' := rowA 53 6 (.slice a2 (pre.length + 1) c2) (pre.length + 1) (rowE pre ++ enC x)) rfl HAL.out (HAV.out.mdh (fun g h => h)) (fun k hk => .inl hk) HAV.out.1 (fun k hq => HAV.out.2.1 k hq)
      have z4 := z3.1.step (i := 0) (B' := blkA b (.cells #[.slice a2 (pre.length + 1) c2] 45)) rfl HAL.out ((Mdh.refl (fun k => k = b) w2).setCell (p := ⟨b, 0, none⟩) rfl (.slice a2 (pre.length + 1) c2)) (fun k hk => .inl hk) (blkSet (j := 0) (u := .slice a2 (pre.length + 1) c2) HB2.out) (fun k hk => .inl hk)
      have zM := (z2.2.trans z3.2).trans z4.2
      have zR : SWz w w1 A [blkA b (.cells #[.slice a2 (pre.length + 1) c2] 45), rowA 53 6 (.slice a2 (pre.length + 1) c2) (pre ++ [x]).length (rowE (pre ++ [x]))] Z (w2.setCell ⟨b, 0, none⟩ (.slice a2 (pre.length + 1) c2)) := by
        rw [rowE_snoc, List.length_append]
        exact z4.1
      rw [h5] at zM zR
      exact ⟨zM.mono (fun k h => h.2), rfl, _, by simp; omega, zR⟩
    · have h5' : ((pre.length : Int) + 1 == 5000) = false := beq_false_of_ne (by omega)
      gi_wp2_with (first
        | (gi_at_builtin; go_must (refine wpListIn_appv _ rfl (.tmp 9) (.tmp 11) 45 rfl 53 i0 _ 6 56 Try.underlying45 hi hz0 hz1 hz2 rfl (by decide) v pre.length (rowE pre) rfl (HO.out.gr (by (repeat (first | (with_reducible exact Gr.refl _) | assumption | (with_reducible apply Gr.from_drew) | (with_reducible apply Gr.alloc) | (with_reducible apply Gr.drew) | (with_reducible refine Gr.trans ?_ (by assumption)) | (with_reducible refine Gr.setCell ?_ (by omega) _))))) (some ⟨X'.heap.size, 0, none⟩) 1 1 (enC x) rfl ((src_newK X' (enC x) _ 6 rfl (enC_one x))) (by simp only [maxLen]; omega) (by omega) ?_); intro v2 w2 hA; obtain ⟨a2, c2, rfl⟩ := hA.val; have HAV := Lib.hid hA; have HB2 := Lib.hid ((hA.mdh (fun g h => h)).blk (((Gr.refl X').alloc _).blk HB.out) HNB.out); clear hA; obtain ⟨db2, fb2⟩ := cellsOf HB2.out)
        | fail)
      have z2 := HIZ.out.gr ((Gr.refl X').alloc (.cells (enC x).toArray 53))
      have z3 := z2.1.step (i := 1) (B' := rowA 53 6 (.slice a2 (pre.length + 1) c2) (pre.length + 1) (rowE pre ++ enC x)) rfl HAL.out (HAV.out.mdh (fun g h => h)) (fun k hk => .inl hk) HAV.out.1 (fun k hq => HAV.out.2.1 k hq)
      have z4 := z3.1.step (i := 0) (B' := blkA b (.cells #[.slice a2 (pre.length + 1) c2] 45)) rfl HAL.out ((Mdh.refl (fun k => k = b) w2).setCell (p := ⟨b, 0, none⟩) rfl (.slice a2 (pre.length + 1) c2)) (fun k hk => .inl hk) (blkSet (j := 0) (u := .slice a2 (pre.length + 1) c2) HB2.out) (fun k hk => .inl hk)
      have zM := (z2.2.trans z3.2).trans z4.2
      have zR : SWz w w1 A [blkA b (.cells #[.slice a2 (pre.length + 1) c2] 45), rowA 53 6 (.slice a2 (pre.length + 1) c2) (pre ++ [x]).length (rowE (pre ++ [x]))] Z (w2.setCell ⟨b, 0, none⟩ (.slice a2 (pre.length + 1) c2)) := by
        rw [rowE_snoc, List.length_append]
        exact z4.1
      exact ⟨zM, _, by simp; omega, zR⟩
  case hend =>
    intro Z D xs W hD hZD hcase hdef
    have hx : ∃ v, xs = L.take 5000 ∧ SWz w w1 A [blkA b (.cells #[v] 45), rowA 53 6 v xs.length (rowE xs)] Z W := by
      rcases hcase with ⟨h1, v, h2, h3⟩ | ⟨h1, v, h2, h3⟩
      · exact ⟨v, by rw [show xs = L from h1] at h2 ⊢; rw [List.take_of_length_le (by omega)], h3⟩
      · exact ⟨v, take_pre h1 h2, h3⟩
    obtain ⟨v, rfl, hZ⟩ := hx
    have db := (cellsOf (show W.heap[b]? = _ from hZ.s.get (i := 0) rfl)).1
    have HZW := Lib.hid hZ
    have HD := Lib.hid (And.intro hD (And.intro hZD hdef))
    clear hcase hZ hD hZD hdef
    dsimp only
    go_wp2_with fail
    obtain ⟨hD, hZD, hdef⟩ := HD.out
    have hm : Mdh (fun k => k = D) W (W.putObj D (.deferred none)) := (Mdh.refl (fun k => k = D) W).putObj rfl _
    refine retM1 (D := D) rfl hdef (results_tmp rfl _ _ _) ⟨v, rfl, ⟨(show Own W _ _ _ _ _ from HZW.out.s.get (i := 1) rfl).mdh hm (fun k hk e => HZW.out.z _ (List.mem_cons_of_mem _ (List.mem_cons_self ..)) k hk (e ▸ hZD)), fun q hq => HZW.out.s.n _ (List.mem_cons_of_mem _ (List.mem_cons_self ..)) q hq⟩, HZW.out.s.g.putObj (Nat.le_trans HG1.out.sz hD) _⟩
theorem kS_snoc (l : List ByteArray) (x : ByteArray) : kS (l ++ [x]) = kS l ++ [.string x] := by simp [kS]
set_option maxRecDepth 40000 in
set_option maxHeartbeats 4000000 in
theorem TakeS {gf : Nat} {lb : Array Value} {A : Nat → Prop} {L : List ByteArray} {w : World} (eg : ∀ args w, (callFunc gf args).run Try.prog w = .ok (.enter gf args) w) (hseq : SeqZ Fence.wide 2 Try.prog gf lb encK A (fun xs => xs = L) (fun pre => pre <+: L) w) (hA : ∀ k, A k → k < w.heap.size) :
    Calls Try.prog 98 #[.func (.func gf) #[] lb] w fun e w' => ∃ v, e = .returned v ∧ Nw w w' 9 1 v (L.take 5000).length (kS (L.take 5000)) ∧ Gr w w' := by
  obtain ⟨i0, hi, hz0, hz1, hz2⟩ := info_parts info_str
  have k1 : ∀ w : World, (binOp .eql 174 (.func (.func gf) #[] lb) .nilFunc).run Try.prog w = .ok (.bool false) w := fun w => by kernel_rfl
  have HSEQ := Lib.hid hseq
  have HA := Lib.hid hA
  have HEG := Lib.hid eg
  clear hseq hA eg
  refine calls_of_wp_marks Try.func98 rfl ?_
  simp only [Try.ntmps98, List.size_toArray, List.length_cons, List.length_nil, Nat.reduceAdd, Nat.reduceSub, Array.replicate_succ, Array.replicate_zero, List.push_toArray, List.append_toArray, List.nil_append, List.cons_append]
  go_wp2_with fail
  obtain ⟨b, hb⟩ : ∃ q, q = w.heap.size := ⟨_, rfl⟩
  obtain ⟨w1, hw1⟩ : ∃ y, y = w.alloc (.cells #[.slice none 0 0] 171) := ⟨_, rfl⟩
  have HG1 : Hid (Gr w w1) := Lib.hid (by rw [hw1]; exact (Gr.refl w).alloc _)
  have HAL : Hid (∀ k, A k → k < w1.heap.size) := Lib.hid (fun k hk => by have := HA.out k hk; have := HG1.out.sz; omega)
  have HZ : Hid (SWz w w1 A [blkA b (.cells #[.slice none 0 0] 171), rowA 9 1 (.slice none 0 0) 0 []] (fun _ => False) w1) := Lib.hid (by
    have h1 : SW w [rowA 9 1 (.slice none 0 0) 0 []] w := (SW.start w).new (Gr.refl _) (nilRow _ _ _) (fun k hk => by cases hk)
    have h2 := h1.alloc (.cells #[.slice none 0 0] 171)
    rw [← hw1, ← hb] at h2
    refine SWz.start h2 (fun B hB k hk ha => ?_)
    have := h2.n B hB k hk
    have := HA.out k ha
    omega)
  rw [← hw1, ← hb]
  clear hw1 hb
  apply wp_rangeFunc_zb (gf := gf) (lb := lb) rfl HEG.out HSEQ.out (HG1.out.mdh _) HAL.out (fun _ => rfl)
    (fun Z pre X' => ∃ v, pre.length < 5000 ∧ SWz w w1 A [blkA b (.cells #[v] 171), rowA 9 1 v pre.length (kS pre)] Z X')
    (fun Z pre X' => ∃ v, pre.length = 5000 ∧ SWz w w1 A [blkA b (.cells #[v] 171), rowA 9 1 v pre.length (kS pre)] Z X') (fun _ _ _ => False)
    (Apart.ex fun v => (Apart.pure (fun pre : List ByteArray => pre.length < 5000)).and (SWz.apart HG1.out.sz (fun pre : List ByteArray => [blkA b (.cells #[v] 171), rowA 9 1 v pre.length (kS pre)])))
    (Apart.ex fun v => (Apart.pure (fun pre : List ByteArray => pre.length = 5000)).and (SWz.apart HG1.out.sz (fun pre : List ByteArray => [blkA b (.cells #[v] 171), rowA 9 1 v pre.length (kS pre)]))) apart_no
    ⟨_, by decide, HZ.out⟩
    _ ?assign ?body ?hend ?hret
  case hret => intro _ _ _ _ _ _ _ h; exact h.elim
  case assign =>
    intro l x X' K hK
    dsimp only [encK]
    gi_wp2
    exact hK
  case body =>
    intro l Z pre x X' hI hsp
    obtain ⟨v, hlt, hI⟩ := hI
    have HIZ := Lib.hid hI
    have HO := Lib.hid (show Own X' 9 1 v pre.length (kS pre) from hI.s.get (i := 1) rfl)
    have HB := Lib.hid (show X'.heap[b]? = _ from hI.s.get (i := 0) rfl)
    obtain ⟨db, fb⟩ := cellsOf HB.out
    have lbb := blkLt HB.out
    have nb : ¬ v.ownBlock = some b := own_ne HO.out HB.out (by decide)
    have HNB := Lib.hid nb
    clear hI hsp nb
    by_cases h5 : pre.length + 1 = 5000
    · have h5' : ((pre.length : Int) + 1 == 5000) = true := beq_iff_eq.2 (by omega)
      gi_wp2_with (first
        | (gi_at_builtin; go_must (refine wpListIn_appv _ rfl (.tmp 9) (.tmp 11) 171 rfl 9 i0 _ 1 16 Try.underlying171 hi hz0 hz1 hz2 rfl (by decide) v pre.length (kS pre) rfl (HO.out.gr (by (repeat (first | (with_reducible exact Gr.refl _) | assumption | (with_reducible apply Gr.from_drew) | (with_reducible apply Gr.alloc) | (with_reducible apply Gr.drew) | (with_reducible refine Gr.trans ?_ (by assumption)) | (with_reducible refine Gr.setCell ?_ (by omega) _))))) (some ⟨X'.heap.size, 0, none⟩) 1 1 ([Value.string x]) rfl ((src_newK X' ([Value.string x]) _ 1 rfl (by simp [Value.oneCell']))) (by simp only [maxLen]; omega) (by omega) ?_); intro v2 w2 hA; obtain ⟨a2, c2, rfl⟩ := hA.val; have HAV := Lib.hid hA; have HB2 := Lib.hid ((hA.mdh (fun g h => h)).blk (((Gr.refl X').alloc _).blk HB.out) HNB.out); clear hA; obtain ⟨db2, fb2⟩ := cellsOf HB2.out)
        | fail)
      have z2 := HIZ.out.gr ((Gr.refl X').alloc (.cells ([Value.string x]).toArray 9))
      have z3 := z2.1.step (i := 1) (B' := rowA 9 1 (.slice a2 (pre.length + 1) c2) (pre.length + 1) (kS pre ++ [Value.string x])) rfl HAL.out (HAV.out.mdh (fun g h => h)) (fun k hk => .inl hk) HAV.out.1 (fun k hq => HAV.out.2.1 k hq)
      have z4 := z3.1.step (i := 0) (B' := blkA b (.cells #[.slice a2 (pre.length + 1) c2] 171)) rfl HAL.out ((Mdh.refl (fun k => k = b) w2).setCell (p := ⟨b, 0, none⟩) rfl (.slice a2 (pre.length + 1) c2)) (fun k hk => .inl hk) (blkSet (j := 0) (u := .slice a2 (pre.length + 1) c2) HB2.out) (fun k hk => .inl hk)
      have zM := (z2.2.trans z3.2).trans z4.2
      have zR : SWz w w1 A [blkA b (.cells #[.slice a2 (pre.length + 1) c2] 171), rowA 9 1 (.slice a2 (pre.length + 1) c2) (pre ++ [x]).length (kS (pre ++ [x]))] Z (w2.setCell ⟨b, 0, none⟩ (.slice a2 (pre.length + 1) c2)) := by
        rw [kS_snoc, List.length_append]
        exact z4.1
      rw [h5] at zM zR
      exact ⟨zM.mono (fun k h => h.2), rfl, _, by simp; omega, zR⟩
    · have h5' : ((pre.length : Int) + 1 == 5000) = false := beq_false_of_ne (by omega)
      gi_wp2_with (first
        | (gi_at_builtin; go_must (refine wpListIn_appv _ rfl (.tmp 9) (.tmp 11) 171 rfl 9 i0 _ 1 16 Try.underlying171 hi hz0 hz1 hz2 rfl (by decide) v pre.length (kS pre) rfl (HO.out.gr (by (repeat (first | (with_reducible exact Gr.refl _) | assumption | (with_reducible apply Gr.from_drew) | (with_reducible apply Gr.alloc) | (with_reducible apply Gr.drew) | (with_reducible refine Gr.trans ?_ (by assumption)) | (with_reducible refine Gr.setCell ?_ (by omega) _))))) (some ⟨X'.heap.size, 0, none⟩) 1 1 ([Value.string x]) rfl ((src_newK X' ([Value.string x]) _ 1 rfl (by simp [Value.oneCell']))) (by simp only [maxLen]; omega) (by omega) ?_); intro v2 w2 hA; obtain ⟨a2, c2, rfl⟩ := hA.val; have HAV := Lib.hid hA; have HB2 := Lib.hid ((hA.mdh (fun g h => h)).blk (((Gr.refl X').alloc _).blk HB.out) HNB.out); clear hA; obtain ⟨db2, fb2⟩ := cellsOf HB2.out)
        | fail)
      have z2 := HIZ.out.gr ((Gr.refl X').alloc (.cells ([Value.string x]).toArray 9))
      have z3 := z2.1.step (i := 1) (B' := rowA 9 1 (.slice a2 (pre.length + 1) c2) (pre.length + 1) (kS pre ++ [Value.string x])) rfl HAL.out (HAV.out.mdh (fun g h => h)) (fun k hk => .inl hk) HAV.out.1 (fun k hq => HAV.out.2.1 k hq)
      have z4 := z3.1.step (i := 0) (B' := blkA b (.cells #[.slice a2 (pre.length + 1) c2] 171)) rfl HAL.out ((Mdh.refl (fun k => k = b) w2).setCell (p := ⟨b, 0, none⟩) rfl (.slice a2 (pre.length + 1) c2)) (fun k hk => .inl hk) (blkSet (j := 0) (u := .slice a2 (pre.length + 1) c2) HB2.out) (fun k hk => .inl hk)
      have zM := (z2.2.trans z3.2).trans z4.2
      have zR : SWz w w1 A [blkA b (.cells #[.slice a2 (pre.length + 1) c2] 171), rowA 9 1 (.slice a2 (pre.length + 1) c2) (pre ++ [x]).length (kS (pre ++ [x]))] Z (w2.setCell ⟨b, 0, none⟩ (.slice a2 (pre.length + 1) c2)) := by
        rw [kS_snoc, List.length_append]
        exact z4.1
      exact ⟨zM, _, by simp; omega, zR⟩
  case hend =>
    intro Z D xs W hD hZD hcase hdef
    have hx : ∃ v, xs = L.take 5000 ∧ SWz w w1 A [blkA b (.cells #[v] 171), rowA 9 1 v xs.length (kS xs)] Z W := by
      rcases hcase with ⟨h1, v, h2, h3⟩ | ⟨h1, v, h2, h3⟩
      · exact ⟨v, by rw [show xs = L from h1] at h2 ⊢; rw [List.take_of_length_le (by omega)], h3⟩
      · exact ⟨v, take_pre h1 h2, h3⟩
    obtain ⟨v, rfl, hZ⟩ := hx
    have db := (cellsOf (show W.heap[b]? = _ from hZ.s.get (i := 0) rfl)).1
    have HZW := Lib.hid hZ
    have HD := Lib.hid (And.intro hD (And.intro hZD hdef))
    clear hcase hZ hD hZD hdef
    dsimp only
    go_wp2_with fail
    obtain ⟨hD, hZD, hdef⟩ := HD.out
    have hm : Mdh (fun k => k = D) W (W.putObj D (.deferred none)) := (Mdh.refl (fun k => k = D) W).putObj rfl _
    refine retM1 (D := D) rfl hdef (results_tmp rfl _ _ _) ⟨v, rfl, ⟨(show Own W _ _ _ _ _ from HZW.out.s.get (i := 1) rfl).mdh hm (fun k hk e => HZW.out.z _ (List.mem_cons_of_mem _ (List.mem_cons_self ..)) k hk (e ▸ hZD)), fun q hq => HZW.out.s.n _ (List.mem_cons_of_mem _ (List.mem_cons_self ..)) q hq⟩, HZW.out.s.g.putObj (Nat.le_trans HG1.out.sz hD) _⟩
end Go.Proofs.Ytmdfickejpeofaa

/- slices.Equal at rows of entries and of strings. -/
set_option linter.unusedVariables false
set_option linter.unusedSimpArgs false
namespace Go.Proofs.Ytmdfickejpeofaa
open Go.RowKit Go.Shelf
attribute [local go_sem] OvM cell_ovm obj_ovm
attribute [local go_sem] Oper.semAt_some

theorem ownS_at {w : World} {v : Value} {l : List ByteArray} (h : Own w 9 1 v l.length (kS l)) : ∃ a cap, v = .slice a l.length cap ∧ l.length ≤ cap ∧ cap ≤ maxLen ∧ ∀ i x, l[i]? = some x → ∃ g, a = some ⟨g, 0, none⟩ ∧ g < w.heap.size ∧ v.ownBlock = some g ∧ w.cell? ⟨g, i, none⟩ = some (.string x) := by
  rcases h.2 with ⟨hv, h0⟩ | ⟨g, cap, cur, hv, _, hg, h1, h2, h3, h4⟩
  · have hL : l = [] := List.eq_nil_of_length_eq_zero h0
    subst hL
    exact ⟨none, 0, hv, Nat.le_refl _, by simp [maxLen], fun i x hx => by simp at hx⟩
  · subst hv
    refine ⟨_, cap, rfl, h1, h2, fun i x hx => ⟨g, rfl, blkLt hg, rfl, ?_⟩⟩
    have hc := h.cells (g := g) rfl i (.string x) (by unfold kS; rw [List.getElem?_map, hx]; rfl)
    rwa [show (⟨g, 0, none⟩ : Addr).add i = ⟨g, i, none⟩ by unfold Addr.add; split <;> simp_all] at hc
theorem beq_len (a b : Nat) (h : a ≠ b) : ((a : Int) == (b : Int)) = false := beq_false_of_ne (by omega)
set_option maxRecDepth 40000 in
set_option maxHeartbeats 2000000 in
theorem EqualE (l1 l2 : List En) (v1 v2 : Value) (w : World) (h1 : Own w 53 6 v1 l1.length (rowE l1)) (h2 : Own w 53 6 v2 l2.length (rowE l2)) (hn : l1.length ≤ 1000000) :
    Calls Try.prog 100 #[v1, v2] w fun e w' => e = .returned (.bool (decide (l1 = l2))) ∧ Gr w w' := by
  obtain ⟨a1, cap1, rfl, hc1, hm1, hat1⟩ := ownE_at h1
  obtain ⟨a2, cap2, rfl, hc2, hm2, hat2⟩ := ownE_at h2
  have HA1 := Lib.hid hat1
  have HA2 := Lib.hid hat2
  clear h1 h2 hat1 hat2
  unfold maxLen at hm1 hm2
  by_cases hl : l1.length = l2.length
  · go_enter Try.func100, Try.ntmps100
    rw [← hl]
    rw [← hl] at hc2
    have HL := Lib.hid hl
    clear hl
    go_wp2_with fail
    go_loopw [13] (fun i wx => ∃ k : Nat, k ≤ l1.length ∧ i = .int .i64 k ∧ Hid (Gr w wx) ∧ Hid (l1.take k = l2.take k)) (fun i _ => l1.length - (intOf i).toNat)
    case atStart => exact ⟨0, by omega, rfl, Lib.hid (by (repeat (first | (with_reducible exact Gr.refl _) | assumption | (with_reducible apply Gr.from_drew) | (with_reducible apply Gr.alloc) | (with_reducible apply Gr.drew) | (with_reducible refine Gr.trans ?_ (by assumption)) | (with_reducible refine Gr.setCell ?_ (by omega) _)))), Lib.hid (by simp)⟩
    case round =>
      obtain ⟨k, hk, rfl, HG, HT⟩ := hrel
      by_cases hlt : k < l1.length
      · have hlt' : (k : Int) < l1.length := by omega
        have hx : l1[k]? = some (l1[k]'hlt) := List.getElem?_eq_getElem hlt
        have hy : l2[k]? = some (l2[k]'(by rw [← HL.out]; exact hlt)) := List.getElem?_eq_getElem _
        obtain ⟨g, rfl, z1, z2, c0⟩ := HA1.out k _ hx
        obtain ⟨g', rfl, z3, z4, c1⟩ := HA2.out k _ hy
        clear z1 z2 z3 z4
        have HX := Lib.hid hx
        have HY := Lib.hid hy
        generalize l1[k]'hlt = x at *
        generalize l2[k]'(by rw [← HL.out]; exact hlt) = y at *
        have hr : ∀ i u, (enC x)[i]? = some u → wr.cell? ⟨g, k * 6 + i, none⟩ = some u := fun i u hu => HG.out.keep (c0 i u hu)
        have hs : ∀ i u, (enC y)[i]? = some u → wr.cell? ⟨g', k * 6 + i, none⟩ = some u := fun i u hu => HG.out.keep (c1 i u hu)
        have d0 := hr 0 _ rfl
        have d1 := hr 1 _ rfl
        have d2 := hr 2 _ rfl
        have d3 := hr 3 _ rfl
        have d4 := hr 4 _ rfl
        have d5 := hr 5 _ rfl
        have e0 := hs 0 _ rfl
        have e1 := hs 1 _ rfl
        have e2 := hs 2 _ rfl
        have e3 := hs 3 _ rfl
        have e4 := hs 4 _ rfl
        have e5 := hs 5 _ rfl
        simp only [Nat.add_zero] at d0 d1 d2 d3 d4 d5 e0 e1 e2 e3 e4 e5
        have k1 := fun w => neqE_run x y w
        clear hr hs
        clear c0 c1 hx hy
        by_cases hxy : x = y
        · have hd : decide (x = y) = true := decide_eq_true hxy
          have HXY := Lib.hid hxy
          clear hxy
          go_wp2
          refine wp_region_flo (fun _ => False) [] [] (by kernel_rfl) (by kernel_rfl) (fun _ h => h.elim) ?_
          refine flo_seg 9 rfl ?_
          simp only [List.take_succ_cons, List.take_zero, List.drop_succ_cons, List.drop_zero]
          repeat (go_big_quiet_step (fail))
          refine wpQuiet_nil ?_
          refine flo_nil ?_
          go_wp2
          go_roundw
          case rel => exact ⟨k + 1, by omega, by go_num, Lib.hid (HG.out.trans (by (repeat (first | (with_reducible exact Gr.refl _) | assumption | (with_reducible apply Gr.from_drew) | (with_reducible apply Gr.alloc) | (with_reducible apply Gr.drew) | (with_reducible refine Gr.trans ?_ (by assumption)) | (with_reducible refine Gr.setCell ?_ (by omega) _))))), Lib.hid (by rw [List.take_add_one, List.take_add_one, HT.out, HX.out, HY.out, HXY.out])⟩
          case measure => simp [intOf]; omega
        · have hd : decide (x = y) = false := decide_eq_false hxy
          have HXY := Lib.hid hxy
          clear hxy
          have HNE : Hid (decide (l1 = l2) = false) := Lib.hid (by
            apply decide_eq_false
            rintro rfl
            rw [HX.out] at HY
            exact HXY.out (Option.some.inj HY.out))
          go_wp2
          refine wp_region_flo (fun _ => False) [] [] (by kernel_rfl) (by kernel_rfl) (fun _ h => h.elim) ?_
          refine flo_seg 9 rfl ?_
          simp only [List.take_succ_cons, List.take_zero, List.drop_succ_cons, List.drop_zero]
          repeat (go_big_quiet_step (fail))
          refine wpQuiet_nil ?_
          refine flo_nil ?_
          go_wp2
          go_ret
          exact ⟨ret_bool HNE.out.symm, HG.out.trans (by (repeat (first | (with_reducible exact Gr.refl _) | assumption | (with_reducible apply Gr.from_drew) | (with_reducible apply Gr.alloc) | (with_reducible apply Gr.drew) | (with_reducible refine Gr.trans ?_ (by assumption)) | (with_reducible refine Gr.setCell ?_ (by omega) _))))⟩
      · have hlt' : ¬ (k : Int) < l1.length := by omega
        have hkl : k = l1.length := by omega
        have HEQ : Hid (decide (l1 = l2) = true) := Lib.hid (by
          apply decide_eq_true
          have := HT.out
          rwa [List.take_of_length_le (by omega), List.take_of_length_le (by have := HL.out; omega)] at this)
        clear hkl
        go_wp2
        go_ret
        exact ⟨ret_bool HEQ.out.symm, HG.out⟩
  · have hb := beq_len _ _ hl
    have HNE : Hid (decide (l1 = l2) = false) := Lib.hid (decide_eq_false (fun e => hl (by rw [e])))
    clear hl
    go_enter Try.func100, Try.ntmps100
    go_wp2
    go_ret
    exact ⟨ret_bool HNE.out.symm, Gr.refl _⟩
set_option maxRecDepth 40000 in
set_option maxHeartbeats 2000000 in
theorem EqualS (l1 l2 : List ByteArray) (v1 v2 : Value) (w : World) (h1 : Own w 9 1 v1 l1.length (kS l1)) (h2 : Own w 9 1 v2 l2.length (kS l2)) (hn : l1.length ≤ 1000000) :
    Calls Try.prog 101 #[v1, v2] w fun e w' => e = .returned (.bool (decide (l1 = l2))) ∧ Gr w w' := by
  obtain ⟨a1, cap1, rfl, hc1, hm1, hat1⟩ := ownS_at h1
  obtain ⟨a2, cap2, rfl, hc2, hm2, hat2⟩ := ownS_at h2
  have HA1 := Lib.hid hat1
  have HA2 := Lib.hid hat2
  clear h1 h2 hat1 hat2
  unfold maxLen at hm1 hm2
  by_cases hl : l1.length = l2.length
  · go_enter Try.func101, Try.ntmps101
    rw [← hl]
    rw [← hl] at hc2
    have HL := Lib.hid hl
    clear hl
    go_wp2_with fail
    go_loopw [13] (fun i wx => ∃ k : Nat, k ≤ l1.length ∧ i = .int .i64 k ∧ Hid (Gr w wx) ∧ Hid (l1.take k = l2.take k)) (fun i _ => l1.length - (intOf i).toNat)
    case atStart => exact ⟨0, by omega, rfl, Lib.hid (by (repeat (first | (with_reducible exact Gr.refl _) | assumption | (with_reducible apply Gr.from_drew) | (with_reducible apply Gr.alloc) | (with_reducible apply Gr.drew) | (with_reducible refine Gr.trans ?_ (by assumption)) | (with_reducible refine Gr.setCell ?_ (by omega) _)))), Lib.hid (by simp)⟩
    case round =>
      obtain ⟨k, hk, rfl, HG, HT⟩ := hrel
      by_cases hlt : k < l1.length
      · have hlt' : (k : Int) < l1.length := by omega
        have hx : l1[k]? = some (l1[k]'hlt) := List.getElem?_eq_getElem hlt
        have hy : l2[k]? = some (l2[k]'(by rw [← HL.out]; exact hlt)) := List.getElem?_eq_getElem _
        obtain ⟨g, rfl, z1, z2, c0⟩ := HA1.out k _ hx
        obtain ⟨g', rfl, z3, z4, c1⟩ := HA2.out k _ hy
        clear z1 z2 z3 z4
        have HX := Lib.hid hx
        have HY := Lib.hid hy
        generalize l1[k]'hlt = x at *
        generalize l2[k]'(by rw [← HL.out]; exact hlt) = y at *
        have d0 := HG.out.keep c0
        have e0 := HG.out.keep c1
        clear c0 c1 hx hy
        by_cases hxy : x = y
        · have hd : (x.toList == y.toList) = true := by rw [str_beq]; exact decide_eq_true hxy
          have HXY := Lib.hid hxy
          clear hxy
          go_wp2
          refine wp_region_flo (fun _ => False) [] [] (by kernel_rfl) (by kernel_rfl) (fun _ h => h.elim) ?_
          refine flo_seg 9 rfl ?_
          simp only [List.take_succ_cons, List.take_zero, List.drop_succ_cons, List.drop_zero]
          repeat (go_big_quiet_step (fail))
          refine wpQuiet_nil ?_
          refine flo_nil ?_
          go_wp2
          go_roundw
          case rel => exact ⟨k + 1, by omega, by go_num, Lib.hid (HG.out.trans (by (repeat (first | (with_reducible exact Gr.refl _) | assumption | (with_reducible apply Gr.from_drew) | (with_reducible apply Gr.alloc) | (with_reducible apply Gr.drew) | (with_reducible refine Gr.trans ?_ (by assumption)) | (with_reducible refine Gr.setCell ?_ (by omega) _))))), Lib.hid (by rw [List.take_add_one, List.take_add_one, HT.out, HX.out, HY.out, HXY.out])⟩
          case measure => simp [intOf]; omega
        · have hd : (x.toList == y.toList) = false := by rw [str_beq]; exact decide_eq_false hxy
          have HXY := Lib.hid hxy
          clear hxy
          have HNE : Hid (decide (l1 = l2) = false) := Lib.hid (by
            apply decide_eq_false
            rintro rfl
            rw [HX.out] at HY
            exact HXY.out (Option.some.inj HY.out))
          go_wp2
          refine wp_region_flo (fun _ => False) [] [] (by kernel_rfl) (by kernel_rfl) (fun _ h => h.elim) ?_
          refine flo_seg 9 rfl ?_
          simp only [List.take_succ_cons, List.take_zero, List.drop_succ_cons, List.drop_zero]
          repeat (go_big_quiet_step (fail))
          refine wpQuiet_nil ?_
          refine flo_nil ?_
          go_wp2
          go_ret
          exact ⟨ret_bool HNE.out.symm, HG.out.trans (by (repeat (first | (with_reducible exact Gr.refl _) | assumption | (with_reducible apply Gr.from_drew) | (with_reducible apply Gr.alloc) | (with_reducible apply Gr.drew) | (with_reducible refine Gr.trans ?_ (by assumption)) | (with_reducible refine Gr.setCell ?_ (by omega) _))))⟩
      · have hlt' : ¬ (k : Int) < l1.length := by omega
        have hkl : k = l1.length := by omega
        have HEQ : Hid (decide (l1 = l2) = true) := Lib.hid (by
          apply decide_eq_true
          have := HT.out
          rwa [List.take_of_length_le (by omega), List.take_of_length_le (by have := HL.out; omega)] at this)
        clear hkl
        go_wp2
        go_ret
        exact ⟨ret_bool HEQ.out.symm, HG.out⟩
  · have hb := beq_len _ _ hl
    have HNE : Hid (decide (l1 = l2) = false) := Lib.hid (decide_eq_false (fun e => hl (by rw [e])))
    clear hl
    go_enter Try.func101, Try.ntmps101
    go_wp2
    go_ret
    exact ⟨ret_bool HNE.out.symm, Gr.refl _⟩
end Go.Proofs.Ytmdfickejpeofaa

/- take at an index's own iterators; rows that a literal lays. -/
set_option linter.unusedVariables false
set_option linter.unusedSimpArgs false
namespace Go.Proofs.Ytmdfickejpeofaa
open Go.RowKit Go.Shelf

theorem take_of {w : World} {p : Option Addr} {X : IX} {S : Nat → Prop} (h : IXP w p X S) (k : ByteArray) (bb bk : Nat) (hbb : w.cell? ⟨bb, 0, none⟩ = some (.pointer p)) (hbk : w.cell? ⟨bk, 0, none⟩ = some (.string k)) :
    Calls Try.prog 96 #[.func (.func 142) #[] #[.pointer (some ⟨bb, 0, none⟩), .pointer (some ⟨bk, 0, none⟩)]] w fun e w' => ∃ v, e = .returned v ∧ Nw w w' 53 6 v ((X.of k).take 5000).length (rowE ((X.of k).take 5000)) ∧ Gr w w' :=
  TakeE (enters_of Try.func142 (by kernel_rfl) rfl) (SeqOfP h k bb bk hbb hbk) (fun q hq => by
    rcases hq with rfl | rfl | hq
    · exact World.block_lt_of_cell? w _ hbb
    · exact World.block_lt_of_cell? w _ hbk
    · exact h.lt q hq)
theorem take_slot {w : World} {p : Option Addr} {X : IX} {S : Nat → Prop} (h : IXP w p X S) (s : Int) (bb bk : Nat) (hbb : w.cell? ⟨bb, 0, none⟩ = some (.pointer p)) (hbk : w.cell? ⟨bk, 0, none⟩ = some (.int .i64 s)) :
    Calls Try.prog 96 #[.func (.func 152) #[] #[.pointer (some ⟨bb, 0, none⟩), .pointer (some ⟨bk, 0, none⟩)]] w fun e w' => ∃ v, e = .returned v ∧ Nw w w' 53 6 v ((X.slot s).take 5000).length (rowE ((X.slot s).take 5000)) ∧ Gr w w' :=
  TakeE (enters_of Try.func152 (by kernel_rfl) rfl) (SeqSlotP h s bb bk hbb hbk) (fun q hq => by
    rcases hq with rfl | rfl | hq
    · exact World.block_lt_of_cell? w _ hbb
    · exact World.block_lt_of_cell? w _ hbk
    · exact h.lt q hq)
theorem take_keys {w : World} {p : Option Addr} {X : IX} {S : Nat → Prop} (h : IXP w p X S) (bb : Nat) (hbb : w.cell? ⟨bb, 0, none⟩ = some (.pointer p)) :
    Calls Try.prog 98 #[.func (.func 153) #[] #[.pointer (some ⟨bb, 0, none⟩)]] w fun e w' => ∃ v, e = .returned v ∧ Nw w w' 9 1 v (X.ks.take 5000).length (kS (X.ks.take 5000)) ∧ Gr w w' :=
  TakeS (enters_of Try.func153 (by kernel_rfl) rfl) (SeqKeysP h bb hbb) (fun q hq => by
    rcases hq with rfl | hq
    · exact World.block_lt_of_cell? w _ hbb
    · exact h.lt q hq)
theorem own_lit (w : World) (t : TypeId) (K n : Nat) (xs : List Value) (hx : xs.length = n * K) (hn : n ≤ 100000) : Own (w.alloc (.cells xs.toArray t)) t K (.slice (some ⟨w.heap.size, 0, none⟩) n n) n xs :=
  Own.ofParts (blkNew w _) (Nat.le_refl _) (by unfold maxLen; omega) (by simpa using hx) (by rw [List.take_of_length_le (by rw [← hx]; exact Nat.le_refl _)])
end Go.Proofs.Ytmdfickejpeofaa

/- liveness: Needed, Keep, Size, Redundant. -/
set_option linter.unusedVariables false
set_option linter.unusedSimpArgs false
namespace Go.Proofs.Ytmdfickejpeofaa
open Go.RowKit Go.Shelf
attribute [local go_sem] OvM cell_ovm obj_ovm
attribute [local go_sem] Oper.semAt_some

def IX.hasE (X : IX) (e : En) : Bool := (X.of e.key).any (fun o => decide (o = e))
def neededV (X : IX) (e : En) : Value := if X.slots = [] then .tuple #[.bool false, .int .i64 1] else if X.hasE e = false then .tuple #[.bool false, .int .i64 5] else .tuple #[.bool (X.needs e), .int .i64 0]
set_option maxRecDepth 40000 in
theorem Need1 (o e : En) (be : Nat) (w : World) (h : w.heap[be]? = some (boxE e)) :
    Calls Try.prog 117 #[enV o, .pointer (some ⟨be, 0, none⟩)] w fun r w' => r = .returned (.bool (decide (o = e))) ∧ Gr w w' := by
  have c := (cellsOf h).1
  have l := blkLt h
  have k1 := eqlE_run o e
  simp only [enV]
  go_enter Try.func117, Try.ntmps117
  go_wp2
  go_ret
  exact ⟨rfl, by (repeat (first | (with_reducible exact Gr.refl _) | assumption | (with_reducible apply Gr.from_drew) | (with_reducible apply Gr.alloc) | (with_reducible apply Gr.drew) | (with_reducible refine Gr.trans ?_ (by assumption)) | (with_reducible refine Gr.setCell ?_ (by omega) _)))⟩
theorem NeedP (e : En) (be : Nat) (w : World) (h : w.heap[be]? = some (boxE e)) : PredC 117 #[.pointer (some ⟨be, 0, none⟩)] (fun o => decide (o = e)) (fun _ => False) w :=
  ⟨enters_of Try.func117 (by kernel_rfl) rfl, fun x w' m => Need1 x e be w' (m.blk h (fun h => h))⟩
set_option maxRecDepth 40000 in
set_option maxHeartbeats 2000000 in
theorem Needed_any {w : World} {p : Option Addr} {X : IX} {S : Nat → Prop} (h : IXP w p X S) (e : En) : Calls Try.prog 37 #[.pointer p, enV e] w fun r w' => r = .returned (neededV X e) ∧ Gr w w' := by
  have H := Lib.hid h
  clear h
  simp only [enV]
  have HE : Hid (neededV X e = if X.slots = [] then .tuple #[.bool false, .int .i64 1] else if X.hasE e = false then .tuple #[.bool false, .int .i64 5] else .tuple #[.bool (X.needs e), .int .i64 0]) := Lib.hid rfl
  go_enter Try.func37, Try.ntmps37
  go_wp2_with fail
  obtain ⟨b, hb⟩ : ∃ q, q = w.heap.size := ⟨_, rfl⟩
  obtain ⟨w0, hw0⟩ : ∃ y, y = w.alloc (boxE e) := ⟨_, rfl⟩
  have H0 : Hid (Gr w w0 ∧ w0.heap[b]? = some (boxE e)) := Lib.hid (by rw [hw0, hb]; exact ⟨(Gr.refl w).alloc _, blkNew w _⟩)
  rw [← show w0 = w.alloc (.cells #[.int .i64 e.seq, .string e.key, .bool e.del, .int .i64 e.slot, .int .i64 e.off, .int .i64 e.size] 53) from hw0, ← hb]
  clear hw0 hb
  refine (Copy_any (H.out.gr H0.out.1)).mono ?_
  rintro r w1 ⟨q, rfl, hg, hq, _⟩
  have H1 := Lib.hid (And.intro (H0.out.1.trans hg) (hg.blk H0.out.2))
  have c1 := (cellsOf H1.out.2).1
  clear hg
  by_cases h0 : X.slots = []
  · have hq0 := hq.2 h0
    have HR : Hid (neededV X e = .tuple #[.bool false, .int .i64 1]) := Lib.hid (by rw [HE.out, if_pos h0])
    clear h0 hq
    subst hq0
    go_wp2
    go_ret2
    exact ⟨by rw [HR.out] <;> rfl, H1.out.1⟩
  · have HR : Hid (neededV X e = if X.hasE e = false then .tuple #[.bool false, .int .i64 5] else .tuple #[.bool (X.needs e), .int .i64 0]) := Lib.hid (by rw [HE.out, if_neg h0])
    obtain ⟨q', rfl⟩ : ∃ q', q = some q' := by
      cases q with
      | none => exact absurd (hq.1 rfl) h0
      | some q' => exact ⟨q', rfl⟩
    clear h0 hq
    go_wp2_with fail
    refine (any_any (H.out.gr H1.out.1) e.key (NeedP e b w1 H1.out.2)).mono ?_
    rintro r w2 ⟨rfl, hg⟩
    rw [show (X.of e.key).any (fun o => decide (o = e)) = X.hasE e from rfl]
    have H2 := Lib.hid (And.intro (H1.out.1.trans hg) (hg.blk H1.out.2))
    clear hg c1
    cases h1 : X.hasE e with
    | false =>
      have HR2 : Hid (neededV X e = .tuple #[.bool false, .int .i64 5]) := Lib.hid (by rw [HR.out, if_pos h1])
      clear h1
      go_wp2
      go_ret2
      exact ⟨by rw [HR2.out] <;> rfl, H2.out.1⟩
    | true =>
      have HR2 : Hid (neededV X e = .tuple #[.bool (X.needs e), .int .i64 0]) := Lib.hid (by rw [HR.out, if_neg (by rw [h1]; simp)])
      have c2 := (cellsOf H2.out.2).1
      clear h1
      go_wp2_with fail
      refine (needed_any (H.out.gr H2.out.1) e).mono ?_
      rintro r w3 ⟨rfl, hg⟩
      have H3 := Lib.hid (H2.out.1.trans hg)
      clear hg
      go_wp2
      go_ret2
      exact ⟨by rw [HR2.out] <;> rfl, H3.out⟩

/-! ### Keep -/
def keepL (X : IX) (s : Int) : List En := (X.slot s).filter X.needs
def keepC (X : IX) (s : Int) : Int := if X.slots = [] then 1 else if X.has s = false then 3 else 0
theorem keep_out {X : IX} {s : Int} (h : keepC X s ≠ 0) : keepL X s = [] := by
  unfold keepL
  rw [slot_out]
  · rfl
  · unfold keepC at h
    split at h
    · rename_i h0
      simp [IX.has, h0]
    · split at h
      · assumption
      · exact absurd rfl h
def KeepPost (X : IX) (s : Int) (w : World) (e : Ending) (w' : World) : Prop := ∃ v, e = .returned (.tuple #[v, .int .i64 (keepC X s)]) ∧ Nw w w' 53 6 v (keepL X s).length (rowE (keepL X s)) ∧ Gr w w'
theorem filter_yes {α : Type} {p : α → Bool} {l : List α} {x : α} (h : p x = true) : (l ++ [x]).filter p = l.filter p ++ [x] := by simp [h]
theorem filter_no {α : Type} {p : α → Bool} {l : List α} {x : α} (h : p x = false) : (l ++ [x]).filter p = l.filter p := by simp [h]
set_option maxRecDepth 40000 in
set_option maxHeartbeats 8000000 in
theorem Keep_any {w : World} {p : Option Addr} {X : IX} {S : Nat → Prop} (h : IXP w p X S) (s : Int) : Calls Try.prog 39 #[.pointer p, .int .i64 s] w (KeepPost X s w) := by
  obtain ⟨i0, hi, hz0, hz1, hz2⟩ := info_parts infoIten
  have H := Lib.hid h
  have HLE := Lib.hid (h.ok.slot_le s)
  have HHAS := Lib.hid (show X.has s = decide (0 ≤ s ∧ s < X.slots.length) from rfl)
  clear h
  refine calls_of_wp_marks Try.func39 rfl ?_
  simp only [Try.ntmps39, List.size_toArray, List.length_cons, List.length_nil, Nat.reduceAdd, Nat.reduceSub, Array.replicate_succ, Array.replicate_zero, List.push_toArray, List.append_toArray, List.nil_append, List.cons_append]
  go_wp2_with fail
  obtain ⟨b2, hb2⟩ : ∃ q, q = w.heap.size := ⟨_, rfl⟩
  obtain ⟨w0, hw0⟩ : ∃ y, y = w.alloc (.cells #[.pointer p] 46) := ⟨_, rfl⟩
  have H0 : Hid (SW w [blkA b2 (.cells #[.pointer p] 46)] w0) := Lib.hid (by rw [hw0, hb2]; exact (SW.start w).alloc _)
  rw [← hw0, ← hb2]
  clear hw0 hb2
  refine (Copy_any (H.out.gr H0.out.g)).mono ?_
  rintro r w1 ⟨q, rfl, hg, hq, _⟩
  have H1 := Lib.hid (H0.out.gr hg)
  have c1 := (cellsOf (show w1.heap[b2]? = _ from H1.out.get (i := 0) rfl)).1
  clear hg
  by_cases h0 : X.slots = []
  · have hq0 := hq.2 h0
    have HC : Hid (keepC X s = 1) := Lib.hid (by unfold keepC; rw [if_pos h0])
    have HL : Hid (keepL X s = []) := Lib.hid (keep_out (by rw [HC.out]; decide))
    clear h0 hq
    subst hq0
    go_wp2_with fail
    exact retM0 (v := .tuple #[.slice none 0 0, .int .i64 1]) (by simp [results, Try.results39, go_sem]) rfl ⟨_, by rw [HC.out], by rw [HL.out]; exact ⟨nilRow _ _ _, fun k hk => by cases hk⟩, H1.out.g⟩
  · obtain ⟨q', rfl⟩ : ∃ q', q = some q' := by
      cases q with
      | none => exact absurd (hq.1 rfl) h0
      | some q' => exact ⟨q', rfl⟩
    have HNE := Lib.hid h0
    clear h0 hq
    cases hs : X.has s with
    | false =>
      have HC : Hid (keepC X s = 3) := Lib.hid (by unfold keepC; rw [if_neg HNE.out, if_pos hs])
      have HL : Hid (keepL X s = []) := Lib.hid (keep_out (by rw [HC.out]; decide))
      have hh := HHAS.out
      rw [hs] at hh
      have hh' : ¬ (0 ≤ s ∧ s < X.slots.length) := of_decide_eq_false hh.symm
      clear hs hh
      by_cases hs0 : s < 0
      · go_wp2_with fail
        exact retM0 (v := .tuple #[.slice none 0 0, .int .i64 3]) (by simp [results, Try.results39, go_sem]) rfl ⟨_, by rw [HC.out], by rw [HL.out]; exact ⟨nilRow _ _ _, fun k hk => by cases hk⟩, H1.out.g⟩
      · have hs1 : (X.slots.length : Int) ≤ s := by omega
        clear hh'
        go_wp2_with (go_at_call 87; refine (Slots_any (H.out.gr H1.out.g)).mono ?_; rintro r w2 ⟨rfl, rfl⟩)
        exact retM0 (v := .tuple #[.slice none 0 0, .int .i64 3]) (by simp [results, Try.results39, go_sem]) rfl ⟨_, by rw [HC.out], by rw [HL.out]; exact ⟨nilRow _ _ _, fun k hk => by cases hk⟩, H1.out.g⟩
    | true =>
      have HC : Hid (keepC X s = 0) := Lib.hid (by unfold keepC; rw [if_neg HNE.out, if_neg (by rw [hs]; simp)])
      have hh := HHAS.out
      rw [hs] at hh
      obtain ⟨hs0, hs1⟩ := of_decide_eq_true hh.symm
      have hs0' : ¬ s < 0 := by omega
      have hs1' : ¬ (X.slots.length : Int) ≤ s := by omega
      clear hs hh hs0 hs1
      have lb2 := blkLt (show w1.heap[b2]? = _ from H1.out.get (i := 0) rfl)
      go_wp2_with (first
        | (go_at_call 87; refine (Slots_any (H.out.gr H1.out.g)).mono ?_; rintro r w2 ⟨rfl, rfl⟩)
        | fail)
      obtain ⟨bo, hbo⟩ : ∃ q, q = w1.heap.size := ⟨_, rfl⟩
      have HS2 : Hid (SW w [blkA bo (.cells #[.slice none 0 0] 45), rowA 53 6 (.slice none 0 0) 0 [], blkA b2 (.cells #[.pointer p] 46)] (w1.alloc (.cells #[.slice none 0 0] 45))) := Lib.hid (by
        rw [hbo]
        exact (H1.out.new (Gr.refl _) (A := rowA 53 6 (.slice none 0 0) 0 []) (nilRow _ _ _) (fun k hk => by cases hk)).alloc _)
      obtain ⟨w2, hw2⟩ : ∃ y, y = w1.alloc (.cells #[.slice none 0 0] 45) := ⟨_, rfl⟩
      rw [← hw2] at HS2
      rw [← hw2, ← hbo]
      clear hw2 hbo c1 hs0' hs1' lb2
      refine (Slot_any p s _).mono ?_
      rintro e' w3 ⟨bb, bk, rfl, h1, h2, h3, h4, hg⟩
      have HS3 := Lib.hid (HS2.out.gr hg)
      have HI := Lib.hid (H.out.gr HS3.out.g)
      have HSEQ := Lib.hid (SeqSlotP HI.out s bb bk h1 h2)
      have HA : Hid (∀ q, (q = bb ∨ q = bk ∨ S q) → q < w3.heap.size) := Lib.hid (fun q hq => by
        have l1 := World.block_lt_of_cell? w3 ⟨bb, 0, none⟩ h1
        have l2 := World.block_lt_of_cell? w3 ⟨bk, 0, none⟩ h2
        rcases hq with rfl | rfl | hq
        · exact l1
        · exact l2
        · exact HI.out.lt q hq)
      have HZ : Hid (SWz w w3 (fun q => q = bb ∨ q = bk ∨ S q) [blkA bo (.cells #[.slice none 0 0] 45), rowA 53 6 (.slice none 0 0) 0 [], blkA b2 (.cells #[.pointer p] 46)] (fun _ => False) w3) := Lib.hid (SWz.start HS3.out (fun B hB k hk ha => by
        have l1 := HS2.out.s.lt hB k hk
        have l2 := HS2.out.n B hB k hk
        rcases ha with rfl | rfl | ha
        · omega
        · omega
        · have := H.out.lt k ha; omega))
      clear h1 h2 h3 h4 hg
      go_wp2_with fail
      apply wp_rangeFunc_zx (gf := 152) (lb := #[.pointer (some ⟨bb, 0, none⟩), .pointer (some ⟨bk, 0, none⟩)]) rfl (enters_of Try.func152 (by kernel_rfl) rfl) HSEQ.out (Mdh.refl _ w3) HA.out (fun _ => rfl)
        (fun Z pre X' => ∃ v, SWz w w3 (fun q => q = bb ∨ q = bk ∨ S q) [blkA bo (.cells #[v] 45), rowA 53 6 v (pre.filter X.needs).length (rowE (pre.filter X.needs)), blkA b2 (.cells #[.pointer p] 46)] Z X')
        (fun _ _ _ => False) (fun _ _ _ => False)
        (Apart.ex fun v => SWz.apart HS3.out.g.sz (fun pre : List En => [blkA bo (.cells #[v] 45), rowA 53 6 v (pre.filter X.needs).length (rowE (pre.filter X.needs)), blkA b2 (.cells #[.pointer p] 46)])) apart_no apart_no
        ⟨_, HZ.out⟩ (fun Z pre X' ⟨v, h⟩ => h.frm HS3.out.g) (fun x => boxE x)
        _ ?assign ?body ?hend ?hret
      case hret => intro _ _ _ _ _ _ _ h; exact h.elim
      case assign =>
        intro l x bx X' K hbx hK
        dsimp only [encE, enV]
        gi_wp2
        rw [← hbx]
        exact hK
      case body =>
        intro l Z pre x bx X' hI hbx hx hzx hzl hlr hsp
        obtain ⟨v, hI⟩ := hI
        have HIZ := Lib.hid hI
        have HX := Lib.hid hx
        have HB2 := Lib.hid (show X'.heap[b2]? = _ from hI.s.get (i := 2) rfl)
        have HPL : Hid (pre.length ≤ 511) := Lib.hid (by have := hsp.length_le; have := HLE.out; simp at *; omega)
        have dx := (cellsOf HX.out).1
        have d2 := (cellsOf HB2.out).1
        have HIX : Hid (IXP X' p X S) := Lib.hid (H.out.gr hI.s.g)
        clear hI hbx hx hzx hzl hlr hsp
        gi_wp2_with fail
        refine ⟨trivial, (CallsIn.inRound l (callsIn_wide.2 (needed_any HIX.out x))).mono ?_⟩
        rintro e w9 ⟨rfl, hg9⟩
        have HZ9 := Lib.hid (HIZ.out.gr hg9)
        have HX9 := Lib.hid (hg9.blk HX.out)
        clear hg9 d2 dx
        cases hnx : X.needs x with
        | false =>
          have HN := Lib.hid (filter_no (l := pre) hnx)
          clear hnx
          gi_wp2_with fail
          exact ⟨HZ9.out.2, v, by rw [HN.out]; exact HZ9.out.1⟩
        | true =>
          have HN := Lib.hid (filter_yes (l := pre) hnx)
          have HFL : Hid ((pre.filter X.needs).length ≤ 511) := Lib.hid (Nat.le_trans (List.length_filter_le _ _) HPL.out)
          generalize pre.filter X.needs = kept at *
          have HO := Lib.hid (show Own w9 53 6 v kept.length (rowE kept) from HZ9.out.1.s.get (i := 1) rfl)
          have HB := Lib.hid (show w9.heap[bo]? = _ from HZ9.out.1.s.get (i := 0) rfl)
          have dx := (cellsOf HX9.out).1
          have lx := blkLt HX9.out
          obtain ⟨db, fb⟩ := cellsOf HB.out
          have lbb := blkLt HB.out
          have HNB : Hid (¬ v.ownBlock = some bo) := Lib.hid (own_ne HO.out HB.out (by decide))
          have hfl := HFL.out
          clear hnx
          gi_wp2_with (first
            | (gi_at_builtin; go_must (refine wpListIn_appv _ rfl (.tmp 28) (.tmp 30) 45 rfl 53 i0 _ 6 56 Try.underlying45 hi hz0 hz1 hz2 rfl (by decide) v kept.length (rowE kept) rfl (HO.out.gr (by (repeat (first | (with_reducible exact Gr.refl _) | assumption | (with_reducible apply Gr.from_drew) | (with_reducible apply Gr.alloc) | (with_reducible apply Gr.drew) | (with_reducible refine Gr.trans ?_ (by assumption)) | (with_reducible refine Gr.setCell ?_ (by omega) _))))) (some ⟨w9.heap.size, 0, none⟩) 1 1 (enC x) rfl ((src_newK w9 (enC x) _ 6 rfl (enC_one x))) (by simp only [maxLen]; omega) (by omega) ?_); intro v2 w10 hA; obtain ⟨a2, c2, rfl⟩ := hA.val; have HAV := Lib.hid hA; have HB2 := Lib.hid ((hA.mdh (fun g h => h)).blk (((Gr.refl w9).alloc _).blk HB.out) HNB.out); clear hA; obtain ⟨db2, fb2⟩ := cellsOf HB2.out)
            | fail)
          have z2 := HZ9.out.1.gr ((Gr.refl w9).alloc (.cells (enC x).toArray 53))
          have z3 := z2.1.step (i := 1) (B' := rowA 53 6 (.slice a2 (kept.length + 1) c2) (kept.length + 1) (rowE kept ++ enC x)) rfl HA.out (HAV.out.mdh (fun g h => h)) (fun k hk => .inl hk) HAV.out.1 (fun k hq => HAV.out.2.1 k hq)
          have z4 := z3.1.step (i := 0) (B' := blkA bo (.cells #[.slice a2 (kept.length + 1) c2] 45)) rfl HA.out ((Mdh.refl (fun k => k = bo) w10).setCell (p := ⟨bo, 0, none⟩) rfl (.slice a2 (kept.length + 1) c2)) (fun k hk => .inl hk) (blkSet (j := 0) (u := .slice a2 (kept.length + 1) c2) HB2.out) (fun k hk => .inl hk)
          refine ⟨((HZ9.out.2.trans z2.2).trans z3.2).trans z4.2, .slice a2 (kept.length + 1) c2, ?_⟩
          rw [HN.out, rowE_snoc, List.length_append]
          exact z4.1
      case hend =>
        intro Z D xs W hD hZD hcase hdef
        obtain ⟨hxs, v, hI⟩ := hcase.elim (fun h => h) (fun h => h.2.elim)
        have hxs' : xs = X.slot s := hxs
        subst hxs'
        have db := (cellsOf (show W.heap[bo]? = _ from hI.s.get (i := 0) rfl)).1
        have HZW := Lib.hid hI
        have HD := Lib.hid (And.intro hD (And.intro hZD hdef))
        clear hcase hI hD hZD hdef hxs
        dsimp only
        go_wp2_with fail
        obtain ⟨hD, hZD, hdef⟩ := HD.out
        have hm : Mdh (fun k => k = D) W (W.putObj D (.deferred none)) := (Mdh.refl (fun k => k = D) W).putObj rfl _
        refine retM1 (D := D) (v := .tuple #[v, .int .i64 0]) rfl hdef (by simp [results, Try.results39, go_sem]) ⟨v, by rw [HC.out], ⟨(show Own W _ _ _ _ _ from HZW.out.s.get (i := 1) rfl).mdh hm (fun k hk e => HZW.out.z _ (List.mem_cons_of_mem _ (List.mem_cons_self ..)) k hk (e ▸ hZD)), fun q hq => HZW.out.s.n _ (List.mem_cons_of_mem _ (List.mem_cons_self ..)) q hq⟩, HZW.out.s.g.putObj (Nat.le_trans HS3.out.g.sz hD) _⟩
end Go.Proofs.Ytmdfickejpeofaa

/- liveness: Size, Redundant; the reference's Same. -/
set_option linter.unusedVariables false
set_option linter.unusedSimpArgs false
namespace Go.Proofs.Ytmdfickejpeofaa
open Go.RowKit Go.Shelf
attribute [local go_sem] OvM cell_ovm obj_ovm
attribute [local go_sem] Oper.semAt_some

def sumZ (l : List En) : Int := l.foldl (fun a e => a + e.size) 0
theorem sumZ_snoc (l : List En) (e : En) : sumZ (l ++ [e]) = sumZ l + e.size := by simp [sumZ]
theorem sumZ_le' : ∀ (l : List En) (a : Int), (∀ e ∈ l, 0 ≤ e.size ∧ e.size ≤ 8192) → a ≤ l.foldl (fun a e => a + e.size) a ∧ l.foldl (fun a e => a + e.size) a ≤ a + 8192 * l.length
  | [], a, _ => by simp
  | e :: l, a, h => by
    have h1 := h e (by simp)
    have h2 := sumZ_le' l (a + e.size) (fun x hx => h x (List.mem_cons_of_mem _ hx))
    simp only [List.foldl_cons, List.length_cons, Int.natCast_add] at *
    omega
theorem sumZ_le (l : List En) (h : ∀ e ∈ l, 0 ≤ e.size ∧ e.size ≤ 8192) : 0 ≤ sumZ l ∧ sumZ l ≤ 8192 * l.length := by
  have := sumZ_le' l 0 h
  simpa [sumZ] using this
theorem keepL_ok {X : IX} (h : X.Wf) (s : Int) : (keepL X s).length ≤ 512 ∧ ∀ e ∈ keepL X s, 0 ≤ e.size ∧ e.size ≤ 8192 := by
  refine ⟨Nat.le_trans (List.length_filter_le _ _) (h.slot_le s), fun e he => ?_⟩
  have := (valid_iff e).1 ((h.slotOk s).e e (List.mem_filter.1 he).1).2
  omega
theorem take_sub {l : List En} {k : Nat} {P : En → Prop} (h : ∀ e ∈ l, P e) : ∀ e ∈ l.take k, P e := fun e he => h e (List.mem_of_mem_take he)
set_option maxRecDepth 40000 in
set_option maxHeartbeats 4000000 in
theorem Size_any {w : World} {p : Option Addr} {X : IX} {S : Nat → Prop} (h : IXP w p X S) (s : Int) : Calls Try.prog 41 #[.pointer p, .int .i64 s] w fun e w' => e = .returned (.tuple #[.int .i64 (sumZ (keepL X s)), .int .i64 (keepC X s)]) ∧ Gr w w' := by
  have H := Lib.hid h
  obtain ⟨hk1, hk2⟩ := keepL_ok h.ok s
  have HK := Lib.hid (Keep_any h s)
  obtain ⟨L, hL⟩ : ∃ L, L = keepL X s := ⟨_, rfl⟩
  have HL := Lib.hid hL
  obtain ⟨c, hc⟩ : ∃ c, c = keepC X s := ⟨_, rfl⟩
  have HC := Lib.hid hc
  rw [← hc]
  rw [← hL]
  rw [← hL] at hk1 hk2
  have HK2 := Lib.hid hk2
  clear h hk2 hL hc
  go_enter Try.func41, Try.ntmps41
  go_wp2_with fail
  refine Calls.mono HK.out ?_
  rintro e w1 ⟨v, rfl, hr, hg⟩
  rw [← HL.out] at hr
  rw [← HC.out]
  obtain ⟨a, cap, rfl, _, hcm, hat⟩ := ownE_at hr.own
  have HAT := Lib.hid hat
  have HG := Lib.hid hg
  unfold maxLen at hcm
  clear hr hat hg
  go_wp2_with fail
  go_loopw [8, 19] (fun t8 t19 wx => ∃ k : Nat, k ≤ L.length ∧ t19 = .int .i64 k ∧ t8 = .int .i64 (sumZ (L.take k)) ∧ Hid (Gr w1 wx)) (fun _ t19 _ => L.length - (intOf t19).toNat)
  case atStart => exact ⟨0, by omega, rfl, rfl, Lib.hid (Gr.refl _)⟩
  case round =>
    obtain ⟨k, hk, rfl, rfl, HR⟩ := hrel
    by_cases hlt : k < L.length
    · have hlt' : (k : Int) < L.length := by omega
      have hx : L[k]? = some (L[k]'hlt) := List.getElem?_eq_getElem hlt
      obtain ⟨g, rfl, z1, z2, hc⟩ := HAT.out k _ hx
      clear z1 z2
      have hv := HK2.out _ (List.mem_of_getElem? hx)
      have hs := sumZ_le (L.take k) (take_sub HK2.out)
      rw [List.length_take] at hs
      have HSN : Hid (sumZ (L.take (k + 1)) = sumZ (L.take k) + (L[k]'hlt).size) := Lib.hid (by rw [List.take_add_one, hx]; exact sumZ_snoc _ _)
      generalize L[k]'hlt = x at *
      generalize sumZ (L.take k) = m at *
      have hr : ∀ i u, (enC x)[i]? = some u → wr.cell? ⟨g, k * 6 + i, none⟩ = some u := fun i u hu => HR.out.keep (hc i u hu)
      have d0 := hr 0 _ rfl
      have d1 := hr 1 _ rfl
      have d2 := hr 2 _ rfl
      have d3 := hr 3 _ rfl
      have d4 := hr 4 _ rfl
      have d5 := hr 5 _ rfl
      simp only [Nat.add_zero] at d0 d1 d2 d3 d4 d5
      obtain ⟨hv1, hv2⟩ := hv
      obtain ⟨hs1, hs2⟩ := hs
      have hs3 : m ≤ 8192 * 512 := by omega
      clear hr hc hx hs2
      go_wp2
      go_roundw
      case rel => exact ⟨k + 1, by omega, by go_num, by rw [HSN.out] <;> go_num, Lib.hid (HR.out.alloc _)⟩
      case measure => simp [intOf]; omega
    · have hlt' : ¬ (k : Int) < L.length := by omega
      have hkl : k = L.length := by omega
      have HS : Hid (sumZ (L.take k) = sumZ L) := Lib.hid (by rw [List.take_of_length_le (by omega)])
      clear hkl
      go_wp2
      go_ret2
      exact ⟨by rw [HS.out] <;> rfl, HG.out.trans HR.out⟩
set_option maxRecDepth 40000 in
theorem Redundant_any {w : World} {p : Option Addr} {X : IX} {S : Nat → Prop} (h : IXP w p X S) (s : Int) : Calls Try.prog 43 #[.pointer p, .int .i64 s] w fun e w' => e = .returned (.tuple #[.bool (decide (keepC X s = 0 ∧ keepL X s = [])), .int .i64 (keepC X s)]) ∧ Gr w w' := by
  have HK := Lib.hid (Keep_any h s)
  obtain ⟨L, hL⟩ : ∃ L, L = keepL X s := ⟨_, rfl⟩
  obtain ⟨c, hc⟩ : ∃ c, c = keepC X s := ⟨_, rfl⟩
  have HL := Lib.hid hL
  have HC := Lib.hid hc
  obtain ⟨r, hr⟩ : ∃ r : Bool, r = decide (keepC X s = 0 ∧ keepL X s = []) := ⟨_, rfl⟩
  have HR : Hid (r = decide (c = 0 ∧ L = [])) := Lib.hid (by rw [hr, hc, hL])
  rw [← hr, ← hc]
  clear h hL hc hr
  go_enter Try.func43, Try.ntmps43
  go_wp2_with fail
  refine Calls.mono HK.out ?_
  rintro e w1 ⟨v, rfl, hr, hg⟩
  rw [← HL.out] at hr
  rw [← HC.out]
  obtain ⟨a, cap, rfl, _, _, _⟩ := ownE_at hr.own
  have HG := Lib.hid hg
  clear hr hg
  by_cases hc0 : c = 0
  · subst hc0
    by_cases hl0 : L.length = 0
    · have hE : Hid (r = true) := Lib.hid (by rw [HR.out, List.eq_nil_of_length_eq_zero hl0]; rfl)
      rw [hl0]
      clear hl0
      go_wp2
      go_ret2
      exact ⟨by rw [hE.out] <;> rfl, HG.out⟩
    · have hE : Hid (r = false) := Lib.hid (by rw [HR.out]; exact decide_eq_false (fun h => hl0 (by rw [h.2]; rfl)))
      have hb : ((L.length : Int) == 0) = false := beq_false_of_ne (by omega)
      clear hl0
      go_wp2
      go_ret2
      exact ⟨by rw [hE.out] <;> rfl, HG.out⟩
  · have hE : Hid (r = false) := Lib.hid (by rw [HR.out]; exact decide_eq_false (fun h => hc0 h.1))
    have hb : (c == 0) = false := beq_false_of_ne hc0
    clear hc0
    go_wp2
    go_ret2
    exact ⟨by rw [hE.out] <;> rfl, HG.out⟩
set_option maxRecDepth 40000 in
set_option maxHeartbeats 2000000 in
theorem SameE (l1 l2 : List En) (v1 v2 : Value) (w : World) (h1 : Own w 53 6 v1 l1.length (rowE l1)) (h2 : Own w 53 6 v2 l2.length (rowE l2)) (hn : l1.length ≤ 1000000) :
    Calls Try.prog 45 #[v1, v2] w fun e w' => e = .returned (.bool (decide (l1 = l2))) ∧ Gr w w' := by
  obtain ⟨a1, cap1, rfl, hc1, hm1, hat1⟩ := ownE_at h1
  obtain ⟨a2, cap2, rfl, hc2, hm2, hat2⟩ := ownE_at h2
  have HA1 := Lib.hid hat1
  have HA2 := Lib.hid hat2
  clear h1 h2 hat1 hat2
  unfold maxLen at hm1 hm2
  by_cases hl : l1.length = l2.length
  · go_enter Try.func45, Try.ntmps45
    rw [← hl]
    rw [← hl] at hc2
    have HL := Lib.hid hl
    clear hl
    go_wp2_with fail
    go_loopw [5] (fun i wx => ∃ k : Nat, k ≤ l1.length ∧ i = .int .i64 k ∧ Hid (Gr w wx) ∧ Hid (l1.take k = l2.take k)) (fun i _ => l1.length - (intOf i).toNat)
    case atStart => exact ⟨0, by omega, rfl, Lib.hid (by (repeat (first | (with_reducible exact Gr.refl _) | assumption | (with_reducible apply Gr.from_drew) | (with_reducible apply Gr.alloc) | (with_reducible apply Gr.drew) | (with_reducible refine Gr.trans ?_ (by assumption)) | (with_reducible refine Gr.setCell ?_ (by omega) _)))), Lib.hid (by simp)⟩
    case round =>
      obtain ⟨k, hk, rfl, HG, HT⟩ := hrel
      by_cases hlt : k < l1.length
      · have hlt' : (k : Int) < l1.length := by omega
        have hx : l1[k]? = some (l1[k]'hlt) := List.getElem?_eq_getElem hlt
        have hy : l2[k]? = some (l2[k]'(by rw [← HL.out]; exact hlt)) := List.getElem?_eq_getElem _
        obtain ⟨g, rfl, z1, z2, c0⟩ := HA1.out k _ hx
        obtain ⟨g', rfl, z3, z4, c1⟩ := HA2.out k _ hy
        clear z1 z2 z3 z4
        have HX := Lib.hid hx
        have HY := Lib.hid hy
        generalize l1[k]'hlt = x at *
        generalize l2[k]'(by rw [← HL.out]; exact hlt) = y at *
        have hr : ∀ i u, (enC x)[i]? = some u → wr.cell? ⟨g, k * 6 + i, none⟩ = some u := fun i u hu => HG.out.keep (c0 i u hu)
        have hs : ∀ i u, (enC y)[i]? = some u → wr.cell? ⟨g', k * 6 + i, none⟩ = some u := fun i u hu => HG.out.keep (c1 i u hu)
        have d0 := hr 0 _ rfl
        have d1 := hr 1 _ rfl
        have d2 := hr 2 _ rfl
        have d3 := hr 3 _ rfl
        have d4 := hr 4 _ rfl
        have d5 := hr 5 _ rfl
        have e0 := hs 0 _ rfl
        have e1 := hs 1 _ rfl
        have e2 := hs 2 _ rfl
        have e3 := hs 3 _ rfl
        have e4 := hs 4 _ rfl
        have e5 := hs 5 _ rfl
        simp only [Nat.add_zero] at d0 d1 d2 d3 d4 d5 e0 e1 e2 e3 e4 e5
        have k1 := fun w => neqE_run x y w
        clear hr hs
        clear c0 c1 hx hy
        by_cases hxy : x = y
        · have hd : decide (x = y) = true := decide_eq_true hxy
          have HXY := Lib.hid hxy
          clear hxy
          go_wp2
          refine wp_region_flo (fun _ => False) [] [] (by kernel_rfl) (by kernel_rfl) (fun _ h => h.elim) ?_
          refine flo_seg 9 rfl ?_
          simp only [List.take_succ_cons, List.take_zero, List.drop_succ_cons, List.drop_zero]
          repeat (go_big_quiet_step (fail))
          refine wpQuiet_nil ?_
          refine flo_nil ?_
          go_wp2
          go_roundw
          case rel => exact ⟨k + 1, by omega, by go_num, Lib.hid (HG.out.trans (by (repeat (first | (with_reducible exact Gr.refl _) | assumption | (with_reducible apply Gr.from_drew) | (with_reducible apply Gr.alloc) | (with_reducible apply Gr.drew) | (with_reducible refine Gr.trans ?_ (by assumption)) | (with_reducible refine Gr.setCell ?_ (by omega) _))))), Lib.hid (by rw [List.take_add_one, List.take_add_one, HT.out, HX.out, HY.out, HXY.out])⟩
          case measure => simp [intOf]; omega
        · have hd : decide (x = y) = false := decide_eq_false hxy
          have HXY := Lib.hid hxy
          clear hxy
          have HNE : Hid (decide (l1 = l2) = false) := Lib.hid (by
            apply decide_eq_false
            rintro rfl
            rw [HX.out] at HY
            exact HXY.out (Option.some.inj HY.out))
          go_wp2
          refine wp_region_flo (fun _ => False) [] [] (by kernel_rfl) (by kernel_rfl) (fun _ h => h.elim) ?_
          refine flo_seg 9 rfl ?_
          simp only [List.take_succ_cons, List.take_zero, List.drop_succ_cons, List.drop_zero]
          repeat (go_big_quiet_step (fail))
          refine wpQuiet_nil ?_
          refine flo_nil ?_
          go_wp2
          go_ret
          exact ⟨ret_bool HNE.out.symm, HG.out.trans (by (repeat (first | (with_reducible exact Gr.refl _) | assumption | (with_reducible apply Gr.from_drew) | (with_reducible apply Gr.alloc) | (with_reducible apply Gr.drew) | (with_reducible refine Gr.trans ?_ (by assumption)) | (with_reducible refine Gr.setCell ?_ (by omega) _))))⟩
      · have hlt' : ¬ (k : Int) < l1.length := by omega
        have hkl : k = l1.length := by omega
        have HEQ : Hid (decide (l1 = l2) = true) := Lib.hid (by
          apply decide_eq_true
          have := HT.out
          rwa [List.take_of_length_le (by omega), List.take_of_length_le (by have := HL.out; omega)] at this)
        clear hkl
        go_wp2
        go_ret
        exact ⟨ret_bool HEQ.out.symm, HG.out⟩
  · have hb := beq_len _ _ hl
    have HNE : Hid (decide (l1 = l2) = false) := Lib.hid (decide_eq_false (fun e => hl (by rw [e])))
    clear hl
    go_enter Try.func45, Try.ntmps45
    go_wp2
    go_ret
    exact ⟨ret_bool HNE.out.symm, Gr.refl _⟩
end Go.Proofs.Ytmdfickejpeofaa

/- drumlinlaw24: put, del, kept. -/
set_option linter.unusedVariables false
set_option linter.unusedSimpArgs false
namespace Go.Proofs.Ytmdfickejpeofaa
open Go.RowKit Go.Shelf
attribute [local go_sem] OvM cell_ovm obj_ovm
attribute [local go_sem] Oper.semAt_some

set_option maxRecDepth 40000 in
theorem put_any (k : ByteArray) (q s o z : Int) (hk : k.size ≤ 1000) (hz : z = 16 + (k.size : Int) + 2) (w : World) : Calls Try.prog 115 #[.string k, .int .i64 q, .int .i64 s, .int .i64 o] w fun e w' => e = .returned (.agg #[.int .i64 q, .string k, .bool false, .int .i64 s, .int .i64 o, .int .i64 z]) ∧ Gr w w' := by
  subst hz
  go_enter Try.func115, Try.ntmps115
  go_wp2
  refine bodyPost_ret (v := .agg #[.int .i64 q, .string k, .bool false, .int .i64 s, .int .i64 o, .int .i64 (16 + (k.size : Int) + 2)]) ?_ rfl ⟨rfl, by (repeat (first | (with_reducible exact Gr.refl _) | assumption | (with_reducible apply Gr.from_drew) | (with_reducible apply Gr.alloc) | (with_reducible apply Gr.drew) | (with_reducible refine Gr.trans ?_ (by assumption)) | (with_reducible refine Gr.setCell ?_ (by omega) _)))⟩
  simp [results, Try.results115, go_sem]
set_option maxRecDepth 40000 in
theorem del_any (k : ByteArray) (q s o z : Int) (hk : k.size ≤ 1000) (hz : z = 16 + (k.size : Int)) (w : World) : Calls Try.prog 114 #[.string k, .int .i64 q, .int .i64 s, .int .i64 o] w fun e w' => e = .returned (.agg #[.int .i64 q, .string k, .bool true, .int .i64 s, .int .i64 o, .int .i64 z]) ∧ Gr w w' := by
  subst hz
  go_enter Try.func114, Try.ntmps114
  go_wp2
  refine bodyPost_ret (v := .agg #[.int .i64 q, .string k, .bool true, .int .i64 s, .int .i64 o, .int .i64 (16 + (k.size : Int))]) ?_ rfl ⟨rfl, by (repeat (first | (with_reducible exact Gr.refl _) | assumption | (with_reducible apply Gr.from_drew) | (with_reducible apply Gr.alloc) | (with_reducible apply Gr.drew) | (with_reducible refine Gr.trans ?_ (by assumption)) | (with_reducible refine Gr.setCell ?_ (by omega) _)))⟩
  simp [results, Try.results114, go_sem]
def keptB (X : IX) (s : Int) (L : List En) : Bool := decide (keepC X s = 0 ∧ keepL X s = L)
set_option maxRecDepth 40000 in
set_option maxHeartbeats 4000000 in
theorem kept_any {w : World} {p : Option Addr} {X : IX} {S : Nat → Prop} (h : IXP w p X S) (s : Int) (L : List En) (v : Value) (hv : Own w 53 6 v L.length (rowE L)) (hL : L.length ≤ 1000) (hb : ∀ e ∈ L, 0 ≤ e.size ∧ e.size ≤ 8192) :
    Calls Try.prog 113 #[.pointer p, .int .i64 s, v] w fun e w' => e = .returned (.bool (keptB X s L)) ∧ Gr w w' := by
  have H := Lib.hid h
  have HV := Lib.hid hv
  have HB2 := Lib.hid hb
  obtain ⟨hk1, hk2⟩ := keepL_ok h.ok s
  obtain ⟨K, hK⟩ : ∃ K, K = keepL X s := ⟨_, rfl⟩
  obtain ⟨c, hc⟩ : ∃ c, c = keepC X s := ⟨_, rfl⟩
  have HK0 : Hid (∀ w1, Gr w w1 → Calls Try.prog 39 #[.pointer p, .int .i64 s] w1 fun e w' => ∃ v, e = .returned (.tuple #[v, .int .i64 c]) ∧ Nw w1 w' 53 6 v K.length (rowE K) ∧ Gr w1 w') := Lib.hid (fun w1 g => by rw [hK, hc]; exact Keep_any (h.gr g) s)
  have HS0 : Hid (∀ w1, Gr w w1 → Calls Try.prog 41 #[.pointer p, .int .i64 s] w1 fun e w' => e = .returned (.tuple #[.int .i64 (sumZ K), .int .i64 c]) ∧ Gr w1 w') := Lib.hid (fun w1 g => by rw [hK, hc]; exact Size_any (h.gr g) s)
  have HR0 : Hid (∀ w1, Gr w w1 → Calls Try.prog 43 #[.pointer p, .int .i64 s] w1 fun e w' => e = .returned (.tuple #[.bool (decide (c = 0 ∧ K = [])), .int .i64 c]) ∧ Gr w1 w') := Lib.hid (fun w1 g => by rw [hK, hc]; exact Redundant_any (h.gr g) s)
  obtain ⟨rr, hrr⟩ : ∃ rr, rr = keptB X s L := ⟨_, rfl⟩
  have HE : Hid (rr = decide (c = 0 ∧ K = L)) := Lib.hid (by rw [hrr, hK, hc]; rfl)
  rw [← hrr]
  rw [← hK] at hk1
  obtain ⟨a, cap, rfl, _, hcm, hat⟩ := ownE_at hv
  have HAT := Lib.hid hat
  unfold maxLen at hcm
  obtain ⟨r, hr⟩ : ∃ r : Bool, r = decide (c = 0 ∧ K = []) := ⟨_, rfl⟩
  have HRR := Lib.hid hr
  rw [← hr] at HR0
  obtain ⟨z, hz⟩ : ∃ z, z = sumZ K := ⟨_, rfl⟩
  have HZZ := Lib.hid hz
  rw [← hz] at HS0
  clear h hv hb hk2 hK hc hat hr hz hrr
  go_enter Try.func113, Try.ntmps113
  go_wp2_with fail
  refine Calls.mono (HK0.out _ (Gr.refl _)) ?_
  rintro e w1 ⟨v1, rfl, hr1, hg⟩
  have HK1 := Lib.hid hr1.own
  have HG1 := Lib.hid hg
  clear hr1 hg
  go_wp2_with fail
  refine Calls.mono (HS0.out _ HG1.out) ?_
  rintro e w2 ⟨rfl, hg⟩
  have HG2 := Lib.hid hg
  clear hg
  go_wp2_with fail
  refine Calls.mono (HR0.out _ (HG1.out.trans HG2.out)) ?_
  rintro e w3 ⟨rfl, hg⟩
  have HG3 := Lib.hid ((HG1.out.trans HG2.out).trans hg)
  have HK3 := Lib.hid ((HK1.out.gr HG2.out).gr hg)
  clear hg
  go_wp2_with fail
  go_loopw [13, 14] (fun t13 t14 wx => ∃ k : Nat, k ≤ L.length ∧ t14 = .int .i64 k ∧ t13 = .int .i64 (sumZ (L.take k)) ∧ Hid (Gr w3 wx)) (fun _ t14 _ => L.length - (intOf t14).toNat)
  case atStart => exact ⟨0, by omega, rfl, rfl, Lib.hid (Gr.refl _)⟩
  case round =>
    obtain ⟨k, hk, rfl, rfl, HR⟩ := hrel
    by_cases hlt : k < L.length
    · have hlt' : (k : Int) < L.length := by omega
      have hx : L[k]? = some (L[k]'hlt) := List.getElem?_eq_getElem hlt
      obtain ⟨g, rfl, z1, z2, hcc⟩ := HAT.out k _ hx
      clear z1 z2
      have hv := HB2.out _ (List.mem_of_getElem? hx)
      have hs := sumZ_le (L.take k) (take_sub HB2.out)
      rw [List.length_take] at hs
      have HSN : Hid (sumZ (L.take (k + 1)) = sumZ (L.take k) + (L[k]'hlt).size) := Lib.hid (by rw [List.take_add_one, hx]; exact sumZ_snoc _ _)
      generalize L[k]'hlt = x at *
      generalize sumZ (L.take k) = m at *
      have d5 := HR.out.keep (HG3.out.keep (hcc 5 _ rfl))
      obtain ⟨hv1, hv2⟩ := hv
      obtain ⟨hs1, hs2⟩ := hs
      have hs3 : m ≤ 8192 * 1000 := by omega
      clear hcc hx hs2
      go_wp2
      go_roundw
      case rel => exact ⟨k + 1, by omega, by go_num, by rw [HSN.out] <;> go_num, Lib.hid HR.out⟩
      case measure => simp [intOf]; omega
    · have hlt' : ¬ (k : Int) < L.length := by omega
      have HS : Hid (sumZ (L.take k) = sumZ L) := Lib.hid (by rw [List.take_of_length_le (by omega)])
      rw [HS.out]
      clear hlt hk
      by_cases hc0 : c = 0
      · subst hc0
        by_cases hKL : K = L
        · have HF : Hid (rr = true) := Lib.hid (by rw [HE.out]; exact decide_eq_true ⟨rfl, hKL⟩)
          have hzz : (z == sumZ L) = true := by rw [HZZ.out, hKL]; simp
          have HKL := Lib.hid hKL
          clear hKL
          by_cases hl0 : L.length = 0
          · have hr1 : r = true := by rw [HRR.out, HKL.out, List.eq_nil_of_length_eq_zero hl0]; rfl
            subst hr1
            have hl1 : ((L.length : Int) == 0) = true := by rw [hl0]; rfl
            clear hl0
            go_wp2_with fail
            refine (SameE K L v1 _ _ (HK3.out.gr HR.out) (HV.out.gr (HG3.out.trans HR.out)) (by omega)).mono ?_
            rintro e w4 ⟨rfl, hg⟩
            rw [decide_eq_true HKL.out]
            have HG4 := Lib.hid ((HG3.out.trans HR.out).trans hg)
            clear hg
            go_wp2
            go_ret
            exact ⟨ret_bool HF.out.symm, HG4.out⟩
          · have hr1 : r = false := by rw [HRR.out, HKL.out]; exact decide_eq_false (fun h => hl0 (by rw [h.2]; rfl))
            subst hr1
            have hl1 : ((L.length : Int) == 0) = false := beq_false_of_ne (by omega)
            clear hl0
            go_wp2_with fail
            refine (SameE K L v1 _ _ (HK3.out.gr HR.out) (HV.out.gr (HG3.out.trans HR.out)) (by omega)).mono ?_
            rintro e w4 ⟨rfl, hg⟩
            rw [decide_eq_true HKL.out]
            have HG4 := Lib.hid ((HG3.out.trans HR.out).trans hg)
            clear hg
            go_wp2
            go_ret
            exact ⟨ret_bool HF.out.symm, HG4.out⟩
        · have HF : Hid (rr = false) := Lib.hid (by rw [HE.out]; exact decide_eq_false (fun h => hKL h.2))
          have HKL := Lib.hid hKL
          clear hKL
          go_wp2_with fail
          refine (SameE K L v1 _ _ (HK3.out.gr HR.out) (HV.out.gr (HG3.out.trans HR.out)) (by omega)).mono ?_
          rintro e w4 ⟨rfl, hg⟩
          rw [decide_eq_false HKL.out]
          have HG4 := Lib.hid ((HG3.out.trans HR.out).trans hg)
          clear hg
          go_wp2
          go_ret
          exact ⟨ret_bool HF.out.symm, HG4.out⟩
      · have HF : Hid (rr = false) := Lib.hid (by rw [HE.out]; exact decide_eq_false (fun h => hc0 h.1))
        have hb : (c == 0) = false := beq_false_of_ne hc0
        clear hc0
        go_wp2
        go_ret
        exact ⟨ret_bool HF.out.symm, HG3.out.trans HR.out⟩
end Go.Proofs.Ytmdfickejpeofaa
