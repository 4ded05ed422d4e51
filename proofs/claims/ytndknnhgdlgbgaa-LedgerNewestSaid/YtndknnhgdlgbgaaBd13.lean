/- A box of an entry; six numbers, one for each slot. -/
import Derived.Test.YtndknnhgdlgbgaaBd11
import Derived.Test.YtndknnhgdlgbgaaBd12
set_option linter.unusedVariables false
set_option linter.unusedSimpArgs false
namespace Go.Proofs.Ytndknnhgdlgbgaa
open Go.RowKit Go.Shelf

abbrev boxF (e : En) : Obj := .cells #[.int .i64 e.seq, .string e.key, .bool e.del, .int .i64 e.slot, .int .i64 e.off, .int .i64 e.size] 43
theorem SW.put {w0 w w' : World} {R : List Asn} {b : Nat} {o o' : Obj} (h : SW w0 (blkA b o :: R) w) (m : Mdh (fun k => k = b) w w') (hB : w'.heap[b]? = some o') : SW w0 (blkA b o' :: R) w' := h.step m (fun _ hk => .inl hk) hB (fun _ hk => .inl hk)
theorem us_get (us : Int → Int) (σ : Nat) (h : σ < 6) : (#[.int .i64 (us 0), .int .i64 (us 1), .int .i64 (us 2), .int .i64 (us 3), .int .i64 (us 4), .int .i64 (us 5)] : Array Value)[σ]? = some (.int .i64 (us σ)) := by
  have h' : σ = 0 ∨ σ = 1 ∨ σ = 2 ∨ σ = 3 ∨ σ = 4 ∨ σ = 5 := by omega
  rcases h' with rfl | rfl | rfl | rfl | rfl | rfl <;> rfl
theorem us_set (us : Int → Int) (σ : Nat) (h : σ < 6) (u : Int) : (#[.int .i64 (us 0), .int .i64 (us 1), .int .i64 (us 2), .int .i64 (us 3), .int .i64 (us 4), .int .i64 (us 5)] : Array Value).setIfInBounds σ (.int .i64 u) = #[.int .i64 (upd us σ u 0), .int .i64 (upd us σ u 1), .int .i64 (upd us σ u 2), .int .i64 (upd us σ u 3), .int .i64 (upd us σ u 4), .int .i64 (upd us σ u 5)] := by
  have h' : σ = 0 ∨ σ = 1 ∨ σ = 2 ∨ σ = 3 ∨ σ = 4 ∨ σ = 5 := by omega
  rcases h' with rfl | rfl | rfl | rfl | rfl | rfl <;> simp [upd]
abbrev usA (b6 : Nat) (us : Int → Int) : Asn := blkA b6 (.cells #[.int .i64 (us 0), .int .i64 (us 1), .int .i64 (us 2), .int .i64 (us 3), .int .i64 (us 4), .int .i64 (us 5)] 33)
end Go.Proofs.Ytndknnhgdlgbgaa

/- drumlinlaw21.take: the first elements of an iterator, in a row. -/
set_option linter.unusedVariables false
set_option linter.unusedSimpArgs false
namespace Go.Proofs.Ytndknnhgdlgbgaa
open Go.RowKit Go.Shelf
attribute [local go_sem] OvM cell_ovm obj_ovm
attribute [local go_sem] Oper.semAt_some

theorem info_str : (Try.prog.info? 9).map (fun i => (i.zero, i.size, i.bytes)) = some (some (.string ⟨#[]⟩), 1, 16) := by kernel_rfl
theorem rowE_snoc (l : List En) (x : En) : rowE (l ++ [x]) = rowE l ++ enC x := by rw [rowE_app]; simp [rowE]
theorem enC_one (x : En) : ∀ u ∈ enC x, u.oneCell' = true := fun u hu => rowE_one [x] u (by simpa [rowE] using hu)
theorem take_pre {α : Type} {n : Nat} {pre L : List α} (h : pre <+: L) (hn : pre.length = n) : pre = L.take n := by
  obtain ⟨t, rfl⟩ := h
  rw [← hn, List.take_left']
  rfl
def kS (l : List ByteArray) : List Value := l.map Value.string
set_option maxRecDepth 40000 in
set_option maxHeartbeats 4000000 in
theorem TakeE {gf : Nat} {lb : Array Value} {A : Nat → Prop} {L : List En} {w : World} (eg : ∀ args w, (callFunc gf args).run Try.prog w = .ok (.enter gf args) w) (hseq : SeqZ Fence.wide 2 Try.prog gf lb encE A (fun xs => xs = L) (fun pre => pre <+: L) w) (hA : ∀ k, A k → k < w.heap.size) :
    Calls Try.prog 38 #[.func (.func gf) #[] lb] w fun e w' => ∃ v, e = .returned v ∧ Nw w w' 43 6 v (L.take 5000).length (rowE (L.take 5000)) ∧ Gr w w' := by
  obtain ⟨i0, hi, hz0, hz1, hz2⟩ := info_parts infoIten
  have k1 : ∀ w : World, (binOp .eql 48 (.func (.func gf) #[] lb) .nilFunc).run Try.prog w = .ok (.bool false) w := fun w => by kernel_rfl
  have HSEQ := Lib.hid hseq
  have HA := Lib.hid hA
  have HEG := Lib.hid eg
  clear hseq hA eg
  refine calls_of_wp_marks Try.func38 rfl ?_
  simp only [Try.ntmps38, List.size_toArray, List.length_cons, List.length_nil, Nat.reduceAdd, Nat.reduceSub, Array.replicate_succ, Array.replicate_zero, List.push_toArray, List.append_toArray, List.nil_append, List.cons_append]
  go_wp2_with fail
  obtain ⟨b, hb⟩ : ∃ q, q = w.heap.size := ⟨_, rfl⟩
  obtain ⟨w1, hw1⟩ : ∃ y, y = w.alloc (.cells #[.slice none 0 0] 53) := ⟨_, rfl⟩
  have HG1 : Hid (Gr w w1) := Lib.hid (by rw [hw1]; exact (Gr.refl w).alloc _)
  have HAL : Hid (∀ k, A k → k < w1.heap.size) := Lib.hid (fun k hk => by have := HA.out k hk; have := HG1.out.sz; omega)
  have HZ : Hid (SWz w w1 A [blkA b (.cells #[.slice none 0 0] 53), rowA 43 6 (.slice none 0 0) 0 []] (fun _ => False) w1) := Lib.hid (by
    have h1 : SW w [rowA 43 6 (.slice none 0 0) 0 []] w := (SW.start w).new (Gr.refl _) (nilRow _ _ _) (fun k hk => by cases hk)
    have h2 := h1.alloc (.cells #[.slice none 0 0] 53)
    rw [← hw1, ← hb] at h2
    refine SWz.start h2 (fun B hB k hk ha => ?_)
    have := h2.n B hB k hk
    have := HA.out k ha
    omega)
  rw [← hw1, ← hb]
  clear hw1 hb
  apply wp_rangeFunc_zx (gf := gf) (lb := lb) rfl HEG.out HSEQ.out (HG1.out.mdh _) HAL.out (fun _ => rfl)
    (fun Z pre X' => ∃ v, pre.length < 5000 ∧ SWz w w1 A [blkA b (.cells #[v] 53), rowA 43 6 v pre.length (rowE pre)] Z X')
    (fun Z pre X' => ∃ v, pre.length = 5000 ∧ SWz w w1 A [blkA b (.cells #[v] 53), rowA 43 6 v pre.length (rowE pre)] Z X') (fun _ _ _ => False)
    (Apart.ex fun v => (Apart.pure (fun pre : List En => pre.length < 5000)).and (SWz.apart HG1.out.sz (fun pre : List En => [blkA b (.cells #[v] 53), rowA 43 6 v pre.length (rowE pre)])))
    (Apart.ex fun v => (Apart.pure (fun pre : List En => pre.length = 5000)).and (SWz.apart HG1.out.sz (fun pre : List En => [blkA b (.cells #[v] 53), rowA 43 6 v pre.length (rowE pre)]))) apart_no
    ⟨_, by decide, HZ.out⟩ (fun Z pre X' ⟨v, _, h⟩ => h.frm HG1.out) (fun x => .cells #[.int .i64 x.seq, .string x.key, .bool x.del, .int .i64 x.slot, .int .i64 x.off, .int .i64 x.size] 43)
    _ ?assign ?body ?hend ?hret
  case hret => intro _ _ _ _ _ _ _ h; exact h.elim
  case assign =>
    intro l x bx X' K hbx hK
    dsimp only [encE, enV]
    gi_wp2
    rw [← hbx]
    exact hK
  case body =>
    intro l Z pre x bx X' hI hbx hx hzx hzl hlr hsp
    obtain ⟨v, hlt, hI⟩ := hI
    have HIZ := Lib.hid hI
    have HX := Lib.hid hx
    have HO := Lib.hid (show Own X' 43 6 v pre.length (rowE pre) from hI.s.get (i := 1) rfl)
    have HB := Lib.hid (show X'.heap[b]? = _ from hI.s.get (i := 0) rfl)
    have dx := (cellsOf HX.out).1
    have lx := blkLt HX.out
    obtain ⟨db, fb⟩ := cellsOf HB.out
    have lbb := blkLt HB.out
    have nb : ¬ v.ownBlock = some b := own_ne HO.out HB.out (by decide)
    have HNB := Lib.hid nb
    clear hI hbx hx hzx hzl hlr hsp nb
    by_cases h5 : pre.length + 1 = 5000
    · have h5' : ((pre.length : Int) + 1 == 5000) = true := beq_iff_eq.2 (by omega)
      gi_wp2_with (first
        | (gi_at_builtin; go_must (refine wpListIn_appv _ rfl (.tmp 9) (.tmp 11) 53 rfl 43 i0 _ 6 56 Try.underlying53 hi hz0 hz1 hz2 rfl (by decide) v pre.length (rowE pre) rfl (HO.out.gr (by (repeat (first | (with_reducible exact Gr.refl _) | assumption | (with_reducible apply Gr.from_drew) | (with_reducible apply Gr.alloc) | (with_reducible apply Gr.drew) | (with_reducible refine Gr.trans ?_ (by assumption)) | (with_reducible refine Gr.setCell ?_ (by omega) _))))) (some ⟨X'.heap.size, 0, none⟩) 1 1 (enC x) rfl ((src_newK X' (enC x) _ 6 rfl (enC_one x))) (by simp only [maxLen]; omega) (by omega) ?_); intro v2 w2 hA; obtain ⟨a2, c2, rfl⟩ := hA.val; have HAV := Lib.hid hA; have HB2 := Lib.hid ((hA.mdh (fun g h => h)).blk (((Gr.refl X').alloc _).blk HB.out) HNB.out); clear hA; obtain ⟨db2, fb2⟩ := cellsOf HB2.out)
        | fail)
      have z2 := HIZ.out.gr ((Gr.refl X').alloc (.cells (enC x).toArray 43))
      have z3 := z2.1.step (i := 1) (B' := rowA 43 6 (.slice a2 (pre.length + 1) c2) (pre.length + 1) (rowE pre ++ enC x)) rfl HAL.out (HAV.out.mdh (fun g h => h)) (fun k hk => .inl hk) HAV.out.1 (fun k hq => HAV.out.2.1 k hq)
      have z4 := z3.1.step (i := 0) (B' := blkA b (.cells #[.slice a2 (pre.length + 1) c2] 53)) rfl HAL.out ((Mdh.refl (fun k => k = b) w2).setCell (p := ⟨b, 0, none⟩) rfl (.slice a2 (pre.length + 1) c2)) (fun k hk => .inl hk) (blkSet (j := 0) (u := .slice a2 (pre.length + 1) c2) HB2.out) (fun k hk => .inl hk)
      have zM := (z2.2.trans z3.2).trans z4.2
      have zR : SWz w w1 A [blkA b (.cells #[.slice a2 (pre.length + 1) c2] 53), rowA 43 6 (.slice a2 (pre.length + 1) c2) (pre ++ [x]).length (rowE (pre ++ [x]))] Z (w2.setCell ⟨b, 0, none⟩ (.slice a2 (pre.length + 1) c2)) := by
        rw [rowE_snoc, List.length_append]
        exact z4.1
      rw [h5] at zM zR
      exact ⟨zM.mono (fun k h => h.2), rfl, _, by simp; omega, zR⟩
    · have h5' : ((pre.length : Int) + 1 == 5000) = false := beq_false_of_ne (by omega)
      gi_wp2_with (first
        | (gi_at_builtin; go_must (refine wpListIn_appv _ rfl (.tmp 9) (.tmp 11) 53 rfl 43 i0 _ 6 56 Try.underlying53 hi hz0 hz1 hz2 rfl (by decide) v pre.length (rowE pre) rfl (HO.out.gr (by (repeat (first | (with_reducible exact Gr.refl _) | assumption | (with_reducible apply Gr.from_drew) | (with_reducible apply Gr.alloc) | (with_reducible apply Gr.drew) | (with_reducible refine Gr.trans ?_ (by assumption)) | (with_reducible refine Gr.setCell ?_ (by omega) _))))) (some ⟨X'.heap.size, 0, none⟩) 1 1 (enC x) rfl ((src_newK X' (enC x) _ 6 rfl (enC_one x))) (by simp only [maxLen]; omega) (by omega) ?_); intro v2 w2 hA; obtain ⟨a2, c2, rfl⟩ := hA.val; have HAV := Lib.hid hA; have HB2 := Lib.hid ((hA.mdh (fun g h => h)).blk (((Gr.refl X').alloc _).blk HB.out) HNB.out); clear hA; obtain ⟨db2, fb2⟩ := cellsOf HB2.out)
        | fail)
      have z2 := HIZ.out.gr ((Gr.refl X').alloc (.cells (enC x).toArray 43))
      have z3 := z2.1.step (i := 1) (B' := rowA 43 6 (.slice a2 (pre.length + 1) c2) (pre.length + 1) (rowE pre ++ enC x)) rfl HAL.out (HAV.out.mdh (fun g h => h)) (fun k hk => .inl hk) HAV.out.1 (fun k hq => HAV.out.2.1 k hq)
      have z4 := z3.1.step (i := 0) (B' := blkA b (.cells #[.slice a2 (pre.length + 1) c2] 53)) rfl HAL.out ((Mdh.refl (fun k => k = b) w2).setCell (p := ⟨b, 0, none⟩) rfl (.slice a2 (pre.length + 1) c2)) (fun k hk => .inl hk) (blkSet (j := 0) (u := .slice a2 (pre.length + 1) c2) HB2.out) (fun k hk => .inl hk)
      have zM := (z2.2.trans z3.2).trans z4.2
      have zR : SWz w w1 A [blkA b (.cells #[.slice a2 (pre.length + 1) c2] 53), rowA 43 6 (.slice a2 (pre.length + 1) c2) (pre ++ [x]).length (rowE (pre ++ [x]))] Z (w2.setCell ⟨b, 0, none⟩ (.slice a2 (pre.length + 1) c2)) := by
        rw [rowE_snoc, List.length_append]
        exact z4.1
      exact ⟨zM, _, by simp; omega, zR⟩
  case hend =>
    intro Z D xs W hD hZD hcase hdef
    have hx : ∃ v, xs = L.take 5000 ∧ SWz w w1 A [blkA b (.cells #[v] 53), rowA 43 6 v xs.length (rowE xs)] Z W := by
      rcases hcase with ⟨h1, v, h2, h3⟩ | ⟨h1, v, h2, h3⟩
      · exact ⟨v, by rw [show xs = L from h1] at h2 ⊢; rw [List.take_of_length_le (by omega)], h3⟩
      · exact ⟨v, take_pre h1 h2, h3⟩
    obtain ⟨v, rfl, hZ⟩ := hx
    have db := (cellsOf (show W.heap[b]? = _ from hZ.s.get (i := 0) rfl)).1
    have HZW := Lib.hid hZ
    have HD := Lib.hid (And.intro hD (And.intro hZD hdef))
    clear hcase hZ hD hZD hdef
    dsimp only
    go_wp2_with fail
    obtain ⟨hD, hZD, hdef⟩ := HD.out
    have hm : Mdh (fun k => k = D) W (W.putObj D (.deferred none)) := (Mdh.refl (fun k => k = D) W).putObj rfl _
    refine retM1 (D := D) rfl hdef (results_tmp rfl _ _ _) ⟨v, rfl, ⟨(show Own W _ _ _ _ _ from HZW.out.s.get (i := 1) rfl).mdh hm (fun k hk e => HZW.out.z _ (List.mem_cons_of_mem _ (List.mem_cons_self ..)) k hk (e ▸ hZD)), fun q hq => HZW.out.s.n _ (List.mem_cons_of_mem _ (List.mem_cons_self ..)) q hq⟩, HZW.out.s.g.putObj (Nat.le_trans HG1.out.sz hD) _⟩
theorem kS_snoc (l : List ByteArray) (x : ByteArray) : kS (l ++ [x]) = kS l ++ [.string x] := by simp [kS]
set_option maxRecDepth 40000 in
set_option maxHeartbeats 4000000 in
theorem TakeS {gf : Nat} {lb : Array Value} {A : Nat → Prop} {L : List ByteArray} {w : World} (eg : ∀ args w, (callFunc gf args).run Try.prog w = .ok (.enter gf args) w) (hseq : SeqZ Fence.wide 2 Try.prog gf lb encK A (fun xs => xs = L) (fun pre => pre <+: L) w) (hA : ∀ k, A k → k < w.heap.size) :
    Calls Try.prog 40 #[.func (.func gf) #[] lb] w fun e w' => ∃ v, e = .returned v ∧ Nw w w' 9 1 v (L.take 5000).length (kS (L.take 5000)) ∧ Gr w w' := by
  obtain ⟨i0, hi, hz0, hz1, hz2⟩ := info_parts info_str
  have k1 : ∀ w : World, (binOp .eql 73 (.func (.func gf) #[] lb) .nilFunc).run Try.prog w = .ok (.bool false) w := fun w => by kernel_rfl
  have HSEQ := Lib.hid hseq
  have HA := Lib.hid hA
  have HEG := Lib.hid eg
  clear hseq hA eg
  refine calls_of_wp_marks Try.func40 rfl ?_
  simp only [Try.ntmps40, List.size_toArray, List.length_cons, List.length_nil, Nat.reduceAdd, Nat.reduceSub, Array.replicate_succ, Array.replicate_zero, List.push_toArray, List.append_toArray, List.nil_append, List.cons_append]
  go_wp2_with fail
  obtain ⟨b, hb⟩ : ∃ q, q = w.heap.size := ⟨_, rfl⟩
  obtain ⟨w1, hw1⟩ : ∃ y, y = w.alloc (.cells #[.slice none 0 0] 41) := ⟨_, rfl⟩
  have HG1 : Hid (Gr w w1) := Lib.hid (by rw [hw1]; exact (Gr.refl w).alloc _)
  have HAL : Hid (∀ k, A k → k < w1.heap.size) := Lib.hid (fun k hk => by have := HA.out k hk; have := HG1.out.sz; omega)
  have HZ : Hid (SWz w w1 A [blkA b (.cells #[.slice none 0 0] 41), rowA 9 1 (.slice none 0 0) 0 []] (fun _ => False) w1) := Lib.hid (by
    have h1 : SW w [rowA 9 1 (.slice none 0 0) 0 []] w := (SW.start w).new (Gr.refl _) (nilRow _ _ _) (fun k hk => by cases hk)
    have h2 := h1.alloc (.cells #[.slice none 0 0] 41)
    rw [← hw1, ← hb] at h2
    refine SWz.start h2 (fun B hB k hk ha => ?_)
    have := h2.n B hB k hk
    have := HA.out k ha
    omega)
  rw [← hw1, ← hb]
  clear hw1 hb
  apply wp_rangeFunc_zb (gf := gf) (lb := lb) rfl HEG.out HSEQ.out (HG1.out.mdh _) HAL.out (fun _ => rfl)
    (fun Z pre X' => ∃ v, pre.length < 5000 ∧ SWz w w1 A [blkA b (.cells #[v] 41), rowA 9 1 v pre.length (kS pre)] Z X')
    (fun Z pre X' => ∃ v, pre.length = 5000 ∧ SWz w w1 A [blkA b (.cells #[v] 41), rowA 9 1 v pre.length (kS pre)] Z X') (fun _ _ _ => False)
    (Apart.ex fun v => (Apart.pure (fun pre : List ByteArray => pre.length < 5000)).and (SWz.apart HG1.out.sz (fun pre : List ByteArray => [blkA b (.cells #[v] 41), rowA 9 1 v pre.length (kS pre)])))
    (Apart.ex fun v => (Apart.pure (fun pre : List ByteArray => pre.length = 5000)).and (SWz.apart HG1.out.sz (fun pre : List ByteArray => [blkA b (.cells #[v] 41), rowA 9 1 v pre.length (kS pre)]))) apart_no
    ⟨_, by decide, HZ.out⟩
    _ ?assign ?body ?hend ?hret
  case hret => intro _ _ _ _ _ _ _ h; exact h.elim
  case assign =>
    intro l x X' K hK
    dsimp only [encK]
    gi_wp2
    exact hK
  case body =>
    intro l Z pre x X' hI hsp
    obtain ⟨v, hlt, hI⟩ := hI
    have HIZ := Lib.hid hI
    have HO := Lib.hid (show Own X' 9 1 v pre.length (kS pre) from hI.s.get (i := 1) rfl)
    have HB := Lib.hid (show X'.heap[b]? = _ from hI.s.get (i := 0) rfl)
    obtain ⟨db, fb⟩ := cellsOf HB.out
    have lbb := blkLt HB.out
    have nb : ¬ v.ownBlock = some b := own_ne HO.out HB.out (by decide)
    have HNB := Lib.hid nb
    clear hI hsp nb
    by_cases h5 : pre.length + 1 = 5000
    · have h5' : ((pre.length : Int) + 1 == 5000) = true := beq_iff_eq.2 (by omega)
      gi_wp2_with (first
        | (gi_at_builtin; go_must (refine wpListIn_appv _ rfl (.tmp 9) (.tmp 11) 41 rfl 9 i0 _ 1 16 Try.underlying41 hi hz0 hz1 hz2 rfl (by decide) v pre.length (kS pre) rfl (HO.out.gr (by (repeat (first | (with_reducible exact Gr.refl _) | assumption | (with_reducible apply Gr.from_drew) | (with_reducible apply Gr.alloc) | (with_reducible apply Gr.drew) | (with_reducible refine Gr.trans ?_ (by assumption)) | (with_reducible refine Gr.setCell ?_ (by omega) _))))) (some ⟨X'.heap.size, 0, none⟩) 1 1 ([Value.string x]) rfl ((src_newK X' ([Value.string x]) _ 1 rfl (by simp [Value.oneCell']))) (by simp only [maxLen]; omega) (by omega) ?_); intro v2 w2 hA; obtain ⟨a2, c2, rfl⟩ := hA.val; have HAV := Lib.hid hA; have HB2 := Lib.hid ((hA.mdh (fun g h => h)).blk (((Gr.refl X').alloc _).blk HB.out) HNB.out); clear hA; obtain ⟨db2, fb2⟩ := cellsOf HB2.out)
        | fail)
      have z2 := HIZ.out.gr ((Gr.refl X').alloc (.cells ([Value.string x]).toArray 9))
      have z3 := z2.1.step (i := 1) (B' := rowA 9 1 (.slice a2 (pre.length + 1) c2) (pre.length + 1) (kS pre ++ [Value.string x])) rfl HAL.out (HAV.out.mdh (fun g h => h)) (fun k hk => .inl hk) HAV.out.1 (fun k hq => HAV.out.2.1 k hq)
      have z4 := z3.1.step (i := 0) (B' := blkA b (.cells #[.slice a2 (pre.length + 1) c2] 41)) rfl HAL.out ((Mdh.refl (fun k => k = b) w2).setCell (p := ⟨b, 0, none⟩) rfl (.slice a2 (pre.length + 1) c2)) (fun k hk => .inl hk) (blkSet (j := 0) (u := .slice a2 (pre.length + 1) c2) HB2.out) (fun k hk => .inl hk)
      have zM := (z2.2.trans z3.2).trans z4.2
      have zR : SWz w w1 A [blkA b (.cells #[.slice a2 (pre.length + 1) c2] 41), rowA 9 1 (.slice a2 (pre.length + 1) c2) (pre ++ [x]).length (kS (pre ++ [x]))] Z (w2.setCell ⟨b, 0, none⟩ (.slice a2 (pre.length + 1) c2)) := by
        rw [kS_snoc, List.length_append]
        exact z4.1
      rw [h5] at zM zR
      exact ⟨zM.mono (fun k h => h.2), rfl, _, by simp; omega, zR⟩
    · have h5' : ((pre.length : Int) + 1 == 5000) = false := beq_false_of_ne (by omega)
      gi_wp2_with (first
        | (gi_at_builtin; go_must (refine wpListIn_appv _ rfl (.tmp 9) (.tmp 11) 41 rfl 9 i0 _ 1 16 Try.underlying41 hi hz0 hz1 hz2 rfl (by decide) v pre.length (kS pre) rfl (HO.out.gr (by (repeat (first | (with_reducible exact Gr.refl _) | assumption | (with_reducible apply Gr.from_drew) | (with_reducible apply Gr.alloc) | (with_reducible apply Gr.drew) | (with_reducible refine Gr.trans ?_ (by assumption)) | (with_reducible refine Gr.setCell ?_ (by omega) _))))) (some ⟨X'.heap.size, 0, none⟩) 1 1 ([Value.string x]) rfl ((src_newK X' ([Value.string x]) _ 1 rfl (by simp [Value.oneCell']))) (by simp only [maxLen]; omega) (by omega) ?_); intro v2 w2 hA; obtain ⟨a2, c2, rfl⟩ := hA.val; have HAV := Lib.hid hA; have HB2 := Lib.hid ((hA.mdh (fun g h => h)).blk (((Gr.refl X').alloc _).blk HB.out) HNB.out); clear hA; obtain ⟨db2, fb2⟩ := cellsOf HB2.out)
        | fail)
      have z2 := HIZ.out.gr ((Gr.refl X').alloc (.cells ([Value.string x]).toArray 9))
      have z3 := z2.1.step (i := 1) (B' := rowA 9 1 (.slice a2 (pre.length + 1) c2) (pre.length + 1) (kS pre ++ [Value.string x])) rfl HAL.out (HAV.out.mdh (fun g h => h)) (fun k hk => .inl hk) HAV.out.1 (fun k hq => HAV.out.2.1 k hq)
      have z4 := z3.1.step (i := 0) (B' := blkA b (.cells #[.slice a2 (pre.length + 1) c2] 41)) rfl HAL.out ((Mdh.refl (fun k => k = b) w2).setCell (p := ⟨b, 0, none⟩) rfl (.slice a2 (pre.length + 1) c2)) (fun k hk => .inl hk) (blkSet (j := 0) (u := .slice a2 (pre.length + 1) c2) HB2.out) (fun k hk => .inl hk)
      have zM := (z2.2.trans z3.2).trans z4.2
      have zR : SWz w w1 A [blkA b (.cells #[.slice a2 (pre.length + 1) c2] 41), rowA 9 1 (.slice a2 (pre.length + 1) c2) (pre ++ [x]).length (kS (pre ++ [x]))] Z (w2.setCell ⟨b, 0, none⟩ (.slice a2 (pre.length + 1) c2)) := by
        rw [kS_snoc, List.length_append]
        exact z4.1
      exact ⟨zM, _, by simp; omega, zR⟩
  case hend =>
    intro Z D xs W hD hZD hcase hdef
    have hx : ∃ v, xs = L.take 5000 ∧ SWz w w1 A [blkA b (.cells #[v] 41), rowA 9 1 v xs.length (kS xs)] Z W := by
      rcases hcase with ⟨h1, v, h2, h3⟩ | ⟨h1, v, h2, h3⟩
      · exact ⟨v, by rw [show xs = L from h1] at h2 ⊢; rw [List.take_of_length_le (by omega)], h3⟩
      · exact ⟨v, take_pre h1 h2, h3⟩
    obtain ⟨v, rfl, hZ⟩ := hx
    have db := (cellsOf (show W.heap[b]? = _ from hZ.s.get (i := 0) rfl)).1
    have HZW := Lib.hid hZ
    have HD := Lib.hid (And.intro hD (And.intro hZD hdef))
    clear hcase hZ hD hZD hdef
    dsimp only
    go_wp2_with fail
    obtain ⟨hD, hZD, hdef⟩ := HD.out
    have hm : Mdh (fun k => k = D) W (W.putObj D (.deferred none)) := (Mdh.refl (fun k => k = D) W).putObj rfl _
    refine retM1 (D := D) rfl hdef (results_tmp rfl _ _ _) ⟨v, rfl, ⟨(show Own W _ _ _ _ _ from HZW.out.s.get (i := 1) rfl).mdh hm (fun k hk e => HZW.out.z _ (List.mem_cons_of_mem _ (List.mem_cons_self ..)) k hk (e ▸ hZD)), fun q hq => HZW.out.s.n _ (List.mem_cons_of_mem _ (List.mem_cons_self ..)) q hq⟩, HZW.out.s.g.putObj (Nat.le_trans HG1.out.sz hD) _⟩
end Go.Proofs.Ytndknnhgdlgbgaa

/- slices.Equal at rows of entries and of strings. -/
set_option linter.unusedVariables false
set_option linter.unusedSimpArgs false
namespace Go.Proofs.Ytndknnhgdlgbgaa
open Go.RowKit Go.Shelf
attribute [local go_sem] OvM cell_ovm obj_ovm
attribute [local go_sem] Oper.semAt_some

theorem ownS_at {w : World} {v : Value} {l : List ByteArray} (h : Own w 9 1 v l.length (kS l)) : ∃ a cap, v = .slice a l.length cap ∧ l.length ≤ cap ∧ cap ≤ maxLen ∧ ∀ i x, l[i]? = some x → ∃ g, a = some ⟨g, 0, none⟩ ∧ g < w.heap.size ∧ v.ownBlock = some g ∧ w.cell? ⟨g, i, none⟩ = some (.string x) := by
  rcases h.2 with ⟨hv, h0⟩ | ⟨g, cap, cur, hv, _, hg, h1, h2, h3, h4⟩
  · have hL : l = [] := List.eq_nil_of_length_eq_zero h0
    subst hL
    exact ⟨none, 0, hv, Nat.le_refl _, by simp [maxLen], fun i x hx => by simp at hx⟩
  · subst hv
    refine ⟨_, cap, rfl, h1, h2, fun i x hx => ⟨g, rfl, blkLt hg, rfl, ?_⟩⟩
    have hc := h.cells (g := g) rfl i (.string x) (by unfold kS; rw [List.getElem?_map, hx]; rfl)
    rwa [show (⟨g, 0, none⟩ : Addr).add i = ⟨g, i, none⟩ by unfold Addr.add; split <;> simp_all] at hc
theorem beq_len (a b : Nat) (h : a ≠ b) : ((a : Int) == (b : Int)) = false := beq_false_of_ne (by omega)
set_option maxRecDepth 40000 in
set_option maxHeartbeats 2000000 in
theorem EqualE (l1 l2 : List En) (v1 v2 : Value) (w : World) (h1 : Own w 43 6 v1 l1.length (rowE l1)) (h2 : Own w 43 6 v2 l2.length (rowE l2)) (hn : l1.length ≤ 1000000) :
    Calls Try.prog 109 #[v1, v2] w fun e w' => e = .returned (.bool (decide (l1 = l2))) ∧ Gr w w' := by
  obtain ⟨a1, cap1, rfl, hc1, hm1, hat1⟩ := ownE_at h1
  obtain ⟨a2, cap2, rfl, hc2, hm2, hat2⟩ := ownE_at h2
  have HA1 := Lib.hid hat1
  have HA2 := Lib.hid hat2
  clear h1 h2 hat1 hat2
  unfold maxLen at hm1 hm2
  by_cases hl : l1.length = l2.length
  · go_enter Try.func109, Try.ntmps109
    rw [← hl]
    rw [← hl] at hc2
    have HL := Lib.hid hl
    clear hl
    go_wp2_with fail
    go_loopw [13] (fun i wx => ∃ k : Nat, k ≤ l1.length ∧ i = .int .i64 k ∧ Hid (Gr w wx) ∧ Hid (l1.take k = l2.take k)) (fun i _ => l1.length - (intOf i).toNat)
    case atStart => exact ⟨0, by omega, rfl, Lib.hid (by (repeat (first | (with_reducible exact Gr.refl _) | assumption | (with_reducible apply Gr.from_drew) | (with_reducible apply Gr.alloc) | (with_reducible apply Gr.drew) | (with_reducible refine Gr.trans ?_ (by assumption)) | (with_reducible refine Gr.setCell ?_ (by omega) _)))), Lib.hid (by simp)⟩
    case round =>
      obtain ⟨k, hk, rfl, HG, HT⟩ := hrel
      by_cases hlt : k < l1.length
      · have hlt' : (k : Int) < l1.length := by omega
        have hx : l1[k]? = some (l1[k]'hlt) := List.getElem?_eq_getElem hlt
        have hy : l2[k]? = some (l2[k]'(by rw [← HL.out]; exact hlt)) := List.getElem?_eq_getElem _
        obtain ⟨g, rfl, z1, z2, c0⟩ := HA1.out k _ hx
        obtain ⟨g', rfl, z3, z4, c1⟩ := HA2.out k _ hy
        clear z1 z2 z3 z4
        have HX := Lib.hid hx
        have HY := Lib.hid hy
        generalize l1[k]'hlt = x at *
        generalize l2[k]'(by rw [← HL.out]; exact hlt) = y at *
        have hr : ∀ i u, (enC x)[i]? = some u → wr.cell? ⟨g, k * 6 + i, none⟩ = some u := fun i u hu => HG.out.keep (c0 i u hu)
        have hs : ∀ i u, (enC y)[i]? = some u → wr.cell? ⟨g', k * 6 + i, none⟩ = some u := fun i u hu => HG.out.keep (c1 i u hu)
        have d0 := hr 0 _ rfl
        have d1 := hr 1 _ rfl
        have d2 := hr 2 _ rfl
        have d3 := hr 3 _ rfl
        have d4 := hr 4 _ rfl
        have d5 := hr 5 _ rfl
        have e0 := hs 0 _ rfl
        have e1 := hs 1 _ rfl
        have e2 := hs 2 _ rfl
        have e3 := hs 3 _ rfl
        have e4 := hs 4 _ rfl
        have e5 := hs 5 _ rfl
        simp only [Nat.add_zero] at d0 d1 d2 d3 d4 d5 e0 e1 e2 e3 e4 e5
        have k1 := fun w => neqE_run x y w
        clear hr hs
        clear c0 c1 hx hy
        by_cases hxy : x = y
        · have hd : decide (x = y) = true := decide_eq_true hxy
          have HXY := Lib.hid hxy
          clear hxy
          go_wp2
          refine wp_region_flo (fun _ => False) [] [] (by kernel_rfl) (by kernel_rfl) (fun _ h => h.elim) ?_
          refine flo_seg 9 rfl ?_
          simp only [List.take_succ_cons, List.take_zero, List.drop_succ_cons, List.drop_zero]
          repeat (go_big_quiet_step (fail))
          refine wpQuiet_nil ?_
          refine flo_nil ?_
          go_wp2
          go_roundw
          case rel => exact ⟨k + 1, by omega, by go_num, Lib.hid (HG.out.trans (by (repeat (first | (with_reducible exact Gr.refl _) | assumption | (with_reducible apply Gr.from_drew) | (with_reducible apply Gr.alloc) | (with_reducible apply Gr.drew) | (with_reducible refine Gr.trans ?_ (by assumption)) | (with_reducible refine Gr.setCell ?_ (by omega) _))))), Lib.hid (by rw [List.take_add_one, List.take_add_one, HT.out, HX.out, HY.out, HXY.out])⟩
          case measure => simp [intOf]; omega
        · have hd : decide (x = y) = false := decide_eq_false hxy
          have HXY := Lib.hid hxy
          clear hxy
          have HNE : Hid (decide (l1 = l2) = false) := Lib.hid (by
            apply decide_eq_false
            rintro rfl
            rw [HX.out] at HY
            exact HXY.out (Option.some.inj HY.out))
          go_wp2
          refine wp_region_flo (fun _ => False) [] [] (by kernel_rfl) (by kernel_rfl) (fun _ h => h.elim) ?_
          refine flo_seg 9 rfl ?_
          simp only [List.take_succ_cons, List.take_zero, List.drop_succ_cons, List.drop_zero]
          repeat (go_big_quiet_step (fail))
          refine wpQuiet_nil ?_
          refine flo_nil ?_
          go_wp2
          go_ret
          exact ⟨ret_bool HNE.out.symm, HG.out.trans (by (repeat (first | (with_reducible exact Gr.refl _) | assumption | (with_reducible apply Gr.from_drew) | (with_reducible apply Gr.alloc) | (with_reducible apply Gr.drew) | (with_reducible refine Gr.trans ?_ (by assumption)) | (with_reducible refine Gr.setCell ?_ (by omega) _))))⟩
      · have hlt' : ¬ (k : Int) < l1.length := by omega
        have hkl : k = l1.length := by omega
        have HEQ : Hid (decide (l1 = l2) = true) := Lib.hid (by
          apply decide_eq_true
          have := HT.out
          rwa [List.take_of_length_le (by omega), List.take_of_length_le (by have := HL.out; omega)] at this)
        clear hkl
        go_wp2
        go_ret
        exact ⟨ret_bool HEQ.out.symm, HG.out⟩
  · have hb := beq_len _ _ hl
    have HNE : Hid (decide (l1 = l2) = false) := Lib.hid (decide_eq_false (fun e => hl (by rw [e])))
    clear hl
    go_enter Try.func109, Try.ntmps109
    go_wp2
    go_ret
    exact ⟨ret_bool HNE.out.symm, Gr.refl _⟩
set_option maxRecDepth 40000 in
set_option maxHeartbeats 2000000 in
theorem EqualS (l1 l2 : List ByteArray) (v1 v2 : Value) (w : World) (h1 : Own w 9 1 v1 l1.length (kS l1)) (h2 : Own w 9 1 v2 l2.length (kS l2)) (hn : l1.length ≤ 1000000) :
    Calls Try.prog 110 #[v1, v2] w fun e w' => e = .returned (.bool (decide (l1 = l2))) ∧ Gr w w' := by
  obtain ⟨a1, cap1, rfl, hc1, hm1, hat1⟩ := ownS_at h1
  obtain ⟨a2, cap2, rfl, hc2, hm2, hat2⟩ := ownS_at h2
  have HA1 := Lib.hid hat1
  have HA2 := Lib.hid hat2
  clear h1 h2 hat1 hat2
  unfold maxLen at hm1 hm2
  by_cases hl : l1.length = l2.length
  · go_enter Try.func110, Try.ntmps110
    rw [← hl]
    rw [← hl] at hc2
    have HL := Lib.hid hl
    clear hl
    go_wp2_with fail
    go_loopw [13] (fun i wx => ∃ k : Nat, k ≤ l1.length ∧ i = .int .i64 k ∧ Hid (Gr w wx) ∧ Hid (l1.take k = l2.take k)) (fun i _ => l1.length - (intOf i).toNat)
    case atStart => exact ⟨0, by omega, rfl, Lib.hid (by (repeat (first | (with_reducible exact Gr.refl _) | assumption | (with_reducible apply Gr.from_drew) | (with_reducible apply Gr.alloc) | (with_reducible apply Gr.drew) | (with_reducible refine Gr.trans ?_ (by assumption)) | (with_reducible refine Gr.setCell ?_ (by omega) _)))), Lib.hid (by simp)⟩
    case round =>
      obtain ⟨k, hk, rfl, HG, HT⟩ := hrel
      by_cases hlt : k < l1.length
      · have hlt' : (k : Int) < l1.length := by omega
        have hx : l1[k]? = some (l1[k]'hlt) := List.getElem?_eq_getElem hlt
        have hy : l2[k]? = some (l2[k]'(by rw [← HL.out]; exact hlt)) := List.getElem?_eq_getElem _
        obtain ⟨g, rfl, z1, z2, c0⟩ := HA1.out k _ hx
        obtain ⟨g', rfl, z3, z4, c1⟩ := HA2.out k _ hy
        clear z1 z2 z3 z4
        have HX := Lib.hid hx
        have HY := Lib.hid hy
        generalize l1[k]'hlt = x at *
        generalize l2[k]'(by rw [← HL.out]; exact hlt) = y at *
        have d0 := HG.out.keep c0
        have e0 := HG.out.keep c1
        clear c0 c1 hx hy
        by_cases hxy : x = y
        · have hd : (x.toList == y.toList) = true := by rw [str_beq]; exact decide_eq_true hxy
          have HXY := Lib.hid hxy
          clear hxy
          go_wp2
          refine wp_region_flo (fun _ => False) [] [] (by kernel_rfl) (by kernel_rfl) (fun _ h => h.elim) ?_
          refine flo_seg 9 rfl ?_
          simp only [List.take_succ_cons, List.take_zero, List.drop_succ_cons, List.drop_zero]
          repeat (go_big_quiet_step (fail))
          refine wpQuiet_nil ?_
          refine flo_nil ?_
          go_wp2
          go_roundw
          case rel => exact ⟨k + 1, by omega, by go_num, Lib.hid (HG.out.trans (by (repeat (first | (with_reducible exact Gr.refl _) | assumption | (with_reducible apply Gr.from_drew) | (with_reducible apply Gr.alloc) | (with_reducible apply Gr.drew) | (with_reducible refine Gr.trans ?_ (by assumption)) | (with_reducible refine Gr.setCell ?_ (by omega) _))))), Lib.hid (by rw [List.take_add_one, List.take_add_one, HT.out, HX.out, HY.out, HXY.out])⟩
          case measure => simp [intOf]; omega
        · have hd : (x.toList == y.toList) = false := by rw [str_beq]; exact decide_eq_false hxy
          have HXY := Lib.hid hxy
          clear hxy
          have HNE : Hid (decide (l1 = l2) = false) := Lib.hid (by
            apply decide_eq_false
            rintro rfl
            rw [HX.out] at HY
            exact HXY.out (Option.some.inj HY.out))
          go_wp2
          refine wp_region_flo (fun _ => False) [] [] (by kernel_rfl) (by kernel_rfl) (fun _ h => h.elim) ?_
          refine flo_seg 9 rfl ?_
          simp only [List.take_succ_cons, List.take_zero, List.drop_succ_cons, List.drop_zero]
          repeat (go_big_quiet_step (fail))
          refine wpQuiet_nil ?_
          refine flo_nil ?_
          go_wp2
          go_ret
          exact ⟨ret_bool HNE.out.symm, HG.out.trans (by (repeat (first | (with_reducible exact Gr.refl _) | assumption | (with_reducible apply Gr.from_drew) | (with_reducible apply Gr.alloc) | (with_reducible apply Gr.drew) | (with_reducible refine Gr.trans ?_ (by assumption)) | (with_reducible refine Gr.setCell ?_ (by omega) _))))⟩
      · have hlt' : ¬ (k : Int) < l1.length := by omega
        have hkl : k = l1.length := by omega
        have HEQ : Hid (decide (l1 = l2) = true) := Lib.hid (by
          apply decide_eq_true
          have := HT.out
          rwa [List.take_of_length_le (by omega), List.take_of_length_le (by have := HL.out; omega)] at this)
        clear hkl
        go_wp2
        go_ret
        exact ⟨ret_bool HEQ.out.symm, HG.out⟩
  · have hb := beq_len _ _ hl
    have HNE : Hid (decide (l1 = l2) = false) := Lib.hid (decide_eq_false (fun e => hl (by rw [e])))
    clear hl
    go_enter Try.func110, Try.ntmps110
    go_wp2
    go_ret
    exact ⟨ret_bool HNE.out.symm, Gr.refl _⟩
end Go.Proofs.Ytndknnhgdlgbgaa

/- take at an index's own iterators; rows that a literal lays. -/
set_option linter.unusedVariables false
set_option linter.unusedSimpArgs false
namespace Go.Proofs.Ytndknnhgdlgbgaa
open Go.RowKit Go.Shelf

theorem take_of {w : World} {p : Option Addr} {X : IX} {S : Nat → Prop} (h : IXP w p X S) (k : ByteArray) (bb bk : Nat) (hbb : w.cell? ⟨bb, 0, none⟩ = some (.pointer p)) (hbk : w.cell? ⟨bk, 0, none⟩ = some (.string k)) :
    Calls Try.prog 38 #[.func (.func 77) #[] #[.pointer (some ⟨bb, 0, none⟩), .pointer (some ⟨bk, 0, none⟩)]] w fun e w' => ∃ v, e = .returned v ∧ Nw w w' 43 6 v ((X.of k).take 5000).length (rowE ((X.of k).take 5000)) ∧ Gr w w' :=
  TakeE (enters_of Try.func77 (by kernel_rfl) rfl) (SeqOfP h k bb bk hbb hbk) (fun q hq => by
    rcases hq with rfl | rfl | hq
    · exact World.block_lt_of_cell? w _ hbb
    · exact World.block_lt_of_cell? w _ hbk
    · exact h.lt q hq)
theorem take_slot {w : World} {p : Option Addr} {X : IX} {S : Nat → Prop} (h : IXP w p X S) (s : Int) (bb bk : Nat) (hbb : w.cell? ⟨bb, 0, none⟩ = some (.pointer p)) (hbk : w.cell? ⟨bk, 0, none⟩ = some (.int .i64 s)) :
    Calls Try.prog 38 #[.func (.func 106) #[] #[.pointer (some ⟨bb, 0, none⟩), .pointer (some ⟨bk, 0, none⟩)]] w fun e w' => ∃ v, e = .returned v ∧ Nw w w' 43 6 v ((X.slot s).take 5000).length (rowE ((X.slot s).take 5000)) ∧ Gr w w' :=
  TakeE (enters_of Try.func106 (by kernel_rfl) rfl) (SeqSlotP h s bb bk hbb hbk) (fun q hq => by
    rcases hq with rfl | rfl | hq
    · exact World.block_lt_of_cell? w _ hbb
    · exact World.block_lt_of_cell? w _ hbk
    · exact h.lt q hq)
theorem take_keys {w : World} {p : Option Addr} {X : IX} {S : Nat → Prop} (h : IXP w p X S) (bb : Nat) (hbb : w.cell? ⟨bb, 0, none⟩ = some (.pointer p)) :
    Calls Try.prog 40 #[.func (.func 101) #[] #[.pointer (some ⟨bb, 0, none⟩)]] w fun e w' => ∃ v, e = .returned v ∧ Nw w w' 9 1 v (X.ks.take 5000).length (kS (X.ks.take 5000)) ∧ Gr w w' :=
  TakeS (enters_of Try.func101 (by kernel_rfl) rfl) (SeqKeysP h bb hbb) (fun q hq => by
    rcases hq with rfl | hq
    · exact World.block_lt_of_cell? w _ hbb
    · exact h.lt q hq)
theorem own_lit (w : World) (t : TypeId) (K n : Nat) (xs : List Value) (hx : xs.length = n * K) (hn : n ≤ 100000) : Own (w.alloc (.cells xs.toArray t)) t K (.slice (some ⟨w.heap.size, 0, none⟩) n n) n xs :=
  Own.ofParts (blkNew w _) (Nat.le_refl _) (by unfold maxLen; omega) (by simpa using hx) (by rw [List.take_of_length_le (by rw [← hx]; exact Nat.le_refl _)])
end Go.Proofs.Ytndknnhgdlgbgaa
