/- A box of an entry; six numbers, one for each slot. -/
import Derived.Test.YtmdfickejpeofaaBd11
import Derived.Test.YtmdfickejpeofaaBd12
set_option linter.unusedVariables false
set_option linter.unusedSimpArgs false
namespace Go.Proofs.Ytmdfickejpeofaa
open Go.RowKit Go.Shelf

abbrev boxF (e : En) : Obj := .cells #[.int .i64 e.seq, .string e.key, .bool e.del, .int .i64 e.slot, .int .i64 e.off, .int .i64 e.size] 53
theorem SW.put {w0 w w' : World} {R : List Asn} {b : Nat} {o o' : Obj} (h : SW w0 (blkA b o :: R) w) (m : Mdh (fun k => k = b) w w') (hB : w'.heap[b]? = some o') : SW w0 (blkA b o' :: R) w' := h.step m (fun _ hk => .inl hk) hB (fun _ hk => .inl hk)
theorem us_get (us : Int → Int) (σ : Nat) (h : σ < 6) : (#[.int .i64 (us 0), .int .i64 (us 1), .int .i64 (us 2), .int .i64 (us 3), .int .i64 (us 4), .int .i64 (us 5)] : Array Value)[σ]? = some (.int .i64 (us σ)) := by
  have h' : σ = 0 ∨ σ = 1 ∨ σ = 2 ∨ σ = 3 ∨ σ = 4 ∨ σ = 5 := by omega
  rcases h' with rfl | rfl | rfl | rfl | rfl | rfl <;> rfl
theorem us_set (us : Int → Int) (σ : Nat) (h : σ < 6) (u : Int) : (#[.int .i64 (us 0), .int .i64 (us 1), .int .i64 (us 2), .int .i64 (us 3), .int .i64 (us 4), .int .i64 (us 5)] : Array Value).setIfInBounds σ (.int .i64 u) = #[.int .i64 (upd us σ u 0), .int .i64 (upd us σ u 1), .int .i64 (upd us σ u 2), .int .i64 (upd us σ u 3), .int .i64 (upd us σ u 4), .int .i64 (upd us σ u 5)] := by
  have h' : σ = 0 ∨ σ = 1 ∨ σ = 2 ∨ σ = 3 ∨ σ = 4 ∨ σ = 5 := by omega
  rcases h' with rfl | rfl | rfl | rfl | rfl | rfl <;> simp [upd]
end Go.Proofs.Ytmdfickejpeofaa

/- drumlinlaw21.take: the first elements of an iterator, in a row. -/
set_option linter.unusedVariables false
set_option linter.unusedSimpArgs false
namespace Go.Proofs.Ytmdfickejpeofaa
open Go.RowKit Go.Shelf
attribute [local go_sem] OvM cell_ovm obj_ovm
attribute [local go_sem] Oper.semAt_some

theorem info_str : (Try.prog.info? 9).map (fun i => (i.zero, i.size, i.bytes)) = some (some (.string ⟨#[]⟩), 1, 16) := by kernel_rfl
theorem rowE_snoc (l : List En) (x : En) : rowE (l ++ [x]) = rowE l ++ enC x := by rw [rowE_app]; simp [rowE]
theorem enC_one (x : En) : ∀ u ∈ enC x, u.oneCell' = true := fun u hu => rowE_one [x] u (by simpa [rowE] using hu)
theorem take_pre {α : Type} {n : Nat} {pre L : List α} (h : pre <+: L) (hn : pre.length = n) : pre = L.take n := by
  obtain ⟨t, rfl⟩ := h
  rw [← hn, List.take_left']
  rfl
def kS (l : List ByteArray) : List Value := l.map Value.string
set_option maxRecDepth 40000 in
set_option maxHeartbeats 4000000 in
theorem TakeE {gf : Nat} {lb : Array Value} {A : Nat → Prop} {L : List En} {w : World} (eg : ∀ args w, (callFunc gf args).run Try.prog w = .ok (.enter gf args) w) (hseq : SeqZ Fence.wide 2 Try.prog gf lb encE A (fun xs => xs = L) (fun pre => pre <+: L) w) (hA : ∀ k, A k → k < w.heap.size) :
    Calls Try.prog 96 #[.func (.func gf) #[] lb] w fun e w' => ∃ v, e = .returned v ∧ Nw w w' 53 6 v (L.take 5000).length (rowE (L.take 5000)) ∧ Gr w w' := by
  obtain ⟨i0, hi, hz0, hz1, hz2⟩ := info_parts infoIten
  have k1 : ∀ w : World, (binOp .eql 148 (.func (.func gf) #[] lb) .nilFunc).run Try.prog w = .ok (.bool false) w := fun w => by kernel_rfl
  have HSEQ := Lib.hid hseq
  have HA := Lib.hid hA
  have HEG := Lib.hid eg
  clear hseq hA eg
  refine calls_of_wp_marks Try.func96 rfl ?_
  simp only [Try.ntmps96, List.size_toArray, List.length_cons, List.length_nil, Nat.reduceAdd, Nat.reduceSub, Array.replicate_succ, Array.replicate_zero, List.push_toArray, List.append_toArray, List.nil_append, List.cons_append]
  go_wp2_with fail
  obtain ⟨b, hb⟩ : ∃ q, q = w.heap.size := ⟨_, rfl⟩
  obtain ⟨w1, hw1⟩ : ∃ y, y = w.alloc (.cells #[.slice none 0 0] 45) := ⟨_, rfl⟩
  have HG1 : Hid (Gr w w1) := Lib.hid (by rw [hw1]; exact (Gr.refl w).alloc _)
  have HAL : Hid (∀ k, A k → k < w1.heap.size) := Lib.hid (fun k hk => by have := HA.out k hk; have := HG1.out.sz; omega)
  have HZ : Hid (SWz w w1 A [blkA b (.cells #[.slice none 0 0] 45), rowA 53 6 (.slice none 0 0) 0 []] (fun _ => False) w1) := Lib.hid (by
    have h1 : SW w [rowA 53 6 (.slice none 0 0) 0 []] w := (SW.start w).new (Gr.refl _) (nilRow _ _ _) (fun k hk => by cases hk)
    have h2 := h1.alloc (.cells #[.slice none 0 0] 45)
    rw [← hw1, ← hb] at h2
    refine SWz.start h2 (fun B hB k hk ha => ?_)
    have := h2.n B hB k hk
    have := HA.out k ha
    omega)
  rw [← hw1, ← hb]
  clear hw1 hb
  apply wp_rangeFunc_zx (gf := gf) (lb := lb) rfl HEG.out HSEQ.out (HG1.out.mdh _) HAL.out (fun _ => rfl)
    (fun Z pre X' => ∃ v, pre.length < 5000 ∧ SWz w w1 A [blkA b (.cells #[v] 45), rowA 53 6 v pre.length (rowE pre)] Z X')
    (fun Z pre X' => ∃ v, pre.length = 5000 ∧ SWz w w1 A [blkA b (.cells #[v] 45), rowA 53 6 v pre.length (rowE pre)] Z X') (fun _ _ _ => False)
    (Apart.ex fun v => (Apart.pure (fun pre : List En => pre.length < 5000)).and (SWz.apart HG1.out.sz (fun pre : List En => [blkA b (.cells #[v] 45), rowA 53 6 v pre.length (rowE pre)])))
    (Apart.ex fun v => (Apart.pure (fun pre : List En => pre.length = 5000)).and (SWz.apart HG1.out.sz (fun pre : List En => [blkA b (.cells #[v] 45), rowA 53 6 v pre.length (rowE pre)]))) apart_no
    ⟨_, by decide, HZ.out⟩ (fun Z pre X' ⟨v, _, h⟩ => h.frm HG1.out) (fun x => .cells #[.int .i64 x.seq, .string x.key, .bool x.del, .int .i64 x.slot, .int .i64 x.off, .int .i64 x.size] 53)
    _ ?assign ?body ?hend ?hret
  case hret => intro _ _ _ _ _ _ _ h; exact h.elim
  case assign =>
    intro l x bx X' K hbx hK
    dsimp only [encE, enV]
    gi_wp2
    rw [← hbx]
    exact hK
  case body =>
    intro l Z pre x bx X' hI hbx hx hzx hzl hlr hsp
    obtain ⟨v, hlt, hI⟩ := hI
    have HIZ := Lib.hid hI
    have HX := Lib.hid hx
    have HO := Lib.hid (show Own X' 53 6 v pre.length (rowE pre) from hI.s.get (i := 1) rfl)
    have HB := Lib.hid (show X'.heap[b]? = _ from hI.s.get (i := 0) rfl)
    have dx := (cellsOf HX.out).1
    have lx := blkLt HX.out
    obtain ⟨db, fb⟩ := cellsOf HB.out
    have lbb := blkLt HB.out
    have nb : ¬ v.ownBlock = some b := own_ne HO.out HB.out (by decide)
    have HNB := Lib.hid nb
    clear hI hbx hx hzx hzl hlr hsp nb
    by_cases h5 : pre.length + 1 = 5000
    · have h5' : ((pre.length : Int) + 1 == 5000) = true := beq_iff_eq.2 (by omega)
      gi_wp2_with (first
        | (gi_at_builtin; go_must (refine wpListIn_appv _ rfl (.tmp 9) (.tmp 11) 45 rfl 53 i0 _ 6 56 Try.underlying45 hi hz0 hz1 hz2 rfl (by decide) v pre.length (rowE pre) rfl (HO.out.gr (by (repeat (first | (with_reducible exact Gr.refl _) | assumption | (with_reducible apply Gr.from_drew) | (with_reducible apply Gr.alloc) | (with_reducible apply Gr.drew) | (with_reducible refine Gr.trans ?_ (by assumption)) | (with_reducible refine Gr.setCell ?_ (by omega) _))))) (some ⟨X'.heap.size, 0, none⟩) 1 1 (enC x) rfl ((src_newK X' (enC x) _ 6 rfl (enC_one x))) (by simp only [maxLen]; omega) (by omega) ?_); intro v2 w2 hA; obtain ⟨a2, c2, rfl⟩ := hA.val; have HAV := Lib.hid hA; have HB2 := Lib.hid ((hA.mdh (fun g h => h)).blk (((Gr.refl X').alloc _).blk HB.out) HNB.out); clear hA; obtain ⟨db2, fb2⟩ := cellsOf HB2.out)
        | fail)
      have z2 := HIZ.out.gr ((Gr.refl X').alloc (.cells (enC x).toArray 53))
      have z3 := z2.1.step (i := 1) (B' := rowA 53 6 (.slice a2 (pre.length + 1) c2) (pre.length + 1) (rowE pre ++ enC x)) rfl HAL.out (HAV.out.mdh (fun g h => h)) (fun k hk => .inl hk) HAV.out.1 (fun k hq => HAV.out.2.1 k hq)
      have z4 := z3.1.step (i := 0) (B' := blkA b (.cells #[.slice a2 (pre.length + 1) c2] 45)) rfl HAL.out ((Mdh.refl (fun k => k = b) w2).setCell (p := ⟨b, 0, none⟩) rfl (.slice a2 (pre.length + 1) c2)) (fun k hk => .inl hk) (blkSet (j := 0) (u := .slice a2 (pre.length + 1) c2) HB2.out) (fun k hk => .inl hk)
      have zM := (z2.2.trans z3.2).trans z4.2
      have zR : SWz w w1 A [blkA b (.cells #[.slice a2 (pre.length + 1) c2] 45), rowA 53 6 (.slice a2 (pre.length + 1) c2) (pre ++ [x]).length (rowE (pre ++ [x]))] Z (w2.setCell ⟨b, 0, none⟩ (.slice a2 (pre.length + 1) c2)) := by
        rw [rowE_snoc, List.length_append]
        exact z4.1
      rw [h5] at zM zR
      exact ⟨zM.mono (fun k h => h.2), rfl, _, by simp; omega, zR⟩
    · have h5' : ((pre.length : Int) + 1 == 5000) = false := beq_false_of_ne (by omega)
      gi_wp2_with (first
        | (gi_at_builtin; go_must (refine wpListIn_appv _ rfl (.tmp 9) (.tmp 11) 45 rfl 53 i0 _ 6 56 Try.underlying45 hi hz0 hz1 hz2 rfl (by decide) v pre.length (rowE pre) rfl (HO.out.gr (by (repeat (first | (with_reducible exact Gr.refl _) | assumption | (with_reducible apply Gr.from_drew) | (with_reducible apply Gr.alloc) | (with_reducible apply Gr.drew) | (with_reducible refine Gr.trans ?_ (by assumption)) | (with_reducible refine Gr.setCell ?_ (by omega) _))))) (some ⟨X'.heap.size, 0, none⟩) 1 1 (enC x) rfl ((src_newK X' (enC x) _ 6 rfl (enC_one x))) (by simp only [maxLen]; omega) (by omega) ?_); intro v2 w2 hA; obtain ⟨a2, c2, rfl⟩ := hA.val; have HAV := Lib.hid hA; have HB2 := Lib.hid ((hA.mdh (fun g h => h)).blk (((Gr.refl X').alloc _).blk HB.out) HNB.out); clear hA; obtain ⟨db2, fb2⟩ := cellsOf HB2.out)
        | fail)
      have z2 := HIZ.out.gr ((Gr.refl X').alloc (.cells (enC x).toArray 53))
      have z3 := z2.1.step (i := 1) (B' := rowA 53 6 (.slice a2 (pre.length + 1) c2) (pre.length + 1) (rowE pre ++ enC x)) rfl HAL.out (HAV.out.mdh (fun g h => h)) (fun k hk => .inl hk) HAV.out.1 (fun k hq => HAV.out.2.1 k hq)
      have z4 := z3.1.step (i := 0) (B' := blkA b (.cells #[.slice a2 (pre.length + 1) c2] 45)) rfl HAL.out ((Mdh.refl (fun k => k = b) w2).setCell (p := ⟨b, 0, none⟩) rfl (.slice a2 (pre.length + 1) c2)) (fun k hk => .inl hk) (blkSet (j := 0) (u := .slice a2 (pre.length + 1) c2) HB2.out) (fun k hk => .inl hk)
      have zM := (z2.2.trans z3.2).trans z4.2
      have zR : SWz w w1 A [blkA b (.cells #[.slice a2 (pre.length + 1) c2] 45), rowA 53 6 (.slice a2 (pre.length + 1) c2) (pre ++ [x]).length (rowE (pre ++ [x]))] Z (w2.setCell ⟨b, 0, none⟩ (.slice a2 (pre.length + 1) c2)) := by
        rw [rowE_snoc, List.length_append]
        exact z4.1
      exact ⟨zM, _, by simp; omega, zR⟩
  case hend =>
    intro Z D xs W hD hZD hcase hdef
    have hx : ∃ v, xs = L.take 5000 ∧ SWz w w1 A [blkA b (.cells #[v] 45), rowA 53 6 v xs.length (rowE xs)] Z W := by
      rcases hcase with ⟨h1, v, h2, h3⟩ | ⟨h1, v, h2, h3⟩
      · exact ⟨v, by rw [show xs = L from h1] at h2 ⊢; rw [List.take_of_length_le (by omega)], h3⟩
      · exact ⟨v, take_pre h1 h2, h3⟩
    obtain ⟨v, rfl, hZ⟩ := hx
    have db := (cellsOf (show W.heap[b]? = _ from hZ.s.get (i := 0) rfl)).1
    have HZW := Lib.hid hZ
    have HD := Lib.hid (And.intro hD (And.intro hZD hdef))
    clear hcase hZ hD hZD hdef
    dsimp only
    go_wp2_with fail
    obtain ⟨hD, hZD, hdef⟩ := HD.out
    have hm : Mdh (fun k => k = D) W (W.putObj D (.deferred none)) := (Mdh.refl (fun k => k = D) W).putObj rfl _
    refine retM1 (D := D) rfl hdef (results_tmp rfl _ _ _) ⟨v, rfl, ⟨(show Own W _ _ _ _ _ from HZW.out.s.get (i := 1) rfl).mdh hm (fun k hk e => HZW.out.z _ (List.mem_cons_of_mem _ (List.mem_cons_self ..)) k hk (e ▸ hZD)), fun q hq => HZW.out.s.n _ (List.mem_cons_of_mem _ (List.mem_cons_self ..)) q hq⟩, HZW.out.s.g.putObj (Nat.le_trans HG1.out.sz hD) _⟩
theorem kS_snoc (l : List ByteArray) (x : ByteArray) : kS (l ++ [x]) = kS l ++ [.string x] := by simp [kS]
set_option maxRecDepth 40000 in
set_option maxHeartbeats 4000000 in
theorem TakeS {gf : Nat} {lb : Array Value} {A : Nat → Prop} {L : List ByteArray} {w : World} (eg : ∀ args w, (callFunc gf args).run Try.prog w = .ok (.enter gf args) w) (hseq : SeqZ Fence.wide 2 Try.prog gf lb encK A (fun xs => xs = L) (fun pre => pre <+: L) w) (hA : ∀ k, A k → k < w.heap.size) :
    Calls Try.prog 98 #[.func (.func gf) #[] lb] w fun e w' => ∃ v, e = .returned v ∧ Nw w w' 9 1 v (L.take 5000).length (kS (L.take 5000)) ∧ Gr w w' := by
  obtain ⟨i0, hi, hz0, hz1, hz2⟩ := info_parts info_str
  have k1 : ∀ w : World, (binOp .eql 174 (.func (.func gf) #[] lb) .nilFunc).run Try.prog w = .ok (.bool false) w := fun w => by kernel_rfl
  have HSEQ := Lib.hid hseq
  have HA := Lib.hid hA
  have HEG := Lib.hid eg
  clear hseq hA eg
  refine calls_of_wp_marks Try.func98 rfl ?_
  simp only [Try.ntmps98, List.size_toArray, List.length_cons, List.length_nil, Nat.reduceAdd, Nat.reduceSub, Array.replicate_succ, Array.replicate_zero, List.push_toArray, List.append_toArray, List.nil_append, List.cons_append]
  go_wp2_with fail
  obtain ⟨b, hb⟩ : ∃ q, q = w.heap.size := ⟨_, rfl⟩
  obtain ⟨w1, hw1⟩ : ∃ y, y = w.alloc (.cells #[.slice none 0 0] 171) := ⟨_, rfl⟩
  have HG1 : Hid (Gr w w1) := Lib.hid (by rw [hw1]; exact (Gr.refl w).alloc _)
  have HAL : Hid (∀ k, A k → k < w1.heap.size) := Lib.hid (fun k hk => by have := HA.out k hk; have := HG1.out.sz; omega)
  have HZ : Hid (SWz w w1 A [blkA b (.cells #[.slice none 0 0] 171), rowA 9 1 (.slice none 0 0) 0 []] (fun _ => False) w1) := Lib.hid (by
    have h1 : SW w [rowA 9 1 (.slice none 0 0) 0 []] w := (SW.start w).new (Gr.refl _) (nilRow _ _ _) (fun k hk => by cases hk)
    have h2 := h1.alloc (.cells #[.slice none 0 0] 171)
    rw [← hw1, ← hb] at h2
    refine SWz.start h2 (fun B hB k hk ha => ?_)
    have := h2.n B hB k hk
    have := HA.out k ha
    omega)
  rw [← hw1, ← hb]
  clear hw1 hb
  apply wp_rangeFunc_zb (gf := gf) (lb := lb) rfl HEG.out HSEQ.out (HG1.out.mdh _) HAL.out (fun _ => rfl)
    (fun Z pre X' => ∃ v, pre.length < 5000 ∧ SWz w w1 A [blkA b (.cells #[v] 171), rowA 9 1 v pre.length (kS pre)] Z X')
    (fun Z pre X' => ∃ v, pre.length = 5000 ∧ SWz w w1 A [blkA b (.cells #[v] 171), rowA 9 1 v pre.length (kS pre)] Z X') (fun _ _ _ => False)
    (Apart.ex fun v => (Apart.pure (fun pre : List ByteArray => pre.length < 5000)).and (SWz.apart HG1.out.sz (fun pre : List ByteArray => [blkA b (.cells #[v] 171), rowA 9 1 v pre.length (kS pre)])))
    (Apart.ex fun v => (Apart.pure (fun pre : List ByteArray => pre.length = 5000)).and (SWz.apart HG1.out.sz (fun pre : List ByteArray => [blkA b (.cells #[v] 171), rowA 9 1 v pre.length (kS pre)]))) apart_no
    ⟨_, by decide, HZ.out⟩
    _ ?assign ?body ?hend ?hret
  case hret => intro _ _ _ _ _ _ _ h; exact h.elim
  case assign =>
    intro l x X' K hK
    dsimp only [encK]
    gi_wp2
    exact hK
  case body =>
    intro l Z pre x X' hI hsp
    obtain ⟨v, hlt, hI⟩ := hI
    have HIZ := Lib.hid hI
    have HO := Lib.hid (show Own X' 9 1 v pre.length (kS pre) from hI.s.get (i := 1) rfl)
    have HB := Lib.hid (show X'.heap[b]? = _ from hI.s.get (i := 0) rfl)
    obtain ⟨db, fb⟩ := cellsOf HB.out
    have lbb := blkLt HB.out
    have nb : ¬ v.ownBlock = some b := own_ne HO.out HB.out (by decide)
    have HNB := Lib.hid nb
    clear hI hsp nb
    by_cases h5 : pre.length + 1 = 5000
    · have h5' : ((pre.length : Int) + 1 == 5000) = true := beq_iff_eq.2 (by omega)
      gi_wp2_with (first
        | (gi_at_builtin; go_must (refine wpListIn_appv _ rfl (.tmp 9) (.tmp 11) 171 rfl 9 i0 _ 1 16 Try.underlying171 hi hz0 hz1 hz2 rfl (by decide) v pre.length (kS pre) rfl (HO.out.gr (by (repeat (first | (with_reducible exact Gr.refl _) | assumption | (with_reducible apply Gr.from_drew) | (with_reducible apply Gr.alloc) | (with_reducible apply Gr.drew) | (with_reducible refine Gr.trans ?_ (by assumption)) | (with_reducible refine Gr.setCell ?_ (by omega) _))))) (some ⟨X'.heap.size, 0, none⟩) 1 1 ([Value.string x]) rfl ((src_newK X' ([Value.string x]) _ 1 rfl (by simp [Value.oneCell']))) (by simp only [maxLen]; omega) (by omega) ?_); intro v2 w2 hA; obtain ⟨a2, c2, rfl⟩ := hA.val; have HAV := Lib.hid hA; have HB2 := Lib.hid ((hA.mdh (fun g h => h)).blk (((Gr.refl X').alloc _).blk HB.out) HNB.out); clear hA; obtain ⟨db2, fb2⟩ := cellsOf HB2.out)
        | fail)
      have z2 := HIZ.out.gr ((Gr.refl X').alloc (.cells ([Value.string x]).toArray 9))
      have z3 := z2.1.step (i := 1) (B' := rowA 9 1 (.slice a2 (pre.length + 1) c2) (pre.length + 1) (kS pre ++ [Value.string x])) rfl HAL.out (HAV.out.mdh (fun g h => h)) (fun k hk => .inl hk) HAV.out.1 (fun k hq => HAV.out.2.1 k hq)
      have z4 := z3.1.step (i := 0) (B' := blkA b (.cells #[.slice a2 (pre.length + 1) c2] 171)) rfl HAL.out ((Mdh.refl (fun k => k = b) w2).setCell (p := ⟨b, 0, none⟩) rfl (.slice a2 (pre.length + 1) c2)) (fun k hk => .inl hk) (blkSet (j := 0) (u := .slice a2 (pre.length + 1) c2) HB2.out) (fun k hk => .inl hk)
      have zM := (z2.2.trans z3.2).trans z4.2
      have zR : SWz w w1 A [blkA b (.cells #[.slice a2 (pre.length + 1) c2] 171), rowA 9 1 (.slice a2 (pre.length + 1) c2) (pre ++ [x]).length (kS (pre ++ [x]))] Z (w2.setCell ⟨b, 0, none⟩ (.slice a2 (pre.length + 1) c2)) := by
        rw [kS_snoc, List.length_append]
        exact z4.1
      rw [h5] at zM zR
      exact ⟨zM.mono (fun k h => h.2), rfl, _, by simp; omega, zR⟩
    · have h5' : ((pre.length : Int) + 1 == 5000) = false := beq_false_of_ne (by omega)
      gi_wp2_with (first
        | (gi_at_builtin; go_must (refine wpListIn_appv _ rfl (.tmp 9) (.tmp 11) 171 rfl 9 i0 _ 1 16 Try.underlying171 hi hz0 hz1 hz2 rfl (by decide) v pre.length (kS pre) rfl (HO.out.gr (by (repeat (first | (with_reducible exact Gr.refl _) | assumption | (with_reducible apply Gr.from_drew) | (with_reducible apply Gr.alloc) | (with_reducible apply Gr.drew) | (with_reducible refine Gr.trans ?_ (by assumption)) | (with_reducible refine Gr.setCell ?_ (by omega) _))))) (some ⟨X'.heap.size, 0, none⟩) 1 1 ([Value.string x]) rfl ((src_newK X' ([Value.string x]) _ 1 rfl (by simp [Value.oneCell']))) (by simp only [maxLen]; omega) (by omega) ?_); intro v2 w2 hA; obtain ⟨a2, c2, rfl⟩ := hA.val; have HAV := Lib.hid hA; have HB2 := Lib.hid ((hA.mdh (fun g h => h)).blk (((Gr.refl X').alloc _).blk HB.out) HNB.out); clear hA; obtain ⟨db2, fb2⟩ := cellsOf HB2.out)
        | fail)
      have z2 := HIZ.out.gr ((Gr.refl X').alloc (.cells ([Value.string x]).toArray 9))
      have z3 := z2.1.step (i := 1) (B' := rowA 9 1 (.slice a2 (pre.length + 1) c2) (pre.length + 1) (kS pre ++ [Value.string x])) rfl HAL.out (HAV.out.mdh (fun g h => h)) (fun k hk => .inl hk) HAV.out.1 (fun k hq => HAV.out.2.1 k hq)
      have z4 := z3.1.step (i := 0) (B' := blkA b (.cells #[.slice a2 (pre.length + 1) c2] 171)) rfl HAL.out ((Mdh.refl (fun k => k = b) w2).setCell (p := ⟨b, 0, none⟩) rfl (.slice a2 (pre.length + 1) c2)) (fun k hk => .inl hk) (blkSet (j := 0) (u := .slice a2 (pre.length + 1) c2) HB2.out) (fun k hk => .inl hk)
      have zM := (z2.2.trans z3.2).trans z4.2
      have zR : SWz w w1 A [blkA b (.cells #[.slice a2 (pre.length + 1) c2] 171), rowA 9 1 (.slice a2 (pre.length + 1) c2) (pre ++ [x]).length (kS (pre ++ [x]))] Z (w2.setCell ⟨b, 0, none⟩ (.slice a2 (pre.length + 1) c2)) := by
        rw [kS_snoc, List.length_append]
        exact z4.1
      exact ⟨zM, _, by simp; omega, zR⟩
  case hend =>
    intro Z D xs W hD hZD hcase hdef
    have hx : ∃ v, xs = L.take 5000 ∧ SWz w w1 A [blkA b (.cells #[v] 171), rowA 9 1 v xs.length (kS xs)] Z W := by
      rcases hcase with ⟨h1, v, h2, h3⟩ | ⟨h1, v, h2, h3⟩
      · exact ⟨v, by rw [show xs = L from h1] at h2 ⊢; rw [List.take_of_length_le (by omega)], h3⟩
      · exact ⟨v, take_pre h1 h2, h3⟩
    obtain ⟨v, rfl, hZ⟩ := hx
    have db := (cellsOf (show W.heap[b]? = _ from hZ.s.get (i := 0) rfl)).1
    have HZW := Lib.hid hZ
    have HD := Lib.hid (And.intro hD (And.intro hZD hdef))
    clear hcase hZ hD hZD hdef
    dsimp only
    go_wp2_with fail
    obtain ⟨hD, hZD, hdef⟩ := HD.out
    have hm : Mdh (fun k => k = D) W (W.putObj D (.deferred none)) := (Mdh.refl (fun k => k = D) W).putObj rfl _
    refine retM1 (D := D) rfl hdef (results_tmp rfl _ _ _) ⟨v, rfl, ⟨(show Own W _ _ _ _ _ from HZW.out.s.get (i := 1) rfl).mdh hm (fun k hk e => HZW.out.z _ (List.mem_cons_of_mem _ (List.mem_cons_self ..)) k hk (e ▸ hZD)), fun q hq => HZW.out.s.n _ (List.mem_cons_of_mem _ (List.mem_cons_self ..)) q hq⟩, HZW.out.s.g.putObj (Nat.le_trans HG1.out.sz hD) _⟩
end Go.Proofs.Ytmdfickejpeofaa

/- slices.Equal at rows of entries and of strings. -/
set_option linter.unusedVariables false
set_option linter.unusedSimpArgs false
namespace Go.Proofs.Ytmdfickejpeofaa
open Go.RowKit Go.Shelf
attribute [local go_sem] OvM cell_ovm obj_ovm
attribute [local go_sem] Oper.semAt_some

theorem ownS_at {w : World} {v : Value} {l : List ByteArray} (h : Own w 9 1 v l.length (kS l)) : ∃ a cap, v = .slice a l.length cap ∧ l.length ≤ cap ∧ cap ≤ maxLen ∧ ∀ i x, l[i]? = some x → ∃ g, a = some ⟨g, 0, none⟩ ∧ g < w.heap.size ∧ v.ownBlock = some g ∧ w.cell? ⟨g, i, none⟩ = some (.string x) := by
  rcases h.2 with ⟨hv, h0⟩ | ⟨g, cap, cur, hv, _, hg, h1, h2, h3, h4⟩
  · have hL : l = [] := List.eq_nil_of_length_eq_zero h0
    subst hL
    exact ⟨none, 0, hv, Nat.le_refl _, by simp [maxLen], fun i x hx => by simp at hx⟩
  · subst hv
    refine ⟨_, cap, rfl, h1, h2, fun i x hx => ⟨g, rfl, blkLt hg, rfl, ?_⟩⟩
    have hc := h.cells (g := g) rfl i (.string x) (by unfold kS; rw [List.getElem?_map, hx]; rfl)
    rwa [show (⟨g, 0, none⟩ : Addr).add i = ⟨g, i, none⟩ by unfold Addr.add; split <;> simp_all] at hc
theorem beq_len (a b : Nat) (h : a ≠ b) : ((a : Int) == (b : Int)) = false := beq_false_of_ne (by omega)
set_option maxRecDepth 40000 in
set_option maxHeartbeats 2000000 in
theorem EqualE (l1 l2 : List En) (v1 v2 : Value) (w : World) (h1 : Own w 53 6 v1 l1.length (rowE l1)) (h2 : Own w 53 6 v2 l2.length (rowE l2)) (hn : l1.length ≤ 1000000) :
    Calls Try.prog 100 #[v1, v2] w fun e w' => e = .returned (.bool (decide (l1 = l2))) ∧ Gr w w' := by
  obtain ⟨a1, cap1, rfl, hc1, hm1, hat1⟩ := ownE_at h1
  obtain ⟨a2, cap2, rfl, hc2, hm2, hat2⟩ := ownE_at h2
  have HA1 := Lib.hid hat1
  have HA2 := Lib.hid hat2
  clear h1 h2 hat1 hat2
  unfold maxLen at hm1 hm2
  by_cases hl : l1.length = l2.length
  · go_enter Try.func100, Try.ntmps100
    rw [← hl]
    rw [← hl] at hc2
    have HL := Lib.hid hl
    clear hl
    go_wp2_with fail
    go_loopw [13] (fun i wx => ∃ k : Nat, k ≤ l1.length ∧ i = .int .i64 k ∧ Hid (Gr w wx) ∧ Hid (l1.take k = l2.take k)) (fun i _ => l1.length - (intOf i).toNat)
    case atStart => exact ⟨0, by omega, rfl, Lib.hid (by (repeat (first | (with_reducible exact Gr.refl _) | assumption | (with_reducible apply Gr.from_drew) | (with_reducible apply Gr.alloc) | (with_reducible apply Gr.drew) | (with_reducible refine Gr.trans ?_ (by assumption)) | (with_reducible refine Gr.setCell ?_ (by omega) _)))), Lib.hid (by simp)⟩
    case round =>
      obtain ⟨k, hk, rfl, HG, HT⟩ := hrel
      by_cases hlt : k < l1.length
      · have hlt' : (k : Int) < l1.length := by omega
        have hx : l1[k]? = some (l1[k]'hlt) := List.getElem?_eq_getElem hlt
        have hy : l2[k]? = some (l2[k]'(by rw [← HL.out]; exact hlt)) := List.getElem?_eq_getElem _
        obtain ⟨g, rfl, z1, z2, c0⟩ := HA1.out k _ hx
        obtain ⟨g', rfl, z3, z4, c1⟩ := HA2.out k _ hy
        clear z1 z2 z3 z4
        have HX := Lib.hid hx
        have HY := Lib.hid hy
        generalize l1[k]'hlt = x at *
        generalize l2[k]'(by rw [← HL.out]; exact hlt) = y at *
        have hr : ∀ i u, (enC x)[i]? = some u → wr.cell? ⟨g, k * 6 + i, none⟩ = some u := fun i u hu => HG.out.keep (c0 i u hu)
        have hs : ∀ i u, (enC y)[i]? = some u → wr.cell? ⟨g', k * 6 + i, none⟩ = some u := fun i u hu => HG.out.keep (c1 i u hu)
        have d0 := hr 0 _ rfl
        have d1 := hr 1 _ rfl
        have d2 := hr 2 _ rfl
        have d3 := hr 3 _ rfl
        have d4 := hr 4 _ rfl
        have d5 := hr 5 _ rfl
        have e0 := hs 0 _ rfl
        have e1 := hs 1 _ rfl
        have e2 := hs 2 _ rfl
        have e3 := hs 3 _ rfl
        have e4 := hs 4 _ rfl
        have e5 := hs 5 _ rfl
        simp only [Nat.add_zero] at d0 d1 d2 d3 d4 d5 e0 e1 e2 e3 e4 e5
        have k1 := fun w => neqE_run x y w
        clear hr hs
        clear c0 c1 hx hy
        by_cases hxy : x = y
        · have hd : decide (x = y) = true := decide_eq_true hxy
          have HXY := Lib.hid hxy
          clear hxy
          go_wp2
          refine wp_region_flo (fun _ => False) [] [] (by kernel_rfl) (by kernel_rfl) (fun _ h => h.elim) ?_
          refine flo_seg 9 rfl ?_
          simp only [List.take_succ_cons, List.take_zero, List.drop_succ_cons, List.drop_zero]
          repeat (go_big_quiet_step (fail))
          refine wpQuiet_nil ?_
          refine flo_nil ?_
          go_wp2
          go_roundw
          case rel => exact ⟨k + 1, by omega, by go_num, Lib.hid (HG.out.trans (by (repeat (first | (with_reducible exact Gr.refl _) | assumption | (with_reducible apply Gr.from_drew) | (with_reducible apply Gr.alloc) | (with_reducible apply Gr.drew) | (with_reducible refine Gr.trans ?_ (by assumption)) | (with_reducible refine Gr.setCell ?_ (by omega) _))))), Lib.hid (by rw [List.take_add_one, List.take_add_one, HT.out, HX.out, HY.out, HXY.out])⟩
          case measure => simp [intOf]; omega
        · have hd : decide (x = y) = false := decide_eq_false hxy
          have HXY := Lib.hid hxy
          clear hxy
          have HNE : Hid (decide (l1 = l2) = false) := Lib.hid (by
            apply decide_eq_false
            rintro rfl
            rw [HX.out] at HY
            exact HXY.out (Option.some.inj HY.out))
          go_wp2
          refine wp_region_flo (fun _ => False) [] [] (by kernel_rfl) (by kernel_rfl) (fun _ h => h.elim) ?_
          refine flo_seg 9 rfl ?_
          simp only [List.take_succ_cons, List.take_zero, List.drop_succ_cons, List.drop_zero]
          repeat (go_big_quiet_step (fail))
          refine wpQuiet_nil ?_
          refine flo_nil ?_
          go_wp2
          go_ret
          exact ⟨ret_bool HNE.out.symm, HG.out.trans (by (repeat (first | (with_reducible exact Gr.refl _) | assumption | (with_reducible apply Gr.from_drew) | (with_reducible apply Gr.alloc) | (with_reducible apply Gr.drew) | (with_reducible refine Gr.trans ?_ (by assumption)) | (with_reducible refine Gr.setCell ?_ (by omega) _))))⟩
      · have hlt' : ¬ (k : Int) < l1.length := by omega
        have hkl : k = l1.length := by omega
        have HEQ : Hid (decide (l1 = l2) = true) := Lib.hid (by
          apply decide_eq_true
          have := HT.out
          rwa [List.take_of_length_le (by omega), List.take_of_length_le (by have := HL.out; omega)] at this)
        clear hkl
        go_wp2
        go_ret
        exact ⟨ret_bool HEQ.out.symm, HG.out⟩
  · have hb := beq_len _ _ hl
    have HNE : Hid (decide (l1 = l2) = false) := Lib.hid (decide_eq_false (fun e => hl (by rw [e])))
    clear hl
    go_enter Try.func100, Try.ntmps100
    go_wp2
    go_ret
    exact ⟨ret_bool HNE.out.symm, Gr.refl _⟩
set_option maxRecDepth 40000 in
set_option maxHeartbeats 2000000 in
theorem EqualS (l1 l2 : List ByteArray) (v1 v2 : Value) (w : World) (h1 : Own w 9 1 v1 l1.length (kS l1)) (h2 : Own w 9 1 v2 l2.length (kS l2)) (hn : l1.length ≤ 1000000) :
    Calls Try.prog 101 #[v1, v2] w fun e w' => e = .returned (.bool (decide (l1 = l2))) ∧ Gr w w' := by
  obtain ⟨a1, cap1, rfl, hc1, hm1, hat1⟩ := ownS_at h1
  obtain ⟨a2, cap2, rfl, hc2, hm2, hat2⟩ := ownS_at h2
  have HA1 := Lib.hid hat1
  have HA2 := Lib.hid hat2
  clear h1 h2 hat1 hat2
  unfold maxLen at hm1 hm2
  by_cases hl : l1.length = l2.length
  · go_enter Try.func101, Try.ntmps101
    rw [← hl]
    rw [← hl] at hc2
    have HL := Lib.hid hl
    clear hl
    go_wp2_with fail
    go_loopw [13] (fun i wx => ∃ k : Nat, k ≤ l1.length ∧ i = .int .i64 k ∧ Hid (Gr w wx) ∧ Hid (l1.take k = l2.take k)) (fun i _ => l1.length - (intOf i).toNat)
    case atStart => exact ⟨0, by omega, rfl, Lib.hid (by (repeat (first | (with_reducible exact Gr.refl _) | assumption | (with_reducible apply Gr.from_drew) | (with_reducible apply Gr.alloc) | (with_reducible apply Gr.drew) | (with_reducible refine Gr.trans ?_ (by assumption)) | (with_reducible refine Gr.setCell ?_ (by omega) _)))), Lib.hid (by simp)⟩
    case round =>
      obtain ⟨k, hk, rfl, HG, HT⟩ := hrel
      by_cases hlt : k < l1.length
      · have hlt' : (k : Int) < l1.length := by omega
        have hx : l1[k]? = some (l1[k]'hlt) := List.getElem?_eq_getElem hlt
        have hy : l2[k]? = some (l2[k]'(by rw [← HL.out]; exact hlt)) := List.getElem?_eq_getElem _
        obtain ⟨g, rfl, z1, z2, c0⟩ := HA1.out k _ hx
        obtain ⟨g', rfl, z3, z4, c1⟩ := HA2.out k _ hy
        clear z1 z2 z3 z4
        have HX := Lib.hid hx
        have HY := Lib.hid hy
        generalize l1[k]'hlt = x at *
        generalize l2[k]'(by rw [← HL.out]; exact hlt) = y at *
        have d0 := HG.out.keep c0
        have e0 := HG.out.keep c1
        clear c0 c1 hx hy
        by_cases hxy : x = y
        · have hd : (x.toList == y.toList) = true := by rw [str_beq]; exact decide_eq_true hxy
          have HXY := Lib.hid hxy
          clear hxy
          go_wp2
          refine wp_region_flo (fun _ => False) [] [] (by kernel_rfl) (by kernel_rfl) (fun _ h => h.elim) ?_
          refine flo_seg 9 rfl ?_
          simp only [List.take_succ_cons, List.take_zero, List.drop_succ_cons, List.drop_zero]
          repeat (go_big_quiet_step (fail))
          refine wpQuiet_nil ?_
          refine flo_nil ?_
          go_wp2
          go_roundw
          case rel => exact ⟨k + 1, by omega, by go_num, Lib.hid (HG.out.trans (by (repeat (first | (with_reducible exact Gr.refl _) | assumption | (with_reducible apply Gr.from_drew) | (with_reducible apply Gr.alloc) | (with_reducible apply Gr.drew) | (with_reducible refine Gr.trans ?_ (by assumption)) | (with_reducible refine Gr.setCell ?_ (by omega) _))))), Lib.hid (by rw [List.take_add_one, List.take_add_one, HT.out, HX.out, HY.out, HXY.out])⟩
          case measure => simp [intOf]; omega
        · have hd : (x.toList == y.toList) = false := by rw [str_beq]; exact decide_eq_false hxy
          have HXY := Lib.hid hxy
          clear hxy
          have HNE : Hid (decide (l1 = l2) = false) := Lib.hid (by
            apply decide_eq_false
            rintro rfl
            rw [HX.out] at HY
            exact HXY.out (Option.some.inj HY.out))
          go_wp2
          refine wp_region_flo (fun _ => False) [] [] (by kernel_rfl) (by kernel_rfl) (fun _ h => h.elim) ?_
          refine flo_seg 9 rfl ?_
          simp only [List.take_succ_cons, List.take_zero, List.drop_succ_cons, List.drop_zero]
          repeat (go_big_quiet_step (fail))
          refine wpQuiet_nil ?_
          refine flo_nil ?_
          go_wp2
          go_ret
          exact ⟨ret_bool HNE.out.symm, HG.out.trans (by (repeat (first | (with_reducible exact Gr.refl _) | assumption | (with_reducible apply Gr.from_drew) | (with_reducible apply Gr.alloc) | (with_reducible apply Gr.drew) | (with_reducible refine Gr.trans ?_ (by assumption)) | (with_reducible refine Gr.setCell ?_ (by omega) _))))⟩
      · have hlt' : ¬ (k : Int) < l1.length := by omega
        have hkl : k = l1.length := by omega
        have HEQ : Hid (decide (l1 = l2) = true) := Lib.hid (by
          apply decide_eq_true
          have := HT.out
          rwa [List.take_of_length_le (by omega), List.take_of_length_le (by have := HL.out; omega)] at this)
        clear hkl
        go_wp2
        go_ret
        exact ⟨ret_bool HEQ.out.symm, HG.out⟩
  · have hb := beq_len _ _ hl
    have HNE : Hid (decide (l1 = l2) = false) := Lib.hid (decide_eq_false (fun e => hl (by rw [e])))
    clear hl
    go_enter Try.func101, Try.ntmps101
    go_wp2
    go_ret
    exact ⟨ret_bool HNE.out.symm, Gr.refl _⟩
end Go.Proofs.Ytmdfickejpeofaa

/- take at an index's own iterators; rows that a literal lays. -/
set_option linter.unusedVariables false
set_option linter.unusedSimpArgs false
namespace Go.Proofs.Ytmdfickejpeofaa
open Go.RowKit Go.Shelf

theorem take_of {w : World} {p : Option Addr} {X : IX} {S : Nat → Prop} (h : IXP w p X S) (k : ByteArray) (bb bk : Nat) (hbb : w.cell? ⟨bb, 0, none⟩ = some (.pointer p)) (hbk : w.cell? ⟨bk, 0, none⟩ = some (.string k)) :
    Calls Try.prog 96 #[.func (.func 142) #[] #[.pointer (some ⟨bb, 0, none⟩), .pointer (some ⟨bk, 0, none⟩)]] w fun e w' => ∃ v, e = .returned v ∧ Nw w w' 53 6 v ((X.of k).take 5000).length (rowE ((X.of k).take 5000)) ∧ Gr w w' :=
  TakeE (enters_of Try.func142 (by kernel_rfl) rfl) (SeqOfP h k bb bk hbb hbk) (fun q hq => by
    rcases hq with rfl | rfl | hq
    · exact World.block_lt_of_cell? w _ hbb
    · exact World.block_lt_of_cell? w _ hbk
    · exact h.lt q hq)
theorem take_slot {w : World} {p : Option Addr} {X : IX} {S : Nat → Prop} (h : IXP w p X S) (s : Int) (bb bk : Nat) (hbb : w.cell? ⟨bb, 0, none⟩ = some (.pointer p)) (hbk : w.cell? ⟨bk, 0, none⟩ = some (.int .i64 s)) :
    Calls Try.prog 96 #[.func (.func 152) #[] #[.pointer (some ⟨bb, 0, none⟩), .pointer (some ⟨bk, 0, none⟩)]] w fun e w' => ∃ v, e = .returned v ∧ Nw w w' 53 6 v ((X.slot s).take 5000).length (rowE ((X.slot s).take 5000)) ∧ Gr w w' :=
  TakeE (enters_of Try.func152 (by kernel_rfl) rfl) (SeqSlotP h s bb bk hbb hbk) (fun q hq => by
    rcases hq with rfl | rfl | hq
    · exact World.block_lt_of_cell? w _ hbb
    · exact World.block_lt_of_cell? w _ hbk
    · exact h.lt q hq)
theorem take_keys {w : World} {p : Option Addr} {X : IX} {S : Nat → Prop} (h : IXP w p X S) (bb : Nat) (hbb : w.cell? ⟨bb, 0, none⟩ = some (.pointer p)) :
    Calls Try.prog 98 #[.func (.func 153) #[] #[.pointer (some ⟨bb, 0, none⟩)]] w fun e w' => ∃ v, e = .returned v ∧ Nw w w' 9 1 v (X.ks.take 5000).length (kS (X.ks.take 5000)) ∧ Gr w w' :=
  TakeS (enters_of Try.func153 (by kernel_rfl) rfl) (SeqKeysP h bb hbb) (fun q hq => by
    rcases hq with rfl | hq
    · exact World.block_lt_of_cell? w _ hbb
    · exact h.lt q hq)
theorem own_lit (w : World) (t : TypeId) (K n : Nat) (xs : List Value) (hx : xs.length = n * K) (hn : n ≤ 100000) : Own (w.alloc (.cells xs.toArray t)) t K (.slice (some ⟨w.heap.size, 0, none⟩) n n) n xs :=
  Own.ofParts (blkNew w _) (Nat.le_refl _) (by unfold maxLen; omega) (by simpa using hx) (by rw [List.take_of_length_le (by rw [← hx]; exact Nat.le_refl _)])
end Go.Proofs.Ytmdfickejpeofaa

/- drumlinref21's index: the walk of Add. -/
set_option linter.unusedVariables false
set_option linter.unusedSimpArgs false
namespace Go.Proofs.Ytmdfickejpeofaa
open Go.RowKit Go.Shelf
attribute [local go_sem] OvM cell_ovm obj_ovm
attribute [local go_sem] Oper.semAt_some

/-- An element of a new block, as a source of an append. -/
theorem src_blk {w : World} {b : Nat} {e : En} {t : TypeId} (h : w.heap[b]? = some (.cells #[.int .i64 e.seq, .string e.key, .bool e.del, .int .i64 e.slot, .int .i64 e.off, .int .i64 e.size] t)) : SrcAt w 6 (some ⟨b, 0, none⟩) 1 (enC e) :=
  ⟨rfl, enC_one e, .inr ⟨_, rfl, fun j u hj => by
    rw [addr_add, Nat.zero_add]
    refine ((cellsOf h).1 j).trans ?_
    rw [← hj, List.getElem?_toArray]
    rfl⟩⟩
abbrev rIx (rb : Nat) (N : Int) (v : Value) (all : List En) (R : List Asn) : List Asn := blkA rb (rmO N v) :: rowA 53 6 v all.length (rowE all) :: R
def RAddP (w0 w : World) (rb : Nat) (N : Int) (all : List En) (R : List Asn) (e : En) (r : Ending) (w' : World) : Prop :=
  r = .returned (.int .i64 (rAddC N all e)) ∧ Mdh (fun k => k = rb) w w' ∧ ∃ v', SW w0 (rIx rb N v' (rAddL N all e) R) w'
theorem rAddP_no {w0 w w' : World} {rb : Nat} {N : Int} {v : Value} {all : List En} {R : List Asn} {e : En} {b : Nat} {o : Obj} {c : Int} (h : SW w0 (blkA b o :: rIx rb N v all R) w') (g : Gr w w') (hc : rAddC N all e = c) (h0 : c ≠ 0) : RAddP w0 w rb N all R e (.returned (.int .i64 c)) w' := by
  refine ⟨ret_int hc.symm, g.mdh _, v, ?_⟩
  unfold rAddL
  rw [hc, if_neg h0]
  exact h.sub (.cons _ (List.Sublist.refl _))
set_option maxRecDepth 40000 in
set_option maxHeartbeats 8000000 in
theorem rAdd {w0 w : World} {rb : Nat} {N : Int} {v : Value} {all : List En} {R : List Asn} (e : En) (h : SW w0 (rIx rb N v all R) w) (hN : 1 ≤ N) (hb : ∀ o ∈ all, 0 ≤ o.off ∧ o.off ≤ 8192 ∧ 0 ≤ o.size ∧ o.size ≤ 8192) (hk : e.key.size ≤ 140737488351232) (hn : all.length ≤ 200) :
    Calls Try.prog 21 #[.pointer (some ⟨rb, 0, none⟩), enV e] w (RAddP w0 w rb N all R e) := by
  obtain ⟨i0, hi, hz0, hz1, hz2⟩ := info_parts infoIten
  have H := Lib.hid h
  have HB := Lib.hid hb
  have HVE := Lib.hid (rValid e hk)
  have hN0 : 0 < N := by omega
  obtain ⟨av, cv, rfl, hcv, hmv, _⟩ := ownE_at (show Own w 53 6 v all.length (rowE all) from h.get (i := 1) rfl)
  unfold maxLen at hmv
  have HVI := Lib.hid (valid_iff e)
  have HRC : Hid (rAddC N all e = if e.slot < 0 ∨ N ≤ e.slot then 3 else if validE e = false then 2 else if all.any (rBad e) = true then 2 else if all.any (rHav e) = true then 6 else 0) := Lib.hid rfl
  have HRL : Hid (rAddC N all e = 0 → rAddL N all e = all ++ [e]) := Lib.hid (fun h => if_pos h)
  have HTB := Lib.hid (fun (i : Nat) (x : En) (hx : all[i]? = some x) => rany_snoc (p := rBad e) hx)
  have HTH := Lib.hid (fun (i : Nat) (x : En) (hx : all[i]? = some x) => rany_snoc (p := rHav e) hx)
  have HBE : Hid (∀ x : En, rBad e x = decide (x.seq = e.seq ∧ x.key = e.key ∧ (x.del ≠ e.del ∨ x.size ≠ e.size))) := Lib.hid (fun x => rfl)
  have HHE : Hid (∀ x : En, rHav e x = decide (x.slot = e.slot ∧ ((x.seq = e.seq ∧ x.key = e.key) ∨ (x.off < e.off + e.size ∧ e.off < x.off + x.size)))) := Lib.hid (fun x => rfl)
  have HTK := Lib.hid (fun (i : Nat) => rany_take (p := rBad e) (l := all) (i := i))
  clear h hb hk
  obtain ⟨rB, hrB⟩ : ∃ f, f = rBad e := ⟨_, rfl⟩
  obtain ⟨rH, hrH⟩ : ∃ f, f = rHav e := ⟨_, rfl⟩
  rw [← hrB] at HRC HTB HBE HTK
  rw [← hrH] at HRC HTH HHE
  clear hrB hrH
  obtain ⟨e0, e1, e2, e3, e4, e5⟩ := e
  simp only [enV] at HVE HVI HRC HHE HBE ⊢
  go_enter Try.func21, Try.ntmps21
  go_upto_region 1 with fail
  obtain ⟨b3, hb3⟩ : ∃ q, q = w.heap.size := ⟨_, rfl⟩
  obtain ⟨w1, hw1⟩ : ∃ y, y = w.alloc (boxF ⟨e0, e1, e2, e3, e4, e5⟩) := ⟨_, rfl⟩
  have H1 : Hid (SW w0 (blkA b3 (boxF ⟨e0, e1, e2, e3, e4, e5⟩) :: rIx rb N (.slice av all.length cv) all R) w1 ∧ Gr w w1) := Lib.hid (by rw [hw1, hb3]; exact ⟨H.out.alloc _, (Gr.refl w).alloc _⟩)
  simp only [boxF] at hw1
  rw [← hb3, ← hw1]
  clear hw1 hb3 H
  have d3 := (cellsOf (show w1.heap[b3]? = _ from H1.out.1.get (i := 0) rfl)).1
  have l3 := blkLt (show w1.heap[b3]? = _ from H1.out.1.get (i := 0) rfl)
  simp only [boxF] at d3
  have dr0 := ((cellsOf (show w1.heap[rb]? = _ from H1.out.1.get (i := 1) rfl)).1 0).trans (show _ = some (Value.int .i64 N) from rfl)
  go_wp2_with (go_at_call 85; refine (rvalid (H1.out.1.get (i := 1) rfl) hN0).mono ?_; rintro e w2 ⟨rfl, rfl⟩)
  have HD1 : Hid (SW w0 (blkA b3 (boxF ⟨e0, e1, e2, e3, e4, e5⟩) :: rIx rb N (.slice av all.length cv) all R) w1.drew ∧ Gr w w1.drew) := Lib.hid ⟨H1.out.1.gr (Gr.refl w1).drew, H1.out.2.drew⟩
  clear H1
  by_cases n0 : e3 < 0
  · have HR3 : Hid (rAddC N all ⟨e0, e1, e2, e3, e4, e5⟩ = 3) := Lib.hid (by rw [HRC.out, if_pos (.inl n0)])
    refine wp_region_flo (fun _ => False) [] [] (by kernel_rfl) (by kernel_rfl) (fun _ h => h.elim) ?_
    refine flo_seg 12 rfl ?_
    simp only [List.take_succ_cons, List.take_zero, List.drop_succ_cons, List.drop_zero]
    repeat (go_big_quiet_step (fail))
    refine wpQuiet_nil ?_
    refine flo_nil ?_
    go_wp2_with fail
    go_ret
    exact rAddP_no HD1.out.1 HD1.out.2 HR3.out (by decide)
  by_cases n1 : N ≤ e3
  · have HR3 : Hid (rAddC N all ⟨e0, e1, e2, e3, e4, e5⟩ = 3) := Lib.hid (by rw [HRC.out, if_pos (.inr n1)])
    refine wp_region_flo (fun _ => False) [] [] (by kernel_rfl) (by kernel_rfl) (fun _ h => h.elim) ?_
    refine flo_seg 12 rfl ?_
    simp only [List.take_succ_cons, List.take_zero, List.drop_succ_cons, List.drop_zero]
    repeat (go_big_quiet_step (fail))
    refine wpQuiet_nil ?_
    refine flo_nil ?_
    go_wp2_with fail
    go_ret
    exact rAddP_no HD1.out.1 HD1.out.2 HR3.out (by decide)
  have HRC2 : Hid (rAddC N all ⟨e0, e1, e2, e3, e4, e5⟩ = if validE ⟨e0, e1, e2, e3, e4, e5⟩ = false then 2 else if all.any rB = true then 2 else if all.any rH = true then 6 else 0) := Lib.hid (by rw [HRC.out, if_neg (by omega)])
  clear HRC
  refine wp_region_flo (fun _ => False) [] [] (by kernel_rfl) (by kernel_rfl) (fun _ h => h.elim) ?_
  refine flo_seg 12 rfl ?_
  simp only [List.take_succ_cons, List.take_zero, List.drop_succ_cons, List.drop_zero]
  repeat (go_big_quiet_step (fail))
  refine wpQuiet_nil ?_
  refine flo_nil ?_
  cases hv : validE ⟨e0, e1, e2, e3, e4, e5⟩ with
  | false =>
    rw [hv] at HVE
    have HR3 : Hid (rAddC N all ⟨e0, e1, e2, e3, e4, e5⟩ = 2) := Lib.hid (by rw [HRC2.out, if_pos hv])
    clear hv
    go_wp2_with (go_at_call 86; refine (HVE.out _).mono ?_; rintro e w2 ⟨rfl, hg⟩; have HG2 := Lib.hid hg; clear hg)
    go_ret
    exact rAddP_no (HD1.out.1.gr HG2.out) (HD1.out.2.trans HG2.out) HR3.out (by decide)
  | true =>
    have HRC3 : Hid (rAddC N all ⟨e0, e1, e2, e3, e4, e5⟩ = if all.any rB = true then 2 else if all.any rH = true then 6 else 0) := Lib.hid (by rw [HRC2.out, hv, if_neg (by decide)])
    have hvi := HVI.out.1 hv
    rw [hv] at HVE
    have hb4 : 0 ≤ e4 ∧ e4 ≤ 8192 ∧ 0 ≤ e5 ∧ e5 ≤ 8192 := by omega
    obtain ⟨v1, v2, v3, v4⟩ := hb4
    clear hv hvi HVI HRC2
    go_wp2_with (go_at_call 86; refine (HVE.out _).mono ?_; rintro e w2 ⟨rfl, hg⟩; have HD2 : Hid (SW w0 (blkA b3 (boxF ⟨e0, e1, e2, e3, e4, e5⟩) :: rIx rb N (.slice av all.length cv) all R) w2 ∧ Gr w w2) := Lib.hid ⟨HD1.out.1.gr hg, HD1.out.2.trans hg⟩; clear hg)
    clear HD1 HVE d3 l3 dr0
    go_loopw [5, 6] (fun t5 t6 wx => ∃ i : Nat, i ≤ all.length ∧ t5 = .bool ((all.take i).any rH) ∧ t6 = .int .i64 i ∧ Hid ((all.take i).any rB = false) ∧ Hid (SW w0 (blkA b3 (boxF ⟨e0, e1, e2, e3, e4, e5⟩) :: rIx rb N (.slice av all.length cv) all R) wx ∧ Gr w wx)) (fun _ t6 _ => all.length - (intOf t6).toNat)
    case atStart => exact ⟨0, by omega, rfl, rfl, Lib.hid rfl, HD2⟩
    case round =>
      obtain ⟨i, hil, rfl, rfl, HNB, HI⟩ := hrel
      clear HD2
      have hrb : wr.heap[rb]? = _ := HI.out.1.get (i := 1) rfl
      have dr1 := ((cellsOf hrb).1 1).trans (show _ = some (Value.slice av all.length cv) from rfl)
      clear hrb
      by_cases hli : i < all.length
      · have hli' : (i : Int) < all.length := by omega
        obtain ⟨x, hx⟩ : ∃ x, all[i]? = some x := ⟨_, List.getElem?_eq_getElem hli⟩
        obtain ⟨_, _, hve, _, _, hat⟩ := ownE_at (show Own wr 53 6 (.slice av all.length cv) all.length (rowE all) from HI.out.1.get (i := 2) rfl)
        injection hve with g1 g2 g3
        subst g1
        obtain ⟨g0, rfl, hg0, _, hc⟩ := hat i _ hx
        have y0 := hc 0 _ rfl
        have y1 := hc 1 _ rfl
        have y2 := hc 2 _ rfl
        have y3 := hc 3 _ rfl
        have y4 := hc 4 _ rfl
        have y5 := hc 5 _ rfl
        simp only [Nat.add_zero] at y0 y1 y2 y3 y4 y5
        have HTB1 := Lib.hid (HTB.out i x hx)
        have HTH1 := Lib.hid (HTH.out i x hx)
        have HBE1 := Lib.hid (HBE.out x)
        have HHE1 := Lib.hid (HHE.out x)
        obtain ⟨q1, q2, q3, q4⟩ := HB.out x (List.mem_of_getElem? hx)
        clear hat hc g2 g3 hx
        obtain ⟨bB, hbB⟩ : ∃ b, b = rB x := ⟨_, rfl⟩
        obtain ⟨bH, hbH⟩ : ∃ b, b = rH x := ⟨_, rfl⟩
        rw [← hbB] at HTB1 HBE1
        rw [← hbH] at HTH1 HHE1
        clear hbB hbH
        obtain ⟨x0, x1, x2, x3, x4, x5⟩ := x
        simp only at y0 y1 y2 y3 y4 y5 q1 q2 q3 q4 HBE1 HHE1
        go_upto_region 12 with fail
        obtain ⟨b7, hb7⟩ : ∃ q, q = wr.heap.size := ⟨_, rfl⟩
        obtain ⟨w9, hw9⟩ : ∃ y, y = wr.alloc (boxF ⟨x0, x1, x2, x3, x4, x5⟩) := ⟨_, rfl⟩
        have H9 : Hid (SW w0 (blkA b7 (boxF ⟨x0, x1, x2, x3, x4, x5⟩) :: blkA b3 (boxF ⟨e0, e1, e2, e3, e4, e5⟩) :: rIx rb N (.slice (some ⟨g0, 0, none⟩) all.length cv) all R) w9 ∧ Gr w w9) := Lib.hid (by rw [hw9, hb7]; exact ⟨HI.out.1.alloc _, HI.out.2.alloc _⟩)
        simp only [boxF] at hw9
        rw [← hb7, ← hw9]
        clear hw9 hb7 HI y0 y1 y2 y3 y4 y5 hg0 dr1
        have d3 := (cellsOf (show w9.heap[b3]? = _ from H9.out.1.get (i := 1) rfl)).1
        have d7 := (cellsOf (show w9.heap[b7]? = _ from H9.out.1.get (i := 0) rfl)).1
        simp only [boxF] at d3 d7
        have H10 : Hid (SW w0 (blkA b3 (boxF ⟨e0, e1, e2, e3, e4, e5⟩) :: rIx rb N (.slice (some ⟨g0, 0, none⟩) all.length cv) all R) w9 ∧ Gr w w9) := Lib.hid ⟨H9.out.1.sub (.cons _ (List.Sublist.refl _)), H9.out.2⟩
        clear H9
        obtain ⟨bb, hbb⟩ : ∃ b, b = (all.take i).any rH := ⟨_, rfl⟩
        rw [← hbb] at HTH1 ⊢
        clear hbb
        have hcl : ∀ (c : Prop) [Decidable c], (c → False) → decide c = false := fun c _ h => decide_eq_false h
        by_cases hcp : x0 = e0 ∧ x1 = e1
        · obtain ⟨hq, hk⟩ := hcp
          subst hq hk
          clear hcl
          go_wp2_with fail
          all_goals
            try
              (refine ⟨⟨i + 1, by omega, ?_, by simp, Lib.hid ?_, H10⟩, by simp [intOf]; omega⟩
               · rw [HTH1.out, HHE1.out]
                 first
                 | (rw [decide_eq_true ⟨by assumption, .inl ⟨rfl, rfl⟩⟩, Bool.or_true]; done)
                 | (rw [decide_eq_false (fun hh => by have := hh.1; first | (exact absurd this (by assumption)) | (simp_all; done)), Bool.or_false]; done)
               · rw [HTB1.out, HNB.out, HBE1.out, Bool.false_or]
                 refine decide_eq_false (fun hh => ?_)
                 have hh2 := hh.2.2
                 clear hh HTB HTH HBE HHE HTK HRC3
                 simp_all)
          all_goals
            go_ret
            refine rAddP_no H10.out.1 H10.out.2 (c := 2) ?_ (by decide)
            rw [HRC3.out, if_pos]
            refine HTK.out (i + 1) ?_
            rw [HTB1.out, HBE1.out, Bool.or_eq_true]
            refine .inr (decide_eq_true (And.intro (by first | trivial | rfl) (And.intro (by first | trivial | rfl) ?_)))
            first | exact .inl (by assumption) | exact .inr (bne_iff_ne.1 (by assumption)) | (simp_all; done)
        · have HNC := Lib.hid hcp
          have HB2 : Hid (bB = false) := Lib.hid (HBE1.out.trans (decide_eq_false (fun hh => hcp ⟨hh.1, hh.2.1⟩)))
          have HH2 : Hid (bH = decide (x3 = e3 ∧ x4 < e4 + e5 ∧ e4 < x4 + x5)) := Lib.hid (HHE1.out.trans (by
            congr 1
            exact propext ⟨fun hh => ⟨hh.1, hh.2.resolve_left hcp⟩, fun hh => ⟨hh.1, .inr hh.2⟩⟩))
          clear HBE1 HHE1 hcl
          have fin : ∀ b : Bool, (b = (bb || bH)) → ∃ i', i' ≤ all.length ∧ Value.bool b = Value.bool ((all.take i').any rH) ∧ Value.int .i64 ((i : Int) + 1) = .int .i64 (i' : Nat) ∧ Hid ((all.take i').any rB = false) ∧ Hid (SW w0 (blkA b3 (boxF ⟨e0, e1, e2, e3, e4, e5⟩) :: rIx rb N (.slice (some ⟨g0, 0, none⟩) all.length cv) all R) w9 ∧ Gr w w9) := fun b hb =>
            ⟨i + 1, by omega, by rw [HTH1.out, hb], by simp, Lib.hid (by rw [HTB1.out, HNB.out, HB2.out]; rfl), H10⟩
          have HF := Lib.hid fin
          clear fin
          by_cases hq : x0 = e0
          · have hk : ¬ x1 = e1 := fun h => hcp ⟨hq, h⟩
            have hkb : (x1.toList == e1.toList) = false := (str_beq x1 e1).trans (decide_eq_false hk)
            clear hcp hk
            subst hq
            go_wp2_with fail
            all_goals
              refine ⟨HF.out _ ?_, by simp [intOf]; omega⟩
              rw [HH2.out]
              first
              | (rw [decide_eq_true (by omega), Bool.or_true]; done)
              | (rw [decide_eq_false (by omega), Bool.or_false]; done)
          · have hqb : (x0 == e0) = false := beq_false_of_ne hq
            clear hcp hq
            go_wp2_with fail
            all_goals
              refine ⟨HF.out _ ?_, by simp [intOf]; omega⟩
              rw [HH2.out]
              first
              | (rw [decide_eq_true (by omega), Bool.or_true]; done)
              | (rw [decide_eq_false (by omega), Bool.or_false]; done)
      · have hli' : ¬ (i : Int) < all.length := by omega
        obtain rfl : i = all.length := by omega
        rw [List.take_length] at HNB ⊢
        cases hH : all.any rH with
        | true =>
          have HR6 : Hid (rAddC N all ⟨e0, e1, e2, e3, e4, e5⟩ = 6) := Lib.hid (by rw [HRC3.out, HNB.out, hH, if_neg (by decide), if_pos rfl])
          clear hH
          go_wp2_with fail
          go_ret
          exact rAddP_no HI.out.1 HI.out.2 HR6.out (by decide)
        | false =>
          have HR0 : Hid (rAddC N all ⟨e0, e1, e2, e3, e4, e5⟩ = 0) := Lib.hid (by rw [HRC3.out, HNB.out, hH, if_neg (by decide), if_neg (by decide)])
          clear hH
          have d3 := (cellsOf (show wr.heap[b3]? = _ from HI.out.1.get (i := 0) rfl)).1
          simp only [boxF] at d3
          have SRC : Hid (SrcAt wr.drew 6 av all.length (rowE all)) := Lib.hid ((src_all (show Own wr 53 6 (.slice av all.length cv) all.length (rowE all) from HI.out.1.get (i := 2) rfl) (rowE_one all)).gr (Gr.refl wr).drew)
          go_wp2_with fail
          have HG := Gr.refl wr.drew
          refine wp_region_flt 10 (fun _ => False) [107] [] (by kernel_rfl) (by kernel_rfl) (by decide) (by kernel_rfl) (fun _ h => h.elim) ?_
          simp only [List.take_succ_cons, List.take_zero, List.drop_succ_cons, List.drop_zero]
          refine flo_seg 1 rfl ?_
          simp only [List.take_succ_cons, List.take_zero, List.drop_succ_cons, List.drop_zero]
          repeat (go_big_quiet_step (fail))
          refine wpQuiet_nil ?_
          refine flo_effg rfl rfl rfl (fun wg1 hgg1 K hK => ?_)
          (try replace HG := Gr.trans (Gr.trans HG (by (repeat (first | (with_reducible exact Gr.refl _) | assumption | (with_reducible apply Gr.from_drew) | (with_reducible apply Gr.alloc) | (with_reducible apply Gr.drew) | (with_reducible refine Gr.trans ?_ (by assumption)) | (with_reducible refine Gr.setCell ?_ (by omega) _))))) hgg1)
          go_wp2
          refine ⟨by (first | (refine Gr.mdh ?_ _; (repeat (first | (with_reducible exact Gr.refl _) | assumption | (with_reducible apply Gr.from_drew) | (with_reducible apply Gr.alloc) | (with_reducible apply Gr.drew) | (with_reducible refine Gr.trans ?_ (by assumption)) | (with_reducible refine Gr.setCell ?_ (by omega) _))); done) | (repeat (first | (with_reducible exact Mdh.refl _ _) | (with_reducible refine Mdh.setCell ?_ (by simp) _) | (with_reducible refine Mdh.setNew ?_ (by simp) _) | (with_reducible apply Mdh.alloc) | (with_reducible apply Mdh.from_drew) | (with_reducible apply Mdh.drew) | (with_reducible refine Mdh.gr ?_ (by assumption))))), ?_⟩
          refine flo_seg 4 rfl ?_
          simp only [List.take_succ_cons, List.take_zero, List.drop_succ_cons, List.drop_zero]
          repeat (go_big_quiet_step (fail))
          refine wpQuiet_nil ?_
          refine flo_effg rfl rfl rfl (fun wg2 hgg2 K hK => ?_)
          (try replace HG := Gr.trans (Gr.trans HG (by (repeat (first | (with_reducible exact Gr.refl _) | assumption | (with_reducible apply Gr.from_drew) | (with_reducible apply Gr.alloc) | (with_reducible apply Gr.drew) | (with_reducible refine Gr.trans ?_ (by assumption)) | (with_reducible refine Gr.setCell ?_ (by omega) _))))) hgg2)
          refine wp_appv _ (.tmp 100) (.tmp 104) 45 rfl 53 i0 _ 6 56 Try.underlying45 hi hz0 hz1 hz2 rfl (by decide) (.slice (some ⟨wg1.heap.size, 0, none⟩) 0 0) 0 [] rfl ((Nw.made (w0 := wr.drew) (w := wg1) hgg1.sz).own.gr hgg2) av all.length cv (rowE all) rfl (SRC.out.gr HG) (by simp only [maxLen]; omega) (by omega) (fun k1 x1 hk1 => ?_); rw [Nat.zero_add, List.nil_append] at hk1; (have n1 := hk1.nw ((Nw.made (w0 := wr.drew) (w := wg1) hgg1.sz).gr hgg2) HG.sz); (replace HG := hk1.gw ((Nw.made (w0 := wr.drew) (w := wg1) hgg1.sz).gr hgg2) HG); obtain ⟨a1, c1, rfl⟩ := hk1.val; refine hK _ _ ⟨hk1.mdh (fun q hq => by rw [ownB hq]; simp), ?_⟩; simp only [Act.put, List.setIfInBounds_toArray, List.set_cons_succ, List.set_cons_zero]
          refine flo_seg 1 rfl ?_
          simp only [List.take_succ_cons, List.take_zero, List.drop_succ_cons, List.drop_zero]
          repeat (go_big_quiet_step (fail))
          refine wpQuiet_nil ?_
          refine flo_float (fun b => .slice (some ⟨b, 0, none⟩) 1 1) (_) rfl rfl (fun w => by simp [go_sem]; rfl) (fun wf1 fb1 hgf1 fl1 fh1 ft1 fo1 => ?_)
          (try replace HG := Gr.trans (Gr.trans HG (by (repeat (first | (with_reducible exact Gr.refl _) | assumption | (with_reducible apply Gr.from_drew) | (with_reducible apply Gr.alloc) | (with_reducible apply Gr.drew) | (with_reducible refine Gr.trans ?_ (by assumption)) | (with_reducible refine Gr.setCell ?_ (by omega) _))))) hgf1)
          (try have fc1 := (cellsOf fo1).1)
          (try have ff1 := (cellsOf fo1).2)
          refine flo_eff rfl rfl rfl rfl (fun K hK => ?_)
          refine wp_appv _ (.tmp 105) (.tmp 107) 45 rfl 53 i0 _ 6 56 Try.underlying45 hi hz0 hz1 hz2 rfl (by decide) (.slice a1 all.length c1) all.length (rowE all) rfl (n1.own.gr hgf1) (some ⟨fb1, 0, none⟩) 1 1 (enC ⟨e0, e1, e2, e3, e4, e5⟩) rfl (src_blk (e := ⟨e0, e1, e2, e3, e4, e5⟩) fo1) (by simp only [maxLen]; omega) (by omega) (fun k2 x2 hk2 => ?_); (have n2 := hk2.nw (n1.gr hgf1) HG.sz); (have m2 := hk2.gw (n1.gr hgf1) HG); obtain ⟨a2, c2, rfl⟩ := hk2.val; refine hK _ _ ⟨hk2.mdh (fun q hq => (hk1.2.1 q hq).elim (fun h => by rw [ownB h]; exact .inr (.inl (.inl (.inr ⟨Nat.le_refl _, by simp⟩)))) (fun h => .inr (.inl (.inr ⟨h, hk1.1.lt hq⟩)))), ?_⟩; simp only [Act.put, List.setIfInBounds_toArray, List.set_cons_succ, List.set_cons_zero]
          refine flo_nil ?_
          have g0 : Gr wr x2 := (Gr.refl wr).drew.trans m2
          have h1 := HI.out.1.new g0 (A := rowA 53 6 (.slice a2 (all.length + 1) c2) (all ++ [(⟨e0, e1, e2, e3, e4, e5⟩ : En)]).length (rowE (all ++ [(⟨e0, e1, e2, e3, e4, e5⟩ : En)]))) (by
            show Own _ _ _ _ _ _
            rw [rowE_snoc, List.length_append]
            exact n2.own) (fun k hk => by have := n2.new k hk; simpa using this)
          have hb2 : x2.heap[rb]? = some (rmO N (.slice av all.length cv)) := h1.get (i := 2) rfl
          have h2 := h1.at (i := 2) rfl ((Mdh.refl (fun k => k = rb) x2).setCell (p := ⟨rb, 1, none⟩) rfl (.slice a2 (all.length + 1) c2)) (fun k hk => .inl hk) (B := blkA rb (rmO N (.slice a2 (all.length + 1) c2))) (blkSet (j := 1) hb2) (fun k hk => .inl hk)
          have HE := Lib.hid ((h2.sub (.cons_cons _ (.cons _ (.cons_cons _ (.cons _ (List.Sublist.refl _)))))).perm (List.Perm.swap _ _ _))
          have HM : Hid (Mdh (fun k => k = rb) w (x2.setCell ⟨rb, 1, none⟩ (.slice a2 (all.length + 1) c2))) := Lib.hid (((HI.out.2.trans g0).mdh (fun k => k = rb)).setCell (p := ⟨rb, 1, none⟩) rfl _)
          obtain ⟨_, f2⟩ := cellsOf hb2
          have l2 := blkLt hb2
          clear h1 h2 hb2 g0 n1 n2 m2 hk1 hk2 HG d3
          go_wp2_with fail
          go_ret
          exact ⟨ret_int HR0.out.symm, HM.out, _, by rw [HRL.out HR0.out]; exact HE.out⟩
end Go.Proofs.Ytmdfickejpeofaa

/- An index that grows entry by entry, each behind those of its slot: what every builder of chapters 22, 23, 24, 28 keeps, without bounds. No walk. -/
set_option linter.unusedVariables false
set_option linter.unusedSimpArgs false
namespace Go.Proofs.Ytmdfickejpeofaa

structure FG (X : IX) (all : List En) (en : Int → Int) (n : Int) : Prop where
  wf : X.Wf
  ln : (X.slots.length : Int) = n
  n0 : 1 ≤ n
  pm : all.Perm X.ents
  up : ∀ e ∈ all, e.off + e.size ≤ en e.slot
  cp : ∀ a ∈ all, ∀ b ∈ all, a.seq = b.seq → a.key = b.key ∧ a.del = b.del ∧ a.size = b.size
section
variable {X : IX} {all : List En} {en : Int → Int} {n : Int}
theorem FG.mem (h : FG X all en n) (e : En) : e ∈ all ↔ e ∈ X.ents := h.pm.mem_iff
theorem FG.slot (h : FG X all en n) (s : Int) (e : En) : e ∈ X.slot s ↔ e ∈ all ∧ e.slot = s := by rw [h.mem]; exact h.wf.slot_mem s e
theorem FG.of (h : FG X all en n) (k : ByteArray) (e : En) : e ∈ X.of k ↔ e ∈ all ∧ e.key = k := by rw [h.mem]; exact h.wf.of_mem k e
theorem FG.ne (h : FG X all en n) : X.slots ≠ [] := fun h0 => by have := h.ln; have := h.n0; rw [h0] at *; simp at *; omega
theorem FG.has (h : FG X all en n) {s : Int} (h0 : 0 ≤ s) (h1 : s < n) : X.has s = true := by
  unfold IX.has
  exact decide_eq_true ⟨h0, by have := h.ln; omega⟩
theorem FG.no (h : FG X all en n) {s : Int} (h0 : s < 0 ∨ n ≤ s) : X.has s = false := by
  unfold IX.has
  exact decide_eq_false (by have := h.ln; omega)
theorem FG.len (h : FG X all en n) : (X.ents.length : Int) = all.length := by rw [h.pm.length_eq]
theorem FG.val (h : FG X all en n) {e : En} (he : e ∈ all) : keyChk e.key = 0 ∧ 1 ≤ e.seq ∧ e.seq ≤ 1099511627776 ∧ 0 ≤ e.off ∧ 16 + (e.key.size : Int) ≤ e.size ∧ (e.size = 16 + (e.key.size : Int) ∨ e.del = false) ∧ e.size ≤ 8192 ∧ e.off ≤ 8192 - e.size := (valid_iff e).1 (h.wf.valid ((h.mem e).1 he)).1
theorem FG.slots (h : FG X all en n) {e : En} (he : e ∈ all) : 0 ≤ e.slot ∧ e.slot < n := by
  have h1 := (h.wf.valid ((h.mem e).1 he)).2
  unfold IX.has at h1
  have := of_decide_eq_true h1
  have := h.ln
  omega
theorem FG.clash (h : FG X all en n) {e : En} (ho : en e.slot ≤ e.off) : clash (X.slot e.slot) e = false := by
  refine clash_end (fun o hm => ?_) (fun o hm => ?_)
  · obtain ⟨h1, h2⟩ := (h.slot _ o).1 hm
    have := h.up o h1
    rw [h2] at this
    omega
  · have := h.val ((h.slot _ o).1 hm).1
    omega
/-- An entry that goes behind those of its slot. -/
theorem FG.push (h : FG X all en n) {e : En} (a : AddOk X e) (ho : en e.slot ≤ e.off) (hc : ∀ o ∈ all, o.seq = e.seq → o.key = e.key ∧ o.del = e.del ∧ o.size = e.size) :
    FG (addX X e) (all ++ [e]) (upd en e.slot (e.off + e.size)) n := by
  have hv := (valid_iff e).1 a.valid
  have hle : ∀ s, en s ≤ upd en e.slot (e.off + e.size) s := fun s => by
    unfold upd
    split
    · rename_i h0; subst h0; omega
    · exact Int.le_refl _
  refine ⟨add_wf h.wf a, ?_, h.n0, ?_, fun o hm => ?_, fun x hx y hy hq => ?_⟩
  · rw [addX_eq a]; simp only [List.length_set]; exact h.ln
  · exact (List.perm_append_singleton e all).trans ((h.pm.cons e).trans (add_ents h.wf a).symm)
  · rcases List.mem_append.1 hm with hm | hm
    · exact Int.le_trans (h.up o hm) (hle _)
    · rw [List.mem_singleton.1 hm, upd_same]
      exact Int.le_refl _
  · rcases List.mem_append.1 hx with hx1 | hx1 <;> rcases List.mem_append.1 hy with hy1 | hy1
    · exact h.cp x hx1 y hy1 hq
    · obtain rfl := List.mem_singleton.1 hy1
      exact hc x hx1 hq
    · obtain rfl := List.mem_singleton.1 hx1
      obtain ⟨q1, q2, q3⟩ := hc y hy1 hq.symm
      exact ⟨q1.symm, q2.symm, q3.symm⟩
    · obtain rfl := List.mem_singleton.1 hx1
      obtain rfl := List.mem_singleton.1 hy1
      exact ⟨rfl, rfl, rfl⟩
/-- A new entry can be added. -/
theorem FG.okNew (h : FG X all en n) {e : En} (hq : ∀ o ∈ all, o.seq ≠ e.seq) (h0 : 0 ≤ e.slot) (h1 : e.slot < n) (hv : validE e = true) (ho : en e.slot ≤ e.off) : AddOk X e := by
  refine ⟨h.ne, h.has h0 h1, hv, fun o hm => badE_no (fun hh => absurd hh (hq o ((h.of _ o).1 hm).1)), fun o hm => ?_, h.clash ho⟩
  unfold sameE
  exact decide_eq_false (fun hh => hq o ((h.of _ o).1 hm).1 hh.1)
theorem FG.new (h : FG X all en n) {e : En} (hq : ∀ o ∈ all, o.seq ≠ e.seq) (h0 : 0 ≤ e.slot) (h1 : e.slot < n) (hv : validE e = true) (ho : en e.slot ≤ e.off) :
    addE X e = 0 ∧ FG (addX X e) (all ++ [e]) (upd en e.slot (e.off + e.size)) n :=
  have a := h.okNew hq h0 h1 hv ho
  ⟨ok_add a, h.push a ho (fun o hm hh => absurd hh (hq o hm))⟩
/-- A copy of what there is differs from no entry with its number. -/
theorem FG.copyBad (h : FG X all en n) {x e : En} (hx : x ∈ all) (he : e = { x with slot := e.slot, off := e.off }) : ∀ o ∈ X.of e.key, badE e o = false := by
  intro o hm
  obtain ⟨h1, h2⟩ := (h.of _ o).1 hm
  refine badE_no (fun hh => ?_)
  have e1 : e.seq = x.seq := by rw [he]
  have e3 : e.del = x.del := by rw [he]
  have e4 : e.size = x.size := by rw [he]
  obtain ⟨q1, q2, q3⟩ := h.cp o h1 x hx (by rw [hh, e1])
  exact En.ext' hh h2 (by rw [e3]; exact q2) rfl rfl (by rw [e4]; exact q3)
theorem FG.copyNo (h : FG X all en n) {x e : En} (hx : x ∈ all) (he : e = { x with slot := e.slot, off := e.off }) (h0 : 0 ≤ e.slot) (h1 : e.slot < n) (hv : validE e = true) (hd : ∃ o ∈ all, o.slot = e.slot ∧ o.seq = e.seq) : addE X e = 6 := by
  refine add_6 h.ne (h.has h0 h1) hv (h.copyBad hx he) ?_
  rw [Bool.or_eq_true]
  refine .inl ?_
  obtain ⟨o, hm, hh⟩ := hd
  have e1 : e.seq = x.seq := by rw [he]
  have e2 : e.key = x.key := by rw [he]
  obtain ⟨q1, _, _⟩ := h.cp o hm x hx (by rw [hh.2, e1])
  exact List.any_eq_true.2 ⟨o, (h.of _ o).2 ⟨hm, by rw [q1, e2]⟩, decide_eq_true ⟨hh.2, hh.1⟩⟩
theorem FG.copyYes (h : FG X all en n) {x e : En} (hx : x ∈ all) (he : e = { x with slot := e.slot, off := e.off }) (h0 : 0 ≤ e.slot) (h1 : e.slot < n) (hv : validE e = true) (ho : en e.slot ≤ e.off) (hd : ¬ ∃ o ∈ all, o.slot = e.slot ∧ o.seq = e.seq) :
    addE X e = 0 ∧ FG (addX X e) (all ++ [e]) (upd en e.slot (e.off + e.size)) n := by
  have e1 : e.seq = x.seq := by rw [he]
  have e2 : e.key = x.key := by rw [he]
  have e3 : e.del = x.del := by rw [he]
  have e4 : e.size = x.size := by rw [he]
  have a : AddOk X e := ⟨h.ne, h.has h0 h1, hv, h.copyBad hx he, fun o hm => by
    have h2 := (h.of _ o).1 hm
    unfold sameE
    exact decide_eq_false (fun hh => hd ⟨o, h2.1, hh.2, hh.1⟩), h.clash ho⟩
  refine ⟨ok_add a, h.push a ho (fun o hm hh => ?_)⟩
  rw [e2, e3, e4]
  exact h.cp o hm x hx (by rw [hh, e1])
/-- A slot is emptied. -/
theorem FG.drop (h : FG X all en n) {s : Int} (h0 : 0 ≤ s) (h1 : s < n) {en' : Int → Int} (he : ∀ t, t ≠ s → en t ≤ en' t) :
    dropC X s = 0 ∧ (X.slot s).length + (all.filter (fun o => !decide (o.slot = s))).length = all.length ∧ FG (dropX X s) (all.filter (fun o => !decide (o.slot = s))) en' n := by
  have hh := h.has h0 h1
  have hp := drop_ents h.wf hh
  have hw := drop_wf h.wf s
  have hne : ∀ o ∈ (dropX X s).ents, (!decide (o.slot = s)) = true := fun o ho => by
    simp only [Bool.not_eq_true', decide_eq_false_iff_not]
    intro e
    have h2 := (hw.slot_mem s o).2 ⟨ho, e⟩
    rw [drop_slot h.wf, if_pos rfl] at h2
    cases h2
  have hs : ∀ o ∈ X.slot s, ¬ (!decide (o.slot = s)) = true := fun o ho => by simp [((h.wf.slot_mem s o).1 ho).2]
  have hpm : (all.filter (fun o => !decide (o.slot = s))).Perm (dropX X s).ents := by
    have h2 := (h.pm.trans hp).filter (fun o => !decide (o.slot = s))
    rw [List.filter_append, List.filter_eq_nil_iff.2 hs, List.nil_append, List.filter_eq_self.2 hne] at h2
    exact h2
  refine ⟨if_pos hh, ?_, hw, ?_, h.n0, hpm, fun o ho => ?_, fun a ha b hb => h.cp a (List.mem_filter.1 ha).1 b (List.mem_filter.1 hb).1⟩
  · have h2 := (h.pm.trans hp).length_eq
    have h3 := hpm.length_eq
    rw [List.length_append] at h2
    omega
  · rw [drop_yes hh]; simp only [List.length_set]; exact h.ln
  · obtain ⟨h2, h3⟩ := List.mem_filter.1 ho
    simp only [Bool.not_eq_true', decide_eq_false_iff_not] at h3
    exact Int.le_trans (h.up o h2) (he _ h3)
end
theorem FG.start (n : Nat) (h1 : 1 ≤ n) (h2 : n ≤ 32) (en : Int → Int) : FG (ixNew n) [] en n :=
  ⟨new_wf h2, by simp [ixNew], by omega, by simp [ixNew, IX.ents], (fun _ h => by cases h), (fun _ h => by cases h)⟩
end Go.Proofs.Ytmdfickejpeofaa
