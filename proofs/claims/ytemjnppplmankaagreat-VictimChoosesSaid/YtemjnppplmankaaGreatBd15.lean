/- liveness: any, needed, Needed. -/
import Derived.Test.YtemjnppplmankaaGreatBd13
import Derived.Test.YtemjnppplmankaaGreatBd7
set_option linter.unusedVariables false
set_option linter.unusedSimpArgs false
namespace Go.Proofs.YtemjnppplmankaaGreat
open Go.RowKit Go.Shelf
attribute [local go_sem] OvM cell_ovm obj_ovm
attribute [local go_sem] Oper.semAt_some

set_option maxRecDepth 40000 in
set_option maxHeartbeats 4000000 in
theorem any_any {w : World} {p : Option Addr} {X : IX} {S : Nat → Prop} (h : IXP w p X S) (k : ByteArray) {g : Nat} {lb : Array Value} {pr : En → Bool} {T : Nat → Prop} (hp : PredC g lb pr T w) :
    Calls Tryz.prog 142 #[.pointer p, .string k, .func (.func g) #[] lb] w fun e w' => e = .returned (.bool ((X.of k).any pr)) ∧ Gr w w' := by
  have H := Lib.hid h
  have HP := Lib.hid hp
  have heg := hp.enter
  clear h hp
  refine calls_of_wp_marks Tryz.func142 rfl ?_
  simp only [Tryz.ntmps142, List.size_toArray, List.length_cons, List.length_nil, Nat.reduceAdd, Nat.reduceSub, Array.replicate_succ, Array.replicate_zero, List.push_toArray, List.append_toArray, List.nil_append, List.cons_append]
  go_wp2_with fail
  obtain ⟨b5, hb5⟩ : ∃ q, q = w.heap.size := ⟨_, rfl⟩
  obtain ⟨w0, hw0⟩ : ∃ y, y = (w.alloc (.cells #[.func (.func g) #[] lb] 94)).alloc (.cells #[.bool false] 4) := ⟨_, rfl⟩
  have HSW : Hid (SW w [blkA (b5 + 1) (.cells #[.bool false] 4), blkA b5 (.cells #[.func (.func g) #[] lb] 94)] w0) := Lib.hid (by
    have := ((SW.start w).alloc (.cells #[.func (.func g) #[] lb] 94)).alloc (.cells #[.bool false] 4)
    simp only [World.size_alloc] at this
    rw [hw0, hb5]
    exact this)
  rw [← hw0, ← hb5]
  clear hw0 hb5
  refine (Of_any p k _).mono ?_
  rintro e' w1 ⟨bb, bk, rfl, h1, h2, h3, h4, hg⟩
  have HS1 := Lib.hid (HSW.out.gr hg)
  have HI := Lib.hid (H.out.gr HS1.out.g)
  have HSEQ := Lib.hid (SeqOfP HI.out k bb bk h1 h2)
  have HA : Hid (∀ q, (q = bb ∨ q = bk ∨ S q) → q < w1.heap.size) := Lib.hid (fun q hq => by
    have l1 := World.block_lt_of_cell? w1 ⟨bb, 0, none⟩ h1
    have l2 := World.block_lt_of_cell? w1 ⟨bk, 0, none⟩ h2
    rcases hq with rfl | rfl | hq
    · exact l1
    · exact l2
    · exact HI.out.lt q hq)
  have HZ : Hid (SWz w w1 (fun q => q = bb ∨ q = bk ∨ S q) [blkA (b5 + 1) (.cells #[.bool false] 4), blkA b5 (.cells #[.func (.func g) #[] lb] 94)] (fun _ => False) w1) := Lib.hid (SWz.start HS1.out (fun B hB k hk ha => by
    have l1 := HSW.out.s.lt hB k hk
    have l2 := HSW.out.n B hB k hk
    rcases ha with rfl | rfl | ha
    · omega
    · omega
    · have := H.out.lt k ha; omega))
  clear h1 h2 h3 h4 hg
  go_wp2_with fail
  apply wp_rangeFunc_zx (gf := 104) (lb := #[.pointer (some ⟨bb, 0, none⟩), .pointer (some ⟨bk, 0, none⟩)]) rfl (enters_of Tryz.func104 (by kernel_rfl) rfl) HSEQ.out (Mdh.refl _ w1) HA.out (fun _ => rfl)
    (fun Z pre X' => pre.any pr = false ∧ SWz w w1 (fun q => q = bb ∨ q = bk ∨ S q) [blkA (b5 + 1) (.cells #[.bool false] 4), blkA b5 (.cells #[.func (.func g) #[] lb] 94)] Z X')
    (fun _ _ _ => False)
    (fun Z pre X' => pre.any pr = true ∧ SWz w w1 (fun q => q = bb ∨ q = bk ∨ S q) [blkA (b5 + 1) (.cells #[.bool true] 4), blkA b5 (.cells #[.func (.func g) #[] lb] 94)] Z X')
    ((Apart.pure (fun pre : List En => pre.any pr = false)).and (SWz.apart HS1.out.g.sz (fun _ : List En => [blkA (b5 + 1) (.cells #[.bool false] 4), blkA b5 (.cells #[.func (.func g) #[] lb] 94)]))) apart_no
    ((Apart.pure (fun pre : List En => pre.any pr = true)).and (SWz.apart HS1.out.g.sz (fun _ : List En => [blkA (b5 + 1) (.cells #[.bool true] 4), blkA b5 (.cells #[.func (.func g) #[] lb] 94)])))
    ⟨rfl, HZ.out⟩ (fun Z pre X' h => h.2.frm HS1.out.g) (fun x => .cells #[.int .i64 x.seq, .string x.key, .bool x.del, .int .i64 x.slot, .int .i64 x.off, .int .i64 x.size] 89)
    _ ?assign ?body ?hend ?hret
  case assign =>
    intro l x bx X' K hbx hK
    dsimp only [encE, enV]
    gi_wp2
    rw [← hbx]
    exact hK
  case body =>
    intro l Z pre x bx X' hI hbx hx hzx hzl hlr hsp
    have HIZ := Lib.hid hI
    have HX := Lib.hid hx
    have HB5 := Lib.hid (show X'.heap[b5]? = _ from hI.2.s.get (i := 1) rfl)
    have HB6 := Lib.hid (show X'.heap[b5 + 1]? = _ from hI.2.s.get (i := 0) rfl)
    have dx := (cellsOf HX.out).1
    have d5 := (cellsOf HB5.out).1
    have HR := Lib.hid ((HP.out.gr hI.2.s.g).run x X' (Mdh.refl _ _))
    clear hI hbx hx hzx hzl hlr hsp
    gi_wp2_with fail
    refine ⟨trivial, (CallsIn.inRound l (callsIn_wide.2 HR.out)).mono ?_⟩
    rintro e w9 ⟨rfl, hg9⟩
    have HG9 := Lib.hid hg9
    have HZ9 := Lib.hid (HIZ.out.2.gr hg9)
    obtain ⟨d6, f6⟩ := cellsOf (hg9.blk HB6.out)
    cases hpx : pr x with
    | true =>
      have HPX : Hid ((pre ++ [x]).any pr = true) := Lib.hid (by simp [hpx])
      have HB7 := Lib.hid (HZ9.out.1.box (i := 0) rfl HA.out ((Mdh.refl (fun k => k = b5 + 1) w9).setCell (p := ⟨b5 + 1, 0, none⟩) rfl (.bool true)) (blkSet (j := 0) (u := .bool true) (hg9.blk HB6.out)))
      clear hpx hg9
      gi_wp2_with fail
      exact ⟨(HZ9.out.2.trans HB7.out.2).mono (fun k h => h.2), HPX.out, HB7.out.1⟩
    | false =>
      have HPX : Hid ((pre ++ [x]).any pr = false) := Lib.hid (by rw [List.any_append, HIZ.out.1]; simp [hpx])
      clear hpx hg9
      gi_wp2_with fail
      exact ⟨HZ9.out.2, HPX.out, HZ9.out.1⟩
  case hend =>
    intro Z D xs W hD hZD hcase hdef
    obtain ⟨hxs, hI⟩ := hcase.elim (fun h => h) (fun h => h.2.elim)
    have HE : Hid ((X.of k).any pr = false) := Lib.hid (by rw [← show xs = X.of k from hxs]; exact hI.1)
    have HD := Lib.hid (And.intro hD (And.intro hZD hdef))
    have hb6 : W.heap[b5 + 1]? = _ := hI.2.s.get (i := 0) rfl
    have HB6 := Lib.hid hb6
    obtain ⟨d6, f6⟩ := cellsOf hb6
    have HIW := Lib.hid hI.2
    clear hI hcase hxs hb6 hD hZD hdef
    dsimp only
    go_wp2_with fail
    obtain ⟨hD, hZD, hdef⟩ := HD.out
    have n6 : D ≠ b5 + 1 := fun e => HIW.out.z _ (List.mem_cons_self ..) (b5 + 1) rfl (e ▸ hZD)
    have hW2 : (W.setCell ⟨b5 + 1, 0, none⟩ (.bool false)).heap[b5 + 1]? = _ := blkSet (j := 0) (u := .bool false) HB6.out
    have h4' : ((W.setCell ⟨b5 + 1, 0, none⟩ (.bool false)).putObj D (.deferred none)).heap[b5 + 1]? = _ := (World.putObj_heap_other n6.symm).trans hW2
    obtain ⟨d4, _⟩ := cellsOf h4'
    refine retM1 (D := D) (v := .bool false) rfl (blkSetO hdef n6) ?_ ⟨by rw [HE.out], (Gr.setCell HIW.out.s.g (p := ⟨b5 + 1, 0, none⟩) (HSW.out.n _ (List.mem_cons_self ..) _ rfl) _).putObj (by have := HS1.out.g.sz; omega) _⟩
    simp [results, Tryz.results142, go_sem, d4]
  case hret =>
    intro Z D pre W hD hZD hsp hI hdef
    have HE : Hid ((X.of k).any pr = true) := Lib.hid (by
      obtain ⟨t, ht⟩ := hsp
      rw [← show pre ++ t = X.of k from ht, List.any_append, hI.1]; rfl)
    have hb6 : W.heap[b5 + 1]? = _ := hI.2.s.get (i := 0) rfl
    have n6 : D ≠ b5 + 1 := fun e => hI.2.z _ (List.mem_cons_self ..) (b5 + 1) rfl (e ▸ hZD)
    have h4' : (W.putObj D (.deferred none)).heap[b5 + 1]? = _ := (World.putObj_heap_other n6.symm).trans hb6
    obtain ⟨d4, _⟩ := cellsOf h4'
    dsimp only
    go_wp2_with fail
    refine retM1 (D := D) (v := .bool true) rfl hdef ?_ ⟨by rw [HE.out], hI.2.s.g.putObj (by have := HS1.out.g.sz; omega) _⟩
    simp [results, Tryz.results142, go_sem, d4]

/-! ### needed -/
def nd1 (e y : En) : Bool := decide (e.seq < y.seq)
def nd2 (e y : En) : Bool := decide (y.seq = e.seq ∧ y.slot ≠ e.slot)
def nd3 (e y : En) : Bool := decide (y.seq < e.seq ∧ y.slot ≠ e.slot)
def IX.needs (X : IX) (e : En) : Bool := if (X.of e.key).any (nd1 e) = true then false else if (X.of e.key).any (nd2 e) = true then false else if e.del = false then true else (X.of e.key).any (nd3 e)
abbrev boxE (e : En) : Obj := .cells #[.int .i64 e.seq, .string e.key, .bool e.del, .int .i64 e.slot, .int .i64 e.off, .int .i64 e.size] 89
set_option maxRecDepth 40000 in
theorem need1 (y e : En) (be : Nat) (w : World) (h : w.heap[be]? = some (boxE e)) : Calls Tryz.prog 143 #[enV y, .pointer (some ⟨be, 0, none⟩)] w fun r w' => r = .returned (.bool (nd1 e y)) ∧ Gr w w' := by
  have c := (cellsOf h).1
  have l := blkLt h
  have HN : Hid (nd1 e y = decide (e.seq < y.seq)) := Lib.hid rfl
  rw [HN.out]
  simp only [enV]
  by_cases h1 : y.seq = e.seq
  all_goals by_cases h2 : y.slot = e.slot
  all_goals
    go_enter Tryz.func143, Tryz.ntmps143
    go_wp2
    all_goals
      go_ret
      exact ⟨ret_bool (by first | rfl | (simp_all; done) | (simp_all; omega)), by (repeat (first | (with_reducible exact Gr.refl _) | assumption | (with_reducible apply Gr.from_drew) | (with_reducible apply Gr.alloc) | (with_reducible apply Gr.drew) | (with_reducible refine Gr.trans ?_ (by assumption)) | (with_reducible refine Gr.setCell ?_ (by omega) _)))⟩
theorem needP1 (e : En) (be : Nat) (w : World) (h : w.heap[be]? = some (boxE e)) : PredC 143 #[.pointer (some ⟨be, 0, none⟩)] (nd1 e) (fun _ => False) w :=
  ⟨enters_of Tryz.func143 (by kernel_rfl) rfl, fun x w' m => need1 x e be w' (m.blk h (fun h => h))⟩
set_option maxRecDepth 40000 in
theorem need2 (y e : En) (be : Nat) (w : World) (h : w.heap[be]? = some (boxE e)) : Calls Tryz.prog 144 #[enV y, .pointer (some ⟨be, 0, none⟩)] w fun r w' => r = .returned (.bool (nd2 e y)) ∧ Gr w w' := by
  have c := (cellsOf h).1
  have l := blkLt h
  have HN : Hid (nd2 e y = decide (y.seq = e.seq ∧ y.slot ≠ e.slot)) := Lib.hid rfl
  rw [HN.out]
  simp only [enV]
  by_cases h1 : y.seq = e.seq
  all_goals by_cases h2 : y.slot = e.slot
  all_goals
    go_enter Tryz.func144, Tryz.ntmps144
    go_wp2
    all_goals
      go_ret
      exact ⟨ret_bool (by first | rfl | (simp_all; done) | (simp_all; omega)), by (repeat (first | (with_reducible exact Gr.refl _) | assumption | (with_reducible apply Gr.from_drew) | (with_reducible apply Gr.alloc) | (with_reducible apply Gr.drew) | (with_reducible refine Gr.trans ?_ (by assumption)) | (with_reducible refine Gr.setCell ?_ (by omega) _)))⟩
theorem needP2 (e : En) (be : Nat) (w : World) (h : w.heap[be]? = some (boxE e)) : PredC 144 #[.pointer (some ⟨be, 0, none⟩)] (nd2 e) (fun _ => False) w :=
  ⟨enters_of Tryz.func144 (by kernel_rfl) rfl, fun x w' m => need2 x e be w' (m.blk h (fun h => h))⟩
set_option maxRecDepth 40000 in
theorem need3 (y e : En) (be : Nat) (w : World) (h : w.heap[be]? = some (boxE e)) : Calls Tryz.prog 145 #[enV y, .pointer (some ⟨be, 0, none⟩)] w fun r w' => r = .returned (.bool (nd3 e y)) ∧ Gr w w' := by
  have c := (cellsOf h).1
  have l := blkLt h
  have HN : Hid (nd3 e y = decide (y.seq < e.seq ∧ y.slot ≠ e.slot)) := Lib.hid rfl
  rw [HN.out]
  simp only [enV]
  by_cases h1 : y.seq = e.seq
  all_goals by_cases h2 : y.slot = e.slot
  all_goals
    go_enter Tryz.func145, Tryz.ntmps145
    go_wp2
    all_goals
      go_ret
      exact ⟨ret_bool (by first | rfl | (simp_all; done) | (simp_all; omega)), by (repeat (first | (with_reducible exact Gr.refl _) | assumption | (with_reducible apply Gr.from_drew) | (with_reducible apply Gr.alloc) | (with_reducible apply Gr.drew) | (with_reducible refine Gr.trans ?_ (by assumption)) | (with_reducible refine Gr.setCell ?_ (by omega) _)))⟩
theorem needP3 (e : En) (be : Nat) (w : World) (h : w.heap[be]? = some (boxE e)) : PredC 145 #[.pointer (some ⟨be, 0, none⟩)] (nd3 e) (fun _ => False) w :=
  ⟨enters_of Tryz.func145 (by kernel_rfl) rfl, fun x w' m => need3 x e be w' (m.blk h (fun h => h))⟩
set_option maxRecDepth 40000 in
set_option maxHeartbeats 2000000 in
theorem needed_any {w : World} {p : Option Addr} {X : IX} {S : Nat → Prop} (h : IXP w p X S) (e : En) : Calls Tryz.prog 120 #[.pointer p, enV e] w fun r w' => r = .returned (.bool (X.needs e)) ∧ Gr w w' := by
  have H := Lib.hid h
  clear h
  simp only [enV]
  have HE : Hid (X.needs e = if (X.of e.key).any (nd1 e) = true then false else if (X.of e.key).any (nd2 e) = true then false else if e.del = false then true else (X.of e.key).any (nd3 e)) := Lib.hid rfl
  go_enter Tryz.func120, Tryz.ntmps120
  go_wp2_with fail
  obtain ⟨b, hb⟩ : ∃ q, q = w.heap.size := ⟨_, rfl⟩
  obtain ⟨w0, hw0⟩ : ∃ y, y = w.alloc (boxE e) := ⟨_, rfl⟩
  have H0 : Hid (Gr w w0 ∧ w0.heap[b]? = some (boxE e)) := Lib.hid (by rw [hw0, hb]; exact ⟨(Gr.refl w).alloc _, blkNew w _⟩)
  rw [← show w0 = w.alloc (.cells #[.int .i64 e.seq, .string e.key, .bool e.del, .int .i64 e.slot, .int .i64 e.off, .int .i64 e.size] 89) from hw0, ← hb]
  clear hw0 hb
  refine (any_any (H.out.gr H0.out.1) e.key (needP1 e b w0 H0.out.2)).mono ?_
  rintro r w1 ⟨rfl, hg⟩
  have H1 := Lib.hid (And.intro (H0.out.1.trans hg) (hg.blk H0.out.2))
  clear hg
  cases h1 : (X.of e.key).any (nd1 e) with
  | true =>
    have HR : Hid (X.needs e = false) := Lib.hid (by rw [HE.out, h1]; rfl)
    clear h1
    go_wp2
    go_ret
    exact ⟨by rw [HR.out] <;> rfl, H1.out.1⟩
  | false =>
    have HE1 : Hid (X.needs e = if (X.of e.key).any (nd2 e) = true then false else if e.del = false then true else (X.of e.key).any (nd3 e)) := Lib.hid (by rw [HE.out, h1]; rfl)
    have c1 := (cellsOf H1.out.2).1
    clear h1
    go_wp2_with fail
    refine (any_any (H.out.gr H1.out.1) e.key (needP2 e b w1 H1.out.2)).mono ?_
    rintro r w2 ⟨rfl, hg⟩
    have H2 := Lib.hid (And.intro (H1.out.1.trans hg) (hg.blk H1.out.2))
    clear hg c1
    cases h2 : (X.of e.key).any (nd2 e) with
    | true =>
      have HR : Hid (X.needs e = false) := Lib.hid (by rw [HE1.out, h2]; rfl)
      clear h2
      go_wp2
      go_ret
      exact ⟨by rw [HR.out] <;> rfl, H2.out.1⟩
    | false =>
      have HE2 : Hid (X.needs e = if e.del = false then true else (X.of e.key).any (nd3 e)) := Lib.hid (by rw [HE1.out, h2]; rfl)
      have c2 := (cellsOf H2.out.2).1
      clear h2
      cases hd : e.del with
      | false =>
        have HR : Hid (X.needs e = true) := Lib.hid (by rw [HE2.out, hd]; rfl)
        rw [hd] at c2
        clear hd
        go_wp2
        go_ret
        exact ⟨by rw [HR.out] <;> rfl, H2.out.1⟩
      | true =>
        have HR : Hid (X.needs e = (X.of e.key).any (nd3 e)) := Lib.hid (by rw [HE2.out, hd]; rfl)
        rw [hd] at c2
        clear hd
        go_wp2_with fail
        refine (any_any (H.out.gr H2.out.1) e.key (needP3 e b w2 H2.out.2)).mono ?_
        rintro r w3 ⟨rfl, hg⟩
        have HG := Lib.hid (H2.out.1.trans hg)
        clear hg
        go_wp2
        go_ret
        exact ⟨by rw [HR.out] <;> rfl, HG.out⟩
end Go.Proofs.YtemjnppplmankaaGreat

/- drumlinlaw21.take: the first elements of an iterator, in a row. -/
set_option linter.unusedVariables false
set_option linter.unusedSimpArgs false
namespace Go.Proofs.YtemjnppplmankaaGreat
open Go.RowKit Go.Shelf
attribute [local go_sem] OvM cell_ovm obj_ovm
attribute [local go_sem] Oper.semAt_some

theorem info_str : (Tryz.prog.info? 9).map (fun i => (i.zero, i.size, i.bytes)) = some (some (.string ⟨#[]⟩), 1, 16) := by kernel_rfl
theorem rowE_snoc (l : List En) (x : En) : rowE (l ++ [x]) = rowE l ++ enC x := by rw [rowE_app]; simp [rowE]
theorem enC_one (x : En) : ∀ u ∈ enC x, u.oneCell' = true := fun u hu => rowE_one [x] u (by simpa [rowE] using hu)
theorem take_pre {α : Type} {n : Nat} {pre L : List α} (h : pre <+: L) (hn : pre.length = n) : pre = L.take n := by
  obtain ⟨t, rfl⟩ := h
  rw [← hn, List.take_left']
  rfl
def kS (l : List ByteArray) : List Value := l.map Value.string
theorem kS_snoc (l : List ByteArray) (x : ByteArray) : kS (l ++ [x]) = kS l ++ [.string x] := by simp [kS]
end Go.Proofs.YtemjnppplmankaaGreat

/- slices.Equal at rows of entries and of strings. -/
set_option linter.unusedVariables false
set_option linter.unusedSimpArgs false
namespace Go.Proofs.YtemjnppplmankaaGreat
open Go.RowKit Go.Shelf
attribute [local go_sem] OvM cell_ovm obj_ovm
attribute [local go_sem] Oper.semAt_some

theorem ownS_at {w : World} {v : Value} {l : List ByteArray} (h : Own w 9 1 v l.length (kS l)) : ∃ a cap, v = .slice a l.length cap ∧ l.length ≤ cap ∧ cap ≤ maxLen ∧ ∀ i x, l[i]? = some x → ∃ g, a = some ⟨g, 0, none⟩ ∧ g < w.heap.size ∧ v.ownBlock = some g ∧ w.cell? ⟨g, i, none⟩ = some (.string x) := by
  rcases h.2 with ⟨hv, h0⟩ | ⟨g, cap, cur, hv, _, hg, h1, h2, h3, h4⟩
  · have hL : l = [] := List.eq_nil_of_length_eq_zero h0
    subst hL
    exact ⟨none, 0, hv, Nat.le_refl _, by simp [maxLen], fun i x hx => by simp at hx⟩
  · subst hv
    refine ⟨_, cap, rfl, h1, h2, fun i x hx => ⟨g, rfl, blkLt hg, rfl, ?_⟩⟩
    have hc := h.cells (g := g) rfl i (.string x) (by unfold kS; rw [List.getElem?_map, hx]; rfl)
    rwa [show (⟨g, 0, none⟩ : Addr).add i = ⟨g, i, none⟩ by unfold Addr.add; split <;> simp_all] at hc
theorem beq_len (a b : Nat) (h : a ≠ b) : ((a : Int) == (b : Int)) = false := beq_false_of_ne (by omega)
end Go.Proofs.YtemjnppplmankaaGreat

/- take at an index's own iterators; rows that a literal lays. -/
set_option linter.unusedVariables false
set_option linter.unusedSimpArgs false
namespace Go.Proofs.YtemjnppplmankaaGreat
open Go.RowKit Go.Shelf

theorem own_lit (w : World) (t : TypeId) (K n : Nat) (xs : List Value) (hx : xs.length = n * K) (hn : n ≤ 100000) : Own (w.alloc (.cells xs.toArray t)) t K (.slice (some ⟨w.heap.size, 0, none⟩) n n) n xs :=
  Own.ofParts (blkNew w _) (Nat.le_refl _) (by unfold maxLen; omega) (by simpa using hx) (by rw [List.take_of_length_le (by rw [← hx]; exact Nat.le_refl _)])
end Go.Proofs.YtemjnppplmankaaGreat

/- liveness: Needed, Keep, Size, Redundant. -/
set_option linter.unusedVariables false
set_option linter.unusedSimpArgs false
namespace Go.Proofs.YtemjnppplmankaaGreat
open Go.RowKit Go.Shelf
attribute [local go_sem] OvM cell_ovm obj_ovm
attribute [local go_sem] Oper.semAt_some

def IX.hasE (X : IX) (e : En) : Bool := (X.of e.key).any (fun o => decide (o = e))
def neededV (X : IX) (e : En) : Value := if X.slots = [] then .tuple #[.bool false, .int .i64 1] else if X.hasE e = false then .tuple #[.bool false, .int .i64 5] else .tuple #[.bool (X.needs e), .int .i64 0]
/-! ### Keep -/
def keepL (X : IX) (s : Int) : List En := (X.slot s).filter X.needs
def keepC (X : IX) (s : Int) : Int := if X.slots = [] then 1 else if X.has s = false then 3 else 0
theorem keep_out {X : IX} {s : Int} (h : keepC X s ≠ 0) : keepL X s = [] := by
  unfold keepL
  rw [slot_out]
  · rfl
  · unfold keepC at h
    split at h
    · rename_i h0
      simp [IX.has, h0]
    · split at h
      · assumption
      · exact absurd rfl h
def KeepPost (X : IX) (s : Int) (w : World) (e : Ending) (w' : World) : Prop := ∃ v, e = .returned (.tuple #[v, .int .i64 (keepC X s)]) ∧ Nw w w' 89 6 v (keepL X s).length (rowE (keepL X s)) ∧ Gr w w'
theorem filter_yes {α : Type} {p : α → Bool} {l : List α} {x : α} (h : p x = true) : (l ++ [x]).filter p = l.filter p ++ [x] := by simp [h]
theorem filter_no {α : Type} {p : α → Bool} {l : List α} {x : α} (h : p x = false) : (l ++ [x]).filter p = l.filter p := by simp [h]
set_option maxRecDepth 40000 in
set_option maxHeartbeats 8000000 in
theorem Keep_any {w : World} {p : Option Addr} {X : IX} {S : Nat → Prop} (h : IXP w p X S) (s : Int) : Calls Tryz.prog 81 #[.pointer p, .int .i64 s] w (KeepPost X s w) := by
  obtain ⟨i0, hi, hz0, hz1, hz2⟩ := info_parts infoIten
  have H := Lib.hid h
  have HLE := Lib.hid (h.ok.slot_le s)
  have HHAS := Lib.hid (show X.has s = decide (0 ≤ s ∧ s < X.slots.length) from rfl)
  clear h
  refine calls_of_wp_marks Tryz.func81 rfl ?_
  simp only [Tryz.ntmps81, List.size_toArray, List.length_cons, List.length_nil, Nat.reduceAdd, Nat.reduceSub, Array.replicate_succ, Array.replicate_zero, List.push_toArray, List.append_toArray, List.nil_append, List.cons_append]
  go_wp2_with fail
  obtain ⟨b2, hb2⟩ : ∃ q, q = w.heap.size := ⟨_, rfl⟩
  obtain ⟨w0, hw0⟩ : ∃ y, y = w.alloc (.cells #[.pointer p] 35) := ⟨_, rfl⟩
  have H0 : Hid (SW w [blkA b2 (.cells #[.pointer p] 35)] w0) := Lib.hid (by rw [hw0, hb2]; exact (SW.start w).alloc _)
  rw [← hw0, ← hb2]
  clear hw0 hb2
  refine (Copy_any (H.out.gr H0.out.g)).mono ?_
  rintro r w1 ⟨q, rfl, hg, hq, _⟩
  have H1 := Lib.hid (H0.out.gr hg)
  have c1 := (cellsOf (show w1.heap[b2]? = _ from H1.out.get (i := 0) rfl)).1
  clear hg
  by_cases h0 : X.slots = []
  · have hq0 := hq.2 h0
    have HC : Hid (keepC X s = 1) := Lib.hid (by unfold keepC; rw [if_pos h0])
    have HL : Hid (keepL X s = []) := Lib.hid (keep_out (by rw [HC.out]; decide))
    clear h0 hq
    subst hq0
    go_wp2_with fail
    exact retM0 (v := .tuple #[.slice none 0 0, .int .i64 1]) (by simp [results, Tryz.results81, go_sem]) rfl ⟨_, by rw [HC.out], by rw [HL.out]; exact ⟨nilRow _ _ _, fun k hk => by cases hk⟩, H1.out.g⟩
  · obtain ⟨q', rfl⟩ : ∃ q', q = some q' := by
      cases q with
      | none => exact absurd (hq.1 rfl) h0
      | some q' => exact ⟨q', rfl⟩
    have HNE := Lib.hid h0
    clear h0 hq
    cases hs : X.has s with
    | false =>
      have HC : Hid (keepC X s = 3) := Lib.hid (by unfold keepC; rw [if_neg HNE.out, if_pos hs])
      have HL : Hid (keepL X s = []) := Lib.hid (keep_out (by rw [HC.out]; decide))
      have hh := HHAS.out
      rw [hs] at hh
      have hh' : ¬ (0 ≤ s ∧ s < X.slots.length) := of_decide_eq_false hh.symm
      clear hs hh
      by_cases hs0 : s < 0
      · go_wp2_with fail
        exact retM0 (v := .tuple #[.slice none 0 0, .int .i64 3]) (by simp [results, Tryz.results81, go_sem]) rfl ⟨_, by rw [HC.out], by rw [HL.out]; exact ⟨nilRow _ _ _, fun k hk => by cases hk⟩, H1.out.g⟩
      · have hs1 : (X.slots.length : Int) ≤ s := by omega
        clear hh'
        go_wp2_with (go_at_call 42; refine (Slots_any (H.out.gr H1.out.g)).mono ?_; rintro r w2 ⟨rfl, rfl⟩)
        exact retM0 (v := .tuple #[.slice none 0 0, .int .i64 3]) (by simp [results, Tryz.results81, go_sem]) rfl ⟨_, by rw [HC.out], by rw [HL.out]; exact ⟨nilRow _ _ _, fun k hk => by cases hk⟩, H1.out.g⟩
    | true =>
      have HC : Hid (keepC X s = 0) := Lib.hid (by unfold keepC; rw [if_neg HNE.out, if_neg (by rw [hs]; simp)])
      have hh := HHAS.out
      rw [hs] at hh
      obtain ⟨hs0, hs1⟩ := of_decide_eq_true hh.symm
      have hs0' : ¬ s < 0 := by omega
      have hs1' : ¬ (X.slots.length : Int) ≤ s := by omega
      clear hs hh hs0 hs1
      have lb2 := blkLt (show w1.heap[b2]? = _ from H1.out.get (i := 0) rfl)
      go_wp2_with (first
        | (go_at_call 42; refine (Slots_any (H.out.gr H1.out.g)).mono ?_; rintro r w2 ⟨rfl, rfl⟩)
        | fail)
      obtain ⟨bo, hbo⟩ : ∃ q, q = w1.heap.size := ⟨_, rfl⟩
      have HS2 : Hid (SW w [blkA bo (.cells #[.slice none 0 0] 37), rowA 89 6 (.slice none 0 0) 0 [], blkA b2 (.cells #[.pointer p] 35)] (w1.alloc (.cells #[.slice none 0 0] 37))) := Lib.hid (by
        rw [hbo]
        exact (H1.out.new (Gr.refl _) (A := rowA 89 6 (.slice none 0 0) 0 []) (nilRow _ _ _) (fun k hk => by cases hk)).alloc _)
      obtain ⟨w2, hw2⟩ : ∃ y, y = w1.alloc (.cells #[.slice none 0 0] 37) := ⟨_, rfl⟩
      rw [← hw2] at HS2
      rw [← hw2, ← hbo]
      clear hw2 hbo c1 hs0' hs1' lb2
      refine (Slot_any p s _).mono ?_
      rintro e' w3 ⟨bb, bk, rfl, h1, h2, h3, h4, hg⟩
      have HS3 := Lib.hid (HS2.out.gr hg)
      have HI := Lib.hid (H.out.gr HS3.out.g)
      have HSEQ := Lib.hid (SeqSlotP HI.out s bb bk h1 h2)
      have HA : Hid (∀ q, (q = bb ∨ q = bk ∨ S q) → q < w3.heap.size) := Lib.hid (fun q hq => by
        have l1 := World.block_lt_of_cell? w3 ⟨bb, 0, none⟩ h1
        have l2 := World.block_lt_of_cell? w3 ⟨bk, 0, none⟩ h2
        rcases hq with rfl | rfl | hq
        · exact l1
        · exact l2
        · exact HI.out.lt q hq)
      have HZ : Hid (SWz w w3 (fun q => q = bb ∨ q = bk ∨ S q) [blkA bo (.cells #[.slice none 0 0] 37), rowA 89 6 (.slice none 0 0) 0 [], blkA b2 (.cells #[.pointer p] 35)] (fun _ => False) w3) := Lib.hid (SWz.start HS3.out (fun B hB k hk ha => by
        have l1 := HS2.out.s.lt hB k hk
        have l2 := HS2.out.n B hB k hk
        rcases ha with rfl | rfl | ha
        · omega
        · omega
        · have := H.out.lt k ha; omega))
      clear h1 h2 h3 h4 hg
      go_wp2_with fail
      apply wp_rangeFunc_zx (gf := 113) (lb := #[.pointer (some ⟨bb, 0, none⟩), .pointer (some ⟨bk, 0, none⟩)]) rfl (enters_of Tryz.func113 (by kernel_rfl) rfl) HSEQ.out (Mdh.refl _ w3) HA.out (fun _ => rfl)
        (fun Z pre X' => ∃ v, SWz w w3 (fun q => q = bb ∨ q = bk ∨ S q) [blkA bo (.cells #[v] 37), rowA 89 6 v (pre.filter X.needs).length (rowE (pre.filter X.needs)), blkA b2 (.cells #[.pointer p] 35)] Z X')
        (fun _ _ _ => False) (fun _ _ _ => False)
        (Apart.ex fun v => SWz.apart HS3.out.g.sz (fun pre : List En => [blkA bo (.cells #[v] 37), rowA 89 6 v (pre.filter X.needs).length (rowE (pre.filter X.needs)), blkA b2 (.cells #[.pointer p] 35)])) apart_no apart_no
        ⟨_, HZ.out⟩ (fun Z pre X' ⟨v, h⟩ => h.frm HS3.out.g) (fun x => boxE x)
        _ ?assign ?body ?hend ?hret
      case hret => intro _ _ _ _ _ _ _ h; exact h.elim
      case assign =>
        intro l x bx X' K hbx hK
        dsimp only [encE, enV]
        gi_wp2
        rw [← hbx]
        exact hK
      case body =>
        intro l Z pre x bx X' hI hbx hx hzx hzl hlr hsp
        obtain ⟨v, hI⟩ := hI
        have HIZ := Lib.hid hI
        have HX := Lib.hid hx
        have HB2 := Lib.hid (show X'.heap[b2]? = _ from hI.s.get (i := 2) rfl)
        have HPL : Hid (pre.length ≤ 511) := Lib.hid (by have := hsp.length_le; have := HLE.out; simp at *; omega)
        have dx := (cellsOf HX.out).1
        have d2 := (cellsOf HB2.out).1
        have HIX : Hid (IXP X' p X S) := Lib.hid (H.out.gr hI.s.g)
        clear hI hbx hx hzx hzl hlr hsp
        gi_wp2_with fail
        refine ⟨trivial, (CallsIn.inRound l (callsIn_wide.2 (needed_any HIX.out x))).mono ?_⟩
        rintro e w9 ⟨rfl, hg9⟩
        have HZ9 := Lib.hid (HIZ.out.gr hg9)
        have HX9 := Lib.hid (hg9.blk HX.out)
        clear hg9 d2 dx
        cases hnx : X.needs x with
        | false =>
          have HN := Lib.hid (filter_no (l := pre) hnx)
          clear hnx
          gi_wp2_with fail
          exact ⟨HZ9.out.2, v, by rw [HN.out]; exact HZ9.out.1⟩
        | true =>
          have HN := Lib.hid (filter_yes (l := pre) hnx)
          have HFL : Hid ((pre.filter X.needs).length ≤ 511) := Lib.hid (Nat.le_trans (List.length_filter_le _ _) HPL.out)
          generalize pre.filter X.needs = kept at *
          have HO := Lib.hid (show Own w9 89 6 v kept.length (rowE kept) from HZ9.out.1.s.get (i := 1) rfl)
          have HB := Lib.hid (show w9.heap[bo]? = _ from HZ9.out.1.s.get (i := 0) rfl)
          have dx := (cellsOf HX9.out).1
          have lx := blkLt HX9.out
          obtain ⟨db, fb⟩ := cellsOf HB.out
          have lbb := blkLt HB.out
          have HNB : Hid (¬ v.ownBlock = some bo) := Lib.hid (own_ne HO.out HB.out (by decide))
          have hfl := HFL.out
          clear hnx
          gi_wp2_with (first
            | (gi_at_builtin; go_must (refine wpListIn_appv _ rfl (.tmp 28) (.tmp 30) 37 rfl 89 i0 _ 6 56 Tryz.underlying37 hi hz0 hz1 hz2 rfl (by decide) v kept.length (rowE kept) rfl (HO.out.gr (by (repeat (first | (with_reducible exact Gr.refl _) | assumption | (with_reducible apply Gr.from_drew) | (with_reducible apply Gr.alloc) | (with_reducible apply Gr.drew) | (with_reducible refine Gr.trans ?_ (by assumption)) | (with_reducible refine Gr.setCell ?_ (by omega) _))))) (some ⟨w9.heap.size, 0, none⟩) 1 1 (enC x) rfl ((src_newK w9 (enC x) _ 6 rfl (enC_one x))) (by simp only [maxLen]; omega) (by omega) ?_); intro v2 w10 hA; obtain ⟨a2, c2, rfl⟩ := hA.val; have HAV := Lib.hid hA; have HB2 := Lib.hid ((hA.mdh (fun g h => h)).blk (((Gr.refl w9).alloc _).blk HB.out) HNB.out); clear hA; obtain ⟨db2, fb2⟩ := cellsOf HB2.out)
            | fail)
          have z2 := HZ9.out.1.gr ((Gr.refl w9).alloc (.cells (enC x).toArray 89))
          have z3 := z2.1.step (i := 1) (B' := rowA 89 6 (.slice a2 (kept.length + 1) c2) (kept.length + 1) (rowE kept ++ enC x)) rfl HA.out (HAV.out.mdh (fun g h => h)) (fun k hk => .inl hk) HAV.out.1 (fun k hq => HAV.out.2.1 k hq)
          have z4 := z3.1.step (i := 0) (B' := blkA bo (.cells #[.slice a2 (kept.length + 1) c2] 37)) rfl HA.out ((Mdh.refl (fun k => k = bo) w10).setCell (p := ⟨bo, 0, none⟩) rfl (.slice a2 (kept.length + 1) c2)) (fun k hk => .inl hk) (blkSet (j := 0) (u := .slice a2 (kept.length + 1) c2) HB2.out) (fun k hk => .inl hk)
          refine ⟨((HZ9.out.2.trans z2.2).trans z3.2).trans z4.2, .slice a2 (kept.length + 1) c2, ?_⟩
          rw [HN.out, rowE_snoc, List.length_append]
          exact z4.1
      case hend =>
        intro Z D xs W hD hZD hcase hdef
        obtain ⟨hxs, v, hI⟩ := hcase.elim (fun h => h) (fun h => h.2.elim)
        have hxs' : xs = X.slot s := hxs
        subst hxs'
        have db := (cellsOf (show W.heap[bo]? = _ from hI.s.get (i := 0) rfl)).1
        have HZW := Lib.hid hI
        have HD := Lib.hid (And.intro hD (And.intro hZD hdef))
        clear hcase hI hD hZD hdef hxs
        dsimp only
        go_wp2_with fail
        obtain ⟨hD, hZD, hdef⟩ := HD.out
        have hm : Mdh (fun k => k = D) W (W.putObj D (.deferred none)) := (Mdh.refl (fun k => k = D) W).putObj rfl _
        refine retM1 (D := D) (v := .tuple #[v, .int .i64 0]) rfl hdef (by simp [results, Tryz.results81, go_sem]) ⟨v, by rw [HC.out], ⟨(show Own W _ _ _ _ _ from HZW.out.s.get (i := 1) rfl).mdh hm (fun k hk e => HZW.out.z _ (List.mem_cons_of_mem _ (List.mem_cons_self ..)) k hk (e ▸ hZD)), fun q hq => HZW.out.s.n _ (List.mem_cons_of_mem _ (List.mem_cons_self ..)) q hq⟩, HZW.out.s.g.putObj (Nat.le_trans HS3.out.g.sz hD) _⟩
end Go.Proofs.YtemjnppplmankaaGreat

/- liveness: Size, Redundant; the reference's Same. -/
set_option linter.unusedVariables false
set_option linter.unusedSimpArgs false
namespace Go.Proofs.YtemjnppplmankaaGreat
open Go.RowKit Go.Shelf
attribute [local go_sem] OvM cell_ovm obj_ovm
attribute [local go_sem] Oper.semAt_some

def sumZ (l : List En) : Int := l.foldl (fun a e => a + e.size) 0
theorem sumZ_snoc (l : List En) (e : En) : sumZ (l ++ [e]) = sumZ l + e.size := by simp [sumZ]
theorem sumZ_le' : ∀ (l : List En) (a : Int), (∀ e ∈ l, 0 ≤ e.size ∧ e.size ≤ 8192) → a ≤ l.foldl (fun a e => a + e.size) a ∧ l.foldl (fun a e => a + e.size) a ≤ a + 8192 * l.length
  | [], a, _ => by simp
  | e :: l, a, h => by
    have h1 := h e (by simp)
    have h2 := sumZ_le' l (a + e.size) (fun x hx => h x (List.mem_cons_of_mem _ hx))
    simp only [List.foldl_cons, List.length_cons, Int.natCast_add] at *
    omega
theorem sumZ_le (l : List En) (h : ∀ e ∈ l, 0 ≤ e.size ∧ e.size ≤ 8192) : 0 ≤ sumZ l ∧ sumZ l ≤ 8192 * l.length := by
  have := sumZ_le' l 0 h
  simpa [sumZ] using this
theorem keepL_ok {X : IX} (h : X.Wf) (s : Int) : (keepL X s).length ≤ 512 ∧ ∀ e ∈ keepL X s, 0 ≤ e.size ∧ e.size ≤ 8192 := by
  refine ⟨Nat.le_trans (List.length_filter_le _ _) (h.slot_le s), fun e he => ?_⟩
  have := (valid_iff e).1 ((h.slotOk s).e e (List.mem_filter.1 he).1).2
  omega
theorem take_sub {l : List En} {k : Nat} {P : En → Prop} (h : ∀ e ∈ l, P e) : ∀ e ∈ l.take k, P e := fun e he => h e (List.mem_of_mem_take he)
set_option maxRecDepth 40000 in
set_option maxHeartbeats 4000000 in
theorem Size_any {w : World} {p : Option Addr} {X : IX} {S : Nat → Prop} (h : IXP w p X S) (s : Int) : Calls Tryz.prog 45 #[.pointer p, .int .i64 s] w fun e w' => e = .returned (.tuple #[.int .i64 (sumZ (keepL X s)), .int .i64 (keepC X s)]) ∧ Gr w w' := by
  have H := Lib.hid h
  obtain ⟨hk1, hk2⟩ := keepL_ok h.ok s
  have HK := Lib.hid (Keep_any h s)
  obtain ⟨L, hL⟩ : ∃ L, L = keepL X s := ⟨_, rfl⟩
  have HL := Lib.hid hL
  obtain ⟨c, hc⟩ : ∃ c, c = keepC X s := ⟨_, rfl⟩
  have HC := Lib.hid hc
  rw [← hc]
  rw [← hL]
  rw [← hL] at hk1 hk2
  have HK2 := Lib.hid hk2
  clear h hk2 hL hc
  go_enter Tryz.func45, Tryz.ntmps45
  go_wp2_with fail
  refine Calls.mono HK.out ?_
  rintro e w1 ⟨v, rfl, hr, hg⟩
  rw [← HL.out] at hr
  rw [← HC.out]
  obtain ⟨a, cap, rfl, _, hcm, hat⟩ := ownE_at hr.own
  have HAT := Lib.hid hat
  have HG := Lib.hid hg
  unfold maxLen at hcm
  clear hr hat hg
  go_wp2_with fail
  go_loopw [8, 19] (fun t8 t19 wx => ∃ k : Nat, k ≤ L.length ∧ t19 = .int .i64 k ∧ t8 = .int .i64 (sumZ (L.take k)) ∧ Hid (Gr w1 wx)) (fun _ t19 _ => L.length - (intOf t19).toNat)
  case atStart => exact ⟨0, by omega, rfl, rfl, Lib.hid (Gr.refl _)⟩
  case round =>
    obtain ⟨k, hk, rfl, rfl, HR⟩ := hrel
    by_cases hlt : k < L.length
    · have hlt' : (k : Int) < L.length := by omega
      have hx : L[k]? = some (L[k]'hlt) := List.getElem?_eq_getElem hlt
      obtain ⟨g, rfl, z1, z2, hc⟩ := HAT.out k _ hx
      clear z1 z2
      have hv := HK2.out _ (List.mem_of_getElem? hx)
      have hs := sumZ_le (L.take k) (take_sub HK2.out)
      rw [List.length_take] at hs
      have HSN : Hid (sumZ (L.take (k + 1)) = sumZ (L.take k) + (L[k]'hlt).size) := Lib.hid (by rw [List.take_add_one, hx]; exact sumZ_snoc _ _)
      generalize L[k]'hlt = x at *
      generalize sumZ (L.take k) = m at *
      have hr : ∀ i u, (enC x)[i]? = some u → wr.cell? ⟨g, k * 6 + i, none⟩ = some u := fun i u hu => HR.out.keep (hc i u hu)
      have d0 := hr 0 _ rfl
      have d1 := hr 1 _ rfl
      have d2 := hr 2 _ rfl
      have d3 := hr 3 _ rfl
      have d4 := hr 4 _ rfl
      have d5 := hr 5 _ rfl
      simp only [Nat.add_zero] at d0 d1 d2 d3 d4 d5
      obtain ⟨hv1, hv2⟩ := hv
      obtain ⟨hs1, hs2⟩ := hs
      have hs3 : m ≤ 8192 * 512 := by omega
      clear hr hc hx hs2
      go_wp2
      go_roundw
      case rel => exact ⟨k + 1, by omega, by go_num, by rw [HSN.out] <;> go_num, Lib.hid (HR.out.alloc _)⟩
      case measure => simp [intOf]; omega
    · have hlt' : ¬ (k : Int) < L.length := by omega
      have hkl : k = L.length := by omega
      have HS : Hid (sumZ (L.take k) = sumZ L) := Lib.hid (by rw [List.take_of_length_le (by omega)])
      clear hkl
      go_wp2
      go_ret2
      exact ⟨by rw [HS.out] <;> rfl, HG.out.trans HR.out⟩
end Go.Proofs.YtemjnppplmankaaGreat

/- ledger: the class of an entry, and the numbers of bytes: what is consistent, and the age. -/
set_option linter.unusedVariables false
set_option linter.unusedSimpArgs false
namespace Go.Proofs.YtemjnppplmankaaGreat
open Go.RowKit
attribute [local go_sem] OvM cell_ovm obj_ovm

structure By where
  total : Int
  live : Int
  tombs : Int
  dead : Int
  last : Int
def byV (b : By) : Value := .agg #[.int .i64 b.total, .int .i64 b.live, .int .i64 b.tombs, .int .i64 b.dead, .int .i64 b.last]
def newE (l : List En) : En := l.headD zE
theorem newV_by (l : List En) : newV l = .tuple #[enV (newE l), .bool (!l.isEmpty)] := by cases l <;> rfl
def classE (X : IX) (e : En) : Nat := if (newE (X.of e.key)).seq = e.seq then (if e.del = true then 1 else 0) else 2
set_option maxRecDepth 40000 in
set_option maxHeartbeats 1000000 in
theorem class_any {w : World} {p : Option Addr} {X : IX} {S : Nat → Prop} (h : IXP w p X S) (e : En) : Calls Tryz.prog 118 #[.pointer p, enV e] w fun e' w' => e' = .returned (.int .i64 (classE X e)) ∧ Gr w w' := by
  have H := Lib.hid h
  have HN := Lib.hid (newV_by (X.of e.key))
  clear h
  obtain ⟨n, hn⟩ : ∃ n, n = newE (X.of e.key) := ⟨_, rfl⟩
  have HC : Hid (classE X e = if n.seq = e.seq then (if e.del = true then 1 else 0) else 2) := Lib.hid (by rw [hn]; rfl)
  rw [← hn] at HN
  clear hn
  simp only [enV] at *
  go_enter Tryz.func118, Tryz.ntmps118
  go_wp2_with fail
  refine (Newest_any (H.out.gr ((Gr.refl w).alloc _)) e.key).mono ?_
  rintro e' w1 ⟨rfl, hg⟩
  rw [HN.out]
  have c3 := (cellsOf (hg.blk (blkNew w _))).1
  have HG := Lib.hid (((Gr.refl w).alloc _).trans hg)
  have hlt := blkLt (hg.blk (blkNew w (.cells #[.int .i64 e.seq, .string e.key, .bool e.del, .int .i64 e.slot, .int .i64 e.off, .int .i64 e.size] 89)))
  clear hg HN
  by_cases hs : n.seq = e.seq
  · have hsb : (n.seq == e.seq) = true := by simp [hs]
    cases hd : e.del with
    | true =>
      rw [hd] at c3
      have HR : Hid (classE X e = 1) := Lib.hid (by rw [HC.out, if_pos hs, if_pos hd])
      clear hs hd
      go_wp2
      go_ret
      exact ⟨ret_int (by rw [HR.out]; rfl), (HG.out.alloc _)⟩
    | false =>
      rw [hd] at c3
      have HR : Hid (classE X e = 0) := Lib.hid (by rw [HC.out, if_pos hs, if_neg (by rw [hd]; simp)])
      clear hs hd
      go_wp2
      go_ret
      exact ⟨ret_int (by rw [HR.out]; rfl), (HG.out.alloc _)⟩
  · have hsb : (n.seq == e.seq) = false := by simp [hs]
    have HR : Hid (classE X e = 2) := Lib.hid (by rw [HC.out, if_neg hs])
    clear hs
    go_wp2
    go_ret
    exact ⟨ret_int (by rw [HR.out]; rfl), (HG.out.alloc _)⟩

/-! ### Numbers of bytes -/
def inBy (n : Int) : Bool := decide (0 ≤ n ∧ n ≤ 262144)
/-- What Check says. -/
def chkBy (b : By) : Int :=
  if inBy b.live = true ∧ inBy b.tombs = true ∧ inBy b.dead = true ∧ inBy b.total = true ∧ b.total = b.live + b.tombs + b.dead ∧ 0 ≤ b.last ∧ b.last ≤ 1099511627776 ∧ (b.last = 0 ↔ b.total = 0) then 0 else 2
end Go.Proofs.YtemjnppplmankaaGreat

/- ledger.of: the bytes of a slot. -/
set_option linter.unusedVariables false
set_option linter.unusedSimpArgs false
namespace Go.Proofs.YtemjnppplmankaaGreat
open Go.RowKit Go.Shelf
attribute [local go_sem] OvM cell_ovm obj_ovm
attribute [local go_sem] Oper.semAt_some

structure AccB where
  l : Int
  t : Int
  d : Int
  last : Int
def stepB (X : IX) (a : AccB) (e : En) : AccB :=
  if classE X e = 0 then ⟨a.l + e.size, a.t, a.d, max a.last e.seq⟩ else if classE X e = 1 then ⟨a.l, a.t + e.size, a.d, max a.last e.seq⟩ else ⟨a.l, a.t, a.d + e.size, max a.last e.seq⟩
def accB (X : IX) (l : List En) : AccB := l.foldl (stepB X) ⟨0, 0, 0, 0⟩
theorem accB_snoc (X : IX) (l : List En) (e : En) : accB X (l ++ [e]) = stepB X (accB X l) e := by simp [accB]
def byOf (X : IX) (s : Int) : By := ⟨(accB X (X.slot s)).l + (accB X (X.slot s)).t + (accB X (X.slot s)).d, (accB X (X.slot s)).l, (accB X (X.slot s)).t, (accB X (X.slot s)).d, (accB X (X.slot s)).last⟩
structure AccOk (a : AccB) (n : Int) : Prop where
  l0 : 0 ≤ a.l
  t0 : 0 ≤ a.t
  d0 : 0 ≤ a.d
  s : a.l + a.t + a.d ≤ 8192 * n
  m0 : 0 ≤ a.last
  m1 : a.last ≤ 1099511627776
theorem step_ok {X : IX} {a : AccB} {e : En} {n : Int} (h : AccOk a n) (hv : validE e = true) : AccOk (stepB X a e) (n + 1) := by
  have hv := (valid_iff e).1 hv
  obtain ⟨h1, h2, h3, h4, h5, h6⟩ := h
  unfold stepB
  (repeat' split) <;> exact ⟨by simp only; omega, by simp only; omega, by simp only; omega, by simp only; omega, by simp only; omega, by simp only; omega⟩
theorem acc_ok' (X : IX) : ∀ (l : List En) (a : AccB) (n : Int), AccOk a n → (∀ e ∈ l, validE e = true) → AccOk (l.foldl (stepB X) a) (n + l.length)
  | [], a, n, h, _ => by simpa using h
  | e :: l, a, n, h, hv => by
    have := acc_ok' X l _ (n + 1) (step_ok (X := X) h (hv e (by simp))) (fun x hx => hv x (List.mem_cons_of_mem _ hx))
    simp only [List.foldl_cons, List.length_cons, Int.natCast_add] at *
    rw [show n + ((l.length : Int) + (1 : Nat)) = n + 1 + l.length by omega]
    exact this
theorem acc_ok (X : IX) (l : List En) (h : ∀ e ∈ l, validE e = true) : AccOk (accB X l) l.length := by
  have := acc_ok' X l ⟨0, 0, 0, 0⟩ 0 ⟨by simp, by simp, by simp, by simp, by simp, by simp⟩ h
  simpa [accB] using this
theorem classE_or (X : IX) (e : En) : classE X e = 0 ∨ classE X e = 1 ∨ classE X e = 2 := by unfold classE; (repeat' split) <;> simp
set_option maxRecDepth 40000 in
set_option maxHeartbeats 4000000 in
theorem of_any {w : World} {p : Option Addr} {X : IX} {S : Nat → Prop} (h : IXP w p X S) (s : Int) : Calls Tryz.prog 80 #[.pointer p, .int .i64 s] w fun e w' => e = .returned (byV (byOf X s)) ∧ Gr w w' := by
  have H := Lib.hid h
  have HOK := Lib.hid h.ok
  clear h
  refine calls_of_wp_marks Tryz.func80 rfl ?_
  simp only [Tryz.ntmps80, List.size_toArray, List.length_cons, List.length_nil, Nat.reduceAdd, Nat.reduceSub, Array.replicate_succ, Array.replicate_zero, List.push_toArray, List.append_toArray, List.nil_append, List.cons_append]
  go_wp2_with fail
  obtain ⟨b2, hb2⟩ : ∃ q, q = w.heap.size := ⟨_, rfl⟩
  obtain ⟨w0, hw0⟩ : ∃ y, y = (((w.alloc (.cells #[.pointer p] 35)).alloc (.cells #[.int .i64 0, .int .i64 0, .int .i64 0, .int .i64 0, .int .i64 0] 97)).alloc (.cells #[.int .i64 0, .int .i64 0, .int .i64 0] 172)).alloc (.cells #[.int .i64 0] 2) := ⟨_, rfl⟩
  have HSW : Hid (SW w [blkA (b2 + 1 + 1 + 1) (.cells #[.int .i64 0] 2), blkA (b2 + 1 + 1) (.cells #[.int .i64 0, .int .i64 0, .int .i64 0] 172), blkA (b2 + 1) (.cells #[.int .i64 0, .int .i64 0, .int .i64 0, .int .i64 0, .int .i64 0] 97), blkA b2 (.cells #[.pointer p] 35)] w0) := Lib.hid (by
    have := ((((SW.start w).alloc (.cells #[.pointer p] 35)).alloc (.cells #[.int .i64 0, .int .i64 0, .int .i64 0, .int .i64 0, .int .i64 0] 97)).alloc (.cells #[.int .i64 0, .int .i64 0, .int .i64 0] 172)).alloc (.cells #[.int .i64 0] 2)
    simp only [World.size_alloc] at this
    rw [hw0, hb2]
    exact this)
  rw [← hw0, ← hb2]
  clear hw0 hb2
  refine (Slot_any p s _).mono ?_
  rintro e' w1 ⟨bb, bs, rfl, h1, h2, h3, h4, hg⟩
  have HS1 := Lib.hid (HSW.out.gr hg)
  have HI := Lib.hid (H.out.gr HS1.out.g)
  have HSEQ := Lib.hid (SeqSlotP HI.out s bb bs h1 h2)
  have hA : ∀ q, (q = bb ∨ q = bs ∨ S q) → q < w1.heap.size := fun q hq => by
    have l1 := World.block_lt_of_cell? w1 ⟨bb, 0, none⟩ h1
    have l2 := World.block_lt_of_cell? w1 ⟨bs, 0, none⟩ h2
    rcases hq with rfl | rfl | hq
    · exact l1
    · exact l2
    · exact HI.out.lt q hq
  have HA := Lib.hid hA
  have HZ : Hid (SWz w w1 (fun q => q = bb ∨ q = bs ∨ S q) [blkA (b2 + 1 + 1 + 1) (.cells #[.int .i64 0] 2), blkA (b2 + 1 + 1) (.cells #[.int .i64 0, .int .i64 0, .int .i64 0] 172), blkA (b2 + 1) (.cells #[.int .i64 0, .int .i64 0, .int .i64 0, .int .i64 0, .int .i64 0] 97), blkA b2 (.cells #[.pointer p] 35)] (fun _ => False) w1) := Lib.hid (SWz.start HS1.out (fun B hB k hk ha => by
    have l1 := HSW.out.s.lt hB k hk
    have l2 := HSW.out.n B hB k hk
    rcases ha with rfl | rfl | ha
    · omega
    · omega
    · have := H.out.lt k ha; omega))
  clear h1 h2 h3 h4 hg hA
  go_wp2_with fail
  apply wp_rangeFunc_zx (gf := 113) (lb := #[.pointer (some ⟨bb, 0, none⟩), .pointer (some ⟨bs, 0, none⟩)]) rfl (enters_of Tryz.func113 (by kernel_rfl) rfl) HSEQ.out (Mdh.refl _ w1) HA.out (fun _ => rfl)
    (fun Z pre X' => SWz w w1 (fun q => q = bb ∨ q = bs ∨ S q) [blkA (b2 + 1 + 1 + 1) (.cells #[.int .i64 (accB X pre).last] 2), blkA (b2 + 1 + 1) (.cells #[.int .i64 (accB X pre).l, .int .i64 (accB X pre).t, .int .i64 (accB X pre).d] 172), blkA (b2 + 1) (.cells #[.int .i64 0, .int .i64 0, .int .i64 0, .int .i64 0, .int .i64 0] 97), blkA b2 (.cells #[.pointer p] 35)] Z X')
    (fun _ _ _ => False) (fun _ _ _ => False)
    (SWz.apart HS1.out.g.sz (fun pre => [blkA (b2 + 1 + 1 + 1) (.cells #[.int .i64 (accB X pre).last] 2), blkA (b2 + 1 + 1) (.cells #[.int .i64 (accB X pre).l, .int .i64 (accB X pre).t, .int .i64 (accB X pre).d] 172), blkA (b2 + 1) (.cells #[.int .i64 0, .int .i64 0, .int .i64 0, .int .i64 0, .int .i64 0] 97), blkA b2 (.cells #[.pointer p] 35)])) apart_no apart_no
    HZ.out (fun Z pre X' h => h.frm HS1.out.g) (fun x => .cells #[.int .i64 x.seq, .string x.key, .bool x.del, .int .i64 x.slot, .int .i64 x.off, .int .i64 x.size] 89)
    _ ?assign ?body ?hend ?hret
  case hret => intro _ _ _ _ _ _ _ h; exact h.elim
  case assign =>
    intro l x bx X' K hbx hK
    dsimp only [encE, enV]
    gi_wp2
    rw [← hbx]
    exact hK
  case body =>
    intro l Z pre x bx X' hI hbx hx hzx hzl hlr hsp
    have HIZ := Lib.hid hI
    have HBX := Lib.hid hx
    have hv : validE x = true := ((HOK.out.slotOk s).e x (hsp.subset (by simp))).2
    have HAC := Lib.hid (acc_ok X pre (fun e he => ((HOK.out.slotOk s).e e (hsp.subset (List.mem_append_left _ he))).2))
    have HPL : Hid ((pre.length : Int) ≤ 512) := Lib.hid (by have := hsp.length_le; have := HOK.out.slot_le s; simp at *; omega)
    have HSN := Lib.hid (accB_snoc X pre x)
    have HV2 := Lib.hid ((valid_iff x).1 hv)
    clear hI hx hsp hv
    have hxb : X'.heap[bx]? = _ := HBX.out
    have c7 := (cellsOf hxb).1
    have HXL := Lib.hid (blkLt hxb)
    have c5' := (cellsOf (show X'.heap[b2 + 1 + 1]? = _ from HIZ.out.s.get (i := 1) rfl))
    have c6' := (cellsOf (show X'.heap[b2 + 1 + 1 + 1]? = _ from HIZ.out.s.get (i := 0) rfl))
    have c2' := (cellsOf (show X'.heap[b2]? = _ from HIZ.out.s.get (i := 3) rfl)).1
    have hlt5 := blkLt (show X'.heap[b2 + 1 + 1]? = _ from HIZ.out.s.get (i := 1) rfl)
    have HP5 := Lib.hid (show X'.heap[b2 + 1 + 1]? = _ from HIZ.out.s.get (i := 1) rfl)
    have HP6 := Lib.hid (show X'.heap[b2 + 1 + 1 + 1]? = _ from HIZ.out.s.get (i := 0) rfl)
    have HIX : Hid (IXP X' p X S) := Lib.hid (H.out.gr HIZ.out.s.g)
    generalize accB X pre = a at *
    obtain ⟨a1, a2, a3, a4⟩ := a
    simp only at *
    obtain ⟨o1, o2, o3, o4, o5, o6⟩ := HAC.out
    have o7 := HPL.out
    simp only at o1 o2 o3 o4 o5 o6
    have HV := HV2.out
    obtain ⟨v1, v2, v3, v4, v5, v6⟩ := HV2.out
    clear HV
    have HNE : Hid (bx ≠ b2 + 1 + 1) := Lib.hid (by have := blkLt (show w1.heap[b2 + 1 + 1]? = _ from HS1.out.get (i := 1) rfl); omega)
    gi_wp2_with fail
    rcases classE_or X x with hc | hc | hc
    · have F1 := Lib.hid hc
      have HN : Hid (accB X (pre ++ [x]) = ⟨a1 + x.size, a2, a3, max a4 x.seq⟩) := Lib.hid (by rw [HSN.out]; simp [stepB, hc])
      clear hc
      have n7 := HNE.out
      obtain ⟨c5, f5⟩ := c5'
      obtain ⟨c6, f6⟩ := c6'
      refine wpIn_region_flo (fun _ => trivial) rfl (fun k => k = b2 + 1 + 1) [] [16] (by kernel_rfl) (by kernel_rfl) (fun k hk => by subst hk; exact hlt5) ?_
      refine flo_seg 2 rfl ?_
      simp only [List.take_succ_cons, List.take_zero, List.drop_succ_cons, List.drop_zero]
      repeat (go_big_quiet_step (fail))
      refine wpQuiet_nil ?_
      refine flo_eff rfl rfl rfl rfl (fun K hK => ?_)
      gi_wp2_with ((refine ⟨trivial, ?_⟩; gi_at_call 118; refine (CallsIn.inRound l (callsIn_wide.2 (class_any (HIX.out.gr ((Gr.refl _).drew)) x))).mono ?_; rintro e w9 ⟨rfl, hg9⟩; rw [F1.out]; have HGD := Lib.hid hg9; have HG9 := Lib.hid (((Gr.refl _).drew).trans hg9); have d7 := (cellsOf (HG9.out.blk HBX.out)).1; have d5 := (cellsOf (HG9.out.blk HP5.out)).1; have d6 := (cellsOf (HG9.out.blk HP6.out)).1; have g5 := (cellsOf (HG9.out.blk HP5.out)).2; have g6 := (cellsOf (HG9.out.blk HP6.out)).2; clear hg9))
      refine ⟨by first | exact HGD.out.mdh _ | exact HG9.out.mdh _, ?_⟩
      refine flo_seg 1 rfl ?_
      simp only [List.take_succ_cons, List.take_zero, List.drop_succ_cons, List.drop_zero]
      repeat (go_big_quiet_step (fail))
      refine wpQuiet_nil ?_
      refine flo_eff rfl rfl rfl rfl (fun K hK => ?_)
      gi_wp2
      refine ⟨by (first | (refine Gr.mdh ?_ _; (repeat (first | (with_reducible exact Gr.refl _) | assumption | (with_reducible apply Gr.from_drew) | (with_reducible apply Gr.alloc) | (with_reducible apply Gr.drew) | (with_reducible refine Gr.trans ?_ (by assumption)) | (with_reducible refine Gr.setCell ?_ (by omega) _))); done) | (repeat (first | (with_reducible exact Mdh.refl _ _) | (with_reducible refine Mdh.setCell ?_ (by simp) _) | (with_reducible refine Mdh.setNew ?_ (by simp) _) | (with_reducible apply Mdh.alloc) | (with_reducible apply Mdh.from_drew) | (with_reducible apply Mdh.drew) | (with_reducible refine Mdh.gr ?_ (by assumption))))), ?_⟩
      refine flo_seg 4 rfl ?_
      simp only [List.take_succ_cons, List.take_zero, List.drop_succ_cons, List.drop_zero]
      repeat (go_big_quiet_step (fail))
      refine wpQuiet_nil ?_
      refine flo_eff rfl rfl rfl rfl (fun K hK => ?_)
      gi_wp2
      refine ⟨by (first | (refine Gr.mdh ?_ _; (repeat (first | (with_reducible exact Gr.refl _) | assumption | (with_reducible apply Gr.from_drew) | (with_reducible apply Gr.alloc) | (with_reducible apply Gr.drew) | (with_reducible refine Gr.trans ?_ (by assumption)) | (with_reducible refine Gr.setCell ?_ (by omega) _))); done) | (repeat (first | (with_reducible exact Mdh.refl _ _) | (with_reducible refine Mdh.setCell ?_ (by simp) _) | (with_reducible refine Mdh.setNew ?_ (by simp) _) | (with_reducible apply Mdh.alloc) | (with_reducible apply Mdh.from_drew) | (with_reducible apply Mdh.drew) | (with_reducible refine Mdh.gr ?_ (by assumption))))), ?_⟩
      refine flo_nil ?_
      obtain ⟨X2, hX2⟩ : ∃ y, y = w9.setCell ⟨b2 + 1 + 1, 0, none⟩ (.int .i64 (a1 + x.size)) := ⟨_, rfl⟩
      rw [← hX2]
      have HS2 := Lib.hid (HIZ.out.gr HG9.out)
      have HB2 := Lib.hid (HS2.out.1.box (i := 1) rfl HA.out ((Mdh.refl (fun k => k = b2 + 1 + 1) w9).setCell (p := ⟨b2 + 1 + 1, 0, none⟩) rfl (.int .i64 (a1 + x.size))) (blkSet (j := 0) (u := .int .i64 (a1 + x.size)) (HG9.out.blk HP5.out)))
      have HB3 := Lib.hid HB2.out
      rw [← hX2] at HB3
      have HP62 : Hid (X2.heap[b2 + 1 + 1 + 1]? = _) := Lib.hid (HB3.out.1.s.get (i := 0) rfl)
      have hx2 : X2.heap[bx]? = _ := (show X2.heap[bx]? = w9.heap[bx]? from by rw [hX2]; exact Below.heap_setCell _ _ _ _ HNE.out).trans (HG9.out.blk HBX.out)
      clear hX2 c7 c5 f5 c6 f6 c2' d7 d5 d6 g5 g6
      have c7 := (cellsOf hx2).1
      obtain ⟨c6, f6⟩ := cellsOf HP62.out
      clear hx2
      gi_wp2
      all_goals
        have HB4 := HB3.out.1.box (i := 0) rfl HA.out ((Mdh.refl (fun k => k = b2 + 1 + 1 + 1) X2).setCell (p := ⟨b2 + 1 + 1 + 1, 0, none⟩) rfl (.int .i64 (max a4 x.seq))) (blkSet (j := 0) (u := .int .i64 (max a4 x.seq)) HP62.out)
        have HNo := HN.out
        first
          | (have hm : max a4 x.seq = x.seq := by omega
             rw [hm] at HB4 HNo
             refine ⟨(HS2.out.2.trans HB3.out.2).trans HB4.2, ?_⟩
             dsimp only
             rw [HNo]
             exact HB4.1)
          | (have hm : max a4 x.seq = a4 := by omega
             rw [hm] at HB4 HNo
             refine ⟨(HS2.out.2.trans HB3.out.2).trans HB4.2, ?_⟩
             dsimp only
             rw [HNo]
             exact HB4.1)
    · have F1 := Lib.hid hc
      have HN : Hid (accB X (pre ++ [x]) = ⟨a1, a2 + x.size, a3, max a4 x.seq⟩) := Lib.hid (by rw [HSN.out]; simp [stepB, hc])
      clear hc
      have n7 := HNE.out
      obtain ⟨c5, f5⟩ := c5'
      obtain ⟨c6, f6⟩ := c6'
      refine wpIn_region_flo (fun _ => trivial) rfl (fun k => k = b2 + 1 + 1) [] [16] (by kernel_rfl) (by kernel_rfl) (fun k hk => by subst hk; exact hlt5) ?_
      refine flo_seg 2 rfl ?_
      simp only [List.take_succ_cons, List.take_zero, List.drop_succ_cons, List.drop_zero]
      repeat (go_big_quiet_step (fail))
      refine wpQuiet_nil ?_
      refine flo_eff rfl rfl rfl rfl (fun K hK => ?_)
      gi_wp2_with ((refine ⟨trivial, ?_⟩; gi_at_call 118; refine (CallsIn.inRound l (callsIn_wide.2 (class_any (HIX.out.gr ((Gr.refl _).drew)) x))).mono ?_; rintro e w9 ⟨rfl, hg9⟩; rw [F1.out]; have HGD := Lib.hid hg9; have HG9 := Lib.hid (((Gr.refl _).drew).trans hg9); have d7 := (cellsOf (HG9.out.blk HBX.out)).1; have d5 := (cellsOf (HG9.out.blk HP5.out)).1; have d6 := (cellsOf (HG9.out.blk HP6.out)).1; have g5 := (cellsOf (HG9.out.blk HP5.out)).2; have g6 := (cellsOf (HG9.out.blk HP6.out)).2; clear hg9))
      refine ⟨by first | exact HGD.out.mdh _ | exact HG9.out.mdh _, ?_⟩
      refine flo_seg 1 rfl ?_
      simp only [List.take_succ_cons, List.take_zero, List.drop_succ_cons, List.drop_zero]
      repeat (go_big_quiet_step (fail))
      refine wpQuiet_nil ?_
      refine flo_eff rfl rfl rfl rfl (fun K hK => ?_)
      gi_wp2
      refine ⟨by (first | (refine Gr.mdh ?_ _; (repeat (first | (with_reducible exact Gr.refl _) | assumption | (with_reducible apply Gr.from_drew) | (with_reducible apply Gr.alloc) | (with_reducible apply Gr.drew) | (with_reducible refine Gr.trans ?_ (by assumption)) | (with_reducible refine Gr.setCell ?_ (by omega) _))); done) | (repeat (first | (with_reducible exact Mdh.refl _ _) | (with_reducible refine Mdh.setCell ?_ (by simp) _) | (with_reducible refine Mdh.setNew ?_ (by simp) _) | (with_reducible apply Mdh.alloc) | (with_reducible apply Mdh.from_drew) | (with_reducible apply Mdh.drew) | (with_reducible refine Mdh.gr ?_ (by assumption))))), ?_⟩
      refine flo_seg 4 rfl ?_
      simp only [List.take_succ_cons, List.take_zero, List.drop_succ_cons, List.drop_zero]
      repeat (go_big_quiet_step (fail))
      refine wpQuiet_nil ?_
      refine flo_eff rfl rfl rfl rfl (fun K hK => ?_)
      gi_wp2
      refine ⟨by (first | (refine Gr.mdh ?_ _; (repeat (first | (with_reducible exact Gr.refl _) | assumption | (with_reducible apply Gr.from_drew) | (with_reducible apply Gr.alloc) | (with_reducible apply Gr.drew) | (with_reducible refine Gr.trans ?_ (by assumption)) | (with_reducible refine Gr.setCell ?_ (by omega) _))); done) | (repeat (first | (with_reducible exact Mdh.refl _ _) | (with_reducible refine Mdh.setCell ?_ (by simp) _) | (with_reducible refine Mdh.setNew ?_ (by simp) _) | (with_reducible apply Mdh.alloc) | (with_reducible apply Mdh.from_drew) | (with_reducible apply Mdh.drew) | (with_reducible refine Mdh.gr ?_ (by assumption))))), ?_⟩
      refine flo_nil ?_
      obtain ⟨X2, hX2⟩ : ∃ y, y = w9.setCell ⟨b2 + 1 + 1, 1, none⟩ (.int .i64 (a2 + x.size)) := ⟨_, rfl⟩
      rw [← hX2]
      have HS2 := Lib.hid (HIZ.out.gr HG9.out)
      have HB2 := Lib.hid (HS2.out.1.box (i := 1) rfl HA.out ((Mdh.refl (fun k => k = b2 + 1 + 1) w9).setCell (p := ⟨b2 + 1 + 1, 1, none⟩) rfl (.int .i64 (a2 + x.size))) (blkSet (j := 1) (u := .int .i64 (a2 + x.size)) (HG9.out.blk HP5.out)))
      have HB3 := Lib.hid HB2.out
      rw [← hX2] at HB3
      have HP62 : Hid (X2.heap[b2 + 1 + 1 + 1]? = _) := Lib.hid (HB3.out.1.s.get (i := 0) rfl)
      have hx2 : X2.heap[bx]? = _ := (show X2.heap[bx]? = w9.heap[bx]? from by rw [hX2]; exact Below.heap_setCell _ _ _ _ HNE.out).trans (HG9.out.blk HBX.out)
      clear hX2 c7 c5 f5 c6 f6 c2' d7 d5 d6 g5 g6
      have c7 := (cellsOf hx2).1
      obtain ⟨c6, f6⟩ := cellsOf HP62.out
      clear hx2
      gi_wp2
      all_goals
        have HB4 := HB3.out.1.box (i := 0) rfl HA.out ((Mdh.refl (fun k => k = b2 + 1 + 1 + 1) X2).setCell (p := ⟨b2 + 1 + 1 + 1, 0, none⟩) rfl (.int .i64 (max a4 x.seq))) (blkSet (j := 0) (u := .int .i64 (max a4 x.seq)) HP62.out)
        have HNo := HN.out
        first
          | (have hm : max a4 x.seq = x.seq := by omega
             rw [hm] at HB4 HNo
             refine ⟨(HS2.out.2.trans HB3.out.2).trans HB4.2, ?_⟩
             dsimp only
             rw [HNo]
             exact HB4.1)
          | (have hm : max a4 x.seq = a4 := by omega
             rw [hm] at HB4 HNo
             refine ⟨(HS2.out.2.trans HB3.out.2).trans HB4.2, ?_⟩
             dsimp only
             rw [HNo]
             exact HB4.1)
    · have F1 := Lib.hid hc
      have HN : Hid (accB X (pre ++ [x]) = ⟨a1, a2, a3 + x.size, max a4 x.seq⟩) := Lib.hid (by rw [HSN.out]; simp [stepB, hc])
      clear hc
      have n7 := HNE.out
      obtain ⟨c5, f5⟩ := c5'
      obtain ⟨c6, f6⟩ := c6'
      refine wpIn_region_flo (fun _ => trivial) rfl (fun k => k = b2 + 1 + 1) [] [16] (by kernel_rfl) (by kernel_rfl) (fun k hk => by subst hk; exact hlt5) ?_
      refine flo_seg 2 rfl ?_
      simp only [List.take_succ_cons, List.take_zero, List.drop_succ_cons, List.drop_zero]
      repeat (go_big_quiet_step (fail))
      refine wpQuiet_nil ?_
      refine flo_eff rfl rfl rfl rfl (fun K hK => ?_)
      gi_wp2_with ((refine ⟨trivial, ?_⟩; gi_at_call 118; refine (CallsIn.inRound l (callsIn_wide.2 (class_any (HIX.out.gr ((Gr.refl _).drew)) x))).mono ?_; rintro e w9 ⟨rfl, hg9⟩; rw [F1.out]; have HGD := Lib.hid hg9; have HG9 := Lib.hid (((Gr.refl _).drew).trans hg9); have d7 := (cellsOf (HG9.out.blk HBX.out)).1; have d5 := (cellsOf (HG9.out.blk HP5.out)).1; have d6 := (cellsOf (HG9.out.blk HP6.out)).1; have g5 := (cellsOf (HG9.out.blk HP5.out)).2; have g6 := (cellsOf (HG9.out.blk HP6.out)).2; clear hg9))
      refine ⟨by first | exact HGD.out.mdh _ | exact HG9.out.mdh _, ?_⟩
      refine flo_seg 1 rfl ?_
      simp only [List.take_succ_cons, List.take_zero, List.drop_succ_cons, List.drop_zero]
      repeat (go_big_quiet_step (fail))
      refine wpQuiet_nil ?_
      refine flo_eff rfl rfl rfl rfl (fun K hK => ?_)
      gi_wp2
      refine ⟨by (first | (refine Gr.mdh ?_ _; (repeat (first | (with_reducible exact Gr.refl _) | assumption | (with_reducible apply Gr.from_drew) | (with_reducible apply Gr.alloc) | (with_reducible apply Gr.drew) | (with_reducible refine Gr.trans ?_ (by assumption)) | (with_reducible refine Gr.setCell ?_ (by omega) _))); done) | (repeat (first | (with_reducible exact Mdh.refl _ _) | (with_reducible refine Mdh.setCell ?_ (by simp) _) | (with_reducible refine Mdh.setNew ?_ (by simp) _) | (with_reducible apply Mdh.alloc) | (with_reducible apply Mdh.from_drew) | (with_reducible apply Mdh.drew) | (with_reducible refine Mdh.gr ?_ (by assumption))))), ?_⟩
      refine flo_seg 4 rfl ?_
      simp only [List.take_succ_cons, List.take_zero, List.drop_succ_cons, List.drop_zero]
      repeat (go_big_quiet_step (fail))
      refine wpQuiet_nil ?_
      refine flo_eff rfl rfl rfl rfl (fun K hK => ?_)
      gi_wp2
      refine ⟨by (first | (refine Gr.mdh ?_ _; (repeat (first | (with_reducible exact Gr.refl _) | assumption | (with_reducible apply Gr.from_drew) | (with_reducible apply Gr.alloc) | (with_reducible apply Gr.drew) | (with_reducible refine Gr.trans ?_ (by assumption)) | (with_reducible refine Gr.setCell ?_ (by omega) _))); done) | (repeat (first | (with_reducible exact Mdh.refl _ _) | (with_reducible refine Mdh.setCell ?_ (by simp) _) | (with_reducible refine Mdh.setNew ?_ (by simp) _) | (with_reducible apply Mdh.alloc) | (with_reducible apply Mdh.from_drew) | (with_reducible apply Mdh.drew) | (with_reducible refine Mdh.gr ?_ (by assumption))))), ?_⟩
      refine flo_nil ?_
      obtain ⟨X2, hX2⟩ : ∃ y, y = w9.setCell ⟨b2 + 1 + 1, 2, none⟩ (.int .i64 (a3 + x.size)) := ⟨_, rfl⟩
      rw [← hX2]
      have HS2 := Lib.hid (HIZ.out.gr HG9.out)
      have HB2 := Lib.hid (HS2.out.1.box (i := 1) rfl HA.out ((Mdh.refl (fun k => k = b2 + 1 + 1) w9).setCell (p := ⟨b2 + 1 + 1, 2, none⟩) rfl (.int .i64 (a3 + x.size))) (blkSet (j := 2) (u := .int .i64 (a3 + x.size)) (HG9.out.blk HP5.out)))
      have HB3 := Lib.hid HB2.out
      rw [← hX2] at HB3
      have HP62 : Hid (X2.heap[b2 + 1 + 1 + 1]? = _) := Lib.hid (HB3.out.1.s.get (i := 0) rfl)
      have hx2 : X2.heap[bx]? = _ := (show X2.heap[bx]? = w9.heap[bx]? from by rw [hX2]; exact Below.heap_setCell _ _ _ _ HNE.out).trans (HG9.out.blk HBX.out)
      clear hX2 c7 c5 f5 c6 f6 c2' d7 d5 d6 g5 g6
      have c7 := (cellsOf hx2).1
      obtain ⟨c6, f6⟩ := cellsOf HP62.out
      clear hx2
      gi_wp2
      all_goals
        have HB4 := HB3.out.1.box (i := 0) rfl HA.out ((Mdh.refl (fun k => k = b2 + 1 + 1 + 1) X2).setCell (p := ⟨b2 + 1 + 1 + 1, 0, none⟩) rfl (.int .i64 (max a4 x.seq))) (blkSet (j := 0) (u := .int .i64 (max a4 x.seq)) HP62.out)
        have HNo := HN.out
        first
          | (have hm : max a4 x.seq = x.seq := by omega
             rw [hm] at HB4 HNo
             refine ⟨(HS2.out.2.trans HB3.out.2).trans HB4.2, ?_⟩
             dsimp only
             rw [HNo]
             exact HB4.1)
          | (have hm : max a4 x.seq = a4 := by omega
             rw [hm] at HB4 HNo
             refine ⟨(HS2.out.2.trans HB3.out.2).trans HB4.2, ?_⟩
             dsimp only
             rw [HNo]
             exact HB4.1)
  case hend =>
    intro Z D xs W hD hZD hcase hdef
    obtain ⟨hxs, hI⟩ := hcase.elim (fun h => h) (fun h => h.2.elim)
    have hxs' : xs = X.slot s := hxs
    subst hxs'
    have HIZ := Lib.hid hI
    have HD := Lib.hid (And.intro hD hdef)
    have HAC := Lib.hid (acc_ok X (X.slot s) (fun e he => ((HOK.out.slotOk s).e e he).2))
    have HPL : Hid (((X.slot s).length : Int) ≤ 512) := Lib.hid (by have := HOK.out.slot_le s; omega)
    have HBY : Hid (byOf X s = ⟨(accB X (X.slot s)).l + (accB X (X.slot s)).t + (accB X (X.slot s)).d, (accB X (X.slot s)).l, (accB X (X.slot s)).t, (accB X (X.slot s)).d, (accB X (X.slot s)).last⟩) := Lib.hid rfl
    clear hxs hI hcase hD hdef
    generalize accB X (X.slot s) = a at *
    obtain ⟨a1, a2, a3, a4⟩ := a
    simp only at *
    obtain ⟨o1, o2, o3, o4, o5, o6⟩ := HAC.out
    have o7 := HPL.out
    simp only at o1 o2 o3 o4 o5 o6
    have hb4 : W.heap[b2 + 1]? = _ := HIZ.out.s.get (i := 2) rfl
    have c5 := (cellsOf (show W.heap[b2 + 1 + 1]? = _ from HIZ.out.s.get (i := 1) rfl)).1
    have c6 := (cellsOf (show W.heap[b2 + 1 + 1 + 1]? = _ from HIZ.out.s.get (i := 0) rfl)).1
    obtain ⟨c4, f4⟩ := cellsOf hb4
    have HB4 := Lib.hid hb4
    clear hb4
    (try dsimp only)
    go_wp2_with fail
    obtain ⟨W2, hW2⟩ : ∃ y, y = (((((W.setCell ⟨b2 + 1, 0, none⟩ (.int .i64 (a1 + a2 + a3))).setCell ⟨b2 + 1, 1, none⟩ (.int .i64 a1)).setCell ⟨b2 + 1, 2, none⟩ (.int .i64 a2)).setCell ⟨b2 + 1, 3, none⟩ (.int .i64 a3)).setCell ⟨b2 + 1, 4, none⟩ (.int .i64 a4)) := ⟨_, rfl⟩
    have n4 : D ≠ b2 + 1 := fun e => by have := HIZ.out.z _ (List.mem_cons_of_mem _ (List.mem_cons_of_mem _ (List.mem_cons_self ..))) (b2 + 1) rfl; exact this (e ▸ hZD)
    have hWd : W2.heap[D]? = some (.deferred (some [])) := by rw [hW2]; exact blkSetO (blkSetO (blkSetO (blkSetO (blkSetO HD.out.2 n4) n4) n4) n4) n4
    have hWg : Gr w W2 := by
      have hb := HS1.out.g
      have hn : w.heap.size ≤ b2 + 1 := HSW.out.n _ (List.mem_cons_of_mem _ (List.mem_cons_of_mem _ (List.mem_cons_self ..))) (b2 + 1) rfl
      rw [hW2]
      exact ((((HIZ.out.s.g.setCell (p := ⟨b2 + 1, 0, none⟩) hn _).setCell (p := ⟨b2 + 1, 1, none⟩) hn _).setCell (p := ⟨b2 + 1, 2, none⟩) hn _).setCell (p := ⟨b2 + 1, 3, none⟩) hn _).setCell (p := ⟨b2 + 1, 4, none⟩) hn _
    have hWb : W2.heap[b2 + 1]? = some (.cells #[.int .i64 (a1 + a2 + a3), .int .i64 a1, .int .i64 a2, .int .i64 a3, .int .i64 a4] 97) := by rw [hW2]; exact blkSet (j := 4) (blkSet (j := 3) (blkSet (j := 2) (blkSet (j := 1) (blkSet (j := 0) HB4.out))))
    rw [← hW2]
    have h4' : (W2.putObj D (.deferred none)).heap[b2 + 1]? = _ := (World.putObj_heap_other n4.symm).trans hWb
    obtain ⟨d4, _⟩ := cellsOf h4'
    have hnD : w.heap.size ≤ D := by have := HD.out.1; have := HS1.out.g.sz; omega
    refine retM1 (D := D) (v := byV (byOf X s)) rfl hWd ?_ ⟨rfl, hWg.putObj hnD _⟩
    rw [HBY.out]
    simp [results, Tryz.results80, go_sem, d4, byV]
end Go.Proofs.YtemjnppplmankaaGreat
