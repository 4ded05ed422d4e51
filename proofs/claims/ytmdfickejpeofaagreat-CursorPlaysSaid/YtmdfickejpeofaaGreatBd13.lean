/- liveness: Needed, Keep, Size, Redundant. -/
import Derived.Test.YtmdfickejpeofaaGreatBd12
import Derived.Test.YtmdfickejpeofaaGreatBd7
set_option linter.unusedVariables false
set_option linter.unusedSimpArgs false
namespace Go.Proofs.YtmdfickejpeofaaGreat
open Go.RowKit Go.Shelf
attribute [local go_sem] OvM cell_ovm obj_ovm
attribute [local go_sem] Oper.semAt_some

def IX.hasE (X : IX) (e : En) : Bool := (X.of e.key).any (fun o => decide (o = e))
def neededV (X : IX) (e : En) : Value := if X.slots = [] then .tuple #[.bool false, .int .i64 1] else if X.hasE e = false then .tuple #[.bool false, .int .i64 5] else .tuple #[.bool (X.needs e), .int .i64 0]
set_option maxRecDepth 40000 in
theorem Need1 (o e : En) (be : Nat) (w : World) (h : w.heap[be]? = some (boxE e)) :
    Calls Tryz.prog 149 #[enV o, .pointer (some ⟨be, 0, none⟩)] w fun r w' => r = .returned (.bool (decide (o = e))) ∧ Gr w w' := by
  have c := (cellsOf h).1
  have l := blkLt h
  have k1 := eqlE_run o e
  simp only [enV]
  go_enter Tryz.func149, Tryz.ntmps149
  go_wp2
  go_ret
  exact ⟨rfl, by (repeat (first | (with_reducible exact Gr.refl _) | assumption | (with_reducible apply Gr.from_drew) | (with_reducible apply Gr.alloc) | (with_reducible apply Gr.drew) | (with_reducible refine Gr.trans ?_ (by assumption)) | (with_reducible refine Gr.setCell ?_ (by omega) _)))⟩
theorem NeedP (e : En) (be : Nat) (w : World) (h : w.heap[be]? = some (boxE e)) : PredC 149 #[.pointer (some ⟨be, 0, none⟩)] (fun o => decide (o = e)) (fun _ => False) w :=
  ⟨enters_of Tryz.func149 (by kernel_rfl) rfl, fun x w' m => Need1 x e be w' (m.blk h (fun h => h))⟩
set_option maxRecDepth 40000 in
set_option maxHeartbeats 2000000 in
theorem Needed_any {w : World} {p : Option Addr} {X : IX} {S : Nat → Prop} (h : IXP w p X S) (e : En) : Calls Tryz.prog 108 #[.pointer p, enV e] w fun r w' => r = .returned (neededV X e) ∧ Gr w w' := by
  have H := Lib.hid h
  clear h
  simp only [enV]
  have HE : Hid (neededV X e = if X.slots = [] then .tuple #[.bool false, .int .i64 1] else if X.hasE e = false then .tuple #[.bool false, .int .i64 5] else .tuple #[.bool (X.needs e), .int .i64 0]) := Lib.hid rfl
  go_enter Tryz.func108, Tryz.ntmps108
  go_wp2_with fail
  obtain ⟨b, hb⟩ : ∃ q, q = w.heap.size := ⟨_, rfl⟩
  obtain ⟨w0, hw0⟩ : ∃ y, y = w.alloc (boxE e) := ⟨_, rfl⟩
  have H0 : Hid (Gr w w0 ∧ w0.heap[b]? = some (boxE e)) := Lib.hid (by rw [hw0, hb]; exact ⟨(Gr.refl w).alloc _, blkNew w _⟩)
  rw [← show w0 = w.alloc (.cells #[.int .i64 e.seq, .string e.key, .bool e.del, .int .i64 e.slot, .int .i64 e.off, .int .i64 e.size] 56) from hw0, ← hb]
  clear hw0 hb
  refine (Copy_any (H.out.gr H0.out.1)).mono ?_
  rintro r w1 ⟨q, rfl, hg, hq, _⟩
  have H1 := Lib.hid (And.intro (H0.out.1.trans hg) (hg.blk H0.out.2))
  have c1 := (cellsOf H1.out.2).1
  clear hg
  by_cases h0 : X.slots = []
  · have hq0 := hq.2 h0
    have HR : Hid (neededV X e = .tuple #[.bool false, .int .i64 1]) := Lib.hid (by rw [HE.out, if_pos h0])
    clear h0 hq
    subst hq0
    go_wp2
    go_ret2
    exact ⟨by rw [HR.out] <;> rfl, H1.out.1⟩
  · have HR : Hid (neededV X e = if X.hasE e = false then .tuple #[.bool false, .int .i64 5] else .tuple #[.bool (X.needs e), .int .i64 0]) := Lib.hid (by rw [HE.out, if_neg h0])
    obtain ⟨q', rfl⟩ : ∃ q', q = some q' := by
      cases q with
      | none => exact absurd (hq.1 rfl) h0
      | some q' => exact ⟨q', rfl⟩
    clear h0 hq
    go_wp2_with fail
    refine (any_any (H.out.gr H1.out.1) e.key (NeedP e b w1 H1.out.2)).mono ?_
    rintro r w2 ⟨rfl, hg⟩
    rw [show (X.of e.key).any (fun o => decide (o = e)) = X.hasE e from rfl]
    have H2 := Lib.hid (And.intro (H1.out.1.trans hg) (hg.blk H1.out.2))
    clear hg c1
    cases h1 : X.hasE e with
    | false =>
      have HR2 : Hid (neededV X e = .tuple #[.bool false, .int .i64 5]) := Lib.hid (by rw [HR.out, if_pos h1])
      clear h1
      go_wp2
      go_ret2
      exact ⟨by rw [HR2.out] <;> rfl, H2.out.1⟩
    | true =>
      have HR2 : Hid (neededV X e = .tuple #[.bool (X.needs e), .int .i64 0]) := Lib.hid (by rw [HR.out, if_neg (by rw [h1]; simp)])
      have c2 := (cellsOf H2.out.2).1
      clear h1
      go_wp2_with fail
      refine (needed_any (H.out.gr H2.out.1) e).mono ?_
      rintro r w3 ⟨rfl, hg⟩
      have H3 := Lib.hid (H2.out.1.trans hg)
      clear hg
      go_wp2
      go_ret2
      exact ⟨by rw [HR2.out] <;> rfl, H3.out⟩

/-! ### Keep -/
def keepL (X : IX) (s : Int) : List En := (X.slot s).filter X.needs
def keepC (X : IX) (s : Int) : Int := if X.slots = [] then 1 else if X.has s = false then 3 else 0
theorem keep_out {X : IX} {s : Int} (h : keepC X s ≠ 0) : keepL X s = [] := by
  unfold keepL
  rw [slot_out]
  · rfl
  · unfold keepC at h
    split at h
    · rename_i h0
      simp [IX.has, h0]
    · split at h
      · assumption
      · exact absurd rfl h
def KeepPost (X : IX) (s : Int) (w : World) (e : Ending) (w' : World) : Prop := ∃ v, e = .returned (.tuple #[v, .int .i64 (keepC X s)]) ∧ Nw w w' 56 6 v (keepL X s).length (rowE (keepL X s)) ∧ Gr w w'
theorem filter_yes {α : Type} {p : α → Bool} {l : List α} {x : α} (h : p x = true) : (l ++ [x]).filter p = l.filter p ++ [x] := by simp [h]
theorem filter_no {α : Type} {p : α → Bool} {l : List α} {x : α} (h : p x = false) : (l ++ [x]).filter p = l.filter p := by simp [h]
set_option maxRecDepth 40000 in
set_option maxHeartbeats 8000000 in
theorem Keep_any {w : World} {p : Option Addr} {X : IX} {S : Nat → Prop} (h : IXP w p X S) (s : Int) : Calls Tryz.prog 158 #[.pointer p, .int .i64 s] w (KeepPost X s w) := by
  obtain ⟨i0, hi, hz0, hz1, hz2⟩ := info_parts infoIten
  have H := Lib.hid h
  have HLE := Lib.hid (h.ok.slot_le s)
  have HHAS := Lib.hid (show X.has s = decide (0 ≤ s ∧ s < X.slots.length) from rfl)
  clear h
  refine calls_of_wp_marks Tryz.func158 rfl ?_
  simp only [Tryz.ntmps158, List.size_toArray, List.length_cons, List.length_nil, Nat.reduceAdd, Nat.reduceSub, Array.replicate_succ, Array.replicate_zero, List.push_toArray, List.append_toArray, List.nil_append, List.cons_append]
  go_wp2_with fail
  obtain ⟨b2, hb2⟩ : ∃ q, q = w.heap.size := ⟨_, rfl⟩
  obtain ⟨w0, hw0⟩ : ∃ y, y = w.alloc (.cells #[.pointer p] 35) := ⟨_, rfl⟩
  have H0 : Hid (SW w [blkA b2 (.cells #[.pointer p] 35)] w0) := Lib.hid (by rw [hw0, hb2]; exact (SW.start w).alloc _)
  rw [← hw0, ← hb2]
  clear hw0 hb2
  refine (Copy_any (H.out.gr H0.out.g)).mono ?_
  rintro r w1 ⟨q, rfl, hg, hq, _⟩
  have H1 := Lib.hid (H0.out.gr hg)
  have c1 := (cellsOf (show w1.heap[b2]? = _ from H1.out.get (i := 0) rfl)).1
  clear hg
  by_cases h0 : X.slots = []
  · have hq0 := hq.2 h0
    have HC : Hid (keepC X s = 1) := Lib.hid (by unfold keepC; rw [if_pos h0])
    have HL : Hid (keepL X s = []) := Lib.hid (keep_out (by rw [HC.out]; decide))
    clear h0 hq
    subst hq0
    go_wp2_with fail
    exact retM0 (v := .tuple #[.slice none 0 0, .int .i64 1]) (by simp [results, Tryz.results158, go_sem]) rfl ⟨_, by rw [HC.out], by rw [HL.out]; exact ⟨nilRow _ _ _, fun k hk => by cases hk⟩, H1.out.g⟩
  · obtain ⟨q', rfl⟩ : ∃ q', q = some q' := by
      cases q with
      | none => exact absurd (hq.1 rfl) h0
      | some q' => exact ⟨q', rfl⟩
    have HNE := Lib.hid h0
    clear h0 hq
    cases hs : X.has s with
    | false =>
      have HC : Hid (keepC X s = 3) := Lib.hid (by unfold keepC; rw [if_neg HNE.out, if_pos hs])
      have HL : Hid (keepL X s = []) := Lib.hid (keep_out (by rw [HC.out]; decide))
      have hh := HHAS.out
      rw [hs] at hh
      have hh' : ¬ (0 ≤ s ∧ s < X.slots.length) := of_decide_eq_false hh.symm
      clear hs hh
      by_cases hs0 : s < 0
      · go_wp2_with fail
        exact retM0 (v := .tuple #[.slice none 0 0, .int .i64 3]) (by simp [results, Tryz.results158, go_sem]) rfl ⟨_, by rw [HC.out], by rw [HL.out]; exact ⟨nilRow _ _ _, fun k hk => by cases hk⟩, H1.out.g⟩
      · have hs1 : (X.slots.length : Int) ≤ s := by omega
        clear hh'
        go_wp2_with (go_at_call 105; refine (Slots_any (H.out.gr H1.out.g)).mono ?_; rintro r w2 ⟨rfl, rfl⟩)
        exact retM0 (v := .tuple #[.slice none 0 0, .int .i64 3]) (by simp [results, Tryz.results158, go_sem]) rfl ⟨_, by rw [HC.out], by rw [HL.out]; exact ⟨nilRow _ _ _, fun k hk => by cases hk⟩, H1.out.g⟩
    | true =>
      have HC : Hid (keepC X s = 0) := Lib.hid (by unfold keepC; rw [if_neg HNE.out, if_neg (by rw [hs]; simp)])
      have hh := HHAS.out
      rw [hs] at hh
      obtain ⟨hs0, hs1⟩ := of_decide_eq_true hh.symm
      have hs0' : ¬ s < 0 := by omega
      have hs1' : ¬ (X.slots.length : Int) ≤ s := by omega
      clear hs hh hs0 hs1
      have lb2 := blkLt (show w1.heap[b2]? = _ from H1.out.get (i := 0) rfl)
      go_wp2_with (first
        | (go_at_call 105; refine (Slots_any (H.out.gr H1.out.g)).mono ?_; rintro r w2 ⟨rfl, rfl⟩)
        | fail)
      obtain ⟨bo, hbo⟩ : ∃ q, q = w1.heap.size := ⟨_, rfl⟩
      have HS2 : Hid (SW w [blkA bo (.cells #[.slice none 0 0] 37), rowA 56 6 (.slice none 0 0) 0 [], blkA b2 (.cells #[.pointer p] 35)] (w1.alloc (.cells #[.slice none 0 0] 37))) := Lib.hid (by
        rw [hbo]
        exact (H1.out.new (Gr.refl _) (A := rowA 56 6 (.slice none 0 0) 0 []) (nilRow _ _ _) (fun k hk => by cases hk)).alloc _)
      obtain ⟨w2, hw2⟩ : ∃ y, y = w1.alloc (.cells #[.slice none 0 0] 37) := ⟨_, rfl⟩
      rw [← hw2] at HS2
      rw [← hw2, ← hbo]
      clear hw2 hbo c1 hs0' hs1' lb2
      refine (Slot_any p s _).mono ?_
      rintro e' w3 ⟨bb, bk, rfl, h1, h2, h3, h4, hg⟩
      have HS3 := Lib.hid (HS2.out.gr hg)
      have HI := Lib.hid (H.out.gr HS3.out.g)
      have HSEQ := Lib.hid (SeqSlotP HI.out s bb bk h1 h2)
      have HA : Hid (∀ q, (q = bb ∨ q = bk ∨ S q) → q < w3.heap.size) := Lib.hid (fun q hq => by
        have l1 := World.block_lt_of_cell? w3 ⟨bb, 0, none⟩ h1
        have l2 := World.block_lt_of_cell? w3 ⟨bk, 0, none⟩ h2
        rcases hq with rfl | rfl | hq
        · exact l1
        · exact l2
        · exact HI.out.lt q hq)
      have HZ : Hid (SWz w w3 (fun q => q = bb ∨ q = bk ∨ S q) [blkA bo (.cells #[.slice none 0 0] 37), rowA 56 6 (.slice none 0 0) 0 [], blkA b2 (.cells #[.pointer p] 35)] (fun _ => False) w3) := Lib.hid (SWz.start HS3.out (fun B hB k hk ha => by
        have l1 := HS2.out.s.lt hB k hk
        have l2 := HS2.out.n B hB k hk
        rcases ha with rfl | rfl | ha
        · omega
        · omega
        · have := H.out.lt k ha; omega))
      clear h1 h2 h3 h4 hg
      go_wp2_with fail
      apply wp_rangeFunc_zx (gf := 143) (lb := #[.pointer (some ⟨bb, 0, none⟩), .pointer (some ⟨bk, 0, none⟩)]) rfl (enters_of Tryz.func143 (by kernel_rfl) rfl) HSEQ.out (Mdh.refl _ w3) HA.out (fun _ => rfl)
        (fun Z pre X' => ∃ v, SWz w w3 (fun q => q = bb ∨ q = bk ∨ S q) [blkA bo (.cells #[v] 37), rowA 56 6 v (pre.filter X.needs).length (rowE (pre.filter X.needs)), blkA b2 (.cells #[.pointer p] 35)] Z X')
        (fun _ _ _ => False) (fun _ _ _ => False)
        (Apart.ex fun v => SWz.apart HS3.out.g.sz (fun pre : List En => [blkA bo (.cells #[v] 37), rowA 56 6 v (pre.filter X.needs).length (rowE (pre.filter X.needs)), blkA b2 (.cells #[.pointer p] 35)])) apart_no apart_no
        ⟨_, HZ.out⟩ (fun Z pre X' ⟨v, h⟩ => h.frm HS3.out.g) (fun x => boxE x)
        _ ?assign ?body ?hend ?hret
      case hret => intro _ _ _ _ _ _ _ h; exact h.elim
      case assign =>
        intro l x bx X' K hbx hK
        dsimp only [encE, enV]
        gi_wp2
        rw [← hbx]
        exact hK
      case body =>
        intro l Z pre x bx X' hI hbx hx hzx hzl hlr hsp
        obtain ⟨v, hI⟩ := hI
        have HIZ := Lib.hid hI
        have HX := Lib.hid hx
        have HB2 := Lib.hid (show X'.heap[b2]? = _ from hI.s.get (i := 2) rfl)
        have HPL : Hid (pre.length ≤ 511) := Lib.hid (by have := hsp.length_le; have := HLE.out; simp at *; omega)
        have dx := (cellsOf HX.out).1
        have d2 := (cellsOf HB2.out).1
        have HIX : Hid (IXP X' p X S) := Lib.hid (H.out.gr hI.s.g)
        clear hI hbx hx hzx hzl hlr hsp
        gi_wp2_with fail
        refine ⟨trivial, (CallsIn.inRound l (callsIn_wide.2 (needed_any HIX.out x))).mono ?_⟩
        rintro e w9 ⟨rfl, hg9⟩
        have HZ9 := Lib.hid (HIZ.out.gr hg9)
        have HX9 := Lib.hid (hg9.blk HX.out)
        clear hg9 d2 dx
        cases hnx : X.needs x with
        | false =>
          have HN := Lib.hid (filter_no (l := pre) hnx)
          clear hnx
          gi_wp2_with fail
          exact ⟨HZ9.out.2, v, by rw [HN.out]; exact HZ9.out.1⟩
        | true =>
          have HN := Lib.hid (filter_yes (l := pre) hnx)
          have HFL : Hid ((pre.filter X.needs).length ≤ 511) := Lib.hid (Nat.le_trans (List.length_filter_le _ _) HPL.out)
          generalize pre.filter X.needs = kept at *
          have HO := Lib.hid (show Own w9 56 6 v kept.length (rowE kept) from HZ9.out.1.s.get (i := 1) rfl)
          have HB := Lib.hid (show w9.heap[bo]? = _ from HZ9.out.1.s.get (i := 0) rfl)
          have dx := (cellsOf HX9.out).1
          have lx := blkLt HX9.out
          obtain ⟨db, fb⟩ := cellsOf HB.out
          have lbb := blkLt HB.out
          have HNB : Hid (¬ v.ownBlock = some bo) := Lib.hid (own_ne HO.out HB.out (by decide))
          have hfl := HFL.out
          clear hnx
          gi_wp2_with (first
            | (gi_at_builtin; go_must (refine wpListIn_appv _ rfl (.tmp 28) (.tmp 30) 37 rfl 56 i0 _ 6 56 Tryz.underlying37 hi hz0 hz1 hz2 rfl (by decide) v kept.length (rowE kept) rfl (HO.out.gr (by (repeat (first | (with_reducible exact Gr.refl _) | assumption | (with_reducible apply Gr.from_drew) | (with_reducible apply Gr.alloc) | (with_reducible apply Gr.drew) | (with_reducible refine Gr.trans ?_ (by assumption)) | (with_reducible refine Gr.setCell ?_ (by omega) _))))) (some ⟨w9.heap.size, 0, none⟩) 1 1 (enC x) rfl ((src_newK w9 (enC x) _ 6 rfl (enC_one x))) (by simp only [maxLen]; omega) (by omega) ?_); intro v2 w10 hA; obtain ⟨a2, c2, rfl⟩ := hA.val; have HAV := Lib.hid hA; have HB2 := Lib.hid ((hA.mdh (fun g h => h)).blk (((Gr.refl w9).alloc _).blk HB.out) HNB.out); clear hA; obtain ⟨db2, fb2⟩ := cellsOf HB2.out)
            | fail)
          have z2 := HZ9.out.1.gr ((Gr.refl w9).alloc (.cells (enC x).toArray 56))
          have z3 := z2.1.step (i := 1) (B' := rowA 56 6 (.slice a2 (kept.length + 1) c2) (kept.length + 1) (rowE kept ++ enC x)) rfl HA.out (HAV.out.mdh (fun g h => h)) (fun k hk => .inl hk) HAV.out.1 (fun k hq => HAV.out.2.1 k hq)
          have z4 := z3.1.step (i := 0) (B' := blkA bo (.cells #[.slice a2 (kept.length + 1) c2] 37)) rfl HA.out ((Mdh.refl (fun k => k = bo) w10).setCell (p := ⟨bo, 0, none⟩) rfl (.slice a2 (kept.length + 1) c2)) (fun k hk => .inl hk) (blkSet (j := 0) (u := .slice a2 (kept.length + 1) c2) HB2.out) (fun k hk => .inl hk)
          refine ⟨((HZ9.out.2.trans z2.2).trans z3.2).trans z4.2, .slice a2 (kept.length + 1) c2, ?_⟩
          rw [HN.out, rowE_snoc, List.length_append]
          exact z4.1
      case hend =>
        intro Z D xs W hD hZD hcase hdef
        obtain ⟨hxs, v, hI⟩ := hcase.elim (fun h => h) (fun h => h.2.elim)
        have hxs' : xs = X.slot s := hxs
        subst hxs'
        have db := (cellsOf (show W.heap[bo]? = _ from hI.s.get (i := 0) rfl)).1
        have HZW := Lib.hid hI
        have HD := Lib.hid (And.intro hD (And.intro hZD hdef))
        clear hcase hI hD hZD hdef hxs
        dsimp only
        go_wp2_with fail
        obtain ⟨hD, hZD, hdef⟩ := HD.out
        have hm : Mdh (fun k => k = D) W (W.putObj D (.deferred none)) := (Mdh.refl (fun k => k = D) W).putObj rfl _
        refine retM1 (D := D) (v := .tuple #[v, .int .i64 0]) rfl hdef (by simp [results, Tryz.results158, go_sem]) ⟨v, by rw [HC.out], ⟨(show Own W _ _ _ _ _ from HZW.out.s.get (i := 1) rfl).mdh hm (fun k hk e => HZW.out.z _ (List.mem_cons_of_mem _ (List.mem_cons_self ..)) k hk (e ▸ hZD)), fun q hq => HZW.out.s.n _ (List.mem_cons_of_mem _ (List.mem_cons_self ..)) q hq⟩, HZW.out.s.g.putObj (Nat.le_trans HS3.out.g.sz hD) _⟩
end Go.Proofs.YtmdfickejpeofaaGreat

/- cursor: the methods that do not look at an index; first. -/
set_option linter.unusedVariables false
set_option linter.unusedSimpArgs false
namespace Go.Proofs.YtmdfickejpeofaaGreat
open Go.RowKit Go.Shelf
attribute [local go_sem] OvM cell_ovm obj_ovm
attribute [local go_sem] Oper.semAt_some

/-- A cursor that was made. -/
structure Cu where
  has : Bool
  slot : Int
  off : Int
def cuO (c : Cu) : Obj := .cells #[.bool true, .bool c.has, .int .i64 c.slot, .int .i64 c.off] 140
def CUN (w : World) (p : Option Addr) : Prop := p = none ∨ ∃ b, p = some ⟨b, 0, none⟩ ∧ w.heap[b]? = some (.cells #[.bool false, .bool false, .int .i64 0, .int .i64 0] 140)
theorem CUN.gr {w w' : World} {p : Option Addr} (h : CUN w p) (g : Gr w w') : CUN w' p := h.imp (fun h => h) (fun ⟨b, e, h⟩ => ⟨b, e, g.blk h⟩)
theorem cuC {w : World} {b : Nat} {c : Cu} (h : w.heap[b]? = some (cuO c)) : w.cell? ⟨b, 0, none⟩ = some (.bool true) ∧ w.cell? ⟨b, 1, none⟩ = some (.bool c.has) ∧ w.cell? ⟨b, 2, none⟩ = some (.int .i64 c.slot) ∧ w.cell? ⟨b, 3, none⟩ = some (.int .i64 c.off) ∧ ∀ j, w.frozen? ⟨b, j, none⟩ = false := by
  obtain ⟨h1, h2⟩ := cellsOf h
  exact ⟨(h1 0).trans rfl, (h1 1).trans rfl, (h1 2).trans rfl, (h1 3).trans rfl, h2⟩
theorem cu4 {w : World} {b : Nat} {c c' : Cu} (h : w.heap[b]? = some (cuO c)) : ((((w.setCell ⟨b, 0, none⟩ (.bool true)).setCell ⟨b, 1, none⟩ (.bool c'.has)).setCell ⟨b, 2, none⟩ (.int .i64 c'.slot)).setCell ⟨b, 3, none⟩ (.int .i64 c'.off)).heap[b]? = some (cuO c') :=
  blkSet (j := 3) (blkSet (j := 2) (blkSet (j := 1) (blkSet (j := 0) h)))
set_option maxRecDepth 40000 in
theorem cuValid {w : World} {b : Nat} {c : Cu} (h : w.heap[b]? = some (cuO c)) : Calls Tryz.prog 86 #[.pointer (some ⟨b, 0, none⟩)] w fun e w' => e = .returned (.bool true) ∧ w = w' := by
  obtain ⟨c0, c1, c2, c3, _⟩ := cuC h
  clear h
  go_enter Tryz.func86, Tryz.ntmps86
  go_wp2
  go_ret
  exact ⟨rfl, rfl⟩
set_option maxRecDepth 40000 in
theorem cuValidN {w : World} {p : Option Addr} (h : CUN w p) : Calls Tryz.prog 86 #[.pointer p] w fun e w' => e = .returned (.bool false) ∧ w = w' := by
  rcases h with rfl | ⟨b, rfl, h⟩
  · go_enter Tryz.func86, Tryz.ntmps86
    go_wp2
    go_ret
    exact ⟨rfl, rfl⟩
  · have c0 := ((cellsOf h).1 0).trans (show _ = some (Value.bool false) from rfl)
    clear h
    go_enter Tryz.func86, Tryz.ntmps86
    go_wp2
    go_ret
    exact ⟨rfl, rfl⟩
set_option maxRecDepth 40000 in
theorem cuNew (w : World) : Calls Tryz.prog 34 #[] w fun e w' => e = .returned (.pointer (some ⟨w.heap.size, 0, none⟩)) ∧ w' = w.alloc (cuO ⟨false, 0, 0⟩) := by
  go_enter Tryz.func34, Tryz.ntmps34
  go_wp2
  go_ret
  exact ⟨rfl, rfl⟩
set_option maxRecDepth 40000 in
theorem cuStop {w : World} {b : Nat} {c : Cu} (h : w.heap[b]? = some (cuO c)) : Calls Tryz.prog 40 #[.pointer (some ⟨b, 0, none⟩)] w fun e w' => e = .returned (.tuple #[]) ∧ w'.heap[b]? = some (cuO ⟨false, 0, 0⟩) ∧ Mdh (fun k => k = b) w w' := by
  have H := Lib.hid h
  obtain ⟨c0, c1, c2, c3, cf⟩ := cuC h
  clear h
  go_enter Tryz.func40, Tryz.ntmps40
  go_wp2_with (go_at_call 86; refine (cuValid H.out).mono ?_; rintro e w1 ⟨rfl, rfl⟩)
  go_end0
  exact ⟨rfl, cu4 (c' := ⟨false, 0, 0⟩) H.out, (((((Mdh.refl (fun k => k = b) w).setCell (p := ⟨b, 0, none⟩) rfl _).setCell (p := ⟨b, 1, none⟩) rfl _).setCell (p := ⟨b, 2, none⟩) rfl _).setCell (p := ⟨b, 3, none⟩) rfl _)⟩
set_option maxRecDepth 40000 in
theorem cuStopN {w : World} {p : Option Addr} (h : CUN w p) : Calls Tryz.prog 40 #[.pointer p] w fun e w' => e = .returned (.tuple #[]) ∧ w = w' := by
  have H := Lib.hid h
  clear h
  go_enter Tryz.func40, Tryz.ntmps40
  go_wp2_with (go_at_call 86; refine (cuValidN H.out).mono ?_; rintro e w1 ⟨rfl, rfl⟩)
  go_end0
  exact ⟨rfl, rfl⟩
set_option maxRecDepth 40000 in
theorem cuSlot {w : World} {b : Nat} {c : Cu} (h : w.heap[b]? = some (cuO c)) : Calls Tryz.prog 50 #[.pointer (some ⟨b, 0, none⟩)] w fun e w' => e = .returned (.tuple #[.int .i64 c.slot, .bool c.has]) ∧ Gr w w' := by
  have H := Lib.hid h
  obtain ⟨c0, c1, c2, c3, cf⟩ := cuC h
  clear h
  go_enter Tryz.func50, Tryz.ntmps50
  go_wp2_with (go_at_call 86; refine (cuValid H.out).mono ?_; rintro e w1 ⟨rfl, rfl⟩)
  refine wp_region_flo (fun _ => False) [] [] (by kernel_rfl) (by kernel_rfl) (fun _ h => h.elim) ?_
  refine flo_seg 10 rfl ?_
  simp only [List.take_succ_cons, List.take_zero, List.drop_succ_cons, List.drop_zero]
  repeat (go_big_quiet_step (fail))
  refine wpQuiet_nil ?_
  refine flo_nil ?_
  go_wp2
  go_ret2
  exact ⟨rfl, by (repeat (first | (with_reducible exact Gr.refl _) | assumption | (with_reducible apply Gr.from_drew) | (with_reducible apply Gr.alloc) | (with_reducible apply Gr.drew) | (with_reducible refine Gr.trans ?_ (by assumption)) | (with_reducible refine Gr.setCell ?_ (by omega) _)))⟩
set_option maxRecDepth 40000 in
theorem cuSlotN {w : World} {p : Option Addr} (h : CUN w p) : Calls Tryz.prog 50 #[.pointer p] w fun e w' => e = .returned (.tuple #[.int .i64 0, .bool false]) ∧ w = w' := by
  have H := Lib.hid h
  clear h
  go_enter Tryz.func50, Tryz.ntmps50
  go_wp2_with (go_at_call 86; refine (cuValidN H.out).mono ?_; rintro e w1 ⟨rfl, rfl⟩)
  go_ret2
  exact ⟨rfl, rfl⟩
set_option maxRecDepth 40000 in
theorem cuOffset {w : World} {b : Nat} {c : Cu} (h : w.heap[b]? = some (cuO c)) : Calls Tryz.prog 52 #[.pointer (some ⟨b, 0, none⟩)] w fun e w' => e = .returned (.int .i64 c.off) ∧ w = w' := by
  have H := Lib.hid h
  obtain ⟨c0, c1, c2, c3, cf⟩ := cuC h
  clear h
  go_enter Tryz.func52, Tryz.ntmps52
  go_wp2_with (go_at_call 86; refine (cuValid H.out).mono ?_; rintro e w1 ⟨rfl, rfl⟩)
  go_ret
  exact ⟨rfl, rfl⟩
set_option maxRecDepth 40000 in
theorem cuOffsetN {w : World} {p : Option Addr} (h : CUN w p) : Calls Tryz.prog 52 #[.pointer p] w fun e w' => e = .returned (.int .i64 0) ∧ w = w' := by
  have H := Lib.hid h
  clear h
  go_enter Tryz.func52, Tryz.ntmps52
  go_wp2_with (go_at_call 86; refine (cuValidN H.out).mono ?_; rintro e w1 ⟨rfl, rfl⟩)
  go_ret
  exact ⟨rfl, rfl⟩
set_option maxRecDepth 40000 in
theorem cuCopy {w : World} {b : Nat} {c : Cu} (h : w.heap[b]? = some (cuO c)) : Calls Tryz.prog 42 #[.pointer (some ⟨b, 0, none⟩)] w fun e w' => e = .returned (.pointer (some ⟨w.heap.size, 0, none⟩)) ∧ w' = w.alloc (cuO c) := by
  have H := Lib.hid h
  obtain ⟨c0, c1, c2, c3, cf⟩ := cuC h
  clear h
  go_enter Tryz.func42, Tryz.ntmps42
  go_wp2_with (go_at_call 86; refine (cuValid H.out).mono ?_; rintro e w1 ⟨rfl, rfl⟩)
  go_ret
  exact ⟨rfl, rfl⟩
set_option maxRecDepth 40000 in
theorem cuCopyN {w : World} {p : Option Addr} (h : CUN w p) : Calls Tryz.prog 42 #[.pointer p] w fun e w' => e = .returned (.pointer none) ∧ w = w' := by
  have H := Lib.hid h
  clear h
  go_enter Tryz.func42, Tryz.ntmps42
  go_wp2_with (go_at_call 86; refine (cuValidN H.out).mono ?_; rintro e w1 ⟨rfl, rfl⟩)
  go_ret
  exact ⟨rfl, rfl⟩
def startC (c : Cu) (s : Int) : Int := if s < 0 ∨ 32 ≤ s then 3 else if c.has = true then 6 else 0
def startX (c : Cu) (s : Int) : Cu := if startC c s = 0 then ⟨true, s, 0⟩ else c
set_option maxRecDepth 40000 in
theorem cuStart {w : World} {b : Nat} {c : Cu} (h : w.heap[b]? = some (cuO c)) (s : Int) : Calls Tryz.prog 36 #[.pointer (some ⟨b, 0, none⟩), .int .i64 s] w fun e w' => e = .returned (.int .i64 (startC c s)) ∧ w'.heap[b]? = some (cuO (startX c s)) ∧ Mdh (fun k => k = b) w w' := by
  have H := Lib.hid h
  obtain ⟨c0, c1, c2, c3, cf⟩ := cuC h
  clear h
  go_enter Tryz.func36, Tryz.ntmps36
  by_cases hs : s < 0 ∨ 32 ≤ s
  · have HC : Hid (startC c s = 3 ∧ startX c s = c) := Lib.hid ⟨if_pos hs, by unfold startX startC; rw [if_pos hs, if_neg (by decide)]⟩
    rcases hs with hs | hs
    · go_wp2_with (go_at_call 86; refine (cuValid H.out).mono ?_; rintro e w1 ⟨rfl, rfl⟩)
      go_ret
      exact ⟨by rw [HC.out.1] <;> rfl, by rw [HC.out.2]; exact H.out, Mdh.refl _ _⟩
    · have hs0 : ¬ s < 0 := by omega
      go_wp2_with (go_at_call 86; refine (cuValid H.out).mono ?_; rintro e w1 ⟨rfl, rfl⟩)
      go_ret
      exact ⟨by rw [HC.out.1] <;> rfl, by rw [HC.out.2]; exact H.out, Mdh.refl _ _⟩
  · have hs0 : ¬ s < 0 := by omega
    have hs1 : ¬ 32 ≤ s := by omega
    obtain ⟨ch, cs, co⟩ := c
    cases ch with
    | true =>
      have HC : Hid (startC ⟨true, cs, co⟩ s = 6 ∧ startX ⟨true, cs, co⟩ s = ⟨true, cs, co⟩) := Lib.hid (by
        have h1 : startC ⟨true, cs, co⟩ s = 6 := by unfold startC; rw [if_neg hs, if_pos rfl]
        exact ⟨h1, by unfold startX; rw [h1, if_neg (by decide)]⟩)
      clear hs
      go_wp2_with (go_at_call 86; refine (cuValid H.out).mono ?_; rintro e w1 ⟨rfl, rfl⟩)
      go_ret
      exact ⟨by rw [HC.out.1] <;> rfl, by rw [HC.out.2]; exact H.out, Mdh.refl _ _⟩
    | false =>
      have HC : Hid (startC ⟨false, cs, co⟩ s = 0 ∧ startX ⟨false, cs, co⟩ s = ⟨true, s, 0⟩) := Lib.hid (by
        have h1 : startC ⟨false, cs, co⟩ s = 0 := by unfold startC; rw [if_neg hs, if_neg (by simp)]
        exact ⟨h1, by unfold startX; rw [h1, if_pos rfl]⟩)
      clear hs
      go_wp2_with (go_at_call 86; refine (cuValid H.out).mono ?_; rintro e w1 ⟨rfl, rfl⟩)
      go_ret
      exact ⟨by rw [HC.out.1] <;> rfl, by rw [HC.out.2]; exact cu4 (c' := ⟨true, s, 0⟩) H.out, (((((Mdh.refl (fun k => k = b) w).setCell (p := ⟨b, 0, none⟩) rfl _).setCell (p := ⟨b, 1, none⟩) rfl _).setCell (p := ⟨b, 2, none⟩) rfl _).setCell (p := ⟨b, 3, none⟩) rfl _)⟩
set_option maxRecDepth 40000 in
theorem cuStartN {w : World} {p : Option Addr} (h : CUN w p) (s : Int) : Calls Tryz.prog 36 #[.pointer p, .int .i64 s] w fun e w' => e = .returned (.int .i64 1) ∧ w = w' := by
  have H := Lib.hid h
  clear h
  go_enter Tryz.func36, Tryz.ntmps36
  go_wp2_with (go_at_call 86; refine (cuValidN H.out).mono ?_; rintro e w1 ⟨rfl, rfl⟩)
  go_ret
  exact ⟨rfl, rfl⟩

/-! ### first -/
def firstV (o : Option En) : Value := .tuple #[enV (o.getD zE), .bool o.isSome]
set_option maxRecDepth 40000 in
set_option maxHeartbeats 4000000 in
theorem first_any {w : World} {p : Option Addr} {X : IX} {S : Nat → Prop} (h : IXP w p X S) (s : Int) {g : Nat} {lb : Array Value} {pr : En → Bool} {T : Nat → Prop} (hp : PredC g lb pr T w) :
    Calls Tryz.prog 106 #[.pointer p, .int .i64 s, .func (.func g) #[] lb] w fun e w' => e = .returned (firstV ((X.slot s).find? pr)) ∧ Gr w w' := by
  have H := Lib.hid h
  have HP := Lib.hid hp
  have heg := hp.enter
  clear h hp
  refine calls_of_wp_marks Tryz.func106 rfl ?_
  simp only [Tryz.ntmps106, List.size_toArray, List.length_cons, List.length_nil, Nat.reduceAdd, Nat.reduceSub, Array.replicate_succ, Array.replicate_zero, List.push_toArray, List.append_toArray, List.nil_append, List.cons_append]
  go_wp2_with fail
  obtain ⟨b5, hb5⟩ : ∃ q, q = w.heap.size := ⟨_, rfl⟩
  obtain ⟨w0, hw0⟩ : ∃ y, y = ((w.alloc (.cells #[.func (.func g) #[] lb] 143)).alloc (.cells (enC zE).toArray 56)).alloc (.cells #[.bool false] 4) := ⟨_, rfl⟩
  have HSW : Hid (SW w [blkA (b5 + 1 + 1) (.cells #[.bool false] 4), blkA (b5 + 1) (.cells (enC zE).toArray 56), blkA b5 (.cells #[.func (.func g) #[] lb] 143)] w0) := Lib.hid (by
    have := (((SW.start w).alloc (.cells #[.func (.func g) #[] lb] 143)).alloc (.cells (enC zE).toArray 56)).alloc (.cells #[.bool false] 4)
    simp only [World.size_alloc] at this
    rw [hw0, hb5]
    exact this)
  simp only [enC, zE] at hw0
  rw [← hw0, ← hb5]
  clear hw0 hb5
  refine (Slot_any p s _).mono ?_
  rintro e' w1 ⟨bb, bk, rfl, h1, h2, h3, h4, hg⟩
  have HS1 := Lib.hid (HSW.out.gr hg)
  have HI := Lib.hid (H.out.gr HS1.out.g)
  have HSEQ := Lib.hid (SeqSlotP HI.out s bb bk h1 h2)
  have HA : Hid (∀ q, (q = bb ∨ q = bk ∨ S q) → q < w1.heap.size) := Lib.hid (fun q hq => by
    have l1 := World.block_lt_of_cell? w1 ⟨bb, 0, none⟩ h1
    have l2 := World.block_lt_of_cell? w1 ⟨bk, 0, none⟩ h2
    rcases hq with rfl | rfl | hq
    · exact l1
    · exact l2
    · exact HI.out.lt q hq)
  have HZ : Hid (SWz w w1 (fun q => q = bb ∨ q = bk ∨ S q) [blkA (b5 + 1 + 1) (.cells #[.bool false] 4), blkA (b5 + 1) (.cells (enC zE).toArray 56), blkA b5 (.cells #[.func (.func g) #[] lb] 143)] (fun _ => False) w1) := Lib.hid (SWz.start HS1.out (fun B hB k hk ha => by
    have l1 := HSW.out.s.lt hB k hk
    have l2 := HSW.out.n B hB k hk
    rcases ha with rfl | rfl | ha
    · omega
    · omega
    · have := H.out.lt k ha; omega))
  clear h1 h2 h3 h4 hg
  go_wp2_with fail
  apply wp_rangeFunc_zx (gf := 143) (lb := #[.pointer (some ⟨bb, 0, none⟩), .pointer (some ⟨bk, 0, none⟩)]) rfl (enters_of Tryz.func143 (by kernel_rfl) rfl) HSEQ.out (Mdh.refl _ w1) HA.out (fun _ => rfl)
    (fun Z pre X' => pre.find? pr = none ∧ SWz w w1 (fun q => q = bb ∨ q = bk ∨ S q) [blkA (b5 + 1 + 1) (.cells #[.bool false] 4), blkA (b5 + 1) (.cells (enC zE).toArray 56), blkA b5 (.cells #[.func (.func g) #[] lb] 143)] Z X')
    (fun _ _ _ => False)
    (fun Z pre X' => ∃ y, pre.find? pr = some y ∧ SWz w w1 (fun q => q = bb ∨ q = bk ∨ S q) [blkA (b5 + 1 + 1) (.cells #[.bool true] 4), blkA (b5 + 1) (.cells (enC y).toArray 56), blkA b5 (.cells #[.func (.func g) #[] lb] 143)] Z X')
    ((Apart.pure (fun pre : List En => pre.find? pr = none)).and (SWz.apart HS1.out.g.sz (fun _ : List En => [blkA (b5 + 1 + 1) (.cells #[.bool false] 4), blkA (b5 + 1) (.cells (enC zE).toArray 56), blkA b5 (.cells #[.func (.func g) #[] lb] 143)]))) apart_no
    (Apart.ex fun y => (Apart.pure (fun pre : List En => pre.find? pr = some y)).and (SWz.apart HS1.out.g.sz (fun _ : List En => [blkA (b5 + 1 + 1) (.cells #[.bool true] 4), blkA (b5 + 1) (.cells (enC y).toArray 56), blkA b5 (.cells #[.func (.func g) #[] lb] 143)])))
    ⟨rfl, HZ.out⟩ (fun Z pre X' h => h.2.frm HS1.out.g) (fun x => boxE x)
    _ ?assign ?body ?hend ?hret
  case assign =>
    intro l x bx X' K hbx hK
    dsimp only [encE, enV]
    gi_wp2
    rw [← hbx]
    exact hK
  case body =>
    intro l Z pre x bx X' hI hbx hx hzx hzl hlr hsp
    have HIZ := Lib.hid hI
    have HX := Lib.hid hx
    have HB5 := Lib.hid (show X'.heap[b5]? = _ from hI.2.s.get (i := 2) rfl)
    have dx := (cellsOf HX.out).1
    have d5 := (cellsOf HB5.out).1
    have HR := Lib.hid ((HP.out.gr hI.2.s.g).run x X' (Mdh.refl _ _))
    have HNX : Hid (bx ≠ b5 + 1 ∧ bx ≠ b5 + 1 + 1) := Lib.hid (by
      have l1 := blkLt (show w1.heap[b5 + 1 + 1]? = _ from HS1.out.get (i := 0) rfl)
      exact ⟨by omega, by omega⟩)
    clear hI hbx hx hzx hzl hlr hsp
    gi_wp2_with fail
    refine ⟨trivial, (CallsIn.inRound l (callsIn_wide.2 HR.out)).mono ?_⟩
    rintro e w9 ⟨rfl, hg9⟩
    have HZ9 := Lib.hid (HIZ.out.2.gr hg9)
    have HX9 := Lib.hid (hg9.blk HX.out)
    clear hg9 dx d5
    cases hpx : pr x with
    | true =>
      have HPX : Hid ((pre ++ [x]).find? pr = some x) := Lib.hid (by rw [List.find?_append, HIZ.out.1]; simp [hpx])
      have HB6 := Lib.hid (show w9.heap[b5 + 1]? = _ from HZ9.out.1.s.get (i := 1) rfl)
      have HB7 := Lib.hid (show w9.heap[b5 + 1 + 1]? = _ from HZ9.out.1.s.get (i := 0) rfl)
      obtain ⟨d6, f6⟩ := cellsOf HB6.out
      obtain ⟨d7, f7⟩ := cellsOf HB7.out
      have dx := (cellsOf HX9.out).1
      have n1 := HNX.out.1
      have n2 := HNX.out.2
      have n3 : b5 + 1 + 1 ≠ b5 + 1 := by omega
      simp only [enC, zE] at d6
      clear hpx
      gi_wp2_with fail
      have z1 := HZ9.out.1.step (i := 1) (B' := blkA (b5 + 1) (.cells (enC x).toArray 56)) rfl HA.out ((((((((Mdh.refl (fun k => k = b5 + 1) w9).setCell (p := ⟨b5 + 1, 0, none⟩) rfl (.int .i64 x.seq)).setCell (p := ⟨b5 + 1, 1, none⟩) rfl (.string x.key)).setCell (p := ⟨b5 + 1, 2, none⟩) rfl (.bool x.del)).setCell (p := ⟨b5 + 1, 3, none⟩) rfl (.int .i64 x.slot)).setCell (p := ⟨b5 + 1, 4, none⟩) rfl (.int .i64 x.off)).setCell (p := ⟨b5 + 1, 5, none⟩) rfl (.int .i64 x.size))) (fun k hk => .inl hk) (blk6 HB6.out) (fun k hk => .inl hk)
      have z2 := z1.1.step (i := 0) (B' := blkA (b5 + 1 + 1) (.cells #[.bool true] 4)) rfl HA.out ((Mdh.refl (fun k => k = b5 + 1 + 1) _).setCell (p := ⟨b5 + 1 + 1, 0, none⟩) rfl (.bool true)) (fun k hk => .inl hk) (blkSet (j := 0) (u := .bool true) (z1.1.s.get (i := 0) rfl)) (fun k hk => .inl hk)
      exact ⟨((HZ9.out.2.trans z1.2).trans z2.2).mono (fun k h => h.2), x, HPX.out, z2.1⟩
    | false =>
      have HPX : Hid ((pre ++ [x]).find? pr = none) := Lib.hid (by rw [List.find?_append, HIZ.out.1]; simp [hpx])
      clear hpx
      gi_wp2_with fail
      exact ⟨HZ9.out.2, HPX.out, HZ9.out.1⟩
  case hend =>
    intro Z D xs W hD hZD hcase hdef
    obtain ⟨hxs, hI⟩ := hcase.elim (fun h => h) (fun h => h.2.elim)
    have HE : Hid ((X.slot s).find? pr = none) := Lib.hid (by rw [← show xs = X.slot s from hxs]; exact hI.1)
    have HD := Lib.hid (And.intro hD (And.intro hZD hdef))
    have HB6 := Lib.hid (show W.heap[b5 + 1]? = _ from hI.2.s.get (i := 1) rfl)
    have HB7 := Lib.hid (show W.heap[b5 + 1 + 1]? = _ from hI.2.s.get (i := 0) rfl)
    obtain ⟨d6, f6⟩ := cellsOf HB6.out
    obtain ⟨d7, f7⟩ := cellsOf HB7.out
    have n3 : b5 + 1 + 1 ≠ b5 + 1 := by omega
    have HIW := Lib.hid hI.2
    clear hI hcase hxs hD hZD hdef
    simp only [enC, zE] at d6
    dsimp only
    go_wp2_with fail
    obtain ⟨hD, hZD, hdef⟩ := HD.out
    have hn6 : w.heap.size ≤ b5 + 1 := HSW.out.n _ (List.mem_cons_of_mem _ (List.mem_cons_self ..)) _ rfl
    have hn7 : w.heap.size ≤ b5 + 1 + 1 := by omega
    have hn : ∀ q, q = b5 + 1 ∨ q = b5 + 1 + 1 → D ≠ q := fun q hq e => by
      rcases hq with h | h
      · exact HIW.out.z _ (List.mem_cons_of_mem _ (List.mem_cons_self ..)) q h (e ▸ hZD)
      · exact HIW.out.z _ (List.mem_cons_self ..) q h (e ▸ hZD)
    have n6 := hn _ (.inl rfl)
    have n7 := hn _ (.inr rfl)
    have h6 := blkSetO (p := ⟨b5 + 1 + 1, 0, none⟩) (u := .bool false) (blk6 (y0 := .int .i64 0) (y1 := .string ⟨#[]⟩) (y2 := .bool false) (y3 := .int .i64 0) (y4 := .int .i64 0) (y5 := .int .i64 0) HB6.out) (by simp)
    have h7 := blkSet (j := 0) (u := .bool false) (blkSetO (p := ⟨b5 + 1, 5, none⟩) (u := .int .i64 0) (blkSetO (p := ⟨b5 + 1, 4, none⟩) (u := .int .i64 0) (blkSetO (p := ⟨b5 + 1, 3, none⟩) (u := .int .i64 0) (blkSetO (p := ⟨b5 + 1, 2, none⟩) (u := .bool false) (blkSetO (p := ⟨b5 + 1, 1, none⟩) (u := .string ⟨#[]⟩) (blkSetO (p := ⟨b5 + 1, 0, none⟩) (u := .int .i64 0) HB7.out n3) n3) n3) n3) n3) n3)
    have h6' := (World.putObj_heap_other (o := .deferred none) n6.symm).trans h6
    have h7' := (World.putObj_heap_other (o := .deferred none) n7.symm).trans h7
    obtain ⟨e6, _⟩ := cellsOf h6'
    obtain ⟨e7, _⟩ := cellsOf h7'
    refine retM1 (D := D) (v := .tuple #[enV zE, .bool false]) rfl (blkSetO (blkSetO (blkSetO (blkSetO (blkSetO (blkSetO (blkSetO hdef n6) n6) n6) n6) n6) n6) n7) ?_ ⟨by rw [HE.out]; rfl, ((((((((HIW.out.s.g.setCell (p := ⟨b5 + 1, 0, none⟩) hn6 _).setCell (p := ⟨b5 + 1, 1, none⟩) hn6 _).setCell (p := ⟨b5 + 1, 2, none⟩) hn6 _).setCell (p := ⟨b5 + 1, 3, none⟩) hn6 _).setCell (p := ⟨b5 + 1, 4, none⟩) hn6 _).setCell (p := ⟨b5 + 1, 5, none⟩) hn6 _).setCell (p := ⟨b5 + 1 + 1, 0, none⟩) hn7 _).putObj (by have := HS1.out.g.sz; omega) _)⟩
    simp [results, Tryz.results106, go_sem, e6, e7, enV, zE]
  case hret =>
    intro Z D pre W hD hZD hsp hI hdef
    obtain ⟨y, hy, hI⟩ := hI
    have HE : Hid ((X.slot s).find? pr = some y) := Lib.hid (by
      obtain ⟨t, ht⟩ := hsp
      rw [← show pre ++ t = X.slot s from ht, List.find?_append, hy]; rfl)
    have hb6 : W.heap[b5 + 1]? = _ := hI.s.get (i := 1) rfl
    have hb7 : W.heap[b5 + 1 + 1]? = _ := hI.s.get (i := 0) rfl
    have n6 : D ≠ b5 + 1 := fun e => hI.z _ (List.mem_cons_of_mem _ (List.mem_cons_self ..)) (b5 + 1) rfl (e ▸ hZD)
    have n7 : D ≠ b5 + 1 + 1 := fun e => hI.z _ (List.mem_cons_self ..) (b5 + 1 + 1) rfl (e ▸ hZD)
    have h6' := (World.putObj_heap_other (o := .deferred none) n6.symm).trans hb6
    have h7' := (World.putObj_heap_other (o := .deferred none) n7.symm).trans hb7
    obtain ⟨e6, _⟩ := cellsOf h6'
    obtain ⟨e7, _⟩ := cellsOf h7'
    simp only [enC] at e6
    dsimp only
    go_wp2_with fail
    refine retM1 (D := D) (v := .tuple #[enV y, .bool true]) rfl hdef ?_ ⟨by rw [HE.out]; rfl, hI.s.g.putObj (by have := HS1.out.g.sz; omega) _⟩
    simp [results, Tryz.results106, go_sem, e6, e7, enV]
end Go.Proofs.YtmdfickejpeofaaGreat

/- cursor: Peek, Advance. -/
set_option linter.unusedVariables false
set_option linter.unusedSimpArgs false
namespace Go.Proofs.YtmdfickejpeofaaGreat
open Go.RowKit Go.Shelf
attribute [local go_sem] OvM cell_ovm obj_ovm
attribute [local go_sem] Oper.semAt_some

def atCu (c : Cu) (e : En) : Bool := decide (c.off ≤ e.off)
def peekE (X : IX) (c : Cu) : Option En := (X.slot c.slot).find? (atCu c)
def peekC (X : IX) (c : Cu) : Int := if X.slots = [] then 1 else if c.has = false then 7 else if (X.slots.length : Int) ≤ c.slot then 3 else 0
def peekO (X : IX) (c : Cu) : Option En := if peekC X c = 0 then peekE X c else none
def peekV (X : IX) (c : Cu) : Value := match peekO X c with | none => .tuple #[enV zE, .bool false, .bool false, .int .i64 (peekC X c)] | some e => .tuple #[enV e, .bool (X.needs e), .bool true, .int .i64 0]
set_option maxRecDepth 40000 in
theorem cuP1 {w : World} {b2 b : Nat} {c : Cu} (h2 : w.heap[b2]? = some (.cells #[.pointer (some ⟨b, 0, none⟩)] 78)) (h : w.heap[b]? = some (cuO c)) (e : En) :
    Calls Tryz.prog 107 #[enV e, .pointer (some ⟨b2, 0, none⟩)] w fun r w' => r = .returned (.bool (atCu c e)) ∧ Gr w w' := by
  have HB : Hid (atCu c e = decide (c.off ≤ e.off)) := Lib.hid rfl
  rw [HB.out]
  simp only [enV]
  go_enter Tryz.func107, Tryz.ntmps107
  go_wp2_with fail
  obtain ⟨b3, hb3⟩ : ∃ q, q = w.heap.size := ⟨_, rfl⟩
  obtain ⟨w1, hw1⟩ : ∃ y, y = w.alloc (boxE e) := ⟨_, rfl⟩
  have H1 : Hid (Gr w w1) := Lib.hid (by rw [hw1]; exact (Gr.refl w).alloc _)
  have c2 := ((cellsOf (H1.out.blk h2)).1 0).trans (show _ = some (Value.pointer (some ⟨b, 0, none⟩)) from rfl)
  obtain ⟨c0, _, _, c3, _⟩ := cuC (H1.out.blk h)
  have c4 : w1.cell? ⟨b3, 4, none⟩ = some (.int .i64 e.off) := by rw [hw1, hb3]; exact ((cellsOf (blkNew w (boxE e))).1 4).trans rfl
  have l2 := blkLt (H1.out.blk h2)
  have l := blkLt (H1.out.blk h)
  have l3 : b3 < w1.heap.size := by rw [hw1, hb3]; simp
  rw [← show w1 = w.alloc (.cells #[.int .i64 e.seq, .string e.key, .bool e.del, .int .i64 e.slot, .int .i64 e.off, .int .i64 e.size] 56) from hw1, ← hb3]
  clear hw1 hb3 h h2
  by_cases hc : c.off ≤ e.off
  all_goals
    refine wp_region_flo (fun _ => False) [] [] (by kernel_rfl) (by kernel_rfl) (fun _ h => h.elim) ?_
    refine flo_seg 8 rfl ?_
    simp only [List.take_succ_cons, List.take_zero, List.drop_succ_cons, List.drop_zero]
    repeat (go_big_quiet_step (fail))
    refine wpQuiet_nil ?_
    refine flo_nil ?_
    go_wp2
    go_ret
    exact ⟨ret_bool (by simp [hc]), H1.out.trans (by (repeat (first | (with_reducible exact Gr.refl _) | assumption | (with_reducible apply Gr.from_drew) | (with_reducible apply Gr.alloc) | (with_reducible apply Gr.drew) | (with_reducible refine Gr.trans ?_ (by assumption)) | (with_reducible refine Gr.setCell ?_ (by omega) _))))⟩
theorem cuPP {w : World} {b2 b : Nat} {c : Cu} (h2 : w.heap[b2]? = some (.cells #[.pointer (some ⟨b, 0, none⟩)] 78)) (h : w.heap[b]? = some (cuO c)) : PredC 107 #[.pointer (some ⟨b2, 0, none⟩)] (atCu c) (fun _ => False) w :=
  ⟨enters_of Tryz.func107 (by kernel_rfl) rfl, fun x w' m => cuP1 (m.blk h2 (fun h => h)) (m.blk h (fun h => h)) x⟩
theorem needed_in {X : IX} (h : X.Wf) (h0 : X.slots ≠ []) {s : Int} {e : En} (he : e ∈ X.slot s) : neededV X e = .tuple #[.bool (X.needs e), .int .i64 0] := by
  have h1 : X.hasE e = true := by
    unfold IX.hasE
    rw [List.any_eq_true]
    exact ⟨e, (h.of_mem e.key e).2 ⟨((h.slot_mem s e).1 he).1, rfl⟩, by simp⟩
  unfold neededV
  rw [if_neg h0, if_neg (by rw [h1]; simp)]
/-- The result's cells, stored anew, and a block more. -/
theorem resGr {w0 w : World} {b : Nat} (h : Gr w0 w) (hn : w0.heap.size ≤ b) (y0 y1 y2 y3 y4 y5 : Value) :
    Gr w0 ((((((w.setCell ⟨b, 0, none⟩ y0).setCell ⟨b, 1, none⟩ y1).setCell ⟨b, 2, none⟩ y2).setCell ⟨b, 3, none⟩ y3).setCell ⟨b, 4, none⟩ y4).setCell ⟨b, 5, none⟩ y5) :=
  ((((((h.setCell (p := ⟨b, 0, none⟩) hn _).setCell (p := ⟨b, 1, none⟩) hn _).setCell (p := ⟨b, 2, none⟩) hn _).setCell (p := ⟨b, 3, none⟩) hn _).setCell (p := ⟨b, 4, none⟩) hn _).setCell (p := ⟨b, 5, none⟩) hn _)
abbrev boxZ : Obj := .cells #[.int .i64 0, .string ⟨#[]⟩, .bool false, .int .i64 0, .int .i64 0, .int .i64 0] 56
set_option maxRecDepth 40000 in
set_option maxHeartbeats 4000000 in
theorem cuPeek {w : World} {b : Nat} {c : Cu} {p : Option Addr} {X : IX} {S : Nat → Prop} (hc : w.heap[b]? = some (cuO c)) (h : IXP w p X S) : Calls Tryz.prog 48 #[.pointer (some ⟨b, 0, none⟩), .pointer p] w fun e w' => e = .returned (peekV X c) ∧ Gr w w' := by
  have H := Lib.hid h
  have HOK := Lib.hid h.ok
  have HCB := Lib.hid hc
  have HV : Hid (peekV X c = match peekO X c with | none => .tuple #[enV zE, .bool false, .bool false, .int .i64 (peekC X c)] | some e => .tuple #[enV e, .bool (X.needs e), .bool true, .int .i64 0]) := Lib.hid rfl
  clear h hc
  go_enter Tryz.func48, Tryz.ntmps48
  go_wp2_with fail
  obtain ⟨b2, hb2⟩ : ∃ q, q = w.heap.size := ⟨_, rfl⟩
  obtain ⟨w0, hw0⟩ : ∃ y, y = (w.alloc (.cells #[.pointer (some ⟨b, 0, none⟩)] 78)).alloc boxZ := ⟨_, rfl⟩
  have H0 : Hid (Gr w w0 ∧ w0.heap[b2]? = some (.cells #[.pointer (some ⟨b, 0, none⟩)] 78) ∧ w0.heap[b2 + 1]? = some boxZ ∧ w.heap.size ≤ b2 + 1) := Lib.hid (by
    have h2 := blkNew (w.alloc (.cells #[.pointer (some ⟨b, 0, none⟩)] 78)) boxZ
    rw [World.size_alloc, ← hb2] at h2
    rw [hw0]
    exact ⟨((Gr.refl w).alloc _).alloc _, by rw [hb2]; exact blkOld (blkNew w _), h2, by omega⟩)
  rw [← show w0 = (w.alloc (.cells #[.pointer (some ⟨b, 0, none⟩)] 78)).alloc (.cells #[.int .i64 0, .string ⟨#[]⟩, .bool false, .int .i64 0, .int .i64 0, .int .i64 0] 56) from hw0, ← hb2]
  clear hw0 hb2
  refine (cuValid (H0.out.1.blk HCB.out)).mono ?_
  rintro e w1 ⟨rfl, rfl⟩
  go_wp2_with fail
  refine (Copy_any (H.out.gr H0.out.1)).mono ?_
  rintro r w1 ⟨q, rfl, hg, hq, _⟩
  have H1 : Hid (Gr w w1 ∧ w1.heap[b2]? = some (.cells #[.pointer (some ⟨b, 0, none⟩)] 78) ∧ w1.heap[b2 + 1]? = some boxZ ∧ w.heap.size ≤ b2 + 1) := Lib.hid ⟨H0.out.1.trans hg, hg.blk H0.out.2.1, hg.blk H0.out.2.2.1, H0.out.2.2.2⟩
  have hcb := H1.out.1.blk HCB.out
  obtain ⟨c0, c1, c2, c3, cf⟩ := cuC hcb
  have d2 := (cellsOf H1.out.2.1).1
  obtain ⟨d4, f4⟩ := cellsOf H1.out.2.2.1
  clear hg hcb H0
  have hres : ∀ (w' : World) (y0 y1 y2 y3 y4 y5 : Value), w'.heap[b2 + 1]? = some boxZ → ∀ j, ((((((w'.setCell ⟨b2 + 1, 0, none⟩ y0).setCell ⟨b2 + 1, 1, none⟩ y1).setCell ⟨b2 + 1, 2, none⟩ y2).setCell ⟨b2 + 1, 3, none⟩ y3).setCell ⟨b2 + 1, 4, none⟩ y4).setCell ⟨b2 + 1, 5, none⟩ y5).cell? ⟨b2 + 1, j, none⟩ = #[y0, y1, y2, y3, y4, y5][j]? := fun w' y0 y1 y2 y3 y4 y5 h => (cellsOf (blk6 h)).1
  have HRES := Lib.hid hres
  clear hres
  by_cases h0 : X.slots = []
  · have hq0 := hq.2 h0
    have HR : Hid (peekV X c = .tuple #[enV zE, .bool false, .bool false, .int .i64 1]) := Lib.hid (by
      have h1 : peekC X c = 1 := if_pos h0
      rw [HV.out, show peekO X c = none by unfold peekO; rw [h1, if_neg (by decide)], h1])
    clear h0 hq
    subst hq0
    go_wp2_with fail
    refine bodyPost_ret (v := .tuple #[enV zE, .bool false, .bool false, .int .i64 1]) ?_ rfl ⟨by rw [HR.out], resGr H1.out.1 H1.out.2.2.2 _ _ _ _ _ _⟩
    have e4 := HRES.out w1 (.int .i64 0) (.string ⟨#[]⟩) (.bool false) (.int .i64 0) (.int .i64 0) (.int .i64 0) H1.out.2.2.1
    simp [results, Tryz.results48, go_sem, e4, enV, zE]
  · obtain ⟨q', rfl⟩ : ∃ q', q = some q' := by
      cases q with
      | none => exact absurd (hq.1 rfl) h0
      | some q' => exact ⟨q', rfl⟩
    have HNE := Lib.hid h0
    clear h0 hq
    obtain ⟨ch, cs, co⟩ := c
    simp only at c1 c2 c3
    cases ch with
    | false =>
      have HR : Hid (peekV X ⟨false, cs, co⟩ = .tuple #[enV zE, .bool false, .bool false, .int .i64 7]) := Lib.hid (by
        have h1 : peekC X ⟨false, cs, co⟩ = 7 := by unfold peekC; rw [if_neg HNE.out, if_pos rfl]
        rw [HV.out, show peekO X ⟨false, cs, co⟩ = none by unfold peekO; rw [h1, if_neg (by decide)], h1])
      go_wp2_with fail
      refine bodyPost_ret (v := .tuple #[enV zE, .bool false, .bool false, .int .i64 7]) ?_ rfl ⟨by rw [HR.out], resGr H1.out.1 H1.out.2.2.2 _ _ _ _ _ _⟩
      have e4 := HRES.out w1 (.int .i64 0) (.string ⟨#[]⟩) (.bool false) (.int .i64 0) (.int .i64 0) (.int .i64 0) H1.out.2.2.1
      simp [results, Tryz.results48, go_sem, e4, enV, zE]
    | true =>
      obtain ⟨n, hn⟩ : ∃ n, n = X.slots.length := ⟨_, rfl⟩
      have HN := Lib.hid hn
      have HSL : Hid (∀ w1, Gr w w1 → Calls Tryz.prog 105 #[.pointer p] w1 fun e w' => e = .returned (.int .i64 n) ∧ w1 = w') := Lib.hid (fun w1 g => by rw [hn]; exact Slots_any (H.out.gr g))
      clear hn
      by_cases hs : (n : Int) ≤ cs
      · have HR : Hid (peekV X ⟨true, cs, co⟩ = .tuple #[enV zE, .bool false, .bool false, .int .i64 3]) := Lib.hid (by
          have h1 : peekC X ⟨true, cs, co⟩ = 3 := by unfold peekC; rw [if_neg HNE.out, if_neg (by simp), if_pos (by rw [← HN.out]; exact hs)]
          rw [HV.out, show peekO X ⟨true, cs, co⟩ = none by unfold peekO; rw [h1, if_neg (by decide)], h1])
        go_wp2_with fail
        refine wp_region_flo (fun _ => False) [] [] (by kernel_rfl) (by kernel_rfl) (fun _ h => h.elim) ?_
        refine flo_seg 5 rfl ?_
        simp only [List.take_succ_cons, List.take_zero, List.drop_succ_cons, List.drop_zero]
        repeat (go_big_quiet_step (fail))
        refine wpQuiet_nil ?_
        refine flo_eff rfl rfl rfl rfl (fun K hK => ?_)
        go_wp2_with ((go_at_call 105; refine (HSL.out _ (H1.out.1.drew)).mono ?_; rintro r w2 ⟨rfl, rfl⟩))
        refine ⟨by exact (Gr.refl _).mdh _, ?_⟩
        refine flo_seg 2 rfl ?_
        simp only [List.take_succ_cons, List.take_zero, List.drop_succ_cons, List.drop_zero]
        repeat (go_big_quiet_step (fail))
        refine wpQuiet_nil ?_
        refine flo_nil ?_
        go_wp2_with fail
        refine bodyPost_ret (v := .tuple #[enV zE, .bool false, .bool false, .int .i64 3]) ?_ rfl ⟨by rw [HR.out], (resGr H1.out.1 H1.out.2.2.2 _ _ _ _ _ _).drew⟩
        have e4 := HRES.out w1 (.int .i64 0) (.string ⟨#[]⟩) (.bool false) (.int .i64 0) (.int .i64 0) (.int .i64 0) H1.out.2.2.1
        simp [results, Tryz.results48, go_sem, e4, enV, zE]
      · have HPC : Hid (peekC X ⟨true, cs, co⟩ = 0) := Lib.hid (by unfold peekC; rw [if_neg HNE.out, if_neg (by simp), if_neg (by rw [← HN.out]; exact hs)])
        go_wp2_with fail
        refine wp_region_flo (fun _ => False) [] [] (by kernel_rfl) (by kernel_rfl) (fun _ h => h.elim) ?_
        refine flo_seg 5 rfl ?_
        simp only [List.take_succ_cons, List.take_zero, List.drop_succ_cons, List.drop_zero]
        repeat (go_big_quiet_step (fail))
        refine wpQuiet_nil ?_
        refine flo_eff rfl rfl rfl rfl (fun K hK => ?_)
        go_wp2_with ((go_at_call 105; refine (HSL.out _ (H1.out.1.drew)).mono ?_; rintro r w2 ⟨rfl, rfl⟩))
        refine ⟨by exact (Gr.refl _).mdh _, ?_⟩
        refine flo_seg 2 rfl ?_
        simp only [List.take_succ_cons, List.take_zero, List.drop_succ_cons, List.drop_zero]
        repeat (go_big_quiet_step (fail))
        refine wpQuiet_nil ?_
        refine flo_nil ?_
        clear c0 c1 c2 c3 cf d2 d4 f4
        have hcb := H1.out.1.drew.blk HCB.out
        have H2 : Hid (Gr w w1.drew ∧ w1.drew.heap[b2]? = some (.cells #[.pointer (some ⟨b, 0, none⟩)] 78) ∧ w1.drew.heap[b2 + 1]? = some boxZ ∧ w.heap.size ≤ b2 + 1 ∧ w1.drew.heap[b]? = some (cuO ⟨true, cs, co⟩)) := Lib.hid ⟨H1.out.1.drew, H1.out.2.1, H1.out.2.2.1, H1.out.2.2.2, hcb⟩
        clear hcb H1
        generalize w1.drew = w2 at *
        obtain ⟨c0, c1, c2, c3, cf⟩ := cuC H2.out.2.2.2.2
        have d2 := (cellsOf H2.out.2.1).1
        simp only at c1 c2 c3
        go_wp2_with fail
        clear hs
        refine (first_any (H.out.gr H2.out.1) cs (cuPP H2.out.2.1 H2.out.2.2.2.2)).mono ?_
        rintro r w3 ⟨rfl, hg⟩
        have H3 : Hid (Gr w w3 ∧ w3.heap[b2 + 1]? = some boxZ ∧ w.heap.size ≤ b2 + 1) := Lib.hid ⟨H2.out.1.trans hg, hg.blk H2.out.2.2.1, H2.out.2.2.2.1⟩
        obtain ⟨d4, f4⟩ := cellsOf H3.out.2.1
        have l4 := blkLt H3.out.2.1
        have HPO : Hid (peekO X ⟨true, cs, co⟩ = (X.slot cs).find? (atCu ⟨true, cs, co⟩)) := Lib.hid (by unfold peekO; rw [if_pos HPC.out]; rfl)
        clear hg c0 c1 c2 c3 cf d2
        cases hf : (X.slot cs).find? (atCu ⟨true, cs, co⟩) with
        | none =>
          have HR : Hid (peekV X ⟨true, cs, co⟩ = .tuple #[enV zE, .bool false, .bool false, .int .i64 0]) := Lib.hid (by rw [HV.out, HPO.out, hf, HPC.out])
          clear hf
          simp only [firstV, Option.getD_none, Option.isSome_none, enV, zE]
          go_wp2_with fail
          refine bodyPost_ret (v := .tuple #[enV zE, .bool false, .bool false, .int .i64 0]) ?_ rfl ⟨by rw [HR.out], (resGr H3.out.1 H3.out.2.2 _ _ _ _ _ _).alloc _⟩
          have e4 := (cellsOf (blkOld (o' := boxZ) (blk6 (y0 := .int .i64 0) (y1 := .string ⟨#[]⟩) (y2 := .bool false) (y3 := .int .i64 0) (y4 := .int .i64 0) (y5 := .int .i64 0) H3.out.2.1))).1
          simp [results, Tryz.results48, go_sem, e4, enV, zE]
        | some x =>
          have HR : Hid (peekV X ⟨true, cs, co⟩ = .tuple #[enV x, .bool (X.needs x), .bool true, .int .i64 0]) := Lib.hid (by rw [HV.out, HPO.out, hf])
          have HND := Lib.hid (needed_in HOK.out HNE.out (List.mem_of_find?_eq_some hf))
          clear hf
          simp only [firstV, Option.getD_some, Option.isSome_some, enV]
          go_wp2_with fail
          have HB8 : Hid ((w3.alloc (boxE x)).heap[w3.heap.size]? = some (boxE x)) := Lib.hid (blkNew w3 _)
          refine (Needed_any (H.out.gr (H3.out.1.alloc _)) x).mono ?_
          rintro r w4 ⟨rfl, hg⟩
          rw [HND.out]
          have H4 : Hid (Gr w w4 ∧ w4.heap[b2 + 1]? = some boxZ ∧ w.heap.size ≤ b2 + 1) := Lib.hid ⟨(H3.out.1.alloc _).trans hg, hg.blk (((Gr.refl w3).alloc _).blk H3.out.2.1), H3.out.2.2⟩
          have d8 := (cellsOf (hg.blk HB8.out)).1
          clear hg d4 f4
          obtain ⟨d4, f4⟩ := cellsOf H4.out.2.1
          go_wp2_with fail
          refine bodyPost_ret (v := .tuple #[enV x, .bool (X.needs x), .bool true, .int .i64 0]) ?_ rfl ⟨by rw [HR.out], resGr H4.out.1 H4.out.2.2 _ _ _ _ _ _⟩
          have e4 := HRES.out w4 (.int .i64 x.seq) (.string x.key) (.bool x.del) (.int .i64 x.slot) (.int .i64 x.off) (.int .i64 x.size) H4.out.2.1
          simp [results, Tryz.results48, go_sem, e4, enV]
set_option maxRecDepth 40000 in
set_option maxHeartbeats 2000000 in
theorem cuPeekN {w : World} {p q : Option Addr} (h : CUN w p) : Calls Tryz.prog 48 #[.pointer p, .pointer q] w fun e w' => e = .returned (.tuple #[enV zE, .bool false, .bool false, .int .i64 1]) ∧ Gr w w' := by
  have H := Lib.hid h
  clear h
  go_enter Tryz.func48, Tryz.ntmps48
  go_wp2_with fail
  obtain ⟨b2, hb2⟩ : ∃ q, q = w.heap.size := ⟨_, rfl⟩
  obtain ⟨w0, hw0⟩ : ∃ y, y = (w.alloc (.cells #[.pointer p] 78)).alloc boxZ := ⟨_, rfl⟩
  have H0 : Hid (Gr w w0 ∧ w0.heap[b2]? = some (.cells #[.pointer p] 78) ∧ w0.heap[b2 + 1]? = some boxZ ∧ w.heap.size ≤ b2 + 1) := Lib.hid (by
    have h2 := blkNew (w.alloc (.cells #[.pointer p] 78)) boxZ
    rw [World.size_alloc, ← hb2] at h2
    rw [hw0]
    exact ⟨((Gr.refl w).alloc _).alloc _, by rw [hb2]; exact blkOld (blkNew w _), h2, by omega⟩)
  rw [← show w0 = (w.alloc (.cells #[.pointer p] 78)).alloc (.cells #[.int .i64 0, .string ⟨#[]⟩, .bool false, .int .i64 0, .int .i64 0, .int .i64 0] 56) from hw0, ← hb2]
  clear hw0 hb2
  refine (cuValidN (H.out.gr H0.out.1)).mono ?_
  rintro e w1 ⟨rfl, rfl⟩
  obtain ⟨d4, f4⟩ := cellsOf H0.out.2.2.1
  go_wp2_with fail
  refine bodyPost_ret (v := .tuple #[enV zE, .bool false, .bool false, .int .i64 1]) ?_ rfl ⟨rfl, resGr H0.out.1 H0.out.2.2.2 _ _ _ _ _ _⟩
  have e4 := (cellsOf (blk6 (y0 := .int .i64 0) (y1 := .string ⟨#[]⟩) (y2 := .bool false) (y3 := .int .i64 0) (y4 := .int .i64 0) (y5 := .int .i64 0) H0.out.2.2.1)).1
  simp [results, Tryz.results48, go_sem, e4, enV, zE]
def advC (X : IX) (c : Cu) : Int := if peekC X c ≠ 0 then peekC X c else match peekE X c with | none => 5 | some _ => 0
def advX (X : IX) (c : Cu) : Cu := match peekO X c with | none => c | some e => ⟨c.has, c.slot, e.off + e.size⟩
end Go.Proofs.YtmdfickejpeofaaGreat

/- liveness: Size, Redundant; the reference's Same. -/
set_option linter.unusedVariables false
set_option linter.unusedSimpArgs false
namespace Go.Proofs.YtmdfickejpeofaaGreat
open Go.RowKit Go.Shelf
attribute [local go_sem] OvM cell_ovm obj_ovm
attribute [local go_sem] Oper.semAt_some

def sumZ (l : List En) : Int := l.foldl (fun a e => a + e.size) 0
theorem sumZ_snoc (l : List En) (e : En) : sumZ (l ++ [e]) = sumZ l + e.size := by simp [sumZ]
theorem sumZ_le' : ∀ (l : List En) (a : Int), (∀ e ∈ l, 0 ≤ e.size ∧ e.size ≤ 8192) → a ≤ l.foldl (fun a e => a + e.size) a ∧ l.foldl (fun a e => a + e.size) a ≤ a + 8192 * l.length
  | [], a, _ => by simp
  | e :: l, a, h => by
    have h1 := h e (by simp)
    have h2 := sumZ_le' l (a + e.size) (fun x hx => h x (List.mem_cons_of_mem _ hx))
    simp only [List.foldl_cons, List.length_cons, Int.natCast_add] at *
    omega
theorem sumZ_le (l : List En) (h : ∀ e ∈ l, 0 ≤ e.size ∧ e.size ≤ 8192) : 0 ≤ sumZ l ∧ sumZ l ≤ 8192 * l.length := by
  have := sumZ_le' l 0 h
  simpa [sumZ] using this
theorem keepL_ok {X : IX} (h : X.Wf) (s : Int) : (keepL X s).length ≤ 512 ∧ ∀ e ∈ keepL X s, 0 ≤ e.size ∧ e.size ≤ 8192 := by
  refine ⟨Nat.le_trans (List.length_filter_le _ _) (h.slot_le s), fun e he => ?_⟩
  have := (valid_iff e).1 ((h.slotOk s).e e (List.mem_filter.1 he).1).2
  omega
theorem take_sub {l : List En} {k : Nat} {P : En → Prop} (h : ∀ e ∈ l, P e) : ∀ e ∈ l.take k, P e := fun e he => h e (List.mem_of_mem_take he)
set_option maxRecDepth 40000 in
set_option maxHeartbeats 4000000 in
theorem Size_any {w : World} {p : Option Addr} {X : IX} {S : Nat → Prop} (h : IXP w p X S) (s : Int) : Calls Tryz.prog 115 #[.pointer p, .int .i64 s] w fun e w' => e = .returned (.tuple #[.int .i64 (sumZ (keepL X s)), .int .i64 (keepC X s)]) ∧ Gr w w' := by
  have H := Lib.hid h
  obtain ⟨hk1, hk2⟩ := keepL_ok h.ok s
  have HK := Lib.hid (Keep_any h s)
  obtain ⟨L, hL⟩ : ∃ L, L = keepL X s := ⟨_, rfl⟩
  have HL := Lib.hid hL
  obtain ⟨c, hc⟩ : ∃ c, c = keepC X s := ⟨_, rfl⟩
  have HC := Lib.hid hc
  rw [← hc]
  rw [← hL]
  rw [← hL] at hk1 hk2
  have HK2 := Lib.hid hk2
  clear h hk2 hL hc
  go_enter Tryz.func115, Tryz.ntmps115
  go_wp2_with fail
  refine Calls.mono HK.out ?_
  rintro e w1 ⟨v, rfl, hr, hg⟩
  rw [← HL.out] at hr
  rw [← HC.out]
  obtain ⟨a, cap, rfl, _, hcm, hat⟩ := ownE_at hr.own
  have HAT := Lib.hid hat
  have HG := Lib.hid hg
  unfold maxLen at hcm
  clear hr hat hg
  go_wp2_with fail
  go_loopw [8, 19] (fun t8 t19 wx => ∃ k : Nat, k ≤ L.length ∧ t19 = .int .i64 k ∧ t8 = .int .i64 (sumZ (L.take k)) ∧ Hid (Gr w1 wx)) (fun _ t19 _ => L.length - (intOf t19).toNat)
  case atStart => exact ⟨0, by omega, rfl, rfl, Lib.hid (Gr.refl _)⟩
  case round =>
    obtain ⟨k, hk, rfl, rfl, HR⟩ := hrel
    by_cases hlt : k < L.length
    · have hlt' : (k : Int) < L.length := by omega
      have hx : L[k]? = some (L[k]'hlt) := List.getElem?_eq_getElem hlt
      obtain ⟨g, rfl, z1, z2, hc⟩ := HAT.out k _ hx
      clear z1 z2
      have hv := HK2.out _ (List.mem_of_getElem? hx)
      have hs := sumZ_le (L.take k) (take_sub HK2.out)
      rw [List.length_take] at hs
      have HSN : Hid (sumZ (L.take (k + 1)) = sumZ (L.take k) + (L[k]'hlt).size) := Lib.hid (by rw [List.take_add_one, hx]; exact sumZ_snoc _ _)
      generalize L[k]'hlt = x at *
      generalize sumZ (L.take k) = m at *
      have hr : ∀ i u, (enC x)[i]? = some u → wr.cell? ⟨g, k * 6 + i, none⟩ = some u := fun i u hu => HR.out.keep (hc i u hu)
      have d0 := hr 0 _ rfl
      have d1 := hr 1 _ rfl
      have d2 := hr 2 _ rfl
      have d3 := hr 3 _ rfl
      have d4 := hr 4 _ rfl
      have d5 := hr 5 _ rfl
      simp only [Nat.add_zero] at d0 d1 d2 d3 d4 d5
      obtain ⟨hv1, hv2⟩ := hv
      obtain ⟨hs1, hs2⟩ := hs
      have hs3 : m ≤ 8192 * 512 := by omega
      clear hr hc hx hs2
      go_wp2
      go_roundw
      case rel => exact ⟨k + 1, by omega, by go_num, by rw [HSN.out] <;> go_num, Lib.hid (HR.out.alloc _)⟩
      case measure => simp [intOf]; omega
    · have hlt' : ¬ (k : Int) < L.length := by omega
      have hkl : k = L.length := by omega
      have HS : Hid (sumZ (L.take k) = sumZ L) := Lib.hid (by rw [List.take_of_length_le (by omega)])
      clear hkl
      go_wp2
      go_ret2
      exact ⟨by rw [HS.out] <;> rfl, HG.out.trans HR.out⟩
set_option maxRecDepth 40000 in
set_option maxHeartbeats 2000000 in
theorem SameE (l1 l2 : List En) (v1 v2 : Value) (w : World) (h1 : Own w 56 6 v1 l1.length (rowE l1)) (h2 : Own w 56 6 v2 l2.length (rowE l2)) (hn : l1.length ≤ 1000000) :
    Calls Tryz.prog 24 #[v1, v2] w fun e w' => e = .returned (.bool (decide (l1 = l2))) ∧ Gr w w' := by
  obtain ⟨a1, cap1, rfl, hc1, hm1, hat1⟩ := ownE_at h1
  obtain ⟨a2, cap2, rfl, hc2, hm2, hat2⟩ := ownE_at h2
  have HA1 := Lib.hid hat1
  have HA2 := Lib.hid hat2
  clear h1 h2 hat1 hat2
  unfold maxLen at hm1 hm2
  by_cases hl : l1.length = l2.length
  · go_enter Tryz.func24, Tryz.ntmps24
    rw [← hl]
    rw [← hl] at hc2
    have HL := Lib.hid hl
    clear hl
    go_wp2_with fail
    go_loopw [5] (fun i wx => ∃ k : Nat, k ≤ l1.length ∧ i = .int .i64 k ∧ Hid (Gr w wx) ∧ Hid (l1.take k = l2.take k)) (fun i _ => l1.length - (intOf i).toNat)
    case atStart => exact ⟨0, by omega, rfl, Lib.hid (by (repeat (first | (with_reducible exact Gr.refl _) | assumption | (with_reducible apply Gr.from_drew) | (with_reducible apply Gr.alloc) | (with_reducible apply Gr.drew) | (with_reducible refine Gr.trans ?_ (by assumption)) | (with_reducible refine Gr.setCell ?_ (by omega) _)))), Lib.hid (by simp)⟩
    case round =>
      obtain ⟨k, hk, rfl, HG, HT⟩ := hrel
      by_cases hlt : k < l1.length
      · have hlt' : (k : Int) < l1.length := by omega
        have hx : l1[k]? = some (l1[k]'hlt) := List.getElem?_eq_getElem hlt
        have hy : l2[k]? = some (l2[k]'(by rw [← HL.out]; exact hlt)) := List.getElem?_eq_getElem _
        obtain ⟨g, rfl, z1, z2, c0⟩ := HA1.out k _ hx
        obtain ⟨g', rfl, z3, z4, c1⟩ := HA2.out k _ hy
        clear z1 z2 z3 z4
        have HX := Lib.hid hx
        have HY := Lib.hid hy
        generalize l1[k]'hlt = x at *
        generalize l2[k]'(by rw [← HL.out]; exact hlt) = y at *
        have hr : ∀ i u, (enC x)[i]? = some u → wr.cell? ⟨g, k * 6 + i, none⟩ = some u := fun i u hu => HG.out.keep (c0 i u hu)
        have hs : ∀ i u, (enC y)[i]? = some u → wr.cell? ⟨g', k * 6 + i, none⟩ = some u := fun i u hu => HG.out.keep (c1 i u hu)
        have d0 := hr 0 _ rfl
        have d1 := hr 1 _ rfl
        have d2 := hr 2 _ rfl
        have d3 := hr 3 _ rfl
        have d4 := hr 4 _ rfl
        have d5 := hr 5 _ rfl
        have e0 := hs 0 _ rfl
        have e1 := hs 1 _ rfl
        have e2 := hs 2 _ rfl
        have e3 := hs 3 _ rfl
        have e4 := hs 4 _ rfl
        have e5 := hs 5 _ rfl
        simp only [Nat.add_zero] at d0 d1 d2 d3 d4 d5 e0 e1 e2 e3 e4 e5
        have k1 := fun w => neqE_run x y w
        clear hr hs
        clear c0 c1 hx hy
        by_cases hxy : x = y
        · have hd : decide (x = y) = true := decide_eq_true hxy
          have HXY := Lib.hid hxy
          clear hxy
          go_wp2
          refine wp_region_flo (fun _ => False) [] [] (by kernel_rfl) (by kernel_rfl) (fun _ h => h.elim) ?_
          refine flo_seg 9 rfl ?_
          simp only [List.take_succ_cons, List.take_zero, List.drop_succ_cons, List.drop_zero]
          repeat (go_big_quiet_step (fail))
          refine wpQuiet_nil ?_
          refine flo_nil ?_
          go_wp2
          go_roundw
          case rel => exact ⟨k + 1, by omega, by go_num, Lib.hid (HG.out.trans (by (repeat (first | (with_reducible exact Gr.refl _) | assumption | (with_reducible apply Gr.from_drew) | (with_reducible apply Gr.alloc) | (with_reducible apply Gr.drew) | (with_reducible refine Gr.trans ?_ (by assumption)) | (with_reducible refine Gr.setCell ?_ (by omega) _))))), Lib.hid (by rw [List.take_add_one, List.take_add_one, HT.out, HX.out, HY.out, HXY.out])⟩
          case measure => simp [intOf]; omega
        · have hd : decide (x = y) = false := decide_eq_false hxy
          have HXY := Lib.hid hxy
          clear hxy
          have HNE : Hid (decide (l1 = l2) = false) := Lib.hid (by
            apply decide_eq_false
            rintro rfl
            rw [HX.out] at HY
            exact HXY.out (Option.some.inj HY.out))
          go_wp2
          refine wp_region_flo (fun _ => False) [] [] (by kernel_rfl) (by kernel_rfl) (fun _ h => h.elim) ?_
          refine flo_seg 9 rfl ?_
          simp only [List.take_succ_cons, List.take_zero, List.drop_succ_cons, List.drop_zero]
          repeat (go_big_quiet_step (fail))
          refine wpQuiet_nil ?_
          refine flo_nil ?_
          go_wp2
          go_ret
          exact ⟨ret_bool HNE.out.symm, HG.out.trans (by (repeat (first | (with_reducible exact Gr.refl _) | assumption | (with_reducible apply Gr.from_drew) | (with_reducible apply Gr.alloc) | (with_reducible apply Gr.drew) | (with_reducible refine Gr.trans ?_ (by assumption)) | (with_reducible refine Gr.setCell ?_ (by omega) _))))⟩
      · have hlt' : ¬ (k : Int) < l1.length := by omega
        have hkl : k = l1.length := by omega
        have HEQ : Hid (decide (l1 = l2) = true) := Lib.hid (by
          apply decide_eq_true
          have := HT.out
          rwa [List.take_of_length_le (by omega), List.take_of_length_le (by have := HL.out; omega)] at this)
        clear hkl
        go_wp2
        go_ret
        exact ⟨ret_bool HEQ.out.symm, HG.out⟩
  · have hb := beq_len _ _ hl
    have HNE : Hid (decide (l1 = l2) = false) := Lib.hid (decide_eq_false (fun e => hl (by rw [e])))
    clear hl
    go_enter Tryz.func24, Tryz.ntmps24
    go_wp2
    go_ret
    exact ⟨ret_bool HNE.out.symm, Gr.refl _⟩
end Go.Proofs.YtmdfickejpeofaaGreat

/- drumlinlaw24: put, del, kept. -/
set_option linter.unusedVariables false
set_option linter.unusedSimpArgs false
namespace Go.Proofs.YtmdfickejpeofaaGreat
open Go.RowKit Go.Shelf
attribute [local go_sem] OvM cell_ovm obj_ovm
attribute [local go_sem] Oper.semAt_some

def keptB (X : IX) (s : Int) (L : List En) : Bool := decide (keepC X s = 0 ∧ keepL X s = L)
end Go.Proofs.YtmdfickejpeofaaGreat

/- Functions that hold many ranges over functions, one after the other: the marks that they leave. No program in sight. -/
set_option linter.unusedVariables false
set_option linter.unusedSimpArgs false
namespace Go.Proofs.YtmdfickejpeofaaGreat
open Go.RowKit
variable {P : Program}

def cdf (D : Nat) : Deferred := { target := .collected D, args := #[] }
/-- The marks as a thing. -/
def dsA (Ds : List Nat) : Asn := ⟨fun k => k ∈ Ds, fun w => ∀ D ∈ Ds, w.heap[D]? = some (.deferred (some [])), fun h m hs D hD => m.blk (h D hD) (hs D hD), fun h k hk => blkLt (h k hk)⟩
def clD (Ds : List Nat) (w : World) : World := Ds.foldl (fun w D => w.putObj D (.deferred none)) w
theorem clD_mdh : ∀ (Ds : List Nat) (w : World), Mdh (fun k => k ∈ Ds) w (clD Ds w)
  | [], w => Mdh.refl _ _
  | D :: Ds, w => (((Mdh.refl (fun k => k = D) w).putObj rfl _).mono (fun k hk => by rw [hk]; exact List.mem_cons_self ..)).trans ((clD_mdh Ds (w.putObj D (.deferred none))).mono (fun k hk => List.mem_cons_of_mem _ hk))
theorem clD_gr {w0 w : World} {Ds : List Nat} (h : Gr w0 w) (hn : ∀ D ∈ Ds, w0.heap.size ≤ D) : Gr w0 (clD Ds w) := h.md (clD_mdh Ds w) hn
theorem leavesMn {fn : Func} {tmps : Array Value} {R : Ending → World → Prop} {v : Value} : ∀ (Ds : List Nat) (w : World), (∀ D ∈ Ds, w.heap[D]? = some (.deferred (some []))) → Ds.Nodup → (results fn tmps).run P (clD Ds w) = .ok v (clD Ds w) → R (.returned v) (clD Ds w) →
    LeavesInM Fence.wide 3 P fn tmps R (Ds.map cdf) .returning w
  | [], w, _, _, hr, hR => ⟨v, hr, hR⟩
  | D :: Ds, w, h, hn, hr, hR => by
    have hn' := List.nodup_cons.1 hn
    refine ⟨by simp, .inl ⟨D, _, rfl, run_takeDeferred (h D (List.mem_cons_self ..)), leavesMn Ds _ (fun E hE => ?_) hn'.2 hr hR⟩⟩
    have hne : E ≠ D := fun e => hn'.1 (e ▸ hE)
    exact (World.putObj_heap_other hne).trans (h E (List.mem_cons_of_mem _ hE))
theorem retMn {fn : Func} {R : Ending → World → Prop} {a : Act} {w : World} {v : Value} (Ds : List Nat) (hd : a.defers = Ds.map cdf) (hk : ∀ D ∈ Ds, w.heap[D]? = some (.deferred (some []))) (hn : Ds.Nodup)
    (hr : (results fn a.tmps).run P (clD Ds w) = .ok v (clD Ds w)) (hR : R (.returned v) (clD Ds w)) : bodyPostM Fence.wide 3 P fn R .ret a w := by
  show LeavesInM _ _ _ _ _ _ _ _ _
  rw [hd]
  exact leavesMn Ds w hk hn hr hR
theorem SWz.close {w0 wl W : World} {A Z : Nat → Prop} {R : List Asn} {Ds : List Nat} {D : Nat} (h : SWz w0 wl A (dsA Ds :: R) Z W) (hz : Z D) (hw : w0.heap.size ≤ wl.heap.size) (hdef : W.heap[D]? = some (.deferred (some []))) : SW w0 (dsA (D :: Ds) :: R) W ∧ D ∉ Ds := by
  have hd := h.s.s.dis
  refine ⟨⟨h.s.g, ⟨fun B hB => ?_, List.pairwise_cons.2 ⟨fun B hB k hk hb => ?_, (List.pairwise_cons.1 h.s.s.2).2⟩⟩, fun B hB k hk => ?_⟩, fun hm => h.z _ (List.mem_cons_self ..) D hm hz⟩
  · rcases List.mem_cons.1 hB with rfl | hB
    · intro E hE
      rcases List.mem_cons.1 hE with rfl | hE
      · exact hdef
      · exact (show ∀ D ∈ Ds, W.heap[D]? = some (.deferred (some [])) from h.s.s.head) E hE
    · exact h.s.s.1 B (List.mem_cons_of_mem _ hB)
  · rcases List.mem_cons.1 hk with rfl | hk
    · exact h.z B (List.mem_cons_of_mem _ hB) _ hb hz
    · exact hd B hB k hk hb
  · rcases List.mem_cons.1 hB with rfl | hB
    · rcases List.mem_cons.1 hk with rfl | hk
      · exact Nat.le_trans hw (h.zn _ hz)
      · exact h.s.n _ (List.mem_cons_self ..) k hk
    · exact h.s.n B (List.mem_cons_of_mem _ hB) k hk
theorem SW.noDs {w0 w : World} {R : List Asn} (h : SW w0 R w) : SW w0 (dsA [] :: R) w := h.new (Gr.refl _) (A := dsA []) (fun D hD => by cases hD) (fun k hk => by cases hk)
end Go.Proofs.YtmdfickejpeofaaGreat

/- liveness.Retired. -/
set_option linter.unusedVariables false
set_option linter.unusedSimpArgs false
namespace Go.Proofs.YtmdfickejpeofaaGreat
open Go.RowKit Go.Shelf
attribute [local go_sem] OvM cell_ovm obj_ovm
attribute [local go_sem] Oper.semAt_some

def retP (X : IX) (e : En) : Bool := e.del && !X.needs e
def retL (X : IX) (n : Nat) : List En := (List.range n).flatMap fun s => (X.slot (s : Nat)).filter (retP X)
theorem retL_succ (X : IX) (n : Nat) : retL X (n + 1) = retL X n ++ (X.slot (n : Nat)).filter (retP X) := by simp [retL, List.range_succ]
theorem retL_le {X : IX} (h : X.Wf) : ∀ n, (retL X n).length ≤ 512 * n
  | 0 => by simp [retL]
  | n + 1 => by
    rw [retL_succ, List.length_append]
    have h1 := retL_le h n
    have h2 := h.slot_le (n : Nat)
    have h3 := List.length_filter_le (retP X) (X.slot (n : Nat))
    omega
abbrev lvR (bo b1 : Nat) (p : Option Addr) (v : Value) (L : List En) : List Asn := [blkA bo (.cells #[v] 37), rowA 56 6 v L.length (rowE L), blkA b1 (.cells #[.pointer p] 35)]
def RetPost (X : IX) (w : World) (e : Ending) (w' : World) : Prop := ∃ v, e = .returned (.tuple #[v, .int .i64 (if X.slots = [] then 1 else 0)]) ∧ Nw w w' 56 6 v (retL X X.slots.length).length (rowE (retL X X.slots.length)) ∧ Gr w w'
end Go.Proofs.YtmdfickejpeofaaGreat
