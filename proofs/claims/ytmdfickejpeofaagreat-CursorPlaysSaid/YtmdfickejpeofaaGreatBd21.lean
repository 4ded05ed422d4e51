/- Rows of chapter 28: steps (Do, Slot, an entry). -/
import Derived.Test.YtmdfickejpeofaaGreatBd20
import Derived.Test.YtmdfickejpeofaaGreatBd14
import Derived.Deep.CutBlock
import Derived.Deep.DeepCutAuto
set_option linter.unusedVariables false
set_option linter.unusedSimpArgs false
namespace Go.Proofs.YtmdfickejpeofaaGreat
open Go.ChangeShapes Go.WideShapes Go.Deep Go.RowKit
structure Sp where
  n : Int
  s : Int
  e : En
def Sp.cells (x : Sp) : List Value := .int .i64 x.n :: .int .i64 x.s :: enC x.e
/-- The steps of a list lie at a. -/
def SpAt (w : World) (a : Option Addr) (l : List Sp) : Prop :=
  ∀ i x, l[i]? = some x → ∃ b off, a = some ⟨b, off, none⟩ ∧ b < w.heap.size ∧ (∀ j u, x.cells[j]? = some u → w.cell? ⟨b, off + i * 8 + j, none⟩ = some u) ∧ -9223372036854775808 ≤ x.e.size ∧ x.e.size ≤ 9223372036854775807
theorem sp_of {H : Type} {enc : TypeId × Value → H} {w : World} {base : Nat} {spare : Nat → Bool} {held : Bool} {n : Nat} {cs : List Value} {y : DataW H × List MemPlace} (hl : cs.length = 8) (h : DataW.trod enc Tryz.prog w base spare held n 83 cs = some y) : ∃ x : Sp, cs = x.cells ∧ -9223372036854775808 ≤ x.e.size ∧ x.e.size ≤ 9223372036854775807 := by
  obtain ⟨c0, c1, cr, rfl, hr⟩ : ∃ c0 c1 cr, cs = c0 :: c1 :: cr ∧ cr.length = 6 := by
    match cs, hl with
    | c0 :: c1 :: cr, h => exact ⟨c0, c1, cr, rfl, by simpa using h⟩
  obtain ⟨ys, m, _, _, _, hyl, hf⟩ := DataW.trod_struct Tryz.underlying83 h
  obtain ⟨y0, y1, y2, rfl⟩ : ∃ y0 y1 y2, ys = [y0, y1, y2] := by
    match ys, hyl with
    | [y0, y1, y2], _ => exact ⟨y0, y1, y2, rfl⟩
  have h0 : DataW.trod enc Tryz.prog w base spare held m 3 (((c0 :: c1 :: cr).drop 0).take (Tryz.prog.cellsOf 3)) = some y0 := hf 0 _ rfl
  rw [show Tryz.prog.cellsOf 3 = 1 by kernel_rfl] at h0
  have h1 : DataW.trod enc Tryz.prog w base spare held m 3 (((c0 :: c1 :: cr).drop 1).take (Tryz.prog.cellsOf 3)) = some y1 := hf 1 _ rfl
  rw [show Tryz.prog.cellsOf 3 = 1 by kernel_rfl] at h1
  have h2 : DataW.trod enc Tryz.prog w base spare held m 56 (((c0 :: c1 :: cr).drop 2).take (Tryz.prog.cellsOf 56)) = some y2 := hf 2 _ rfl
  rw [show Tryz.prog.cellsOf 56 = 6 by kernel_rfl] at h2
  obtain ⟨a0, rfl, _, _⟩ := one_int Tryz.underlying3 (show DataW.trod enc Tryz.prog w base spare held m 3 [c0] = some y0 from h0)
  obtain ⟨a1, rfl, _, _⟩ := one_int Tryz.underlying3 (show DataW.trod enc Tryz.prog w base spare held m 3 [c1] = some y1 from h1)
  have hcr : cr.take 6 = cr := List.take_of_length_le (by omega)
  obtain ⟨e, rfl, b1, b2⟩ := en_of hr (show DataW.trod enc Tryz.prog w base spare held m 56 cr = some y2 from by
    have h3 : DataW.trod enc Tryz.prog w base spare held m 56 (cr.take 6) = some y2 := h2
    rwa [hcr] at h3)
  exact ⟨⟨a0, a1, e⟩, rfl, b1, b2⟩
theorem open_steps28 {H : Type} {enc : TypeId × Value → H} {w : World} {base : Nat} {spare : Nat → Bool} {held : Bool} {fuel : Nat} {a : Option Addr} {len cap : Nat} {x : DataW H × List MemPlace}
    (h : DataW.trod enc Tryz.prog w base spare held fuel 73 (Value.slice a len cap).cells.toList = some x) : len ≤ cap ∧ cap ≤ maxLen ∧ ∃ l : List Sp, l.length = len ∧ SpAt w a l := by
  rcases open_slice Tryz.underlying73 h with ⟨hcs, _⟩ | ⟨a', l, c, m, n, D, Pl, hcs, _, hl, hm, hmm, _, hi⟩
  · simp [Value.cells] at hcs
    obtain ⟨rfl, rfl, rfl⟩ := hcs
    exact ⟨by omega, by simp [maxLen], [], rfl, fun i x hx => by simp at hx⟩
  · simp [Value.cells] at hcs
    obtain ⟨rfl, rfl, rfl⟩ := hcs
    rw [show Tryz.prog.cellsOf 83 = 8 by kernel_rfl] at hi
    refine ⟨hl, hm, ?_⟩
    by_cases h0 : 0 < len
    · have hml : len ≤ m := by rw [hmm]; split <;> omega
      have hE : ∀ i, i < len → ∃ x : Sp, (∀ j, j < 8 → w.cell? ((a'.add (i * 8)).add j) = x.cells[j]?) ∧ -9223372036854775808 ≤ x.e.size ∧ x.e.size ≤ 9223372036854775807 := fun i hil => by
        obtain ⟨cs', hc, ht⟩ := hi i (by omega)
        obtain ⟨_, hcl, hat⟩ := World.cells?_some hc
        obtain ⟨x, rfl, hb⟩ := sp_of hcl ht
        exact ⟨x, hat, hb⟩
      have hsp : a'.spot = none := by
        obtain ⟨x, hat, _⟩ := hE 0 h0
        have hc := hat 0 (by omega)
        rw [Go.Deep.add_add] at hc
        exact spot_add (by rw [hc]; rfl)
      obtain ⟨l, hl1, hl2⟩ := list_of len (⟨0, 0, ⟨0, ⟨#[]⟩, false, 0, 0, 0⟩⟩ : Sp) (fun i t => (∀ j u, t.cells[j]? = some u → w.cell? ⟨a'.block, a'.off + i * 8 + j, none⟩ = some u) ∧ a'.block < w.heap.size ∧ -9223372036854775808 ≤ t.e.size ∧ t.e.size ≤ 9223372036854775807) (fun i hil => by
        obtain ⟨x, hat, hb⟩ := hE i hil
        have h0 : w.cell? (a'.add (i * 8 + 0)) = some (.int .i64 x.n) := by
          have := hat 0 (by omega)
          rw [Go.Deep.add_add] at this
          exact this
        refine ⟨x, fun j u hu => ?_, (at_add h0 hsp).1, hb⟩
        have hj : j < 8 := by
          have := (List.getElem?_eq_some_iff.1 hu).1
          simpa [Sp.cells, enC] using this
        have h1 := (hat j hj).trans hu
        rw [Go.Deep.add_add] at h1
        have h2 := (at_add h1 hsp).2
        rw [← Nat.add_assoc] at h2
        exact h2)
      refine ⟨l, hl1, fun i x hx => ?_⟩
      obtain ⟨hlt, rfl⟩ := List.getElem?_eq_some_iff.1 hx
      obtain ⟨c0, hb, h4⟩ := hl2 i (by omega)
      rw [hx] at c0 h4
      exact ⟨_, _, by obtain ⟨b, o, s⟩ := a'; simp_all, hb, c0, h4⟩
    · obtain rfl : len = 0 := by omega
      exact ⟨[], rfl, fun i x hx => by simp at hx⟩
end Go.Proofs.YtmdfickejpeofaaGreat

/- CursorPlays: a cursor, step by step. Printed by cpy.py. -/
set_option linter.unusedVariables false
set_option linter.unusedSimpArgs false
namespace Go.Proofs.YtmdfickejpeofaaGreat
open Go.RowKit Go.Shelf
attribute [local go_sem] OvM cell_ovm obj_ovm
attribute [local go_sem] Oper.semAt_some

theorem peekV_at (X : IX) (c : Cu) : ∃ (x : En) (a b : Bool) (n : Int), peekV X c = .tuple #[.agg #[.int .i64 x.seq, .string x.key, .bool x.del, .int .i64 x.slot, .int .i64 x.off, .int .i64 x.size], .bool a, .bool b, .int .i64 n] := by
  unfold peekV
  cases peekO X c with
  | none => exact ⟨zE, _, _, _, rfl⟩
  | some e => exact ⟨e, _, _, _, rfl⟩
theorem SpAt.at {w W : World} {a : Option Addr} {L : List Sp} {i : Nat} {x : Sp} (h : SpAt w a L) (hx : L[i]? = some x) (g : Gr w W) : ∃ b off, a = some ⟨b, off, none⟩ ∧ b < w.heap.size ∧ (∀ j u, x.cells[j]? = some u → W.cell? ⟨b, off + i * 8 + j, none⟩ = some u) ∧ -9223372036854775808 ≤ x.e.size ∧ x.e.size ≤ 9223372036854775807 := by
  obtain ⟨b, off, e, hb, c0, c6⟩ := h i x hx
  exact ⟨b, off, e, hb, fun j u hu => g.keep (c0 j u hu), c6⟩
set_option maxRecDepth 40000 in
set_option maxHeartbeats 16000000 in
theorem CursorPlays_any (slots : Int) (a : Option Addr) (len cap : Nat) (L : List Sp) (w : World) (hl : L.length = len) (hle : len ≤ cap) (hcap : cap ≤ maxLen) (hs : SpAt w a L) :
    Calls Tryz.prog 5 #[.int .i64 slots, .slice a len cap] w fun r w' => r = .returned (.bool true) ∧ Gr w w' := by
  have HS := Lib.hid hs
  unfold maxLen at hcap
  clear hs
  go_enter Tryz.func5, Tryz.ntmps5
  by_cases h80 : 80 < len
  · have h80' : (80 : Int) < len := by omega
    go_wp2_with (go_at_call 31; refine (cu_works _).mono ?_; rintro r w1 ⟨rfl, hg⟩; have HG1 := Lib.hid hg; clear hg)
    go_ret
    exact ⟨rfl, HG1.out⟩
  have h80' : ¬ (80 : Int) < len := by omega
  go_wp2_with fail
  refine (pNew (SW.start w) slots).mono ?_
  rintro r w1 ⟨p, rfl, hp⟩
  have HPH := Lib.hid hp
  clear hp
  go_wp2_with fail
  refine (pNewR HPH.out).mono ?_
  rintro r w2 ⟨q, rfl, hp⟩
  have HPX := Lib.hid (And.intro (relNew slots) hp)
  clear hp HPH
  generalize nwC slots = nc at *
  generalize nwX slots = X0 at *
  go_wp2_with fail
  refine (cuNew w2).mono ?_
  rintro r w3 ⟨rfl, hw3⟩
  obtain ⟨cb0, hcb⟩ : ∃ q, q = w2.heap.size := ⟨_, rfl⟩
  have HP3 : Hid (PX w p q X0 [] [blkA cb0 (cuO ⟨false, 0, 0⟩)] w3) := Lib.hid (by rw [hw3, hcb]; exact HPX.out.2.add ((Gr.refl _).alloc _) (blkNew _ _) (Nat.le_refl _))
  rw [← hcb]
  clear hcb hw3
  go_wp2_with fail
  refine (rcNew w3).mono ?_
  rintro r w4 ⟨rfl, hw4⟩
  obtain ⟨db0, hdb⟩ : ∃ q, q = w3.heap.size := ⟨_, rfl⟩
  have HP4 : Hid (RelX X0 [] ∧ PX w p q X0 [] [blkA db0 (rcO ⟨false, 0, 0⟩), blkA cb0 (cuO ⟨false, 0, 0⟩)] w4) := Lib.hid ⟨HPX.out.1, by rw [hw4, hdb]; exact HP3.out.add ((Gr.refl _).alloc _) (blkNew _ _) (Nat.le_refl _)⟩
  rw [← hdb]
  clear hdb hw4 HP3 HPX
  go_wp2_with fail
  go_loopw [9, 10, 11] (fun t9 t10 t11 wx => ∃ (j : Nat) (X : IX) (all : List En) (cb db : Nat) (c : Cu), j ≤ len ∧ all.length ≤ j ∧ t9 = .pointer (some ⟨cb, 0, none⟩) ∧ t10 = .pointer (some ⟨db, 0, none⟩) ∧ t11 = .int .i64 j ∧ Hid (RelX X all ∧ PX w p q X all [blkA db (rcO c), blkA cb (cuO c)] wx)) (fun _ _ t11 _ => len - (intOf t11).toNat)
  case atStart => exact ⟨0, X0, [], cb0, db0, ⟨false, 0, 0⟩, by omega, by simp, rfl, rfl, by go_num, HP4⟩
  case round =>
    obtain ⟨j, X, all, cb, db, c, hj, hal, rfl, rfl, rfl, HR⟩ := hrel
    have HG := Lib.hid HR.out.2.g
    by_cases hlt : j < len
    · have hlt' : (j : Int) < len := by omega
      obtain ⟨st, hx⟩ : ∃ x, L[j]? = some x := ⟨_, List.getElem?_eq_getElem (by rw [hl]; omega)⟩
      obtain ⟨b, off, rfl, hb, hcs, hz1, hz2⟩ := HS.out.at hx HG.out
      obtain ⟨sn, ss, x0, x1, x2, x3, x4, x5⟩ := st
      have y0 := hcs 0 _ rfl
      have y1 := hcs 1 _ rfl
      have y2 := hcs 2 _ rfl
      have y3 := hcs 3 _ rfl
      have y4 := hcs 4 _ rfl
      have y5 := hcs 5 _ rfl
      have y6 := hcs 6 _ rfl
      have y7 := hcs 7 _ rfl
      simp only [Nat.add_zero] at y0
      simp only at hz1 hz2 y0 y1 y2 y3 y4 y5 y6 y7
      go_upto_region 11 with fail
      obtain ⟨b12, hb12⟩ : ∃ q, q = wr.heap.size := ⟨_, rfl⟩
      obtain ⟨w12, hw12⟩ : ∃ y, y = wr.alloc (.cells #[.int .i64 sn, .int .i64 ss, .int .i64 x0, .string x1, .bool x2, .int .i64 x3, .int .i64 x4, .int .i64 x5] 83) := ⟨_, rfl⟩
      have HP12 : Hid (PX w p q X all [blkA b12 (.cells #[.int .i64 sn, .int .i64 ss, .int .i64 x0, .string x1, .bool x2, .int .i64 x3, .int .i64 x4, .int .i64 x5] 83), blkA db (rcO c), blkA cb (cuO c)] w12) := Lib.hid (by rw [hb12, hw12]; exact HR.out.2.add ((Gr.refl _).alloc _) (blkNew _ _) (Nat.le_refl _))
      have HN12 : Hid (b12 ≠ cb ∧ b12 ≠ db ∧ True) := Lib.hid (by have h1 := blkLt (show wr.heap[cb]? = _ from HR.out.2.part (List.mem_cons_of_mem _ (List.mem_cons_self ..))); have h2 := blkLt (show wr.heap[db]? = _ from HR.out.2.part (List.mem_cons_self ..)); exact ⟨by omega, by omega, trivial⟩)
      rw [← hb12, ← hw12]
      clear hb12 hw12 y0 y1 y2 y3 y4 y5 y6 y7 hx hcs
      have HC12 : Hid (∀ W (X' : IX) (all' : List En) (o1 o2 : Asn), PX w p q X' all' [blkA b12 (.cells #[.int .i64 sn, .int .i64 ss, .int .i64 x0, .string x1, .bool x2, .int .i64 x3, .int .i64 x4, .int .i64 x5] 83), o1, o2] W → W.heap[b12]? = some (.cells #[.int .i64 sn, .int .i64 ss, .int .i64 x0, .string x1, .bool x2, .int .i64 x3, .int .i64 x4, .int .i64 x5] 83)) := Lib.hid (fun W X' all' o1 o2 h => h.part (List.mem_cons_self ..))
      have d12 := (cellsOf (HC12.out _ _ _ _ _ HP12.out)).1
      have z0 := (d12 0).trans (show _ = some (Value.int .i64 sn) from rfl)
      have z3 := (d12 3).trans (show _ = some (Value.string x1) from rfl)
      clear d12
      by_cases hxk : 100 < x1.size
      · have hxk' : (100 : Int) < x1.size := by omega
        go_wp2_with (go_at_call 31; refine (cu_works _).mono ?_; rintro r w3 ⟨rfl, hg⟩; have HG1 := Lib.hid hg; clear hg)
        go_ret
        exact ⟨rfl, HP12.out.g.trans HG1.out⟩
      · have hxk' : ¬ (100 : Int) < x1.size := by omega
        go_upto_block 2 with fail
        clear z0 z3
        have HRX := Lib.hid HR.out.1
        have HNE : Hid (b12 ≠ cb ∧ b12 ≠ db ∧ True) := Lib.hid HN12.out
        clear HR HG
        go_cut [9, 10] from 59 to 111 (fun t9 t10 wx => ∃ (X' : IX) (all' : List En) (cb' db' : Nat) (c' : Cu), all'.length ≤ j + 1 ∧ t9 = .pointer (some ⟨cb', 0, none⟩) ∧ t10 = .pointer (some ⟨db', 0, none⟩) ∧ Hid (RelX X' all' ∧ PX w p q X' all' [blkA db' (rcO c'), blkA cb' (cuO c')] wx))
        case first =>
          have nbc : b12 ≠ cb := by
            have h1 := HP12.out
            have := HNE.out
            exact this.1
          have nbd : b12 ≠ db := HNE.out.2.1
          have HBC : Hid (∀ W (X' : IX) (all' : List En) (c1 c2 : Cu), PX w p q X' all' [blkA b12 (.cells #[.int .i64 sn, .int .i64 ss, .int .i64 x0, .string x1, .bool x2, .int .i64 x3, .int .i64 x4, .int .i64 x5] 83), blkA db (rcO c1), blkA cb (cuO c2)] W → W.heap[db]? = some (rcO c1) ∧ W.heap[cb]? = some (cuO c2)) := Lib.hid (fun W X' all' c1 c2 h => ⟨h.part (List.mem_cons_of_mem _ (List.mem_cons_self ..)), h.part (List.mem_cons_of_mem _ (List.mem_cons_of_mem _ (List.mem_cons_self ..)))⟩)
          have d12 := (cellsOf (HC12.out _ _ _ _ _ HP12.out)).1
          have z0 := (d12 0).trans (show _ = some (Value.int .i64 sn) from rfl)
          have z1 := (d12 1).trans (show _ = some (Value.int .i64 ss) from rfl)
          have z2 := (d12 2).trans (show _ = some (Value.int .i64 x0) from rfl)
          have z3 := (d12 3).trans (show _ = some (Value.string x1) from rfl)
          have z4 := (d12 4).trans (show _ = some (Value.bool x2) from rfl)
          have z5 := (d12 5).trans (show _ = some (Value.int .i64 x3) from rfl)
          have z6 := (d12 6).trans (show _ = some (Value.int .i64 x4) from rfl)
          have z7 := (d12 7).trans (show _ = some (Value.int .i64 x5) from rfl)
          clear d12
          by_cases e0 : sn = 0
          · have b0 : (sn == 0) = true := beq_iff_eq.2 e0
            clear e0
            have HST1 := Lib.hid (fun W (h : PX w p q X all [blkA b12 (.cells #[.int .i64 sn, .int .i64 ss, .int .i64 x0, .string x1, .bool x2, .int .i64 x3, .int .i64 x4, .int .i64 x5] 83), blkA db (rcO c), blkA cb (cuO c)] W) => cuStart (HBC.out _ _ _ _ _ h).2 ss)
            have HST2 := Lib.hid (fun W (c2 : Cu) (h : PX w p q X all [blkA b12 (.cells #[.int .i64 sn, .int .i64 ss, .int .i64 x0, .string x1, .bool x2, .int .i64 x3, .int .i64 x4, .int .i64 x5] 83), blkA db (rcO c), blkA cb (cuO c2)] W) => rcStart (HBC.out _ _ _ _ _ h).1 ss)
            generalize startC c ss = sc at *
            generalize startX c ss = c' at *
            go_wp2_with fail
            refine wp_region_flo (fun k => k = cb ∨ k = db) [] [] (by kernel_rfl) (by kernel_rfl) (fun k hk => hk.elim (fun e => e ▸ blkLt (HBC.out _ _ _ _ _ HP12.out).2) (fun e => e ▸ blkLt (HBC.out _ _ _ _ _ HP12.out).1)) ?_
            refine flo_seg 3 rfl ?_
            simp only [List.take_succ_cons, List.take_zero, List.drop_succ_cons, List.drop_zero]
            repeat (go_big_quiet_step (fail))
            refine wpQuiet_nil ?_
            refine flo_eff rfl rfl rfl rfl (fun K hK => ?_)
            go_wp2_with ((go_at_call 36; refine Calls.mono (HST1.out _ (HP12.out.gr (Gr.refl _).drew)) ?_; rintro r wa ⟨rfl, hb, hm⟩; have HPA := Lib.hid ((HP12.out.gr (Gr.refl _).drew).put (i := 2) rfl hm hb); have HMA := Lib.hid hm; clear hb hm))
            refine ⟨by exact HMA.out.mono (fun k hk => .inl (.inl hk)), ?_⟩
            refine flo_seg 3 rfl ?_
            simp only [List.take_succ_cons, List.take_zero, List.drop_succ_cons, List.drop_zero]
            repeat (go_big_quiet_step (fail))
            refine wpQuiet_nil ?_
            refine flo_eff rfl rfl rfl rfl (fun K hK => ?_)
            go_wp2_with ((go_at_call 37; refine Calls.mono (HST2.out _ _ HPA.out) ?_; rintro r wb ⟨rfl, hb, hm⟩; have HPB := Lib.hid (HPA.out.put (i := 1) rfl hm hb); have HMB := Lib.hid hm; clear hb hm))
            refine ⟨by exact HMB.out.mono (fun k hk => .inl (.inr hk)), ?_⟩
            refine flo_seg 1 rfl ?_
            simp only [List.take_succ_cons, List.take_zero, List.drop_succ_cons, List.drop_zero]
            repeat (go_big_quiet_step (fail))
            refine wpQuiet_nil ?_
            refine flo_nil ?_
            go_wp2_with fail
            go_meet
            case rel => exact ⟨X, all, cb, db, c', by omega, rfl, rfl, Lib.hid ⟨HRX.out, HPB.out.sub (.cons _ (List.Sublist.refl _))⟩⟩
          · have b0 : (sn == 0) = false := beq_false_of_ne e0
            by_cases e1 : sn = 1
            · have b1 : (sn == 1) = true := beq_iff_eq.2 e1
              clear e0 e1
              obtain ⟨S, hix⟩ := HP12.out.ixp
              have HA1 := Lib.hid (cuAdvance (HBC.out _ _ _ _ _ HP12.out).2 hix)
              have HA2 := Lib.hid (fun W (c2 : Cu) (h : PX w p q X all [blkA b12 (.cells #[.int .i64 sn, .int .i64 ss, .int .i64 x0, .string x1, .bool x2, .int .i64 x3, .int .i64 x4, .int .i64 x5] 83), blkA db (rcO c), blkA cb (cuO c2)] W) => rcAdvance (HBC.out _ _ _ _ _ h).1 (h.rp HRX.out (by omega)))
              generalize advC X c = sc at *
              generalize advX X c = c' at *
              clear hix
              go_wp2_with fail
              refine Calls.mono HA1.out ?_
              rintro r wa ⟨rfl, hb, hm⟩
              have HPA := Lib.hid (HP12.out.put (i := 2) rfl hm hb)
              clear hb hm
              go_wp2_with fail
              refine Calls.mono (HA2.out _ _ HPA.out) ?_
              rintro r wb ⟨rfl, hb, hm⟩
              have HPB := Lib.hid (HPA.out.put (i := 1) rfl hm hb)
              clear hb hm
              go_wp2_with fail
              go_meet
              case rel => exact ⟨X, all, cb, db, c', by omega, rfl, rfl, Lib.hid ⟨HRX.out, HPB.out.sub (.cons _ (List.Sublist.refl _))⟩⟩
            · have b1 : (sn == 1) = false := beq_false_of_ne e1
              by_cases e2 : sn = 2
              · have b2 : (sn == 2) = true := beq_iff_eq.2 e2
                clear e0 e1 e2
                go_wp2_with fail
                refine Calls.mono (cuStop (HBC.out _ _ _ _ _ HP12.out).2) ?_
                rintro r wa ⟨rfl, hb, hm⟩
                have HPA := Lib.hid (HP12.out.put (i := 2) rfl hm hb)
                clear hb hm
                go_wp2_with fail
                refine Calls.mono (rcStop (HBC.out _ _ _ _ _ HPA.out).1) ?_
                rintro r wb ⟨rfl, hb, hm⟩
                have HPB := Lib.hid (HPA.out.put (i := 1) rfl hm hb)
                clear hb hm
                go_wp2_with fail
                go_meet
                case rel => exact ⟨X, all, cb, db, ⟨false, 0, 0⟩, by omega, rfl, rfl, Lib.hid ⟨HRX.out, HPB.out.sub (.cons _ (List.Sublist.refl _))⟩⟩
              · have b2 : (sn == 2) = false := beq_false_of_ne e2
                by_cases e3 : sn = 3
                · have b3 : (sn == 3) = true := beq_iff_eq.2 e3
                  clear e0 e1 e2 e3
                  go_wp2_with fail
                  refine Calls.mono (cuCopy (HBC.out _ _ _ _ _ HP12.out).2) ?_
                  rintro r wa ⟨rfl, hwa⟩
                  obtain ⟨cb', hcb'⟩ : ∃ q, q = w12.heap.size := ⟨_, rfl⟩
                  have HPA : Hid (PX w p q X all (blkA cb' (cuO c) :: [blkA b12 (.cells #[.int .i64 sn, .int .i64 ss, .int .i64 x0, .string x1, .bool x2, .int .i64 x3, .int .i64 x4, .int .i64 x5] 83), blkA db (rcO c), blkA cb (cuO c)]) wa) := Lib.hid (by rw [hwa, hcb']; exact HP12.out.add ((Gr.refl _).alloc _) (blkNew _ _) (Nat.le_refl _))
                  rw [← hcb']
                  clear hcb' hwa
                  go_wp2_with fail
                  refine Calls.mono (rcCopy (c := c) (HPA.out.part (List.mem_cons_of_mem _ (List.mem_cons_of_mem _ (List.mem_cons_self ..))))) ?_
                  rintro r wb ⟨db', rfl, hn, hb, hg⟩
                  have HPB := Lib.hid (HPA.out.add hg hb hn)
                  clear hn hb hg
                  go_wp2_with fail
                  go_meet
                  case rel => exact ⟨X, all, cb', db', c, by omega, rfl, rfl, Lib.hid ⟨HRX.out, HPB.out.sub (.cons_cons _ (.cons_cons _ (List.nil_sublist _)))⟩⟩
                · have b3 : (sn == 3) = false := beq_false_of_ne e3
                  by_cases e4 : sn = 4
                  · have b4 : (sn == 4) = true := beq_iff_eq.2 e4
                    clear e0 e1 e2 e3 e4
                    have HAD := Lib.hid (fun W (h : PX w p q X all [blkA b12 (.cells #[.int .i64 sn, .int .i64 ss, .int .i64 x0, .string x1, .bool x2, .int .i64 x3, .int .i64 x4, .int .i64 x5] 83), blkA db (rcO c), blkA cb (cuO c)] W) => pAddS h ⟨x0, x1, x2, x3, x4, x5⟩ ⟨hz2, hz1, by show x1.size ≤ _; omega⟩)
                    have HAR := Lib.hid (fun W (h : PX w p q (addX X ⟨x0, x1, x2, x3, x4, x5⟩) all [blkA b12 (.cells #[.int .i64 sn, .int .i64 ss, .int .i64 x0, .string x1, .bool x2, .int .i64 x3, .int .i64 x4, .int .i64 x5] 83), blkA db (rcO c), blkA cb (cuO c)] W) => pAddRS h HRX.out (by show x1.size ≤ _; omega) (by omega))
                    have HRN := Lib.hid (HRX.out.add ⟨x0, x1, x2, x3, x4, x5⟩)
                    have hal2 := alX_len X all ⟨x0, x1, x2, x3, x4, x5⟩
                    generalize addE X ⟨x0, x1, x2, x3, x4, x5⟩ = ec at *
                    generalize addX X ⟨x0, x1, x2, x3, x4, x5⟩ = X' at *
                    generalize alX X all ⟨x0, x1, x2, x3, x4, x5⟩ = all' at *
                    simp only [enV] at HAD HAR
                    obtain ⟨T, hT⟩ : ∃ T : Nat → Prop, T = fun k => k ≠ b12 ∧ k < w12.heap.size := ⟨_, rfl⟩
                    have HT := Lib.hid hT
                    have nb : ¬ T b12 := by rw [hT]; rintro ⟨h1, _⟩; exact h1 rfl
                    have HIN : Hid (∀ k, (∀ A ∈ [blkA b12 (.cells #[.int .i64 sn, .int .i64 ss, .int .i64 x0, .string x1, .bool x2, .int .i64 x3, .int .i64 x4, .int .i64 x5] 83), blkA db (rcO c), blkA cb (cuO c)], ¬ A.S k) → k ≠ b12) := Lib.hid (fun k h e => h _ (List.mem_cons_self ..) e)
                    clear hT
                    go_wp2_with fail
                    refine wp_region_flo (T) [] [] (by kernel_rfl) (by kernel_rfl) (fun k hk => by rw [HT.out] at hk; exact hk.2) ?_
                    refine flo_seg 3 rfl ?_
                    simp only [List.take_succ_cons, List.take_zero, List.drop_succ_cons, List.drop_zero]
                    repeat (go_big_quiet_step (fail))
                    refine wpQuiet_nil ?_
                    refine flo_eff rfl rfl rfl rfl (fun K hK => ?_)
                    go_wp2_with ((go_at_call 44; refine Calls.mono (HAD.out _ (HP12.out.gr (Gr.refl _).drew)) ?_; rintro r wa ⟨rfl, hp, hm⟩; have HPA := Lib.hid hp; have HMA := Lib.hid hm; clear hp hm))
                    refine ⟨by exact (HMA.out.cut (n := w12.heap.size) (Nat.le_refl _)).mono (fun k hk => .inl (by rw [HT.out]; exact ⟨HIN.out k hk.1, hk.2⟩)), ?_⟩
                    refine flo_seg 3 rfl ?_
                    simp only [List.take_succ_cons, List.take_zero, List.drop_succ_cons, List.drop_zero]
                    repeat (go_big_quiet_step (fail))
                    refine wpQuiet_nil ?_
                    refine flo_eff rfl rfl rfl rfl (fun K hK => ?_)
                    go_wp2_with ((go_at_call 45; refine Calls.mono (HAR.out _ HPA.out) ?_; rintro r wb ⟨rfl, hp, hm⟩; have HPB := Lib.hid hp; have HMB := Lib.hid hm; clear hp hm))
                    refine ⟨by exact (HMB.out.cut (n := wa.heap.size) (Nat.le_refl _)).mono (fun k hk => (Nat.lt_or_ge k w12.heap.size).elim (fun h => .inl (by rw [HT.out]; exact ⟨HIN.out k hk.1, h⟩)) (fun h => .inr (.inr ⟨h, hk.2⟩))), ?_⟩
                    refine flo_seg 1 rfl ?_
                    simp only [List.take_succ_cons, List.take_zero, List.drop_succ_cons, List.drop_zero]
                    repeat (go_big_quiet_step (fail))
                    refine wpQuiet_nil ?_
                    refine flo_nil ?_
                    go_wp2_with fail
                    go_meet
                    case rel => exact ⟨X', all', cb, db, c, by omega, rfl, rfl, Lib.hid ⟨HRN.out, HPB.out.sub (.cons _ (List.Sublist.refl _))⟩⟩
                  · have b4 : (sn == 4) = false := beq_false_of_ne e4
                    by_cases e5 : sn = 5
                    · have b5 : (sn == 5) = true := beq_iff_eq.2 e5
                      clear e0 e1 e2 e3 e4 e5
                      have HD1 := Lib.hid (pDrop HP12.out ss)
                      have HD2 := Lib.hid (fun W (h : PX w p q (dropX X ss) all [blkA b12 (.cells #[.int .i64 sn, .int .i64 ss, .int .i64 x0, .string x1, .bool x2, .int .i64 x3, .int .i64 x4, .int .i64 x5] 83), blkA db (rcO c), blkA cb (cuO c)] W) => pDropR h HRX.out (by omega))
                      have HRN := Lib.hid (HRX.out.dropA ss)
                      have hal2 := alD_len X all ss
                      generalize dropX X ss = X' at *
                      generalize alD X all ss = all' at *
                      generalize dcX X ss = dc at *
                      generalize (X.slot ss).length = dl at *
                      go_wp2_with fail
                      refine Calls.mono HD1.out ?_
                      rintro r wa ⟨rfl, hp, _⟩
                      have HPA := Lib.hid hp
                      clear hp z0 z1 z2 z3 z4 z5 z6 z7
                      have d12 := (cellsOf (HC12.out _ _ _ _ _ HPA.out)).1
                      have z1 := (d12 1).trans (show _ = some (Value.int .i64 ss) from rfl)
                      clear d12
                      go_wp2_with fail
                      refine Calls.mono (HD2.out _ HPA.out) ?_
                      rintro r wb ⟨rfl, hp⟩
                      have HPB := Lib.hid hp
                      clear hp
                      go_wp2_with fail
                      go_meet
                      case rel => exact ⟨X', all', cb, db, c, by omega, rfl, rfl, Lib.hid ⟨HRN.out, HPB.out.sub (.cons _ (List.Sublist.refl _))⟩⟩
                    · have b5 : (sn == 5) = false := beq_false_of_ne e5
                      clear e0 e1 e2 e3 e4 e5
                      go_wp2_with fail
                      go_meet
                      case rel => exact ⟨X, all, cb, db, c, by omega, rfl, rfl, Lib.hid ⟨HRX.out, HP12.out.sub (.cons _ (List.Sublist.refl _))⟩⟩
        case rest =>
          obtain ⟨X', all', cb', db', c', hal', rfl, rfl, HC⟩ := hcut
          obtain ⟨S', hix⟩ := HC.out.2.ixp
          have HP := Lib.hid HC.out.2
          have HBC : Hid (∀ W, PX w p q X' all' [blkA db' (rcO c'), blkA cb' (cuO c')] W → W.heap[db']? = some (rcO c') ∧ W.heap[cb']? = some (cuO c')) := Lib.hid (fun W h => ⟨h.part (List.mem_cons_self ..), h.part (List.mem_cons_of_mem _ (List.mem_cons_self ..))⟩)
          have hp1 := cuPeek (HBC.out _ HP.out).2 hix
          have hp2 := fun W (h : PX w p q X' all' [blkA db' (rcO c'), blkA cb' (cuO c')] W) => rcPeek (HBC.out _ h).1 (h.rp HC.out.1 (by omega))
          obtain ⟨⟨x0, x1, x2, x3, x4, x5⟩, p1, p2, pn, hpv⟩ := peekV_at X' c'
          rw [hpv] at hp1 hp2
          simp only at hp1 hp2
          have HQ1 := Lib.hid hp1
          have HQ2 := Lib.hid hp2
          have HRX2 := Lib.hid HC.out.1
          clear hp1 hp2 hpv hix HC
          go_wp2_with fail
          refine Calls.mono HQ1.out ?_
          rintro r wa ⟨rfl, hg⟩
          have HGA := Lib.hid hg
          clear hg
          go_upto_region 33 with fail
          obtain ⟨b13, hb13⟩ : ∃ q, q = wa.heap.size := ⟨_, rfl⟩
          obtain ⟨wa2, hwa2⟩ : ∃ y, y = wa.alloc (.cells #[.int .i64 x0, .string x1, .bool x2, .int .i64 x3, .int .i64 x4, .int .i64 x5] 56) := ⟨_, rfl⟩
          have HX13 : Hid (wa2.heap[b13]? = some (.cells #[.int .i64 x0, .string x1, .bool x2, .int .i64 x3, .int .i64 x4, .int .i64 x5] 56)) := Lib.hid (by rw [hwa2, hb13]; exact blkNew _ _)
          have HGA2 : Hid (Gr wc wa2) := Lib.hid (by rw [hwa2]; exact HGA.out.alloc _)
          rw [← hb13, ← hwa2]
          clear hb13 hwa2
          go_wp2_with fail
          refine Calls.mono (HQ2.out _ (HP.out.gr HGA2.out)) ?_
          rintro r wb ⟨rfl, hg⟩
          have HGB := Lib.hid hg
          clear hg
          go_upto_region 34 with fail
          obtain ⟨b17, hb17⟩ : ∃ q, q = wb.heap.size := ⟨_, rfl⟩
          obtain ⟨wb2, hwb2⟩ : ∃ y, y = wb.alloc (.cells #[.int .i64 x0, .string x1, .bool x2, .int .i64 x3, .int .i64 x4, .int .i64 x5] 56) := ⟨_, rfl⟩
          have HX17 : Hid (wb2.heap[b17]? = some (.cells #[.int .i64 x0, .string x1, .bool x2, .int .i64 x3, .int .i64 x4, .int .i64 x5] 56)) := Lib.hid (by rw [hwb2, hb17]; exact blkNew _ _)
          have HGB2 : Hid (Gr wa2 wb2) := Lib.hid (by rw [hwb2]; exact HGB.out.alloc _)
          rw [← hb17, ← hwb2]
          clear hb17 hwb2
          have HPB := Lib.hid (HP.out.gr (HGA2.out.trans HGB2.out))
          go_wp2_with fail
          refine Calls.mono (cuSlot (HBC.out _ HPB.out).2) ?_
          rintro r wd ⟨rfl, hg⟩
          have HGD := Lib.hid hg
          clear hg
          go_wp2_with fail
          refine Calls.mono (rcSlot (HBC.out _ (HPB.out.gr HGD.out)).1) ?_
          rintro r we ⟨rfl, hg⟩
          have HGE := Lib.hid (HGD.out.trans hg)
          clear hg HGD
          have HCO := Lib.hid (cuOffset (HBC.out _ (HPB.out.gr HGE.out)).2)
          have HCR := Lib.hid (rcOffset (HBC.out _ (HPB.out.gr HGE.out)).1)
          have d13 := (cellsOf ((HGB2.out.trans HGE.out).blk HX13.out)).1
          have d17 := (cellsOf (HGE.out.blk HX17.out)).1
          have k1 := fun w => neqE_run ⟨x0, x1, x2, x3, x4, x5⟩ (⟨x0, x1, x2, x3, x4, x5⟩ : En) w
          have hd : decide ((⟨x0, x1, x2, x3, x4, x5⟩ : En) = ⟨x0, x1, x2, x3, x4, x5⟩) = true := decide_eq_true rfl
          rw [hd] at k1
          simp only at k1
          clear hd
          go_wp2_with (first
            | (go_at_call 52; refine Calls.mono HCO.out ?_; rintro r wf ⟨rfl, rfl⟩)
            | (go_at_call 53; refine Calls.mono HCR.out ?_; rintro r wg ⟨rfl, rfl⟩)
            | fail)
          refine ⟨⟨j + 1, X', all', cb', db', c', by omega, hal', rfl, rfl, by go_num, Lib.hid ⟨HRX2.out, HPB.out.gr HGE.out⟩⟩, ?_⟩
          simp [intOf]; omega
    · have hlt' : ¬ (j : Int) < len := by omega
      have HGZ := Lib.hid HG.out
      clear HR HG
      go_wp2_with (go_at_call 31; refine (cu_works _).mono ?_; rintro r w3 ⟨rfl, hg⟩; have HG1 := Lib.hid hg; clear hg)
      go_ret
      exact ⟨rfl, HGZ.out.trans HG1.out⟩
end Go.Proofs.YtmdfickejpeofaaGreat
