/- LedgerCounts: the bytes of each slot, and of all. Printed by lcn.py. -/
import Derived.Test.YtmdfickejpeofaaBd18
set_option linter.unusedVariables false
set_option linter.unusedSimpArgs false
namespace Go.Proofs.Ytmdfickejpeofaa
open Go.RowKit Go.Shelf
attribute [local go_sem] OvM cell_ovm obj_ovm
attribute [local go_sem] Oper.semAt_some

theorem EntAt.at {w W : World} {a : Option Addr} {L : List En} {i : Nat} {x : En} (h : EntAt w a L) (hx : L[i]? = some x) (g : Gr w W) : ∃ b off, a = some ⟨b, off, none⟩ ∧ b < w.heap.size ∧ W.cell? ⟨b, off + i * 6, none⟩ = some (.int .i64 x.seq) ∧ W.cell? ⟨b, off + i * 6 + 1, none⟩ = some (.string x.key) ∧ W.cell? ⟨b, off + i * 6 + 2, none⟩ = some (.bool x.del) ∧ W.cell? ⟨b, off + i * 6 + 3, none⟩ = some (.int .i64 x.slot) ∧ W.cell? ⟨b, off + i * 6 + 4, none⟩ = some (.int .i64 x.off) ∧ W.cell? ⟨b, off + i * 6 + 5, none⟩ = some (.int .i64 x.size) ∧ -9223372036854775808 ≤ x.size ∧ x.size ≤ 9223372036854775807 := by
  obtain ⟨b, off, e, hb, c0, c1, c2, c3, c4, c5, c6⟩ := h i x hx
  exact ⟨b, off, e, hb, g.keep c0, g.keep c1, g.keep c2, g.keep c3, g.keep c4, g.keep c5, c6⟩
set_option maxRecDepth 40000 in
set_option maxHeartbeats 16000000 in
theorem LedgerCounts_any (slots : Int) (a : Option Addr) (len cap : Nat) (L : List En) (slot : Int) (w : World) (hl : L.length = len) (hle : len ≤ cap) (hcap : cap ≤ maxLen) (hs : EntAt w a L) :
    Calls Try.prog 4 #[.int .i64 slots, .slice a len cap, .int .i64 slot] w fun r w' => r = .returned (.bool true) ∧ Gr w w' := by
  have HS := Lib.hid hs
  unfold maxLen at hcap
  clear hs
  go_enter Try.func4, Try.ntmps4
  by_cases h60 : 60 < len
  · have h60' : (60 : Int) < len := by omega
    go_wp2_with (go_at_call 17; refine (lg_works _).mono ?_; rintro r w1 ⟨rfl, hg⟩; have HG1 := Lib.hid hg; clear hg)
    go_ret
    exact ⟨rfl, HG1.out⟩
  have h60' : ¬ (60 : Int) < len := by omega
  go_wp2_with fail
  refine (pNew (SW.start w) slots).mono ?_
  rintro r w1 ⟨p, rfl, hp⟩
  have HPH := Lib.hid hp
  clear hp
  go_wp2_with fail
  refine (pNewR HPH.out).mono ?_
  rintro r w2 ⟨q, rfl, hp⟩
  have HPX := Lib.hid (And.intro (relNew slots) hp)
  have hpq : (p = none ↔ q = none) := hp.nil_iff.1.trans hp.nil_iff.2.symm
  clear hp HPH
  generalize nwC slots = nc at *
  generalize nwX slots = X0 at *
  have hpb : (p = none ∧ q = none) ∨ ∃ p' q', p = some p' ∧ q = some q' := by
    cases p with
    | none => exact .inl ⟨rfl, hpq.1 rfl⟩
    | some p' =>
      cases q with
      | none => have := hpq.2 rfl; cases this
      | some q' => exact .inr ⟨p', q', rfl, rfl⟩
  have HPB := Lib.hid hpb
  have hpn : (p.isNone == q.isNone) = true := by
    rcases hpb with ⟨rfl, rfl⟩ | ⟨p', q', rfl, rfl⟩ <;> rfl
  clear hpq hpb
  go_upto_region 7 with fail
  clear hpn
  generalize p.isNone = pz
  generalize q.isNone = qz
  go_wp2_with fail
  go_loopw [50] (fun t50 wx => ∃ (j : Nat) (X : IX) (all : List En), j ≤ len ∧ all.length ≤ j ∧ t50 = .int .i64 j ∧ Hid (RelX X all ∧ PX w p q X all [] wx)) (fun t50 _ => len - (intOf t50).toNat)
  case atStart => exact ⟨0, X0, [], by omega, by simp, by go_num, HPX⟩
  case round =>
    obtain ⟨j, X, all, hj, hal, rfl, HR⟩ := hrel
    have HG := Lib.hid HR.out.2.g
    by_cases hlt : j < len
    · have hlt' : (j : Int) < len := by omega
      obtain ⟨x, hx⟩ : ∃ x, L[j]? = some x := ⟨_, List.getElem?_eq_getElem (by omega)⟩
      obtain ⟨b, off, rfl, hb, y0, y1, y2, y3, y4, y5, hz1, hz2⟩ := HS.out.at hx HG.out
      obtain ⟨x0, x1, x2, x3, x4, x5⟩ := x
      simp only at y0 y1 y2 y3 y4 y5 hz1 hz2
      go_upto_region 10 with fail
      obtain ⟨b12, hb12⟩ : ∃ q, q = wr.heap.size := ⟨_, rfl⟩
      obtain ⟨w12, hw12⟩ : ∃ y, y = wr.alloc (.cells #[.int .i64 x0, .string x1, .bool x2, .int .i64 x3, .int .i64 x4, .int .i64 x5] 53) := ⟨_, rfl⟩
      have HP12 : Hid (PX w p q X all [blkA b12 (.cells #[.int .i64 x0, .string x1, .bool x2, .int .i64 x3, .int .i64 x4, .int .i64 x5] 53)] w12) := Lib.hid (by rw [hb12, hw12]; exact HR.out.2.allocT _)
      rw [← hb12, ← hw12]
      clear hb12 hw12 y0 y1 y2 y3 y4 y5 hx
      have HC12 : Hid (∀ W (X' : IX) (all' : List En), PX w p q X' all' [blkA b12 (.cells #[.int .i64 x0, .string x1, .bool x2, .int .i64 x3, .int .i64 x4, .int .i64 x5] 53)] W → W.heap[b12]? = some (.cells #[.int .i64 x0, .string x1, .bool x2, .int .i64 x3, .int .i64 x4, .int .i64 x5] 53)) := Lib.hid (fun W X' all' h => h.part (List.mem_cons_self ..))
      have d12 := (cellsOf (HC12.out _ _ _ HP12.out)).1
      have z1 := (d12 1).trans (show _ = some (Value.string x1) from rfl)
      by_cases hxk : 100 < x1.size
      · have hxk' : (100 : Int) < x1.size := by omega
        clear d12
        go_wp2_with (go_at_call 17; refine (lg_works _).mono ?_; rintro r w3 ⟨rfl, hg⟩; have HG1 := Lib.hid hg; clear hg)
        go_ret
        exact ⟨rfl, HP12.out.g.trans HG1.out⟩
      · have hxk' : ¬ (100 : Int) < x1.size := by omega
        rcases HPB.out with ⟨hp0, hq0⟩ | ⟨p', q', hp0, hq0⟩
        · have HPC := Lib.hid HP12.out.cut
          clear HPB
          subst hp0 hq0
          go_wp2_with fail
          go_roundw
          case rel => exact ⟨j + 1, X, all, by omega, by omega, by go_num, Lib.hid ⟨HR.out.1, HPC.out⟩⟩
          case measure => simp [intOf]; omega
        · have HAD := Lib.hid (fun W (h : PX w p q X all [blkA b12 (.cells #[.int .i64 x0, .string x1, .bool x2, .int .i64 x3, .int .i64 x4, .int .i64 x5] 53)] W) => pAdd h ⟨x0, x1, x2, x3, x4, x5⟩ ⟨hz2, hz1, by show x1.size ≤ _; omega⟩)
          have HAR := Lib.hid (fun W (h : PX w p q (addX X ⟨x0, x1, x2, x3, x4, x5⟩) all [blkA b12 (.cells #[.int .i64 x0, .string x1, .bool x2, .int .i64 x3, .int .i64 x4, .int .i64 x5] 53)] W) => pAddR h HR.out.1 (by show x1.size ≤ _; omega) (by omega))
          have HRN := Lib.hid (HR.out.1.add ⟨x0, x1, x2, x3, x4, x5⟩)
          have hal2 := alX_len X all ⟨x0, x1, x2, x3, x4, x5⟩
          generalize addE X ⟨x0, x1, x2, x3, x4, x5⟩ = c at *
          generalize addX X ⟨x0, x1, x2, x3, x4, x5⟩ = X' at *
          generalize alX X all ⟨x0, x1, x2, x3, x4, x5⟩ = all' at *
          simp only [enV] at HAD HAR
          clear HPB z1 hz1 hz2
          have hp1 : p.isNone = false := by rw [hp0]; rfl
          have z0 := (d12 0).trans (show _ = some (Value.int .i64 x0) from rfl)
          have z1 := (d12 1).trans (show _ = some (Value.string x1) from rfl)
          have z2 := (d12 2).trans (show _ = some (Value.bool x2) from rfl)
          have z3 := (d12 3).trans (show _ = some (Value.int .i64 x3) from rfl)
          have z4 := (d12 4).trans (show _ = some (Value.int .i64 x4) from rfl)
          have z5 := (d12 5).trans (show _ = some (Value.int .i64 x5) from rfl)
          clear d12 hp0 hq0
          go_wp2_with fail
          refine Calls.mono (HAD.out _ HP12.out) ?_
          rintro r wa ⟨rfl, hp, _⟩
          have HPA := Lib.hid hp
          clear hp z0 z1 z2 z3 z4 z5
          have d12 := (cellsOf (HC12.out _ _ _ HPA.out)).1
          have z0 := (d12 0).trans (show _ = some (Value.int .i64 x0) from rfl)
          have z1 := (d12 1).trans (show _ = some (Value.string x1) from rfl)
          have z2 := (d12 2).trans (show _ = some (Value.bool x2) from rfl)
          have z3 := (d12 3).trans (show _ = some (Value.int .i64 x3) from rfl)
          have z4 := (d12 4).trans (show _ = some (Value.int .i64 x4) from rfl)
          have z5 := (d12 5).trans (show _ = some (Value.int .i64 x5) from rfl)
          clear d12
          go_wp2_with fail
          refine Calls.mono (HAR.out _ HPA.out) ?_
          rintro r wb ⟨rfl, hp, _⟩
          have HPC := Lib.hid hp.cut
          clear hp z0 z1 z2 z3 z4 z5
          go_wp2_with fail
          go_roundw
          case rel => exact ⟨j + 1, X', all', by omega, by omega, by go_num, Lib.hid ⟨HRN.out, HPC.out⟩⟩
          case measure => simp [intOf]; omega
    · have hlt' : ¬ (j : Int) < len := by omega
      have H60 : all.length ≤ 1000 := by omega
      obtain ⟨S, hix⟩ := HR.out.2.ixp
      have hrp := HR.out.2.rp HR.out.1 H60
      have HO1 := Lib.hid (fun W (g : Gr wr W) => OfL_any (hix.gr g) slot)
      have HO2 := Lib.hid (fun W (g : Gr wr W) => rOf23 (hrp.gr g) slot)
      have HM1 := Lib.hid (fun W (g : Gr wr W) => Sum_any (hix.gr g))
      have HM2 := Lib.hid (fun W (g : Gr wr W) => rSum23 (hrp.gr g))
      have HA1 : Hid (∀ W, Gr wr W → Calls Try.prog 26 #[.pointer p] W (fun e w' => ∃ v, e = .returned (.tuple #[v, .int .i64 (if X.slots.length = 0 then 1 else 0)]) ∧ Nw W w' 56 5 v X.slots.length (rowBy (allL X X.slots.length)) ∧ Gr W w')) := Lib.hid (fun W g => All_any (hix.gr g))
      have HA2 : Hid (∀ W, Gr wr W → Calls Try.prog 27 #[.pointer q] W (fun e w' => ∃ v, e = .returned (.tuple #[v, .int .i64 (if X.slots.length = 0 then 1 else 0)]) ∧ Nw W w' 59 5 v X.slots.length (rowBy (allL X X.slots.length)) ∧ Gr W w')) := Lib.hid (fun W g => rAll23 (hrp.gr g))
      have HE1 := Lib.hid (fun W (g : Gr wr W) => Len_any (hix.gr g))
      have HE2 : Hid (∀ W, Gr wr W → Calls Try.prog 29 #[.pointer q] W (fun e w' => ∃ v, e = .returned v ∧ Nw W w' 53 6 v X.ents.length (rowE X.ents) ∧ Gr W w')) := Lib.hid (fun W g => entries_any (hrp.gr g))
      have hn32 := HR.out.1.wf.n
      have hxl := HR.out.1.wf.ents_le
      have HLN : Hid ((allL X X.slots.length).length = X.slots.length) := Lib.hid (by unfold allL; simp)
      have HWA := Lib.hid HG.out
      clear hix hrp hlt hal HR HPB HPX
      obtain ⟨bo, hbo⟩ : ∃ bo : By, bo = (ofL X slot).1 := ⟨_, rfl⟩
      obtain ⟨co, hco⟩ : ∃ co : Int, co = (ofL X slot).2 := ⟨_, rfl⟩
      obtain ⟨bm, hbm⟩ : ∃ bm : By, bm = (sumBy X).1 := ⟨_, rfl⟩
      obtain ⟨cm, hcm⟩ : ∃ cm : Int, cm = (sumBy X).2 := ⟨_, rfl⟩
      obtain ⟨ca, hca⟩ : ∃ ca : Int, ca = if X.slots.length = 0 then 1 else 0 := ⟨_, rfl⟩
      obtain ⟨AL, hAL⟩ : ∃ AL, AL = allL X X.slots.length := ⟨_, rfl⟩
      rw [← hbo, ← hco] at HO1 HO2
      rw [← hbm, ← hcm] at HM1 HM2
      rw [← hca, ← hAL] at HA1 HA2
      rw [← hAL] at HLN
      clear hbo hco hbm hcm hca hAL
      generalize X.slots.length = n at *
      generalize X.ents = EN at *
      obtain ⟨o0, o1, o2, o3, o4⟩ := bo
      obtain ⟨m0, m1, m2, m3, m4⟩ := bm
      simp only [byV] at HO1 HO2 HM1 HM2
      obtain ⟨WA, hWA⟩ : ∃ WA, WA = wr := ⟨_, rfl⟩
      rw [← hWA] at HO1 HO2 HM1 HM2 HA1 HA2 HE1 HE2 HWA ⊢
      clear hWA HG
      go_wp2_with fail
      refine Calls.mono (HO1.out _ (Gr.refl _)) ?_
      rintro r v0 ⟨rfl, hg⟩
      go_upto_region 17 with fail
      obtain ⟨c0, hc⟩ : ∃ q, q = v0.heap.size := ⟨_, rfl⟩
      obtain ⟨u0, hu⟩ : ∃ y, y = v0.alloc (.cells #[.int .i64 o0, .int .i64 o1, .int .i64 o2, .int .i64 o3, .int .i64 o4] 56) := ⟨_, rfl⟩
      have HB0 : Hid (u0.heap[c0]? = some (.cells #[.int .i64 o0, .int .i64 o1, .int .i64 o2, .int .i64 o3, .int .i64 o4] 56)) := Lib.hid (by rw [hu, hc]; exact blkNew _ _)
      have HD0 : Hid (Gr WA u0) := Lib.hid (by rw [hu]; exact hg.alloc _)
      have HQ0 : Hid (Gr WA u0) := Lib.hid (HD0.out)
      rw [← hc, ← hu]
      clear hc hu hg
      go_wp2_with fail
      refine Calls.mono (HO2.out _ HQ0.out) ?_
      rintro r v1 ⟨rfl, hg⟩
      go_upto_region 18 with fail
      obtain ⟨c1, hc⟩ : ∃ q, q = v1.heap.size := ⟨_, rfl⟩
      obtain ⟨u1, hu⟩ : ∃ y, y = v1.alloc (.cells #[.int .i64 o0, .int .i64 o1, .int .i64 o2, .int .i64 o3, .int .i64 o4] 59) := ⟨_, rfl⟩
      have HB1 : Hid (u1.heap[c1]? = some (.cells #[.int .i64 o0, .int .i64 o1, .int .i64 o2, .int .i64 o3, .int .i64 o4] 59)) := Lib.hid (by rw [hu, hc]; exact blkNew _ _)
      have HD1 : Hid (Gr u0 u1) := Lib.hid (by rw [hu]; exact hg.alloc _)
      have HQ1 : Hid (Gr WA u1) := Lib.hid (HQ0.out.trans HD1.out)
      rw [← hc, ← hu]
      clear hc hu hg
      go_wp2_with fail
      refine Calls.mono (HM1.out _ HQ1.out) ?_
      rintro r v2 ⟨rfl, hg⟩
      go_upto_region 19 with fail
      obtain ⟨c2, hc⟩ : ∃ q, q = v2.heap.size := ⟨_, rfl⟩
      obtain ⟨u2, hu⟩ : ∃ y, y = v2.alloc (.cells #[.int .i64 m0, .int .i64 m1, .int .i64 m2, .int .i64 m3, .int .i64 m4] 56) := ⟨_, rfl⟩
      have HB2 : Hid (u2.heap[c2]? = some (.cells #[.int .i64 m0, .int .i64 m1, .int .i64 m2, .int .i64 m3, .int .i64 m4] 56)) := Lib.hid (by rw [hu, hc]; exact blkNew _ _)
      have HD2 : Hid (Gr u1 u2) := Lib.hid (by rw [hu]; exact hg.alloc _)
      have HQ2 : Hid (Gr WA u2) := Lib.hid (HQ1.out.trans HD2.out)
      rw [← hc, ← hu]
      clear hc hu hg
      go_wp2_with fail
      refine Calls.mono (HM2.out _ HQ2.out) ?_
      rintro r v3 ⟨rfl, hg⟩
      go_upto_region 20 with fail
      obtain ⟨c3, hc⟩ : ∃ q, q = v3.heap.size := ⟨_, rfl⟩
      obtain ⟨u3, hu⟩ : ∃ y, y = v3.alloc (.cells #[.int .i64 m0, .int .i64 m1, .int .i64 m2, .int .i64 m3, .int .i64 m4] 59) := ⟨_, rfl⟩
      have HB3 : Hid (u3.heap[c3]? = some (.cells #[.int .i64 m0, .int .i64 m1, .int .i64 m2, .int .i64 m3, .int .i64 m4] 59)) := Lib.hid (by rw [hu, hc]; exact blkNew _ _)
      have HD3 : Hid (Gr u2 u3) := Lib.hid (by rw [hu]; exact hg.alloc _)
      have HQ3 : Hid (Gr WA u3) := Lib.hid (HQ2.out.trans HD3.out)
      rw [← hc, ← hu]
      clear hc hu hg
      go_wp2_with fail
      refine Calls.mono (HA1.out _ HQ3.out) ?_
      rintro r v4 ⟨s1, rfl, hn, hg⟩
      have HQ4 := Lib.hid (HQ3.out.trans hg)
      have HD4 := Lib.hid hg
      have HR1 := Lib.hid hn.own
      clear hn hg
      go_wp2_with fail
      refine Calls.mono (HA2.out _ HQ4.out) ?_
      rintro r v5 ⟨s2, rfl, hn, hg⟩
      have HQ5 := Lib.hid (HQ4.out.trans hg)
      have HD5 := Lib.hid (HD4.out.trans hg)
      have HR1' := Lib.hid (HR1.out.gr hg)
      have HR2 := Lib.hid hn.own
      clear hn hg HR1
      rw [← HLN.out] at HR1' HR2
      obtain ⟨a19, c19, rfl, hc19, hm19, hat1⟩ := ownBy_at HR1'.out
      obtain ⟨a21, c21, rfl, hc21, hm21, hat2⟩ := ownByR_at HR2.out
      have HAT1 := Lib.hid hat1
      have HAT2 := Lib.hid hat2
      unfold maxLen at hm19 hm21
      clear hat1 hat2 HR1' HR2
      have q0 := (cellsOf ((((HD1.out.trans HD2.out).trans HD3.out).trans HD5.out).blk HB0.out)).1
      have q1 := (cellsOf (((HD2.out.trans HD3.out).trans HD5.out).blk HB1.out)).1
      have q2 := (cellsOf ((HD3.out.trans HD5.out).blk HB2.out)).1
      have q3 := (cellsOf (HD5.out.blk HB3.out)).1
      have k1 := neqR_same o0 o1 o2 o3 o4
      have k2 := neqR_same m0 m1 m2 m3 m4
      go_upto_region 24 with fail
      clear q0 q1 q2 q3 k1 k2
      go_wp2_with fail
      go_loopw [23, 132] (fun t23 t132 wx => ∃ i : Nat, i ≤ AL.length ∧ t132 = .int .i64 i ∧ Hid (Gr v5 wx)) (fun _ t132 _ => AL.length - (intOf t132).toNat)
      case atStart => exact ⟨0, by omega, by go_num, Lib.hid (Gr.refl _)⟩
      case round =>
        obtain ⟨i, hi, rfl, HI⟩ := hrel
        by_cases hli : i < AL.length
        · have hli' : (i : Int) < AL.length := by omega
          obtain ⟨y, hy⟩ : ∃ y, AL[i]? = some y := ⟨_, List.getElem?_eq_getElem hli⟩
          obtain ⟨g1, rfl, hc1⟩ := HAT1.out i y hy
          obtain ⟨g2, rfl, hc2⟩ := HAT2.out i y hy
          have hr : ∀ j u, (cellsBy y)[j]? = some u → wr.cell? ⟨g1, i * 5 + j, none⟩ = some u := fun j u hu => HI.out.keep (hc1 j u hu)
          have hs' : ∀ j u, (cellsBy y)[j]? = some u → wr.cell? ⟨g2, i * 5 + j, none⟩ = some u := fun j u hu => HI.out.keep (hc2 j u hu)
          obtain ⟨y0, y1, y2, y3, y4⟩ := y
          have a0 := hr 0 _ rfl
          have a1 := hr 1 _ rfl
          have a2 := hr 2 _ rfl
          have a3 := hr 3 _ rfl
          have a4 := hr 4 _ rfl
          have b0 := hs' 0 _ rfl
          have b1 := hs' 1 _ rfl
          have b2 := hs' 2 _ rfl
          have b3 := hs' 3 _ rfl
          have b4 := hs' 4 _ rfl
          simp only [Nat.add_zero] at a0 b0
          have k1 := neqR_same y0 y1 y2 y3 y4
          clear hr hs' hc1 hc2 hy
          go_wp2_with fail
          refine wp_region_flo (fun _ => False) [] [] (by kernel_rfl) (by kernel_rfl) (fun _ h => h.elim) ?_
          refine flo_seg 9 rfl ?_
          simp only [List.take_succ_cons, List.take_zero, List.drop_succ_cons, List.drop_zero]
          repeat (go_big_quiet_step (fail))
          refine wpQuiet_nil ?_
          refine flo_nil ?_
          go_wp2_with fail
          go_roundw
          case rel => exact ⟨i + 1, by omega, by go_num, Lib.hid (HI.out.trans (Gr.refl _).drew)⟩
          case measure => simp [intOf]; omega
        · have hli' : ¬ (i : Int) < AL.length := by omega
          have HGK := Lib.hid (HQ5.out.trans HI.out)
          go_wp2_with (first
            | (go_at_call 28; refine Calls.mono (HE1.out _ HGK.out) ?_; rintro r w8 ⟨rfl, rfl⟩)
            | (go_at_call 29; refine Calls.mono (HE2.out _ HGK.out) ?_; rintro r w9 ⟨v9, rfl, hn, hg⟩; (obtain ⟨a9, c9, rfl, _, _, _⟩ := ownE_at hn.own); have HG9 := Lib.hid (HGK.out.trans hg); clear hn hg)
            | (go_at_call 17; refine (lg_works _).mono ?_; rintro r wL ⟨rfl, hg⟩; have HGV := Lib.hid (HG9.out.trans hg); clear hg)
            | fail)
          go_ret
          exact ⟨rfl, HWA.out.trans HGV.out⟩
end Go.Proofs.Ytmdfickejpeofaa
