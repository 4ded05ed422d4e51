/- LivenessPlays: what is told of any index by liveness and by the document. -/
import Derived.Test.YtmdfickejpeofaaBd18
import Derived.Test.YtmdfickejpeofaaBd19
import Derived.Test.YtmdfickejpeofaaBd14
import Derived.Lib.SmallJoins
set_option linter.unusedVariables false
set_option linter.unusedSimpArgs false
namespace Go.Proofs.Ytmdfickejpeofaa
open Go.RowKit Go.Shelf
attribute [local go_sem] OvM cell_ovm obj_ovm
attribute [local go_sem] Oper.semAt_some

theorem EntAt.at {w W : World} {a : Option Addr} {L : List En} {i : Nat} {x : En} (h : EntAt w a L) (hx : L[i]? = some x) (g : Gr w W) : ∃ b off, a = some ⟨b, off, none⟩ ∧ b < w.heap.size ∧ W.cell? ⟨b, off + i * 6, none⟩ = some (.int .i64 x.seq) ∧ W.cell? ⟨b, off + i * 6 + 1, none⟩ = some (.string x.key) ∧ W.cell? ⟨b, off + i * 6 + 2, none⟩ = some (.bool x.del) ∧ W.cell? ⟨b, off + i * 6 + 3, none⟩ = some (.int .i64 x.slot) ∧ W.cell? ⟨b, off + i * 6 + 4, none⟩ = some (.int .i64 x.off) ∧ W.cell? ⟨b, off + i * 6 + 5, none⟩ = some (.int .i64 x.size) ∧ -9223372036854775808 ≤ x.size ∧ x.size ≤ 9223372036854775807 := by
  obtain ⟨b, off, e, hb, c0, c1, c2, c3, c4, c5, c6⟩ := h i x hx
  exact ⟨b, off, e, hb, g.keep c0, g.keep c1, g.keep c2, g.keep c3, g.keep c4, g.keep c5, c6⟩
theorem neededV_is (X : IX) (e : En) : ∃ (b : Bool) (c : Int), neededV X e = .tuple #[.bool b, .int .i64 c] := by
  unfold neededV
  split
  · exact ⟨_, _, rfl⟩
  · split
    · exact ⟨_, _, rfl⟩
    · exact ⟨_, _, rfl⟩
set_option maxRecDepth 40000 in
set_option maxHeartbeats 8000000 in
theorem LivenessPlays_any (slots : Int) (a : Option Addr) (len cap : Nat) (L : List En) (e : En) (slot : Int) (w : World) (hl : L.length = len) (hle : len ≤ cap) (hcap : cap ≤ maxLen) (hs : EntAt w a L) :
    Calls Try.prog 6 #[.int .i64 slots, .slice a len cap, enV e, .int .i64 slot] w fun r w' => r = .returned (.bool true) ∧ Gr w w' := by
  have HS := Lib.hid hs
  unfold maxLen at hcap
  clear hs
  obtain ⟨b6, hb6⟩ : ∃ q, q = w.heap.size := ⟨_, rfl⟩
  obtain ⟨e0, e1, e2, e3, e4, e5⟩ := e
  simp only [enV]
  obtain ⟨w0, hw0⟩ : ∃ y, y = w.alloc (.cells #[.int .i64 e0, .string e1, .bool e2, .int .i64 e3, .int .i64 e4, .int .i64 e5] 53) := ⟨_, rfl⟩
  obtain ⟨bx, hbx⟩ : ∃ o : Obj, o = .cells #[.int .i64 e0, .string e1, .bool e2, .int .i64 e3, .int .i64 e4, .int .i64 e5] 53 := ⟨_, rfl⟩
  have HBX := Lib.hid hbx
  have HW0 : Hid (SW w [blkA b6 bx] w0) := Lib.hid (by rw [hb6, hw0, hbx]; exact (SW.start w).alloc _)
  clear hbx
  go_enter Try.func6, Try.ntmps6
  go_upto_region 1 with fail
  rw [← hw0, ← hb6]
  clear hw0 hb6
  have d6 := (cellsOf ((show w0.heap[b6]? = some bx from HW0.out.get (i := 0) rfl).trans (by rw [HBX.out]))).1
  have d61 : w0.cell? ⟨b6, 1, none⟩ = some (.string e1) := d6 1
  clear d6
  by_cases h60 : 60 < len
  · have h60' : (60 : Int) < len := by omega
    go_wp2_with (go_at_call 36; refine (lv_works _).mono ?_; rintro r w1 ⟨rfl, hg⟩; have HG1 := Lib.hid hg; clear hg)
    go_ret
    exact ⟨rfl, HW0.out.g.trans HG1.out⟩
  · have h60' : ¬ (60 : Int) < len := by omega
    by_cases hk : 1000 < e1.size
    · have hk' : (1000 : Int) < e1.size := by omega
      go_wp2_with (go_at_call 36; refine (lv_works _).mono ?_; rintro r w1 ⟨rfl, hg⟩; have HG1 := Lib.hid hg; clear hg)
      go_ret
      exact ⟨rfl, HW0.out.g.trans HG1.out⟩
    · have hk' : ¬ (1000 : Int) < e1.size := by omega
      go_upto_region 3 with fail
      clear d61
      go_wp2_with fail
      refine (pNew HW0.out slots).mono ?_
      rintro r w1 ⟨p, rfl, hp⟩
      have HPH := Lib.hid hp
      clear hp
      go_wp2_with fail
      refine (pNewR HPH.out).mono ?_
      rintro r w2 ⟨q, rfl, hp⟩
      have HPX := Lib.hid (And.intro (relNew slots) hp)
      clear hp HPH
      generalize nwC slots = nc at *
      generalize nwX slots = X0 at *
      go_wp2_with fail
      go_loopw [13] (fun t13 wx => ∃ (j : Nat) (X : IX) (all : List En), j ≤ len ∧ all.length ≤ j ∧ t13 = .int .i64 j ∧ Hid (RelX X all ∧ PX w p q X all [blkA b6 bx] wx)) (fun t13 _ => len - (intOf t13).toNat)
      case atStart => exact ⟨0, X0, [], by omega, by simp, by go_num, HPX⟩
      case round =>
        obtain ⟨j, X, all, hj, hal, rfl, HR⟩ := hrel
        have HG := Lib.hid HR.out.2.g
        by_cases hlt : j < len
        · have hlt' : (j : Int) < len := by omega
          obtain ⟨x, hx⟩ : ∃ x, L[j]? = some x := ⟨_, List.getElem?_eq_getElem (by omega)⟩
          obtain ⟨b, off, rfl, hb, y0, y1, y2, y3, y4, y5, hz1, hz2⟩ := HS.out.at hx HG.out
          by_cases hxk : 1000 < x.key.size
          · have hxk' : (1000 : Int) < x.key.size := by omega
            clear hx hz1 hz2 y0 y2 y3 y4 y5
            go_wp2_with (go_at_call 36; refine (lv_works _).mono ?_; rintro r w3 ⟨rfl, hg⟩; have HG1 := Lib.hid hg; clear hg)
            go_ret
            exact ⟨rfl, HG.out.trans HG1.out⟩
          · have hxk' : ¬ (1000 : Int) < x.key.size := by omega
            have HAD := Lib.hid (fun W (h : PX w p q X all [blkA b6 bx] W) => pAdd h x ⟨hz2, hz1, by omega⟩)
            have HAR := Lib.hid (fun W (h : PX w p q (addX X x) all [blkA b6 bx] W) => pAddR h HR.out.1 (by omega) (by omega))
            have HRN := Lib.hid (HR.out.1.add x)
            have hal2 := alX_len X all x
            have HPC := Lib.hid HR.out.2
            generalize addE X x = c at *
            generalize addX X x = X' at *
            generalize alX X all x = all' at *
            clear hx hz1 hz2 HR
            obtain ⟨T, hT⟩ : ∃ T : Nat → Prop, T = fun k => w.heap.size ≤ k ∧ k < wr.heap.size := ⟨_, rfl⟩
            have HT := Lib.hid hT
            have nb : ¬ T b := by rw [hT]; rintro ⟨h1, _⟩; omega
            clear hT
            obtain ⟨x0, x1, x2, x3, x4, x5⟩ := x
            simp only [enV] at HAD HAR
            simp only at y0 y1 y2 y3 y4 y5 hxk hxk'
            go_wp2_with fail
            refine wp_region_flo (T) [] [] (by kernel_rfl) (by kernel_rfl) (fun k hk => by rw [HT.out] at hk; exact hk.2) ?_
            refine flo_seg 5 rfl ?_
            simp only [List.take_succ_cons, List.take_zero, List.drop_succ_cons, List.drop_zero]
            repeat (go_big_quiet_step (fail))
            refine wpQuiet_nil ?_
            refine flo_eff rfl rfl rfl rfl (fun K hK => ?_)
            go_wp2_with ((go_at_call 20; refine Calls.mono (HAD.out _ (HPC.out.gr (Gr.refl wr).drew)) ?_; rintro r wa ⟨rfl, hp, hm⟩; have HPA := Lib.hid hp; have HMA := Lib.hid hm; clear hp hm))
            refine ⟨by exact (HMA.out.cut (n := wr.heap.size) (Nat.le_refl _)).mono (fun k hk => .inl (by rw [HT.out]; exact hk)), ?_⟩
            refine flo_seg 5 rfl ?_
            simp only [List.take_succ_cons, List.take_zero, List.drop_succ_cons, List.drop_zero]
            repeat (go_big_quiet_step (fail))
            refine wpQuiet_nil ?_
            refine flo_eff rfl rfl rfl rfl (fun K hK => ?_)
            go_wp2_with ((go_at_call 21; refine Calls.mono (HAR.out _ HPA.out) ?_; rintro r wb ⟨rfl, hp, hm⟩; have HPB := Lib.hid hp; have HMB := Lib.hid hm; clear hp hm))
            refine ⟨by exact (HMB.out.cut (n := wa.heap.size) (Nat.le_refl _)).mono (fun k hk => (Nat.lt_or_ge k wr.heap.size).elim (fun h => .inl (by rw [HT.out]; exact ⟨hk.1, h⟩)) (fun h => .inr (.inr ⟨h, hk.2⟩))), ?_⟩
            refine flo_seg 1 rfl ?_
            simp only [List.take_succ_cons, List.take_zero, List.drop_succ_cons, List.drop_zero]
            repeat (go_big_quiet_step (fail))
            refine wpQuiet_nil ?_
            refine flo_nil ?_
            go_wp2_with fail
            go_roundw
            case rel => exact ⟨j + 1, X', all', by omega, by omega, by go_num, Lib.hid ⟨HRN.out, HPB.out⟩⟩
            case measure => simp [intOf]; omega
        · have hlt' : ¬ (j : Int) < len := by omega
          have H60 : all.length ≤ 1000 := by omega
          obtain ⟨S, hix⟩ := HR.out.2.ixp
          have hrp := HR.out.2.rp HR.out.1 H60
          have HB6 : Hid (wr.heap[b6]? = some (.cells #[.int .i64 e0, .string e1, .bool e2, .int .i64 e3, .int .i64 e4, .int .i64 e5] 53)) := Lib.hid ((HR.out.2.part (List.mem_cons_self ..)).trans (by rw [HBX.out]))
          have HNV := Lib.hid (fun y => neededV_is X y)
          have HN1 := Lib.hid (fun y W (g : Gr wr W) => Needed_any (hix.gr g) y)
          have HN2 := Lib.hid (fun y W (g : Gr wr W) => rNeeded (hrp.gr g) y)
          have HK1 : Hid (∀ s W, Gr wr W → Calls Try.prog 39 #[.pointer p, .int .i64 s] W (fun e w' => ∃ v, e = .returned (.tuple #[v, .int .i64 (keepC X s)]) ∧ Nw W w' 53 6 v (keepL X s).length (rowE (keepL X s)) ∧ Gr W w')) := Lib.hid (fun s W g => Keep_any (hix.gr g) s)
          have HK2 : Hid (∀ s W, Gr wr W → Calls Try.prog 40 #[.pointer q, .int .i64 s] W (fun e w' => ∃ v, e = .returned (.tuple #[v, .int .i64 (keepC X s)]) ∧ Nw W w' 53 6 v (keepL X s).length (rowE (keepL X s)) ∧ Gr W w')) := Lib.hid (fun s W g => rKeep (hrp.gr g) s)
          have HZ1 := Lib.hid (fun s W (g : Gr wr W) => Size_any (hix.gr g) s)
          have HZ2 := Lib.hid (fun s W (g : Gr wr W) => rSize (hrp.gr g) s)
          have HD1 := Lib.hid (fun s W (g : Gr wr W) => Redundant_any (hix.gr g) s)
          have HD2 := Lib.hid (fun s W (g : Gr wr W) => rRedundant (hrp.gr g) s)
          have HT1 := Lib.hid (fun W (g : Gr wr W) => Retired_any (hix.gr g))
          have HT2 := Lib.hid (fun W (g : Gr wr W) => rRetired (hrp.gr g))
          have HKL := Lib.hid (fun s => (keepL_ok HR.out.1.wf s).1)
          have HRL := Lib.hid (retL_le HR.out.1.wf X.slots.length)
          have hn32 := HR.out.1.wf.n
          obtain ⟨cR, hcR⟩ : ∃ c : Int, c = if X.slots = [] then 1 else 0 := ⟨_, rfl⟩
          unfold RetPost at HT1 HT2
          rw [← hcR] at HT1 HT2
          generalize retL X X.slots.length = rL at *
          generalize neededV X = nV at *
          generalize keepC X = kC at *
          generalize keepL X = kL at *
          clear hix hrp hlt hal hcR HR
          have HGZ := Lib.hid HG.out
          obtain ⟨WA, hWA⟩ : ∃ WA, WA = wr := ⟨_, rfl⟩
          rw [← hWA] at HB6 HN1 HN2 HK1 HK2 HZ1 HZ2 HD1 HD2 HT1 HT2 HGZ ⊢
          clear hWA HG HPX
          go_wp2_with fail
          go_loopw [14] (fun t14 wx => ∃ i : Int, -1 ≤ i ∧ i ≤ len ∧ t14 = .int .i64 i ∧ Hid (Gr WA wx)) (fun t14 _ => ((len : Int) - intOf t14).toNat)
          case atStart => exact ⟨-1, by omega, by omega, rfl, Lib.hid (Gr.refl _)⟩
          case round =>
            obtain ⟨i, hi1, hi2, rfl, HGr⟩ := hrel
            by_cases hlt2 : i < len
            · have HGA := Lib.hid (HGr.out.alloc (.cells #[.int .i64 0, .string ⟨#[]⟩, .bool false, .int .i64 0, .int .i64 0, .int .i64 0] 53))
              have d6 := (cellsOf (HGr.out.blk HB6.out)).1
              have z0 := (d6 0).trans (show _ = some (Value.int .i64 e0) from rfl)
              have z1 := (d6 1).trans (show _ = some (Value.string e1) from rfl)
              have z2 := (d6 2).trans (show _ = some (Value.bool e2) from rfl)
              have z3 := (d6 3).trans (show _ = some (Value.int .i64 e3) from rfl)
              have z4 := (d6 4).trans (show _ = some (Value.int .i64 e4) from rfl)
              have z5 := (d6 5).trans (show _ = some (Value.int .i64 e5) from rfl)
              clear d6
              by_cases hi0 : i = -1
              · subst hi0
                go_upto_region 20 with fail
                obtain ⟨b15, hb15⟩ : ∃ b15, b15 = wr.heap.size := ⟨_, rfl⟩
                obtain ⟨w15, hw15⟩ : ∃ w15, w15 = wr.alloc (.cells #[.int .i64 e0, .string e1, .bool e2, .int .i64 e3, .int .i64 e4, .int .i64 e5] 53) := ⟨_, rfl⟩
                have HB15 : Hid (w15.heap[b15]? = some (.cells #[.int .i64 e0, .string e1, .bool e2, .int .i64 e3, .int .i64 e4, .int .i64 e5] 53)) := Lib.hid (by rw [hb15, hw15]; exact blkNew _ _)
                have HG15 : Hid (Gr WA w15) := Lib.hid (by rw [hw15]; exact HGr.out.alloc _)
                rw [← hb15, ← hw15]
                clear hb15 hw15 z0 z1 z2 z3 z4 z5
                obtain ⟨nb, ncd, hV⟩ := HNV.out (⟨e0, e1, e2, e3, e4, e5⟩ : En)
                have hN1 := HN1.out (⟨e0, e1, e2, e3, e4, e5⟩ : En)
                have hN2 := HN2.out (⟨e0, e1, e2, e3, e4, e5⟩ : En)
                simp only [enV] at hN1 hN2
                rw [hV] at hN1 hN2
                have HNA := Lib.hid hN1
                have HNB := Lib.hid hN2
                clear hV hN1 hN2
                have d6 := (cellsOf HB15.out).1
                have z0 := (d6 0).trans (show _ = some (Value.int .i64 e0) from rfl)
                have z1 := (d6 1).trans (show _ = some (Value.string e1) from rfl)
                have z2 := (d6 2).trans (show _ = some (Value.bool e2) from rfl)
                have z3 := (d6 3).trans (show _ = some (Value.int .i64 e3) from rfl)
                have z4 := (d6 4).trans (show _ = some (Value.int .i64 e4) from rfl)
                have z5 := (d6 5).trans (show _ = some (Value.int .i64 e5) from rfl)
                clear d6
                go_wp2_with fail
                refine Calls.mono (HNA.out _ HG15.out) ?_
                rintro r w16 ⟨rfl, hg⟩
                have HG16 := Lib.hid (HG15.out.trans hg)
                have HB16 := Lib.hid (hg.blk HB15.out)
                clear hg z0 z1 z2 z3 z4 z5
                have d6 := (cellsOf HB16.out).1
                have z0 := (d6 0).trans (show _ = some (Value.int .i64 e0) from rfl)
                have z1 := (d6 1).trans (show _ = some (Value.string e1) from rfl)
                have z2 := (d6 2).trans (show _ = some (Value.bool e2) from rfl)
                have z3 := (d6 3).trans (show _ = some (Value.int .i64 e3) from rfl)
                have z4 := (d6 4).trans (show _ = some (Value.int .i64 e4) from rfl)
                have z5 := (d6 5).trans (show _ = some (Value.int .i64 e5) from rfl)
                clear d6
                go_wp2_with fail
                refine Calls.mono (HNB.out _ HG16.out) ?_
                rintro r w17 ⟨rfl, hg⟩
                have HG17 := Lib.hid (HG16.out.trans hg)
                clear hg z0 z1 z2 z3 z4 z5
                go_wp2_with fail
                go_roundw
                case rel => exact ⟨0, by omega, by omega, by first | rfl | go_num, HG17⟩
                case measure => first | (simp [intOf]; done) | (simp [intOf]; omega)
              · obtain ⟨m, rfl⟩ : ∃ m : Nat, i = m := ⟨i.toNat, by omega⟩
                have hm0 : ¬ ((m : Int) < 0) := by omega
                obtain ⟨x, hx⟩ : ∃ x, L[m]? = some x := ⟨_, List.getElem?_eq_getElem (by rw [hl]; omega)⟩
                go_upto_region 18 with fail
                obtain ⟨b15, hb15⟩ : ∃ b15, b15 = wr.heap.size := ⟨_, rfl⟩
                obtain ⟨wE, hwE⟩ : ∃ wE, wE = wr.alloc (.cells #[.int .i64 e0, .string e1, .bool e2, .int .i64 e3, .int .i64 e4, .int .i64 e5] 53) := ⟨_, rfl⟩
                have HBE : Hid (wE.heap[b15]? = some (.cells #[.int .i64 e0, .string e1, .bool e2, .int .i64 e3, .int .i64 e4, .int .i64 e5] 53)) := Lib.hid (by rw [hb15, hwE]; exact blkNew _ _)
                have HGE : Hid (Gr WA wE) := Lib.hid (by rw [hwE]; exact HGr.out.alloc _)
                have HNW : Hid (WA.heap.size ≤ b15) := Lib.hid (by rw [hb15]; exact HGr.out.sz)
                rw [← hb15, ← hwE]
                clear hb15 hwE z0 z1 z2 z3 z4 z5
                obtain ⟨b, off, rfl, hb, y0, y1, y2, y3, y4, y5, _, _⟩ := HS.out.at hx (HGZ.out.trans HGE.out)
                clear hx
                obtain ⟨x0, x1, x2, x3, x4, x5⟩ := x
                simp only at y0 y1 y2 y3 y4 y5
                obtain ⟨d15, f15⟩ := cellsOf HBE.out
                go_upto_region 20 with fail
                obtain ⟨w15, hw15⟩ : ∃ w15, w15 = ((((((wE.setCell ⟨b15, 0, none⟩ (.int .i64 x0)).setCell ⟨b15, 1, none⟩ (.string x1)).setCell ⟨b15, 2, none⟩ (.bool x2)).setCell ⟨b15, 3, none⟩ (.int .i64 x3)).setCell ⟨b15, 4, none⟩ (.int .i64 x4)).setCell ⟨b15, 5, none⟩ (.int .i64 x5)) := ⟨_, rfl⟩
                have HB15 : Hid (w15.heap[b15]? = some (.cells #[.int .i64 x0, .string x1, .bool x2, .int .i64 x3, .int .i64 x4, .int .i64 x5] 53)) := Lib.hid (by rw [hw15]; exact blk6 HBE.out)
                have HG15 : Hid (Gr WA w15) := Lib.hid (by rw [hw15]; exact HGE.out.cell6 HNW.out _ _ _ _ _ _)
                rw [← hw15]
                clear hw15 y0 y1 y2 y3 y4 y5 d15 f15
                obtain ⟨nb, ncd, hV⟩ := HNV.out (⟨x0, x1, x2, x3, x4, x5⟩ : En)
                have hN1 := HN1.out (⟨x0, x1, x2, x3, x4, x5⟩ : En)
                have hN2 := HN2.out (⟨x0, x1, x2, x3, x4, x5⟩ : En)
                simp only [enV] at hN1 hN2
                rw [hV] at hN1 hN2
                have HNA := Lib.hid hN1
                have HNB := Lib.hid hN2
                clear hV hN1 hN2
                have d6 := (cellsOf HB15.out).1
                have z0 := (d6 0).trans (show _ = some (Value.int .i64 x0) from rfl)
                have z1 := (d6 1).trans (show _ = some (Value.string x1) from rfl)
                have z2 := (d6 2).trans (show _ = some (Value.bool x2) from rfl)
                have z3 := (d6 3).trans (show _ = some (Value.int .i64 x3) from rfl)
                have z4 := (d6 4).trans (show _ = some (Value.int .i64 x4) from rfl)
                have z5 := (d6 5).trans (show _ = some (Value.int .i64 x5) from rfl)
                clear d6
                go_wp2_with fail
                refine Calls.mono (HNA.out _ HG15.out) ?_
                rintro r w16 ⟨rfl, hg⟩
                have HG16 := Lib.hid (HG15.out.trans hg)
                have HB16 := Lib.hid (hg.blk HB15.out)
                clear hg z0 z1 z2 z3 z4 z5
                have d6 := (cellsOf HB16.out).1
                have z0 := (d6 0).trans (show _ = some (Value.int .i64 x0) from rfl)
                have z1 := (d6 1).trans (show _ = some (Value.string x1) from rfl)
                have z2 := (d6 2).trans (show _ = some (Value.bool x2) from rfl)
                have z3 := (d6 3).trans (show _ = some (Value.int .i64 x3) from rfl)
                have z4 := (d6 4).trans (show _ = some (Value.int .i64 x4) from rfl)
                have z5 := (d6 5).trans (show _ = some (Value.int .i64 x5) from rfl)
                clear d6
                go_wp2_with fail
                refine Calls.mono (HNB.out _ HG16.out) ?_
                rintro r w17 ⟨rfl, hg⟩
                have HG17 := Lib.hid (HG16.out.trans hg)
                clear hg z0 z1 z2 z3 z4 z5
                go_wp2_with fail
                go_roundw
                case rel => exact ⟨(m : Int) + 1, by omega, by omega, by first | rfl | go_num, HG17⟩
                case measure => first | (simp [intOf]; done) | (simp [intOf]; omega)
            · have hlt3 : ¬ i < (len : Int) := hlt2
              go_wp2_with fail
              obtain ⟨WB, hWB⟩ : ∃ WB, WB = wr := ⟨_, rfl⟩
              have HGB0 := HGr
              clear hlt2 hlt3 hi1 hi2
              go_loopw [20] (fun t20 wx => ∃ i : Int, -1 ≤ i ∧ i ≤ 33 ∧ t20 = .int .i64 i ∧ Hid (Gr WA wx)) (fun t20 _ => (33 - intOf t20).toNat)
              case atStart => exact ⟨-1, by omega, by omega, rfl, HGB0⟩
              case round =>
                clear HGr HGB0 hWB
                obtain ⟨i, hi1, hi2, rfl, HGr⟩ := hrel
                by_cases hc1 : i ≤ slots
                · by_cases hc2 : i < 33
                  · by_cases hi0 : i = -1
                    · subst hi0
                      have hD1 := HD1.out (slot)
                      have hD2 := HD2.out (slot)
                      obtain ⟨bD, hbD⟩ : ∃ b : Bool, b = decide (kC (slot) = 0 ∧ kL (slot) = []) := ⟨_, rfl⟩
                      rw [← hbD] at hD1 hD2
                      have HDA := Lib.hid hD1
                      have HDB := Lib.hid hD2
                      clear hD1 hD2 hbD
                      go_wp2_with fail
                      refine Calls.mono (HK1.out (slot) _ HGr.out) ?_
                      rintro r w21 ⟨v1, rfl, hn, hg⟩
                      have HNA := Lib.hid hn
                      have HGA := Lib.hid (HGr.out.trans hg)
                      clear hn hg
                      go_wp2_with fail
                      refine Calls.mono (HK2.out slot _ HGA.out) ?_
                      rintro r w22 ⟨v2, rfl, hn, hg⟩
                      have HOA := Lib.hid (HNA.out.own.gr hg)
                      have HOB := Lib.hid hn.own
                      have HGB := Lib.hid (HGA.out.trans hg)
                      clear hn hg HNA HGA
                      go_wp2_with fail
                      refine Calls.mono (HZ1.out slot _ HGB.out) ?_
                      rintro r w23 ⟨rfl, hg⟩
                      have HOA3 := Lib.hid (HOA.out.gr hg)
                      have HOB3 := Lib.hid (HOB.out.gr hg)
                      have HGC := Lib.hid (HGB.out.trans hg)
                      clear hg HOA HOB HGB
                      go_wp2_with fail
                      refine Calls.mono (HZ2.out slot _ HGC.out) ?_
                      rintro r w24 ⟨rfl, hg⟩
                      have HOA4 := Lib.hid (HOA3.out.gr hg)
                      have HOB4 := Lib.hid (HOB3.out.gr hg)
                      have HGD := Lib.hid (HGC.out.trans hg)
                      clear hg HOA3 HOB3 HGC
                      go_wp2_with fail
                      refine Calls.mono (HDA.out _ HGD.out) ?_
                      rintro r w25 ⟨rfl, hg⟩
                      have HOA5 := Lib.hid (HOA4.out.gr hg)
                      have HOB5 := Lib.hid (HOB4.out.gr hg)
                      have HGE := Lib.hid (HGD.out.trans hg)
                      clear hg HOA4 HOB4 HGD
                      go_wp2_with fail
                      refine Calls.mono (HDB.out _ HGE.out) ?_
                      rintro r w26 ⟨rfl, hg⟩
                      have HOA6 := Lib.hid (HOA5.out.gr hg)
                      have HOB6 := Lib.hid (HOB5.out.gr hg)
                      have HGF := Lib.hid (HGE.out.trans hg)
                      clear hg HOA5 HOB5 HGE
                      have HSAME := Lib.hid (SameE (kL (slot)) (kL (slot)) v1 v2 w26 HOA6.out HOB6.out (by have := HKL.out slot; omega))
                      rw [decide_eq_true rfl] at HSAME
                      generalize sumZ (kL slot) = sZ
                      generalize kC slot = kc
                      clear HOA6 HOB6
                      go_wp2_with fail
                      refine Calls.mono HSAME.out ?_
                      rintro r w27 ⟨rfl, hg⟩
                      have HGG := Lib.hid (HGF.out.trans hg)
                      clear hg
                      go_wp2_with fail
                      go_roundw
                      case rel => exact ⟨0, by omega, by omega, by first | rfl | go_num, HGG⟩
                      case measure => first | (simp [intOf]; done) | (simp [intOf]; omega)
                    · have hi3 : ¬ i < 0 := by omega
                      have hD1 := HD1.out (i)
                      have hD2 := HD2.out (i)
                      obtain ⟨bD, hbD⟩ : ∃ b : Bool, b = decide (kC (i) = 0 ∧ kL (i) = []) := ⟨_, rfl⟩
                      rw [← hbD] at hD1 hD2
                      have HDA := Lib.hid hD1
                      have HDB := Lib.hid hD2
                      clear hD1 hD2 hbD
                      go_wp2_with fail
                      refine Calls.mono (HK1.out (i) _ HGr.out) ?_
                      rintro r w21 ⟨v1, rfl, hn, hg⟩
                      have HNA := Lib.hid hn
                      have HGA := Lib.hid (HGr.out.trans hg)
                      clear hn hg
                      go_wp2_with fail
                      refine Calls.mono (HK2.out i _ HGA.out) ?_
                      rintro r w22 ⟨v2, rfl, hn, hg⟩
                      have HOA := Lib.hid (HNA.out.own.gr hg)
                      have HOB := Lib.hid hn.own
                      have HGB := Lib.hid (HGA.out.trans hg)
                      clear hn hg HNA HGA
                      go_wp2_with fail
                      refine Calls.mono (HZ1.out i _ HGB.out) ?_
                      rintro r w23 ⟨rfl, hg⟩
                      have HOA3 := Lib.hid (HOA.out.gr hg)
                      have HOB3 := Lib.hid (HOB.out.gr hg)
                      have HGC := Lib.hid (HGB.out.trans hg)
                      clear hg HOA HOB HGB
                      go_wp2_with fail
                      refine Calls.mono (HZ2.out i _ HGC.out) ?_
                      rintro r w24 ⟨rfl, hg⟩
                      have HOA4 := Lib.hid (HOA3.out.gr hg)
                      have HOB4 := Lib.hid (HOB3.out.gr hg)
                      have HGD := Lib.hid (HGC.out.trans hg)
                      clear hg HOA3 HOB3 HGC
                      go_wp2_with fail
                      refine Calls.mono (HDA.out _ HGD.out) ?_
                      rintro r w25 ⟨rfl, hg⟩
                      have HOA5 := Lib.hid (HOA4.out.gr hg)
                      have HOB5 := Lib.hid (HOB4.out.gr hg)
                      have HGE := Lib.hid (HGD.out.trans hg)
                      clear hg HOA4 HOB4 HGD
                      go_wp2_with fail
                      refine Calls.mono (HDB.out _ HGE.out) ?_
                      rintro r w26 ⟨rfl, hg⟩
                      have HOA6 := Lib.hid (HOA5.out.gr hg)
                      have HOB6 := Lib.hid (HOB5.out.gr hg)
                      have HGF := Lib.hid (HGE.out.trans hg)
                      clear hg HOA5 HOB5 HGE
                      have HSAME := Lib.hid (SameE (kL (i)) (kL (i)) v1 v2 w26 HOA6.out HOB6.out (by have := HKL.out i; omega))
                      rw [decide_eq_true rfl] at HSAME
                      generalize sumZ (kL i) = sZ
                      generalize kC i = kc
                      clear HOA6 HOB6
                      go_wp2_with fail
                      refine Calls.mono HSAME.out ?_
                      rintro r w27 ⟨rfl, hg⟩
                      have HGG := Lib.hid (HGF.out.trans hg)
                      clear hg
                      go_wp2_with fail
                      go_roundw
                      case rel => exact ⟨i + 1, by omega, by omega, by first | rfl | go_num, HGG⟩
                      case measure => first | (simp [intOf]; done) | (simp [intOf]; omega)
                  · have hc3 : i = 33 := by omega
                    subst hc3
                    go_wp2_with fail
                    refine Calls.mono (HT1.out _ HGr.out) ?_
                    rintro r w31 ⟨v1, rfl, hn, hg⟩
                    have HNA := Lib.hid hn
                    have HGA := Lib.hid (HGr.out.trans hg)
                    clear hn hg
                    go_wp2_with fail
                    refine Calls.mono (HT2.out _ HGA.out) ?_
                    rintro r w32 ⟨v2, rfl, hn, hg⟩
                    have HOA := Lib.hid (HNA.out.own.gr hg)
                    have HOB := Lib.hid hn.own
                    have HGB := Lib.hid (HGA.out.trans hg)
                    clear hn hg HNA HGA
                    have HSAME := Lib.hid (SameE rL rL v1 v2 w32 HOA.out HOB.out (by have := HRL.out; omega))
                    rw [decide_eq_true rfl] at HSAME
                    go_wp2_with fail
                    refine Calls.mono HSAME.out ?_
                    rintro r w33 ⟨rfl, hg⟩
                    have HGC := Lib.hid (HGB.out.trans hg)
                    clear hg
                    go_wp2_with fail
                    refine (lv_works _).mono ?_
                    rintro r w34 ⟨rfl, hg⟩
                    have HGD := Lib.hid (HGC.out.trans hg)
                    clear hg
                    go_wp2_with fail
                    go_ret
                    exact ⟨rfl, HGZ.out.trans HGD.out⟩
                · go_wp2_with fail
                  refine Calls.mono (HT1.out _ HGr.out) ?_
                  rintro r w31 ⟨v1, rfl, hn, hg⟩
                  have HNA := Lib.hid hn
                  have HGA := Lib.hid (HGr.out.trans hg)
                  clear hn hg
                  go_wp2_with fail
                  refine Calls.mono (HT2.out _ HGA.out) ?_
                  rintro r w32 ⟨v2, rfl, hn, hg⟩
                  have HOA := Lib.hid (HNA.out.own.gr hg)
                  have HOB := Lib.hid hn.own
                  have HGB := Lib.hid (HGA.out.trans hg)
                  clear hn hg HNA HGA
                  have HSAME := Lib.hid (SameE rL rL v1 v2 w32 HOA.out HOB.out (by have := HRL.out; omega))
                  rw [decide_eq_true rfl] at HSAME
                  go_wp2_with fail
                  refine Calls.mono HSAME.out ?_
                  rintro r w33 ⟨rfl, hg⟩
                  have HGC := Lib.hid (HGB.out.trans hg)
                  clear hg
                  go_wp2_with fail
                  refine (lv_works _).mono ?_
                  rintro r w34 ⟨rfl, hg⟩
                  have HGD := Lib.hid (HGC.out.trans hg)
                  clear hg
                  go_wp2_with fail
                  go_ret
                  exact ⟨rfl, HGZ.out.trans HGD.out⟩
end Go.Proofs.Ytmdfickejpeofaa

/- A struct of five one-cell fields by value: the howto's block (extra-structs, 2), copied as it directs. -/
set_option linter.unusedVariables false
set_option linter.unusedSimpArgs false
namespace Go.Proofs.Ytmdfickejpeofaa
open Go.Joins Go.ChangeShapes Go.WideShapes Go.RowKit Go.Deep
section
variable {H : Type} {enc : TypeId × Value → H} {P : Program} {w : World} {base : Nat} {spare : Nat → Bool} {held : Bool}
theorem open_agg5 {r : Reach} {b0 : Nat} {t : TypeId} {f0 f1 f2 f3 f4 : Field} {v : Value} {d : DataW H} {p : List MemPlace} (hs : P.underlying t = some (.struct #[f0, f1, f2, f3, f4])) (hone : oneCellFields P #[f0, f1, f2, f3, f4] = true) (hC : P.cellsOf t = 5)
    (hv : Value.okWide P w r b0 t v) (h : DataW.Trod enc P w base spare held t v d p) :
    ∃ (v0 v1 v2 v3 v4 : Value) (y0 y1 y2 y3 y4 : DataW H × List MemPlace) (n : Nat), v = .agg #[v0, v1, v2, v3, v4] ∧ d = .agg [y0.1, y1.1, y2.1, y3.1, y4.1] ∧ p = y0.2 ++ (y1.2 ++ (y2.2 ++ (y3.2 ++ y4.2))) ∧
      DataW.trod enc P w base spare held n f0.type [v0] = some y0 ∧ DataW.trod enc P w base spare held n f1.type [v1] = some y1 ∧ DataW.trod enc P w base spare held n f2.type [v2] = some y2 ∧ DataW.trod enc P w base spare held n f3.type [v3] = some y3 ∧ DataW.trod enc P w base spare held n f4.type [v4] = some y4 := by
  obtain ⟨cs, rfl, hsz⟩ := okWide_struct hs hv
  obtain ⟨l⟩ := cs
  match l, hsz.trans hC with
  | [c0, c1, c2, c3, c4], _ =>
    obtain ⟨fuel, hf⟩ := h
    obtain ⟨xs, n, _, hx, _, hlen, hg⟩ := DataW.trod_struct hs hf
    obtain ⟨o0, k0⟩ := hone_of hone 0 f0 rfl
    obtain ⟨o1, k1⟩ := hone_of hone 1 f1 rfl
    obtain ⟨o2, k2⟩ := hone_of hone 2 f2 rfl
    obtain ⟨o3, k3⟩ := hone_of hone 3 f3 rfl
    obtain ⟨o4, k4⟩ := hone_of hone 4 f4 rfl
    match xs, hlen with
    | [y0, y1, y2, y3, y4], _ =>
      simp only [Prod.mk.injEq] at hx
      exact ⟨c0, c1, c2, c3, c4, y0, y1, y2, y3, y4, n, rfl, by simpa using hx.1, by simpa using hx.2, by simpa [Value.cells, o0, k0] using hg 0 f0 rfl, by simpa [Value.cells, o1, k1] using hg 1 f1 rfl, by simpa [Value.cells, o2, k2] using hg 2 f2 rfl, by simpa [Value.cells, o3, k3] using hg 3 f3 rfl, by simpa [Value.cells, o4, k4] using hg 4 f4 rfl⟩
theorem open_agg6 {r : Reach} {b0 : Nat} {t : TypeId} {f0 f1 f2 f3 f4 f5 : Field} {v : Value} {d : DataW H} {p : List MemPlace} (hs : P.underlying t = some (.struct #[f0, f1, f2, f3, f4, f5])) (hone : oneCellFields P #[f0, f1, f2, f3, f4, f5] = true) (hC : P.cellsOf t = 6)
    (hv : Value.okWide P w r b0 t v) (h : DataW.Trod enc P w base spare held t v d p) :
    ∃ (v0 v1 v2 v3 v4 v5 : Value) (y0 y1 y2 y3 y4 y5 : DataW H × List MemPlace) (n : Nat), v = .agg #[v0, v1, v2, v3, v4, v5] ∧ d = .agg [y0.1, y1.1, y2.1, y3.1, y4.1, y5.1] ∧ p = y0.2 ++ (y1.2 ++ (y2.2 ++ (y3.2 ++ (y4.2 ++ y5.2)))) ∧
      DataW.trod enc P w base spare held n f0.type [v0] = some y0 ∧ DataW.trod enc P w base spare held n f1.type [v1] = some y1 ∧ DataW.trod enc P w base spare held n f2.type [v2] = some y2 ∧ DataW.trod enc P w base spare held n f3.type [v3] = some y3 ∧ DataW.trod enc P w base spare held n f4.type [v4] = some y4 ∧ DataW.trod enc P w base spare held n f5.type [v5] = some y5 := by
  obtain ⟨cs, rfl, hsz⟩ := okWide_struct hs hv
  obtain ⟨l⟩ := cs
  match l, hsz.trans hC with
  | [c0, c1, c2, c3, c4, c5], _ =>
    obtain ⟨fuel, hf⟩ := h
    obtain ⟨xs, n, _, hx, _, hlen, hg⟩ := DataW.trod_struct hs hf
    obtain ⟨o0, k0⟩ := hone_of hone 0 f0 rfl
    obtain ⟨o1, k1⟩ := hone_of hone 1 f1 rfl
    obtain ⟨o2, k2⟩ := hone_of hone 2 f2 rfl
    obtain ⟨o3, k3⟩ := hone_of hone 3 f3 rfl
    obtain ⟨o4, k4⟩ := hone_of hone 4 f4 rfl
    obtain ⟨o5, k5⟩ := hone_of hone 5 f5 rfl
    match xs, hlen with
    | [y0, y1, y2, y3, y4, y5], _ =>
      simp only [Prod.mk.injEq] at hx
      exact ⟨c0, c1, c2, c3, c4, c5, y0, y1, y2, y3, y4, y5, n, rfl, by simpa using hx.1, by simpa using hx.2, by simpa [Value.cells, o0, k0] using hg 0 f0 rfl, by simpa [Value.cells, o1, k1] using hg 1 f1 rfl, by simpa [Value.cells, o2, k2] using hg 2 f2 rfl, by simpa [Value.cells, o3, k3] using hg 3 f3 rfl, by simpa [Value.cells, o4, k4] using hg 4 f4 rfl, by simpa [Value.cells, o5, k5] using hg 5 f5 rfl⟩
end
end Go.Proofs.Ytmdfickejpeofaa
