/- ledger.All: the bytes of all slots. -/
import Derived.Test.YtmdfickejpeofaaBd14
import Derived.Test.YtmdfickejpeofaaBd11
import Derived.Test.YtmdfickejpeofaaBd13
set_option linter.unusedVariables false
set_option linter.unusedSimpArgs false
namespace Go.Proofs.Ytmdfickejpeofaa
open Go.RowKit Go.Shelf
attribute [local go_sem] OvM cell_ovm obj_ovm
attribute [local go_sem] Oper.semAt_some

theorem infoBy : (Try.prog.info? 56).map (fun i => (i.zero, i.size, i.bytes)) = some (some (.agg #[.int .i64 0, .int .i64 0, .int .i64 0, .int .i64 0, .int .i64 0]), 5, 40) := by kernel_rfl
def cellsBy (b : By) : List Value := [.int .i64 b.total, .int .i64 b.live, .int .i64 b.tombs, .int .i64 b.dead, .int .i64 b.last]
def rowBy (l : List By) : List Value := l.flatMap cellsBy
def allL (X : IX) (n : Nat) : List By := (List.range n).map fun i => byOf X (i : Nat)
theorem allL_succ (X : IX) (n : Nat) : allL X (n + 1) = allL X n ++ [byOf X n] := by simp [allL, List.range_succ]
theorem rowBy_snoc (l : List By) (b : By) : rowBy (l ++ [b]) = rowBy l ++ cellsBy b := by simp [rowBy]
def AllPost (X : IX) (w : World) (e : Ending) (w' : World) : Prop :=
  ∃ v, e = .returned (.tuple #[v, .int .i64 (if X.slots.length = 0 then 1 else 0)]) ∧ Nw w w' 56 5 v X.slots.length (rowBy (allL X X.slots.length)) ∧ Gr w w'
theorem Nw.nil (w : World) (e : TypeId) (K : Nat) : Nw w w e K (.slice none 0 0) 0 [] := ⟨Own.lift (World.ownsRow_nil w w.heap.size e K), fun q hq => by cases hq⟩
set_option maxRecDepth 40000 in
set_option maxHeartbeats 4000000 in
theorem All_any {w : World} {p : Option Addr} {X : IX} {S : Nat → Prop} (h : IXP w p X S) : Calls Try.prog 26 #[.pointer p] w (AllPost X w) := by
  have H := Lib.hid h
  have h32 := h.ok.n
  obtain ⟨n, hn⟩ : ∃ n : Nat, n = X.slots.length := ⟨_, rfl⟩
  have HSL : Hid (∀ w1, Gr w w1 → Calls Try.prog 87 #[.pointer p] w1 fun e w' => e = .returned (.int .i64 n) ∧ w1 = w') := Lib.hid (fun w1 g => by rw [hn]; exact Slots_any (h.gr g))
  have HAP : Hid (∀ v w', Nw w w' 56 5 v n (rowBy (allL X n)) → Gr w w' → AllPost X w (.returned (.tuple #[v, .int .i64 (if n = 0 then 1 else 0)])) w') := Lib.hid (by rw [hn]; exact fun v w' h1 h2 => ⟨v, rfl, h1, h2⟩)
  rw [← hn] at h32
  obtain ⟨i0, hi, hz0, hz1, hz2⟩ := info_parts infoBy
  generalize AllPost X w = Q at *
  clear h hn
  go_enter Try.func26, Try.ntmps26
  by_cases hz : n = 0
  · subst hz
    go_wp2_with (go_at_call 87; refine (HSL.out _ (Gr.refl _)).mono ?_; rintro e w1 ⟨rfl, rfl⟩)
    exact HAP.out _ _ (Nw.nil w _ _) (Gr.refl _)
  · have hz' : decide ((n : Int) = 0) = false := by simpa using hz
    go_wp2_with (go_at_call 87; refine (HSL.out _ (Gr.refl _)).mono ?_; rintro e w1 ⟨rfl, rfl⟩)
    go_loopw [4, 11] (fun t4 t11 wx => ∃ (j : Nat) (v : Value), j ≤ n ∧ v = t4 ∧ t11 = .int .i64 j ∧ Hid (Nw w wx 56 5 v j (rowBy (allL X j)) ∧ Gr w wx)) (fun _ t11 _ => n - (intOf t11).toNat)
    case atStart => exact ⟨0, _, by omega, rfl, rfl, Lib.hid ⟨Nw.nil w _ _, Gr.refl _⟩⟩
    case round =>
      obtain ⟨j, v, hj, rfl, rfl, HR⟩ := hrel
      by_cases hlt : j < n
      · have hlt' : (j : Int) < n := by omega
        have HROW : Hid (rowBy (allL X (j + 1)) = rowBy (allL X j) ++ cellsBy (byOf X j)) := Lib.hid (by rw [allL_succ, rowBy_snoc])
        go_wp2_with (first
          | (go_at_call 88; refine (of_any (H.out.gr HR.out.2) j).mono ?_; rintro e w1 ⟨rfl, hg⟩; generalize byOf X j = y at *; obtain ⟨y0, y1, y2, y3, y4⟩ := y; simp only [byV]; have N1 := Lib.hid (HR.out.1.gr hg); have HG1 := Lib.hid (HR.out.2.trans hg); clear hg)
          | (at_builtin; go_must (refine wpList_appv _ rfl (.tmp 14) (.tmp 18) 64 rfl 56 i0 _ 5 40 Try.underlying64 hi hz0 hz1 hz2 rfl (by decide) v j (rowBy (allL X j)) rfl (N1.out.own.gr (by (repeat (first | (with_reducible exact Gr.refl _) | assumption | (with_reducible apply Gr.from_drew) | (with_reducible apply Gr.alloc) | (with_reducible apply Gr.drew) | (with_reducible refine Gr.trans ?_ (by assumption)) | (with_reducible refine Gr.setCell ?_ (by omega) _))))) (some ⟨w1.heap.size, 0, none⟩) 1 1 (cellsBy ⟨y0, y1, y2, y3, y4⟩) rfl (src_newK w1 (cellsBy ⟨y0, y1, y2, y3, y4⟩) _ 5 rfl (by simp [cellsBy, Value.oneCell'])) (by simp only [maxLen]; omega) (by omega) ?_); intro v2 w2 hA; have N2 := Lib.hid (hA.nw (N1.out.gr ((Gr.refl w1).alloc _)) (by have := HG1.out.sz; simp; omega)); have HG2 := Lib.hid (hA.gw (N1.out.gr ((Gr.refl w1).alloc _)) (HG1.out.alloc _)); clear hA)
          | fail)
        go_roundw
        case rel => exact ⟨j + 1, v2, by omega, rfl, by go_num, Lib.hid ⟨by rw [HROW.out]; exact N2.out, HG2.out⟩⟩
        case measure => simp [intOf]; omega
      · have hlt' : ¬ (j : Int) < n := by omega
        have hjn : j = n := by omega
        subst hjn
        go_wp2
        have := HAP.out _ _ HR.out.1 HR.out.2
        rwa [if_neg hz] at this
end Go.Proofs.Ytmdfickejpeofaa

/- drumlinref21's Of: again and again the best of what is left. -/
set_option linter.unusedVariables false
set_option linter.unusedSimpArgs false
namespace Go.Proofs.Ytmdfickejpeofaa
open Go.RowKit Go.Shelf
attribute [local go_sem] OvM cell_ovm obj_ovm
attribute [local go_sem] Oper.semAt_some

theorem fil_key {k : ByteArray} {all : List En} {i : Nat} {x : En} (h : all[i]? = some x) : (all.take (i + 1)).filter (keyF k) = (all.take i).filter (keyF k) ++ (if x.key = k then [x] else []) := by
  rw [List.take_add_one, h]
  show ((all.take i) ++ [x]).filter (keyF k) = _
  rw [List.filter_append]
  by_cases e : x.key = k
  · rw [if_pos e]; simp [keyF, e]
  · rw [if_neg e]; simp [keyF, e]
def OfP (X : IX) (k : ByteArray) (w : World) (e : Ending) (w' : World) : Prop := ∃ v, e = .returned v ∧ Nw w w' 53 6 v (X.of k).length (rowE (X.of k)) ∧ Gr w w'
set_option maxRecDepth 40000 in
set_option maxHeartbeats 8000000 in
theorem rOf_any {w : World} {rb : Nat} {N : Int} {v : Value} {all : List En} {X : IX} (h : w.heap[rb]? = some (rmO N v)) (hN : 0 < N) (ho : Own w 53 6 v all.length (rowE all)) (hw : X.Wf) (hp : all.Perm X.ents) (h1000 : all.length ≤ 1000) (k : ByteArray) :
    Calls Try.prog 108 #[.pointer (some ⟨rb, 0, none⟩), .string k] w (OfP X k w) := by
  have HB := Lib.hid h
  have HO := Lib.hid ho
  have HV := Lib.hid (fun W (g : Gr w W) => rvalid (g.blk h) hN)
  have HL := Lib.hid (of_left hw hp k)
  have HPW := Lib.hid (hw.ofPair k)
  have HOL := Lib.hid (hw.of_le k)
  obtain ⟨a, c, rfl, hc, hm, _⟩ := ownE_at ho
  unfold maxLen at hm
  obtain ⟨i0, hi, hz0, hz1, hz2⟩ := info_parts infoIten
  clear h ho hw hp
  go_enter Try.func108, Try.ntmps108
  go_wp2_with (go_at_call 85; refine Calls.mono (HV.out _ (Gr.refl _)) ?_; rintro e w1 ⟨rfl, rfl⟩)
  go_loopw [6, 7] (fun t6 t7 wx => ∃ (i : Nat) (v : Value), i ≤ all.length ∧ v = t6 ∧ t7 = .int .i64 i ∧ Hid (Nw w wx 53 6 v ((all.take i).filter (keyF k)).length (rowE ((all.take i).filter (keyF k))) ∧ Gr w wx)) (fun _ t7 _ => all.length - (intOf t7).toNat)
  case atStart => exact ⟨0, _, by omega, rfl, rfl, Lib.hid ⟨Nw.nil w _ _, Gr.refl _⟩⟩
  case round =>
    obtain ⟨i, v, hil, rfl, rfl, HR⟩ := hrel
    have c1 := ((cellsOf (HR.out.2.blk HB.out)).1 1).trans (show _ = some (Value.slice a all.length c) from rfl)
    by_cases hlt : i < all.length
    · have hlt' : (i : Int) < all.length := by omega
      obtain ⟨x, hx⟩ : ∃ x, all[i]? = some x := ⟨_, List.getElem?_eq_getElem hlt⟩
      obtain ⟨g0, rfl, hg0, y0, y1, y2, y3, y4, y5⟩ := ent6 (HO.out.gr HR.out.2) hx
      have HTK := Lib.hid (fil_key (k := k) hx)
      have hfl : ((all.take i).filter (keyF k)).length ≤ i := by
        have h1 := List.length_filter_le (keyF k) (all.take i)
        have h2 : (all.take i).length ≤ i := by rw [List.length_take]; omega
        omega
      generalize (all.take i).filter (keyF k) = fl at *
      clear hx
      obtain ⟨x0, x1, x2, x3, x4, x5⟩ := x
      simp only at y0 y1 y2 y3 y4 y5 HTK
      by_cases hk : x1 = k
      · subst hk
        go_wp2_with (first
          | (at_builtin; go_must (refine wpList_appv _ rfl (.tmp 31) (.tmp 39) 45 rfl 53 i0 _ 6 56 Try.underlying45 hi hz0 hz1 hz2 rfl (by decide) v fl.length (rowE fl) rfl (HR.out.1.own.gr (by (repeat (first | (with_reducible exact Gr.refl _) | assumption | (with_reducible apply Gr.from_drew) | (with_reducible apply Gr.alloc) | (with_reducible apply Gr.drew) | (with_reducible refine Gr.trans ?_ (by assumption)) | (with_reducible refine Gr.setCell ?_ (by omega) _))))) (some ⟨wr.heap.size, 0, none⟩) 1 1 (enC ⟨x0, x1, x2, x3, x4, x5⟩) rfl (src_newK wr (enC ⟨x0, x1, x2, x3, x4, x5⟩) _ 6 rfl (enC_one _)) (by simp only [maxLen]; omega) (by omega) ?_); intro v3 w6 hA; have N6 := Lib.hid (hA.nw (HR.out.1.gr ((Gr.refl wr).alloc _)) (by have := HR.out.2.sz; simp; omega)); have HG6 := Lib.hid (hA.gw (HR.out.1.gr ((Gr.refl wr).alloc _)) (HR.out.2.alloc _)); clear hA)
          | fail)
        go_roundw
        case rel => exact ⟨i + 1, v3, by omega, rfl, by go_num, Lib.hid ⟨by rw [HTK.out, if_pos rfl, List.length_append, rowE_snoc]; exact N6.out, HG6.out⟩⟩
        case measure => simp [intOf]; omega
      · have hkb : (x1.toList == k.toList) = false := (str_beq x1 k).trans (decide_eq_false hk)
        go_wp2_with fail
        go_roundw
        case rel => exact ⟨i + 1, v, by omega, rfl, by go_num, Lib.hid ⟨by rw [HTK.out, if_neg hk, List.append_nil]; exact HR.out.1, HR.out.2⟩⟩
        case measure => simp [intOf]; omega
    · have hlt' : ¬ (i : Int) < all.length := by omega
      have hii : i = all.length := by omega
      have HN0 := Lib.hid HR.out.1
      rw [hii, List.take_length] at HN0
      have HG0 := Lib.hid HR.out.2
      clear HR hii
      have hll : (all.filter (keyF k)).length ≤ 1000 := by
        have := List.length_filter_le (keyF k) all
        omega
      generalize all.filter (keyF k) = L0 at *
      go_wp2_with fail
      go_loopw [5, 6] (fun t5 t6 wx => ∃ (out left : List En) (v5 v6 : Value), v5 = t5 ∧ v6 = t6 ∧ Hid (Nw w wx 53 6 v5 out.length (rowE out) ∧ Nw w wx 53 6 v6 left.length (rowE left) ∧ Gr w wx ∧ (∀ q, v5.ownBlock = some q → v6.ownBlock ≠ some q) ∧ ∃ D, X.of k = out ++ D ∧ left.Perm D ∧ left.length ≤ 1000)) (fun _ t6 _ => match t6 with | .slice _ m _ => m | _ => 0)
      case atStart => exact ⟨[], L0, _, _, rfl, rfl, Lib.hid ⟨(Nw.nil w _ _).gr HG0.out, HN0.out, HG0.out, (fun q h => by cases h), X.of k, rfl, HL.out, hll⟩⟩
      case round =>
        obtain ⟨out, left, v5, v6, rfl, rfl, HI⟩ := hrel
        obtain ⟨a6, c6, rfl, hc6, hm6, _⟩ := ownE_at HI.out.2.1.own
        have hm62 := hm6
        unfold maxLen at hm62
        obtain ⟨D, hD1, hD2, hD3⟩ := HI.out.2.2.2.2
        have HD := Lib.hid (And.intro hD1 (And.intro hD2 hD3))
        clear hD1 hD2
        by_cases hl0 : left.length = 0
        · have hl : left = [] := List.eq_nil_of_length_eq_zero hl0
          have hDn : D = [] := by
            have h := HD.out.2.1.length_eq
            rw [hl0] at h
            exact List.eq_nil_of_length_eq_zero h.symm
          have HE : Hid (OfP X k w (.returned v5) wr) := Lib.hid ⟨v5, rfl, by rw [HD.out.1, hDn, List.append_nil]; exact HI.out.1, HI.out.2.2.1⟩
          have hz : ¬ (0 : Int) < left.length := by omega
          generalize OfP X k w = Q at *
          clear hl hDn
          go_wp2_with fail
          exact HE.out
        · have hz : (0 : Int) < left.length := by omega
          go_wp2_with fail
          generalize decide (0 < left.length) = B43
          go_loopw [8, 9] (fun t8 t9 wx => ∃ i bi : Nat, 1 ≤ i ∧ i ≤ left.length ∧ bi < left.length ∧ t8 = .int .i64 bi ∧ t9 = .int .i64 i ∧ Hid (selI left i bi ∧ Gr wr wx)) (fun _ t9 _ => left.length - (intOf t9).toNat)
          case atStart => exact ⟨1, 0, by omega, by omega, by omega, by go_num, by go_num, Lib.hid ⟨selI_one (by omega), Gr.refl _⟩⟩
          case round =>
            clear hz
            obtain ⟨i2, bi, hi1, hi2, hbi, rfl, rfl, HS⟩ := hrel
            by_cases hlt2 : i2 < left.length
            · have hlt2' : (i2 : Int) < left.length := by omega
              have hbi' : (bi : Int) < left.length := by omega
              obtain ⟨y, hy⟩ : ∃ y, left[i2]? = some y := ⟨_, List.getElem?_eq_getElem hlt2⟩
              obtain ⟨x, hx⟩ : ∃ x, left[bi]? = some x := ⟨_, List.getElem?_eq_getElem hbi⟩
              obtain ⟨g1, rfl, hg1, y0, _, _, y3, _, _⟩ := ent6 (HI.out.2.1.own.gr HS.out.2) hy
              obtain ⟨_, x0, _, _, x3, _, _⟩ := ent6g (HI.out.2.1.own.gr HS.out.2) hx
              have HNO := Lib.hid (fun h => selI_no HS.out.1 hx hy h)
              have HYE := Lib.hid (fun h => selI_yes HS.out.1 hx hy h)
              have HLT : Hid (ltE y x = (decide (x.seq < y.seq) || (decide (y.seq = x.seq) && decide (y.slot < x.slot)))) := Lib.hid (by
                unfold ltE
                rw [Bool.eq_iff_iff]
                simp)
              clear hx hy
              generalize y.seq = ys at *
              generalize x.seq = xs at *
              generalize y.slot = yl at *
              generalize x.slot = xl at *
              by_cases e1 : xs < ys
              · have d1 : decide (xs < ys) = true := decide_eq_true e1
                have HN2 := Lib.hid (HYE.out (by rw [HLT.out, d1]; rfl))
                go_wp2_with fail
                refine wp_region_flo (fun _ => False) [] [] (by kernel_rfl) (by kernel_rfl) (fun _ h => h.elim) ?_
                (try simp only [List.append_eq, List.cons_append, List.nil_append])
                refine flo_seg 37 rfl ?_
                simp only [List.take_succ_cons, List.take_zero, List.drop_succ_cons, List.drop_zero]
                repeat (go_big_quiet_step (fail))
                refine wpQuiet_nil ?_
                refine flo_nil ?_
                go_wp2_with fail
                go_roundw
                case rel => exact ⟨i2 + 1, i2, by omega, by omega, by omega, rfl, by go_num, Lib.hid ⟨HN2.out, HS.out.2.trans (Gr.refl wr).drew⟩⟩
                case measure => simp [intOf]; omega
              · have d1 : decide (xs < ys) = false := decide_eq_false e1
                by_cases e2 : ys = xs
                · by_cases e3 : yl < xl
                  · have d2 : (ys == xs) = true := beq_iff_eq.2 e2
                    have HN2 := Lib.hid (HYE.out (by rw [HLT.out, d1, decide_eq_true e2, decide_eq_true e3]; rfl))
                    go_wp2_with fail
                    refine wp_region_flo (fun _ => False) [] [] (by kernel_rfl) (by kernel_rfl) (fun _ h => h.elim) ?_
                    (try simp only [List.append_eq, List.cons_append, List.nil_append])
                    refine flo_seg 37 rfl ?_
                    simp only [List.take_succ_cons, List.take_zero, List.drop_succ_cons, List.drop_zero]
                    repeat (go_big_quiet_step (fail))
                    refine wpQuiet_nil ?_
                    refine flo_nil ?_
                    go_wp2_with fail
                    go_roundw
                    case rel => exact ⟨i2 + 1, i2, by omega, by omega, by omega, rfl, by go_num, Lib.hid ⟨HN2.out, HS.out.2.trans (Gr.refl wr).drew⟩⟩
                    case measure => simp [intOf]; omega
                  · have d2 : (ys == xs) = true := beq_iff_eq.2 e2
                    have HN2 := Lib.hid (HNO.out (by rw [HLT.out, d1, decide_eq_true e2, decide_eq_false e3]; rfl))
                    go_wp2_with fail
                    refine wp_region_flo (fun _ => False) [] [] (by kernel_rfl) (by kernel_rfl) (fun _ h => h.elim) ?_
                    (try simp only [List.append_eq, List.cons_append, List.nil_append])
                    refine flo_seg 37 rfl ?_
                    simp only [List.take_succ_cons, List.take_zero, List.drop_succ_cons, List.drop_zero]
                    repeat (go_big_quiet_step (fail))
                    refine wpQuiet_nil ?_
                    refine flo_nil ?_
                    go_wp2_with fail
                    go_roundw
                    case rel => exact ⟨i2 + 1, bi, by omega, by omega, by omega, rfl, by go_num, Lib.hid ⟨HN2.out, HS.out.2.trans (Gr.refl wr).drew⟩⟩
                    case measure => simp [intOf]; omega
                · have d2 : (ys == xs) = false := beq_false_of_ne e2
                  have HN2 := Lib.hid (HNO.out (by rw [HLT.out, d1, decide_eq_false e2]; rfl))
                  go_wp2_with fail
                  refine wp_region_flo (fun _ => False) [] [] (by kernel_rfl) (by kernel_rfl) (fun _ h => h.elim) ?_
                  (try simp only [List.append_eq, List.cons_append, List.nil_append])
                  refine flo_seg 37 rfl ?_
                  simp only [List.take_succ_cons, List.take_zero, List.drop_succ_cons, List.drop_zero]
                  repeat (go_big_quiet_step (fail))
                  refine wpQuiet_nil ?_
                  refine flo_nil ?_
                  go_wp2_with fail
                  go_roundw
                  case rel => exact ⟨i2 + 1, bi, by omega, by omega, by omega, rfl, by go_num, Lib.hid ⟨HN2.out, HS.out.2.trans (Gr.refl wr).drew⟩⟩
                  case measure => simp [intOf]; omega
            · have hlt2' : ¬ (i2 : Int) < left.length := by omega
              obtain rfl : i2 = left.length := by omega
              have hbi' : (bi : Int) < left.length := by omega
              obtain ⟨x, hx, hmin⟩ : ∃ x, left[bi]? = some x ∧ ∀ y ∈ left, ltE y x = false := selI_end HS.out.1
              obtain ⟨D', hDe, hDp⟩ := sel_head (List.pairwise_append.1 (HD.out.1 ▸ HPW.out)).2.1 HD.out.2.1 hx hmin
              have hol : out.length ≤ 1000 := by
                have h1 := congrArg List.length HD.out.1
                have h2 := HL.out.length_eq
                rw [List.length_append] at h1
                omega
              have HDE : Hid (X.of k = (out ++ [x]) ++ D' ∧ (left.eraseIdx bi).Perm D') := Lib.hid ⟨by rw [HD.out.1, hDe, List.append_assoc]; rfl, hDp⟩
              obtain ⟨g1, rfl, hg1, y0, y1, y2, y3, y4, y5⟩ := ent6 (HI.out.2.1.own.gr HS.out.2) hx
              obtain ⟨x0, x1, x2, x3, x4, x5⟩ := x
              simp only at y0 y1 y2 y3 y4 y5
              clear hx hmin hDe hDp
              go_wp2_with (first
                | (at_builtin; go_must (refine wpList_appv _ rfl (.tmp 88) (.tmp 93) 45 rfl 53 i0 _ 6 56 Try.underlying45 hi hz0 hz1 hz2 rfl (by decide) v5 out.length (rowE out) rfl ((HI.out.1.own.gr HS.out.2).gr (by (repeat (first | (with_reducible exact Gr.refl _) | assumption | (with_reducible apply Gr.from_drew) | (with_reducible apply Gr.alloc) | (with_reducible apply Gr.drew) | (with_reducible refine Gr.trans ?_ (by assumption)) | (with_reducible refine Gr.setCell ?_ (by omega) _))))) (some ⟨wr.heap.size, 0, none⟩) 1 1 (enC ⟨x0, x1, x2, x3, x4, x5⟩) rfl (src_newK wr (enC ⟨x0, x1, x2, x3, x4, x5⟩) _ 6 rfl (enC_one _)) (by simp only [maxLen]; omega) (by omega) ?_); intro v7 w5 hA; have N5 := Lib.hid (hA.nw ((HI.out.1.gr HS.out.2).gr ((Gr.refl wr).alloc _)) (by have h1 := HI.out.2.2.1.sz; have h2 := HS.out.2.sz; simp; omega)); have HG5 := Lib.hid (hA.gw ((HI.out.1.gr HS.out.2).gr ((Gr.refl wr).alloc _)) ((HI.out.2.2.1.trans HS.out.2).alloc _)); have HL5 := Lib.hid (((HI.out.2.1.gr HS.out.2).gr ((Gr.refl wr).alloc _)).mdh (hA.mdh (S := fun q => v5.ownBlock = some q) (fun g h => h)) (fun q hq hs => HI.out.2.2.2.1 q hs hq)); clear hA)
                | fail)
              have hel : (left.eraseIdx bi).length = bi + (left.length - (bi + 1)) := by rw [List.length_eraseIdx_of_lt hbi]; omega
              have HEL := Lib.hid hel
              obtain ⟨V, hV⟩ : ∃ V, V = Value.slice (some ⟨g1, 0, none⟩) left.length c6 := ⟨_, rfl⟩
              have HVE := Lib.hid hV
              rw [← hV] at HL5 ⊢
              obtain ⟨z1, n1, s1, src1, _⟩ := slice_take Try.underlying45 hi hz1 HL5.out.own (rowE_one left) (i := bi) (by omega)
              obtain ⟨z2, n2, s2', src2, _⟩ := slice_drop Try.underlying45 hi hz1 HL5.out.own (rowE_one left) (i := bi + 1) (by omega)
              have s2 : ∀ w' : World, (Instr.slice 45 V (some (.int .i64 ((bi : Int) + 1))) none none).run Try.prog w' = .ok (.slice z2 (left.length - (bi + 1)) n2) w' := fun w' => by rw [show ((bi : Int) + 1) = ((bi + 1 : Nat) : Int) by omega]; exact s2' w'
              rw [rowE_take] at src1
              rw [rowE_drop] at src2
              have SRC := Lib.hid (And.intro src1 src2)
              clear hel hV src1 src2 s2' y0 y1 y2 y3 y4 y5 hg1
              have hib : (bi : Int) ≤ 1000 := by have := HD.out.2.2; omega
              have hle : left.length ≤ 1000 := HD.out.2.2
              go_wp2_with fail
              refine wp_region_flo (fun _ => False) [] [] (by kernel_rfl) (by kernel_rfl) (fun _ h => h.elim) ?_
              refine flo_eff rfl rfl rfl rfl (fun K hK => ?_)
              go_wp2
              refine ⟨by (first | (refine Gr.mdh ?_ _; (repeat (first | (with_reducible exact Gr.refl _) | assumption | (with_reducible apply Gr.from_drew) | (with_reducible apply Gr.alloc) | (with_reducible apply Gr.drew) | (with_reducible refine Gr.trans ?_ (by assumption)) | (with_reducible refine Gr.setCell ?_ (by omega) _))); done) | (repeat (first | (with_reducible exact Mdh.refl _ _) | (with_reducible refine Mdh.setCell ?_ (by simp) _) | (with_reducible refine Mdh.setNew ?_ (by simp) _) | (with_reducible apply Mdh.alloc) | (with_reducible apply Mdh.from_drew) | (with_reducible apply Mdh.drew) | (with_reducible refine Mdh.gr ?_ (by assumption))))), ?_⟩
              refine flo_seg 3 rfl ?_
              simp only [List.take_succ_cons, List.take_zero, List.drop_succ_cons, List.drop_zero]
              repeat (go_big_quiet_step (fail))
              refine wpQuiet_nil ?_
              refine flo_eff rfl rfl rfl rfl (fun K hK => ?_)
              refine wp_appv _ (.tmp 95) (.tmp 98) 45 rfl 53 i0 _ 6 56 Try.underlying45 hi hz0 hz1 hz2 rfl (by decide) (.slice (some ⟨w5.heap.size, 0, none⟩) 0 0) 0 [] rfl ((Nw.made (w0 := w5) (w := w5) (Nat.le_refl _)).own.gr (by (repeat (first | (with_reducible exact Gr.refl _) | assumption | (with_reducible apply Gr.from_drew) | (with_reducible apply Gr.alloc) | (with_reducible apply Gr.drew) | (with_reducible refine Gr.trans ?_ (by assumption)) | (with_reducible refine Gr.setCell ?_ (by omega) _))))) z1 bi _ (rowE (left.take bi)) rfl (SRC.out.1.gr (by (repeat (first | (with_reducible exact Gr.refl _) | assumption | (with_reducible apply Gr.from_drew) | (with_reducible apply Gr.alloc) | (with_reducible apply Gr.drew) | (with_reducible refine Gr.trans ?_ (by assumption)) | (with_reducible refine Gr.setCell ?_ (by omega) _))))) (by simp only [maxLen]; omega) (by omega) (fun k3 xa hk3 => ?_); rw [Nat.zero_add, List.nil_append] at hk3; (have n3 := hk3.nw (w0 := w5) ((Nw.made (w0 := w5) (w := w5) (e := 53) (K := 6) (Nat.le_refl _)).gr (by (repeat (first | (with_reducible exact Gr.refl _) | assumption | (with_reducible apply Gr.from_drew) | (with_reducible apply Gr.alloc) | (with_reducible apply Gr.drew) | (with_reducible refine Gr.trans ?_ (by assumption)) | (with_reducible refine Gr.setCell ?_ (by omega) _))))) (Gr.sz (by (repeat (first | (with_reducible exact Gr.refl _) | assumption | (with_reducible apply Gr.from_drew) | (with_reducible apply Gr.alloc) | (with_reducible apply Gr.drew) | (with_reducible refine Gr.trans ?_ (by assumption)) | (with_reducible refine Gr.setCell ?_ (by omega) _)))))); (have m3 := hk3.gw (w0 := w5) ((Nw.made (w0 := w5) (w := w5) (e := 53) (K := 6) (Nat.le_refl _)).gr (by (repeat (first | (with_reducible exact Gr.refl _) | assumption | (with_reducible apply Gr.from_drew) | (with_reducible apply Gr.alloc) | (with_reducible apply Gr.drew) | (with_reducible refine Gr.trans ?_ (by assumption)) | (with_reducible refine Gr.setCell ?_ (by omega) _))))) (by (repeat (first | (with_reducible exact Gr.refl _) | assumption | (with_reducible apply Gr.from_drew) | (with_reducible apply Gr.alloc) | (with_reducible apply Gr.drew) | (with_reducible refine Gr.trans ?_ (by assumption)) | (with_reducible refine Gr.setCell ?_ (by omega) _))))); refine hK _ _ ⟨hk3.mdh (fun q hq => by rw [ownB hq]; right; right; exact ⟨Nat.le_refl _, by simp⟩), ?_⟩; simp only [Act.put, List.setIfInBounds_toArray, List.set_cons_succ, List.set_cons_zero]
              refine flo_seg 4 rfl ?_
              simp only [List.take_succ_cons, List.take_zero, List.drop_succ_cons, List.drop_zero]
              repeat (go_big_quiet_step (fail))
              refine wpQuiet_nil ?_
              refine flo_eff rfl rfl rfl rfl (fun K hK => ?_)
              refine wp_appv _ (.tmp 99) (.tmp 103) 45 rfl 53 i0 _ 6 56 Try.underlying45 hi hz0 hz1 hz2 rfl (by decide) k3 bi (rowE (left.take bi)) rfl hk3.1 z2 (left.length - (bi + 1)) _ (rowE (left.drop (bi + 1))) rfl (SRC.out.2.gr m3) (by simp only [maxLen]; omega) (by omega) (fun k5 xb hk5 => ?_); obtain ⟨a5, c5, rfl⟩ := hk5.val; refine hK _ _ ⟨hk5.mdh (fun q hq => (hk3.2.1 q hq).elim (fun h => by rw [ownB h]; exact .inr (.inl (.inr ⟨Nat.le_refl _, by simp⟩))) (fun h => .inr (.inr ⟨h, hk3.1.lt hq⟩))), ?_⟩; simp only [Act.put, List.setIfInBounds_toArray, List.set_cons_succ, List.set_cons_zero]
              refine flo_seg 1 rfl ?_
              simp only [List.take_succ_cons, List.take_zero, List.drop_succ_cons, List.drop_zero]
              repeat (go_big_quiet_step (fail))
              refine wpQuiet_nil ?_
              refine flo_nil ?_
              have n5 := hk5.nw n3 m3.sz
              have m5 := hk5.gw n3 m3
              have hcut : (left.take bi ++ left.drop (bi + 1)) = left.eraseIdx bi := (List.eraseIdx_eq_take_drop_succ left bi).symm
              rw [← rowE_app, hcut] at n5
              have hsm : bi + (left.length - (bi + 1)) < left.length := by omega
              have HNN : Hid (Nw w xb 53 6 (.slice a5 (bi + (left.length - (bi + 1))) c5) (left.eraseIdx bi).length (rowE (left.eraseIdx bi))) := Lib.hid (by rw [HEL.out]; exact ⟨n5.own, fun q hq => Nat.le_trans HG5.out.sz (n5.new q hq)⟩)
              have HNE : Hid (∀ q, v7.ownBlock = some q → (Value.slice a5 (bi + (left.length - (bi + 1))) c5).ownBlock ≠ some q) := Lib.hid (fun q hq hs => absurd (n5.new q hs) (Nat.not_le.2 (N5.out.own.lt hq)))
              have HM5 := Lib.hid m5
              clear hk3 hk5 n3 m3 n5 m5 s1 s2 SRC
              go_wp2_with fail
              exact ⟨⟨out ++ [⟨x0, x1, x2, x3, x4, x5⟩], left.eraseIdx bi, v7, _, rfl, rfl, Lib.hid ⟨by rw [List.length_append, rowE_snoc]; exact N5.out.gr HM5.out, HNN.out, HG5.out.trans HM5.out, HNE.out, D', HDE.out.1, HDE.out.2, by rw [HEL.out]; omega⟩⟩, hsm⟩
end Go.Proofs.Ytmdfickejpeofaa

/- drumlinref21's Slot, Newest, Last: what they answer of an index that was made. -/
set_option linter.unusedVariables false
set_option linter.unusedSimpArgs false
namespace Go.Proofs.Ytmdfickejpeofaa
open Go.RowKit Go.Shelf
attribute [local go_sem] OvM cell_ovm obj_ovm
attribute [local go_sem] Oper.semAt_some

/-- Where the search through a slot stands: m are out, the others lie at off or behind. -/
def slI (L : List En) (m : Nat) (off : Int) : Prop := m ≤ L.length ∧ (∀ j x, j < m → L[j]? = some x → x.off + x.size ≤ off) ∧ ∀ j x, m ≤ j → L[j]? = some x → off ≤ x.off
theorem valid_nums {e : En} (h : validE e = true) : 0 ≤ e.off ∧ 16 ≤ e.size ∧ e.size ≤ 8192 ∧ e.off ≤ 8192 - e.size := by
  simp only [validE, decide_eq_true_eq] at h
  omega
theorem slI_zero {L : List En} {s : Int} (h : SlotOk s L) : slI L 0 0 :=
  ⟨Nat.zero_le _, fun j x hj => absurd hj (Nat.not_lt_zero j), fun j x _ hx => (valid_nums (h.e x (List.mem_of_getElem? hx)).2).1⟩
theorem slI_no {L : List En} {m : Nat} {off : Int} (h : slI L m off) (hn : ∀ x ∈ L, x.off ≠ off) : slI L m (off + 1) := by
  obtain ⟨h1, h2, h3⟩ := h
  refine ⟨h1, fun j x hj hx => ?_, fun j x hj hx => ?_⟩
  · have := h2 j x hj hx; omega
  · have := h3 j x hj hx
    have := hn x (List.mem_of_getElem? hx)
    omega
theorem slI_yes {L : List En} {s : Int} (hs : SlotOk s L) {m : Nat} {off : Int} (h : slI L m off) {x : En} (hx : x ∈ L) (he : x.off = off) : L[m]? = some x ∧ slI L (m + 1) (off + x.size) := by
  obtain ⟨h1, h2, h3⟩ := h
  obtain ⟨j, hj⟩ := List.mem_iff_getElem?.1 hx
  have hjl := (List.getElem?_eq_some_iff.1 hj).1
  have hv := valid_nums (hs.e x hx).2
  have hjm : m ≤ j := by
    rcases Nat.lt_or_ge j m with h | h
    · have := h2 j x h hj; omega
    · exact h
  have hjm2 : j = m := by
    rcases Nat.eq_or_lt_of_le hjm with h | h
    · exact h.symm
    · have hml : m < L.length := by omega
      have h4 := h3 m _ (Nat.le_refl _) (List.getElem?_eq_getElem hml)
      have h5 := List.pairwise_iff_getElem.1 hs.p m j hml hjl h
      have h6 := valid_nums (hs.e _ (List.getElem_mem hml)).2
      have h7 : L[j] = x := by rw [List.getElem?_eq_getElem hjl] at hj; exact Option.some.inj hj
      rw [h7] at h5
      omega
  subst hjm2
  refine ⟨hj, by omega, fun i y hi hy => ?_, fun i y hi hy => ?_⟩
  · rcases Nat.lt_or_ge i j with h | h
    · have := h2 i y h hy; omega
    · obtain rfl : i = j := by omega
      rw [hj] at hy
      obtain rfl := Option.some.inj hy
      omega
  · have hil := (List.getElem?_eq_some_iff.1 hy).1
    have h5 := List.pairwise_iff_getElem.1 hs.p j i hjl hil (by omega)
    have h7 : L[j] = x := by rw [List.getElem?_eq_getElem hjl] at hj; exact Option.some.inj hj
    have h8 : L[i] = y := by rw [List.getElem?_eq_getElem hil] at hy; exact Option.some.inj hy
    rw [h7, h8] at h5
    omega
theorem slI_end {L : List En} {s : Int} (hs : SlotOk s L) {m : Nat} {off : Int} (h : slI L m off) (he : 8192 ≤ off) : L.take m = L := by
  obtain ⟨h1, h2, h3⟩ := h
  have : m = L.length := by
    rcases Nat.eq_or_lt_of_le h1 with h | h
    · exact h
    · have h4 := h3 m _ (Nat.le_refl _) (List.getElem?_eq_getElem h)
      have h6 := valid_nums (hs.e _ (List.getElem_mem h)).2
      omega
  rw [this, List.take_length]
def SlP (X : IX) (s : Int) (w : World) (e : Ending) (w' : World) : Prop := ∃ v, e = .returned v ∧ Nw w w' 53 6 v (X.slot s).length (rowE (X.slot s)) ∧ Gr w w'
set_option maxRecDepth 40000 in
set_option maxHeartbeats 8000000 in
theorem rSlot_any {w : World} {rb : Nat} {N : Int} {v : Value} {all : List En} {X : IX} (h : w.heap[rb]? = some (rmO N v)) (hN : 0 < N) (ho : Own w 53 6 v all.length (rowE all)) (hw : X.Wf) (hp : all.Perm X.ents) (h1000 : all.length ≤ 1000) (s : Int) :
    Calls Try.prog 91 #[.pointer (some ⟨rb, 0, none⟩), .int .i64 s] w (SlP X s w) := by
  have HB := Lib.hid h
  have HO := Lib.hid ho
  have HV := Lib.hid (fun W (g : Gr w W) => rvalid (g.blk h) hN)
  have HIN := Lib.hid (fun x (hx : x ∈ all) (hs : x.slot = s) => (hw.slot_mem s x).2 ⟨hp.mem_iff.1 hx, hs⟩)
  have HOUT := Lib.hid (fun x (hx : x ∈ X.slot s) => (show x ∈ all ∧ x.slot = s from ⟨hp.mem_iff.2 ((hw.slot_mem s x).1 hx).1, ((hw.slot_mem s x).1 hx).2⟩))
  have HSO := Lib.hid (hw.slotOk s)
  have HSL := Lib.hid (hw.slot_le s)
  have HP : Hid (∀ v w', Nw w w' 53 6 v (X.slot s).length (rowE (X.slot s)) → Gr w w' → SlP X s w (.returned v) w') := Lib.hid (fun v w' h g => ⟨v, rfl, h, g⟩)
  generalize SlP X s w = PP at *
  generalize X.slot s = L at *
  obtain ⟨a, c, rfl, hc, hm, _⟩ := ownE_at ho
  unfold maxLen at hm
  obtain ⟨i0, hi, hz0, hz1, hz2⟩ := info_parts infoIten
  clear h ho hw hp
  go_enter Try.func91, Try.ntmps91
  go_wp2_with (go_at_call 85; refine Calls.mono (HV.out _ (Gr.refl _)) ?_; rintro e w1 ⟨rfl, rfl⟩)
  go_loopw [5, 6] (fun t5 t6 wx => ∃ (m : Nat) (off : Int) (v : Value), v = t5 ∧ t6 = .int .i64 off ∧ 0 ≤ off ∧ off ≤ 8192 ∧ Hid (slI L m off ∧ Nw w wx 53 6 v (L.take m).length (rowE (L.take m)) ∧ Gr w wx)) (fun _ t6 _ => (8192 - intOf t6).toNat)
  case atStart => exact ⟨0, 0, _, rfl, by go_num, by omega, by omega, Lib.hid ⟨slI_zero HSO.out, Nw.nil w _ _, Gr.refl _⟩⟩
  case round =>
    obtain ⟨m, off, v, rfl, rfl, ho0, ho1, HI⟩ := hrel
    by_cases hoff : off < 8192
    · go_wp2_with fail
      go_loopw [5, 6, 7] (fun t5 t6 t7 wx => (∃ i : Nat, i ≤ all.length ∧ t7 = .int .i64 i ∧ v = t5 ∧ t6 = .int .i64 off ∧ Hid ((∀ x ∈ all.take i, x.slot = s → x.off ≠ off) ∧ Gr wr wx)) ∨ (∃ (v' : Value) (off' : Int), t7 = .int .i64 ((all.length : Int) + 1) ∧ v' = t5 ∧ t6 = .int .i64 off' ∧ off ≤ off' ∧ off' < 8192 ∧ Hid (slI L (m + 1) (off' + 1) ∧ Nw w wx 53 6 v' (L.take (m + 1)).length (rowE (L.take (m + 1))) ∧ Gr w wx))) (fun _ _ t7 _ => all.length - (intOf t7).toNat)
      case atStart => exact .inl ⟨0, by omega, by go_num, rfl, rfl, Lib.hid ⟨by simp, Gr.refl _⟩⟩
      case round =>
        rcases hrel with ⟨i, hil, rfl, rfl, rfl, HS⟩ | ⟨v', off', rfl, rfl, rfl, h1, h2, HS⟩
        · have c1 := ((cellsOf ((HI.out.2.2.trans HS.out.2).blk HB.out)).1 1).trans (show _ = some (Value.slice a all.length c) from rfl)
          by_cases hlt : i < all.length
          · have hlt' : (i : Int) < all.length := by omega
            obtain ⟨x, hx⟩ : ∃ x, all[i]? = some x := ⟨_, List.getElem?_eq_getElem hlt⟩
            obtain ⟨g0, rfl, hg0, y0, y1, y2, y3, y4, y5⟩ := ent6 (HO.out.gr (HI.out.2.2.trans HS.out.2)) hx
            have HTK : Hid (¬ (x.slot = s ∧ x.off = off) → ∀ y ∈ all.take (i + 1), y.slot = s → y.off ≠ off) := Lib.hid (fun hn y hy => by
              rw [List.take_add_one, hx] at hy
              rcases List.mem_append.1 hy with h | h
              · exact HS.out.1 y h
              · obtain rfl : y = x := by simpa using h
                exact fun h1 h2 => hn ⟨h1, h2⟩)
            have HYE : Hid (x.slot = s → x.off = off → (16 ≤ x.size ∧ x.size ≤ 8192 ∧ x.off ≤ 8192 - x.size) ∧ L[m]? = some x ∧ slI L (m + 1) (off + x.size)) := Lib.hid (fun h1 h2 => by
              have hxL := HIN.out x (List.mem_of_getElem? hx) h1
              exact ⟨(valid_nums (HSO.out.e x hxL).2).2, slI_yes HSO.out HI.out.1 hxL h2⟩)
            have HX5 := Lib.hid (fun W (g : Gr w W) => (ent6g (HO.out.gr g) hx).2.2.2.2.2.2)
            clear hx
            by_cases h1 : x.slot = s
            · by_cases h2 : x.off = off
              · obtain ⟨⟨hs1, hs2, hs3⟩, hLm, hsl⟩ := HYE.out h1 h2
                have HLT : Hid (L.take (m + 1) = L.take m ++ [x]) := Lib.hid (by rw [List.take_add_one, hLm]; rfl)
                have hlm : (L.take m).length ≤ 512 := Nat.le_trans (by rw [List.length_take]; omega) HSL.out
                have HSI := Lib.hid hsl
                clear hLm hsl HYE HTK
                obtain ⟨x0, x1, x2, x3, x4, x5⟩ := x
                simp only at y0 y1 y2 y3 y4 y5 h1 h2 hs1 hs2 hs3 HSI HX5
                subst h1 h2
                generalize L.take m = out at *
                go_wp2_with (first
                  | (at_builtin; go_must (refine wpList_appv _ rfl (.tmp 46) (.tmp 54) 45 rfl 53 i0 _ 6 56 Try.underlying45 hi hz0 hz1 hz2 rfl (by decide) v out.length (rowE out) rfl ((HI.out.2.1.own.gr HS.out.2).gr (by (repeat (first | (with_reducible exact Gr.refl _) | assumption | (with_reducible apply Gr.from_drew) | (with_reducible apply Gr.alloc) | (with_reducible apply Gr.drew) | (with_reducible refine Gr.trans ?_ (by assumption)) | (with_reducible refine Gr.setCell ?_ (by omega) _))))) (some ⟨wr.heap.size, 0, none⟩) 1 1 (enC ⟨x0, x1, x2, x3, x4, x5⟩) rfl (src_newK wr (enC ⟨x0, x1, x2, x3, x4, x5⟩) _ 6 rfl (enC_one _)) (by simp only [maxLen]; omega) (by omega) ?_); intro v3 w6 hA; have N6 := Lib.hid (hA.nw ((HI.out.2.1.gr HS.out.2).gr ((Gr.refl wr).alloc _)) (by have h1 := HI.out.2.2.sz; have h2 := HS.out.2.sz; simp; omega)); have HG6 := Lib.hid (hA.gw ((HI.out.2.1.gr HS.out.2).gr ((Gr.refl wr).alloc _)) ((HI.out.2.2.trans HS.out.2).alloc _)); have y56 := HX5.out _ HG6.out; have c16 := ((cellsOf (HG6.out.blk HB.out)).1 1).trans (show _ = some (Value.slice (some ⟨g0, 0, none⟩) all.length c) from rfl); clear hA)
                  | fail)
                have N7 : Hid (Nw w w6 53 6 v3 (L.take (m + 1)).length (rowE (L.take (m + 1)))) := Lib.hid (by rw [HLT.out, List.length_append, rowE_snoc]; exact N6.out)
                have HSJ : Hid (slI L (m + 1) (x4 + x5 - 1 + 1)) := Lib.hid (by rw [show x4 + x5 - 1 + 1 = x4 + x5 by omega]; exact HSI.out)
                go_roundw
                case rel => exact .inr ⟨v3, x4 + x5 - 1, by go_num, rfl, by go_num, by omega, by omega, Lib.hid ⟨HSJ.out, N7.out, HG6.out⟩⟩
                case measure => simp [intOf]; omega
              · have hn : ¬ (x.slot = s ∧ x.off = off) := fun h => h2 h.2
                have HN := Lib.hid (HTK.out hn)
                clear HTK HYE hn
                obtain ⟨x0, x1, x2, x3, x4, x5⟩ := x
                simp only at y0 y1 y2 y3 y4 y5 h1 h2
                have d1 : (x3 == s) = true := beq_iff_eq.2 h1
                have d2 : (x4 == off) = false := beq_false_of_ne h2
                clear h1 h2
                go_wp2_with fail
                go_roundw
                case rel => exact .inl ⟨i + 1, by omega, by go_num, rfl, rfl, Lib.hid ⟨HN.out, HS.out.2⟩⟩
                case measure => simp [intOf]; omega
            · have hn : ¬ (x.slot = s ∧ x.off = off) := fun h => h1 h.1
              have HN := Lib.hid (HTK.out hn)
              clear HTK HYE hn
              obtain ⟨x0, x1, x2, x3, x4, x5⟩ := x
              simp only at y0 y1 y2 y3 y4 y5 h1
              have d1 : (x3 == s) = false := beq_false_of_ne h1
              clear h1
              go_wp2_with fail
              go_roundw
              case rel => exact .inl ⟨i + 1, by omega, by go_num, rfl, rfl, Lib.hid ⟨HN.out, HS.out.2⟩⟩
              case measure => simp [intOf]; omega
          · have hlt' : ¬ (i : Int) < all.length := by omega
            obtain rfl : i = all.length := by omega
            have HJ : Hid (slI L m (off + 1)) := Lib.hid (slI_no HI.out.1 (fun x hx => HS.out.1 x (by rw [List.take_length]; exact (HOUT.out x hx).1) (HOUT.out x hx).2))
            have HNW := Lib.hid (HI.out.2.1.gr HS.out.2)
            have HGW := Lib.hid (HI.out.2.2.trans HS.out.2)
            clear HI HS
            go_wp2_with fail
            go_roundw
            case rel => exact ⟨m, off + 1, v, rfl, by go_num, by omega, by omega, Lib.hid ⟨HJ.out, HNW.out, HGW.out⟩⟩
            case measure => simp [intOf]; omega
        · have c1 := ((cellsOf (HS.out.2.2.blk HB.out)).1 1).trans (show _ = some (Value.slice a all.length c) from rfl)
          have hlt' : ¬ ((all.length : Int) + 1) < all.length := by omega
          clear HI
          go_wp2_with fail
          go_roundw
          case rel => exact ⟨m + 1, off' + 1, v', rfl, by go_num, by omega, by omega, Lib.hid HS.out⟩
          case measure => simp [intOf]; omega
    · have HE : Hid (PP (.returned v) wr) := Lib.hid (HP.out v wr (by have h := HI.out.2.1; rw [slI_end HSO.out HI.out.1 (by omega)] at h; exact h) HI.out.2.2)
      go_wp2_with fail
      exact HE.out
end Go.Proofs.Ytmdfickejpeofaa

/- What drumlinref21's functions answer of a pointer to an index, made or not: Slots, Slot, Of, Newest, Len. -/
set_option linter.unusedVariables false
set_option linter.unusedSimpArgs false
namespace Go.Proofs.Ytmdfickejpeofaa
open Go.RowKit Go.Shelf
attribute [local go_sem] OvM cell_ovm obj_ovm
attribute [local go_sem] Oper.semAt_some

/-- A reference index that was made, in block rb. -/
def RPa (w : World) (rb : Nat) (X : IX) : Prop := ∃ v all, w.heap[rb]? = some (rmO X.slots.length v) ∧ X.slots ≠ [] ∧ Own w 53 6 v all.length (rowE all) ∧ X.Wf ∧ all.Perm X.ents ∧ all.length ≤ 1000
/-- A pointer to a reference index, made or nil. -/
def RP (w : World) (p : Option Addr) (X : IX) : Prop := (p = none ∧ X = ⟨[], []⟩) ∨ ∃ rb, p = some ⟨rb, 0, none⟩ ∧ RPa w rb X
theorem RPa.gr {w w' : World} {rb : Nat} {X : IX} (h : RPa w rb X) (g : Gr w w') : RPa w' rb X := by
  obtain ⟨v, all, h1, h2, h3, h4⟩ := h
  exact ⟨v, all, g.blk h1, h2, h3.gr g, h4⟩
theorem RP.gr {w w' : World} {p : Option Addr} {X : IX} (h : RP w p X) (g : Gr w w') : RP w' p X := h.imp (fun h => h) (fun ⟨rb, e, h⟩ => ⟨rb, e, h.gr g⟩)
theorem RPa.pos {w : World} {rb : Nat} {X : IX} (h : RPa w rb X) : (0 : Int) < X.slots.length := by
  obtain ⟨v, all, h1, h2, _⟩ := h
  have := List.length_pos_iff.2 h2
  omega
theorem RP.ok {w : World} {p : Option Addr} {X : IX} (h : RP w p X) : X.Wf := by
  rcases h with ⟨_, rfl⟩ | ⟨rb, _, v, all, _, _, _, h, _⟩
  · exact none_wf
  · exact h
theorem slot_no0 (s : Int) : (⟨[], []⟩ : IX).slot s = [] := by simp [IX.slot]
theorem of_no0 (k : ByteArray) : (⟨[], []⟩ : IX).of k = [] := rfl
theorem rvalid_no (w : World) : Calls Try.prog 85 #[.pointer none] w fun e w' => e = .returned (.bool false) ∧ w = w' := by
  go_enter Try.func85, Try.ntmps85
  go_wp2
  go_ret
  exact ⟨rfl, rfl⟩
theorem rpSlots {w : World} {p : Option Addr} {X : IX} (h : RP w p X) : Calls Try.prog 90 #[.pointer p] w fun e w' => e = .returned (.int .i64 X.slots.length) ∧ w = w' := by
  rcases h with ⟨rfl, rfl⟩ | ⟨rb, rfl, h⟩
  · go_enter Try.func90, Try.ntmps90
    go_wp2_with (go_at_call 85; refine Calls.mono (rvalid_no _) ?_; rintro e w1 ⟨rfl, rfl⟩)
    go_ret
    exact ⟨rfl, rfl⟩
  · have hN := h.pos
    obtain ⟨v, all, h1, _⟩ := h
    exact rSlots h1 hN
theorem rpOf {w : World} {p : Option Addr} {X : IX} (h : RP w p X) (k : ByteArray) : Calls Try.prog 108 #[.pointer p, .string k] w (OfP X k w) := by
  rcases h with ⟨rfl, rfl⟩ | ⟨rb, rfl, h⟩
  · have HE : Hid (∀ W, Gr w W → OfP ⟨[], []⟩ k w (.returned (.slice none 0 0)) W) := Lib.hid (fun W g => ⟨_, rfl, (Nw.nil w _ _).gr g, g⟩)
    generalize OfP ⟨[], []⟩ k w = Q at *
    go_enter Try.func108, Try.ntmps108
    go_wp2_with (go_at_call 85; refine Calls.mono (rvalid_no _) ?_; rintro e w1 ⟨rfl, rfl⟩)
    go_loopw [5, 6] (fun t5 t6 wx => t5 = .slice none 0 0 ∧ t6 = .slice none 0 0 ∧ Gr w wx) (fun _ t6 _ => match t6 with | .slice _ m _ => m | _ => 0)
    case atStart => exact ⟨rfl, rfl, by (repeat (first | (with_reducible exact Gr.refl _) | assumption | (with_reducible apply Gr.from_drew) | (with_reducible apply Gr.alloc) | (with_reducible apply Gr.drew) | (with_reducible refine Gr.trans ?_ (by assumption)) | (with_reducible refine Gr.setCell ?_ (by omega) _)))⟩
    case round =>
      obtain ⟨rfl, rfl, hg⟩ := hrel
      go_wp2_with fail
      exact HE.out _ hg
  · have hN := h.pos
    obtain ⟨v, all, h1, _, h3, h4, h5, h6⟩ := h
    exact rOf_any h1 hN h3 h4 h5 h6 k
theorem rpSlot {w : World} {p : Option Addr} {X : IX} (h : RP w p X) (s : Int) : Calls Try.prog 91 #[.pointer p, .int .i64 s] w (SlP X s w) := by
  rcases h with ⟨rfl, rfl⟩ | ⟨rb, rfl, h⟩
  · have HE : Hid (SlP ⟨[], []⟩ s w (.returned (.slice none 0 0)) w) := Lib.hid ⟨_, rfl, by rw [slot_no0]; exact Nw.nil w _ _, Gr.refl w⟩
    generalize SlP ⟨[], []⟩ s w = Q at *
    go_enter Try.func91, Try.ntmps91
    go_wp2_with (go_at_call 85; refine Calls.mono (rvalid_no _) ?_; rintro e w1 ⟨rfl, rfl⟩)
    exact HE.out
  · have hN := h.pos
    obtain ⟨v, all, h1, _, h3, h4, h5, h6⟩ := h
    exact rSlot_any h1 hN h3 h4 h5 h6 s
theorem Gr.cell6 {w w' : World} (g : Gr w w') {b : Nat} (h : w.heap.size ≤ b) (u0 u1 u2 u3 u4 u5 : Value) : Gr w ((((((w'.setCell ⟨b, 0, none⟩ u0).setCell ⟨b, 1, none⟩ u1).setCell ⟨b, 2, none⟩ u2).setCell ⟨b, 3, none⟩ u3).setCell ⟨b, 4, none⟩ u4).setCell ⟨b, 5, none⟩ u5) :=
  (g.cell5 h u0 u1 u2 u3 u4).setCell (p := ⟨b, 5, none⟩) h u5
set_option maxRecDepth 40000 in
set_option maxHeartbeats 4000000 in
theorem rpNewest {w : World} {p : Option Addr} {X : IX} (h : RP w p X) (k : ByteArray) : Calls Try.prog 107 #[.pointer p, .string k] w fun e w' => e = .returned (newV (X.of k)) ∧ Gr w w' := by
  have H := Lib.hid h
  clear h
  obtain ⟨w0, hw0⟩ : ∃ y, y = w.alloc (.cells #[.int .i64 0, .string ⟨#[]⟩, .bool false, .int .i64 0, .int .i64 0, .int .i64 0] 53) := ⟨_, rfl⟩
  obtain ⟨b4, hb4⟩ : ∃ q, q = w.heap.size := ⟨_, rfl⟩
  have HG0 : Hid (Gr w w0) := Lib.hid (by rw [hw0]; exact (Gr.refl w).alloc _)
  have HX0 : Hid (w0.heap[b4]? = some (.cells #[.int .i64 0, .string ⟨#[]⟩, .bool false, .int .i64 0, .int .i64 0, .int .i64 0] 53)) := Lib.hid (by rw [hw0, hb4]; exact blkNew _ _)
  have HBW : Hid (w.heap.size ≤ b4) := Lib.hid (Nat.le_of_eq hb4.symm)
  have HOF : Hid (∀ W, Gr w W → Calls Try.prog 108 #[.pointer p, .string k] W (fun e w' => ∃ v, e = .returned v ∧ Nw W w' 53 6 v (X.of k).length (rowE (X.of k)) ∧ Gr W w')) := Lib.hid (fun W g => rpOf (H.out.gr g) k)
  generalize X.of k = L at *
  clear H
  go_enter Try.func107, Try.ntmps107
  go_upto_region 2 with (first
    | (go_at_call 108; rw [← hw0, ← hb4]; clear hw0 hb4; refine Calls.mono (HOF.out _ HG0.out) ?_; rintro e w1 ⟨v, rfl, hn, hg⟩; have HN1 := Lib.hid hn; have HG1 := Lib.hid (HG0.out.trans hg); have HX1 := Lib.hid (hg.blk HX0.out); clear hn hg; obtain ⟨d4, f4⟩ := cellsOf HX1.out; obtain ⟨a1, c1, rfl, _, hm1, _⟩ := ownE_at HN1.out.own)
    | fail)
  rcases L with _ | ⟨x, L⟩
  · simp only [List.length_nil]
    have hb6 := blk6 (y0 := .int .i64 0) (y1 := .string ⟨#[]⟩) (y2 := .bool false) (y3 := .int .i64 0) (y4 := .int .i64 0) (y5 := .int .i64 0) HX1.out
    obtain ⟨d6, _⟩ := cellsOf hb6
    go_wp2_with fail
    refine bodyPost_ret (v := newV []) ?_ rfl ⟨rfl, HG1.out.cell6 HBW.out _ _ _ _ _ _⟩
    simp [results, Try.results107, go_sem, d6, newV, enV, zE]
  · obtain ⟨g1, rfl, hg1, y0, y1, y2, y3, y4, y5⟩ := ent6 HN1.out.own (i := 0) rfl
    simp only [Nat.zero_mul, Nat.zero_add] at y0 y1 y2 y3 y4 y5
    have hl : (0 : Int) < (x :: L).length := by simp
    have hl2 : (((x :: L).length : Int) == 0) = false := beq_false_of_ne (by omega)
    obtain ⟨n, hn⟩ : ∃ n, n = (x :: L).length := ⟨_, rfl⟩
    rw [← hn] at hl hl2 ⊢
    have hne : g1 ≠ b4 := fun e => by
      obtain ⟨cs, h⟩ := own_blk HN1.out.own (g := g1) rfl
      have h1 := HN1.out.new g1 rfl
      have h2 := blkLt HX0.out
      omega
    have hne' : b4 ≠ g1 := fun e => hne e.symm
    obtain ⟨x0, x1, x2, x3, x4, x5⟩ := x
    simp only at y0 y1 y2 y3 y4 y5
    go_upto_region 4 with fail
    go_wp2_with fail
    have hb6 := blk6 (y0 := .int .i64 x0) (y1 := .string x1) (y2 := .bool x2) (y3 := .int .i64 x3) (y4 := .int .i64 x4) (y5 := .int .i64 x5) HX1.out
    obtain ⟨d6, _⟩ := cellsOf hb6
    refine bodyPost_ret (v := newV (⟨x0, x1, x2, x3, x4, x5⟩ :: L)) ?_ rfl ⟨rfl, HG1.out.cell6 HBW.out _ _ _ _ _ _⟩
    simp [results, Try.results107, go_sem, d6, newV, enV]
end Go.Proofs.Ytmdfickejpeofaa

/- An index of the program beside the reference's: both made by one number of slots, or neither; Add and Drop of both. -/
set_option linter.unusedVariables false
set_option linter.unusedSimpArgs false
namespace Go.Proofs.Ytmdfickejpeofaa
open Go.RowKit Go.Shelf
attribute [local go_sem] OvM cell_ovm obj_ovm
attribute [local go_sem] Oper.semAt_some

/-! ### Plain -/
/-- The entries of the reference are the index's. -/
structure RelX (X : IX) (all : List En) : Prop where
  wf : X.Wf
  pm : all.Perm X.ents
def nwC (n : Int) : Int := if 1 ≤ n ∧ n ≤ 32 then 0 else 2
def nwX (n : Int) : IX := if 1 ≤ n ∧ n ≤ 32 then ixNew n.toNat else ⟨[], []⟩
def alX (X : IX) (all : List En) (e : En) : List En := if addE X e = 0 then all ++ [e] else all
theorem relNew (n : Int) : RelX (nwX n) [] := by
  unfold nwX
  split
  · exact ⟨new_wf (by omega), by unfold IX.ents ixNew; simp⟩
  · exact ⟨none_wf, List.Perm.refl _⟩
section
variable {X : IX} {all : List En}
theorem RelX.no (h : RelX X all) (h0 : X.slots = []) : X = ⟨[], []⟩ := by
  obtain ⟨s, k⟩ := X
  have := h.wf.z h0
  simp only at h0 this
  rw [h0, this]
theorem RelX.codes (h : RelX X all) (h0 : X.slots ≠ []) (e : En) : rAddC X.slots.length all e = addE X e :=
  rAddC_eq h.wf rfl (by have := List.length_pos_iff.2 h0; omega) h.pm e
theorem RelX.lists (h : RelX X all) (h0 : X.slots ≠ []) (e : En) : rAddL X.slots.length all e = alX X all e := by
  unfold rAddL alX
  rw [h.codes h0]
theorem RelX.add (h : RelX X all) (e : En) : RelX (addX X e) (alX X all e) := by
  unfold alX
  by_cases h1 : addE X e = 0
  · rw [if_pos h1]
    have a := add_ok h1
    exact ⟨add_wf h.wf a, (List.perm_append_singleton e all).trans ((h.pm.cons e).trans (add_ents h.wf a).symm)⟩
  · rw [if_neg h1, addX_no h1]; exact h
theorem RelX.val (h : RelX X all) {e : En} (he : e ∈ all) : validE e = true := (h.wf.valid (h.pm.mem_iff.1 he)).1
theorem RelX.rows (h : RelX X all) : ∀ o ∈ all, 0 ≤ o.off ∧ o.off ≤ 8192 ∧ 0 ≤ o.size ∧ o.size ≤ 8192 := fun o ho => by
  have := (valid_iff o).1 (h.val ho)
  omega
theorem RelX.drop (h : RelX X all) {s : Int} (hh : X.has s = true) : (X.slot s).length + (all.filter (nsP s)).length = all.length ∧ RelX (dropX X s) (all.filter (nsP s)) := by
  have hp := drop_ents h.wf hh
  have hw := drop_wf h.wf s
  have hne : ∀ o ∈ (dropX X s).ents, nsP s o = true := fun o ho => by
    unfold nsP
    simp only [Bool.not_eq_true', decide_eq_false_iff_not]
    intro e
    have h2 := (hw.slot_mem s o).2 ⟨ho, e⟩
    rw [drop_slot h.wf, if_pos rfl] at h2
    cases h2
  have hs : ∀ o ∈ X.slot s, ¬ nsP s o = true := fun o ho => by unfold nsP; simp [((h.wf.slot_mem s o).1 ho).2]
  have hpm : (all.filter (nsP s)).Perm (dropX X s).ents := by
    have h2 := (h.pm.trans hp).filter (nsP s)
    rw [List.filter_append, List.filter_eq_nil_iff.2 hs, List.nil_append, List.filter_eq_self.2 hne] at h2
    exact h2
  refine ⟨?_, hw, hpm⟩
  have h2 := (h.pm.trans hp).length_eq
  have h3 := hpm.length_eq
  rw [List.length_append] at h2
  omega
end
theorem addX_slots (X : IX) (e : En) : (addX X e).slots.length = X.slots.length := by
  unfold addX
  split
  · simp
  · rfl
theorem addX_nil {X : IX} {e : En} : (addX X e).slots = [] ↔ X.slots = [] := by
  rw [← List.length_eq_zero_iff, ← List.length_eq_zero_iff, addX_slots]
theorem alX_len (X : IX) (all : List En) (e : En) : (alX X all e).length ≤ all.length + 1 := by
  unfold alX
  split <;> simp
theorem add_nil {e : En} : addE ⟨[], []⟩ e = 1 := if_pos rfl

/-! ### In a world -/
/-- The program's index alone. -/
def PH (w0 : World) (p : Option Addr) (X : IX) (R : List Asn) (w : World) : Prop :=
  (p = none ∧ X = ⟨[], []⟩ ∧ SW w0 R w) ∨ (∃ b S, p = some ⟨b, 0, none⟩ ∧ X.slots ≠ [] ∧ SW w0 (ixA b X S :: R) w)
abbrev pxL (b rb : Nat) (X : IX) (S : Nat → Prop) (v : Value) (all : List En) (R : List Asn) : List Asn := ixA b X S :: rIx rb X.slots.length v all R
/-- Both. -/
def PX (w0 : World) (p q : Option Addr) (X : IX) (all : List En) (R : List Asn) (w : World) : Prop :=
  (p = none ∧ q = none ∧ X = ⟨[], []⟩ ∧ all = [] ∧ SW w0 R w) ∨ (∃ b rb S v, p = some ⟨b, 0, none⟩ ∧ q = some ⟨rb, 0, none⟩ ∧ X.slots ≠ [] ∧ SW w0 (pxL b rb X S v all R) w)
section
variable {w0 w w' : World} {p q : Option Addr} {X : IX} {all : List En} {R : List Asn}
theorem PX.gr (h : PX w0 p q X all R w) (g : Gr w w') : PX w0 p q X all R w' := by
  rcases h with ⟨h1, h2, h3, h4, h5⟩ | ⟨b, rb, S, v, h1, h2, h3, h4⟩
  · exact .inl ⟨h1, h2, h3, h4, h5.gr g⟩
  · exact .inr ⟨b, rb, S, v, h1, h2, h3, h4.gr g⟩
theorem PX.g (h : PX w0 p q X all R w) : Gr w0 w := by
  rcases h with ⟨_, _, _, _, h5⟩ | ⟨b, rb, S, v, _, _, _, h4⟩
  · exact h5.g
  · exact h4.g
theorem PX.ixp (h : PX w0 p q X all R w) : ∃ S, IXP w p X S := by
  rcases h with ⟨h1, h2, h3, h4, h5⟩ | ⟨b, rb, S, v, h1, h2, h3, h4⟩
  · exact ⟨fun _ => False, .inr ⟨.inl h1, h3, fun k => ⟨fun h => h.elim, (fun ⟨a, ha, _⟩ => by rw [h1] at ha; cases ha)⟩⟩⟩
  · exact ⟨S, h1 ▸ h4.ixp⟩
theorem PX.rp (h : PX w0 p q X all R w) (hr : RelX X all) (hn : all.length ≤ 1000) : RP w q X := by
  rcases h with ⟨h1, h2, h3, h4, h5⟩ | ⟨b, rb, S, v, h1, h2, h3, h4⟩
  · exact .inl ⟨h2, h3⟩
  · exact .inr ⟨rb, h2, v, all, h4.get (i := 1) rfl, h3, h4.get (i := 2) rfl, hr.wf, hr.pm, hn⟩
theorem PX.part (h : PX w0 p q X all R w) {A : Asn} (hA : A ∈ R) : A.P w := by
  rcases h with ⟨_, _, _, _, h5⟩ | ⟨b, rb, S, v, _, _, _, h4⟩
  · exact h5.s.get hA
  · exact h4.s.get (List.mem_cons_of_mem _ (List.mem_cons_of_mem _ (List.mem_cons_of_mem _ hA)))
theorem PX.nil_iff (h : PX w0 p q X all R w) : (p = none ↔ X.slots = []) ∧ (q = none ↔ X.slots = []) := by
  rcases h with ⟨rfl, rfl, rfl, _, _⟩ | ⟨b, rb, S, v, rfl, rfl, h3, _⟩
  · exact ⟨⟨fun _ => rfl, fun _ => rfl⟩, ⟨fun _ => rfl, fun _ => rfl⟩⟩
  · exact ⟨⟨(fun h => by cases h), fun h => absurd h h3⟩, ⟨(fun h => by cases h), fun h => absurd h h3⟩⟩
end
theorem pNew {w0 w : World} {R : List Asn} (h : SW w0 R w) (n : Int) : Calls Try.prog 18 #[.int .i64 n] w fun e w' => ∃ p, e = .returned (.tuple #[.pointer p, .int .i64 (nwC n)]) ∧ PH w0 p (nwX n) R w' := by
  unfold nwC nwX
  by_cases h1 : 1 ≤ n ∧ n ≤ 32
  · rw [if_pos h1, if_pos h1]
    obtain ⟨m, rfl⟩ : ∃ m : Nat, n = m := ⟨n.toNat, by omega⟩
    have hm1 : 1 ≤ m := by omega
    have hm2 : m ≤ 32 := by omega
    refine (New_any m w hm1 hm2).mono ?_
    rintro e w' ⟨b, S, rfl, i1, i2, i3⟩
    exact ⟨_, rfl, .inr ⟨b, S, rfl, ixNew_pos hm1, h.ixnew i1 i2 i3⟩⟩
  · rw [if_neg h1, if_neg h1]
    refine (new_bad n (by omega) w).mono ?_
    rintro e w' ⟨rfl, rfl⟩
    exact ⟨none, rfl, .inl ⟨rfl, rfl, h⟩⟩
theorem rNew_bad (n : Int) (h : n < 1 ∨ 32 < n) (w : World) : Calls Try.prog 19 #[.int .i64 n] w fun e w' => e = .returned (.tuple #[.pointer none, .int .i64 2]) ∧ w = w' := by
  rcases h with h | h
  · go_enter Try.func19, Try.ntmps19
    go_wp2
    go_ret2
    exact ⟨rfl, rfl⟩
  · have h' : ¬ n < 1 := by omega
    go_enter Try.func19, Try.ntmps19
    go_wp2
    go_ret2
    exact ⟨rfl, rfl⟩
theorem pNewR {w0 w : World} {R : List Asn} {p : Option Addr} {n : Int} (h : PH w0 p (nwX n) R w) : Calls Try.prog 19 #[.int .i64 n] w fun e w' => ∃ q, e = .returned (.tuple #[.pointer q, .int .i64 (nwC n)]) ∧ PX w0 p q (nwX n) [] R w' := by
  unfold nwC
  unfold nwX at h ⊢
  by_cases h1 : 1 ≤ n ∧ n ≤ 32
  · rw [if_pos h1] at h ⊢
    rw [if_pos h1]
    obtain ⟨m, rfl⟩ : ∃ m : Nat, n = m := ⟨n.toNat, by omega⟩
    have hm1 : 1 ≤ m := by omega
    have hm2 : m ≤ 32 := by omega
    rw [Int.toNat_natCast] at h ⊢
    have hl : ((ixNew m).slots.length : Int) = m := by unfold ixNew; simp
    rcases h with ⟨_, h2, _⟩ | ⟨b, S, rfl, h2, h3⟩
    · exact absurd (by rw [h2]) (ixNew_pos hm1)
    · refine (rNew m hm1 hm2 w).mono ?_
      rintro e w' ⟨rfl, rfl⟩
      have h4 := h3.alloc (rmO m (.slice none 0 0))
      have n1 : Own (w.alloc (rmO m (.slice none 0 0))) 53 6 (.slice none 0 0) 0 [] := nilRow _ _ _
      have h5 := h4.new (Gr.refl _) (A := rowA 53 6 (.slice none 0 0) 0 []) n1 (fun k hk => by cases hk)
      refine ⟨_, rfl, .inr ⟨b, w.heap.size, S, .slice none 0 0, rfl, rfl, h2, ?_⟩⟩
      show SW w0 (ixA b (ixNew m) S :: blkA w.heap.size (rmO (ixNew m).slots.length (.slice none 0 0)) :: rowA 53 6 (.slice none 0 0) ([] : List En).length (rowE []) :: R) _
      rw [hl]
      exact (h5.pick (i := 1) rfl).pick (i := 2) rfl
  · rw [if_neg h1] at h ⊢
    rw [if_neg h1]
    refine (rNew_bad n (by omega) w).mono ?_
    rintro e w' ⟨rfl, rfl⟩
    rcases h with ⟨rfl, _, h3⟩ | ⟨b, S, _, h2, _⟩
    · exact ⟨none, rfl, .inl ⟨rfl, rfl, rfl, rfl, h3⟩⟩
    · exact absurd rfl h2
theorem pAdd {w0 w : World} {p q : Option Addr} {X : IX} {all : List En} {R : List Asn} (h : PX w0 p q X all R w) (e : En) (hB : En64 e) :
    Calls Try.prog 20 #[.pointer p, enV e] w fun r w' => r = .returned (.int .i64 (addE X e)) ∧ PX w0 p q (addX X e) all R w' ∧ Mdh (fun k => w0.heap.size ≤ k) w w' := by
  rcases h with ⟨rfl, rfl, rfl, rfl, h5⟩ | ⟨b, rb, S, v, rfl, rfl, h3, h4⟩
  · refine (AddN (.inl rfl) e).mono ?_
    rintro r w' ⟨rfl, hg⟩
    exact ⟨rfl, .inl ⟨rfl, rfl, rfl, rfl, h5.gr hg⟩, hg.mdh _⟩
  · refine (Add_all h4.ix e hB).mono ?_
    rintro r w' ⟨rfl, hp⟩
    obtain ⟨S', h6⟩ := h4.post hp
    obtain ⟨_, _, hm, _⟩ := hp
    refine ⟨rfl, .inr ⟨b, rb, S', v, rfl, rfl, fun h0 => h3 (addX_nil.1 h0), ?_⟩, hm.mono (fun k hk => h4.n (ixA b X S) (List.mem_cons_self ..) k hk)⟩
    show SW w0 (ixA b (addX X e) S' :: blkA rb (rmO (addX X e).slots.length v) :: rowA 53 6 v all.length (rowE all) :: R) w'
    rw [addX_slots]
    exact h6
set_option maxHeartbeats 2000000 in
theorem rAddN (e : En) (w : World) : Calls Try.prog 21 #[.pointer none, enV e] w fun r w' => r = .returned (.int .i64 1) ∧ Gr w w' := by
  obtain ⟨e1, e2, e3, e4, e5, e6⟩ := e
  simp only [enV]
  go_enter Try.func21, Try.ntmps21
  go_wp2_with (go_at_call 85; refine Calls.mono (rvalid_no _) ?_; rintro e w1 ⟨rfl, rfl⟩)
  go_ret
  exact ⟨rfl, by (repeat (first | (with_reducible exact Gr.refl _) | assumption | (with_reducible apply Gr.from_drew) | (with_reducible apply Gr.alloc) | (with_reducible apply Gr.drew) | (with_reducible refine Gr.trans ?_ (by assumption)) | (with_reducible refine Gr.setCell ?_ (by omega) _)))⟩
theorem pAddR {w0 w : World} {p q : Option Addr} {X : IX} {all : List En} {R : List Asn} {e : En} (h : PX w0 p q (addX X e) all R w) (hr : RelX X all) (hk : e.key.size ≤ 10000) (hn : all.length ≤ 200) :
    Calls Try.prog 21 #[.pointer q, enV e] w fun r w' => r = .returned (.int .i64 (addE X e)) ∧ PX w0 p q (addX X e) (alX X all e) R w' ∧ Mdh (fun k => w0.heap.size ≤ k) w w' := by
  rcases h with ⟨rfl, rfl, h0, rfl, h5⟩ | ⟨b, rb, S, v, rfl, rfl, h3, h4⟩
  · have hs : X.slots = [] := addX_nil.1 (by rw [h0])
    have hE : addE X e = 1 := by rw [hr.no hs, add_nil]
    refine (rAddN e w).mono ?_
    rintro r w' ⟨rfl, hg⟩
    exact ⟨by rw [hE], .inl ⟨rfl, rfl, h0, by unfold alX; rw [if_neg (by rw [hE]; decide)], h5.gr hg⟩, hg.mdh _⟩
  · have hs : X.slots ≠ [] := fun h0 => h3 (addX_nil.2 h0)
    have hp := List.length_pos_iff.2 hs
    have h4' := h4.pick (i := 1) rfl
    have h6 := h4'.pick (i := 2) rfl
    have h7 : SW w0 (rIx rb X.slots.length v all (ixA b (addX X e) S :: R)) w := by
      have := h6.pick (i := 1) rfl
      rw [← addX_slots X e]
      exact this
    have hrb : w0.heap.size ≤ rb := h7.n (blkA rb (rmO X.slots.length v)) (List.mem_cons_self ..) rb rfl
    refine (rAdd e h7 (by omega) hr.rows (by omega) hn).mono ?_
    rintro r w' ⟨rfl, hm, v', h8⟩
    rw [hr.codes hs, hr.lists hs] at *
    refine ⟨rfl, .inr ⟨b, rb, S, v', rfl, rfl, h3, ?_⟩, hm.mono (fun k hk => by rw [hk]; exact hrb)⟩
    have h9 := h8.pick (i := 2) rfl
    show SW w0 (ixA b (addX X e) S :: blkA rb (rmO (addX X e).slots.length v') :: rowA 53 6 v' (alX X all e).length (rowE (alX X all e)) :: R) w'
    rw [addX_slots]
    exact h9
theorem Mdh.cut {S : Nat → Prop} {w w' : World} (h : Mdh S w w') {n : Nat} (hn : w.heap.size ≤ n) : Mdh (fun k => S k ∧ k < n) w w' :=
  ⟨h.size, fun k hk hs => h.blocks k hk (fun h2 => hs ⟨h2, by omega⟩), h.os, h.tape, h.output⟩
end Go.Proofs.Ytmdfickejpeofaa
