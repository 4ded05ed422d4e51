/- Rows of chapter 28: triples of bytes. -/
import Derived.Test.YthefpmmeoajaiaaBd15
import Derived.Test.YthefpmmeoajaiaaBd13
import Derived.Laws.IdiomArrays
import Derived.ChangeSlices
set_option linter.unusedVariables false
set_option linter.unusedSimpArgs false
namespace Go.Proofs.Ythefpmmeoajaiaa
open Go.ChangeShapes Go.WideShapes Go.Deep Go.RowKit
theorem u8t {a : Int} (h : (Lit.int .u8 a).wf = true) : 0 ≤ a ∧ a ≤ 255 := by
  simp only [Lit.wf, Bool.and_eq_true, decide_eq_true_eq] at h
  exact h
theorem u16t {a : Int} (h : (Lit.int .u16 a).wf = true) : 0 ≤ a ∧ a ≤ 65535 := by
  simp only [Lit.wf, Bool.and_eq_true, decide_eq_true_eq] at h
  exact h
theorem open_tri {H : Type} {enc : TypeId × Value → H} {w : World} {base : Nat} {spare : Nat → Bool} {held : Bool} {fuel : Nat} {a : Option Addr} {len cap : Nat} {x : DataW H × List MemPlace}
    (h : DataW.trod enc Try.prog w base spare held fuel 109 (Value.slice a len cap).cells.toList = some x) : len ≤ cap ∧ cap ≤ maxLen ∧ ∃ l : List Tr, l.length = len ∧ TriAt w a l := by
  rcases open_slice Try.underlying109 h with ⟨hcs, _⟩ | ⟨a', l, c, m, n, D, Pl, hcs, _, hl, hm, hmm, _, hi⟩
  · simp [Value.cells] at hcs
    obtain ⟨rfl, rfl, rfl⟩ := hcs
    exact ⟨by omega, by simp [maxLen], [], rfl, fun i x hx => by simp at hx⟩
  · simp [Value.cells] at hcs
    obtain ⟨rfl, rfl, rfl⟩ := hcs
    refine ⟨hl, hm, ?_⟩
    have hC : Try.prog.cellsOf 166 = 3 := by kernel_rfl
    have hE : Try.prog.cellsOf 5 = 1 := by kernel_rfl
    rw [hC] at hi
    by_cases h0 : 0 < len
    · have hml : len ≤ m := by rw [hmm]; split <;> omega
      have hel : ∀ i, i < len → ∃ c0 c1 c2 : Int, w.cell? ((a'.add (i * 3)).add 0) = some (.int .u8 c0) ∧ w.cell? ((a'.add (i * 3)).add 1) = some (.int .u8 c1) ∧ w.cell? ((a'.add (i * 3)).add 2) = some (.int .u8 c2) ∧ (0 ≤ c0 ∧ c0 ≤ 255) ∧ (0 ≤ c1 ∧ c1 ≤ 255) ∧ (0 ≤ c2 ∧ c2 ≤ 255) := fun i hil => by
        obtain ⟨cs', hc, ht'⟩ := hi i (by omega)
        obtain ⟨_, hcl, hat⟩ := World.cells?_some hc
        match cs', hcl with
        | [c0, c1, c2], _ =>
          obtain ⟨y0, y1, y2, n', _, t0, t1, t2⟩ := trod_array3 Try.underlying166 hE ht'
          obtain ⟨x0, e0, _, w0⟩ := DataW.trod_int Try.underlying5 t0
          obtain ⟨x1, e1, _, w1⟩ := DataW.trod_int Try.underlying5 t1
          obtain ⟨x2, e2, _, w2⟩ := DataW.trod_int Try.underlying5 t2
          obtain rfl := List.cons.inj e0 |>.1
          obtain rfl := List.cons.inj e1 |>.1
          obtain rfl := List.cons.inj e2 |>.1
          exact ⟨x0, x1, x2, hat 0 (by omega), hat 1 (by omega), hat 2 (by omega), u8t w0, u8t w1, u8t w2⟩
      have hsp : a'.spot = none := by
        obtain ⟨c0, _, _, hc, _⟩ := hel 0 h0
        rw [Nat.zero_mul] at hc
        have : (a'.add 0).spot = none := spot_add hc
        simpa [Addr.add] using this
      have hadd : ∀ i j, (a'.add (i * 3)).add j = a'.add (i * 3 + j) := fun i j => by
        obtain ⟨b, o, s⟩ := a'
        simp only at hsp
        subst hsp
        rw [addr_add, addr_add, addr_add, Nat.add_assoc]
      obtain ⟨l, hl1, hl2⟩ := list_of len (⟨0, 0, 0⟩ : Tr) (fun i t => w.cell? ⟨a'.block, a'.off + i * 3, none⟩ = some (.int .u8 t.a) ∧ w.cell? ⟨a'.block, a'.off + i * 3 + 1, none⟩ = some (.int .u8 t.b) ∧ w.cell? ⟨a'.block, a'.off + i * 3 + 2, none⟩ = some (.int .u8 t.c) ∧ a'.block < w.heap.size ∧ t.Ok) (fun i hil => by
        obtain ⟨x0, x1, x2, c0, c1, c2, w0, w1, w2⟩ := hel i hil
        rw [hadd] at c0 c1 c2
        obtain ⟨hb, d0⟩ := at_add c0 hsp
        exact ⟨⟨x0, x1, x2⟩, d0, (at_add c1 hsp).2, (at_add c2 hsp).2, hb, w0, w1, w2⟩)
      refine ⟨l, hl1, fun i x hx => ?_⟩
      obtain ⟨hlt, rfl⟩ := List.getElem?_eq_some_iff.1 hx
      obtain ⟨c0, c1, c2, hb, h4⟩ := hl2 i (by omega)
      rw [hx] at c0 c1 c2 h4
      exact ⟨_, _, by obtain ⟨b, o, s⟩ := a'; simp_all, hb, c0, c1, c2, h4⟩
    · obtain rfl : len = 0 := by omega
      exact ⟨[], rfl, fun i x hx => by simp at hx⟩
end Go.Proofs.Ythefpmmeoajaiaa

/- A row of bytes that lies somewhere. -/
set_option linter.unusedVariables false
set_option linter.unusedSimpArgs false
namespace Go.Proofs.Ythefpmmeoajaiaa
open Go.ChangeShapes Go.WideShapes Go.Deep Go.RowKit
/-- The bytes of a list lie at a. -/
def BytAt (w : World) (a : Option Addr) (l : List Int) : Prop :=
  ∀ i x, l[i]? = some x → ∃ b off, a = some ⟨b, off, none⟩ ∧ b < w.heap.size ∧ w.cell? ⟨b, off + i, none⟩ = some (.int .u8 x) ∧ 0 ≤ x ∧ x ≤ 255
theorem open_u8s {H : Type} {enc : TypeId × Value → H} {w : World} {base : Nat} {spare : Nat → Bool} {held : Bool} {fuel : Nat} {a : Option Addr} {len cap : Nat} {x : DataW H × List MemPlace}
    (h : DataW.trod enc Try.prog w base spare held fuel 101 (Value.slice a len cap).cells.toList = some x) : len ≤ cap ∧ cap ≤ maxLen ∧ ∃ l : List Int, l.length = len ∧ BytAt w a l := by
  rcases open_ints Try.underlying101 Try.underlying5 (by kernel_rfl) h with ⟨hcs, _⟩ | ⟨a', l, c, zs, hcs, _, hl, hm, hz, _, hcell, hwz⟩
  · simp [Value.cells] at hcs
    obtain ⟨rfl, rfl, rfl⟩ := hcs
    exact ⟨by omega, by simp [maxLen], [], rfl, fun i x hx => by simp at hx⟩
  · simp [Value.cells] at hcs
    obtain ⟨rfl, rfl, rfl⟩ := hcs
    have hlz : len ≤ zs.length := by rw [hz]; split <;> omega
    refine ⟨hl, hm, zs.take len, by rw [List.length_take]; omega, fun i x hx => ?_⟩
    have hi : i < len := by
      have := (List.getElem?_eq_some_iff.1 hx).1
      rw [List.length_take] at this
      omega
    rw [List.getElem?_take, if_pos hi] at hx
    have hc := hcell i (by omega)
    rw [List.getD_eq_getElem?_getD, hx, Option.getD_some] at hc
    have hsp : a'.spot = none := spot_add (hcell 0 (by omega))
    obtain ⟨hb, d0⟩ := at_add hc hsp
    exact ⟨_, _, by obtain ⟨b, o, s⟩ := a'; simp_all, hb, d0, u8t (hwz x (List.mem_of_getElem? hx))⟩
end Go.Proofs.Ythefpmmeoajaiaa

/- CursorAll: the walk. -/
set_option linter.unusedVariables false
set_option linter.unusedSimpArgs false
namespace Go.Proofs.Ythefpmmeoajaiaa
open Go.RowKit Go.Shelf
attribute [local go_sem] OvM cell_ovm obj_ovm
attribute [local go_sem] Oper.semAt_some

def bKey : ByteArray := ⟨#[98]⟩
set_option maxRecDepth 40000 in
set_option maxHeartbeats 8000000 in
theorem CursorAll_any (a : Option Addr) (len cap : Nat) (L : List Tr) (u : Int) (a2 : Option Addr) (len2 cap2 : Nat) (B : List Int) (w : World) (hl : L.length = len) (hle : len ≤ cap) (hcap : cap ≤ maxLen) (hs : TriAt w a L) (hu0 : 0 ≤ u) (hu1 : u ≤ 255)
    (hl2 : B.length = len2) (hle2 : len2 ≤ cap2) (hcap2 : cap2 ≤ maxLen) (hs2 : BytAt w a2 B) :
    Calls Try.prog 13 #[.slice a len cap, .int .u8 u, .slice a2 len2 cap2] w fun e w' => e = .returned (.bool true) ∧ Gr w w' := by
  by_cases h80 : 80 < len
  · have h80' : (80 : Int) < len := by omega
    clear hs hl hs2 hl2
    go_enter Try.func13, Try.ntmps13
    go_wp2_with (go_at_call 50; refine (cu_works _).mono ?_; rintro e w1 ⟨rfl, hg⟩; have HG := Lib.hid hg; clear hg)
    go_ret
    exact ⟨rfl, HG.out⟩
  have h80' : ¬ (80 : Int) < len := by omega
  have HC := Lib.hid (built28_any a len cap L w hl (by omega) hle hcap hs)
  have HST := Lib.hid (foldT_ok L (by omega) (triOk hs))
  have HFS := Lib.hid (foldT_slot L (by omega) (triOk hs))
  have HLN : Hid ((foldT L).all.length = len) := Lib.hid (by rw [foldT_len, hl])
  have HB := Lib.hid hs2
  have HBL := Lib.hid hl2
  unfold maxLen at hcap2
  obtain ⟨v, hv⟩ : ∃ v : Nat, u % 5 = (v : Int) := ⟨(u % 5).toNat, by omega⟩
  have hv5 : v < 5 := by omega
  clear hs hl hs2 hl2
  go_enter Try.func13, Try.ntmps13
  go_wp2_with fail
  refine Calls.mono HC.out ?_
  rintro e w1 ⟨b, S, av, cv, rfl, hs⟩
  have HS1 := Lib.hid hs
  generalize foldT L = st at *
  obtain ⟨X, all, us⟩ := st
  simp only at HS1 HLN HFS
  simp only
  have HX := Lib.hid (TS.sl HST.out)
  have hal : all.length ≤ 80 := by have := HLN.out; omega
  have hsl : (X.slot (v : Int)).length ≤ 80 := by have := HX.out.2.2 (v : Int); simp only at *; omega
  have HKV : Hid (KV X (v : Int) (X.slot (v : Int))) := Lib.hid ⟨HST.out.g.wf, by have := HX.out.2.1; simp only at this; omega, rfl⟩
  have HFL := Lib.hid (HFS.out (v : Int))
  clear hs HC HFS HX
  go_wp2_with fail
  refine (cuNew _).mono ?_
  rintro e w2 ⟨rfl, rfl⟩
  obtain ⟨b7, hb7⟩ : ∃ q, q = w1.heap.size := ⟨_, rfl⟩
  obtain ⟨w2, hw2⟩ : ∃ y, y = w1.alloc (cuO ⟨false, 0, 0⟩) := ⟨_, rfl⟩
  have HS2 : Hid (SW w [ixA b X S, blkA b7 (cuO ⟨false, 0, 0⟩), rowA 43 6 (.slice av all.length cv) all.length (rowE all)] w2) := Lib.hid (by rw [hw2, hb7]; exact HS1.out.allocT _)
  rw [← hb7, ← hw2]
  clear hb7 hw2 HS1
  go_wp2_with fail
  (try rw [hv])
  refine (start_sw HS2.out (v : Int)).mono ?_
  rintro e w3 ⟨rfl, hs, _⟩
  have HC1 : Hid (startC ⟨false, 0, 0⟩ (v : Int) = 0) := Lib.hid (by unfold startC; rw [if_neg (by omega), if_neg (by decide)])
  have HC2 : Hid (startX ⟨false, 0, 0⟩ (v : Int) = curAt (X.slot (v : Int)) v 0) := Lib.hid (by unfold startX; rw [if_pos HC1.out]; rfl)
  rw [HC2.out] at hs
  rw [HC1.out]
  have HS3 := Lib.hid hs
  clear hs HS2 HC1 HC2
  go_wp2_with fail
  refine (of28 all (by omega) _ (v : Int) _ (HS3.out.get (i := 2) rfl)).mono ?_
  rintro e w4 ⟨v11, rfl, hr, hg⟩
  rw [HFL.out] at hr
  have HS4 : Hid (SW w [ixA b X S, blkA b7 (cuO (curAt (X.slot (v : Int)) v 0)), rowA 43 6 v11 (X.slot (v : Int)).length (rowE (X.slot (v : Int)))] w4) := Lib.hid ((HS3.out.row hr hg).sel [0, 2, 1] (by decide) rfl)
  obtain ⟨a11, c11, rfl, hc11, hm11, _⟩ := ownE_at hr.own
  clear hr hg HS3 HFL HST HLN
  generalize X.slot (v : Int) = want at *
  unfold maxLen at hm11
  go_wp2_with fail
  go_loopw [9, 12, 13] (fun t9 t12 t13 wx => ∃ (i cb : Nat) (X : IX) (S : Nat → Prop) (q : Int), i ≤ want.length ∧ t9 = .pointer (some ⟨cb, 0, none⟩) ∧ t12 = .int .i64 q ∧ 0 ≤ q ∧ q ≤ 1000 + i ∧ t13 = .int .i64 i ∧ KV X (v : Int) want ∧ Hid (SW w [ixA b X S, blkA cb (cuO (curAt want v i)), rowA 43 6 (.slice a11 want.length c11) want.length (rowE want)] wx)) (fun _ _ t13 _ => want.length - (intOf t13).toNat)
  case atStart => exact ⟨0, b7, X, S, 1000, by omega, rfl, rfl, by omega, by omega, rfl, HKV.out, HS4⟩
  case round =>
    obtain ⟨i, cb, X, S, q, hi, rfl, rfl, hq0, hq1, rfl, hkv, HI⟩ := hrel
    have HK := Lib.hid hkv
    clear HS4 hkv HKV
    have hi' : (i : Int) ≤ want.length := by omega
    have hi80 : i ≤ 80 := by omega
    go_upto_if 60 with fail
    go_cut [9, 12] (fun t9 t12 wx => ∃ (cb : Nat) (X : IX) (S : Nat → Prop) (q : Int), t9 = .pointer (some ⟨cb, 0, none⟩) ∧ t12 = .int .i64 q ∧ 0 ≤ q ∧ q ≤ 1001 + i ∧ KV X (v : Int) want ∧ Hid (SW w [ixA b X S, blkA cb (cuO (curAt want v i)), rowA 43 6 (.slice a11 want.length c11) want.length (rowE want)] wx))
    case first =>
      by_cases hib : i < len2
      · have hib' : (i : Int) < len2 := by omega
        obtain ⟨z, hz⟩ : ∃ z, B[i]? = some z := ⟨_, List.getElem?_eq_getElem (by have := HBL.out; omega)⟩
        obtain ⟨bm, off, rfl, hbm, m0, z0, z255⟩ := HB.out i z hz
        have e0 := HI.out.g.keep m0
        obtain ⟨o, ho⟩ : ∃ o : Nat, ((v : Int) + 1 + z % 4) % 5 = (o : Int) := ⟨(((v : Int) + 1 + z % 4) % 5).toNat, by omega⟩
        have hov : (o : Int) ≠ (v : Int) := by omega
        obtain ⟨k, hk⟩ : ∃ k : Nat, z / 64 = (k : Int) := ⟨(z / 64).toNat, by omega⟩
        have hk4 : k = 0 ∨ k = 1 ∨ k = 2 ∨ k = 3 := by omega
        clear hz hbm m0
        rcases hk4 with rfl | rfl | rfl | rfl
        · go_wp2_with fail
          refine (cuCopy HI.out.cu).mono ?_
          rintro e w8 ⟨rfl, rfl⟩
          go_wp2_with fail
          go_meet
          exact ⟨_, X, S, q, rfl, rfl, hq0, by omega, HK.out, Lib.hid ((HI.out.allocT (cuO (curAt want v i))).sel [0, 1, 3] (by decide) rfl)⟩
        · go_wp2_with fail
          refine (Drop_any HI.out.ix (o : Int)).mono ?_
          rintro e w8 ⟨rfl, hp⟩
          obtain ⟨S4, hs⟩ := HI.out.post hp
          have HS8 := Lib.hid hs
          clear hs hp
          go_wp2_with fail
          go_meet
          exact ⟨cb, dropX X (o : Int), S4, q, rfl, rfl, hq0, by omega, HK.out.drop hov, HS8⟩
        · go_wp2_with fail
          have hEL : Low (⟨q + 1, ⟨#[98]⟩, false, 5, (i : Int) * 20, 17⟩ : En).key := by
            show Low ⟨#[98]⟩
            unfold Low
            decide
          have hE6 : En64 ⟨q + 1, ⟨#[98]⟩, false, 5, (i : Int) * 20, 17⟩ := ⟨show (17 : Int) ≤ 9223372036854775807 by decide, show (-9223372036854775808 : Int) ≤ 17 by decide, show (⟨#[98]⟩ : ByteArray).size ≤ 140737488351232 by decide⟩
          refine (Add_any HI.out.ix ⟨q + 1, ⟨#[98]⟩, false, 5, (i : Int) * 20, 17⟩ hEL hE6).mono ?_
          rintro e w8 ⟨rfl, hp⟩
          obtain ⟨S4, hs⟩ := HI.out.post hp
          have HS8 := Lib.hid hs
          clear hs hp
          go_wp2_with fail
          go_meet
          exact ⟨cb, addX X _, S4, q + 1, rfl, rfl, by omega, by omega, HK.out.add (by show (5 : Int) ≠ (v : Int); omega), HS8⟩
        · go_wp2_with fail
          go_meet
          exact ⟨cb, X, S, q, rfl, rfl, hq0, by omega, HK.out, HI⟩
      · have hib' : ¬ (i : Int) < len2 := by omega
        go_wp2_with fail
        go_meet
        exact ⟨cb, X, S, q, rfl, rfl, hq0, by omega, HK.out, HI⟩
    case rest =>
      obtain ⟨cb2, X2, S2, q2, rfl, rfl, hq2, hq3, hkv, HJ⟩ := hcut
      clear HI HK
      have HK := Lib.hid hkv
      clear hkv
      generalize cb2 = cb at *
      generalize X2 = X at *
      generalize S2 = S at *
      by_cases hli : i < want.length
      · obtain ⟨x, hx⟩ : ∃ x, want[i]? = some x := ⟨_, List.getElem?_eq_getElem hli⟩
        have HP := Lib.hid (HK.out.peek (show (v : Int) < 6 by omega) i hx)
        have HX := Lib.hid hx
        clear hx
        have hli' : (i : Int) < want.length := by omega
        go_wp2_with fail
        refine (peek_sw HJ.out).mono ?_
        rintro e w8 ⟨rfl, hg⟩
        rw [HP.out.1]
        have HJ8 := Lib.hid (HJ.out.gr hg)
        clear hg HJ
        obtain ⟨x0, x1, x2, x3, x4, x5⟩ := x
        simp only [enV]
        go_upto_region 24 with fail
        obtain ⟨b15, hb15⟩ : ∃ q, q = w8.heap.size := ⟨_, rfl⟩
        obtain ⟨w9, hw9⟩ : ∃ y, y = w8.alloc (boxF ⟨x0, x1, x2, x3, x4, x5⟩) := ⟨_, rfl⟩
        have HS9 : Hid (SW w [ixA b X S, blkA cb (cuO (curAt want v i)), blkA b15 (boxF ⟨x0, x1, x2, x3, x4, x5⟩), rowA 43 6 (.slice a11 want.length c11) want.length (rowE want)] w9) := Lib.hid (by rw [hw9, hb15]; exact (HJ8.out.allocT _).sel [0, 2, 1, 3] (by decide) rfl)
        simp only [boxF] at hw9
        rw [← hb15, ← hw9]
        clear hw9 hb15 HJ8
        obtain ⟨_, _, hv, _, _, hat⟩ := ownE_at (show Own w9 43 6 (.slice a11 want.length c11) want.length (rowE want) from HS9.out.get (i := 3) rfl)
        injection hv with g1 g2 g3
        subst g1
        obtain ⟨g11, rfl, hg11, _, hc⟩ := hat i _ HX.out
        have y0 := hc 0 _ rfl
        have y1 := hc 1 _ rfl
        have y2 := hc 2 _ rfl
        have y3 := hc 3 _ rfl
        have y4 := hc 4 _ rfl
        have y5 := hc 5 _ rfl
        simp only [Nat.add_zero] at y0 y1 y2 y3 y4 y5
        clear hat hc g2 g3
        go_wp2_with fail
        refine (Needed_any HS9.out.ixp ⟨x0, x1, x2, x3, x4, x5⟩).mono ?_
        rintro e w10 ⟨rfl, hg⟩
        rw [HP.out.2.2.2.1]
        have HS10 := Lib.hid (HS9.out.gr hg)
        replace y0 := hg.keep y0
        replace y1 := hg.keep y1
        replace y2 := hg.keep y2
        replace y3 := hg.keep y3
        replace y4 := hg.keep y4
        replace y5 := hg.keep y5
        replace hg11 := Nat.lt_of_lt_of_le hg11 hg.sz
        have hN1 : ¬ b15 = cb := fun h => (HS10.out.get_ne (i := 2) (j := 1) rfl rfl (by decide)) b15 rfl h
        have hN2 : ¬ g11 = cb := fun h => (HS10.out.get_ne (i := 3) (j := 1) rfl rfl (by decide)) g11 (by simp [rowA, Value.ownBlock]) h
        clear hg HS9
        have d15 := (cellsOf (show w10.heap[b15]? = _ from HS10.out.get (i := 2) rfl)).1
        have l15 := blkLt (show w10.heap[b15]? = _ from HS10.out.get (i := 2) rfl)
        have lcb := blkLt (show w10.heap[cb]? = _ from HS10.out.get (i := 1) rfl)
        simp only [boxF] at d15
        have kn : ∀ w, (binOp .neq 43 (.agg #[.int .i64 x0, .string x1, .bool x2, .int .i64 x3, .int .i64 x4, .int .i64 x5]) (.agg #[.int .i64 x0, .string x1, .bool x2, .int .i64 x3, .int .i64 x4, .int .i64 x5])).run Try.prog w = .ok (.bool false) w := fun w => (neqE_run ⟨x0, x1, x2, x3, x4, x5⟩ ⟨x0, x1, x2, x3, x4, x5⟩ w).trans (by simp)
        have hle := HP.out.2.2.2.2.1
        have hvx := (valid_iff _).1 ((HK.out.wf.slotOk (v : Int)).e _ (by rw [HK.out.l]; exact List.mem_of_getElem? HX.out)).2
        simp only at hle hvx
        have hd4 : decide (x4 < (curAt want (v : Int) i).off) = false := decide_eq_false (by omega)
        have hn4 : ¬ x4 < (curAt want (v : Int) i).off := by omega
        have hx4 : 0 ≤ x4 ∧ x4 ≤ 8192 ∧ 0 ≤ x5 ∧ x5 ≤ 8192 := by omega
        obtain ⟨v1, v2, v3, v4⟩ := hx4
        have HPO : Hid ((curAt want (v : Int) (i + 1)).off = x4 + x5) := Lib.hid HP.out.2.2.2.2.2
        have HPC := Lib.hid HP.out.2.1
        have HPX := Lib.hid HP.out.2.2.1
        generalize X.needs ⟨x0, x1, x2, x3, x4, x5⟩ = nd at *
        clear hvx HP
        have HSd := Lib.hid (HS10.out.gr (Gr.refl w10).drew)
        go_wp2_with fail
        have HG := Gr.refl w10.drew
        refine wp_region_flo (fun k => k = cb) [] [] (by kernel_rfl) (by kernel_rfl) (fun k hk => by subst hk; exact lcb) ?_
        (try simp only [List.append_eq, List.cons_append, List.nil_append])
        refine flo_seg 17 rfl ?_
        simp only [List.take_succ_cons, List.take_zero, List.drop_succ_cons, List.drop_zero]
        repeat (go_big_quiet_step (fail))
        refine wpQuiet_nil ?_
        refine flo_eff rfl rfl rfl rfl (fun K hK => ?_)
        go_wp2_with ((go_at_call 58; refine (cuOffset HSd.out.cu).mono ?_; rintro e' w11 ⟨rfl, rfl⟩))
        refine ⟨by (first | (refine Gr.mdh ?_ _; (repeat (first | (with_reducible exact Gr.refl _) | assumption | (with_reducible apply Gr.from_drew) | (with_reducible apply Gr.alloc) | (with_reducible apply Gr.drew) | (with_reducible refine Gr.trans ?_ (by assumption)) | (with_reducible refine Gr.setCell ?_ (by omega) _))); done) | (repeat (first | (with_reducible exact Mdh.refl _ _) | (with_reducible refine Mdh.setCell ?_ (by simp) _) | (with_reducible refine Mdh.setNew ?_ (by simp) _) | (with_reducible apply Mdh.alloc) | (with_reducible apply Mdh.from_drew) | (with_reducible apply Mdh.drew) | (with_reducible refine Mdh.gr ?_ (by assumption))))), ?_⟩
        refine flo_seg 7 rfl ?_
        simp only [List.take_succ_cons, List.take_zero, List.drop_succ_cons, List.drop_zero]
        repeat (go_big_quiet_step (fail))
        refine wpQuiet_nil ?_
        refine flo_eff rfl rfl rfl rfl (fun K hK => ?_)
        go_wp2_with ((go_at_call 59; refine (adv_sw HSd.out).mono ?_; rintro e' w11 ⟨rfl, hs, hm⟩; rw [HPC.out]; rw [HPX.out] at hs; have HS11 := Lib.hid hs; have HM := Lib.hid hm; clear hs hm))
        refine ⟨by exact HM.out.mono (fun k hk => .inl hk), ?_⟩
        refine flo_seg 4 rfl ?_
        simp only [List.take_succ_cons, List.take_zero, List.drop_succ_cons, List.drop_zero]
        repeat (go_big_quiet_step (fail))
        refine wpQuiet_nil ?_
        refine flo_eff rfl rfl rfl rfl (fun K hK => ?_)
        go_wp2_with ((go_at_call 58; refine (cuOffset HS11.out.cu).mono ?_; rintro e' w12 ⟨rfl, rfl⟩; rw [HPO.out]))
        refine ⟨by (first | (refine Gr.mdh ?_ _; (repeat (first | (with_reducible exact Gr.refl _) | assumption | (with_reducible apply Gr.from_drew) | (with_reducible apply Gr.alloc) | (with_reducible apply Gr.drew) | (with_reducible refine Gr.trans ?_ (by assumption)) | (with_reducible refine Gr.setCell ?_ (by omega) _))); done) | (repeat (first | (with_reducible exact Mdh.refl _ _) | (with_reducible refine Mdh.setCell ?_ (by simp) _) | (with_reducible refine Mdh.setNew ?_ (by simp) _) | (with_reducible apply Mdh.alloc) | (with_reducible apply Mdh.from_drew) | (with_reducible apply Mdh.drew) | (with_reducible refine Mdh.gr ?_ (by assumption))))), ?_⟩
        refine flo_seg 7 rfl ?_
        simp only [List.take_succ_cons, List.take_zero, List.drop_succ_cons, List.drop_zero]
        repeat (go_big_quiet_step (fail))
        refine wpQuiet_nil ?_
        refine flo_nil ?_
        go_wp2_with fail
        exact ⟨⟨i + 1, cb, X, S, q2, by omega, rfl, rfl, hq2, by omega, by simp, HK.out, Lib.hid (HS11.out.sel [0, 1, 3] (by decide) rfl)⟩, by simp [intOf]; omega⟩
      · obtain rfl : i = want.length := by omega
        have HP := Lib.hid (HK.out.last (show (v : Int) < 6 by omega))
        go_wp2_with fail
        refine (peek_sw HJ.out).mono ?_
        rintro e w8 ⟨rfl, hg⟩
        rw [HP.out.1]
        have HJ8 := Lib.hid (HJ.out.gr hg)
        clear hg HJ
        simp only [enV, zE]
        have HJ9 := Lib.hid (HJ8.out.gr ((Gr.refl w8).alloc (boxF zE)))
        go_wp2_with fail
        refine (cuSlot HJ9.out.cu).mono ?_
        rintro e w9 ⟨rfl, hg⟩
        have HJA := Lib.hid (HJ9.out.gr hg)
        clear hg HJ9 HJ8
        rw [show (curAt want (v : Int) want.length).slot = (v : Int) from rfl, show (curAt want (v : Int) want.length).has = true from rfl]
        go_wp2_with fail
        refine (adv_sw HJA.out).mono ?_
        rintro e w10 ⟨rfl, hs, _⟩
        rw [HP.out.2.1]
        have HJB := Lib.hid hs
        clear hs HJA
        go_wp2_with fail
        refine (cu_works _).mono ?_
        rintro e w18 ⟨rfl, hg⟩
        have HG := Lib.hid (HJB.out.g.trans hg)
        clear hg
        go_wp2
        go_ret
        exact ⟨rfl, HG.out⟩
end Go.Proofs.Ythefpmmeoajaiaa
