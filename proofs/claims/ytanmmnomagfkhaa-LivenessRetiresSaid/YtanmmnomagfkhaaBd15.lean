/- For rows: slices of structs, and bytes. -/
import Derived.Test.YtanmmnomagfkhaaBd2
import Derived.Deep.Slices
import Derived.Deep.Fields
import Derived.ChangeSame
import Derived.ChangeArms
import Derived.OpenShut
import Derived.ShutString
import Derived.ChangeOld
import Derived.Lib.SmallJoins
import Derived.Test.YtanmmnomagfkhaaBd14
import Derived.Test.YtanmmnomagfkhaaBd6
import Derived.Test.YtanmmnomagfkhaaBd12
import Derived.Laws.BytesArg
set_option linter.unusedVariables false
set_option linter.unusedSimpArgs false
namespace Go.Proofs.Ytanmmnomagfkhaa
open Go.ChangeShapes Go.WideShapes Go.Deep
section
variable {H : Type} {enc : TypeId × Value → H} {P : Program} {w : World} {base : Nat} {spare : Nat → Bool} {held : Bool}
theorem open_slice_fields {t e : TypeId} {fs : Array Field} {fuel : Nat} {cs : List Value} {x : DataW H × List MemPlace} (ht : P.underlying t = some (.slice e)) (he : P.underlying e = some (.struct fs))
    (hone : oneCellFields P fs = true) (hC : P.cellsOf e = fs.size) (h : DataW.trod enc P w base spare held fuel t cs = some x) :
    (cs = [.slice none 0 0] ∧ x = (.nil, [])) ∨
    ∃ (a : Addr) (len cap m : Nat) (D : Nat → DataW H) (Pl : Nat → List MemPlace), cs = [.slice (some a) len cap] ∧ base ≤ a.block ∧ len ≤ cap ∧ cap ≤ maxLen ∧ m = (if spare a.block then cap else len) ∧
      x = (.slice ((List.range len).map D) ((List.range (m - len)).map fun j => D (len + j)), MemPlace.row a (m * fs.size) ++ (List.range m).flatMap Pl) ∧
      ∀ i, i < m → ∃ (ys : List (DataW H × List MemPlace)) (n : Nat), D i = .agg (ys.map (·.1)) ∧ Pl i = ys.flatMap (·.2) ∧ ys.length = fs.size ∧
        ∀ (j : Nat) (f : Field), fs[j]? = some f → ∃ (v : Value) (y : DataW H × List MemPlace), w.cell? (a.add (i * fs.size + j)) = some v ∧ ys[j]? = some y ∧ DataW.trod enc P w base spare held n f.type [v] = some y := by
  rcases open_slice ht h with h0 | ⟨a, len, cap, m, n, D, Pl, hcs, hb, hl, hm, hmm, hx, hi⟩
  · exact .inl h0
  · refine .inr ⟨a, len, cap, m, D, Pl, hcs, hb, hl, hm, hmm, by rw [hC] at hx; exact hx, fun i him => ?_⟩
    obtain ⟨cs', hc, ht'⟩ := hi i him
    rw [hC] at hc
    obtain ⟨ys, n', hn', hy, hlen, hyl, hf⟩ := DataW.trod_struct he ht'
    obtain ⟨_, hcl, hat⟩ := World.cells?_some hc
    simp only [Prod.mk.injEq] at hy
    refine ⟨ys, n', hy.1, hy.2, hyl, fun j f hj => ?_⟩
    obtain ⟨ho, hk⟩ := hone_of hone j f hj
    have hjl : j < fs.size := (Array.getElem?_eq_some_iff.1 hj).1
    have hcell := hat j hjl
    have hv : cs'[j]? = some (cs'[j]'(by omega)) := List.getElem?_eq_getElem (by omega)
    have h1 := hf j f hj
    rw [ho, hk] at h1
    have hone' : (cs'.drop j).take 1 = [cs'[j]'(by omega)] := by
      rw [List.drop_eq_getElem_cons (by omega)]
      rfl
    rw [hone'] at h1
    have hys : ys[j]? = some (ys[j]'(by omega)) := List.getElem?_eq_getElem (by omega)
    refine ⟨_, _, ?_, hys, h1.trans hys⟩
    rw [← Go.Deep.add_add, hcell, hv]
end

open Go.RowKit
theorem list_of {α : Type} (len : Nat) (d : α) (R : Nat → α → Prop) (h : ∀ i, i < len → ∃ x, R i x) : ∃ l : List α, l.length = len ∧ ∀ i, i < l.length → R i (l[i]?.getD d) := by
  classical
  refine ⟨(List.range len).map (fun i => if hi : i < len then Classical.choose (h i hi) else d), by simp, fun i hi => ?_⟩
  have hi' : i < len := by simpa using hi
  simp only [List.getElem?_map, List.getElem?_range hi', Option.map_some, Option.getD_some, dif_pos hi']
  exact Classical.choose_spec (h i hi')
theorem u8_of {a : Int} (h : (Lit.int .u8 a).wf = true) : ∃ c : UInt8, a = (c.toNat : Int) := by
  have h' : (decide (IntKind.u8.min ≤ a) && decide (a ≤ IntKind.u8.max)) = true := h
  have : 0 ≤ a ∧ a ≤ 255 := by simpa [IntKind.min, IntKind.max, IntKind.signed, IntKind.bits] using h'
  refine ⟨UInt8.ofNat a.toNat, ?_⟩
  rw [UInt8.toNat_ofNat_of_lt' (by have : UInt8.size = 256 := rfl; omega)]
  omega
theorem at_add {w : World} {a : Addr} {k : Nat} {v : Value} (h : w.cell? (a.add k) = some v) (hs : a.spot = none) : a.block < w.heap.size ∧ w.cell? ⟨a.block, a.off + k, none⟩ = some v := by
  have e : a.add k = ⟨a.block, a.off + k, none⟩ := by
    unfold Addr.add
    obtain ⟨b, o, s⟩ := a
    split
    · simp_all
    · rfl
  rw [e] at h
  refine ⟨?_, h⟩
  unfold World.cell? at h
  refine Classical.byContradiction fun hc => ?_
  rw [Array.getElem?_eq_none (by simpa using hc)] at h
  cases h
theorem spot_add {w : World} {a : Addr} {v : Value} (h : w.cell? (a.add 0) = some v) : a.spot = none := by
  simpa [Addr.add] using World.cell?_spot h
end Go.Proofs.Ytanmmnomagfkhaa

/- Rows of chapter 24: acts. -/
set_option linter.unusedVariables false
set_option linter.unusedSimpArgs false
namespace Go.Proofs.Ytanmmnomagfkhaa
open Go.ChangeShapes Go.WideShapes Go.Deep Go.RowKit
theorem u8a {a : Int} (h : (Lit.int .u8 a).wf = true) : 0 ≤ a ∧ a ≤ 255 := by
  simp only [Lit.wf, Bool.and_eq_true, decide_eq_true_eq] at h
  exact h
/-- The acts of a list lie at a. -/
def ActAt (w : World) (a : Option Addr) (l : List Ac) : Prop :=
  ∀ i x, l[i]? = some x → ∃ b off, a = some ⟨b, off, none⟩ ∧ b < w.heap.size ∧ w.cell? ⟨b, off + i * 3, none⟩ = some (.int .u8 x.kind) ∧ w.cell? ⟨b, off + i * 3 + 1, none⟩ = some (.int .u8 x.key) ∧ w.cell? ⟨b, off + i * 3 + 2, none⟩ = some (.int .u8 x.slot) ∧ x.Ok
theorem actOk {w : World} {a : Option Addr} {L : List Ac} (h : ActAt w a L) : ∀ t ∈ L, t.Ok := fun m hm => by
  obtain ⟨i, hi⟩ := List.mem_iff_getElem?.1 hm
  obtain ⟨_, _, _, _, _, _, _, h⟩ := h i m hi
  exact h
theorem open_acts {H : Type} {enc : TypeId × Value → H} {w : World} {base : Nat} {spare : Nat → Bool} {held : Bool} {fuel : Nat} {a : Option Addr} {len cap : Nat} {x : DataW H × List MemPlace}
    (h : DataW.trod enc Try.prog w base spare held fuel 75 (Value.slice a len cap).cells.toList = some x) : len ≤ cap ∧ cap ≤ maxLen ∧ ∃ l : List Ac, l.length = len ∧ ActAt w a l := by
  rcases open_slice_fields Try.underlying75 Try.underlying142 (by kernel_rfl) (show Try.prog.cellsOf 142 = 3 by kernel_rfl) h with ⟨hcs, _⟩ | ⟨a', l, c, m, D, Pl, hcs, _, hl, hm, hmm, _, hi⟩
  · simp [Value.cells] at hcs
    obtain ⟨rfl, rfl, rfl⟩ := hcs
    exact ⟨by omega, by simp [maxLen], [], rfl, fun i x hx => by simp at hx⟩
  · simp [Value.cells] at hcs
    obtain ⟨rfl, rfl, rfl⟩ := hcs
    refine ⟨hl, hm, ?_⟩
    by_cases h0 : 0 < len
    · have hml : len ≤ m := by rw [hmm]; split <;> omega
      have hsp : a'.spot = none := by
        obtain ⟨ys, n, _, _, _, hf⟩ := hi 0 (by omega)
        obtain ⟨v, y, hc, _, _⟩ := hf 0 _ rfl
        exact spot_add (by simpa using hc)
      obtain ⟨l, hl1, hl2⟩ := list_of len (⟨0, 0, 0⟩ : Ac) (fun i t => w.cell? ⟨a'.block, a'.off + i * 3, none⟩ = some (.int .u8 t.kind) ∧ w.cell? ⟨a'.block, a'.off + i * 3 + 1, none⟩ = some (.int .u8 t.key) ∧ w.cell? ⟨a'.block, a'.off + i * 3 + 2, none⟩ = some (.int .u8 t.slot) ∧ a'.block < w.heap.size ∧ t.Ok) (fun i hil => by
        obtain ⟨ys, n, _, _, _, hf⟩ := hi i (by omega)
        obtain ⟨v0, y0, c0, _, t0⟩ := hf 0 _ rfl
        obtain ⟨v1, y1, c1, _, t1⟩ := hf 1 _ rfl
        obtain ⟨v2, y2, c2, _, t2⟩ := hf 2 _ rfl
        obtain ⟨x0, e0, _, w0⟩ := DataW.trod_int Try.underlying5 t0
        obtain ⟨x1, e1, _, w1⟩ := DataW.trod_int Try.underlying5 t1
        obtain ⟨x2, e2, _, w2⟩ := DataW.trod_int Try.underlying5 t2
        obtain rfl := List.cons.inj e0 |>.1
        obtain rfl := List.cons.inj e1 |>.1
        obtain rfl := List.cons.inj e2 |>.1
        obtain ⟨hb, d0⟩ := at_add c0 hsp
        exact ⟨⟨x0, x1, x2⟩, d0, (at_add c1 hsp).2, (at_add c2 hsp).2, hb, u8a w0, u8a w1, u8a w2⟩)
      refine ⟨l, hl1, fun i x hx => ?_⟩
      obtain ⟨hlt, rfl⟩ := List.getElem?_eq_some_iff.1 hx
      obtain ⟨c0, c1, c2, hb, h4⟩ := hl2 i (by omega)
      rw [hx] at c0 c1 c2 h4
      exact ⟨_, _, by obtain ⟨b, o, s⟩ := a'; simp_all, hb, c0, c1, c2, h4⟩
    · obtain rfl : len = 0 := by omega
      exact ⟨[], rfl, fun i x hx => by simp at hx⟩
end Go.Proofs.Ytanmmnomagfkhaa

/- An entry of a row, read cell by cell. -/
set_option linter.unusedVariables false
set_option linter.unusedSimpArgs false
namespace Go.Proofs.Ytanmmnomagfkhaa
open Go.RowKit

theorem ent6g {w : World} {g c i : Nat} {l : List En} {x : En} (h : Own w 32 6 (.slice (some ⟨g, 0, none⟩) l.length c) l.length (rowE l)) (hx : l[i]? = some x) :
    g < w.heap.size ∧ w.cell? ⟨g, i * 6, none⟩ = some (.int .i64 x.seq) ∧ w.cell? ⟨g, i * 6 + 1, none⟩ = some (.string x.key) ∧ w.cell? ⟨g, i * 6 + 2, none⟩ = some (.bool x.del) ∧ w.cell? ⟨g, i * 6 + 3, none⟩ = some (.int .i64 x.slot) ∧
    w.cell? ⟨g, i * 6 + 4, none⟩ = some (.int .i64 x.off) ∧ w.cell? ⟨g, i * 6 + 5, none⟩ = some (.int .i64 x.size) := by
  obtain ⟨_, _, hve, _, _, hat⟩ := ownE_at h
  injection hve with g1 g2 g3
  subst g1
  obtain ⟨g', hg, hl, _, hc⟩ := hat i _ hx
  simp only [Option.some.injEq, Addr.mk.injEq, and_true] at hg
  subst hg
  have y0 := hc 0 _ rfl
  simp only [Nat.add_zero] at y0
  exact ⟨hl, y0, hc 1 _ rfl, hc 2 _ rfl, hc 3 _ rfl, hc 4 _ rfl, hc 5 _ rfl⟩
theorem ent6 {w : World} {a : Option Addr} {c i : Nat} {l : List En} {x : En} (h : Own w 32 6 (.slice a l.length c) l.length (rowE l)) (hx : l[i]? = some x) :
    ∃ g, a = some ⟨g, 0, none⟩ ∧ g < w.heap.size ∧ w.cell? ⟨g, i * 6, none⟩ = some (.int .i64 x.seq) ∧ w.cell? ⟨g, i * 6 + 1, none⟩ = some (.string x.key) ∧ w.cell? ⟨g, i * 6 + 2, none⟩ = some (.bool x.del) ∧ w.cell? ⟨g, i * 6 + 3, none⟩ = some (.int .i64 x.slot) ∧
    w.cell? ⟨g, i * 6 + 4, none⟩ = some (.int .i64 x.off) ∧ w.cell? ⟨g, i * 6 + 5, none⟩ = some (.int .i64 x.size) := by
  obtain ⟨_, _, hve, _, _, hat⟩ := ownE_at h
  injection hve with g1 g2 g3
  subst g1
  obtain ⟨g', rfl, _⟩ := hat i _ hx
  exact ⟨g', rfl, ent6g h hx⟩
end Go.Proofs.Ytanmmnomagfkhaa

/- drumlinlaw24.build: the walk. -/
set_option linter.unusedVariables false
set_option linter.unusedSimpArgs false
namespace Go.Proofs.Ytanmmnomagfkhaa
open Go.RowKit Go.Shelf
attribute [local go_sem] OvM cell_ovm obj_ovm
attribute [local go_sem] Oper.semAt_some

theorem cv_key24 {w1 : World} {B : Nat} {n : Int} {kb : ByteArray} (h : strOfNums [n] = kb) (hw : w1.cell? ⟨B, 0, none⟩ = some (.int .u8 n)) : (convert 143 9 (.slice (some ⟨B, 0, none⟩) 1 1)).run Try.prog w1 = .ok (.string kb) w1 := by
  have := run_convert_bytes_arg (P := Try.prog) (w := w1) 143 5 Try.underlying143 Try.underlying5 B 0 1 1 [n] rfl (by
    intro i hi
    obtain rfl : i = 0 := by omega
    simpa using hw) 9 Try.underlying9
  rw [h] at this
  exact this
theorem ac_str (x : Int) (κ : Nat) (h : x % 6 = (κ : Int)) : strOfNums [97 + (κ : Int)] = acKey x := by
  unfold acKey
  rw [h]
  simp [strOfNums]
theorem foldA_take {L : List Ac} {j : Nat} {x : Ac} (h : L[j]? = some x) : foldA (L.take (j + 1)) = stepA (foldA (L.take j)) x := by
  rw [List.take_add_one, h]
  exact foldA_snoc _ _
def BldP (w0 : World) (L : List Ac) (r : Ending) (w' : World) : Prop := ∃ b mb v S, r = .returned (.tuple #[.pointer (some ⟨mb, 0, none⟩), .bool true]) ∧ SW w0 (lL b mb v S (foldA L) []) w'
set_option maxRecDepth 40000 in
set_option maxHeartbeats 16000000 in
theorem build24_any (a : Option Addr) (len cap : Nat) (L : List Ac) (w : World) (hl : L.length = len) (h80 : len ≤ 80) (hle : len ≤ cap) (hcap : cap ≤ maxLen) (hs : ActAt w a L) :
    Calls Try.prog 38 #[.slice a len cap] w (BldP w L) := by
  have HS := Lib.hid hs
  have HL := Lib.hid hl
  unfold maxLen at hcap
  have hlc : (len : Int) ≤ cap := by omega
  clear hs hl
  go_enter Try.func38, Try.ntmps38
  go_wp2_with fail
  refine (New_any 6 w (by decide) (by decide)).mono ?_
  rintro e w1 ⟨b, S, rfl, h1, h2, h3⟩
  have H1 : Hid (SW w [ixA b (ixNew 6) S] w1) := Lib.hid ((SW.start w).ixnew h1 h2 h3)
  clear h1 h2 h3
  go_upto_region 3 with fail
  obtain ⟨mb, hmb⟩ : ∃ q, q = w1.heap.size := ⟨_, rfl⟩
  obtain ⟨w2, hw2⟩ : ∃ y, y = w1.alloc (bdO b (.slice none 0 0) (fun _ => 0) 0) := ⟨_, rfl⟩
  have H2 : Hid (SW w (lL b mb (.slice none 0 0) S (foldA (L.take 0)) []) w2) := Lib.hid (by
    have h := H1.out.alloc (bdO b (.slice none 0 0) (fun _ => 0) 0)
    rw [← hmb, ← hw2] at h
    have h' := h.new (Gr.refl _) (A := rowA 32 6 (.slice none 0 0) 0 []) (nilRow _ _ _) (fun k hk => by cases hk)
    exact (h'.pick (i := 1) rfl).pick (i := 2) rfl)
  (try simp only [bdO, bdC] at hw2)
  rw [← hmb, ← hw2]
  clear hmb hw2 H1
  go_wp2_with fail
  go_loopw [7] (fun t7 wx => ∃ (j : Nat) (v : Value) (S : Nat → Prop), j ≤ len ∧ t7 = .int .i64 j ∧ Hid (SW w (lL b mb v S (foldA (L.take j)) []) wx)) (fun t7 _ => len - (intOf t7).toNat)
  case atStart => exact ⟨0, _, _, by omega, rfl, H2⟩
  case round =>
    obtain ⟨j, v, S, hj, rfl, HR⟩ := hrel
    clear H2
    by_cases hlt : j < len
    · have hlt' : (j : Int) < len := by omega
      obtain ⟨x, hx⟩ : ∃ x, L[j]? = some x := ⟨_, List.getElem?_eq_getElem (by have := HL.out; omega)⟩
      obtain ⟨bm, off, rfl, hbm, m0, m1, m2, hok⟩ := HS.out j x hx
      have hst := (foldA_ok j (L.take j) (by rw [List.length_take]; have := HL.out; omega) (by omega) (fun m hm => actOk HS.out m (List.mem_of_mem_take hm))).1
      have HST := Lib.hid hst
      have HNX := Lib.hid (foldA_take hx)
      have HOK := Lib.hid hok
      have hq0 := hst.q0
      have hq1 := hst.q1
      have hal := hst.n
      generalize foldA (L.take j) = st at *
      obtain ⟨X, all, us, sq⟩ := st
      simp only at hq0 hq1 hal
      have e0 := HR.out.g.keep m0
      have e1 := HR.out.g.keep m1
      have e2 := HR.out.g.keep m2
      have lm : bm < wr.heap.size := Nat.lt_of_lt_of_le hbm HR.out.g.sz
      obtain ⟨x0, x1, x2⟩ := x
      simp only at e0 e1 e2
      obtain ⟨k0, k0'⟩ := hok.kind
      obtain ⟨k1, k1'⟩ := hok.key
      obtain ⟨k2, k2'⟩ := hok.slot
      simp only at k0 k0' k1 k1' k2 k2'
      clear m0 m1 m2 hx hst hbm hok
      obtain ⟨κ, hκ⟩ : ∃ κ : Nat, x1 % 6 = (κ : Int) := ⟨(x1 % 6).toNat, by omega⟩
      have hκ6 : κ < 6 := by omega
      obtain ⟨σ, hσ⟩ : ∃ σ : Nat, x2 % 5 = (σ : Int) := ⟨(x2 % 5).toNat, by omega⟩
      have hσ5 : σ < 5 := by omega
      have HKAP := Lib.hid (ac_str x1 κ hκ)
      have HSA : Hid (stepA ⟨X, all, us, sq⟩ ⟨x0, x1, x2⟩ = if x0 % 5 = 3 then addA ⟨X, all, us, sq + 1⟩ (delE (acKey x1) (sq + 1) σ) else if x0 % 5 < 3 then addA ⟨X, all, us, sq + 1⟩ (putE (acKey x1) (sq + 1) σ) else if all = [] then ⟨X, all, us, sq⟩ else addA ⟨X, all, us, sq⟩ { (all.getD (x1 % all.length).toNat zE) with slot := σ }) := Lib.hid (by
        unfold stepA nextA
        simp only
        rw [hσ])
      have HNA := Lib.hid (fun d => newA HST.out x1 (σ : Int) ⟨by omega, by omega⟩ d)
      have HNO : Hid ((⟨X, all, us, sq + 1⟩ : LS).Ok (2 * j + 1)) := Lib.hid (nextA_ok HST.out)
      have HCY := Lib.hid (fun (x : En) (hx : x ∈ all) => copyA HST.out hx (σ : Int) ⟨by omega, by omega⟩)
      have HMS : Hid (∀ e ∈ all, e ∈ X.slot e.slot) := Lib.hid (fun e he => (HST.out.g.slot e.slot e).2 ⟨he, rfl⟩)
      have HZ : Hid ((acKey x1).size = 1) := Lib.hid (acKey_ok x1).2.1
      generalize acKey x1 = ky at *
      have hcv := cv_key24 HKAP.out (((cellsOf (blkNew wr (.cells #[.int .u8 (97 + (κ : Int))] 5))).1 0).trans (show _ = some (Value.int .u8 (97 + (κ : Int))) from rfl))
      go_upto_region 10 with fail
      obtain ⟨w4, hw4⟩ : ∃ y, y = wr.alloc (.cells #[.int .u8 (97 + (κ : Int))] 5) := ⟨_, rfl⟩
      have hg4 : Gr wr w4 := by rw [hw4]; exact (Gr.refl wr).alloc _
      have H4 := Lib.hid (HR.out.gr hg4)
      replace e0 := hg4.keep e0
      replace e1 := hg4.keep e1
      replace lm := Nat.lt_of_lt_of_le lm hg4.sz
      rw [← hw4]
      clear hw4 hg4 hcv HKAP HR e2 hκ
      have hbm : w4.heap[mb]? = some (bdO b v us sq) := H4.out.get (i := 1) rfl
      have HBM := Lib.hid hbm
      have c8 := ((cellsOf hbm).1 8).trans (show _ = some (Value.int .i64 sq) from rfl)
      have c1 := ((cellsOf hbm).1 1).trans (show _ = some v from rfl)
      have fm := (cellsOf hbm).2
      have lmb := blkLt hbm
      have H5 : Hid (SW w (lL b mb v S ⟨X, all, us, sq + 1⟩ []) (w4.setCell ⟨mb, 8, none⟩ (.int .i64 (sq + 1)))) := Lib.hid (H4.out.at (i := 1) rfl ((Mdh.refl (fun k => k = mb) w4).setCell (p := ⟨mb, 8, none⟩) rfl _) (fun k hk => .inl hk) (B := blkA mb (bdO b v us (sq + 1))) (blkSet (j := 8) hbm) (fun k hk => .inl hk))
      obtain ⟨w5, hw5⟩ : ∃ y, y = w4.setCell ⟨mb, 8, none⟩ (.int .i64 (sq + 1)) := ⟨_, rfl⟩
      rw [← hw5] at H5
      have hkz : ky.size ≤ 1000 := by rw [HZ.out]; omega
      clear hbm
      have hsq : sq ≤ 1000 := by omega
      by_cases h3 : x0 % 5 = 3
      · have hb3 : (x0 % 5 == 3) = true := beq_iff_eq.2 h3
        have HSB : Hid (stepA ⟨X, all, us, sq⟩ ⟨x0, x1, x2⟩ = addA ⟨X, all, us, sq + 1⟩ (delE ky (sq + 1) σ)) := Lib.hid (by rw [HSA.out, if_pos h3])
        have HAS : Hid (AddS ⟨X, all, us, sq + 1⟩ (delE ky (sq + 1) σ)) := Lib.hid (by have := HNA.out true; simpa [delE, nextA] using this)
        go_upto_region 13 with fail
        rw [← hw5]
        clear hw5 fm lmb c1 c8
        have c8 := ((cellsOf (show w5.heap[mb]? = _ from H5.out.get (i := 1) rfl)).1 8).trans (show _ = some (Value.int .i64 (sq + 1)) from rfl)
        go_wp2_with fail
        refine (del_any ky (sq + 1) σ 0 (16 + (ky.size : Int)) hkz rfl _).mono ?_
        rintro e' w6 ⟨rfl, hg⟩
        have H6 := Lib.hid (H5.out.gr hg)
        have HAD := Lib.hid (bAdd H6.out HNO.out (by omega) HAS.out)
        have HEE : Hid (delE ky (sq + 1) σ = ⟨sq + 1, ky, true, σ, 0, 16 + (ky.size : Int)⟩) := Lib.hid (by unfold delE; congr 1 <;> omega)
        rw [HEE.out] at HAD HSB
        simp only [enV] at HAD
        clear hg c8 H5
        go_wp2_with fail
        refine Calls.mono HAD.out ?_
        rintro r w8 ⟨rfl, v', S', hs⟩
        have H8 := Lib.hid hs
        clear hs HAD H6 e0 e1 lm
        go_wp2_with fail
        exact ⟨⟨j + 1, v', S', by omega, by simp, Lib.hid (by rw [HNX.out, HSB.out]; exact H8.out)⟩, by simp [intOf]; omega⟩
      have hb3 : (x0 % 5 == 3) = false := beq_false_of_ne h3
      by_cases h4 : x0 % 5 < 3
      · have HSB : Hid (stepA ⟨X, all, us, sq⟩ ⟨x0, x1, x2⟩ = addA ⟨X, all, us, sq + 1⟩ (putE ky (sq + 1) σ)) := Lib.hid (by rw [HSA.out, if_neg h3, if_pos h4])
        have HAS : Hid (AddS ⟨X, all, us, sq + 1⟩ (putE ky (sq + 1) σ)) := Lib.hid (by have := HNA.out false; simpa [putE, nextA] using this)
        go_upto_region 16 with fail
        rw [← hw5]
        clear hw5 fm lmb c1 c8
        have c8 := ((cellsOf (show w5.heap[mb]? = _ from H5.out.get (i := 1) rfl)).1 8).trans (show _ = some (Value.int .i64 (sq + 1)) from rfl)
        go_wp2_with fail
        refine (put_any ky (sq + 1) σ 0 (16 + (ky.size : Int) + 2) hkz rfl _).mono ?_
        rintro e' w6 ⟨rfl, hg⟩
        have H6 := Lib.hid (H5.out.gr hg)
        have HAD := Lib.hid (bAdd H6.out HNO.out (by omega) HAS.out)
        have HEE : Hid (putE ky (sq + 1) σ = ⟨sq + 1, ky, false, σ, 0, 16 + (ky.size : Int) + 2⟩) := Lib.hid (by unfold putE; congr 1 <;> omega)
        rw [HEE.out] at HAD HSB
        simp only [enV] at HAD
        clear hg c8 H5
        go_wp2_with fail
        refine Calls.mono HAD.out ?_
        rintro r w8 ⟨rfl, v', S', hs⟩
        have H8 := Lib.hid hs
        clear hs HAD H6 e0 e1 lm
        go_wp2_with fail
        exact ⟨⟨j + 1, v', S', by omega, by simp, Lib.hid (by rw [HNX.out, HSB.out]; exact H8.out)⟩, by simp [intOf]; omega⟩
      clear H5 hw5
      obtain ⟨a2, c2, rfl, hc2, hm2, _⟩ := ownE_at (show Own w4 32 6 v all.length (rowE all) from H4.out.get (i := 2) rfl)
      unfold maxLen at hm2
      by_cases hne : all = []
      · have hl0 : all.length = 0 := by rw [hne]; rfl
        have HSB : Hid (stepA ⟨X, all, us, sq⟩ ⟨x0, x1, x2⟩ = ⟨X, all, us, sq⟩) := Lib.hid (by rw [HSA.out, if_neg h3, if_neg h4, if_pos hne])
        clear hne
        go_wp2_with fail
        exact ⟨⟨j + 1, .slice a2 all.length c2, S, by omega, by simp, Lib.hid (by rw [HNX.out, HSB.out]; exact H4.out)⟩, by simp [intOf]; omega⟩
      · have hl0 : 0 < all.length := List.length_pos_iff.2 hne
        have g1 := Int.emod_lt_of_pos x1 (show (0 : Int) < all.length by omega)
        have g2 := Int.emod_nonneg x1 (show (all.length : Int) ≠ 0 by omega)
        obtain ⟨ι, hι⟩ : ∃ ι : Nat, x1 % (all.length : Int) = (ι : Int) := ⟨(x1 % (all.length : Int)).toNat, by omega⟩
        have hιn : ι < all.length := by omega
        obtain ⟨y, hy⟩ : ∃ y, all[ι]? = some y := ⟨_, List.getElem?_eq_getElem hιn⟩
        have HSB : Hid (stepA ⟨X, all, us, sq⟩ ⟨x0, x1, x2⟩ = addA ⟨X, all, us, sq⟩ { y with slot := σ }) := Lib.hid (by
          rw [HSA.out, if_neg h3, if_neg h4, if_neg hne, hι, Int.toNat_natCast, List.getD_eq_getElem?_getD, hy]
          rfl)
        have HAS := Lib.hid (HCY.out y (List.mem_of_getElem? hy))
        have HHS := Lib.hid (HMS.out y (List.mem_of_getElem? hy))
        obtain ⟨g0, rfl, hg0, y0, y1, y2, y3, y4, y5⟩ := ent6 (show Own w4 32 6 (.slice a2 all.length c2) all.length (rowE all) from H4.out.get (i := 2) rfl) hy
        have hl0b : (0 : Int) < all.length := by omega
        have hιn' : (ι : Int) < all.length := by omega
        clear hne hy g1 g2
        obtain ⟨q0, q1, q2, q3, q4, q5⟩ := y
        simp only at y0 y1 y2 y3 y4 y5 HSB HAS HHS
        go_wp2_with fail
        have HG := Gr.refl w4.drew
        refine wp_region_flo (fun _ => False) [11] [] (by kernel_rfl) (by kernel_rfl) (fun _ h => h.elim) ?_
        refine flo_seg 18 rfl ?_
        simp only [List.take_succ_cons, List.take_zero, List.drop_succ_cons, List.drop_zero]
        repeat (go_big_quiet_step (fail))
        refine wpQuiet_nil ?_
        refine flo_float (fun b => .pointer (some ⟨b, 0, none⟩)) (.cells #[.int .i64 0, .string ⟨#[]⟩, .bool false, .int .i64 0, .int .i64 0, .int .i64 0] 32) rfl rfl (fun w => by kernel_rfl) (fun wf1 fb1 hgf1 fl1 fh1 ft1 fo1 => ?_)
        (try replace HG := Gr.trans (Gr.trans HG (by (repeat (first | (with_reducible exact Gr.refl _) | assumption | (with_reducible apply Gr.from_drew) | (with_reducible apply Gr.alloc) | (with_reducible apply Gr.drew) | (with_reducible refine Gr.trans ?_ (by assumption)) | (with_reducible refine Gr.setCell ?_ (by omega) _))))) hgf1)
        (try have fc1 := (cellsOf fo1).1)
        (try have ff1 := (cellsOf fo1).2)
        refine flo_eff rfl rfl rfl rfl (fun K hK => ?_)
        go_wp2
        refine ⟨by (first | (refine Gr.mdh ?_ _; (repeat (first | (with_reducible exact Gr.refl _) | assumption | (with_reducible apply Gr.from_drew) | (with_reducible apply Gr.alloc) | (with_reducible apply Gr.drew) | (with_reducible refine Gr.trans ?_ (by assumption)) | (with_reducible refine Gr.setCell ?_ (by omega) _))); done) | (repeat (first | (with_reducible exact Mdh.refl _ _) | (with_reducible refine Mdh.setCell ?_ (by simp) _) | (with_reducible refine Mdh.setNew ?_ (by simp) _) | (with_reducible apply Mdh.alloc) | (with_reducible apply Mdh.from_drew) | (with_reducible apply Mdh.drew) | (with_reducible refine Mdh.gr ?_ (by assumption))))), ?_⟩
        refine flo_nil ?_
        obtain ⟨W4, hW4⟩ : ∃ y, y = ((((((wf1.setCell ⟨fb1, 0, none⟩ (.int .i64 q0)).setCell ⟨fb1, 1, none⟩ (.string q1)).setCell ⟨fb1, 2, none⟩ (.bool q2)).setCell ⟨fb1, 3, none⟩ (.int .i64 q3)).setCell ⟨fb1, 4, none⟩ (.int .i64 q4)).setCell ⟨fb1, 5, none⟩ (.int .i64 q5)) := ⟨_, rfl⟩
        have H6 : Hid (SW w (blkA fb1 (boxF ⟨q0, q1, q2, q3, q4, q5⟩) :: lL b mb (.slice (some ⟨g0, 0, none⟩) all.length c2) S ⟨X, all, us, sq⟩ []) W4) := Lib.hid (by
          have h1 := H4.out.new (Gr.of_drew HG) (A := blkA fb1 (boxF ⟨0, ⟨#[]⟩, false, 0, 0, 0⟩)) fo1 (fun k hk => by rw [show k = fb1 from hk]; exact fl1)
          rw [hW4]
          exact h1.step (B := blkA fb1 (boxF ⟨q0, q1, q2, q3, q4, q5⟩)) (T := fun k => k = fb1) ((((((((Mdh.refl (fun k => k = fb1) wf1).setCell (p := ⟨fb1, 0, none⟩) rfl _).setCell (p := ⟨fb1, 1, none⟩) rfl _).setCell (p := ⟨fb1, 2, none⟩) rfl _).setCell (p := ⟨fb1, 3, none⟩) rfl _).setCell (p := ⟨fb1, 4, none⟩) rfl _).setCell (p := ⟨fb1, 5, none⟩) rfl _)) (fun k hk => .inl hk) (blk6 fo1) (fun k hk => .inl hk))
        rw [← hW4]
        clear hW4 fl1 fh1 ft1 fo1 fc1 ff1 HG hgf1 H4 y0 y1 y2 y3 y4 y5 hg0 hι e0 e1 lm fm lmb c1 c8 HBM
        generalize fb1 = b11 at *
        have d11 := (cellsOf (show W4.heap[b11]? = _ from H6.out.get (i := 0) rfl)).1
        (try simp only [boxF] at d11)
        have HHA := Lib.hid (has24_any (show IXR W4 b X S from H6.out.get (i := 1) rfl) ⟨q0, q1, q2, q3, q4, q5⟩ HHS.out)
        simp only [enV] at HHA
        go_wp2_with fail
        refine Calls.mono HHA.out ?_
        rintro r w7 ⟨rfl, hg⟩
        have H7 := Lib.hid (H6.out.gr hg)
        clear hg d11 HHA H6
        obtain ⟨d11, f11⟩ := cellsOf (show w7.heap[b11]? = _ from H7.out.get (i := 0) rfl)
        (try simp only [boxF] at d11)
        have l11 := blkLt (show w7.heap[b11]? = _ from H7.out.get (i := 0) rfl)
        have H8 : Hid (SW w (blkA b11 (boxF ⟨q0, q1, q2, σ, q4, q5⟩) :: lL b mb (.slice (some ⟨g0, 0, none⟩) all.length c2) S ⟨X, all, us, sq⟩ []) (w7.setCell ⟨b11, 3, none⟩ (.int .i64 (σ : Int)))) := Lib.hid (H7.out.at (i := 0) rfl ((Mdh.refl (fun k => k = b11) w7).setCell (p := ⟨b11, 3, none⟩) rfl _) (fun k hk => .inl hk) (B := blkA b11 (boxF ⟨q0, q1, q2, σ, q4, q5⟩)) (blkSet (j := 3) (H7.out.get (i := 0) rfl)) (fun k hk => .inl hk))
        obtain ⟨w8, hw8⟩ : ∃ y, y = w7.setCell ⟨b11, 3, none⟩ (.int .i64 (σ : Int)) := ⟨_, rfl⟩
        rw [← hw8] at H8
        go_upto_region 21 with fail
        rw [← hw8]
        clear hw8 d11 f11 l11 H7
        have d11 := (cellsOf (show w8.heap[b11]? = _ from H8.out.get (i := 0) rfl)).1
        (try simp only [boxF] at d11)
        have HAD := Lib.hid (bAdd (H8.out.sub (.cons _ (List.Sublist.refl _))) HST.out (by omega) HAS.out)
        simp only [enV] at HAD
        go_wp2_with fail
        refine Calls.mono HAD.out ?_
        rintro r w9 ⟨rfl, v', S', hs⟩
        have H9 := Lib.hid hs
        clear hs HAD H8 d11
        go_wp2_with fail
        exact ⟨⟨j + 1, v', S', by omega, by simp, Lib.hid (by rw [HNX.out, HSB.out]; exact H9.out)⟩, by simp [intOf]; omega⟩
    · have hlt' : ¬ (j : Int) < len := by omega
      obtain rfl : j = len := by omega
      rw [List.take_of_length_le (show L.length ≤ j by have := HL.out; omega)] at HR
      go_wp2_with fail
      go_ret2
      exact ⟨b, mb, v, S, rfl, HR.out⟩
end Go.Proofs.Ytanmmnomagfkhaa
