/- Rows of chapter 25: slices of sides, slices of numbers. -/
import Derived.Test.YtgpecjnnepocmaaRow
import Derived.Test.YtgpecjnnepocmaaScG
namespace Go.Proofs.Ytgpecjnnepocmaa
open Go.ChangeShapes Go.WideShapes Go.Deep Go.RowKit
theorem open_sides {H : Type} {enc : TypeId × Value → H} {w : World} {base : Nat} {spare : Nat → Bool} {held : Bool} {fuel : Nat} {a : Option Addr} {len cap : Nat} {x : DataW H × List MemPlace}
    (h : DataW.trod enc Try.prog w base spare held fuel 42 (Value.slice a len cap).cells.toList = some x) : len ≤ cap ∧ cap ≤ maxLen ∧ ∃ l : List Sd, l.length = len ∧ SdIn w a len cap l := by
  rcases open_slice_fields Try.underlying42 Try.underlying23 (by kernel_rfl) (show Try.prog.cellsOf 23 = 3 by kernel_rfl) h with ⟨hcs, _⟩ | ⟨a', l, c, m, D, Pl, hcs, _, hl, hm, hmm, _, hi⟩
  · simp [Value.cells] at hcs
    obtain ⟨rfl, rfl, rfl⟩ := hcs
    exact ⟨by omega, by simp [maxLen], [], rfl, rfl, .inl ⟨rfl, rfl, rfl⟩⟩
  · simp [Value.cells] at hcs
    obtain ⟨rfl, rfl, rfl⟩ := hcs
    refine ⟨hl, hm, ?_⟩
    by_cases h0 : 0 < len
    · have hml : len ≤ m := by rw [hmm]; split <;> omega
      have hsp : a'.spot = none := by
        obtain ⟨ys, n, _, _, _, hf⟩ := hi 0 (by omega)
        obtain ⟨v, y, hc, _, _⟩ := hf 0 _ rfl
        exact spot_add (by simpa using hc)
      obtain ⟨l, hl1, hl2⟩ := list_of len ((0, 0, 0) : Sd) (fun i t => a'.block < w.heap.size ∧ w.cell? ⟨a'.block, a'.off + i * 3, none⟩ = some (.int .i64 t.1) ∧ w.cell? ⟨a'.block, a'.off + i * 3 + 1, none⟩ = some (.int .i64 t.2.1) ∧ w.cell? ⟨a'.block, a'.off + i * 3 + 2, none⟩ = some (.int .i64 t.2.2)) (fun i hil => by
        obtain ⟨ys, n, _, _, _, hf⟩ := hi i (by omega)
        obtain ⟨v0, y0, c0, _, t0⟩ := hf 0 _ rfl
        obtain ⟨v1, y1, c1, _, t1⟩ := hf 1 _ rfl
        obtain ⟨v2, y2, c2, _, t2⟩ := hf 2 _ rfl
        obtain ⟨b0, e0, _, w0⟩ := DataW.trod_int Try.underlying3 t0
        obtain ⟨b1, e1, _, w1⟩ := DataW.trod_int Try.underlying3 t1
        obtain ⟨b2, e2, _, w2⟩ := DataW.trod_int Try.underlying2 t2
        obtain rfl := List.cons.inj e0 |>.1
        obtain rfl := List.cons.inj e1 |>.1
        obtain rfl := List.cons.inj e2 |>.1
        obtain ⟨hb, d0⟩ := at_add c0 hsp
        exact ⟨(b0, b1, b2), hb, d0, (at_add c1 hsp).2, (at_add c2 hsp).2⟩)
      exact ⟨l, hl1, hl1, .inr ⟨a', rfl, fun _ => ⟨hsp, (hl2 0 (by omega)).1, fun i hi => (hl2 i hi).2⟩⟩⟩
    · obtain rfl : len = 0 := by omega
      exact ⟨[], rfl, rfl, .inr ⟨a', rfl, fun h => absurd h h0⟩⟩

/-- A slice of numbers that came in. -/
def NmIn (w : World) (a : Option Addr) (len : Nat) (l : List Nm) : Prop :=
  ∀ i, i < len → ∃ b off, a = some ⟨b, off, none⟩ ∧ b < w.heap.size ∧ w.cell? ⟨b, off + i * 2, none⟩ = some (.int .u16 (l[i]?.getD (0, 0)).1) ∧ w.cell? ⟨b, off + i * 2 + 1, none⟩ = some (.int .u64 (l[i]?.getD (0, 0)).2)
theorem nm16 {a : Int} (h : (Lit.int .u16 a).wf = true) : 0 ≤ a ∧ a ≤ 65535 := by
  have h' : (decide (IntKind.u16.min ≤ a) && decide (a ≤ IntKind.u16.max)) = true := h
  simpa [IntKind.min, IntKind.max, IntKind.signed, IntKind.bits] using h'
theorem nm64 {a : Int} (h : (Lit.int .u64 a).wf = true) : 0 ≤ a ∧ a ≤ 18446744073709551615 := by
  have h' : (decide (IntKind.u64.min ≤ a) && decide (a ≤ IntKind.u64.max)) = true := h
  simpa [IntKind.min, IntKind.max, IntKind.signed, IntKind.bits] using h'
theorem open_nums {H : Type} {enc : TypeId × Value → H} {w : World} {base : Nat} {spare : Nat → Bool} {held : Bool} {fuel : Nat} {a : Option Addr} {len cap : Nat} {x : DataW H × List MemPlace}
    (h : DataW.trod enc Try.prog w base spare held fuel 44 (Value.slice a len cap).cells.toList = some x) : len ≤ cap ∧ cap ≤ maxLen ∧ ∃ l : List Nm, l.length = len ∧ NumsOk l ∧ NmIn w a len l := by
  rcases open_slice_fields Try.underlying44 Try.underlying40 (by kernel_rfl) (show Try.prog.cellsOf 40 = 2 by kernel_rfl) h with ⟨hcs, _⟩ | ⟨a', l, c, m, D, Pl, hcs, _, hl, hm, hmm, _, hi⟩
  · simp [Value.cells] at hcs
    obtain ⟨rfl, rfl, rfl⟩ := hcs
    exact ⟨by omega, by simp [maxLen], [], rfl, fun i hi => by simp at hi, fun i hi => by omega⟩
  · simp [Value.cells] at hcs
    obtain ⟨rfl, rfl, rfl⟩ := hcs
    refine ⟨hl, hm, ?_⟩
    by_cases h0 : 0 < len
    · have hml : len ≤ m := by rw [hmm]; split <;> omega
      have hsp : a'.spot = none := by
        obtain ⟨ys, n, _, _, _, hf⟩ := hi 0 (by omega)
        obtain ⟨v, y, hc, _, _⟩ := hf 0 _ rfl
        exact spot_add (by simpa using hc)
      obtain ⟨l, hl1, hl2⟩ := list_of len ((0, 0) : Nm) (fun i t => (a'.block < w.heap.size ∧ w.cell? ⟨a'.block, a'.off + i * 2, none⟩ = some (.int .u16 t.1) ∧ w.cell? ⟨a'.block, a'.off + i * 2 + 1, none⟩ = some (.int .u64 t.2)) ∧ 0 ≤ t.1 ∧ t.1 ≤ 65535 ∧ 0 ≤ t.2 ∧ t.2 ≤ 18446744073709551615) (fun i hil => by
        obtain ⟨ys, n, _, _, _, hf⟩ := hi i (by omega)
        obtain ⟨v0, y0, c0, _, t0⟩ := hf 0 _ rfl
        obtain ⟨v1, y1, c1, _, t1⟩ := hf 1 _ rfl
        obtain ⟨b0, e0, _, w0⟩ := DataW.trod_int Try.underlying37 t0
        obtain ⟨b1, e1, _, w1⟩ := DataW.trod_int Try.underlying38 t1
        obtain rfl := List.cons.inj e0 |>.1
        obtain rfl := List.cons.inj e1 |>.1
        obtain ⟨hb, d0⟩ := at_add c0 hsp
        exact ⟨(b0, b1), ⟨hb, d0, (at_add c1 hsp).2⟩, (nm16 w0).1, (nm16 w0).2, (nm64 w1).1, (nm64 w1).2⟩)
      refine ⟨l, hl1, fun i hi => (hl2 i hi).2, fun i hi => ?_⟩
      obtain ⟨c1, c2, c3⟩ := (hl2 i (by omega)).1
      exact ⟨_, _, by obtain ⟨b, o, s⟩ := a'; simp_all, c1, c2, c3⟩
    · obtain rfl : len = 0 := by omega
      exact ⟨[], rfl, fun i hi => by simp at hi, fun i hi => by omega⟩
end Go.Proofs.Ytgpecjnnepocmaa
