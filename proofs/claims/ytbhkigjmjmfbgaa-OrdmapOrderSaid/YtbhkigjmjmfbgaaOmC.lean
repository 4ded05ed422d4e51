/- Rows of chapter 3: calls. -/
import Derived.Test.YtbhkigjmjmfbgaaRow
import Derived.Test.YtbhkigjmjmfbgaaOfl
set_option linter.unusedVariables false
set_option linter.unusedSimpArgs false
namespace Go.Proofs.Ytbhkigjmjmfbgaa
open Go.ChangeShapes Go.WideShapes Go.Deep Go.RowKit
theorem inb_of {a : Int} (h : (Lit.int .i16 a).wf = true) : InB a := by
  have h' : (decide (IntKind.i16.min ≤ a) && decide (a ≤ IntKind.i16.max)) = true := h
  have : -32768 ≤ a ∧ a ≤ 32767 := by simpa [IntKind.min, IntKind.max, IntKind.signed, IntKind.bits] using h'
  exact this
theorem open_calls {H : Type} {enc : TypeId × Value → H} {w : World} {base : Nat} {spare : Nat → Bool} {held : Bool} {fuel : Nat} {a : Option Addr} {len cap : Nat} {x : DataW H × List MemPlace}
    (h : DataW.trod enc Try.prog w base spare held fuel 22 (Value.slice a len cap).cells.toList = some x) : len ≤ cap ∧ cap ≤ maxLen ∧ ∃ l : List Cl, l.length = len ∧ CallsAt w a l := by
  rcases open_slice_fields Try.underlying22 Try.underlying86 (by kernel_rfl) (show Try.prog.cellsOf 86 = 3 by kernel_rfl) h with ⟨hcs, _⟩ | ⟨a', l, c, m, D, Pl, hcs, _, hl, hm, hmm, _, hi⟩
  · simp [Value.cells] at hcs
    obtain ⟨rfl, rfl, rfl⟩ := hcs
    exact ⟨by omega, by simp [maxLen], [], rfl, fun i hi => by simp at hi⟩
  · simp [Value.cells] at hcs
    obtain ⟨rfl, rfl, rfl⟩ := hcs
    refine ⟨hl, hm, ?_⟩
    by_cases h0 : 0 < len
    · have hml : len ≤ m := by rw [hmm]; split <;> omega
      have hsp : a'.spot = none := by
        obtain ⟨ys, n, _, _, _, hf⟩ := hi 0 (by omega)
        obtain ⟨v, y, hc, _, _⟩ := hf 0 _ rfl
        exact spot_add (by simpa using hc)
      obtain ⟨l, hl1, hl2⟩ := list_of len ((false, 0, 0) : Cl) (fun i t => w.cell? ⟨a'.block, a'.off + i * 3, none⟩ = some (.bool t.1) ∧ w.cell? ⟨a'.block, a'.off + i * 3 + 1, none⟩ = some (.int .i16 t.2.1) ∧ w.cell? ⟨a'.block, a'.off + i * 3 + 2, none⟩ = some (.int .i16 t.2.2) ∧ a'.block < w.heap.size ∧ InB t.2.1 ∧ InB t.2.2) (fun i hil => by
        obtain ⟨ys, n, _, _, _, hf⟩ := hi i (by omega)
        obtain ⟨v0, y0, c0, _, t0⟩ := hf 0 _ rfl
        obtain ⟨v1, y1, c1, _, t1⟩ := hf 1 _ rfl
        obtain ⟨v2, y2, c2, _, t2⟩ := hf 2 _ rfl
        obtain ⟨b0, e0, _⟩ := DataW.trod_bool Try.underlying4 t0
        obtain ⟨x1, e1, _, w1⟩ := DataW.trod_int Try.underlying84 t1
        obtain ⟨x2, e2, _, w2⟩ := DataW.trod_int Try.underlying84 t2
        obtain rfl := List.cons.inj e0 |>.1
        obtain rfl := List.cons.inj e1 |>.1
        obtain rfl := List.cons.inj e2 |>.1
        obtain ⟨hb, d0⟩ := at_add c0 hsp
        exact ⟨(b0, x1, x2), d0, (at_add c1 hsp).2, (at_add c2 hsp).2, hb, inb_of w1, inb_of w2⟩)
      refine ⟨l, hl1, fun i hi => ?_⟩
      obtain ⟨c0, c1, c2, hb, h3, h4⟩ := hl2 i hi
      exact ⟨_, _, by obtain ⟨b, o, s⟩ := a'; simp_all, hb, c0, c1, c2, h3, h4⟩
    · obtain rfl : len = 0 := by omega
      exact ⟨[], rfl, fun i hi => by simp at hi⟩
end Go.Proofs.Ytbhkigjmjmfbgaa
