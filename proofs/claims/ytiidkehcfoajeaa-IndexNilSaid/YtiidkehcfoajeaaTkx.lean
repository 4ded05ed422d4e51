/- take at an index's own iterators; rows that a literal lays. -/
import Derived.Test.YtiidkehcfoajeaaIxs
import Derived.Test.YtiidkehcfoajeaaEq
set_option linter.unusedVariables false
set_option linter.unusedSimpArgs false
namespace Go.Proofs.Ytiidkehcfoajeaa
open Go.RowKit Go.Shelf

theorem take_of {w : World} {p : Option Addr} {X : IX} {S : Nat → Prop} (h : IXP w p X S) (k : ByteArray) (bb bk : Nat) (hbb : w.cell? ⟨bb, 0, none⟩ = some (.pointer p)) (hbk : w.cell? ⟨bk, 0, none⟩ = some (.string k)) :
    Calls Try.prog 32 #[.func (.func 94) #[] #[.pointer (some ⟨bb, 0, none⟩), .pointer (some ⟨bk, 0, none⟩)]] w fun e w' => ∃ v, e = .returned v ∧ Nw w w' 23 6 v ((X.of k).take 5000).length (rowE ((X.of k).take 5000)) ∧ Gr w w' :=
  TakeE (enters_of Try.func94 (by kernel_rfl) rfl) (SeqOfP h k bb bk hbb hbk) (fun q hq => by
    rcases hq with rfl | rfl | hq
    · exact World.block_lt_of_cell? w _ hbb
    · exact World.block_lt_of_cell? w _ hbk
    · exact h.lt q hq)
theorem take_slot {w : World} {p : Option Addr} {X : IX} {S : Nat → Prop} (h : IXP w p X S) (s : Int) (bb bk : Nat) (hbb : w.cell? ⟨bb, 0, none⟩ = some (.pointer p)) (hbk : w.cell? ⟨bk, 0, none⟩ = some (.int .i64 s)) :
    Calls Try.prog 32 #[.func (.func 98) #[] #[.pointer (some ⟨bb, 0, none⟩), .pointer (some ⟨bk, 0, none⟩)]] w fun e w' => ∃ v, e = .returned v ∧ Nw w w' 23 6 v ((X.slot s).take 5000).length (rowE ((X.slot s).take 5000)) ∧ Gr w w' :=
  TakeE (enters_of Try.func98 (by kernel_rfl) rfl) (SeqSlotP h s bb bk hbb hbk) (fun q hq => by
    rcases hq with rfl | rfl | hq
    · exact World.block_lt_of_cell? w _ hbb
    · exact World.block_lt_of_cell? w _ hbk
    · exact h.lt q hq)
theorem take_keys {w : World} {p : Option Addr} {X : IX} {S : Nat → Prop} (h : IXP w p X S) (bb : Nat) (hbb : w.cell? ⟨bb, 0, none⟩ = some (.pointer p)) :
    Calls Try.prog 37 #[.func (.func 100) #[] #[.pointer (some ⟨bb, 0, none⟩)]] w fun e w' => ∃ v, e = .returned v ∧ Nw w w' 9 1 v (X.ks.take 5000).length (kS (X.ks.take 5000)) ∧ Gr w w' :=
  TakeS (enters_of Try.func100 (by kernel_rfl) rfl) (SeqKeysP h bb hbb) (fun q hq => by
    rcases hq with rfl | hq
    · exact World.block_lt_of_cell? w _ hbb
    · exact h.lt q hq)
theorem own_lit (w : World) (t : TypeId) (K n : Nat) (xs : List Value) (hx : xs.length = n * K) (hn : n ≤ 100000) : Own (w.alloc (.cells xs.toArray t)) t K (.slice (some ⟨w.heap.size, 0, none⟩) n n) n xs :=
  Own.ofParts (blkNew w _) (Nat.le_refl _) (by unfold maxLen; omega) (by simpa using hx) (by rw [List.take_of_length_le (by rw [← hx]; exact Nat.le_refl _)])
end Go.Proofs.Ytiidkehcfoajeaa
