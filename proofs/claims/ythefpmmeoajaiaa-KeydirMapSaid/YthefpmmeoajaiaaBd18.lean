/- A string of a row. -/
import Derived.Test.YthefpmmeoajaiaaBd11
set_option linter.unusedVariables false
set_option linter.unusedSimpArgs false
namespace Go.Proofs.Ythefpmmeoajaiaa
open Go.RowKit

theorem str1g {w : World} {g n c i : Nat} {l : List ByteArray} {k : ByteArray} (hn : l.length = n) (h : Own w 9 1 (.slice (some ⟨g, 0, none⟩) n c) n (kS l)) (hx : l[i]? = some k) : g < w.heap.size ∧ w.cell? ⟨g, i, none⟩ = some (.string k) := by
  subst hn
  obtain ⟨_, _, hve, _, _, hat⟩ := ownS_at h
  injection hve with g1 g2 g3
  subst g1
  obtain ⟨g', hg, hl, _, hc⟩ := hat i _ hx
  simp only [Option.some.injEq, Addr.mk.injEq, and_true] at hg
  subst hg
  exact ⟨hl, hc⟩
theorem str1 {w : World} {a : Option Addr} {n c i : Nat} {l : List ByteArray} {k : ByteArray} (hn : l.length = n) (h : Own w 9 1 (.slice a n c) n (kS l)) (hx : l[i]? = some k) : ∃ g, a = some ⟨g, 0, none⟩ ∧ g < w.heap.size ∧ w.cell? ⟨g, i, none⟩ = some (.string k) := by
  have hn' := hn
  subst hn
  obtain ⟨_, _, hve, _, _, hat⟩ := ownS_at h
  injection hve with g1 g2 g3
  subst g1
  obtain ⟨g', rfl, _⟩ := hat i _ hx
  exact ⟨g', rfl, str1g hn' h hx⟩
end Go.Proofs.Ythefpmmeoajaiaa
