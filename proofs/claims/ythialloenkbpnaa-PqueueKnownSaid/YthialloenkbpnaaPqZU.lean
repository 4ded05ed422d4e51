/- The zero cells of a queue's struct, at the priorities uint8. -/
import Derived.Test.YthialloenkbpnaaPqCU
namespace Go.Proofs.Ythialloenkbpnaa
def isZU : Value → Bool
  | .int .i64 0 => true
  | _ => false
theorem isZ_eqU {v : Value} (h : isZU v = true) : v = .int .i64 0 := by
  unfold isZU at h
  split at h
  · rfl
  · cases h
theorem zc1U : Try.zeroCells115.size = 1026 := by kernel_rfl
theorem zc2U : Try.zeroCells115[1]? = some (.slice none 0 0) := by kernel_rfl
theorem zc3U : ((Try.zeroCells115.toList.drop 2).all isZU) = true := by kernel_rfl
theorem zc4U (i : Nat) (hi : i < 1024) : Try.zeroCells115[i + 2]? = some (.int .i64 0) := by
  have h1 := zc1U
  have hm : Try.zeroCells115[i + 2]'(by omega) ∈ Try.zeroCells115.toList.drop 2 := by
    refine List.mem_drop_iff_getElem.2 ⟨i, by simp; omega, ?_⟩
    simp [Nat.add_comm]
  rw [Array.getElem?_eq_getElem (by omega), isZ_eqU (List.all_eq_true.1 zc3U _ hm)]
end Go.Proofs.Ythialloenkbpnaa
