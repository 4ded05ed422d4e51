/- The zero cells of a queue's struct, at the priorities int64. -/
import Derived.Test.YthialloenkbpnaaPqCL
set_option linter.unusedVariables false
set_option linter.unusedSimpArgs false
namespace Go.Proofs.Ythialloenkbpnaa
def isZL : Value → Bool
  | .int .i64 0 => true
  | _ => false
theorem isZ_eqL {v : Value} (h : isZL v = true) : v = .int .i64 0 := by
  unfold isZL at h
  split at h
  · rfl
  · cases h
theorem zc1L : Try.zeroCells86.size = 1026 := by kernel_rfl
theorem zc2L : Try.zeroCells86[1]? = some (.slice none 0 0) := by kernel_rfl
theorem zc3L : ((Try.zeroCells86.toList.drop 2).all isZL) = true := by kernel_rfl
theorem zc4L (i : Nat) (hi : i < 1024) : Try.zeroCells86[i + 2]? = some (.int .i64 0) := by
  have h1 := zc1L
  have hm : Try.zeroCells86[i + 2]'(by omega) ∈ Try.zeroCells86.toList.drop 2 := by
    refine List.mem_drop_iff_getElem.2 ⟨i, by simp; omega, ?_⟩
    simp [Nat.add_comm]
  rw [Array.getElem?_eq_getElem (by omega), isZ_eqL (List.all_eq_true.1 zc3L _ hm)]
end Go.Proofs.Ythialloenkbpnaa
