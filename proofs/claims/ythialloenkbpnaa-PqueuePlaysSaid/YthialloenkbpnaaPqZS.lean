/- The zero cells of a queue's struct, at the priorities string. -/
import Derived.Test.YthialloenkbpnaaPqCS
set_option linter.unusedVariables false
set_option linter.unusedSimpArgs false
namespace Go.Proofs.Ythialloenkbpnaa
def isZS : Value → Bool
  | .int .i64 0 => true
  | _ => false
theorem isZ_eqS {v : Value} (h : isZS v = true) : v = .int .i64 0 := by
  unfold isZS at h
  split at h
  · rfl
  · cases h
theorem zc1S : Try.zeroCells103.size = 1026 := by kernel_rfl
theorem zc2S : Try.zeroCells103[1]? = some (.slice none 0 0) := by kernel_rfl
theorem zc3S : ((Try.zeroCells103.toList.drop 2).all isZS) = true := by kernel_rfl
theorem zc4S (i : Nat) (hi : i < 1024) : Try.zeroCells103[i + 2]? = some (.int .i64 0) := by
  have h1 := zc1S
  have hm : Try.zeroCells103[i + 2]'(by omega) ∈ Try.zeroCells103.toList.drop 2 := by
    refine List.mem_drop_iff_getElem.2 ⟨i, by simp; omega, ?_⟩
    simp [Nat.add_comm]
  rw [Array.getElem?_eq_getElem (by omega), isZ_eqS (List.all_eq_true.1 zc3S _ hm)]
end Go.Proofs.Ythialloenkbpnaa
