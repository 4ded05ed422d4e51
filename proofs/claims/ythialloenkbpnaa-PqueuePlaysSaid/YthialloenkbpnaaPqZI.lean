/- The zero cells of a queue's struct, at the priorities int. -/
import Derived.Test.YthialloenkbpnaaPqCI
set_option linter.unusedVariables false
set_option linter.unusedSimpArgs false
namespace Go.Proofs.Ythialloenkbpnaa
def isZI : Value → Bool
  | .int .i64 0 => true
  | _ => false
theorem isZ_eqI {v : Value} (h : isZI v = true) : v = .int .i64 0 := by
  unfold isZI at h
  split at h
  · rfl
  · cases h
theorem zc1I : Try.zeroCells112.size = 1026 := by kernel_rfl
theorem zc2I : Try.zeroCells112[1]? = some (.slice none 0 0) := by kernel_rfl
theorem zc3I : ((Try.zeroCells112.toList.drop 2).all isZI) = true := by kernel_rfl
theorem zc4I (i : Nat) (hi : i < 1024) : Try.zeroCells112[i + 2]? = some (.int .i64 0) := by
  have h1 := zc1I
  have hm : Try.zeroCells112[i + 2]'(by omega) ∈ Try.zeroCells112.toList.drop 2 := by
    refine List.mem_drop_iff_getElem.2 ⟨i, by simp; omega, ?_⟩
    simp [Nat.add_comm]
  rw [Array.getElem?_eq_getElem (by omega), isZ_eqI (List.all_eq_true.1 zc3I _ hm)]
end Go.Proofs.Ythialloenkbpnaa
