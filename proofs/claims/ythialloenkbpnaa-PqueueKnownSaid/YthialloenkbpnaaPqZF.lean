/- The zero cells of a queue's struct, at the priorities float64. -/
import Derived.Test.YthialloenkbpnaaPqCF
namespace Go.Proofs.Ythialloenkbpnaa
def isZF : Value → Bool
  | .int .i64 0 => true
  | _ => false
theorem isZ_eqF {v : Value} (h : isZF v = true) : v = .int .i64 0 := by
  unfold isZF at h
  split at h
  · rfl
  · cases h
theorem zc1F : Try.zeroCells118.size = 1026 := by kernel_rfl
theorem zc2F : Try.zeroCells118[1]? = some (.slice none 0 0) := by kernel_rfl
theorem zc3F : ((Try.zeroCells118.toList.drop 2).all isZF) = true := by kernel_rfl
theorem zc4F (i : Nat) (hi : i < 1024) : Try.zeroCells118[i + 2]? = some (.int .i64 0) := by
  have h1 := zc1F
  have hm : Try.zeroCells118[i + 2]'(by omega) ∈ Try.zeroCells118.toList.drop 2 := by
    refine List.mem_drop_iff_getElem.2 ⟨i, by simp; omega, ?_⟩
    simp [Nat.add_comm]
  rw [Array.getElem?_eq_getElem (by omega), isZ_eqF (List.all_eq_true.1 zc3F _ hm)]
end Go.Proofs.Ythialloenkbpnaa
