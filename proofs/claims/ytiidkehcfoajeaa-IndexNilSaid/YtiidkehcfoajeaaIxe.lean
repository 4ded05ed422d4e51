/- How entries are compared by ==. -/
import Derived.Test.YtiidkehcfoajeaaIxr
import Derived.Test.YtiidkehcfoajeaaIxk
import Derived.Laws.StructEq
set_option linter.unusedVariables false
set_option linter.unusedSimpArgs false
namespace Go.Proofs.Ytiidkehcfoajeaa
open Go.RowKit
theorem eq_fields (a b : En) : decide (a = b) = (a.seq == b.seq && (a.key.toList == b.key.toList && (a.del == b.del && (a.slot == b.slot && (a.off == b.off && a.size == b.size))))) := by
  rw [str_beq, Bool.eq_iff_iff]
  simp only [decide_eq_true_eq, Bool.and_eq_true, beq_iff_eq]
  exact En.eq_iff a b
theorem and_ite (a b : Bool) : (if a = false then false else b) = (a && b) := by cases a <;> rfl
theorem run_ite_ok {P : Program} {α : Type} (c : Prop) [Decidable c] (x y : α) (w : World) : (if c then Result.ok x w else Result.ok y w) = Result.ok (if c then x else y) w := by split <;> rfl
set_option maxRecDepth 40000 in
theorem neqE_run (a b : En) (w : World) : (binOp .neq 23 (.agg #[.int .i64 a.seq, .string a.key, .bool a.del, .int .i64 a.slot, .int .i64 a.off, .int .i64 a.size]) (.agg #[.int .i64 b.seq, .string b.key, .bool b.del, .int .i64 b.slot, .int .i64 b.off, .int .i64 b.size])).run Try.prog w = .ok (.bool (!decide (a = b))) w := by
  rw [run_neq_struct]
  have h : (Op.equalIn 10000 23 (.agg #[.int .i64 a.seq, .string a.key, .bool a.del, .int .i64 a.slot, .int .i64 a.off, .int .i64 a.size]) (.agg #[.int .i64 b.seq, .string b.key, .bool b.del, .int .i64 b.slot, .int .i64 b.off, .int .i64 b.size])).run Try.prog w = .ok (decide (a = b)) w := by
    rw [eq_fields]
    simp [go_sem]
    (repeat' split) <;> simp_all
  rw [h]
  rfl
set_option maxRecDepth 40000 in
theorem eqlE_run (a b : En) (w : World) : (binOp .eql 23 (.agg #[.int .i64 a.seq, .string a.key, .bool a.del, .int .i64 a.slot, .int .i64 a.off, .int .i64 a.size]) (.agg #[.int .i64 b.seq, .string b.key, .bool b.del, .int .i64 b.slot, .int .i64 b.off, .int .i64 b.size])).run Try.prog w = .ok (.bool (decide (a = b))) w := by
  rw [run_eql_struct]
  have h : (Op.equalIn 10000 23 (.agg #[.int .i64 a.seq, .string a.key, .bool a.del, .int .i64 a.slot, .int .i64 a.off, .int .i64 a.size]) (.agg #[.int .i64 b.seq, .string b.key, .bool b.del, .int .i64 b.slot, .int .i64 b.off, .int .i64 b.size])).run Try.prog w = .ok (decide (a = b)) w := by
    rw [eq_fields]
    simp [go_sem]
    (repeat' split) <;> simp_all
  rw [h]
  rfl
end Go.Proofs.Ytiidkehcfoajeaa
