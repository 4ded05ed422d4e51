/- The order of strings. No program in sight. -/
import Derived.Test.YtiidkehcfoajeaaOml
import Derived.Laws.Strings
import Derived.Laws.Cover1
set_option linter.unusedVariables false
set_option linter.unusedSimpArgs false
namespace Go.Proofs.Ytiidkehcfoajeaa
theorem bl_irr : ∀ x : List UInt8, Op.bytesLess x x = false
  | [] => rfl
  | a :: x => by simp [Op.bytesLess, bl_irr x]
theorem bl_trn : ∀ x y z : List UInt8, Op.bytesLess x y = true → Op.bytesLess y z = true → Op.bytesLess x z = true
  | _, _, [], _, h => by simp [Op.bytesLess] at h
  | _, [], _ :: _, h, _ => by simp [Op.bytesLess] at h
  | [], _ :: _, _ :: _, _, _ => rfl
  | a :: x, b :: y, c :: z, h1, h2 => by
    simp only [Op.bytesLess, Bool.or_eq_true, Bool.and_eq_true, decide_eq_true_eq, beq_iff_eq] at *
    rcases h1 with h1 | ⟨rfl, h1⟩ <;> rcases h2 with h2 | ⟨rfl, h2⟩
    · exact .inl (UInt8.lt_trans h1 h2)
    · exact .inl h1
    · exact .inl h2
    · exact .inr ⟨rfl, bl_trn x y z h1 h2⟩
theorem bl_tri : ∀ x y : List UInt8, Op.bytesLess x y = false → Op.bytesLess y x = false → x = y
  | [], [], _, _ => rfl
  | [], _ :: _, h, _ => by simp [Op.bytesLess] at h
  | _ :: _, [], _, h => by simp [Op.bytesLess] at h
  | a :: x, b :: y, h1, h2 => by
    simp only [Op.bytesLess, Bool.or_eq_false_iff, Bool.and_eq_false_imp, decide_eq_false_iff_not, beq_iff_eq] at *
    have e : a = b := by
      have h3 := h1.1
      have h4 := h2.1
      simp only [UInt8.not_lt] at h3 h4
      exact UInt8.le_antisymm h4 h3
    subst e
    rw [bl_tri x y (h1.2 rfl) (h2.2 rfl)]
theorem str_inj {a b : ByteArray} (h : a.toList = b.toList) : a = b := by
  rw [ByteArray.toList_eq, ByteArray.toList_eq] at h
  exact ByteArray.ext (Array.ext' h)
theorem str_beq (a b : ByteArray) : (a.toList == b.toList) = decide (a = b) := by
  by_cases e : a = b
  · subst e; simp
  · rw [decide_eq_false e]
    exact beq_false_of_ne (fun h => e (str_inj h))
theorem bl_gt (a b : List UInt8) : (!Op.bytesLess a b && !a == b) = Op.bytesLess b a := by
  cases h1 : Op.bytesLess a b with
  | true =>
    cases h2 : Op.bytesLess b a with
    | false => rfl
    | true => have := bl_trn _ _ _ h1 h2; rw [bl_irr] at this; cases this
  | false =>
    cases h2 : Op.bytesLess b a with
    | true =>
      have hne : a ≠ b := fun e => by subst e; rw [bl_irr] at h2; cases h2
      simp [hne]
    | false =>
      obtain rfl := bl_tri _ _ h1 h2
      simp
def ltS (a b : ByteArray) : Bool := Op.bytesLess a.toList b.toList
theorem ordS : KOrd ltS := ⟨fun a => bl_irr _, fun {a b c} h1 h2 => bl_trn _ _ _ h1 h2, fun {a b} h1 h2 => str_inj (bl_tri _ _ h1 h2)⟩
end Go.Proofs.Ytiidkehcfoajeaa
