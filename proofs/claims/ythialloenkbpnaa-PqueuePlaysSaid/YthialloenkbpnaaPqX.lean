/- A queue that is nil or was not made by New: every method, and the iterator. -/
import Derived.Test.YthialloenkbpnaaPqIL
set_option linter.unusedVariables false
set_option linter.unusedSimpArgs false
namespace Go.Proofs.Ythialloenkbpnaa
open Go.RowKit Go.Shelf
attribute [local go_sem] OvM cell_ovm obj_ovm
attribute [local go_sem] Oper.semAt_some

def BadQ (w : World) (p : Option Addr) : Prop := p = none ∨ ∃ b pl, p = some ⟨b, 0, none⟩ ∧ QB w 86 b 0 (.slice none 0 0) pl
theorem BadQ.gr {w w' : World} {p : Option Addr} (h : BadQ w p) (g : Gr w w') : BadQ w' p := h.elim .inl fun ⟨b, pl, e, q⟩ => .inr ⟨b, pl, e, q.gr g⟩
theorem BadQ.mdh {S : Nat → Prop} {w w' : World} {p : Option Addr} (h : BadQ w p) (g : Mdh S w w') (hs : ∀ a, p = some a → ¬ S a.block) : BadQ w' p := h.elim .inl fun ⟨b, pl, e, q⟩ => .inr ⟨b, pl, e, q.mdh g (hs _ e)⟩

theorem validX (p : Option Addr) (w : World) (h : BadQ w p) : Calls Try.prog 76 #[.pointer p] w fun e w' => e = .returned (.bool false) ∧ w = w' := by
  rcases h with rfl | ⟨b, pl, rfl, q⟩
  · exact valid_nilL w
  · exact validL b 0 _ pl w q
theorem checkX (p : Option Addr) (id : Int) (w : World) (h : BadQ w p) : Calls Try.prog 70 #[.pointer p, .int .i64 id] w fun e w' => e = .returned (.int .i64 1) ∧ w = w' := by
  rcases h with rfl | ⟨b, pl, rfl, q⟩
  · exact check_nilL id w
  · exact checkL b 0 _ pl id w q
theorem PushX (p : Option Addr) (id : Int) (v : Value) (w : World) (h : BadQ w p) : Calls Try.prog 32 #[.pointer p, .int .i64 id, v] w fun e w' => e = .returned (.int .i64 1) ∧ w = w' := by
  go_enter Try.func32, Try.ntmps32
  go_wp2_with (go_at_call 70; refine (checkX _ _ _ h).mono ?_; rintro e w1 ⟨rfl, rfl⟩)
  go_ret
  exact ⟨rfl, rfl⟩
theorem ChangeX (p : Option Addr) (id : Int) (v : Value) (w : World) (h : BadQ w p) : Calls Try.prog 34 #[.pointer p, .int .i64 id, v] w fun e w' => e = .returned (.int .i64 1) ∧ w = w' := by
  go_enter Try.func34, Try.ntmps34
  go_wp2_with (go_at_call 70; refine (checkX _ _ _ h).mono ?_; rintro e w1 ⟨rfl, rfl⟩)
  go_ret
  exact ⟨rfl, rfl⟩
theorem PriorityX (p : Option Addr) (id : Int) (w : World) (h : BadQ w p) : Calls Try.prog 46 #[.pointer p, .int .i64 id] w fun e w' => e = .returned (.tuple #[.int .i64 0, .bool false]) ∧ w = w' := by
  go_enter Try.func46, Try.ntmps46
  go_wp2_with (go_at_call 70; refine (checkX _ _ _ h).mono ?_; rintro e w1 ⟨rfl, rfl⟩)
  go_ret2
  exact ⟨rfl, rfl⟩
theorem RemoveX (p : Option Addr) (id : Int) (w : World) (h : BadQ w p) : Calls Try.prog 36 #[.pointer p, .int .i64 id] w fun e w' => e = .returned (.tuple #[.int .i64 0, .bool false]) ∧ w = w' := by
  go_enter Try.func36, Try.ntmps36
  go_wp2_with (go_at_call 46; refine (PriorityX _ _ _ h).mono ?_; rintro e w1 ⟨rfl, rfl⟩)
  go_ret2
  exact ⟨rfl, rfl⟩
theorem PeekX (p : Option Addr) (w : World) (h : BadQ w p) : Calls Try.prog 47 #[.pointer p] w fun e w' => e = .returned (.tuple #[.int .i64 0, .int .i64 0, .bool false]) ∧ w = w' := by
  go_enter Try.func47, Try.ntmps47
  go_wp2_with (go_at_call 76; refine (validX _ _ h).mono ?_; rintro e w1 ⟨rfl, rfl⟩)
  go_ret3
  exact ⟨rfl, rfl⟩
theorem PopX (p : Option Addr) (w : World) (h : BadQ w p) : Calls Try.prog 38 #[.pointer p] w fun e w' => e = .returned (.tuple #[.int .i64 0, .int .i64 0, .bool false]) ∧ w = w' := by
  go_enter Try.func38, Try.ntmps38
  go_wp2_with (go_at_call 47; refine (PeekX _ _ h).mono ?_; rintro e w1 ⟨rfl, rfl⟩)
  go_ret3
  exact ⟨rfl, rfl⟩
theorem LenX (p : Option Addr) (w : World) (h : BadQ w p) : Calls Try.prog 48 #[.pointer p] w fun e w' => e = .returned (.int .i64 0) ∧ w = w' := by
  go_enter Try.func48, Try.ntmps48
  go_wp2_with (go_at_call 76; refine (validX _ _ h).mono ?_; rintro e w1 ⟨rfl, rfl⟩)
  go_ret
  exact ⟨rfl, rfl⟩
theorem CopyX (p : Option Addr) (w : World) (h : BadQ w p) : Calls Try.prog 40 #[.pointer p] w fun e w' => e = .returned (.pointer none) ∧ w = w' := by
  go_enter Try.func40, Try.ntmps40
  go_wp2_with (go_at_call 76; refine (validX _ _ h).mono ?_; rintro e w1 ⟨rfl, rfl⟩)
  go_ret
  exact ⟨rfl, rfl⟩

set_option maxRecDepth 40000 in
set_option maxHeartbeats 2000000 in
/-- The iterator over such a queue yields nothing. -/
theorem SeqX (p : Option Addr) (bb : Nat) (w : World) (h : BadQ w p) (hbb : w.cell? ⟨bb, 0, none⟩ = some (.pointer p)) :
    SeqZ Fence.wide 2 Try.prog 81 #[.pointer (some ⟨bb, 0, none⟩)] encIL (fun k => k = bb ∨ ∃ a, p = some a ∧ k = a.block) (fun xs => xs = []) (fun _ => False) w := by
  intro l J Jx W hW hJ hJx hY h0
  have hbW : W.cell? ⟨bb, 0, none⟩ = some (.pointer p) := hW.keep hbb (fun h => h (.inl rfl))
  have HQ := Lib.hid (h.mdh hW (fun a e hn => hn (.inr ⟨a, e, rfl⟩)))
  refine callsIn_of_wp Try.func81 rfl trivial ?_ rfl
  simp only [Try.ntmps81, List.size_toArray, List.length_cons, List.length_nil, Nat.reduceAdd, Nat.reduceSub, Array.replicate_succ, Array.replicate_zero, List.push_toArray, List.append_toArray, List.nil_append, List.cons_append]
  gi_wp2_with fail
  refine ⟨trivial, (callsIn_wide.2 (CopyX p _ (HQ.out.gr (by (repeat (first | (with_reducible exact Gr.refl _) | assumption | (with_reducible apply Gr.from_drew) | (with_reducible apply Gr.alloc) | (with_reducible apply Gr.drew) | (with_reducible refine Gr.trans ?_ (by assumption)) | (with_reducible refine Gr.setCell ?_ (by omega) _))))))).mono ?_⟩
  rintro e W2 ⟨rfl, rfl⟩
  gi_wp2_with fail
  gi_loopg [] 0 (fun g wx => wx = W)
  case atStart => rfl
  case round =>
    obtain rfl := hrel
    gi_wp2_with fail
    refine ⟨trivial, (callsIn_wide.2 (LenX none _ (.inl rfl))).mono ?_⟩
    rintro e W3 ⟨rfl, rfl⟩
    gi_wp2_with fail
    go_end0
    exact ⟨⟨_, rfl⟩, .inl ⟨_, [], rfl, h0⟩⟩
end Go.Proofs.Ythialloenkbpnaa
