/- maps.Equal at two Go maps of the same pairs. -/
import Derived.Test.YtbhkigjmjmfbgaaOgm
set_option linter.unusedVariables false
set_option linter.unusedSimpArgs false
namespace Go.Proofs.Ytbhkigjmjmfbgaa
open Go.RowKit Go.Maps
attribute [local go_sem] OvM cell_ovm obj_ovm
theorem gr_grownM {w w' : World} (g : w.grownBy w' none) : Gr w w' := ⟨g.os, g.tape, g.output, g.size, fun k hk => g.block k hk (by simp)⟩

set_option maxRecDepth 40000 in
set_option maxHeartbeats 8000000 in
theorem EqualM (b1 b2 n1 n2 : Nat) (L : List Itii) (w : World) (h1 : GM w b1 n1 L) (h2 : GM w b2 n2 L) :
    Calls Try.prog 42 #[.map (some b1), .map (some b2)] w fun e w' => e = .returned (.bool true) ∧ Gr w w' := by
  have hml1 : ∀ ty, (Builtin.len_ #[24] ty #[.map (some b1)]).run Try.prog w = .ok (.int .i64 L.length) w := fun ty => gm_len_run h1 ty
  have hml2 : ∀ ty, (Builtin.len_ #[24] ty #[.map (some b2)]).run Try.prog w = .ok (.int .i64 L.length) w := fun ty => gm_len_run h2 ty
  have H2 := Lib.hid h2
  obtain ⟨DD, hown, hRD⟩ := h1
  have HOW := Lib.hid hown
  have HRD := Lib.hid hRD
  clear hown hRD h2
  go_enter Try.func42, Try.ntmps42
  go_wp2_with (first
    | (at_range; refine wpList_range_own _ rfl (.tmp 14) 24 rfl 3 3 lawI Try.underlying24 (plainElem Try.prog 3) b1 n1 DD rfl HOW.out ?_; intro w8 hrg8 hg8 hs8; have HR8 := Lib.hid (And.intro hrg8 (And.intro hg8 hs8)); clear hrg8 hg8 hs8)
    | fail)
  clear hml1 hml2
  go_frame
  have FS8 : Hid (GM w8 b2 n2 L ∧ Gr w w8) := Lib.hid ⟨H2.out.gr (gr_grownM HR8.out.2.1), gr_grownM HR8.out.2.1⟩
  have HRI : Hid (w.heap.size ≠ b2) := Lib.hid (by have := H2.out.lt; omega)
  go_loopw [5] (fun _ wr => ∃ (left : Lit → Bool) (cnt : Nat), Hid (wr.ranges Try.prog 3 (plainElem Try.prog 3) b1 w.heap.size n1 DD left cnt ∧ GM wr b2 n2 L ∧ Gr w wr)) (fun _ wr => wr.rangeLeft b1 w.heap.size)
  case atStart => exact ⟨_, _, Lib.hid ⟨HR8.out.1, FS8.out.1, FS8.out.2⟩⟩
  case round =>
    obtain ⟨left, cnt, HH⟩ := hrel
    go_wp2_with (first
      | (at_next; refine wpList_next_ranges_ii _ rfl (.tmp 15) rfl 3 3 .i64 .i64 lawI Try.underlying3 Try.underlying3 b1 w.heap.size n1 DD left cnt rfl HH.out.1 ?_ ?_)
      | fail)
    · intro _ _
      go_wp2_with fail
      go_ret
      exact ⟨rfl, HH.out.2.2⟩
    · intro x c w9 cnt1 hwx hwc hlx hat hrg1 hlt hg9 hs9 hen
      have hlook := HRD.out.val (k := x) (c := c) hat
      have F1 : Hid ((look ltZ L x).getD 0 = c) := Lib.hid (by rw [hlook]; rfl)
      have F2 : Hid ((look ltZ L x).isSome = true) := Lib.hid (by rw [hlook]; rfl)
      have HR9 := Lib.hid (And.intro hrg1 hlt)
      have HF9 : Hid (GM w9 b2 n2 L ∧ Gr w w9) := Lib.hid (by
        have m9 : Mdh (fun k => k = w.heap.size) wr w9 := md_of_grown hg9
        exact ⟨HH.out.2.1.mdh m9 (fun e => HRI.out e.symm), HH.out.2.2.md m9 (fun k hk => by rw [hk]; exact Nat.le_refl _)⟩)
      clear hrg1 hlt hat hlx hg9 hlook
      go_wp2_with (first
        | (at_lookup; refine wpList_gm_look _ rfl (.tmp 22) (.tmp 23) rfl b2 n2 L rfl HF9.out.1 x rfl hwx ?_; rw [F1.out, F2.out])
        | fail)
      go_roundw
      case rel => exact ⟨_, _, Lib.hid ⟨HR9.out.1, HF9.out.1, HF9.out.2⟩⟩
      case measure =>
        rw [HR9.out.1.left_eq, HH.out.1.left_eq]
        exact HR9.out.2
end Go.Proofs.Ytbhkigjmjmfbgaa
