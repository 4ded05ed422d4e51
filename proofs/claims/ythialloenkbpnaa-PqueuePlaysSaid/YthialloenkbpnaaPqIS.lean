/- The iterator over a queue, at the priorities string. Written from YPqI.base by inst.py. -/
import Derived.Test.YthialloenkbpnaaPqHS
import Derived.Test.YthialloenkbpnaaRgf
import Derived.Shelf.Abstract
import Derived.Shelf.RegionOpen
import Derived.WalkKit
import Derived.OwnWalkIn
import Derived.TacticsInMore
import Derived.LoopIn
import Derived.Sort.LoopGhostIn
set_option linter.unusedVariables false
set_option linter.unusedSimpArgs false
namespace Go.Proofs.Ythialloenkbpnaa
open Go.RowKit Go.Shelf
attribute [local go_sem] OvM cell_ovm obj_ovm
attribute [local go_sem] Oper.semAt_some

abbrev EnS := Nat × UInt8
def encIS (x : EnS) : Array Value := #[.int .i64 x.1, .string ⟨#[x.2]⟩]
/-- What is left of a queue behind some ids. -/
def aftS (M : Nat → Option UInt8) (pre : List EnS) : Nat → Option UInt8 := pre.foldl (fun M x => upd M x.1 none) M
theorem aft_snocS (M : Nat → Option UInt8) (pre : List EnS) (x : EnS) : aftS M (pre ++ [x]) = upd (aftS M pre) x.1 none := by simp [aftS]
/-- The ids come in the order in which Pop returns them. -/
def PopsS (n : Nat) (M : Nat → Option UInt8) (pre : List EnS) : Prop := ∀ j, j < pre.length → ∃ x, pre[j]? = some x ∧ x.1 < n ∧ IsMinS (aftS M (pre.take j)) x.1 x.2
theorem PopsS.nil (n : Nat) (M : Nat → Option UInt8) : PopsS n M [] := fun j hj => by simp at hj
theorem PopsS.snoc {n : Nat} {M : Nat → Option UInt8} {pre : List EnS} {x : EnS} (h : PopsS n M pre) (hx : x.1 < n) (hm : IsMinS (aftS M pre) x.1 x.2) : PopsS n M (pre ++ [x]) := fun j hj => by
  by_cases e : j = pre.length
  · subst e
    exact ⟨x, by simp, hx, by rw [List.take_left']; exact hm; rfl⟩
  · have hj' : j < pre.length := by simp at hj; omega
    obtain ⟨y, h1, h2, h3⟩ := h j hj'
    exact ⟨y, by rw [List.getElem?_append_left hj']; exact h1, h2, by rw [List.take_append_of_le_length (by omega)]; exact h3⟩
theorem PopsS.uniq {n : Nat} {M : Nat → Option UInt8} {a b : List EnS} (h : PopsS n M a) (h' : PopsS n M b) : ∀ j, j ≤ a.length → j ≤ b.length → a.take j = b.take j
  | 0, _, _ => by simp
  | j + 1, ha, hb => by
    have ih := h.uniq h' j (by omega) (by omega)
    obtain ⟨x, x1, _, x3⟩ := h j (by omega)
    obtain ⟨y, y1, _, y3⟩ := h' j (by omega)
    rw [ih] at x3
    obtain ⟨e1, e2⟩ := x3.uniq y3
    have : x = y := Prod.ext e1 e2
    subst this
    rw [List.take_add_one, List.take_add_one, ih, x1, y1]

set_option maxRecDepth 40000 in
theorem AllS (p : Option Addr) (w : World) :
    Calls Try.prog 49 #[.pointer p] w fun e w' => ∃ bb, e = .returned (.func (.func 82) #[] #[.pointer (some ⟨bb, 0, none⟩)]) ∧ w'.cell? ⟨bb, 0, none⟩ = some (.pointer p) ∧ w.heap.size ≤ bb ∧ Gr w w' := by
  go_enter Try.func49, Try.ntmps49
  go_wp2
  go_ret
  exact ⟨_, rfl, by simp [go_sem], Nat.le_refl _, by (repeat (first | (with_reducible exact Gr.refl _) | assumption | (with_reducible apply Gr.from_drew) | (with_reducible apply Gr.alloc) | (with_reducible apply Gr.drew) | (with_reducible refine Gr.trans ?_ (by assumption)) | (with_reducible refine Gr.setCell ?_ (by omega) _)))⟩

set_option maxRecDepth 40000 in
set_option maxHeartbeats 2000000 in
/-- The iterator over a queue that holds M. -/
theorem SeqS (b n len : Nat) (M : Nat → Option UInt8) (S : Nat → Prop) (bb : Nat) (w : World) (q : QRS w b n len M S) (hbb : w.cell? ⟨bb, 0, none⟩ = some (.pointer (some ⟨b, 0, none⟩))) :
    SeqZ Fence.wide 2 Try.prog 82 #[.pointer (some ⟨bb, 0, none⟩)] encIS (fun k => k = bb ∨ S k) (fun xs => PopsS n M xs ∧ xs.length = len) (fun pre => PopsS n M pre ∧ pre.length ≤ len) w := by
  intro l J Jx W hW hJ hJx hY h0
  have hbW : W.cell? ⟨bb, 0, none⟩ = some (.pointer (some ⟨b, 0, none⟩)) := hW.keep hbb (fun h => h (.inl rfl))
  have HQ := Lib.hid (q.mdh hW (fun k hk h => h (.inr hk)))
  refine callsIn_of_wp Try.func82 rfl trivial ?_ rfl
  simp only [Try.ntmps82, List.size_toArray, List.length_cons, List.length_nil, Nat.reduceAdd, Nat.reduceSub, Array.replicate_succ, Array.replicate_zero, List.push_toArray, List.append_toArray, List.nil_append, List.cons_append]
  gi_wp2_with fail
  refine ⟨trivial, (callsIn_wide.2 (CopyS b n len M S _ HQ.out)).mono ?_⟩
  rintro e W2 ⟨bc, Sc, rfl, hqc, hSc, hg2⟩
  have hJ0 : J Sc [] W2 := hJ _ _ _ _ _ h0 (hg2.mdh _) (fun k hk => .inr ⟨hSc k hk, hqc.sub k hk⟩)
  have HC := Lib.hid hqc
  clear hqc hSc hg2 h0
  gi_wp2_with fail
  gi_loopg [] len (fun g wx => ∃ pre, J Sc pre wx ∧ Hid (QRS wx bc n g (aftS M pre) Sc ∧ PopsS n M pre ∧ pre.length + g = len))
  case atStart => exact ⟨[], hJ0, Lib.hid ⟨HC.out, PopsS.nil n M, by simp⟩⟩
  case round =>
    obtain ⟨pre, hJp, H⟩ := hrel
    clear hJ0 HC
    by_cases hpos : 0 < gk
    · have hposI : (0 : Int) < gk := by omega
      gi_wp2_with fail
      refine ⟨trivial, (callsIn_wide.2 (LenS _ _ _ _ _ _ H.out.1)).mono ?_⟩
      rintro e W3 ⟨rfl, rfl⟩
      gi_wp2_with fail
      refine ⟨trivial, (callsIn_wide.2 (Pop_someS _ _ _ _ _ _ H.out.1 hpos)).mono ?_⟩
      rintro e W4 ⟨i, p, rfl, hi, hmin, hq4, hm4⟩
      have hJ4 : J Sc pre W4 := hJ _ _ _ _ _ hJp hm4 (fun k hk => .inl hk)
      have HP : Hid (PopsS n M (pre ++ [(i, p)])) := Lib.hid (H.out.2.1.snoc hi hmin)
      obtain ⟨fn, tmps, assign, body, hy, hR⟩ := hY Sc pre (i, p) W4 hJ4 ⟨HP.out, by have := H.out.2.2; simp; omega⟩
      have HMIN := Lib.hid hmin
      have HQ4 := Lib.hid hq4
      clear hmin hq4 hm4 hJp
      simp only [encIS] at hy
      gi_wp2_with fail
      refine hR.mono ?_
      rintro e W5 (⟨rfl, hJ5, hm5⟩ | ⟨rfl, hJx5⟩)
      · have HQ5 : Hid (QRS W5 bc n (gk - 1) (aftS M (pre ++ [(i, p)])) Sc) := Lib.hid (by rw [aft_snocS]; exact HQ4.out.mdh hm5 (fun k hk h => h.2 hk))
        have HLEN : Hid ((pre ++ [(i, p)]).length + (gk - 1) = len) := Lib.hid (by have := H.out.2.2; simp; omega)
        clear hm5 hR hy
        gi_wp2_with fail
        go_roundg (gk - 1)
        case rel => exact ⟨_, hJ5, Lib.hid ⟨HQ5.out, HP.out, HLEN.out⟩⟩
        case measure => omega
      · have HLEN : Hid ((pre ++ [(i, p)]).length ≤ len) := Lib.hid (by have := H.out.2.2; simp; omega)
        gi_wp2_with fail
        refine bodyPost_ret (results_none rfl _ _ _) rfl ?_
        exact ⟨⟨_, rfl⟩, .inr ⟨_, _, ⟨HP.out, HLEN.out⟩, hJx5⟩⟩
    · obtain rfl : gk = 0 := by omega
      gi_wp2_with fail
      refine ⟨trivial, (callsIn_wide.2 (LenS _ _ _ _ _ _ H.out.1)).mono ?_⟩
      rintro e W3 ⟨rfl, rfl⟩
      gi_wp2_with fail
      go_end0
      exact ⟨⟨_, rfl⟩, .inl ⟨_, _, ⟨H.out.2.1, H.out.2.2⟩, hJp⟩⟩
end Go.Proofs.Ythialloenkbpnaa
