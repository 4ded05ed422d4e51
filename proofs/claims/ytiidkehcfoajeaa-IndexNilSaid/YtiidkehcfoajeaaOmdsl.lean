/- The iterators of an ordered map, at keys string and values drumlin/index.list. Written from YOmd.base by inst.py. -/
import Derived.Test.YtiidkehcfoajeaaOmcsl
import Derived.Test.YtiidkehcfoajeaaOmx
import Derived.Shelf.Abstract
import Derived.Shelf.RegionOpen
import Derived.OwnWalkIn
import Derived.TacticsInMore
import Derived.LoopIn
import Derived.Sort.LoopGhostIn
set_option linter.unusedVariables false
set_option linter.unusedSimpArgs false
namespace Go.Proofs.Ytiidkehcfoajeaa
open Go.RowKit Go.Shelf
attribute [local go_sem] OvM cell_ovm obj_ovm
attribute [local go_sem] Oper.semAt_some

def encOsl (x : Itsl) : Array Value := #[.string (x.1), .slice (x.2).1 (x.2).2.1 (x.2).2.2]
theorem VWsl.mdh {F : Nat → Prop} {w w' : World} {p : Option Addr} {v : Value} {L : List Itsl} (h : VWsl w p v L) (g : Mdh F w w') (hf : ∀ k, OMB p v k → ¬ F k) : VWsl w' p v L := by
  rcases h with ⟨b, rfl, h⟩ | ⟨h1 | ⟨b, rfl, h1⟩, h2, h3⟩
  · exact .inl ⟨b, rfl, h.mdh g (fun k hk => hf k (hk.elim (fun e => .inl ⟨_, rfl, e⟩) .inr))⟩
  · exact .inr ⟨.inl h1, h2, h3⟩
  · exact .inr ⟨.inr ⟨b, rfl, g.blk h1 (hf b (.inl ⟨_, rfl, rfl⟩))⟩, h2, h3⟩
theorem VWsl.lt {w : World} {p : Option Addr} {v : Value} {L : List Itsl} (h : VWsl w p v L) : ∀ k, OMB p v k → k < w.heap.size := by
  rintro k (⟨a, e, rfl⟩ | hk)
  · rcases h with ⟨b, rfl, h⟩ | ⟨rfl | ⟨b, rfl, h⟩, _⟩
    · obtain rfl := Option.some.inj e; exact blkLt h.blk
    · cases e
    · obtain rfl := Option.some.inj e; exact blkLt h
  · exact h.own.lt hk

set_option maxRecDepth 40000 in
set_option maxHeartbeats 4000000 in
/-- The items from an index on, one by one. -/
theorem sincesl (p : Option Addr) (v : Value) (L : List Itsl) (i : Nat) (hi : i ≤ L.length) (hn : L.length ≤ 1000000) (w : World) (h : VWsl w p v L) (A : Nat → Prop) (hA : ∀ k, OMB p v k → A k)
    (l : Nat) (J Jx : (Nat → Prop) → List Itsl → World → Prop) (W : World) (hW : Mdh (fun k => ¬ A k) w W) (hJ : Apart J) (hJx : Apart Jx)
    (hY : ∀ Z pre x X, J Z pre X → (pre ++ [x]) <+: L.drop i → YieldAt Fence.wide 1 Try.prog l (encOsl x) X fun e Y =>
      (e = .returned (.bool true) ∧ J Z (pre ++ [x]) Y ∧ Mdh (fun k => ¬ A k ∧ ¬ Z k) X Y) ∨ (e = .returned (.bool false) ∧ Jx Z (pre ++ [x]) Y ∧ Mdh (fun k => ¬ Z k) X Y))
    (h0 : J (fun _ => False) [] W) :
    CallsIn Fence.wide 1 Try.prog 132 #[.pointer p, .int .i64 i, .func (.yield l) #[] #[]] W (SinPost (L.drop i) J Jx) := by
  have HV := Lib.hid (h.mdh hW (fun k hk hn => hn (hA k hk)))
  obtain ⟨a, cap, rfl, hnc, hcm, hat⟩ := HV.out.at
  have HAT := Lib.hid hat
  unfold maxLen at hcm
  have hi' : (i : Int) ≤ L.length := by omega
  clear h hW hat
  refine callsIn_of_wp Try.func132 rfl trivial ?_ rfl
  simp only [Try.ntmps132, List.size_toArray, List.length_cons, List.length_nil, Nat.reduceAdd, Nat.reduceSub, Array.replicate_succ, Array.replicate_zero, List.push_toArray, List.append_toArray, List.nil_append, List.cons_append]
  gi_wp2_with fail
  refine ⟨trivial, (callsIn_wide.2 (itemssl p _ L _ HV.out)).mono ?_⟩
  rintro e W2 ⟨rfl, rfl⟩
  by_cases hiL : i < L.length
  · obtain ⟨g, rfl, hg0, _, _⟩ := HAT.out i _ (List.getElem?_eq_getElem hiL)
    have hAg : A g := hA g (.inr rfl)
    have hcap : ¬ cap = i := by omega
    clear hg0
    gi_wp2_with fail
    gi_loopg [13] (L.length - i) (fun gk t13 wx => ∃ (j : Nat) (pre : List Itsl), t13 = .int .i64 j ∧ J (fun _ => False) pre wx ∧ Hid (Mdh (fun k => ¬ A k) W wx ∧ pre = (L.drop i).take j ∧ j + gk = L.length - i))
    case atStart => exact ⟨0, [], rfl, h0, Lib.hid ⟨Mdh.refl _ _, by simp, by omega⟩⟩
    case round =>
      obtain ⟨j, pre, rfl, hJp, H⟩ := hrel
      clear h0
      by_cases hlt : j < L.length - i
      · have hij : i + j < L.length := by omega
        have hlt' : (j : Int) < ((L.length - i : Nat) : Int) := by omega
        have hx : L[i + j]? = some (L[i + j]'hij) := List.getElem?_eq_getElem hij
        obtain ⟨g', he, _, c0, c1⟩ := HAT.out (i + j) _ hx
        obtain rfl : g = g' := by simpa using he
        have d0 := H.out.1.keep c0 (fun hn => hn hAg)
        have d1 := H.out.1.keep c1 (fun hn => hn hAg)
        rw [show (i + j) * 2 = i * 2 + j * 2 by omega] at d0 d1
        have HPRE : Hid (pre ++ [L[i + j]'hij] <+: L.drop i) := Lib.hid (by
          rw [H.out.2.1]
          have e : (L.drop i).take (j + 1) = (L.drop i).take j ++ [L[i + j]'hij] := by
            rw [List.take_add_one, List.getElem?_drop, hx]; rfl
          rw [← e]
          exact List.take_prefix _ _)
        have HTK : Hid (pre ++ [L[i + j]'hij] = (L.drop i).take (j + 1)) := Lib.hid (by
          rw [H.out.2.1, List.take_add_one, List.getElem?_drop, hx]; rfl)
        generalize L[i + j]'hij = x at *
        obtain ⟨x1, x2⟩ := x
        simp only at d0 d1
        have hJ4 : J (fun _ => False) pre (wr.alloc (.cells #[.string (x1), .slice (x2).1 (x2).2.1 (x2).2.2] 158)) := hJ _ _ _ _ _ hJp ((Mdh.refl _ wr).alloc _) (fun k hk => .inl hk)
        obtain ⟨fn, tmps, assign, body, hy, hR⟩ := yield_any 0 (hY _ pre (x1, x2) _ hJ4 HPRE.out)
        have HM4 := Lib.hid (H.out.1.trans ((Mdh.refl (fun k => ¬ A k) wr).alloc (.cells #[.string (x1), .slice (x2).1 (x2).2.1 (x2).2.2] 158)))
        simp only [encOsl] at hy
        clear hx c0 c1 he hJp hij
        gi_wp2_with fail
        refine hR.mono ?_
        rintro e W5 (⟨rfl, hJ5, hm5⟩ | ⟨rfl, hJx5, _⟩)
        · have HM5 := Lib.hid (HM4.out.trans (hm5.mono (fun k hk => hk.1)))
          clear hm5 hR hy
          gi_wp2_with fail
          go_roundg (gk - 1)
          case rel => exact ⟨j + 1, _, by go_num, hJ5, Lib.hid ⟨HM5.out, HTK.out, by have := H.out.2.2; omega⟩⟩
          case measure => have := H.out.2.2; omega
        · gi_wp2_with fail
          refine bodyPost_ret (results_none rfl _ _ _) rfl ?_
          exact ⟨⟨_, rfl⟩, .inr ⟨_, _, HPRE.out, hJx5⟩⟩
      · have hlt' : ¬ (j : Int) < ((L.length - i : Nat) : Int) := by omega
        gi_wp2_with fail
        go_end0
        exact ⟨⟨_, rfl⟩, .inl ⟨_, pre, by rw [H.out.2.1, List.take_of_length_le (by rw [List.length_drop]; omega)], hJp⟩⟩
  · obtain rfl : i = L.length := by omega
    have HE : Hid (([] : List Itsl) = L.drop L.length) := Lib.hid (by rw [List.drop_length])
    rcases a with _ | a
    all_goals
      gi_wp2_with fail
      all_goals
        gi_loopg [13] 0 (fun gk t13 wx => t13 = .int .i64 0 ∧ wx = W)
        case atStart => exact ⟨rfl, rfl⟩
        case round =>
          obtain ⟨rfl, rfl⟩ := hrel
          gi_wp2_with fail
          go_end0
          exact ⟨⟨_, rfl⟩, .inl ⟨_, [], by first | exact HE.out | rfl, h0⟩⟩

set_option maxRecDepth 40000 in
theorem AllOsl (p : Option Addr) (w : World) :
    Calls Try.prog 101 #[.pointer p] w fun e w' => ∃ bb, e = .returned (.func (.func 131) #[] #[.pointer (some ⟨bb, 0, none⟩)]) ∧ w'.cell? ⟨bb, 0, none⟩ = some (.pointer p) ∧ w.heap.size ≤ bb ∧ Gr w w' := by
  go_enter Try.func101, Try.ntmps101
  go_wp2
  go_ret
  exact ⟨_, rfl, by simp [go_sem], Nat.le_refl _, by (repeat (first | (with_reducible exact Gr.refl _) | assumption | (with_reducible apply Gr.from_drew) | (with_reducible apply Gr.alloc) | (with_reducible apply Gr.drew) | (with_reducible refine Gr.trans ?_ (by assumption)) | (with_reducible refine Gr.setCell ?_ (by omega) _)))⟩
set_option maxRecDepth 40000 in
set_option maxHeartbeats 2000000 in
theorem SeqAsl (p : Option Addr) (v : Value) (L : List Itsl) (hn : L.length ≤ 1000000) (bb : Nat) (w : World) (h : VWsl w p v L) (hbb : w.cell? ⟨bb, 0, none⟩ = some (.pointer p)) :
    SeqZ Fence.wide 2 Try.prog 131 #[.pointer (some ⟨bb, 0, none⟩)] encOsl (fun k => k = bb ∨ OMB p v k) (fun xs => xs = L) (fun pre => pre <+: L) w := by
  intro l J Jx W hW hJ hJx hY h0
  have hbW : W.cell? ⟨bb, 0, none⟩ = some (.pointer p) := hW.keep hbb (fun h => h (.inl rfl))
  have HS := Lib.hid (sincesl p v L 0 (Nat.zero_le _) hn w h (fun k => k = bb ∨ OMB p v k) (fun k hk => .inr hk) l J Jx W hW hJ hJx (by rw [List.drop_zero]; exact hY) h0)
  refine callsIn_of_wp Try.func131 rfl trivial ?_ rfl
  simp only [Try.ntmps131, List.size_toArray, List.length_cons, List.length_nil, Nat.reduceAdd, Nat.reduceSub, Array.replicate_succ, Array.replicate_zero, List.push_toArray, List.append_toArray, List.nil_append, List.cons_append]
  clear hY h0 hW
  gi_wp2_with fail
  refine ⟨trivial, CallsIn.mono HS.out ?_⟩
  rintro e W2 ⟨⟨u, rfl⟩, hc⟩
  gi_wp2_with fail
  go_end0
  refine ⟨⟨_, rfl⟩, ?_⟩
  rw [List.drop_zero] at hc
  exact hc
end Go.Proofs.Ytiidkehcfoajeaa
