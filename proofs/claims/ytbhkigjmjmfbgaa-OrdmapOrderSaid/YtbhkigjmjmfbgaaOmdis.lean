/- The iterators of an ordered map, at keys int and values string. Written from YOmd.base by inst.py. -/
import Derived.Test.YtbhkigjmjmfbgaaOmcis
import Derived.Test.YtbhkigjmjmfbgaaOmx
import Derived.Shelf.Abstract
import Derived.Shelf.RegionOpen
import Derived.OwnWalkIn
import Derived.TacticsInMore
import Derived.LoopIn
import Derived.Sort.LoopGhostIn
set_option linter.unusedVariables false
set_option linter.unusedSimpArgs false
namespace Go.Proofs.Ytbhkigjmjmfbgaa
open Go.RowKit Go.Shelf
attribute [local go_sem] OvM cell_ovm obj_ovm
attribute [local go_sem] Oper.semAt_some

def encOis (x : Itis) : Array Value := #[.int .i64 (x.1), .string (x.2)]
theorem VWis.mdh {F : Nat → Prop} {w w' : World} {p : Option Addr} {v : Value} {L : List Itis} (h : VWis w p v L) (g : Mdh F w w') (hf : ∀ k, OMB p v k → ¬ F k) : VWis w' p v L := by
  rcases h with ⟨b, rfl, h⟩ | ⟨h1 | ⟨b, rfl, h1⟩, h2, h3⟩
  · exact .inl ⟨b, rfl, h.mdh g (fun k hk => hf k (hk.elim (fun e => .inl ⟨_, rfl, e⟩) .inr))⟩
  · exact .inr ⟨.inl h1, h2, h3⟩
  · exact .inr ⟨.inr ⟨b, rfl, g.blk h1 (hf b (.inl ⟨_, rfl, rfl⟩))⟩, h2, h3⟩
theorem VWis.lt {w : World} {p : Option Addr} {v : Value} {L : List Itis} (h : VWis w p v L) : ∀ k, OMB p v k → k < w.heap.size := by
  rintro k (⟨a, e, rfl⟩ | hk)
  · rcases h with ⟨b, rfl, h⟩ | ⟨rfl | ⟨b, rfl, h⟩, _⟩
    · obtain rfl := Option.some.inj e; exact blkLt h.blk
    · cases e
    · obtain rfl := Option.some.inj e; exact blkLt h
  · exact h.own.lt hk

set_option maxRecDepth 40000 in
set_option maxHeartbeats 4000000 in
/-- The items from an index on, one by one. -/
theorem sinceis (p : Option Addr) (v : Value) (L : List Itis) (i : Nat) (hi : i ≤ L.length) (hn : L.length ≤ 1000000) (w : World) (h : VWis w p v L) (A : Nat → Prop) (hA : ∀ k, OMB p v k → A k)
    (l : Nat) (J Jx : (Nat → Prop) → List Itis → World → Prop) (W : World) (hW : Mdh (fun k => ¬ A k) w W) (hJ : Apart J) (hJx : Apart Jx)
    (hY : ∀ Z pre x X, J Z pre X → (pre ++ [x]) <+: L.drop i → YieldAt Fence.wide 1 Try.prog l (encOis x) X fun e Y =>
      (e = .returned (.bool true) ∧ J Z (pre ++ [x]) Y ∧ Mdh (fun k => ¬ A k ∧ ¬ Z k) X Y) ∨ (e = .returned (.bool false) ∧ Jx Z (pre ++ [x]) Y))
    (h0 : J (fun _ => False) [] W) :
    CallsIn Fence.wide 1 Try.prog 122 #[.pointer p, .int .i64 i, .func (.yield l) #[] #[]] W (SinPost (L.drop i) J Jx) := by
  have HV := Lib.hid (h.mdh hW (fun k hk hn => hn (hA k hk)))
  obtain ⟨a, cap, rfl, hnc, hcm, hat⟩ := HV.out.at
  have HAT := Lib.hid hat
  unfold maxLen at hcm
  have hi' : (i : Int) ≤ L.length := by omega
  clear h hW hat
  refine callsIn_of_wp Try.func122 rfl trivial ?_ rfl
  simp only [Try.ntmps122, List.size_toArray, List.length_cons, List.length_nil, Nat.reduceAdd, Nat.reduceSub, Array.replicate_succ, Array.replicate_zero, List.push_toArray, List.append_toArray, List.nil_append, List.cons_append]
  gi_wp2_with fail
  refine ⟨trivial, (callsIn_wide.2 (itemsis p _ L _ HV.out)).mono ?_⟩
  rintro e W2 ⟨rfl, rfl⟩
  by_cases hiL : i < L.length
  · obtain ⟨g, rfl, hg0, _, _⟩ := HAT.out i _ (List.getElem?_eq_getElem hiL)
    have hAg : A g := hA g (.inr rfl)
    have hcap : ¬ cap = i := by omega
    clear hg0
    gi_wp2_with fail
    gi_loopg [13] (L.length - i) (fun gk t13 wx => ∃ (j : Nat) (pre : List Itis), t13 = .int .i64 j ∧ J (fun _ => False) pre wx ∧ Hid (Mdh (fun k => ¬ A k) W wx ∧ pre = (L.drop i).take j ∧ j + gk = L.length - i))
    case atStart => exact ⟨0, [], rfl, h0, Lib.hid ⟨Mdh.refl _ _, by simp, by omega⟩⟩
    case round =>
      obtain ⟨j, pre, rfl, hJp, H⟩ := hrel
      clear h0
      by_cases hlt : j < L.length - i
      · have hij : i + j < L.length := by omega
        have hlt' : (j : Int) < ((L.length - i : Nat) : Int) := by omega
        have hx : L[i + j]? = some (L[i + j]'hij) := List.getElem?_eq_getElem hij
        obtain ⟨g', he, _, c0, c1⟩ := HAT.out (i + j) _ hx
        obtain rfl : g = g' := by simpa using he
        have d0 := H.out.1.keep c0 (fun hn => hn hAg)
        have d1 := H.out.1.keep c1 (fun hn => hn hAg)
        rw [show (i + j) * 2 = i * 2 + j * 2 by omega] at d0 d1
        have HPRE : Hid (pre ++ [L[i + j]'hij] <+: L.drop i) := Lib.hid (by
          rw [H.out.2.1]
          have e : (L.drop i).take (j + 1) = (L.drop i).take j ++ [L[i + j]'hij] := by
            rw [List.take_add_one, List.getElem?_drop, hx]; rfl
          rw [← e]
          exact List.take_prefix _ _)
        have HTK : Hid (pre ++ [L[i + j]'hij] = (L.drop i).take (j + 1)) := Lib.hid (by
          rw [H.out.2.1, List.take_add_one, List.getElem?_drop, hx]; rfl)
        generalize L[i + j]'hij = x at *
        obtain ⟨x1, x2⟩ := x
        simp only at d0 d1
        have hJ4 : J (fun _ => False) pre (wr.alloc (.cells #[.int .i64 (x1), .string (x2)] 176)) := hJ _ _ _ _ _ hJp ((Mdh.refl _ wr).alloc _) (fun k hk => .inl hk)
        obtain ⟨fn, tmps, assign, body, hy, hR⟩ := yield_any 0 (hY _ pre (x1, x2) _ hJ4 HPRE.out)
        have HM4 := Lib.hid (H.out.1.trans ((Mdh.refl (fun k => ¬ A k) wr).alloc (.cells #[.int .i64 (x1), .string (x2)] 176)))
        simp only [encOis] at hy
        clear hx c0 c1 he hJp hij
        gi_wp2_with fail
        refine hR.mono ?_
        rintro e W5 (⟨rfl, hJ5, hm5⟩ | ⟨rfl, hJx5⟩)
        · have HM5 := Lib.hid (HM4.out.trans (hm5.mono (fun k hk => hk.1)))
          clear hm5 hR hy
          gi_wp2_with fail
          go_roundg (gk - 1)
          case rel => exact ⟨j + 1, _, by go_num, hJ5, Lib.hid ⟨HM5.out, HTK.out, by have := H.out.2.2; omega⟩⟩
          case measure => have := H.out.2.2; omega
        · gi_wp2_with fail
          refine bodyPost_ret (results_none rfl _ _ _) rfl ?_
          exact ⟨⟨_, rfl⟩, .inr ⟨_, _, HPRE.out, hJx5⟩⟩
      · have hlt' : ¬ (j : Int) < ((L.length - i : Nat) : Int) := by omega
        gi_wp2_with fail
        go_end0
        exact ⟨⟨_, rfl⟩, .inl ⟨_, pre, by rw [H.out.2.1, List.take_of_length_le (by rw [List.length_drop]; omega)], hJp⟩⟩
  · obtain rfl : i = L.length := by omega
    have HE : Hid (([] : List Itis) = L.drop L.length) := Lib.hid (by rw [List.drop_length])
    rcases a with _ | a
    all_goals
      gi_wp2_with fail
      all_goals
        gi_loopg [13] 0 (fun gk t13 wx => t13 = .int .i64 0 ∧ wx = W)
        case atStart => exact ⟨rfl, rfl⟩
        case round =>
          obtain ⟨rfl, rfl⟩ := hrel
          gi_wp2_with fail
          go_end0
          exact ⟨⟨_, rfl⟩, .inl ⟨_, [], by first | exact HE.out | rfl, h0⟩⟩

set_option maxRecDepth 40000 in
theorem FromOis (p : Option Addr) (k : Int) (w : World) :
    Calls Try.prog 65 #[.pointer p, .int .i64 (k)] w fun e w' => ∃ bb bk, e = .returned (.func (.func 121) #[] #[.pointer (some ⟨bb, 0, none⟩), .pointer (some ⟨bk, 0, none⟩)]) ∧ w'.cell? ⟨bb, 0, none⟩ = some (.pointer p) ∧ w'.cell? ⟨bk, 0, none⟩ = some (.int .i64 (k)) ∧ w.heap.size ≤ bb ∧ w.heap.size ≤ bk ∧ Gr w w' := by
  go_enter Try.func65, Try.ntmps65
  go_wp2
  go_ret
  exact ⟨_, _, rfl, by simp [go_sem], by simp [go_sem], Nat.le_refl _, by simp, by (repeat (first | (with_reducible exact Gr.refl _) | assumption | (with_reducible apply Gr.from_drew) | (with_reducible apply Gr.alloc) | (with_reducible apply Gr.drew) | (with_reducible refine Gr.trans ?_ (by assumption)) | (with_reducible refine Gr.setCell ?_ (by omega) _)))⟩

set_option maxRecDepth 40000 in
set_option maxHeartbeats 2000000 in
theorem SeqFis (p : Option Addr) (v : Value) (L : List Itis) (k0 : Int) (hn : L.length ≤ 1000000) (bb bk : Nat) (w : World) (h : VWis w p v L) (hbb : w.cell? ⟨bb, 0, none⟩ = some (.pointer p)) (hbk : w.cell? ⟨bk, 0, none⟩ = some (.int .i64 (k0))) :
    SeqZ Fence.wide 2 Try.prog 121 #[.pointer (some ⟨bb, 0, none⟩), .pointer (some ⟨bk, 0, none⟩)] encOis (fun k => k = bb ∨ k = bk ∨ OMB p v k) (fun xs => xs = L.drop (rk ltZ L k0)) (fun pre => pre <+: L.drop (rk ltZ L k0)) w := by
  intro l J Jx W hW hJ hJx hY h0
  have hbW : W.cell? ⟨bb, 0, none⟩ = some (.pointer p) := hW.keep hbb (fun h => h (.inl rfl))
  have hkW : W.cell? ⟨bk, 0, none⟩ = some (.int .i64 (k0)) := hW.keep hbk (fun h => h (.inr (.inl rfl)))
  have HV := Lib.hid (h.mdh hW (fun k hk hn => hn (.inr (.inr hk))))
  have HS : Hid (∀ W1, Gr W W1 → CallsIn Fence.wide 1 Try.prog 122 #[.pointer p, .int .i64 (rk ltZ L k0 : Nat), .func (.yield l) #[] #[]] W1 (SinPost (L.drop (rk ltZ L k0)) J Jx)) := Lib.hid (fun W1 g1 => sinceis p v L (rk ltZ L k0) (rk_le L k0) hn w h (fun k => k = bb ∨ k = bk ∨ OMB p v k) (fun k hk => .inr (.inr hk)) l J Jx W1 (hW.gr g1) hJ hJx hY (hJ _ _ _ _ _ h0 (g1.mdh _) (fun k hk => .inl hk)))
  refine callsIn_of_wp Try.func121 rfl trivial ?_ rfl
  simp only [Try.ntmps121, List.size_toArray, List.length_cons, List.length_nil, Nat.reduceAdd, Nat.reduceSub, Array.replicate_succ, Array.replicate_zero, List.push_toArray, List.append_toArray, List.nil_append, List.cons_append]
  clear hY h0 hW
  have mixed : Try.prog.follows .mixedOrders = true := by kernel_rfl
  gi_region_with_o (first
    | (refine ⟨trivial, (callsIn_wide.2 (Rankis p v L k0 _ (HV.out.gr (by (repeat (first | (with_reducible exact Gr.refl _) | assumption | (with_reducible apply Gr.from_drew) | (with_reducible apply Gr.alloc) | (with_reducible apply Gr.drew) | (with_reducible refine Gr.trans ?_ (by assumption)) | (with_reducible refine Gr.setCell ?_ (by omega) _))))) hn)).mono ?_⟩; rintro e W2 ⟨rfl, hg⟩; have hbW2 := hg.keep (show W.drew.cell? _ = _ from hbW))
    | (refine ⟨trivial, (HS.out _ (by (repeat (first | (with_reducible exact Gr.refl _) | assumption | (with_reducible apply Gr.from_drew) | (with_reducible apply Gr.alloc) | (with_reducible apply Gr.drew) | (with_reducible refine Gr.trans ?_ (by assumption)) | (with_reducible refine Gr.setCell ?_ (by omega) _))))).mono ?_⟩; rintro e W3 ⟨⟨u, rfl⟩, hc⟩))
  all_goals
    gi_wp2_with fail
    go_end0
    exact ⟨⟨_, rfl⟩, hc⟩

theorem yieldsTwois (fn : Nat) (caps : Array Value) (w : World) : Calls Try.prog 64 #[.func (.func fn) #[] caps] w fun e w' => e = .returned (.func (.func fn) #[] caps) ∧ w = w' := by
  have k1 : ∀ w : World, (binOp .eql 120 (.func (.func fn) #[] caps) .nilFunc).run Try.prog w = .ok (.bool false) w := fun w => by kernel_rfl
  go_enter Try.func64, Try.ntmps64
  go_wp2
  go_ret
  exact ⟨rfl, rfl⟩

/-- A map all of whose blocks are new since w0, and blocks beside it that stay. -/
def OMWis (w0 w : World) (b : Nat) (L : List Itis) (K : List (Nat × Obj)) : Prop := ∃ v, OMis w b v L ∧ w0.heap.size ≤ b ∧ (∀ g, v.ownBlock = some g → w0.heap.size ≤ g) ∧ Gr w0 w ∧ ∀ q ∈ K, w.heap[q.1]? = some q.2 ∧ ¬ OMB (some ⟨b, 0, none⟩) v q.1
section
variable {w0 w w' : World} {b : Nat} {L : List Itis} {K : List (Nat × Obj)}
theorem OMWis.g (h : OMWis w0 w b L K) : Gr w0 w := let ⟨_, _, _, _, g, _⟩ := h; g
theorem OMWis.gr (h : OMWis w0 w b L K) (g : Gr w w') : OMWis w0 w' b L K := let ⟨v, h1, h2, h3, h4, h5⟩ := h; ⟨v, h1.gr g, h2, h3, h4.trans g, fun q hq => ⟨g.blk (h5 q hq).1, (h5 q hq).2⟩⟩
theorem OMWis.vw (h : OMWis w0 w b L K) : ∃ v, VWis w (some ⟨b, 0, none⟩) v L := let ⟨v, h1, _⟩ := h; ⟨v, .inl ⟨b, rfl, h1⟩⟩
theorem OMWis.srt (h : OMWis w0 w b L K) : Srt ltZ L := let ⟨_, h1, _⟩ := h; h1.srt
theorem OMWis.kept (h : OMWis w0 w b L K) {q : Nat} {o : Obj} (hq : (q, o) ∈ K) : w.heap[q]? = some o := let ⟨_, _, _, _, _, h5⟩ := h; (h5 (q, o) hq).1
/-- A block that the call itself has laid since. -/
theorem OMWis.keep (h : OMWis w0 w b L K) (o : Obj) : OMWis w0 (w.alloc o) b L ((w.heap.size, o) :: K) := by
  obtain ⟨v, h1, h2, h3, h4, h5⟩ := h
  refine ⟨v, h1.gr ((Gr.refl w).alloc o), h2, h3, h4.alloc o, fun q hq => ?_⟩
  rcases List.mem_cons.1 hq with rfl | hq
  · exact ⟨blkNew w o, fun hb => by have := VWis.lt (.inl ⟨b, rfl, h1⟩) _ hb; omega⟩
  · exact ⟨blkOld (h5 q hq).1, (h5 q hq).2⟩
theorem OMWis.drop (h : OMWis w0 w b L K) (K' : List (Nat × Obj)) (hk : ∀ q ∈ K', q ∈ K) : OMWis w0 w b L K' := let ⟨v, h1, h2, h3, h4, h5⟩ := h; ⟨v, h1, h2, h3, h4, fun q hq => h5 q (hk q hq)⟩
theorem NewWis (w0 w : World) (g : Gr w0 w) : Calls Try.prog 59 #[] w fun e w' => ∃ b, e = .returned (.pointer (some ⟨b, 0, none⟩)) ∧ OMWis w0 w' b [] [] :=
  (NewOis w).mono fun e w' ⟨he, h, hg⟩ => ⟨_, he, _, h, g.sz, fun g hg => (by cases hg), g.trans hg, fun q hq => (by cases hq)⟩
theorem SetWis (k : Int) (u : ByteArray) (h : OMWis w0 w b L K) (hn : L.length ≤ 100000) :
    Calls Try.prog 60 #[.pointer (some ⟨b, 0, none⟩), .int .i64 (k), .string (u)] w fun e w' => e = .returned (.tuple #[lookVis L k, .bool (hasBis L k), .int .i64 0]) ∧ OMWis w0 w' b (putL ltZ L k u) K := by
  obtain ⟨v, h1, h2, h3, h4, h5⟩ := h
  refine (Setis b v L k u w h1 hn).mono ?_
  rintro e w' ⟨he, v', hm, ho, hd⟩
  have hs : ∀ k, (k = b ∨ v.ownBlock = some k) → w0.heap.size ≤ k := fun k hk => hk.elim (fun e => e ▸ h2) (h3 k)
  refine ⟨he, v', hm, h2, fun g hg => (ho g hg).elim (h3 g) (fun y => Nat.le_trans h4.sz y), h4.md hd hs, fun q hq => ?_⟩
  obtain ⟨a1, a2⟩ := h5 q hq
  refine ⟨hd.blk a1 (fun hk => a2 (hk.elim (fun e => .inl ⟨_, rfl, e⟩) .inr)), ?_⟩
  rintro (⟨a, ha, e⟩ | hg)
  · exact a2 (.inl ⟨a, ha, e⟩)
  · rcases ho _ hg with y | y
    · exact a2 (.inr y)
    · have := blkLt a1; omega
theorem DeleteWis (k : Int) (h : OMWis w0 w b L K) (hn : L.length ≤ 100000) :
    Calls Try.prog 66 #[.pointer (some ⟨b, 0, none⟩), .int .i64 (k)] w fun e w' => e = .returned (.tuple #[lookVis L k, .bool (hasBis L k)]) ∧ OMWis w0 w' b (delL ltZ L k) K := by
  obtain ⟨v, h1, h2, h3, h4, h5⟩ := h
  refine (DeleteOis b v L k w h1 hn).mono ?_
  rintro e w' ⟨he, v', hm, ho, hd⟩
  have hs : ∀ k, (k = b ∨ v.ownBlock = some k) → w0.heap.size ≤ k := fun k hk => hk.elim (fun e => e ▸ h2) (h3 k)
  refine ⟨he, v', hm, h2, fun g hg => (ho g hg).elim (h3 g) (fun y => Nat.le_trans h4.sz y), h4.md hd hs, fun q hq => ?_⟩
  obtain ⟨a1, a2⟩ := h5 q hq
  refine ⟨hd.blk a1 (fun hk => a2 (hk.elim (fun e => .inl ⟨_, rfl, e⟩) .inr)), ?_⟩
  rintro (⟨a, ha, e⟩ | hg)
  · exact a2 (.inl ⟨a, ha, e⟩)
  · rcases ho _ hg with y | y
    · exact a2 (.inr y)
    · have := blkLt a1; omega
end
end Go.Proofs.Ytbhkigjmjmfbgaa
