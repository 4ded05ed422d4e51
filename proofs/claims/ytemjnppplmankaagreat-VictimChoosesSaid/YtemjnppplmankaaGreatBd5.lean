/- The methods of an ordered map at its ends and neighbours, New, Set, Delete, at keys string and values drumlin/index.list. Written from YOmc.base by inst.py. -/
import Derived.Test.YtemjnppplmankaaGreatBd4
import Derived.Test.YtemjnppplmankaaGreatBd2
import Derived.RangeFuncNested
import Derived.RangeFuncBound
import Derived.RangeFuncCalls
import Derived.RangeFuncLeaves
import Derived.ControlIn
import Derived.Shelf.Abstract
import Derived.Shelf.RegionOpen
import Derived.OwnWalkIn
import Derived.TacticsInMore
import Derived.LoopIn
import Derived.Sort.LoopGhostIn
import Derived.Test.YtemjnppplmankaaGreatBd3
import Derived.Test.YtemjnppplmankaaGreatRows
import Derived.BigQuiet
import Derived.Deep.QuietTactic
import Derived.Deep.DeepMust
import Derived.WalkKit
import Derived.Lib.Hide
set_option linter.unusedVariables false
set_option linter.unusedSimpArgs false
namespace Go.Proofs.YtemjnppplmankaaGreat
open Go.RowKit
attribute [local go_sem] OvM cell_ovm obj_ovm

set_option maxRecDepth 40000 in
theorem NewOsl (w : World) : Calls Tryz.prog 37 #[] w fun e w' => e = .returned (.pointer (some ⟨w.heap.size, 0, none⟩)) ∧ OMsl w' w.heap.size (.slice none 0 0) [] ∧ Gr w w' := by
  go_enter Tryz.func37, Tryz.ntmps37
  go_wp2
  go_ret
  exact ⟨rfl, ⟨blkNew _ _, ⟨rfl, .inl ⟨rfl, rfl⟩⟩, (fun h => by cases h), List.Pairwise.nil⟩, by (repeat (first | (with_reducible exact Gr.refl _) | assumption | (with_reducible apply Gr.from_drew) | (with_reducible apply Gr.alloc) | (with_reducible apply Gr.drew) | (with_reducible refine Gr.trans ?_ (by assumption)) | (with_reducible refine Gr.setCell ?_ (by omega) _)))⟩

/-- What Set and Delete leave. -/
def OMPostsl (b : Nat) (v : Value) (L' : List Itsl) (w w' : World) : Prop := ∃ v', OMsl w' b v' L' ∧ (∀ g, v'.ownBlock = some g → v.ownBlock = some g ∨ w.heap.size ≤ g) ∧ Mdh (fun k => k = b ∨ v.ownBlock = some k) w w'

set_option maxRecDepth 40000 in
set_option maxHeartbeats 2000000 in
theorem Setsl (b : Nat) (v : Value) (L : List Itsl) (k : ByteArray) (u : (Option Addr × Nat × Nat)) (w : World) (h : OMsl w b v L) (hn : L.length ≤ 100000) :
    Calls Tryz.prog 69 #[.pointer (some ⟨b, 0, none⟩), .string (k), .slice (u).1 (u).2.1 (u).2.2] w fun e w' => e = .returned (.tuple #[lookVsl L k, .bool (hasBsl L k), .int .i64 0]) ∧ OMPostsl b v (putL ltS L k u) w w' := by
  have H := Lib.hid h
  have c0 := ((cellsOf h.blk).1 0).trans (show _ = some (Value.bool true) from rfl)
  have hr := rk_le (lt := ltS) L k
  obtain ⟨r, hrd⟩ : ∃ r, r = rk ltS L k := ⟨_, rfl⟩
  have HRK := Lib.hid hrd
  rw [← hrd] at hr
  have HSRT := Lib.hid (put_srt ordS h.srt k u)
  clear h hrd
  cases hl : look ltS L k with
  | none =>
    have HB := Lib.hid (show hasBsl L k = false by unfold hasBsl; rw [hl]; rfl)
    have HV := Lib.hid (show lookVsl L k = .slice none 0 0 by unfold lookVsl; rw [hl])
    have HP := Lib.hid (show putL ltS L k u = L.take r ++ [(k, u)] ++ L.drop r by unfold putL; rw [hl, HRK.out])
    rw [HB.out, HV.out]
    clear hl
    go_enter Tryz.func69, Tryz.ntmps69
    go_wp2_with fail
    refine (findsl _ v L k _ (.inl ⟨b, rfl, H.out⟩) (by omega)).mono ?_
    rintro e w1 ⟨rfl, hg⟩
    rw [HB.out, ← HRK.out]
    have H1 := Lib.hid (H.out.gr hg)
    have HG := Lib.hid hg
    have d1 := ((cellsOf H1.out.blk).1 1).trans (show _ = some v from rfl)
    clear hg c0
    go_wp2_with fail
    refine (Insertsl v L.length r (rowsl L) [.string (k), .slice (u).1 (u).2.1 (u).2.2] w1.heap.size _ (H1.out.own.gr (by (repeat (first | (with_reducible exact Gr.refl _) | assumption | (with_reducible apply Gr.from_drew) | (with_reducible apply Gr.alloc) | (with_reducible apply Gr.drew) | (with_reducible refine Gr.trans ?_ (by assumption)) | (with_reducible refine Gr.setCell ?_ (by omega) _))))) (row_onesl L) hr (by omega) (blkNew w1 _) rfl (by intro x hx; simp only [List.mem_cons, List.not_mem_nil, or_false] at hx; rcases hx with rfl | rfl <;> rfl) (fun e => by have := H1.out.own.lt e; omega)).mono ?_
    rintro e w2 ⟨g, cap, rfl, ho, hgw, hm⟩
    have HO := Lib.hid ho
    have HM := Lib.hid hm
    have HGW := Lib.hid hgw
    have hb1 : w2.heap[b]? = some (.cells #[.bool true, v] 133 (0, 0)) := hm.blk (blkOld H1.out.blk) (fun e => H1.out.ne e)
    have HB1 := Lib.hid hb1
    have e0 := ((cellsOf hb1).1 0).trans (show _ = some (Value.bool true) from rfl)
    have e1 := ((cellsOf hb1).1 1).trans (show _ = some v from rfl)
    have ef := (cellsOf hb1).2
    have hgb : g ≠ b := by
      have hbl := blkLt H1.out.blk
      rcases hgw with h | h
      · exact fun e => H1.out.ne (by rw [h, e])
      · simp only [World.size_alloc] at h; omega
    have HGB := Lib.hid hgb
    clear ho hm hgw hb1 d1 hgb
    go_wp2
    go_ret3
    refine ⟨rfl, .slice (some ⟨g, 0, none⟩) (L.length + 1) cap, ⟨blkSet (j := 1) (u := .slice (some ⟨g, 0, none⟩) (L.length + 1) cap) HB1.out, ?_, fun e => HGB.out (Option.some.inj e), HSRT.out⟩, fun g' hg' => ?_, ?_⟩
    · have e : rowsl (putL ltS L k u) = (rowsl L).take (r * 2) ++ [.string (k), .slice (u).1 (u).2.1 (u).2.2] ++ (rowsl L).drop (r * 2) := by
        rw [HP.out, row_appsl, row_appsl, row_takesl, row_dropsl]; rfl
      have el : (putL ltS L k u).length = L.length + 1 := by rw [HP.out]; simp; omega
      rw [e, el]
      exact HO.out.other (p := ⟨b, 1, none⟩) (fun h => HGB.out (Option.some.inj (show some g = some b from h))) _
    · obtain rfl : g = g' := Option.some.inj hg'
      exact HGW.out.imp (fun h => h) (fun h => Nat.le_trans HG.out.sz (by simp at h; omega))
    · exact (((HG.out.mdh _).alloc _).trans (HM.out.mono (fun q hq => .inr hq))).setCell (p := ⟨b, 1, none⟩) (.inl rfl) _
  | some u0 =>
    have HB := Lib.hid (show hasBsl L k = true by unfold hasBsl; rw [hl]; rfl)
    have HV := Lib.hid (show lookVsl L k = .slice (u0).1 (u0).2.1 (u0).2.2 by unfold lookVsl; rw [hl])
    have HP := Lib.hid (show putL ltS L k u = L.set r (k, u) by unfold putL; rw [hl, HRK.out])
    have hx : L[r]? = some (k, u0) := by rw [HRK.out]; exact look_some hl
    rw [HB.out, HV.out]
    obtain ⟨a, cap, rfl, hnc, hcm, hat⟩ := VWsl.at (.inl ⟨b, rfl, H.out⟩)
    obtain ⟨g, rfl, hgl, i0, i1⟩ := hat _ _ hx
    have hlt : r < L.length := (List.getElem?_eq_some_iff.1 hx).1
    have hlt' : (r : Int) < L.length := by omega
    unfold maxLen at hcm
    clear hl hat hgl
    go_enter Tryz.func69, Tryz.ntmps69
    go_wp2_with fail
    refine (findsl _ _ L k _ (.inl ⟨b, rfl, H.out⟩) (by omega)).mono ?_
    rintro e w1 ⟨rfl, hg⟩
    rw [HB.out, ← HRK.out]
    have H1 := Lib.hid (H.out.gr hg)
    have HG := Lib.hid hg
    have d1 := ((cellsOf H1.out.blk).1 1).trans (show _ = some (Value.slice (some ⟨g, 0, none⟩) L.length cap) from rfl)
    have j1 := hg.keep i1
    (try simp only at j1)
    obtain ⟨cur, hgc, _⟩ := H1.out.own.parts
    have jf := (cellsOf hgc).2
    have hgne : g ≠ b := fun e => H1.out.ne (by rw [e]; rfl)
    have HNE := Lib.hid hgne
    clear hg c0 i0 i1 hgc
    go_wp2
    go_region
    go_wp2
    go_ret3
    refine ⟨rfl, .slice (some ⟨g, 0, none⟩) L.length cap, ⟨blkSetO H1.out.blk (fun e => HNE.out e.symm), ?_, H1.out.ne, HSRT.out⟩, fun g' hg' => .inl hg', ?_⟩
    · have e : rowsl (putL ltS L k u) = (rowsl L).set (r * 2 + 1) (.slice (u).1 (u).2.1 (u).2.2) := by
        rw [HP.out]
        exact row_setsl L r k u0 u hx
      have el : (putL ltS L k u).length = L.length := by rw [HP.out]; simp
      rw [e, el]
      exact H1.out.own.set (by rw [row_lensl]; omega) _
    · exact ((HG.out.mdh _).setCell (p := ⟨g, r * 2 + 1, none⟩) (.inr rfl) _).drew

set_option maxRecDepth 40000 in
set_option maxHeartbeats 2000000 in
theorem DeleteOsl (b : Nat) (v : Value) (L : List Itsl) (k : ByteArray) (w : World) (h : OMsl w b v L) (hn : L.length ≤ 100000) :
    Calls Tryz.prog 76 #[.pointer (some ⟨b, 0, none⟩), .string (k)] w fun e w' => e = .returned (.tuple #[lookVsl L k, .bool (hasBsl L k)]) ∧ OMPostsl b v (delL ltS L k) w w' := by
  have H := Lib.hid h
  obtain ⟨r, hrd⟩ : ∃ r, r = rk ltS L k := ⟨_, rfl⟩
  have HRK := Lib.hid hrd
  have HSRT := Lib.hid (del_srt h.srt k)
  clear h hrd
  cases hl : look ltS L k with
  | none =>
    have HB := Lib.hid (show hasBsl L k = false by unfold hasBsl; rw [hl]; rfl)
    have HV := Lib.hid (show lookVsl L k = .slice none 0 0 by unfold lookVsl; rw [hl])
    have HP := Lib.hid (show delL ltS L k = L by unfold delL; rw [hl])
    clear hl
    rw [HB.out, HV.out]
    go_enter Tryz.func76, Tryz.ntmps76
    go_wp2_with fail
    refine (Getsl _ v L k _ (.inl ⟨b, rfl, H.out⟩) (by omega)).mono ?_
    rintro e w1 ⟨rfl, hg⟩
    rw [HB.out, HV.out]
    have H1 := Lib.hid (H.out.gr hg)
    go_wp2
    go_ret2
    exact ⟨rfl, v, by rw [HP.out]; exact H1.out, fun g hg => .inl hg, hg.mdh _⟩
  | some u0 =>
    have HB := Lib.hid (show hasBsl L k = true by unfold hasBsl; rw [hl]; rfl)
    have HV := Lib.hid (show lookVsl L k = .slice (u0).1 (u0).2.1 (u0).2.2 by unfold lookVsl; rw [hl])
    have HP := Lib.hid (show delL ltS L k = L.take r ++ L.drop (r + 1) by unfold delL; rw [hl, HRK.out])
    have hx : L[r]? = some (k, u0) := by rw [HRK.out]; exact look_some hl
    rw [HB.out, HV.out]
    obtain ⟨a, cap, rfl, hnc, hcm, hat⟩ := VWsl.at (.inl ⟨b, rfl, H.out⟩)
    obtain ⟨g, rfl, hgl, _, _⟩ := hat _ _ hx
    have hlt : r < L.length := (List.getElem?_eq_some_iff.1 hx).1
    have HLT := Lib.hid hlt
    have hlt' : (r : Int) < 100000 := by omega
    clear hl hat hgl hcm
    go_enter Tryz.func76, Tryz.ntmps76
    go_wp2_with fail
    refine (Getsl _ _ L k _ (.inl ⟨b, rfl, H.out⟩) (by omega)).mono ?_
    rintro e w1 ⟨rfl, hg⟩
    rw [HB.out, HV.out]
    have H1 := Lib.hid (H.out.gr hg)
    have HG := Lib.hid hg
    clear hg
    go_wp2_with fail
    refine (Ranksl _ _ L k _ (.inl ⟨b, rfl, H1.out⟩) (by omega)).mono ?_
    rintro e w2 ⟨rfl, hg⟩
    rw [← HRK.out]
    have H2 := Lib.hid (H1.out.gr hg)
    have HG2 := Lib.hid (HG.out.trans hg)
    have d1 := ((cellsOf H2.out.blk).1 1).trans (show _ = some (Value.slice (some ⟨g, 0, none⟩) L.length cap) from rfl)
    clear hg
    go_wp2_with fail
    refine (Deletesl g L.length cap r (rowsl L) _ H2.out.own (row_onesl L) HLT.out).mono ?_
    rintro e w3 ⟨rfl, ho, hm⟩
    have hgne : g ≠ b := fun e => H2.out.ne (by rw [e]; rfl)
    have hb3 := hm.blk H2.out.blk (fun e => hgne e.symm)
    have HO := Lib.hid ho
    have HM := Lib.hid hm
    have HB3 := Lib.hid hb3
    have HNE := Lib.hid hgne
    have e1 := ((cellsOf hb3).1 1).trans (show _ = some (Value.slice (some ⟨g, 0, none⟩) L.length cap) from rfl)
    have ef := (cellsOf hb3).2
    clear ho hm hb3 hgne d1
    go_wp2
    go_ret2
    refine ⟨rfl, .slice (some ⟨g, 0, none⟩) (L.length - 1) cap, ⟨blkSet (j := 1) (u := .slice (some ⟨g, 0, none⟩) (L.length - 1) cap) HB3.out, ?_, fun e => HNE.out (Option.some.inj e), HSRT.out⟩, fun g' hg' => .inl hg', ?_⟩
    · have e : rowsl (delL ltS L k) = (rowsl L).take (r * 2) ++ (rowsl L).drop ((r + 1) * 2) := by
        rw [HP.out, row_appsl, row_takesl, row_dropsl]
      have el : (delL ltS L k).length = L.length - 1 := by rw [HP.out]; have := HLT.out; simp; omega
      rw [e, el]
      exact HO.out.other (p := ⟨b, 1, none⟩) (fun h => HNE.out (Option.some.inj (show some g = some b from h))) _
    · exact ((HG2.out.mdh _).trans (HM.out.mono (fun q hq => .inr (by rw [hq]; rfl)))).setCell (p := ⟨b, 1, none⟩) (.inl rfl) _
end Go.Proofs.YtemjnppplmankaaGreat

/- A range over a function whose iterator writes blocks of its own: contract and law in footprints. -/
set_option linter.unusedVariables false
set_option linter.unusedSimpArgs false
namespace Go.Proofs.YtemjnppplmankaaGreat
open Go.RowKit
variable {F : Fence} {n : Nat} {P : Program}

/-- What is said of a world, but of the blocks Z. -/
def Apart {β : Type} (I : (Nat → Prop) → β → World → Prop) : Prop :=
  ∀ Z Z' s X Y, I Z s X → Mdh Z X Y → (∀ k, Z' k → Z k ∨ (X.heap.size ≤ k ∧ k < Y.heap.size)) → I Z' s Y

theorem Apart.and {β : Type} {I I' : (Nat → Prop) → β → World → Prop} (h : Apart I) (h' : Apart I') : Apart (fun Z s W => I Z s W ∧ I' Z s W) :=
  fun Z Z' s X Y hs hm hz => ⟨h Z Z' s X Y hs.1 hm hz, h' Z Z' s X Y hs.2 hm hz⟩
theorem Apart.pure {β : Type} (p : β → Prop) : Apart (fun _ s (_ : World) => p s) := fun _ _ _ _ _ hs _ _ => hs
theorem Apart.ex {β γ : Type} {I : γ → (Nat → Prop) → β → World → Prop} (h : ∀ c, Apart (I c)) : Apart (fun Z s W => ∃ c, I c Z s W) :=
  fun Z Z' s X Y ⟨c, hs⟩ hm hz => ⟨c, h c Z Z' s X Y hs hm hz⟩
/-- New blocks alone since w0, those of Z among them. -/
theorem Apart.since {β : Type} (w0 : World) : Apart (fun Z (_ : β) W => Gr w0 W ∧ ∀ k, Z k → w0.heap.size ≤ k) :=
  fun Z Z' _ X Y ⟨g, hk⟩ hm hz => ⟨Gr.md g hm hk, fun k h => (hz k h).elim (hk k) (fun y => Nat.le_trans g.sz y.1)⟩
/-- A block that is none of Z's. -/
theorem Apart.block {β : Type} (b : Nat) (o : β → Obj) : Apart (fun Z s W => W.heap[b]? = some (o s) ∧ ¬ Z b) :=
  fun Z Z' _ X Y ⟨h, hz⟩ hm hz' => ⟨hm.blk h hz, fun h' => (hz' b h').elim hz (fun y => by have := (Array.getElem?_eq_some_iff.1 h).1; omega)⟩
/-- All of Z is there. -/
theorem Apart.there {β : Type} : Apart (fun Z (_ : β) W => ∀ k, Z k → k < W.heap.size) := fun _ _ _ _ _ h hm hz k hk => (hz k hk).elim (fun y => Nat.lt_of_lt_of_le (h k y) hm.size) (fun y => y.2)

/-- An iterator. A: what it reads, and the rounds keep; Z: what is its own by then. -/
def SeqZ {α : Type} (F : Fence) (n : Nat) (P : Program) (g : Nat) (lb : Array Value) (encs : α → Array Value) (A : Nat → Prop) (S Sp : List α → Prop) (w : World) : Prop :=
  ∀ (l : Nat) (J Jx : (Nat → Prop) → List α → World → Prop) (W : World),
    Mdh (fun k => ¬ A k) w W → Apart J → Apart Jx →
    (∀ Z pre x X, J Z pre X → Sp (pre ++ [x]) → YieldAt F (n - 1) P l (encs x) X fun e Y =>
      (e = .returned (.bool true) ∧ J Z (pre ++ [x]) Y ∧ Mdh (fun k => ¬ A k ∧ ¬ Z k) X Y) ∨ (e = .returned (.bool false) ∧ Jx Z (pre ++ [x]) Y ∧ Mdh (fun k => ¬ Z k) X Y)) →
    J (fun _ => False) [] W →
    CallsIn F n P g (#[.func (.yield l) #[] #[]] ++ lb) W fun e W' => (∃ v, e = .returned v) ∧ ((∃ Z xs, S xs ∧ J Z xs W') ∨ (∃ Z pre, Sp pre ∧ Jx Z pre W'))

/-- How a round's body may be left. -/
def zPost {α : Type} (A Z : Nat → Prop) (I : (Nat → Prop) → List α → World → Prop) (Ix : Code → (Nat → Prop) → List α → World → Prop) (xs : List α) (W : World) : Exit → Act → World → Prop
  | .normal, _, W' => Mdh (fun k => ¬ A k ∧ ¬ Z k) W W' ∧ I Z xs W'
  | .ret, _, W' => Mdh (fun k => ¬ Z k) W W' ∧ Ix .ret Z xs W'
  | .exit id, _, W' => Mdh (fun k => ¬ Z k) W W' ∧ Ix (.exit id) Z xs W'
  | .goto t, _, W' => Mdh (fun k => ¬ Z k) W W' ∧ Ix (.goto t) Z xs W'
  | .panic _, _, _ => False
  | .outgrown, _, _ => False

theorem Mdh.putObj {S : Nat → Prop} {a b : World} (h : Mdh S a b) {l : Nat} (hl : S l) (o : Obj) : Mdh S a (b.putObj l o) :=
  Mdh.trans h (Mdh.mk (by simp) (fun k _ hn => World.putObj_heap_other (fun e => hn (by rw [e]; exact hl))) rfl rfl rfl)

theorem wpIn_rangeFunc_z {α : Type} {g : Operand} {ps : Array Tmp} {assign body : Code} {Q : Exit → Act → World → Prop} {a : Act} {w : World}
    (hro : F.round = none) (h1 : 1 ≤ n) {gf : Nat} {lb : Array Value} (hg : a.eval g = .func (.func gf) #[] lb) (hFg : F.fn gf) (eg : ∀ args w, (callFunc gf args).run P w = .ok (.enter gf args) w)
    {encs : α → Array Value} {A : Nat → Prop} {S Sp : List α → Prop} {w0 : World} (hseq : SeqZ F (n - 1) P gf lb encs A S Sp w0)
    (hw0 : Mdh (fun k => ¬ A k) w0 w) (hAlt : ∀ k, A k → k < w.heap.size) (hps : ∀ x, (encs x).size = ps.size)
    (I : (Nat → Prop) → List α → World → Prop) (Ix : Code → (Nat → Prop) → List α → World → Prop) (hI : Apart I) (hIx : ∀ c, Apart (Ix c)) (h0 : I (fun _ => False) [] w)
    (Ax : α → Act → (Nat → Prop) → World → Prop) (hAx : ∀ x a', Apart (fun Z (_ : Unit) W => Ax x a' Z W))
    (hassign : ∀ (l : Nat) (Z : Nat → Prop) (pre : List α) (x : α) (W : World) (K : Act → World → Prop), I Z pre W → (∀ a' W', Mdh (fun k => ¬ A k ∧ ¬ Z k) W W' → I Z pre W' → Ax x a' Z W' → K a' W') →
      assign.wpIn (F.inRound l) (n - 1 - 1) P (Exit.then K (fun _ _ _ => False)) { tmps := (ps.zip (encs x)).foldl (fun t (p, v) => t.setIfInBounds p v) a.tmps, defers := [] } W)
    (hbody : ∀ (l : Nat) (Z : Nat → Prop) (pre : List α) (x : α) (a' : Act) (W : World), Z l → (∃ r, W.heap[l]? = some (.loop r)) → I Z pre W → Ax x a' Z W → Sp (pre ++ [x]) →
      body.wpIn (F.inRound l) (n - 1 - 1) P (zPost A Z I Ix (pre ++ [x]) W) a' W)
    (hdone : ∀ (Z : Nat → Prop) (D : Nat) (xs : List α) (W : World), w.heap.size ≤ D → Z D → S xs → I Z xs W → W.heap[D]? = some (.deferred (some [])) → Q .normal { a with defers := { target := .collected D, args := #[] } :: a.defers } W)
    (hstop : ∀ (Z : Nat → Prop) (D : Nat) (c : Code) (pre : List α) (W : World), w.heap.size ≤ D → Z D → Sp pre → Ix c Z pre W → W.heap[D]? = some (.deferred (some [])) → c.wpIn F n P Q { a with defers := { target := .collected D, args := #[] } :: a.defers } W) :
    (Code.rangeFunc g ps assign body).wpIn F n P Q a w := by
  refine wpIn_rangeFunc ?_
  intro fn hfn
  rw [hro]
  obtain ⟨rec, hrec⟩ : ∃ rec : LoopState → Option Code → Loop, rec = fun st pe => { state := st, pending := pe, fn, tmps := a.tmps, params := ps, assign, body, defers := w.heap.size } := ⟨_, rfl⟩
  obtain ⟨W1, hW1⟩ : ∃ W1, (w.alloc (.deferred (some []))).alloc (.loop (rec .ready none)) = W1 := ⟨_, rfl⟩
  have hL1 : W1.heap[w.heap.size + 1]? = some (.loop (rec .ready none)) := by
    rw [← hW1]; have := World.alloc_heap_new (w.alloc (.deferred (some []))) (.loop (rec .ready none)); rwa [World.size_alloc] at this
  have hK1 : W1.heap[w.heap.size]? = some (.deferred (some [])) := by
    rw [← hW1]; exact (Below.heap_alloc _ _ _ (by simp)).trans (World.alloc_heap_new w _)
  have hgr : Gr w W1 := by rw [← hW1]; exact ((Gr.refl w).alloc _).alloc _
  -- the book-keeping's two blocks
  obtain ⟨B, hB⟩ : ∃ B : Nat → Prop, B = fun k => k = w.heap.size ∨ k = w.heap.size + 1 := ⟨_, rfl⟩
  have hBl : B (w.heap.size + 1) := by rw [hB]; exact .inr rfl
  have hBD : B w.heap.size := by rw [hB]; exact .inl rfl
  have hBA : ∀ k, B k → ¬ A k := fun k hk ha => by rw [hB] at hk; have := hAlt k ha; omega
  have hI1 : I (fun k => False ∨ B k) [] W1 := hI _ _ _ _ _ h0 (hgr.mdh _) (fun k hk => by
    rcases hk with hk | hk
    · exact hk.elim
    · rw [hB] at hk; right; have : w.heap.size + 1 < W1.heap.size := (Array.getElem?_eq_some_iff.1 hL1).1; omega)
  refine ⟨w.heap.size + 1, [{ target := .collected w.heap.size, args := #[] }], W1, { target := .fn (.func gf) lb, args := #[.func (.yield (w.heap.size + 1)) #[] #[]] }, W1, gf,
    #[.func (.yield (w.heap.size + 1)) #[] #[]] ++ lb, W1, ?_, ?_, ?_, ?_, fun _ => h1, ?_⟩
  · rw [← hW1, hrec]; exact run_enterLoop_outer _ _ _ _ _
  · simp only [resolve, hg]
    simp [go_sem]
  · intro f' hf'; simp [Target.leads] at hf'; subst hf'; exact hFg
  · simp [invoke, go_sem, eg]
  · have hsz : w.heap.size + 1 < W1.heap.size := (Array.getElem?_eq_some_iff.1 hL1).1
    refine (hseq (w.heap.size + 1)
      (fun Z pre W => I (fun k => Z k ∨ B k) pre W ∧ (W.heap[w.heap.size + 1]? = some (.loop (rec .ready none)) ∧ ¬ Z (w.heap.size + 1)) ∧ (W.heap[w.heap.size]? = some (.deferred (some [])) ∧ ¬ Z w.heap.size))
      (fun Z pre W => ∃ c, Ix c (fun k => Z k ∨ B k) pre W ∧ (W.heap[w.heap.size + 1]? = some (.loop (rec .done (some c))) ∧ ¬ Z (w.heap.size + 1)) ∧ (W.heap[w.heap.size]? = some (.deferred (some [])) ∧ ¬ Z w.heap.size))
      W1 (hw0.gr hgr)
      (fun Z Z' s X Y hs hm hz => ⟨hI _ _ s X Y hs.1 (hm.mono (fun k hk => .inl hk)) (fun k hk => hk.elim (fun h => (hz k h).elim (fun h => .inl (.inl h)) .inr) (fun h => .inl (.inr h))),
        Apart.block (β := Unit) _ (fun _ => .loop (rec .ready none)) Z Z' () X Y hs.2.1 hm hz, Apart.block (β := Unit) _ (fun _ => .deferred (some [])) Z Z' () X Y hs.2.2 hm hz⟩)
      (fun Z Z' s X Y hs hm hz => by
        obtain ⟨c, hc, hl, hk⟩ := hs
        exact ⟨c, hIx c _ _ s X Y hc (hm.mono (fun k hk => .inl hk)) (fun k hk => hk.elim (fun h => (hz k h).elim (fun h => .inl (.inl h)) .inr) (fun h => .inl (.inr h))),
          Apart.block (β := Unit) _ (fun _ => .loop (rec .done (some c))) Z Z' () X Y hl hm hz, Apart.block (β := Unit) _ (fun _ => .deferred (some [])) Z Z' () X Y hk hm hz⟩)
      ?_ ⟨hI1, ⟨hL1, fun h => h⟩, ⟨hK1, fun h => h⟩⟩).mono ?_
    · -- one round
      rintro Z pre x W ⟨hi, ⟨hl, hzl⟩, ⟨hk, hzk⟩⟩ hlen
      have hy := run_yield (P := P) (args := encs x) hl (by rw [hrec]; exact hps x)
      rw [hrec] at hy
      refine ⟨fn, _, assign, body, hy, roundIn_of_wpIn hfn (hassign _ (fun k => Z k ∨ B k) pre x W _ hi ?_)⟩
      clear hy
      intro a' Wa hma hia hax
      have hl' := hma.blk hl (fun h => h.2 (.inr hBl))
      have hk' := hma.blk hk (fun h => h.2 (.inr hBD))
      have hlt : w.heap.size + 1 < Wa.heap.size := (Array.getElem?_eq_some_iff.1 hl').1
      refine ⟨_, run_beginRound hl' (by rw [hrec]), ?_⟩
      have mB : ∀ (X : World) (o : Obj), Mdh (fun k => Z k ∨ B k) X (X.putObj (w.heap.size + 1) o) := fun X o => (Mdh.refl _ X).putObj (.inr hBl) o
      have mA : ∀ (X : World) (o : Obj), Mdh (fun k => ¬ A k ∧ ¬ Z k) X (X.putObj (w.heap.size + 1) o) := fun X o => (Mdh.refl _ X).putObj ⟨hBA _ hBl, hzl⟩ o
      have hl2 : (Wa.putObj (w.heap.size + 1) (.loop { rec .ready none with state := .busy })).heap[w.heap.size + 1]? = some (.loop { rec .ready none with state := .busy }) := World.putObj_heap_same hlt
      have hk2 : (Wa.putObj (w.heap.size + 1) (.loop { rec .ready none with state := .busy })).heap[w.heap.size]? = some (.deferred (some [])) := (World.putObj_heap_other (by omega)).trans hk'
      refine wpIn_mono (hbody _ (fun k => Z k ∨ B k) pre x a' _ (.inr hBl) ⟨_, hl2⟩ (hI _ _ _ _ _ hia (mB _ _) (fun k hk => .inl hk)) (hAx x a' _ _ () _ _ hax (mB _ _) (fun k hk => .inl hk)) hlen) ?_
      have fin : ∀ (jump : Option Code) (W3 : World), Mdh (fun k => ¬ (Z k ∨ B k)) (Wa.putObj (w.heap.size + 1) (.loop { rec .ready none with state := .busy })) W3 →
          (Instr.endRound (w.heap.size + 1) jump).run P W3 = .ok (.bool jump.isNone) (W3.putObj (w.heap.size + 1) (.loop (rec (if jump.isNone then .ready else .done) jump))) ∧
          (W3.putObj (w.heap.size + 1) (.loop (rec (if jump.isNone then .ready else .done) jump))).heap[w.heap.size + 1]? = some (.loop (rec (if jump.isNone then .ready else .done) jump)) ∧
          (W3.putObj (w.heap.size + 1) (.loop (rec (if jump.isNone then .ready else .done) jump))).heap[w.heap.size]? = some (.deferred (some [])) := fun jump W3 hm3 => by
        have hl3 := hm3.blk hl2 (fun h => h (.inr hBl))
        have hk3 := hm3.blk hk2 (fun h => h (.inr hBD))
        have := run_endRound (P := P) jump hl3
        rw [hrec] at this ⊢
        exact ⟨this, World.putObj_heap_same (Array.getElem?_eq_some_iff.1 hl3).1, (World.putObj_heap_other (by omega)).trans hk3⟩
      have outM : ∀ (W3 : World), Mdh (fun k => ¬ (Z k ∨ B k)) (Wa.putObj (w.heap.size + 1) (.loop { rec .ready none with state := .busy })) W3 → ∀ o : Obj, Mdh (fun k => ¬ Z k) W (W3.putObj (w.heap.size + 1) o) := fun W3 hm3 o =>
        (((hma.mono (fun k h hz => h.2 (.inl hz))).trans ((mA Wa _).mono (fun k h => h.2))).trans (hm3.mono (fun k h hz => h (.inl hz)))).trans ((mA W3 o).mono (fun k h => h.2))
      rintro e a3 W3 hp
      cases e with
      | normal =>
        obtain ⟨hm3, hi3⟩ := hp
        obtain ⟨hr, hl4, hk4⟩ := fin none W3 (hm3.mono (fun k h => h.2))
        refine ⟨_, _, hr, .inl ⟨rfl, ⟨hI _ _ _ _ _ hi3 (mB _ _) (fun k hk => .inl hk), ⟨hl4, hzl⟩, ⟨hk4, hzk⟩⟩, ?_⟩⟩
        have h1 : Mdh (fun k => ¬ A k ∧ ¬ Z k) W Wa := hma.mono (fun k h => ⟨h.1, fun hz => h.2 (.inl hz)⟩)
        have h2 : Mdh (fun k => ¬ A k ∧ ¬ Z k) (Wa.putObj (w.heap.size + 1) (.loop { rec .ready none with state := .busy })) W3 := hm3.mono (fun k h => ⟨h.1, fun hz => h.2 (.inl hz)⟩)
        exact ((h1.trans (mA _ _)).trans h2).trans (mA _ _)
      | ret =>
        obtain ⟨hm3, hi3⟩ := hp
        obtain ⟨hr, hl4, hk4⟩ := fin (some .ret) W3 hm3
        exact ⟨_, _, hr, .inr ⟨rfl, ⟨.ret, hIx _ _ _ _ _ _ hi3 (mB _ _) (fun k hk => .inl hk), ⟨hl4, hzl⟩, ⟨hk4, hzk⟩⟩, outM W3 hm3 _⟩⟩
      | exit id =>
        obtain ⟨hm3, hi3⟩ := hp
        obtain ⟨hr, hl4, hk4⟩ := fin (some (.exit id)) W3 hm3
        exact ⟨_, _, hr, .inr ⟨rfl, ⟨.exit id, hIx _ _ _ _ _ _ hi3 (mB _ _) (fun k hk => .inl hk), ⟨hl4, hzl⟩, ⟨hk4, hzk⟩⟩, outM W3 hm3 _⟩⟩
      | goto t =>
        obtain ⟨hm3, hi3⟩ := hp
        obtain ⟨hr, hl4, hk4⟩ := fin (some (.goto t)) W3 hm3
        exact ⟨_, _, hr, .inr ⟨rfl, ⟨.goto t, hIx _ _ _ _ _ _ hi3 (mB _ _) (fun k hk => .inl hk), ⟨hl4, hzl⟩, ⟨hk4, hzk⟩⟩, outM W3 hm3 _⟩⟩
      | panic ch => exact hp.elim
      | outgrown => exact hp.elim
    · -- behind the iterator
      have mB : ∀ (Z : Nat → Prop) (X : World) (o : Obj), Mdh (fun k => Z k ∨ B k) X (X.putObj (w.heap.size + 1) o) := fun Z X o => (Mdh.refl _ X).putObj (.inr hBl) o
      rintro e W2 ⟨⟨v, rfl⟩, (⟨Z, xs, hS, hi, ⟨hl, _⟩, ⟨hk, _⟩⟩ | ⟨Z, pre, hSp, c, hi, ⟨hl, _⟩, ⟨hk, _⟩⟩)⟩
      · exact ⟨none, _, by have := run_endLoop (P := P) hl (by rw [hrec]; simp); rw [hrec] at this; exact this, hdone (fun k => Z k ∨ B k) _ xs _ (Nat.le_refl _) (.inr hBD) hS (hI _ _ _ _ _ hi (mB _ _ _) (fun k hk => .inl hk)) ((World.putObj_heap_other (by omega)).trans hk)⟩
      · exact ⟨some c, _, by have := run_endLoop (P := P) hl (by rw [hrec]; simp); rw [hrec] at this; exact this, hstop (fun k => Z k ∨ B k) _ c pre _ (Nat.le_refl _) (.inr hBD) hSp (hIx c _ _ _ _ _ hi (mB _ _ _) (fun k hk => .inl hk)) ((World.putObj_heap_other (by omega)).trans hk)⟩

/-- The same in a plain walk, where the assignment lays no block. -/
theorem wp_rangeFunc_z {α : Type} {g : Operand} {ps : Array Tmp} {assign body : Code} {Q : Exit → Act → World → Prop} {a : Act} {w : World}
    {gf : Nat} {lb : Array Value} (hg : a.eval g = .func (.func gf) #[] lb) (eg : ∀ args w, (callFunc gf args).run P w = .ok (.enter gf args) w)
    {encs : α → Array Value} {A : Nat → Prop} {S Sp : List α → Prop} {w0 : World} (hseq : SeqZ Fence.wide 2 P gf lb encs A S Sp w0)
    (hw0 : Mdh (fun k => ¬ A k) w0 w) (hAlt : ∀ k, A k → k < w.heap.size) (hps : ∀ x, (encs x).size = ps.size)
    (I : (Nat → Prop) → List α → World → Prop) (Ix : Code → (Nat → Prop) → List α → World → Prop) (hI : Apart I) (hIx : ∀ c, Apart (Ix c)) (h0 : I (fun _ => False) [] w) (a₁ : α → Act)
    (hassign : ∀ (l : Nat) (x : α) (W : World) (K : Act → World → Prop), K (a₁ x) W →
      assign.wpIn (Fence.wide.inRound l) 1 P (Exit.then K (fun _ _ _ => False)) { tmps := (ps.zip (encs x)).foldl (fun t (p, v) => t.setIfInBounds p v) a.tmps, defers := [] } W)
    (hbody : ∀ (l : Nat) (Z : Nat → Prop) (pre : List α) (x : α) (W : World), I Z pre W → Sp (pre ++ [x]) → body.wpIn (Fence.wide.inRound l) 1 P (zPost A Z I Ix (pre ++ [x]) W) (a₁ x) W)
    (hdone : ∀ (Z : Nat → Prop) (D : Nat) (xs : List α) (W : World), w.heap.size ≤ D → Z D → S xs → I Z xs W → W.heap[D]? = some (.deferred (some [])) → Q .normal { a with defers := { target := .collected D, args := #[] } :: a.defers } W)
    (hstop : ∀ (Z : Nat → Prop) (D : Nat) (c : Code) (pre : List α) (W : World), w.heap.size ≤ D → Z D → Sp pre → Ix c Z pre W → W.heap[D]? = some (.deferred (some [])) → c.wp P Q { a with defers := { target := .collected D, args := #[] } :: a.defers } W) :
    (Code.rangeFunc g ps assign body).wp P Q a w :=
  wpIn_wide.1 (wpIn_rangeFunc_z (F := Fence.wide) (n := 3) rfl (by omega) hg trivial eg hseq hw0 hAlt hps I Ix hI hIx h0 (fun x a' _ _ => a' = a₁ x) (fun _ _ _ _ _ _ _ h _ _ => h)
    (fun l _ pre x W K hi hK => hassign l x W K (hK _ W (Mdh.refl _ _) hi rfl))
    (fun l Z pre x a' W _ _ hi ha hlen => by subst ha; exact hbody l Z pre x W hi hlen)
    hdone (fun Z D c pre W h1 h2 h3 h4 h5 => wpIn_wide.2 (hstop Z D c pre W h1 h2 h3 h4 h5)))

/-- The jumps out of a loop in block id. -/
def jmp {α : Type} (id : Nat) (Ie Ir : (Nat → Prop) → List α → World → Prop) : Code → (Nat → Prop) → List α → World → Prop
  | .exit i, Z, s, W => i = id ∧ Ie Z s W
  | .ret, Z, s, W => Ir Z s W
  | _, _, _, _ => False
theorem jmp_apart {α : Type} {id : Nat} {Ie Ir : (Nat → Prop) → List α → World → Prop} (h : Apart Ie) (h' : Apart Ir) (c : Code) : Apart (jmp id Ie Ir c) := by
  intro Z Z' s X Y hs hm hz
  unfold jmp at hs ⊢
  split at hs
  · exact ⟨hs.1, h Z Z' s X Y hs.2 hm hz⟩
  · exact h' Z Z' s X Y hs hm hz
  · exact hs.elim
/-- Where the loop is a block's last: a break ends like the loop's own end. -/
theorem wp_rangeFunc_zb {α : Type} {id : Nat} {g : Operand} {ps : Array Tmp} {assign body : Code} {Q : Exit → Act → World → Prop} {a : Act} {w : World}
    {gf : Nat} {lb : Array Value} (hg : a.eval g = .func (.func gf) #[] lb) (eg : ∀ args w, (callFunc gf args).run P w = .ok (.enter gf args) w)
    {encs : α → Array Value} {A : Nat → Prop} {S Sp : List α → Prop} {w0 : World} (hseq : SeqZ Fence.wide 2 P gf lb encs A S Sp w0)
    (hw0 : Mdh (fun k => ¬ A k) w0 w) (hAlt : ∀ k, A k → k < w.heap.size) (hps : ∀ x, (encs x).size = ps.size)
    (I Ie Ir : (Nat → Prop) → List α → World → Prop) (hI : Apart I) (hIe : Apart Ie) (hIr : Apart Ir) (h0 : I (fun _ => False) [] w) (a₁ : α → Act)
    (hassign : ∀ (l : Nat) (x : α) (W : World) (K : Act → World → Prop), K (a₁ x) W →
      assign.wpIn (Fence.wide.inRound l) 1 P (Exit.then K (fun _ _ _ => False)) { tmps := (ps.zip (encs x)).foldl (fun t (p, v) => t.setIfInBounds p v) a.tmps, defers := [] } W)
    (hbody : ∀ (l : Nat) (Z : Nat → Prop) (pre : List α) (x : α) (W : World), I Z pre W → Sp (pre ++ [x]) → body.wpIn (Fence.wide.inRound l) 1 P (zPost A Z I (jmp id Ie Ir) (pre ++ [x]) W) (a₁ x) W)
    (hend : ∀ (Z : Nat → Prop) (D : Nat) (xs : List α) (W : World), w.heap.size ≤ D → Z D → ((S xs ∧ I Z xs W) ∨ (Sp xs ∧ Ie Z xs W)) → W.heap[D]? = some (.deferred (some [])) → Q .normal { a with defers := { target := .collected D, args := #[] } :: a.defers } W)
    (hret : ∀ (Z : Nat → Prop) (D : Nat) (pre : List α) (W : World), w.heap.size ≤ D → Z D → Sp pre → Ir Z pre W → W.heap[D]? = some (.deferred (some [])) → Q .ret { a with defers := { target := .collected D, args := #[] } :: a.defers } W) :
    (Code.rangeFunc g ps assign body).wp P (Exit.inBlock id Q) a w := by
  refine wp_rangeFunc_z hg eg hseq hw0 hAlt hps I (jmp id Ie Ir) hI (jmp_apart hIe hIr) h0 a₁ hassign hbody (fun Z D xs W h1 h2 h3 h4 h5 => hend Z D xs W h1 h2 (.inl ⟨h3, h4⟩) h5) ?_
  intro Z D c pre W h1 h2 h3 h4 h5
  unfold jmp at h4
  split at h4
  · obtain ⟨rfl, h4⟩ := h4
    refine wp_exit ?_
    show (if _ then _ else _)
    rw [if_pos rfl]
    exact hend Z D pre W h1 h2 (.inr ⟨h3, h4⟩) h5
  · exact wp_ret (hret Z D pre W h1 h2 h3 h4 h5)
  · exact h4.elim
theorem apart_no {α : Type} : Apart (fun (_ : Nat → Prop) (_ : α) (_ : World) => False) := fun _ _ _ _ _ h _ _ => h

/-- What a loop has left: below its start T alone has turned; Z is new and there. -/
structure Frm (w0 : World) (T Z : Nat → Prop) (W : World) : Prop where
  m : Mdh T w0 W
  n : ∀ k, Z k → w0.heap.size ≤ k
  t : ∀ k, Z k → k < W.heap.size
theorem Frm.refl (w : World) (T : Nat → Prop) : Frm w T (fun _ => False) w := ⟨Mdh.refl _ _, fun _ h => h.elim, fun _ h => h.elim⟩
theorem Frm.apart {β : Type} (w0 : World) (T : Nat → Prop) : Apart (fun Z (_ : β) W => Frm w0 T Z W) := fun Z Z' _ X Y h hm hz =>
  ⟨h.m.then hm (fun k hk => .inr (h.n k hk)), fun k hk => (hz k hk).elim (h.n k) (fun y => Nat.le_trans h.m.size y.1), fun k hk => (hz k hk).elim (fun y => Nat.lt_of_lt_of_le (h.t k y) hm.size) (fun y => y.2)⟩
/-- A round's own step. -/
theorem Frm.step {w0 W W' : World} {T Z S : Nat → Prop} (h : Frm w0 T Z W) (m : Mdh S W W') (hs : ∀ k, S k → T k ∨ w0.heap.size ≤ k) : Frm w0 T Z W' :=
  ⟨h.m.then m hs, h.n, fun k hk => Nat.lt_of_lt_of_le (h.t k hk) m.size⟩

/-! ### The return of a function that holds such loops -/
section
variable {fn : Func} {R : Ending → World → Prop} {a : Act} {w : World} {v : Value}
theorem retM0 (hr : (results fn a.tmps).run P w = .ok v w) (hd : a.defers = []) (hR : R (.returned v) w) : bodyPostM Fence.wide 3 P fn R .ret a w := by
  show LeavesInM _ _ _ _ _ _ _ _ _
  rw [hd]
  exact ⟨v, hr, hR⟩
theorem retM1 {D : Nat} (hd : a.defers = [{ target := .collected D, args := #[] }]) (hk : w.heap[D]? = some (.deferred (some []))) (hr : (results fn a.tmps).run P (w.putObj D (.deferred none)) = .ok v (w.putObj D (.deferred none)))
    (hR : R (.returned v) (w.putObj D (.deferred none))) : bodyPostM Fence.wide 3 P fn R .ret a w := by
  show LeavesInM _ _ _ _ _ _ _ _ _
  rw [hd]
  exact ⟨by simp, .inl ⟨_, _, rfl, run_takeDeferred hk, v, hr, hR⟩⟩
theorem retM2 {D E : Nat} (hd : a.defers = [{ target := .collected E, args := #[] }, { target := .collected D, args := #[] }]) (hne : D ≠ E) (he : w.heap[E]? = some (.deferred (some []))) (hk : w.heap[D]? = some (.deferred (some [])))
    (hr : (results fn a.tmps).run P ((w.putObj E (.deferred none)).putObj D (.deferred none)) = .ok v ((w.putObj E (.deferred none)).putObj D (.deferred none)))
    (hR : R (.returned v) ((w.putObj E (.deferred none)).putObj D (.deferred none))) : bodyPostM Fence.wide 3 P fn R .ret a w := by
  show LeavesInM _ _ _ _ _ _ _ _ _
  rw [hd]
  exact ⟨by simp, .inl ⟨_, _, rfl, run_takeDeferred he, by simp, .inl ⟨_, _, rfl, run_takeDeferred ((World.putObj_heap_other hne).trans hk), v, hr, hR⟩⟩⟩
theorem Gr.putObj {w0 : World} (h : Gr w0 w) {D : Nat} (hD : w0.heap.size ≤ D) (o : Obj) : Gr w0 (w.putObj D o) :=
  Gr.md h (Mdh.putObj (S := fun k => k = D) (Mdh.refl _ w) rfl o) (fun k hk => by omega)
end

/-- A contract from a body that holds such loops. -/
theorem calls_of_wp_marks {f : FuncId} {fn : Func} {c : Code} {args : Array Value} {w : World} {R : Ending → World → Prop}
    (hf : P.funcs[f]? = some fn) (hb : fn.body = some c)
    (h : c.wp P (bodyPostM Fence.wide 3 P fn R) { tmps := args ++ Array.replicate (fn.ntmps - args.size) undef, defers := [] } w) : Calls P f args w R :=
  callsIn_wide.1 (callsIn_of_wp_marks (F := Fence.wide) (n := 3) hf hb trivial (wpIn_wide.2 h) rfl)
end Go.Proofs.YtemjnppplmankaaGreat

/- What the iterators of all map types share. -/
set_option linter.unusedVariables false
set_option linter.unusedSimpArgs false
namespace Go.Proofs.YtemjnppplmankaaGreat
open Go.RowKit

theorem room_none {F : Fence} (hd : F.depth = none) (k : Nat) : F.room k := fun d h => by rw [hd] at h; cases h
/-- Where no depth is asked the figures are all one. -/
theorem yield_any {m : Nat} (m' : Nat) {P : Program} {l : Nat} {args : Array Value} {W : World} {R : Ending → World → Prop} (h : YieldAt Fence.wide m P l args W R) : YieldAt Fence.wide m' P l args W R := by
  obtain ⟨fn, tmps, assign, body, hy, hR⟩ := h
  exact ⟨fn, tmps, assign, body, hy, hR.1, fun c cs _ => hR.2 c cs (room_none rfl _)⟩
def SinPost {α : Type} (D : List α) (J Jx : (Nat → Prop) → List α → World → Prop) (e : Ending) (W' : World) : Prop := (∃ u, e = .returned u) ∧ ((∃ Z xs, xs = D ∧ J Z xs W') ∨ (∃ Z pre, pre <+: D ∧ Jx Z pre W'))
/-- The blocks of a map. -/
def OMB (p : Option Addr) (v : Value) : Nat → Prop := fun k => (∃ a, p = some a ∧ k = a.block) ∨ v.ownBlock = some k
end Go.Proofs.YtemjnppplmankaaGreat

/- The iterators of an ordered map, at keys string and values drumlin/index.list. Written from YOmd.base by inst.py. -/
set_option linter.unusedVariables false
set_option linter.unusedSimpArgs false
namespace Go.Proofs.YtemjnppplmankaaGreat
open Go.RowKit Go.Shelf
attribute [local go_sem] OvM cell_ovm obj_ovm
attribute [local go_sem] Oper.semAt_some

def encOsl (x : Itsl) : Array Value := #[.string (x.1), .slice (x.2).1 (x.2).2.1 (x.2).2.2]
theorem VWsl.mdh {F : Nat → Prop} {w w' : World} {p : Option Addr} {v : Value} {L : List Itsl} (h : VWsl w p v L) (g : Mdh F w w') (hf : ∀ k, OMB p v k → ¬ F k) : VWsl w' p v L := by
  rcases h with ⟨b, rfl, h⟩ | ⟨h1 | ⟨b, rfl, h1⟩, h2, h3⟩
  · exact .inl ⟨b, rfl, h.mdh g (fun k hk => hf k (hk.elim (fun e => .inl ⟨_, rfl, e⟩) .inr))⟩
  · exact .inr ⟨.inl h1, h2, h3⟩
  · exact .inr ⟨.inr ⟨b, rfl, g.blk h1 (hf b (.inl ⟨_, rfl, rfl⟩))⟩, h2, h3⟩
theorem VWsl.lt {w : World} {p : Option Addr} {v : Value} {L : List Itsl} (h : VWsl w p v L) : ∀ k, OMB p v k → k < w.heap.size := by
  rintro k (⟨a, e, rfl⟩ | hk)
  · rcases h with ⟨b, rfl, h⟩ | ⟨rfl | ⟨b, rfl, h⟩, _⟩
    · obtain rfl := Option.some.inj e; exact blkLt h.blk
    · cases e
    · obtain rfl := Option.some.inj e; exact blkLt h
  · exact h.own.lt hk

set_option maxRecDepth 40000 in
set_option maxHeartbeats 4000000 in
/-- The items from an index on, one by one. -/
theorem sincesl (p : Option Addr) (v : Value) (L : List Itsl) (i : Nat) (hi : i ≤ L.length) (hn : L.length ≤ 1000000) (w : World) (h : VWsl w p v L) (A : Nat → Prop) (hA : ∀ k, OMB p v k → A k)
    (l : Nat) (J Jx : (Nat → Prop) → List Itsl → World → Prop) (W : World) (hW : Mdh (fun k => ¬ A k) w W) (hJ : Apart J) (hJx : Apart Jx)
    (hY : ∀ Z pre x X, J Z pre X → (pre ++ [x]) <+: L.drop i → YieldAt Fence.wide 1 Tryz.prog l (encOsl x) X fun e Y =>
      (e = .returned (.bool true) ∧ J Z (pre ++ [x]) Y ∧ Mdh (fun k => ¬ A k ∧ ¬ Z k) X Y) ∨ (e = .returned (.bool false) ∧ Jx Z (pre ++ [x]) Y ∧ Mdh (fun k => ¬ Z k) X Y))
    (h0 : J (fun _ => False) [] W) :
    CallsIn Fence.wide 1 Tryz.prog 154 #[.pointer p, .int .i64 i, .func (.yield l) #[] #[]] W (SinPost (L.drop i) J Jx) := by
  have HV := Lib.hid (h.mdh hW (fun k hk hn => hn (hA k hk)))
  obtain ⟨a, cap, rfl, hnc, hcm, hat⟩ := HV.out.at
  have HAT := Lib.hid hat
  unfold maxLen at hcm
  have hi' : (i : Int) ≤ L.length := by omega
  clear h hW hat
  refine callsIn_of_wp Tryz.func154 rfl trivial ?_ rfl
  simp only [Tryz.ntmps154, List.size_toArray, List.length_cons, List.length_nil, Nat.reduceAdd, Nat.reduceSub, Array.replicate_succ, Array.replicate_zero, List.push_toArray, List.append_toArray, List.nil_append, List.cons_append]
  gi_wp2_with fail
  refine ⟨trivial, (callsIn_wide.2 (itemssl p _ L _ HV.out)).mono ?_⟩
  rintro e W2 ⟨rfl, rfl⟩
  by_cases hiL : i < L.length
  · obtain ⟨g, rfl, hg0, _, _⟩ := HAT.out i _ (List.getElem?_eq_getElem hiL)
    have hAg : A g := hA g (.inr rfl)
    have hcap : ¬ cap = i := by omega
    clear hg0
    gi_wp2_with fail
    gi_loopg [13] (L.length - i) (fun gk t13 wx => ∃ (j : Nat) (pre : List Itsl), t13 = .int .i64 j ∧ J (fun _ => False) pre wx ∧ Hid (Mdh (fun k => ¬ A k) W wx ∧ pre = (L.drop i).take j ∧ j + gk = L.length - i))
    case atStart => exact ⟨0, [], rfl, h0, Lib.hid ⟨Mdh.refl _ _, by simp, by omega⟩⟩
    case round =>
      obtain ⟨j, pre, rfl, hJp, H⟩ := hrel
      clear h0
      by_cases hlt : j < L.length - i
      · have hij : i + j < L.length := by omega
        have hlt' : (j : Int) < ((L.length - i : Nat) : Int) := by omega
        have hx : L[i + j]? = some (L[i + j]'hij) := List.getElem?_eq_getElem hij
        obtain ⟨g', he, _, c0, c1⟩ := HAT.out (i + j) _ hx
        obtain rfl : g = g' := by simpa using he
        have d0 := H.out.1.keep c0 (fun hn => hn hAg)
        have d1 := H.out.1.keep c1 (fun hn => hn hAg)
        rw [show (i + j) * 2 = i * 2 + j * 2 by omega] at d0 d1
        have HPRE : Hid (pre ++ [L[i + j]'hij] <+: L.drop i) := Lib.hid (by
          rw [H.out.2.1]
          have e : (L.drop i).take (j + 1) = (L.drop i).take j ++ [L[i + j]'hij] := by
            rw [List.take_add_one, List.getElem?_drop, hx]; rfl
          rw [← e]
          exact List.take_prefix _ _)
        have HTK : Hid (pre ++ [L[i + j]'hij] = (L.drop i).take (j + 1)) := Lib.hid (by
          rw [H.out.2.1, List.take_add_one, List.getElem?_drop, hx]; rfl)
        generalize L[i + j]'hij = x at *
        obtain ⟨x1, x2⟩ := x
        simp only at d0 d1
        have hJ4 : J (fun _ => False) pre (wr.alloc (.cells #[.string (x1), .slice (x2).1 (x2).2.1 (x2).2.2] 162)) := hJ _ _ _ _ _ hJp ((Mdh.refl _ wr).alloc _) (fun k hk => .inl hk)
        obtain ⟨fn, tmps, assign, body, hy, hR⟩ := yield_any 0 (hY _ pre (x1, x2) _ hJ4 HPRE.out)
        have HM4 := Lib.hid (H.out.1.trans ((Mdh.refl (fun k => ¬ A k) wr).alloc (.cells #[.string (x1), .slice (x2).1 (x2).2.1 (x2).2.2] 162)))
        simp only [encOsl] at hy
        clear hx c0 c1 he hJp hij
        gi_wp2_with fail
        refine hR.mono ?_
        rintro e W5 (⟨rfl, hJ5, hm5⟩ | ⟨rfl, hJx5, _⟩)
        · have HM5 := Lib.hid (HM4.out.trans (hm5.mono (fun k hk => hk.1)))
          clear hm5 hR hy
          gi_wp2_with fail
          go_roundg (gk - 1)
          case rel => exact ⟨j + 1, _, by go_num, hJ5, Lib.hid ⟨HM5.out, HTK.out, by have := H.out.2.2; omega⟩⟩
          case measure => have := H.out.2.2; omega
        · gi_wp2_with fail
          refine bodyPost_ret (results_none rfl _ _ _) rfl ?_
          exact ⟨⟨_, rfl⟩, .inr ⟨_, _, HPRE.out, hJx5⟩⟩
      · have hlt' : ¬ (j : Int) < ((L.length - i : Nat) : Int) := by omega
        gi_wp2_with fail
        go_end0
        exact ⟨⟨_, rfl⟩, .inl ⟨_, pre, by rw [H.out.2.1, List.take_of_length_le (by rw [List.length_drop]; omega)], hJp⟩⟩
  · obtain rfl : i = L.length := by omega
    have HE : Hid (([] : List Itsl) = L.drop L.length) := Lib.hid (by rw [List.drop_length])
    rcases a with _ | a
    all_goals
      gi_wp2_with fail
      all_goals
        gi_loopg [13] 0 (fun gk t13 wx => t13 = .int .i64 0 ∧ wx = W)
        case atStart => exact ⟨rfl, rfl⟩
        case round =>
          obtain ⟨rfl, rfl⟩ := hrel
          gi_wp2_with fail
          go_end0
          exact ⟨⟨_, rfl⟩, .inl ⟨_, [], by first | exact HE.out | rfl, h0⟩⟩

set_option maxRecDepth 40000 in
theorem AllOsl (p : Option Addr) (w : World) :
    Calls Tryz.prog 141 #[.pointer p] w fun e w' => ∃ bb, e = .returned (.func (.func 153) #[] #[.pointer (some ⟨bb, 0, none⟩)]) ∧ w'.cell? ⟨bb, 0, none⟩ = some (.pointer p) ∧ w.heap.size ≤ bb ∧ Gr w w' := by
  go_enter Tryz.func141, Tryz.ntmps141
  go_wp2
  go_ret
  exact ⟨_, rfl, by simp [go_sem], Nat.le_refl _, by (repeat (first | (with_reducible exact Gr.refl _) | assumption | (with_reducible apply Gr.from_drew) | (with_reducible apply Gr.alloc) | (with_reducible apply Gr.drew) | (with_reducible refine Gr.trans ?_ (by assumption)) | (with_reducible refine Gr.setCell ?_ (by omega) _)))⟩
set_option maxRecDepth 40000 in
set_option maxHeartbeats 2000000 in
theorem SeqAsl (p : Option Addr) (v : Value) (L : List Itsl) (hn : L.length ≤ 1000000) (bb : Nat) (w : World) (h : VWsl w p v L) (hbb : w.cell? ⟨bb, 0, none⟩ = some (.pointer p)) :
    SeqZ Fence.wide 2 Tryz.prog 153 #[.pointer (some ⟨bb, 0, none⟩)] encOsl (fun k => k = bb ∨ OMB p v k) (fun xs => xs = L) (fun pre => pre <+: L) w := by
  intro l J Jx W hW hJ hJx hY h0
  have hbW : W.cell? ⟨bb, 0, none⟩ = some (.pointer p) := hW.keep hbb (fun h => h (.inl rfl))
  have HS := Lib.hid (sincesl p v L 0 (Nat.zero_le _) hn w h (fun k => k = bb ∨ OMB p v k) (fun k hk => .inr hk) l J Jx W hW hJ hJx (by rw [List.drop_zero]; exact hY) h0)
  refine callsIn_of_wp Tryz.func153 rfl trivial ?_ rfl
  simp only [Tryz.ntmps153, List.size_toArray, List.length_cons, List.length_nil, Nat.reduceAdd, Nat.reduceSub, Array.replicate_succ, Array.replicate_zero, List.push_toArray, List.append_toArray, List.nil_append, List.cons_append]
  clear hY h0 hW
  gi_wp2_with fail
  refine ⟨trivial, CallsIn.mono HS.out ?_⟩
  rintro e W2 ⟨⟨u, rfl⟩, hc⟩
  gi_wp2_with fail
  go_end0
  refine ⟨⟨_, rfl⟩, ?_⟩
  rw [List.drop_zero] at hc
  exact hc
end Go.Proofs.YtemjnppplmankaaGreat

/- Contract of slices.Insert of one element, at drumlin/api.Entry. Written from YIns.base by inst.py. -/
set_option linter.unusedVariables false
set_option linter.unusedSimpArgs false
namespace Go.Proofs.YtemjnppplmankaaGreat
open Go.RowKit
attribute [local go_sem] OvM cell_ovm obj_ovm

theorem infoIten : (Tryz.prog.info? 89).map (fun i => (i.zero, i.size, i.bytes)) = some (some (.agg #[.int .i64 0, .string ⟨#[]⟩, .bool false, .int .i64 0, .int .i64 0, .int .i64 0]), 6, 56) := by kernel_rfl
theorem sizeIten (w : World) : (Go.sizeOf 89).run Tryz.prog w = .ok 6 w := by kernel_rfl
theorem ovlIten (w : World) (g vb o lb cb : Nat) (cur ys : Array Value) (hg : w.heap[g]? = some (.cells cur 89 (0, 0))) (hv : w.heap[vb]? = some (.cells ys 89 (0, 0))) (hne : vb ≠ g) (hs : cur.size ≠ 0) :
    (callFunc 107 #[.slice (some ⟨vb, 0, none⟩) 1 1, .slice (some ⟨g, o, none⟩) lb cb]).run Tryz.prog w = .ok (.value (.bool false)) w := by
  rw [run_callFunc_extern Tryz.func107 (by kernel_rfl) (by kernel_rfl) (by kernel_rfl) (e := Extern.SlicesOverlaps.overlaps #[37, 37] #[4]) (by kernel_rfl),
    Lib.run_overlaps_apart w 37 4 89 Tryz.underlying37 6 sizeIten ⟨vb, 0, none⟩ ⟨g, o, none⟩ 1 1 lb cb hne 89 89 ys.size cur.size (by simp [World.shape?, hv]) (by simp [World.shape?, hg]) hs ((cellsOf hv).2 _) ((cellsOf hv).2 _)]
  rfl

set_option maxRecDepth 40000 in
set_option maxHeartbeats 4000000 in
theorem Insert_shiften (g n cap i : Nat) (xs ys : List Value) (vb : Nat) (w : World) (hown : Own w 89 6 (.slice (some ⟨g, 0, none⟩) n cap) n xs) (h1 : ∀ u ∈ xs, u.oneCell' = true) (hi : i < n) (hroom : n + 1 ≤ cap)
    (hvb : w.heap[vb]? = some (.cells ys.toArray 89 (0, 0))) (hy : ys.length = 6) (hy1 : ∀ u ∈ ys, u.oneCell' = true) (hne : vb ≠ g) :
    Calls Tryz.prog 66 #[.slice (some ⟨g, 0, none⟩) n cap, .int .i64 i, .slice (some ⟨vb, 0, none⟩) 1 1] w (InsPost 6 89 (.slice (some ⟨g, 0, none⟩) n cap) n i xs ys w) := by
  obtain ⟨cur, hg, hnc, hcm, hcs, htk⟩ := hown.parts
  have hsz : (Tryz.prog.info? 89).map (·.size) = some 6 := by kernel_rfl
  have hx : xs.length = n * 6 := hown.1
  have hb2 : ¬ cap = i + 1 := by omega
  have hb4 : ¬ cap = i := by omega
  have hin : i ≤ n := by omega
  have hi1 : (i : Int) + 1 ≤ (n : Int) + 1 := by omega
  have hieq : ¬ (i : Int) = n := by omega
  have hroom' : ¬ (cap : Int) < (n : Int) + 1 := by omega
  unfold maxLen at hcm
  have hsrc : ∀ (w1 : World), w1.heap[g]? = some (.cells cur 89 (0, 0)) → ∀ j v, (xs.drop (i * 6))[j]? = some v → w1.cell? ((⟨g, i * 6, none⟩ : Addr).add j) = some v := fun w1 hw1 j v hj => by
    rw [show (⟨g, i * 6, none⟩ : Addr).add j = ⟨g, i * 6 + j, none⟩ by unfold Addr.add; split <;> simp_all, (cellsOf hw1).1]
    rw [List.getElem?_drop, ← htk, List.getElem?_take] at hj
    split at hj
    · simpa using hj
    · cases hj
  have HCUR : Hid (cur.size = cap * 6 ∧ cur.toList.take (n * 6) = xs ∧ xs.length = n * 6) := Lib.hid ⟨hcs, htk, hx⟩
  have hdl : (xs.drop (i * 6)).length = (n - i) * 6 := by rw [List.length_drop, hx]; omega
  have hcp1 := fun (w1 : World) (hw1 : w1.heap[g]? = some (.cells cur 89 (0, 0))) dc sc => run_copyK (P := Tryz.prog) w1 85 85 3 89 6 g ((i + 1) * 6) (n - i) dc ⟨g, i * 6, none⟩ (n + 1 - i) sc cur 89 (xs.drop (i * 6)) Tryz.underlying85 hsz hw1
    (by rw [hdl, show Nat.min (n + 1 - i) (n - i) = n - i by simp only [Nat.min_def]; split <;> omega]) (hsrc w1 hw1) (by rw [hdl, hcs]; omega) (fun v hv => h1 v (List.mem_of_mem_drop hv))
  obtain ⟨cur1, hc1⟩ : ∃ cur1, cur1 = (cur.toList.take ((i + 1) * 6) ++ xs.drop (i * 6) ++ cur.toList.drop ((i + 1) * 6 + (xs.drop (i * 6)).length)).toArray := ⟨_, rfl⟩
  rw [← hc1] at hcp1
  have hs1 : cur1.size = cur.size := by
    have := seg_len cur.toList (xs.drop (i * 6)) ((i + 1) * 6) (by rw [hdl, Array.length_toList, hcs]; omega)
    rw [hc1]; simpa using this
  have hcp2 := fun (w1 : World) (hw1 : w1.heap[g]? = some (.cells cur1 89 (0, 0))) (hw2 : w1.heap[vb]? = some (.cells ys.toArray 89 (0, 0))) dc => run_copyK (P := Tryz.prog) w1 85 37 3 89 6 g (i * 6) (n + 1 - i) dc ⟨vb, 0, none⟩ 1 1 cur1 89 ys Tryz.underlying85 hsz hw1
    (by rw [hy, show Nat.min 1 (n + 1 - i) = 1 by simp only [Nat.min_def]; split <;> omega]) (fun j v hj => by rw [show (⟨vb, 0, none⟩ : Addr).add j = ⟨vb, j, none⟩ by unfold Addr.add; split <;> simp_all, (cellsOf hw2).1]; simpa using hj) (by rw [hy, hs1, hcs]; omega) hy1
  have hov := fun (w1 : World) (hw1 : w1.heap[g]? = some (.cells cur 89 (0, 0))) (hw2 : w1.heap[vb]? = some (.cells ys.toArray 89 (0, 0))) o lb cb => ovlIten w1 g vb o lb cb cur ys.toArray hw1 hw2 hne (by rw [hcs]; omega)
  have HC1 := Lib.hid hc1
  have HP1 := Lib.hid hcp1
  have HP2 := Lib.hid hcp2
  have hov1 := fun o lb cb => hov w hg hvb o lb cb
  clear hcp1 hcp2 hov hsrc hcs htk hx hdl hc1 hs1 hown
  go_enter Tryz.func66, Tryz.ntmps66
  go_wp2_with (simp only [hov1])
  refine wp_region_flo (fun k => k = g) [] [] (by kernel_rfl) (by kernel_rfl) (fun k hk => by subst hk; exact blkLt hg) ?_
  refine flo_seg 8 rfl ?_
  simp only [List.take_succ_cons, List.take_zero, List.drop_succ_cons, List.drop_zero]
  repeat (go_big_quiet_step (fail))
  refine wpQuiet_nil ?_
  refine flo_eff rfl rfl rfl rfl (fun K hK => ?_)
  refine wp_copyK _ (.tmp 73) (.tmp 76) 85 85 rfl (.slice (some ⟨g, (i + 1) * 6, none⟩) (n - i) (cap - (i + 1))) (.slice (some ⟨g, i * 6, none⟩) (n + 1 - i) (cap - i)) rfl rfl (HP1.out w.drew hg _ _) ?_; (have HG1 := Lib.hid (setRow_at (w := w.drew) (cs := cur1) hg)); (have HV1 := Lib.hid ((setRow_ne (w := w.drew) cur1 hne).trans hvb)); (have HM1 := Lib.hid (setRow_mdh (S := fun k => k = g) (Mdh.refl _ w.drew) (g := g) (.inl rfl) cur1)); go_wp2; refine ⟨HM1.out.mono (fun q hq => by simpa using hq), ?_⟩
  refine flo_nil ?_
  go_wp2_with (refine wpList_copyK _ rfl (.tmp 80) (.tmp 81) 85 37 rfl (.slice (some ⟨g, i * 6, none⟩) (n + 1 - i) (cap - i)) (.slice (some ⟨vb, 0, none⟩) 1 1) rfl rfl (HP2.out _ HG1.out HV1.out _) ?_)
  go_ret
  obtain ⟨hcs, htk, hx⟩ := HCUR.out
  have hL := laid_in cur.toList xs ys (i * 6) ((n - i) * 6) 6 (by rw [show i * 6 + (n - i) * 6 = n * 6 by omega]; exact htk) (by rw [Array.length_toList, hcs]; omega) hy cur1.toList (cur1.toList.take (i * 6) ++ ys ++ cur1.toList.drop (i * 6 + ys.length))
    (by rw [HC1.out, show i * 6 + 6 = (i + 1) * 6 by omega]) rfl
  refine ⟨g, cap, rfl, Own.ofParts (setRow_at HG1.out) hroom (by unfold maxLen; omega) ?_ ?_, .inl rfl, ?_⟩
  · have := hL.2
    simpa [hcs, hy] using this
  · have := hL.1
    rw [show i * 6 + 6 + (n - i) * 6 = (n + 1) * 6 by omega] at this
    simpa [hy] using this
  · exact setRow_mdh (S := fun k => (Value.slice (some ⟨g, 0, none⟩) n cap).ownBlock = some k) (setRow_mdh (S := fun k => (Value.slice (some ⟨g, 0, none⟩) n cap).ownBlock = some k) ((Mdh.refl _ w).drew) (g := g) (.inl rfl) cur1) (g := g) (.inl rfl) _

set_option maxRecDepth 40000 in
set_option maxHeartbeats 4000000 in
theorem Insert_enden (v : Value) (n : Nat) (xs ys : List Value) (vb : Nat) (w : World) (hown : Own w 89 6 v n xs) (hn : n ≤ 1000000)
    (hvb : w.heap[vb]? = some (.cells ys.toArray 89 (0, 0))) (hy : ys.length = 6) (hy1 : ∀ u ∈ ys, u.oneCell' = true) :
    Calls Tryz.prog 66 #[v, .int .i64 n, .slice (some ⟨vb, 0, none⟩) 1 1] w (InsPost 6 89 v n n xs ys w) := by
  obtain ⟨i0, hi0, hz0, hz1, hz2⟩ := info_parts infoIten
  have hx : xs.length = n * 6 := hown.1
  have HN : Hid (∀ j u, ys[j]? = some u → w.cell? ((⟨vb, 0, none⟩ : Addr).add j) = some u) := Lib.hid (fun j u hj => by
    rw [show (⟨vb, 0, none⟩ : Addr).add j = ⟨vb, j, none⟩ by unfold Addr.add; split <;> simp_all, (cellsOf hvb).1]; simpa using hj)
  have HO := Lib.hid hown
  have HX : Hid (xs.take (n * 6) ++ ys ++ xs.drop (n * 6) = xs ++ ys) := Lib.hid (by rw [List.take_of_length_le (by omega), List.drop_of_length_le (by omega), List.append_nil])
  rcases hown.2 with ⟨rfl, rfl⟩ | ⟨g, cap, cur, rfl, _, _, hnc, hcm, _⟩
  · clear hown hx
    go_enter Tryz.func66, Tryz.ntmps66
    go_wp2_with (at_builtin; go_must (refine wpList_app2 _ rfl (.tmp 23) (.tmp 24) 85 37 rfl 89 Tryz.underlying37 i0 _ 6 56 Tryz.underlying85 hi0 hz0 hz1 hz2 rfl (by decide) (.slice none 0 0) 0 xs rfl HO.out ⟨vb, 0, none⟩ 1 1 ys rfl hy HN.out hy1 (by decide) (by simp only [maxLen]; omega) (by omega) ?_); intro g2 cap2 w2 ho2 hwh hgr; have HO2 := Lib.hid ho2; have HW2 := Lib.hid hwh; have HG2 := Lib.hid hgr; clear ho2 hwh hgr)
    all_goals
      go_ret
      refine ⟨g2, cap2, rfl, by rw [HX.out]; exact HO2.out, HW2.out, Mdh.grown (Mdh.refl _ w) HG2.out (fun r hr => hr)⟩
  · clear hown hx
    unfold maxLen at hcm
    go_enter Tryz.func66, Tryz.ntmps66
    go_wp2_with (at_builtin; go_must (refine wpList_app2 _ rfl (.tmp 23) (.tmp 24) 85 37 rfl 89 Tryz.underlying37 i0 _ 6 56 Tryz.underlying85 hi0 hz0 hz1 hz2 rfl (by decide) (.slice (some ⟨g, 0, none⟩) n cap) n xs rfl HO.out ⟨vb, 0, none⟩ 1 1 ys rfl hy HN.out hy1 (by decide) (by simp only [maxLen]; omega) (by omega) ?_); intro g2 cap2 w2 ho2 hwh hgr; have HO2 := Lib.hid ho2; have HW2 := Lib.hid hwh; have HG2 := Lib.hid hgr; clear ho2 hwh hgr)
    all_goals
      go_ret
      refine ⟨g2, cap2, rfl, by rw [HX.out]; exact HO2.out, HW2.out, Mdh.grown (Mdh.refl _ w) HG2.out (fun r hr => hr)⟩

set_option maxRecDepth 40000 in
set_option maxHeartbeats 4000000 in
theorem Insert_growen (g n cap i : Nat) (xs ys : List Value) (vb : Nat) (w : World) (hown : Own w 89 6 (.slice (some ⟨g, 0, none⟩) n cap) n xs) (h1 : ∀ u ∈ xs, u.oneCell' = true) (hi : i < n) (hroom : cap < n + 1) (hn : n ≤ 1000000)
    (hvb : w.heap[vb]? = some (.cells ys.toArray 89 (0, 0))) (hy : ys.length = 6) (hy1 : ∀ u ∈ ys, u.oneCell' = true) :
    Calls Tryz.prog 66 #[.slice (some ⟨g, 0, none⟩) n cap, .int .i64 i, .slice (some ⟨vb, 0, none⟩) 1 1] w (InsPost 6 89 (.slice (some ⟨g, 0, none⟩) n cap) n i xs ys w) := by
  obtain ⟨i0, hi0, hz0, hz1, hz2⟩ := info_parts infoIten
  obtain ⟨cur, hg, hnc, hcm, hcs, htk⟩ := hown.parts
  have hsz : (Tryz.prog.info? 89).map (·.size) = some 6 := by kernel_rfl
  have hx : xs.length = n * 6 := hown.1
  have hcell := hown.cells rfl
  have hci : ¬ cap = i := by omega
  have hin : i ≤ n := by omega
  have hieq : ¬ (i : Int) = n := by omega
  have hroom' : (cap : Int) < (n : Int) + 1 := by omega
  have hkk : (n : Int) + 1 - (i : Int) = ((n + 1 - i : Nat) : Int) := by omega
  have hik : i + (n + 1 - i) = n + 1 := by omega
  have hgw := blkLt hg
  have hvw := blkLt hvb
  have hadd : ∀ b j : Nat, (⟨b, 0, none⟩ : Addr).add j = ⟨b, j, none⟩ := fun b j => by unfold Addr.add; split <;> simp_all
  have hold : (Builtin.firstCells i0.size i (.slice (some ⟨g, 0, none⟩) i cap)).run Tryz.prog w.drew = .ok (xs.take (i * 6)).toArray w.drew := by
    rw [hz1]
    exact run_firstCells_some w.drew 6 i ⟨g, 0, none⟩ i cap (xs.take (i * 6)) (by rw [List.length_take]; omega) (fun j v hj => by
      rw [List.getElem?_take] at hj
      split at hj
      · exact hcell j v hj
      · cases hj)
  have hrz : ∀ ty, (Builtin.append_ #[85, 3] ty #[.slice (some ⟨g, 0, none⟩) i cap, .int .i64 ((n : Int) + 1 - (i : Int))]).run Tryz.prog w =
      .ok (.slice (some ⟨w.heap.size, 0, none⟩) (n + 1) (grownCap w (n + 1) cap 89)) (w.drew.alloc (.cells ((xs.take (i * 6)).toArray ++ Builtin.zeroCells (Value.agg #[.int .i64 0, .string ⟨#[]⟩, .bool false, .int .i64 0, .int .i64 0, .int .i64 0]).cells (n + 1 - i) ++ Builtin.zeroCells (Value.agg #[.int .i64 0, .string ⟨#[]⟩, .bool false, .int .i64 0, .int .i64 0, .int .i64 0]).cells (grownCap w (n + 1) cap 89 - (n + 1))) 89)) := fun ty => by
    have h := Lib.run_append_grow_zeros w 85 3 ty 89 i0 _ .i64 .i64 Tryz.underlying85 Tryz.underlying3 hi0 hz0 (some ⟨g, 0, none⟩) i cap (xs.take (i * 6)) hold (n + 1 - i) (by omega) (by omega) (by omega) (by omega) (by rw [hz2]; omega) (by rw [hz2, hik]; exact growslice_fits hroom (by omega))
    rw [hik] at h
    rw [hkk]
    exact h
  obtain ⟨G, hG⟩ : ∃ G, G = grownCap w (n + 1) cap 89 := ⟨_, rfl⟩
  obtain ⟨ROW, hROW⟩ : ∃ ROW : Array Value, ROW = (xs.take (i * 6)).toArray ++ Builtin.zeroCells (Value.agg #[.int .i64 0, .string ⟨#[]⟩, .bool false, .int .i64 0, .int .i64 0, .int .i64 0]).cells (n + 1 - i) ++ Builtin.zeroCells (Value.agg #[.int .i64 0, .string ⟨#[]⟩, .bool false, .int .i64 0, .int .i64 0, .int .i64 0]).cells (G - (n + 1)) := ⟨_, rfl⟩
  rw [← hG] at hrz
  rw [← hROW] at hrz
  have hGn : n + 1 ≤ G := by rw [hG]; exact grownCap_ge w _ _ _
  have hG63 : G ≤ maxLen := by rw [hG]; exact grownCap_le_maxLen w _ _ _ (by unfold maxLen; omega)
  obtain ⟨ZS, hZS, hROWl⟩ : ∃ ZS : List Value, ZS.length = (G - i) * 6 ∧ ROW.toList = xs.take (i * 6) ++ ZS := by
    refine ⟨(Builtin.zeroCells (Value.agg #[.int .i64 0, .string ⟨#[]⟩, .bool false, .int .i64 0, .int .i64 0, .int .i64 0]).cells (n + 1 - i)).toList ++ (Builtin.zeroCells (Value.agg #[.int .i64 0, .string ⟨#[]⟩, .bool false, .int .i64 0, .int .i64 0, .int .i64 0]).cells (G - (n + 1))).toList, ?_, ?_⟩
    · rw [List.length_append, zeroCells_len, zeroCells_len, show (Value.agg #[.int .i64 0, .string ⟨#[]⟩, .bool false, .int .i64 0, .int .i64 0, .int .i64 0]).cells.size = 6 from rfl]; omega
    · rw [hROW]; simp
  have hRs : ROW.size = G * 6 := by
    rw [← Array.length_toList, hROWl, List.length_append, hZS, List.length_take]; omega
  have hdl : (xs.drop (i * 6)).length = (n - i) * 6 := by rw [List.length_drop, hx]; omega
  obtain ⟨cur1, hc1⟩ : ∃ cur1, cur1 = (ROW.toList.take (i * 6) ++ ys ++ ROW.toList.drop (i * 6 + ys.length)).toArray := ⟨_, rfl⟩
  have hs1 : cur1.size = G * 6 := by
    have := seg_len ROW.toList ys (i * 6) (by rw [hy, Array.length_toList, hRs]; omega)
    rw [hc1, ← hRs]; simpa using this
  have hcp1 := fun (w1 : World) (hw1 : w1.heap[w.heap.size]? = some (.cells ROW 89 (0, 0))) (hw2 : w1.heap[vb]? = some (.cells ys.toArray 89 (0, 0))) dc => run_copyK (P := Tryz.prog) w1 85 37 3 89 6 w.heap.size (i * 6) (n + 1 - i) dc ⟨vb, 0, none⟩ 1 1 ROW 89 ys Tryz.underlying85 hsz hw1
    (by rw [hy, show Nat.min 1 (n + 1 - i) = 1 by simp only [Nat.min_def]; split <;> omega]) (fun j v hj => by rw [hadd, (cellsOf hw2).1]; simpa using hj) (by rw [hy, hRs]; omega) hy1
  rw [← hc1] at hcp1
  have hcp2 := fun (w1 : World) (hw1 : w1.heap[w.heap.size]? = some (.cells cur1 89 (0, 0))) (hw2 : w1.heap[g]? = some (.cells cur 89 (0, 0))) dc sc => run_copyK (P := Tryz.prog) w1 85 85 3 89 6 w.heap.size ((i + 1) * 6) (n - i) dc ⟨g, i * 6, none⟩ (n - i) sc cur1 89 (xs.drop (i * 6)) Tryz.underlying85 hsz hw1
    (by rw [hdl, show Nat.min (n - i) (n - i) = n - i by simp only [Nat.min_def]; split <;> omega]) (fun j v hj => by
      rw [show (⟨g, i * 6, none⟩ : Addr).add j = ⟨g, i * 6 + j, none⟩ by unfold Addr.add; split <;> simp_all, (cellsOf hw2).1]
      rw [List.getElem?_drop, ← htk, List.getElem?_take] at hj
      split at hj
      · simpa using hj
      · cases hj) (by rw [hdl, hs1]; omega) (fun v hv => h1 v (List.mem_of_mem_drop hv))
  obtain ⟨cur2, hc2⟩ : ∃ cur2, cur2 = (cur1.toList.take ((i + 1) * 6) ++ xs.drop (i * 6) ++ cur1.toList.drop ((i + 1) * 6 + (xs.drop (i * 6)).length)).toArray := ⟨_, rfl⟩
  rw [← hc2] at hcp2
  have HL : Hid (_) := Lib.hid (laid_new xs ys ZS (i * 6) ((n - i) * 6) 6 (by omega) (by omega) hy ROW.toList cur1.toList cur2.toList hROWl (by rw [hc1]) (by rw [hc2, show i * 6 + 6 = (i + 1) * 6 by omega]))
  have HRZ := Lib.hid hrz
  have HP1 := Lib.hid hcp1
  have HP2 := Lib.hid hcp2
  have HS := Lib.hid (And.intro hRs (And.intro hdl hs1))
  have hG1 : ¬ G = i := by omega
  have hG2 : ¬ G = i + 1 := by omega
  have hG3 : (i : Int) + 1 ≤ (n : Int) + 1 := by omega
  have hG4 : (n : Int) + 1 ≤ G := by omega
  unfold maxLen at hcm hG63
  clear hrz hcp1 hcp2 hold hROW hROWl hc1 hRs hdl hs1 hcs htk hx hcell hown hc2 hkk hik hz0 hi0 hz1 hz2 hG hZS
  go_enter Tryz.func66, Tryz.ntmps66
  go_wp2_with (first
    | (at_builtin; refine Lib.wpList_append_run _ rfl _ _ _ _ rfl _ _ rfl rfl _ _ (HRZ.out _) ?_)
    | (refine wpList_copyK _ rfl (.tmp 43) (.tmp 44) 85 37 rfl (.slice (some ⟨w.heap.size, i * 6, none⟩) (n + 1 - i) (G - i)) (.slice (some ⟨vb, 0, none⟩) 1 1) rfl rfl (HP1.out _ (blkNew w.drew _) (blkOld (w := w.drew) hvb) _) ?_))
  have hga : ((w.drew.alloc (.cells ROW 89)).setRow w.heap.size cur1).heap[w.heap.size]? = some (.cells cur1 89 (0, 0)) := setRow_at (w := w.drew.alloc (.cells ROW 89)) (cs := cur1) (blkNew w.drew _)
  have hgb : ((w.drew.alloc (.cells ROW 89)).setRow w.heap.size cur1).heap[g]? = some (.cells cur 89 (0, 0)) := (setRow_ne _ (by omega)).trans (blkOld (w := w.drew) hg)
  have HM : Hid (Mdh (fun k => (Value.slice (some ⟨g, 0, none⟩) n cap).ownBlock = some k) w ((w.drew.alloc (.cells ROW 89)).setRow w.heap.size cur1)) := Lib.hid (setRow_mdh (((Mdh.refl _ w).drew).alloc _) (.inr (Nat.le_refl _)) _)
  generalize (w.drew.alloc (.cells ROW 89)).setRow w.heap.size cur1 = W1 at *
  have HGA := Lib.hid hga
  have HGB := Lib.hid hgb
  clear hgb hgw hvw
  go_simp
  refine wp_region_flo (fun k => k = w.heap.size) [] [] (by kernel_rfl) (by kernel_rfl) (fun k hk => by subst hk; exact blkLt hga) ?_
  refine flo_seg 8 rfl ?_
  simp only [List.take_succ_cons, List.take_zero, List.drop_succ_cons, List.drop_zero]
  repeat (go_big_quiet_step (fail))
  refine wpQuiet_nil ?_
  refine flo_eff rfl rfl rfl rfl (fun K hK => ?_)
  refine wp_copyK _ (.tmp 50) (.tmp 53) 85 85 rfl (.slice (some ⟨w.heap.size, (i + 1) * 6, none⟩) (n - i) (G - (i + 1))) (.slice (some ⟨g, i * 6, none⟩) (n - i) (cap - i)) rfl rfl (HP2.out W1.drew HGA.out HGB.out _ _) ?_; (have HG1 := Lib.hid (setRow_at (w := W1.drew) (cs := cur2) HGA.out)); (have HM1 := Lib.hid (setRow_mdh (S := fun k => k = w.heap.size) (Mdh.refl _ W1.drew) (g := w.heap.size) (.inl rfl) cur2)); go_wp2; refine ⟨HM1.out.mono (fun q hq => by simpa using hq), ?_⟩
  refine flo_nil ?_
  go_wp2
  go_ret
  obtain ⟨hRs, hdl, hs1⟩ := HS.out
  have hL := HL.out
  rw [show i * 6 + 6 = (i + 1) * 6 by omega, show (i + 1) * 6 + (n - i) * 6 = (n + 1) * 6 by omega] at hL
  refine ⟨w.heap.size, G, rfl, Own.ofParts HG1.out (by omega) (by unfold maxLen; omega) ?_ (by simpa using hL.1), .inr (Nat.le_refl _), ?_⟩
  · have := hL.2
    simp only [Array.length_toList] at this
    rw [this, hRs]
  · exact setRow_mdh HM.out.drew (.inr (Nat.le_refl _)) _

/-- One element laid into a row of the call's own. -/
theorem Inserten (v : Value) (n i : Nat) (xs ys : List Value) (vb : Nat) (w : World) (hown : Own w 89 6 v n xs) (h1 : ∀ u ∈ xs, u.oneCell' = true) (hi : i ≤ n) (hn : n ≤ 1000000)
    (hvb : w.heap[vb]? = some (.cells ys.toArray 89 (0, 0))) (hy : ys.length = 6) (hy1 : ∀ u ∈ ys, u.oneCell' = true) (hne : v.ownBlock ≠ some vb) :
    Calls Tryz.prog 66 #[v, .int .i64 i, .slice (some ⟨vb, 0, none⟩) 1 1] w (InsPost 6 89 v n i xs ys w) := by
  by_cases hin : i = n
  · subst hin
    exact Insert_enden v i xs ys vb w hown hn hvb hy hy1
  · rcases hown.2 with ⟨rfl, rfl⟩ | ⟨g, cap, cur, rfl, _⟩
    · omega
    · by_cases hr : n + 1 ≤ cap
      · exact Insert_shiften g n cap i xs ys vb w hown h1 (by omega) hr hvb hy hy1 (fun e => hne (by rw [e]; rfl))
      · exact Insert_growen g n cap i xs ys vb w hown h1 (by omega) (by omega) hn hvb hy hy1
end Go.Proofs.YtemjnppplmankaaGreat
