/- The iterators of index: the entries of a key, of a slot; slices.Values. -/
import Derived.Test.YtiidkehcfoajeaaIxc
import Derived.Shelf.Abstract
import Derived.Shelf.RegionOpen
import Derived.OwnWalkIn
import Derived.TacticsInMore
import Derived.LoopIn
import Derived.Sort.LoopGhostIn
import Derived.RangeFuncCalls
set_option linter.unusedVariables false
set_option linter.unusedSimpArgs false
namespace Go.Proofs.Ytiidkehcfoajeaa
open Go.RowKit Go.Shelf
attribute [local go_sem] OvM cell_ovm obj_ovm
attribute [local go_sem] Oper.semAt_some

def encE (e : En) : Array Value := #[enV e]
theorem SeqZ.any {α : Type} {n : Nat} (m : Nat) {P : Program} {g : Nat} {lb : Array Value} {encs : α → Array Value} {A : Nat → Prop} {S Sp : List α → Prop} {w : World} (h : SeqZ Fence.wide n P g lb encs A S Sp w) : SeqZ Fence.wide m P g lb encs A S Sp w := by
  intro l J Jx W hW hJ hJx hY h0
  exact callsIn_wide.2 (callsIn_wide.1 (h l J Jx W hW hJ hJx (fun Z pre x X hj hs => yield_any (n - 1) (hY Z pre x X hj hs)) h0))

set_option maxRecDepth 40000 in
set_option maxHeartbeats 4000000 in
/-- The elements of a row of entries, one by one. -/
theorem Val1 (v : Value) (L : List En) (hn : L.length ≤ 1000000) (w : World) (h : Own w 23 6 v L.length (rowE L)) (bs : Nat) (hbs : w.cell? ⟨bs, 0, none⟩ = some v) (A : Nat → Prop) (hA1 : A bs) (hA2 : ∀ k, v.ownBlock = some k → A k)
    (l : Nat) (J Jx : (Nat → Prop) → List En → World → Prop) (W : World) (hW : Mdh (fun k => ¬ A k) w W) (hJ : Apart J) (hJx : Apart Jx)
    (hY : ∀ Z pre x X, J Z pre X → (pre ++ [x]) <+: L → YieldAt Fence.wide 1 Try.prog l (encE x) X fun e Y =>
      (e = .returned (.bool true) ∧ J Z (pre ++ [x]) Y ∧ Mdh (fun k => ¬ A k ∧ ¬ Z k) X Y) ∨ (e = .returned (.bool false) ∧ Jx Z (pre ++ [x]) Y ∧ Mdh (fun k => ¬ Z k) X Y))
    (h0 : J (fun _ => False) [] W) :
    CallsIn Fence.wide 1 Try.prog 130 #[.func (.yield l) #[] #[], .pointer (some ⟨bs, 0, none⟩)] W (SinPost L J Jx) := by
  have HV := Lib.hid (h.mdh hW (fun k hk hn => hn (hA2 k hk)))
  have hbW : W.cell? ⟨bs, 0, none⟩ = some v := hW.keep hbs (fun h => h hA1)
  obtain ⟨a, cap, rfl, hnc, hcm, hat⟩ := ownE_at HV.out
  have HAT := Lib.hid hat
  unfold maxLen at hcm
  clear h hW hat hbs
  refine callsIn_of_wp Try.func130 rfl trivial ?_ rfl
  simp only [Try.ntmps130, List.size_toArray, List.length_cons, List.length_nil, Nat.reduceAdd, Nat.reduceSub, Array.replicate_succ, Array.replicate_zero, List.push_toArray, List.append_toArray, List.nil_append, List.cons_append]
  gi_wp2_with fail
  gi_loopg [7] L.length (fun gk t7 wx => ∃ (j : Nat) (pre : List En), t7 = .int .i64 j ∧ J (fun _ => False) pre wx ∧ Hid (Mdh (fun k => ¬ A k) W wx ∧ pre = L.take j ∧ j + gk = L.length))
  case atStart => exact ⟨0, [], rfl, h0, Lib.hid ⟨Mdh.refl _ _, by simp, by omega⟩⟩
  case round =>
    obtain ⟨j, pre, rfl, hJp, H⟩ := hrel
    clear h0
    by_cases hlt : j < L.length
    · have hlt' : (j : Int) < (L.length : Int) := by omega
      have hx : L[j]? = some (L[j]'hlt) := List.getElem?_eq_getElem hlt
      obtain ⟨g, he, _, hog, hc⟩ := HAT.out j _ hx
      have hAg := hA2 g hog
      have hne := fun (i : Nat) (u : Value) (hu : (enC (L[j]'hlt))[i]? = some u) => H.out.1.keep (hc i u hu) (fun hn => hn hAg)
      have HTK : Hid (pre ++ [L[j]'hlt] = L.take (j + 1)) := Lib.hid (by
        rw [H.out.2.1, List.take_add_one, hx]; rfl)
      have HPRE : Hid (pre ++ [L[j]'hlt] <+: L) := Lib.hid (by rw [HTK.out]; exact List.take_prefix _ _)
      generalize L[j]'hlt = x at *
      obtain ⟨x1, x2, x3, x4, x5, x6⟩ := x
      have d0 := hne 0 _ rfl
      have d1 := hne 1 _ rfl
      have d2 := hne 2 _ rfl
      have d3 := hne 3 _ rfl
      have d4 := hne 4 _ rfl
      have d5 := hne 5 _ rfl
      simp only [Nat.add_zero] at d0 d1 d2 d3 d4 d5
      have hJ4 : J (fun _ => False) pre (wr.alloc (.cells #[.int .i64 x1, .string x2, .bool x3, .int .i64 x4, .int .i64 x5, .int .i64 x6] 23)) := hJ _ _ _ _ _ hJp ((Mdh.refl _ wr).alloc _) (fun k hk => .inl hk)
      obtain ⟨fn, tmps, assign, body, hy, hR⟩ := yield_any 0 (hY _ pre ⟨x1, x2, x3, x4, x5, x6⟩ _ hJ4 HPRE.out)
      have HM4 := Lib.hid (H.out.1.trans ((Mdh.refl (fun k => ¬ A k) wr).alloc (.cells #[.int .i64 x1, .string x2, .bool x3, .int .i64 x4, .int .i64 x5, .int .i64 x6] 23)))
      simp only [encE, enV] at hy
      subst he
      clear hx hc hne hJp hog
      gi_wp2_with fail
      refine hR.mono ?_
      rintro e W5 (⟨rfl, hJ5, hm5⟩ | ⟨rfl, hJx5, _⟩)
      · have HM5 := Lib.hid (HM4.out.trans (hm5.mono (fun k hk => hk.1)))
        clear hm5 hR hy
        gi_wp2_with fail
        go_roundg (gk - 1)
        case rel => exact ⟨j + 1, _, by go_num, hJ5, Lib.hid ⟨HM5.out, HTK.out, by have := H.out.2.2; omega⟩⟩
        case measure => have := H.out.2.2; omega
      · gi_wp2_with fail
        refine bodyPost_ret (results_none rfl _ _ _) rfl ?_
        exact ⟨⟨_, rfl⟩, .inr ⟨_, _, HPRE.out, hJx5⟩⟩
    · have hlt' : ¬ (j : Int) < (L.length : Int) := by omega
      gi_wp2_with fail
      go_end0
      exact ⟨⟨_, rfl⟩, .inl ⟨_, pre, by rw [H.out.2.1, List.take_of_length_le (by omega)], hJp⟩⟩
set_option maxRecDepth 40000 in
theorem Values_any (a : Option Addr) (n c : Nat) (w : World) : Calls Try.prog 97 #[.slice a n c] w fun e w' => e = .returned (.func (.func 130) #[] #[.pointer (some ⟨w.heap.size, 0, none⟩)]) ∧ w' = w.alloc (.cells #[.slice a n c] 127) := by
  go_enter Try.func97, Try.ntmps97
  go_wp2
  go_ret
  exact ⟨rfl, rfl⟩
/-- With one block more of the iterator's own. -/
def plusB {β : Type} (bs : Nat) (J : (Nat → Prop) → β → World → Prop) : (Nat → Prop) → β → World → Prop := fun Z s W => J (fun q => Z q ∨ q = bs) s W
theorem plusB_apart {β : Type} (bs : Nat) {J : (Nat → Prop) → β → World → Prop} (h : Apart J) : Apart (plusB bs J) := fun Z Z' s X Y hs hm hz =>
  h _ _ s X Y hs (hm.mono (fun k hk => .inl hk)) (fun k hk => hk.elim (fun h => (hz k h).elim (fun h => .inl (.inl h)) .inr) (fun h => .inl (.inr h)))
theorem plusB_yield {m : Nat} {P : Program} {l : Nat} {args : Array Value} {X : World} {A Z : Nat → Prop} {bs : Nat} {β : Type} {s : β} {J Jx : (Nat → Prop) → β → World → Prop}
    (h : YieldAt Fence.wide m P l args X fun e Y => (e = .returned (.bool true) ∧ J (fun q => Z q ∨ q = bs) s Y ∧ Mdh (fun k => ¬ A k ∧ ¬ (Z k ∨ k = bs)) X Y) ∨ (e = .returned (.bool false) ∧ Jx (fun q => Z q ∨ q = bs) s Y ∧ Mdh (fun k => ¬ (Z k ∨ k = bs)) X Y)) :
    YieldAt Fence.wide m P l args X fun e Y => (e = .returned (.bool true) ∧ plusB bs J Z s Y ∧ Mdh (fun k => ¬ (A k ∨ k = bs) ∧ ¬ Z k) X Y) ∨ (e = .returned (.bool false) ∧ plusB bs Jx Z s Y ∧ Mdh (fun k => ¬ Z k) X Y) := by
  obtain ⟨fn, tmps, assign, body, hy, hR⟩ := h
  refine ⟨fn, tmps, assign, body, hy, hR.mono ?_⟩
  rintro e Y (⟨h1, h2, h3⟩ | ⟨h1, h2, h3⟩)
  · exact .inl ⟨h1, h2, h3.mono (fun k hk => ⟨fun h => h.elim hk.1 (fun e => hk.2 (.inr e)), fun h => hk.2 (.inl h)⟩)⟩
  · exact .inr ⟨h1, h2, h3.mono (fun k hk h => hk (.inl h))⟩
theorem plusB_sin {α : Type} {bs : Nat} {D : List α} {J Jx : (Nat → Prop) → List α → World → Prop} {e : Ending} {W : World} (h : SinPost D (plusB bs J) (plusB bs Jx) e W) : SinPost D J Jx e W := by
  obtain ⟨h1, ⟨Z, xs, h2, h3⟩ | ⟨Z, pre, h2, h3⟩⟩ := h
  · exact ⟨h1, .inl ⟨_, xs, h2, h3⟩⟩
  · exact ⟨h1, .inr ⟨_, pre, h2, h3⟩⟩
/-- Getting a key's entries. -/
theorem Get_lay {w : World} {b : Nat} {X : IX} {Y : Lay} (h1 : X.Wf) (h3 : Sep (Y.list b X) w) (h4 : Y.Fit X) (k : ByteArray) (w1 : World) (g : Gr w w1) : Calls Try.prog 96 #[.pointer (some ⟨Y.bm, 0, none⟩), .string k] w1 fun e w2 =>
    ∃ s : Sl, e = .returned (.tuple #[slV s, .bool (look ltS X.keys k).isSome]) ∧ (Own w1 23 6 (slV s) (X.of k).length (rowE (X.of k)) ∧ (∀ q, (slV s).ownBlock = some q → enA s (X.of k) ∈ keyRows Y.KL X.keys)) ∧ Gr w1 w2 := by
  have h6 := h3.gr g
  have hl : Y.KL.length ≤ 1000000 := by
    have := congrArg List.length h4.k
    simp only [List.length_map] at this
    have := h1.keys_le
    omega
  rcases h4.lookE k with ⟨l1, l2⟩ | ⟨s, l, l1, l2, l3, l4⟩
  · refine (Getsl (some ⟨Y.bm, 0, none⟩) Y.v Y.KL k w1 (.inl ⟨_, rfl, Lay.om h6⟩) hl).mono ?_
    rintro e w2 ⟨rfl, hg⟩
    refine ⟨(none, 0, 0), by unfold lookVsl hasBsl; rw [l1, l2]; rfl, ⟨?_, fun q hq => by cases hq⟩, hg⟩
    unfold IX.of; rw [l2]; exact nilRow w1 _ _
  · refine (Getsl (some ⟨Y.bm, 0, none⟩) Y.v Y.KL k w1 (.inl ⟨_, rfl, Lay.om h6⟩) hl).mono ?_
    rintro e w2 ⟨rfl, hg⟩
    have hm : enA s l ∈ keyRows Y.KL X.keys := List.mem_of_getElem? (zip_at (fun (a : ByteArray × Sl) (b : ByteArray × List En) => enA a.2 b.2) l3 l4)
    have e1 : X.of k = l := by unfold IX.of; rw [l2]; rfl
    rw [e1]
    exact ⟨s, by unfold lookVsl hasBsl; rw [l1, l2]; rfl, ⟨h6.get (Lay.key_mem l3 l4), fun q hq => hm⟩, hg⟩
theorem Get_of {w w' : World} {b : Nat} {X : IX} {S : Nat → Prop} (h : IXR w b X S) : ∃ bm, w.cell? ⟨b, 0, none⟩ = some (.pointer (some ⟨bm, 0, none⟩)) ∧ ∀ (k : ByteArray) (w1 : World), Gr w w1 → Calls Try.prog 96 #[.pointer (some ⟨bm, 0, none⟩), .string k] w1 fun e w2 =>
    ∃ s : Sl, e = .returned (.tuple #[slV s, .bool (look ltS X.keys k).isSome]) ∧ (Own w1 23 6 (slV s) (X.of k).length (rowE (X.of k)) ∧ ∀ q, (slV s).ownBlock = some q → S q) ∧ Gr w1 w2 := by
  obtain ⟨h1, h2, Y, h3, h4, h5⟩ := h
  refine ⟨Y.bm, ((cellsOf (Lay.blk h3)).1 0).trans rfl, fun k w1 g => (Get_lay h1 h3 h4 k w1 g).mono ?_⟩
  rintro e w2 ⟨s, he, ⟨ho, hs⟩, hg⟩
  exact ⟨s, he, ⟨ho, fun q hq => (h5 q).2 ⟨_, List.mem_append_right _ (List.mem_append_left _ (hs q hq)), hq⟩⟩, hg⟩
set_option maxRecDepth 40000 in
set_option maxHeartbeats 1000000 in
theorem SeqOf {w : World} {b : Nat} {X : IX} {S : Nat → Prop} (h : IXR w b X S) (k : ByteArray) (bb bk : Nat) (hbb : w.cell? ⟨bb, 0, none⟩ = some (.pointer (some ⟨b, 0, none⟩))) (hbk : w.cell? ⟨bk, 0, none⟩ = some (.string k)) :
    SeqZ Fence.wide 2 Try.prog 94 #[.pointer (some ⟨bb, 0, none⟩), .pointer (some ⟨bk, 0, none⟩)] encE (fun q => q = bb ∨ q = bk ∨ S q) (fun xs => xs = X.of k) (fun pre => pre <+: X.of k) w := by
  intro l J Jx W hW hJ hJx hY h0
  have hbW : W.cell? ⟨bb, 0, none⟩ = some (.pointer (some ⟨b, 0, none⟩)) := hW.keep hbb (fun h => h (.inl rfl))
  have hkW : W.cell? ⟨bk, 0, none⟩ = some (.string k) := hW.keep hbk (fun h => h (.inr (.inl rfl)))
  have HI := Lib.hid (h.mdh hW (fun q hq hn => hn (.inr (.inr hq))))
  have HLE := Lib.hid (h.ok.of_le k)
  obtain ⟨bm, c0, hget⟩ := Get_of (w' := W) HI.out
  have HGET := Lib.hid hget
  have HV : Hid (∀ (s : Sl) (w1 : World), Gr W w1 → Own w1 23 6 (slV s) (X.of k).length (rowE (X.of k)) → (∀ q, (slV s).ownBlock = some q → S q) → ∀ bs, w1.cell? ⟨bs, 0, none⟩ = some (slV s) → W.heap.size ≤ bs →
      Calls Try.prog 130 #[.func (.yield l) #[] #[], .pointer (some ⟨bs, 0, none⟩)] w1 (SinPost (X.of k) J Jx)) := Lib.hid (fun s w1 g1 ho hS bs hbs hlt => by
    have hin := Val1 (slV s) (X.of k) (by have := HLE.out; omega) w1 ho bs hbs (fun q => (q = bb ∨ q = bk ∨ S q) ∨ q = bs) (.inr rfl) (fun q hq => .inl (.inr (.inr (hS q hq)))) l (plusB bs J) (plusB bs Jx) w1 (Mdh.refl _ _) (plusB_apart bs hJ) (plusB_apart bs hJx) (fun Z pre x X' hj hs => plusB_yield (hY _ pre x X' hj hs)) (hJ _ _ _ _ _ h0 (g1.mdh _) (fun q hq => hq.elim .inl (fun e => .inr ⟨by omega, by have := World.block_lt_of_cell? w1 _ hbs; simp only at this; omega⟩)))
    exact (callsIn_wide.1 hin).mono (fun e w' h => plusB_sin h))
  clear hY h0 hW h hbb hbk hget
  refine callsIn_wide.2 ?_
  go_enter Try.func94, Try.ntmps94
  go_wp2_with (go_at_call 95; refine (made_yes HI.out).mono ?_; rintro e w1 ⟨rfl, rfl⟩)
  have HG := Gr.refl W.drew
  refine wp_region_flo (fun _ => False) [] [] (by kernel_rfl) (by kernel_rfl) (fun _ h => h.elim) ?_
  refine flo_seg 5 rfl ?_
  simp only [List.take_succ_cons, List.take_zero, List.drop_succ_cons, List.drop_zero]
  repeat (go_big_quiet_step (fail))
  refine wpQuiet_nil ?_
  refine flo_eff rfl rfl rfl rfl (fun K hK => ?_)
  go_wp2_with fail; refine (HGET.out k _ (Gr.of_drew HG)).mono ?_; rintro e w2 ⟨s, rfl, hs, hg⟩; have HS := Lib.hid hs; replace HG := HG.trans hg; clear hs hg; go_wp2_with fail; refine ⟨by (first | (refine Gr.mdh ?_ _; (repeat (first | (with_reducible exact Gr.refl _) | assumption | (with_reducible apply Gr.from_drew) | (with_reducible apply Gr.alloc) | (with_reducible apply Gr.drew) | (with_reducible refine Gr.trans ?_ (by assumption)) | (with_reducible refine Gr.setCell ?_ (by omega) _))); done) | (repeat (first | (with_reducible exact Mdh.refl _ _) | (with_reducible refine Mdh.setCell ?_ (by simp) _) | (with_reducible refine Mdh.setNew ?_ (by simp) _) | (with_reducible apply Mdh.alloc) | (with_reducible apply Mdh.from_drew) | (with_reducible apply Mdh.drew) | (with_reducible refine Mdh.gr ?_ (by assumption))))), ?_⟩
  refine flo_seg 5 rfl ?_
  simp only [List.take_succ_cons, List.take_zero, List.drop_succ_cons, List.drop_zero]
  repeat (go_big_quiet_step (fail))
  refine wpQuiet_nil ?_
  refine flo_nil ?_
  obtain ⟨s1, s2, s3⟩ := s
  simp only [slV] at *
  go_wp2_with (first
    | (go_at_call 97; refine (Values_any _ _ _ _).mono ?_; rintro e w3 ⟨rfl, rfl⟩)
    | fail)
  refine (HV.out (s1, s2, s3) _ ((Gr.of_drew HG).alloc _) (HS.out.1.gr (by (repeat (first | (with_reducible exact Gr.refl _) | assumption | (with_reducible apply Gr.from_drew) | (with_reducible apply Gr.alloc) | (with_reducible apply Gr.drew) | (with_reducible refine Gr.trans ?_ (by assumption)) | (with_reducible refine Gr.setCell ?_ (by omega) _))))) HS.out.2 w2.heap.size ((cellsOf (blkNew w2 _)).1 0) (by have := (Gr.of_drew HG).sz; exact this)).mono ?_
  rintro e w4 ⟨⟨u, rfl⟩, hc⟩
  go_wp2
  go_end0
  exact ⟨⟨_, rfl⟩, hc⟩
end Go.Proofs.Ytiidkehcfoajeaa
