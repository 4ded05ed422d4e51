/- An index has each entry once: what it has of a key, or in a slot, is what it has with that key, in that slot. No walk. -/
import Derived.Test.YtndknnhgdlgbgaaBd13
import Derived.Test.YtndknnhgdlgbgaaBd12
import Derived.WalkSpells
import Derived.Deep.DeepMust
import Derived.Test.YtndknnhgdlgbgaaBd14
set_option linter.unusedVariables false
set_option linter.unusedSimpArgs false
namespace Go.Proofs.Ytndknnhgdlgbgaa

theorem ents_nodup {X : IX} (h : X.Wf) : X.ents.Nodup := by
  refine (h.v.nodup_iff).1 ?_
  refine List.pairwise_flatMap.2 ⟨fun x hx => (h.k x hx).p.imp (fun {a b} hab e => by subst e; rw [ltE_irr] at hab; cases hab), ?_⟩
  refine List.Pairwise.imp_of_mem (fun {x y} hx hy hxy a ha b hb e => ?_) h.k0
  have h1 := (h.k x hx).e a ha
  have h2 := (h.k y hy).e b hb
  rw [← h1, ← h2, e] at hxy
  rw [ordS.irr] at hxy
  cases hxy
theorem of_nodup {X : IX} (h : X.Wf) (k : ByteArray) : (X.of k).Nodup := (h.ofPair k).imp (fun {a b} hab e => by subst e; rw [ltE_irr] at hab; cases hab)
def keyP (k : ByteArray) (e : En) : Bool := decide (e.key = k)
def slotP (s : Int) (e : En) : Bool := decide (e.slot = s)
theorem of_perm {X : IX} (h : X.Wf) (k : ByteArray) : (X.of k).Perm (X.ents.filter (keyP k)) :=
  (List.perm_ext_iff_of_nodup (of_nodup h k) ((ents_nodup h).filter _)).2 (fun e => by rw [h.of_mem, List.mem_filter, keyP, decide_eq_true_iff])
theorem slot_perm {X : IX} (h : X.Wf) (s : Int) : (X.slot s).Perm (X.ents.filter (slotP s)) :=
  (List.perm_ext_iff_of_nodup (slot_nodup (h.slotOk s)) ((ents_nodup h).filter _)).2 (fun e => by rw [h.slot_mem, List.mem_filter, slotP, decide_eq_true_iff])
end Go.Proofs.Ytndknnhgdlgbgaa

/- slices.Clone, Index, Contains at []api.Entry. -/
set_option linter.unusedVariables false
set_option linter.unusedSimpArgs false
namespace Go.Proofs.Ytndknnhgdlgbgaa
open Go.RowKit Go.Shelf
attribute [local go_sem] OvM cell_ovm obj_ovm

set_option maxRecDepth 40000 in
set_option maxHeartbeats 1000000 in
theorem CloneV (l : List En) (hlen : l.length ≤ 100000) (s : Sl) (w : World) (h : Own w 43 6 (slV s) l.length (rowE l)) :
    Calls Try.prog 45 #[slV s] w fun e w' => ∃ s' : Sl, e = .returned (slV s') ∧ Own w' 43 6 (slV s') l.length (rowE l) ∧ (∀ k, (slV s').ownBlock = some k → w.heap.size ≤ k) ∧ Gr w w' := by
  obtain ⟨i0, hi, hz0, hz1, hz2⟩ := info_parts infoIten
  obtain ⟨s1, s2, s3⟩ := s
  simp only [slV] at *
  rcases h.2 with ⟨hv, h0⟩ | ⟨g, cap, cur, hv, _, hg, h1, h2, h3, h4⟩
  · have k3 := @Lib.run_eql_slice_nil
    obtain rfl : l = [] := List.eq_nil_of_length_eq_zero h0
    injection hv with e1 e2 e3
    subst e1 e2 e3
    clear h
    go_enter Try.func45, Try.ntmps45
    go_wp2
    go_ret
    exact ⟨(none, 0, 0), rfl, nilRow _ _ _, fun k hk => by simp [Value.ownBlock] at hk, Gr.refl _⟩
  · injection hv with e1 e2 e3
    subst e1 e2 e3
    have k3 : ∀ w : World, (binOp .eql 53 (.slice (some ⟨g, 0, none⟩) l.length s3) (.slice none 0 0)).run Try.prog w = .ok (.bool false) w := fun w => Lib.run_eql_slice_nil w _ _ (some ⟨g, 0, none⟩) l.length s3 0 0 Try.underlying53
    have HC : Hid (∀ w1, Gr w w1 → ∀ j u, (rowE l)[j]? = some u → w1.cell? ((⟨g, 0, none⟩ : Addr).add j) = some u) := Lib.hid (fun w1 g1 j u hj => (h.gr g1).cells (g := g) rfl j u hj)
    have HR : Hid ((rowE l).length = l.length * 6) := Lib.hid (rowE_len l)
    have H1 := Lib.hid (rowE_one l)
    clear h hg h4
    go_enter Try.func45, Try.ntmps45
    go_wp2_with (at_builtin; go_must (refine wpList_append_own _ rfl (.tmp 5) (.tmp 6) 53 rfl w.heap.size 43 i0 _ 6 56 Try.underlying53 hi hz0 hz1 hz2 rfl (by decide) (.slice (some ⟨w.heap.size, 0, none⟩) 0 0) 0 [] rfl (World.ownsRow_made _ #[] 0 (Nat.le_refl _) (by simp only [maxLen]; omega) rfl) ⟨g, 0, none⟩ l.length s3 (rowE l) rfl HR.out (HC.out _ (by (repeat (first | (with_reducible exact Gr.refl _) | assumption | (with_reducible apply Gr.from_drew) | (with_reducible apply Gr.alloc) | (with_reducible apply Gr.drew) | (with_reducible refine Gr.trans ?_ (by assumption)) | (with_reducible refine Gr.setCell ?_ (by omega) _))))) H1.out (by simp only [maxLen]; omega) (by omega) (by simp) ?_); intro v' w2 hown2 hgrow hnil; have HO2 := Lib.hid hown2; have HG2 := Lib.hid hgrow; have HN := Lib.hid hnil; clear hown2 hgrow hnil)
    go_ret
    have ho := HO2.out
    simp only [Nat.zero_add, List.nil_append] at ho
    have hg := HG2.out
    have hv : ∃ s' : Sl, v' = slV s' := by
      rcases ho.2 with ⟨hv, _⟩ | ⟨g', cap', cur', hv, _⟩
      · exact ⟨(none, 0, 0), hv⟩
      · exact ⟨(_, _, _), hv⟩
    obtain ⟨s', rfl⟩ := hv
    refine ⟨s', rfl, Own.lift ho, fun k hk => (World.ownsRow.lt ho k hk).1, hg.os, hg.tape, hg.output, Nat.le_trans (by simp) hg.size, fun k hk => ?_⟩
    exact (hg.block k (by simp; omega) (by simp [Value.ownBlock]; omega)).trans (Below.heap_alloc w _ k hk)
attribute [local go_sem] Oper.semAt_some
def eqP (e o : En) : Bool := decide (e = o)
theorem eqP_any (e : En) (l : List En) : l.any (eqP e) = decide (e ∈ l) := by
  rw [Bool.eq_iff_iff, List.any_eq_true, decide_eq_true_iff]
  constructor
  · rintro ⟨x, hx, hp⟩
    obtain rfl := of_decide_eq_true hp
    exact hx
  · exact fun h => ⟨e, h, decide_eq_true rfl⟩
set_option maxRecDepth 40000 in
set_option maxHeartbeats 2000000 in
theorem IndexV (l : List En) (hn : l.length ≤ 1000000) (v : Value) (e : En) (w : World) (h : Own w 43 6 v l.length (rowE l)) :
    Calls Try.prog 107 #[v, enV e] w fun r w' => r = .returned (.int .i64 (idxV (eqP e) l)) ∧ Gr w w' := by
  obtain ⟨a1, cap1, rfl, hc1, hm1, hat1⟩ := ownE_at h
  have HAT := Lib.hid hat1
  clear h hat1
  unfold maxLen at hm1
  simp only [enV]
  go_enter Try.func107, Try.ntmps107
  go_wp2_with fail
  obtain ⟨b, hb⟩ : ∃ q, q = w.heap.size := ⟨_, rfl⟩
  obtain ⟨w1, hw1⟩ : ∃ y, y = w.alloc (.cells #[.int .i64 e.seq, .string e.key, .bool e.del, .int .i64 e.slot, .int .i64 e.off, .int .i64 e.size] 43) := ⟨_, rfl⟩
  have HB : Hid (Gr w w1 ∧ w1.heap[b]? = some (.cells #[.int .i64 e.seq, .string e.key, .bool e.del, .int .i64 e.slot, .int .i64 e.off, .int .i64 e.size] 43)) := Lib.hid (by rw [hw1, hb]; exact ⟨(Gr.refl w).alloc _, blkNew w _⟩)
  rw [← hw1, ← hb]
  clear hw1 hb
  go_loopw [8] (fun t8 wx => ∃ k : Nat, k ≤ l.length ∧ t8 = .int .i64 k ∧ Hid (k ≤ idxP (eqP e) l ∧ Gr w1 wx)) (fun t8 _ => l.length - (intOf t8).toNat)
  case atStart => exact ⟨0, by omega, rfl, Lib.hid ⟨by omega, Gr.refl _⟩⟩
  case round =>
    obtain ⟨k, hk, rfl, H⟩ := hrel
    by_cases hlt : k < l.length
    · have hlt' : (k : Int) < l.length := by omega
      have hx : l[k]? = some (l[k]'hlt) := List.getElem?_eq_getElem hlt
      obtain ⟨g0, rfl, z1, z2, hc⟩ := HAT.out k _ hx
      have HX := Lib.hid hx
      generalize l[k]'hlt = x at *
      have hr : ∀ i u, (enC x)[i]? = some u → wr.cell? ⟨g0, k * 6 + i, none⟩ = some u := fun i u hu => (HB.out.1.trans H.out.2).keep (hc i u hu)
      have d0 := hr 0 _ rfl
      have d1 := hr 1 _ rfl
      have d2 := hr 2 _ rfl
      have d3 := hr 3 _ rfl
      have d4 := hr 4 _ rfl
      have d5 := hr 5 _ rfl
      simp only [Nat.add_zero] at d0 d1 d2 d3 d4 d5
      have dB := (cellsOf (H.out.2.blk HB.out.2)).1
      have k1 := fun w => eqlE_run e x w
      clear hr hc hx z1 z2
      by_cases hxy : e = x
      · have hd : decide (e = x) = true := decide_eq_true hxy
        have HXY := Lib.hid hxy
        clear hxy
        go_wp2
        refine wp_region_flo (fun _ => False) [] [] (by kernel_rfl) (by kernel_rfl) (fun _ h => h.elim) ?_
        refine flo_seg 6 rfl ?_
        simp only [List.take_succ_cons, List.take_zero, List.drop_succ_cons, List.drop_zero]
        repeat (go_big_quiet_step (fail))
        refine wpQuiet_nil ?_
        refine flo_nil ?_
        go_wp2
        go_ret
        have hk2 : k = idxP (eqP e) l := by
          rcases Nat.eq_or_lt_of_le H.out.1 with h1 | h1
          · exact h1
          · have := cnt_lo (fun x => !eqP e x) l k x h1 HX.out
            rw [HXY.out] at this
            simp [eqP] at this
        exact ⟨ret_int (by unfold idxV; rw [if_pos (by omega), hk2]), (HB.out.1.trans H.out.2).trans (by (repeat (first | (with_reducible exact Gr.refl _) | assumption | (with_reducible apply Gr.from_drew) | (with_reducible apply Gr.alloc) | (with_reducible apply Gr.drew) | (with_reducible refine Gr.trans ?_ (by assumption)) | (with_reducible refine Gr.setCell ?_ (by omega) _))))⟩
      · have hd : decide (e = x) = false := decide_eq_false hxy
        have HXY := Lib.hid hxy
        clear hxy
        go_wp2
        refine wp_region_flo (fun _ => False) [] [] (by kernel_rfl) (by kernel_rfl) (fun _ h => h.elim) ?_
        refine flo_seg 6 rfl ?_
        simp only [List.take_succ_cons, List.take_zero, List.drop_succ_cons, List.drop_zero]
        repeat (go_big_quiet_step (fail))
        refine wpQuiet_nil ?_
        refine flo_nil ?_
        go_wp2
        go_roundw
        case rel => exact ⟨k + 1, by omega, by go_num, Lib.hid ⟨by
          rcases Nat.eq_or_lt_of_le H.out.1 with h1 | h1
          · have := cnt_at (fun x => !eqP e x) l x (by have := HX.out; rw [h1] at this; exact this)
            simp [eqP, HXY.out] at this
          · omega, H.out.2.trans (by (repeat (first | (with_reducible exact Gr.refl _) | assumption | (with_reducible apply Gr.from_drew) | (with_reducible apply Gr.alloc) | (with_reducible apply Gr.drew) | (with_reducible refine Gr.trans ?_ (by assumption)) | (with_reducible refine Gr.setCell ?_ (by omega) _))))⟩⟩
        case measure => simp [intOf]; omega
    · have hlt' : ¬ (k : Int) < l.length := by omega
      go_wp2
      go_ret
      have := H.out.1
      exact ⟨ret_int (by unfold idxV; rw [if_neg (by omega)]), HB.out.1.trans H.out.2⟩
set_option maxRecDepth 40000 in
theorem ContainsV (l : List En) (hn : l.length ≤ 1000000) (v : Value) (e : En) (w : World) (h : Own w 43 6 v l.length (rowE l)) :
    Calls Try.prog 41 #[v, enV e] w fun r w' => r = .returned (.bool (decide (e ∈ l))) ∧ Gr w w' := by
  have HC := Lib.hid (fun (w' : World) (g : Gr w w') => IndexV l hn v e w' (h.gr g))
  have HA : Hid (decide (idxP (eqP e) l < l.length) = decide (e ∈ l)) := Lib.hid (by rw [idxP_any, eqP_any])
  obtain ⟨a1, cap1, rfl, _, _, _⟩ := ownE_at h
  clear h
  simp only [enV] at HC ⊢
  go_enter Try.func41, Try.ntmps41
  go_wp2_with fail
  refine Calls.mono (HC.out _ ((Gr.refl w).alloc _)) ?_
  rintro r w1 ⟨rfl, hg⟩
  have HG := Lib.hid (((Gr.refl w).alloc _).trans hg)
  clear hg
  unfold idxV
  by_cases hlt : idxP (eqP e) l < l.length
  · rw [if_pos hlt]
    have h0 : (0 : Int) ≤ idxP (eqP e) l := by omega
    have HB : Hid (decide (e ∈ l) = true) := Lib.hid (by rw [← HA.out]; simpa using hlt)
    go_wp2
    go_ret
    exact ⟨ret_bool HB.out.symm, HG.out⟩
  · rw [if_neg hlt]
    have HB : Hid (decide (e ∈ l) = false) := Lib.hid (by rw [← HA.out]; simpa using hlt)
    go_wp2
    go_ret
    exact ⟨ret_bool HB.out.symm, HG.out⟩
end Go.Proofs.Ytndknnhgdlgbgaa

/- IndexViews. Written by ivw.py. -/
set_option linter.unusedVariables false
set_option linter.unusedSimpArgs false
namespace Go.Proofs.Ytndknnhgdlgbgaa
open Go.RowKit Go.Shelf
attribute [local go_sem] OvM cell_ovm obj_ovm
attribute [local go_sem] Oper.semAt_some

def bsL (X : IX) (j : Nat) : List En := ((List.range j).map (fun (i : Nat) => X.slot i)).flatten
theorem bsL_succ (X : IX) (j : Nat) : bsL X (j + 1) = bsL X j ++ X.slot j := by simp [bsL, List.range_succ]
theorem bsL_all (X : IX) : bsL X X.slots.length = X.ents := by
  unfold bsL IX.ents
  congr 1
  refine List.ext_getElem? (fun i => ?_)
  by_cases h : i < X.slots.length
  · have h1 : X.slots[i]? = some (X.slots[i]'h) := List.getElem?_eq_getElem h
    rw [List.getElem?_map, List.getElem?_range h, Option.map_some, slot_at h1, h1]
  · rw [List.getElem?_eq_none (by simpa using h), List.getElem?_eq_none (by omega)]
theorem bsL_len {X : IX} (h : X.ents.length ≤ 80) : ∀ j, (bsL X j).length ≤ 80 * j
  | 0 => by simp [bsL]
  | j + 1 => by
    have h1 := bsL_len h j
    have h2 := slot_len_le X (j : Int)
    rw [bsL_succ, List.length_append]
    omega
def bkL (X : IX) (ks : List ByteArray) : List En := (ks.map X.of).flatten
theorem bkL_snoc (X : IX) (ks : List ByteArray) (k : ByteArray) : bkL X (ks ++ [k]) = bkL X ks ++ X.of k := by simp [bkL]
theorem bkL_len {X : IX} (hX : X.Wf) (h : X.ents.length ≤ 80) : ∀ (ks : List ByteArray), (bkL X ks).length ≤ 80 * ks.length
  | [] => by simp [bkL]
  | k :: ks => by
    have h1 := bkL_len hX h ks
    have h2 := of_len hX k
    show (X.of k ++ bkL X ks).length ≤ _
    rw [List.length_append, List.length_cons]
    omega
theorem of_keys {X : IX} (h : X.Wf) : ∀ x ∈ X.keys, X.of x.1 = x.2 := fun x hx => by
  unfold IX.of
  rw [(look_mem ordS h.k0 x.1 x.2).2 hx]
  rfl
theorem bkL_all {X : IX} (h : X.Wf) : (bkL X X.ks).Perm X.ents := by
  have e : bkL X X.ks = X.keys.flatMap Prod.snd := by
    unfold bkL IX.ks
    rw [List.map_map, List.flatMap]
    congr 1
    exact List.map_congr_left (fun x hx => of_keys h x hx)
  rw [e]
  exact h.v
theorem rowE_all1 (l : List En) : ∀ u ∈ rowE l, u.oneCell' = true := rowE_one l
theorem ks_ne {X : IX} (h : X.Wf) {k : ByteArray} (hk : k ∈ X.ks) : X.of k ≠ [] := by
  obtain ⟨x, hx, rfl⟩ := List.mem_map.1 hk
  rw [of_keys h x hx]
  exact (h.k x hx).ne
theorem ks_lt {X : IX} (h : X.Wf) {i : Nat} {k k' : ByteArray} (h1 : X.ks[i]? = some k) (h2 : X.ks[i + 1]? = some k') : ltS k k' = true := by
  unfold IX.ks at h1 h2
  rw [List.getElem?_map] at h1 h2
  obtain ⟨x, hx, rfl⟩ := Option.map_eq_some_iff.1 h1
  obtain ⟨y, hy, rfl⟩ := Option.map_eq_some_iff.1 h2
  obtain ⟨a1, e1⟩ := List.getElem?_eq_some_iff.1 hx
  obtain ⟨a2, e2⟩ := List.getElem?_eq_some_iff.1 hy
  have := List.pairwise_iff_getElem.1 h.k0 i (i + 1) a1 a2 (by omega)
  rwa [e1, e2] at this
theorem pair_at {α : Type} {r : α → α → Prop} {l : List α} (h : l.Pairwise r) {i : Nat} {x y : α} (h1 : l[i]? = some x) (h2 : l[i + 1]? = some y) : r x y := by
  obtain ⟨a1, e1⟩ := List.getElem?_eq_some_iff.1 h1
  obtain ⟨a2, e2⟩ := List.getElem?_eq_some_iff.1 h2
  have := List.pairwise_iff_getElem.1 h i (i + 1) a1 a2 (by omega)
  rwa [e1, e2] at this
set_option maxRecDepth 40000 in
set_option maxHeartbeats 8000000 in
theorem IndexViews_any (a : Option Addr) (len cap : Nat) (L : List Mv) (w : World) (hl : L.length = len) (hle : len ≤ cap) (hcap : cap ≤ maxLen) (hs : MovesAt w a L) :
    Calls Try.prog 7 #[.slice a len cap] w fun e w' => e = .returned (.bool true) ∧ Gr w w' := by
  obtain ⟨i0, hi, hz0, hz1, hz2⟩ := info_parts infoIten
  have HC := Lib.hid (filled_any a len cap L w hl hle hcap hs)
  have HF := Lib.hid (filS_fi hs (Nat.le_refl 80))
  have HE := Lib.hid (filS_ents hs (Nat.le_refl 80))
  clear hl hs
  go_enter Try.func7, Try.ntmps7
  go_wp2_with fail
  refine Calls.mono HC.out ?_
  intro e w1 hp
  obtain ⟨b, S, av, cv, rfl, hs⟩ := hp.r
  have HS1 := Lib.hid hs
  generalize filS (L.take 80) = st at *
  obtain ⟨X, all, en, nx⟩ := st
  simp only at HF HS1 HE
  simp only
  have halen : all.length ≤ 80 := by have := HF.out.pm.length_eq; have := HE.out; omega
  have HLN := Lib.hid HF.out.len
  clear hp hs HC
  go_wp2_with fail
  refine (Len_any HS1.out.ixp).mono ?_
  rintro e w2 ⟨rfl, rfl⟩
  rw [HLN.out]
  have HS2 : Hid (SW w [ixA b X S, rowA 43 6 (.slice none 0 0) (bsL X 0).length (rowE (bsL X 0)), rowA 43 6 (.slice av all.length cv) all.length (rowE all)] w1) := Lib.hid (by
    have h := HS1.out.new (Gr.refl _) (A := rowA 43 6 (.slice none 0 0) 0 []) (nilRow _ _ _) (fun k hk => by cases hk)
    exact h.perm (List.Perm.swap _ _ _))
  go_wp2_with fail
  go_loopw [6, 38] (fun t6 t38 wx => ∃ j : Nat, j ≤ 5 ∧ t38 = .int .i64 j ∧ Hid (SW w [ixA b X S, rowA 43 6 t6 (bsL X j).length (rowE (bsL X j)), rowA 43 6 (.slice av all.length cv) all.length (rowE all)] wx)) (fun _ t38 _ => 5 - (intOf t38).toNat)
  case atStart => exact ⟨0, by omega, rfl, HS2⟩
  case round =>
    obtain ⟨j, hj, rfl, HR⟩ := hrel
    clear HS2 HS1
    by_cases hlt : j < 5
    · have hlt' : (j : Int) < 5 := by omega
      go_wp2_with fail
      refine (Slot_any _ _ _).mono ?_
      rintro e w3 ⟨bb, bk, rfl, k1, k2, l1, l2, hg⟩
      have HS3 := Lib.hid (HR.out.gr hg)
      have HT := Lib.hid (take_slot HS3.out.ixp _ bb bk k1 k2)
      clear k1 k2 l1 l2 hg
      go_wp2_with fail
      refine Calls.mono HT.out ?_
      have hol : (X.slot (j : Int)).length ≤ 80 := Nat.le_trans (slot_len_le _ _) HE.out
      rw [List.take_of_length_le (by omega)]
      rintro e w4 ⟨v9, rfl, hr, hg⟩
      obtain ⟨a9, c9, rfl, _⟩ := ownE_at hr.own
      have HS4 := Lib.hid (HS3.out.row hr hg)
      have HSO := Lib.hid (HF.out.wf.slotOk (j : Int))
      clear hr hg HT HS3 HR
      go_wp2_with fail
      go_loopw [47] (fun t47 wx => ∃ i : Nat, i ≤ (X.slot (j : Int)).length ∧ t47 = .int .i64 i ∧ Hid (SW w [ixA b X S, rowA 43 6 (.slice a9 (X.slot (j : Int)).length c9) (X.slot (j : Int)).length (rowE (X.slot (j : Int))), rowA 43 6 u6 (bsL X j).length (rowE (bsL X j)), rowA 43 6 (.slice av all.length cv) all.length (rowE all)] wx)) (fun t47 _ => (X.slot (j : Int)).length - (intOf t47).toNat)
      case atStart => exact ⟨0, by omega, rfl, HS4⟩
      case round =>
        obtain ⟨i, hi', rfl, HI⟩ := hrel
        clear HS4
        by_cases hli : i < (X.slot (j : Int)).length
        · have hli' : (i : Int) < (X.slot (j : Int)).length := by omega
          obtain ⟨x, hx⟩ : ∃ x, (X.slot (j : Int))[i]? = some x := ⟨_, List.getElem?_eq_getElem hli⟩
          obtain ⟨a9', c9', hv, _, _, hat⟩ := ownE_at (show Own wr 43 6 (.slice a9 (X.slot (j : Int)).length c9) (X.slot (j : Int)).length (rowE (X.slot (j : Int))) from HI.out.get (i := 1) rfl)
          injection hv with g1 g2 g3
          subst g1
          have HAT := Lib.hid hat
          have hsx := HSO.out.e x (List.mem_of_getElem? hx)
          have hvx := (valid_iff x).1 hsx.2
          obtain ⟨_, _, _, bx1, bx2, _, bx3, bx4⟩ := hvx
          have hsl : x.slot = (j : Int) := hsx.1
          obtain ⟨g9, rfl, _, _, hc⟩ := hat i x hx
          have y0 := hc 0 _ rfl
          have y1 := hc 1 _ rfl
          have y2 := hc 2 _ rfl
          have y3 := hc 3 _ rfl
          have y4 := hc 4 _ rfl
          have y5 := hc 5 _ rfl
          simp only [Nat.add_zero] at y0 y1 y2 y3 y4 y5
          have HX := Lib.hid hx
          clear hat g2 g3 hc hx hsx
          go_wp2_with fail
          obtain ⟨b11, hb11⟩ : ∃ q, q = wr.heap.size := ⟨_, rfl⟩
          obtain ⟨w5, hw5⟩ : ∃ y, y = wr.alloc (.cells #[.int .i64 x.seq, .string x.key, .bool x.del, .int .i64 x.slot, .int .i64 x.off, .int .i64 x.size] 43) := ⟨_, rfl⟩
          have HG5 : Hid (Gr wr w5) := Lib.hid (by rw [hw5]; exact (Gr.refl wr).alloc _)
          have HB5 : Hid (w5.heap[b11]? = some (.cells #[.int .i64 x.seq, .string x.key, .bool x.del, .int .i64 x.slot, .int .i64 x.off, .int .i64 x.size] 43)) := Lib.hid (by rw [hw5, hb11]; exact blkNew wr _)
          rw [hsl] at hw5 HB5
          rw [← hw5, ← hb11]
          clear hw5 hb11 y0 y1 y2 y3 y4 y5
          have dB := (cellsOf HB5.out).1
          have lB := blkLt HB5.out
          have HG := Gr.refl w5.drew
          cases i with
          | zero =>
            refine wp_region_flo (fun _ => False) [] [] (by kernel_rfl) (by kernel_rfl) (fun _ h => h.elim) ?_
            refine flo_seg 26 rfl ?_
            simp only [List.take_succ_cons, List.take_zero, List.drop_succ_cons, List.drop_zero]
            repeat (go_big_quiet_step (fail))
            refine wpQuiet_nil ?_
            refine flo_nil ?_
            go_wp2_with fail
            exact ⟨⟨1, by omega, by simp, Lib.hid (HI.out.gr (HG5.out.trans (Gr.refl _).drew))⟩, by simp [intOf]; omega⟩
          | succ i =>
            obtain ⟨y, hy⟩ : ∃ y, (X.slot (j : Int))[i]? = some y := ⟨_, List.getElem?_eq_getElem (by omega)⟩
            obtain ⟨g9', hg9, _, _, hc⟩ := HAT.out i y hy
            injection hg9 with hg9
            injection hg9 with hg9
            subst hg9
            have hvy := (valid_iff y).1 (HSO.out.e y (List.mem_of_getElem? hy)).2
            obtain ⟨_, _, _, by1, by2, _, by3, by4⟩ := hvy
            have hxy : y.off + y.size ≤ x.off := pair_at HSO.out.p hy HX.out
            have hd : decide (x.off < y.off + y.size) = false := decide_eq_false (by omega)
            have z4 := HG5.out.keep (hc 4 _ rfl)
            have z5 := HG5.out.keep (hc 5 _ rfl)
            have hgt : decide ((0 : Int) < (i : Int) + 1) = true := decide_eq_true (by omega)
            clear hc hy
            refine wp_region_flo (fun _ => False) [] [] (by kernel_rfl) (by kernel_rfl) (fun _ h => h.elim) ?_
            refine flo_seg 26 rfl ?_
            simp only [List.take_succ_cons, List.take_zero, List.drop_succ_cons, List.drop_zero]
            repeat (go_big_quiet_step (fail))
            refine wpQuiet_nil ?_
            refine flo_nil ?_
            go_wp2_with fail
            exact ⟨⟨i + 1 + 1, by omega, by simp, Lib.hid (HI.out.gr (HG5.out.trans (Gr.refl _).drew))⟩, by simp [intOf]; omega⟩
        · have hli' : ¬ (i : Int) < (X.slot (j : Int)).length := by omega
          obtain rfl : i = (X.slot (j : Int)).length := by omega
          have hbl := bsL_len HE.out j
          go_wp2_with (first
            | (at_builtin; go_must (refine wpList_appv _ rfl (.tmp 79) (.tmp 80) 53 rfl 43 i0 _ 6 56 Try.underlying53 hi hz0 hz1 hz2 rfl (by decide) u6 (bsL X j).length (rowE (bsL X j)) rfl (show Own wr 43 6 u6 (bsL X j).length (rowE (bsL X j)) from HI.out.get (i := 2) rfl) a9 (X.slot (j : Int)).length c9 (rowE (X.slot (j : Int))) rfl (src_all (show Own wr 43 6 (.slice a9 (X.slot (j : Int)).length c9) (X.slot (j : Int)).length (rowE (X.slot (j : Int))) from HI.out.get (i := 1) rfl) (rowE_one _)) (by simp only [maxLen]; omega) (by omega) ?_); intro v2 w2 hA; have HAP := Lib.hid hA; clear hA)
            | fail)
          have HI2 := HI.out.at (i := 2) rfl (HAP.out.mdh (fun g h => h)) (fun k hk => .inl hk) (B := rowA 43 6 v2 (bsL X (j + 1)).length (rowE (bsL X (j + 1)))) (by
            show Own _ _ _ _ _ _
            rw [bsL_succ, rowE_app, List.length_append]
            exact HAP.out.1) (fun k hq => HAP.out.2.1 k hq)
          exact ⟨⟨j + 1, by omega, by simp, Lib.hid (HI2.sub (.cons_cons _ (.cons _ (List.Sublist.refl _))))⟩, by simp [intOf]; omega⟩
    · have hlt' : ¬ (j : Int) < 5 := by omega
      obtain rfl : j = 5 := by omega
      have HBS : Hid (bsL X 5 = X.ents) := Lib.hid (by rw [← bsL_all X, show X.slots.length = 5 by have := HF.out.ln; omega])
      rw [HBS.out] at HR
      go_wp2_with fail
      refine (Keys_any _ _).mono ?_
      rintro e w3 ⟨bb, rfl, k1, l1, hg⟩
      have HS3 := Lib.hid (HR.out.gr hg)
      have HT := Lib.hid (take_keys HS3.out.ixp bb k1)
      clear k1 l1 hg HR HBS
      go_wp2_with fail
      refine Calls.mono HT.out ?_
      have hkl : X.ks.length ≤ 80 := Nat.le_trans (ks_len HF.out.wf) HE.out
      rw [List.take_of_length_le (by omega)]
      rintro e w4 ⟨v12, rfl, hr, hg⟩
      obtain ⟨a12, c12, rfl, _⟩ := ownS_at hr.own
      have HS4 : Hid (SW w [ixA b X S, rowA 43 6 (.slice none 0 0) (bkL X (X.ks.take 0)).length (rowE (bkL X (X.ks.take 0))), rowA 9 1 (.slice a12 X.ks.length c12) X.ks.length (kS X.ks), rowA 43 6 u6 (X.ents).length (rowE (X.ents)), rowA 43 6 (.slice av all.length cv) all.length (rowE all)] w4) := Lib.hid (by
        have h := (HS3.out.row hr hg).new (Gr.refl _) (A := rowA 43 6 (.slice none 0 0) 0 []) (nilRow _ _ _) (fun k hk => by cases hk)
        exact h.perm (List.Perm.swap _ _ _))
      clear hr hg HT HS3
      go_wp2_with fail
      go_loopw [7, 13, 88] (fun t7 t13 t88 wx => ∃ i : Nat, i ≤ X.ks.length ∧ t88 = .int .i64 i ∧ t13 = .int .i64 (lastF X (X.ks.take i)) ∧ Hid (SW w [ixA b X S, rowA 43 6 t7 (bkL X (X.ks.take i)).length (rowE (bkL X (X.ks.take i))), rowA 9 1 (.slice a12 X.ks.length c12) X.ks.length (kS X.ks), rowA 43 6 u6 (X.ents).length (rowE (X.ents)), rowA 43 6 (.slice av all.length cv) all.length (rowE all)] wx)) (fun _ _ t88 _ => X.ks.length - (intOf t88).toNat)
      case atStart => exact ⟨0, by omega, rfl, rfl, HS4⟩
      case round =>
        obtain ⟨i, hii, rfl, rfl, HR⟩ := hrel
        clear HS4
        by_cases hli : i < X.ks.length
        · have hli' : (i : Int) < X.ks.length := by omega
          obtain ⟨k, hk⟩ : ∃ k, X.ks[i]? = some k := ⟨_, List.getElem?_eq_getElem hli⟩
          obtain ⟨a12', c12', hv, _, _, hat⟩ := ownS_at (show Own wr 9 1 (.slice a12 X.ks.length c12) X.ks.length (kS X.ks) from HR.out.get (i := 2) rfl)
          injection hv with g1 g2 g3
          subst g1
          have HAT := Lib.hid hat
          obtain ⟨g12, rfl, _, _, y0⟩ := hat i k hk
          have HKI := Lib.hid hk
          have HTS : Hid (X.ks.take (i + 1) = X.ks.take i ++ [k]) := Lib.hid (by rw [List.take_add_one, hk]; rfl)
          obtain ⟨h0, rest, hof⟩ := List.exists_cons_of_ne_nil (ks_ne HF.out.wf (List.mem_of_getElem? hk))
          have HOF := Lib.hid hof
          clear hat g2 g3 hk hof
          go_wp2_with fail
          refine (Of_any _ _ _).mono ?_
          rintro e w5 ⟨bb, bk, rfl, k1, k2, l1, l2, hg⟩
          have HS5 := Lib.hid (HR.out.gr hg)
          have HT := Lib.hid (take_of HS5.out.ixp _ bb bk k1 k2)
          clear k1 k2 l1 l2 hg
          go_wp2_with fail
          refine Calls.mono HT.out ?_
          have hol : (X.of k).length ≤ 80 := Nat.le_trans (of_len HF.out.wf _) HE.out
          have hn0 : ((X.of k).length : Int) ≠ 0 := by rw [HOF.out]; simp; omega
          have hn1 : 0 < (X.of k).length := by omega
          rw [List.take_of_length_le (by omega)]
          rintro e w6 ⟨v16, rfl, hr, hg⟩
          obtain ⟨a16, c16, rfl, _⟩ := ownE_at hr.own
          have HS6 := Lib.hid (HS5.out.row hr hg)
          have hb0 : (((X.of k).length : Int) == 0) = false := beq_false_of_ne hn0
          have HPR := Lib.hid (HF.out.wf.ofPair k)
          clear hr hg HT y0
          go_upto_region 23 with fail
          go_cut [112] (fun t112 wx => t112 = .bool false ∧ Hid (SW w [ixA b X S, rowA 43 6 (.slice a16 (X.of k).length c16) (X.of k).length (rowE (X.of k)), rowA 43 6 u7 (bkL X (X.ks.take i)).length (rowE (bkL X (X.ks.take i))), rowA 9 1 (.slice (some ⟨g12, 0, none⟩) X.ks.length c12) X.ks.length (kS X.ks), rowA 43 6 u6 (X.ents).length (rowE (X.ents)), rowA 43 6 (.slice av all.length cv) all.length (rowE all)] wx))
          case first =>
            cases i with
            | zero =>
              go_wp2_with fail
              go_meet
              exact ⟨rfl, HS6⟩
            | succ i =>
              obtain ⟨k', hk'⟩ : ∃ k', X.ks[i]? = some k' := ⟨_, List.getElem?_eq_getElem (by omega)⟩
              obtain ⟨a12', c12', hv, _, _, hat⟩ := ownS_at (show Own w6 9 1 (.slice (some ⟨g12, 0, none⟩) X.ks.length c12) X.ks.length (kS X.ks) from HS6.out.get (i := 3) rfl)
              injection hv with g1 g2 g3
              subst g1
              obtain ⟨g12', hgg, _, _, y0⟩ := hat i k' hk'
              injection hgg with hgg
              injection hgg with hgg
              subst hgg
              have hlt1 : Op.bytesLess k'.toList k.toList = true := ks_lt HF.out.wf hk' HKI.out
              have hlt2 : Op.bytesLess k.toList k'.toList = false := by
                cases h : Op.bytesLess k.toList k'.toList with
                | false => rfl
                | true => exact absurd ((bl_irr k.toList).symm.trans (bl_trn _ _ _ h hlt1)) (by decide)
              have hne : (k'.toList == k.toList) = false := by
                rw [str_beq]
                refine decide_eq_false (fun e => ?_)
                rw [e, bl_irr] at hlt1
                cases hlt1
              clear hat g2 g3 hk'
              go_wp2_with fail
              go_meet
              exact ⟨rfl, HS6⟩
          case rest =>
            obtain ⟨rfl, HS7⟩ := hcut
            clear HS6 HS5 HR
            go_wp2_with fail
            go_loopw [115] (fun t115 wx => ∃ q : Nat, q ≤ (X.of k).length ∧ t115 = .int .i64 q ∧ Hid (SW w [ixA b X S, rowA 43 6 (.slice a16 (X.of k).length c16) (X.of k).length (rowE (X.of k)), rowA 43 6 u7 (bkL X (X.ks.take i)).length (rowE (bkL X (X.ks.take i))), rowA 9 1 (.slice (some ⟨g12, 0, none⟩) X.ks.length c12) X.ks.length (kS X.ks), rowA 43 6 u6 (X.ents).length (rowE (X.ents)), rowA 43 6 (.slice av all.length cv) all.length (rowE all)] wx)) (fun t115 _ => (X.of k).length - (intOf t115).toNat)
            case atStart => exact ⟨0, by omega, rfl, HS7⟩
            case round =>
              obtain ⟨q, hq, rfl, HI⟩ := hrel
              clear HS7
              by_cases hlq : q < (X.of k).length
              · have hlq' : (q : Int) < (X.of k).length := by omega
                obtain ⟨x, hx⟩ : ∃ x, (X.of k)[q]? = some x := ⟨_, List.getElem?_eq_getElem hlq⟩
                obtain ⟨a16', c16', hv, _, _, hat⟩ := ownE_at (show Own wr 43 6 (.slice a16 (X.of k).length c16) (X.of k).length (rowE (X.of k)) from HI.out.get (i := 1) rfl)
                injection hv with g1 g2 g3
                subst g1
                have HAT2 := Lib.hid hat
                have hkx : x.key = k := ((HF.out.of k x).1 (List.mem_of_getElem? hx)).2
                have hbk : (x.key.toList == k.toList) = true := by rw [str_beq]; exact decide_eq_true hkx
                obtain ⟨g16, rfl, _, _, hc⟩ := hat q x hx
                have y0 := hc 0 _ rfl
                have y1 := hc 1 _ rfl
                have y2 := hc 2 _ rfl
                have y3 := hc 3 _ rfl
                have y4 := hc 4 _ rfl
                have y5 := hc 5 _ rfl
                simp only [Nat.add_zero] at y0 y1 y2 y3 y4 y5
                have HX := Lib.hid hx
                clear hat g2 g3 hc hx hkx
                go_wp2_with fail
                obtain ⟨b18, hb18⟩ : ∃ b', b' = wr.heap.size := ⟨_, rfl⟩
                obtain ⟨w7, hw7⟩ : ∃ y, y = wr.alloc (.cells #[.int .i64 x.seq, .string x.key, .bool x.del, .int .i64 x.slot, .int .i64 x.off, .int .i64 x.size] 43) := ⟨_, rfl⟩
                have HG7 : Hid (Gr wr w7) := Lib.hid (by rw [hw7]; exact (Gr.refl wr).alloc _)
                have HB7 : Hid (w7.heap[b18]? = some (.cells #[.int .i64 x.seq, .string x.key, .bool x.del, .int .i64 x.slot, .int .i64 x.off, .int .i64 x.size] 43)) := Lib.hid (by rw [hw7, hb18]; exact blkNew wr _)
                rw [← hw7, ← hb18]
                clear hw7 hb18 y0 y1 y2 y3 y4 y5
                have dB := (cellsOf HB7.out).1
                have lB := blkLt HB7.out
                have HG := Gr.refl w7.drew
                cases q with
                | zero =>
                  refine wp_region_flo (fun _ => False) [] [] (by kernel_rfl) (by kernel_rfl) (fun _ h => h.elim) ?_
                  (try simp only [List.append_eq, List.cons_append, List.nil_append])
                  refine flo_seg 41 rfl ?_
                  simp only [List.take_succ_cons, List.take_zero, List.drop_succ_cons, List.drop_zero]
                  repeat (go_big_quiet_step (fail))
                  refine wpQuiet_nil ?_
                  refine flo_nil ?_
                  go_wp2_with fail
                  exact ⟨⟨1, by omega, by simp, Lib.hid (HI.out.gr (HG7.out.trans (Gr.refl _).drew))⟩, by simp [intOf]; omega⟩
                | succ q =>
                  obtain ⟨y, hy⟩ : ∃ y, (X.of k)[q]? = some y := ⟨_, List.getElem?_eq_getElem (by omega)⟩
                  obtain ⟨g16', hgg, _, _, hc⟩ := HAT2.out q y hy
                  injection hgg with hgg
                  injection hgg with hgg
                  subst hgg
                  have hlt := pair_at HPR.out hy HX.out
                  have hlt := of_decide_eq_true hlt
                  have z0 := HG7.out.keep (hc 0 _ rfl)
                  have z3 := HG7.out.keep (hc 3 _ rfl)
                  simp only [Nat.add_zero] at z0
                  have hgt : decide ((0 : Int) < (q : Int) + 1) = true := decide_eq_true (by omega)
                  have hd1 : decide (y.seq < x.seq) = false := decide_eq_false (by omega)
                  clear hc hy
                  by_cases hsq : y.seq = x.seq
                  · have hb1 : (y.seq == x.seq) = true := beq_iff_eq.2 hsq
                    have hd2 : decide (x.slot ≤ y.slot) = false := decide_eq_false (by omega)
                    clear hsq hlt
                    refine wp_region_flo (fun _ => False) [] [] (by kernel_rfl) (by kernel_rfl) (fun _ h => h.elim) ?_
                    (try simp only [List.append_eq, List.cons_append, List.nil_append])
                    refine flo_seg 41 rfl ?_
                    simp only [List.take_succ_cons, List.take_zero, List.drop_succ_cons, List.drop_zero]
                    repeat (go_big_quiet_step (fail))
                    refine wpQuiet_nil ?_
                    refine flo_nil ?_
                    go_wp2_with fail
                    exact ⟨⟨q + 1 + 1, by omega, by simp, Lib.hid (HI.out.gr (HG7.out.trans (Gr.refl _).drew))⟩, by simp [intOf]; omega⟩
                  · have hb1 : (y.seq == x.seq) = false := beq_false_of_ne hsq
                    clear hsq hlt
                    refine wp_region_flo (fun _ => False) [] [] (by kernel_rfl) (by kernel_rfl) (fun _ h => h.elim) ?_
                    (try simp only [List.append_eq, List.cons_append, List.nil_append])
                    refine flo_seg 41 rfl ?_
                    simp only [List.take_succ_cons, List.take_zero, List.drop_succ_cons, List.drop_zero]
                    repeat (go_big_quiet_step (fail))
                    refine wpQuiet_nil ?_
                    refine flo_nil ?_
                    go_wp2_with fail
                    exact ⟨⟨q + 1 + 1, by omega, by simp, Lib.hid (HI.out.gr (HG7.out.trans (Gr.refl _).drew))⟩, by simp [intOf]; omega⟩
              · have hlq' : ¬ (q : Int) < (X.of k).length := by omega
                obtain rfl : q = (X.of k).length := by omega
                have HNV : Hid (newV (X.of k) = .tuple #[enV h0, .bool true]) := Lib.hid (by rw [HOF.out]; rfl)
                go_wp2_with fail
                refine (Newest_any HI.out.ixp k).mono ?_
                rintro e w7 ⟨rfl, hg⟩
                rw [HNV.out]
                simp only [enV]
                have HI7 := Lib.hid (HI.out.gr hg)
                clear hg HI
                obtain ⟨a16', c16', hv, _, _, hat⟩ := ownE_at (show Own w7 43 6 (.slice a16 (X.of k).length c16) (X.of k).length (rowE (X.of k)) from HI7.out.get (i := 1) rfl)
                injection hv with g1 g2 g3
                subst g1
                obtain ⟨g16, rfl, _, _, hc⟩ := hat 0 h0 (by rw [HOF.out]; rfl)
                have r0 := hc 0 _ rfl
                have r1 := hc 1 _ rfl
                have r2 := hc 2 _ rfl
                have r3 := hc 3 _ rfl
                have r4 := hc 4 _ rfl
                have r5 := hc 5 _ rfl
                skip
                simp only [Nat.zero_mul, Nat.zero_add] at r0 r1 r2 r3 r4 r5
                clear hat g2 g3 hc
                go_wp2_with fail
                obtain ⟨b19, hb19⟩ : ∃ b', b' = w7.heap.size := ⟨_, rfl⟩
                obtain ⟨w8, hw8⟩ : ∃ y, y = w7.alloc (.cells #[.int .i64 h0.seq, .string h0.key, .bool h0.del, .int .i64 h0.slot, .int .i64 h0.off, .int .i64 h0.size] 43) := ⟨_, rfl⟩
                have HG8 : Hid (Gr w7 w8) := Lib.hid (by rw [hw8]; exact (Gr.refl w7).alloc _)
                have HB8 : Hid (w8.heap[b19]? = some (.cells #[.int .i64 h0.seq, .string h0.key, .bool h0.del, .int .i64 h0.slot, .int .i64 h0.off, .int .i64 h0.size] 43)) := Lib.hid (by rw [hw8, hb19]; exact blkNew w7 _)
                rw [← hw8, ← hb19]
                clear hw8 hb19
                have dB := (cellsOf HB8.out).1
                have lB := blkLt HB8.out
                replace r0 := HG8.out.keep r0
                replace r1 := HG8.out.keep r1
                replace r2 := HG8.out.keep r2
                replace r3 := HG8.out.keep r3
                replace r4 := HG8.out.keep r4
                replace r5 := HG8.out.keep r5
                have kn : ∀ w, (binOp .neq 43 (.agg #[.int .i64 h0.seq, .string h0.key, .bool h0.del, .int .i64 h0.slot, .int .i64 h0.off, .int .i64 h0.size]) (.agg #[.int .i64 h0.seq, .string h0.key, .bool h0.del, .int .i64 h0.slot, .int .i64 h0.off, .int .i64 h0.size])).run Try.prog w = .ok (.bool false) w := fun w => (neqE_run h0 h0 w).trans (by simp)
                have HG := Gr.refl w8.drew
                refine wp_region_flo (fun _ => False) [] [] (by kernel_rfl) (by kernel_rfl) (fun _ h => h.elim) ?_
                refine flo_seg 9 rfl ?_
                simp only [List.take_succ_cons, List.take_zero, List.drop_succ_cons, List.drop_zero]
                repeat (go_big_quiet_step (fail))
                refine wpQuiet_nil ?_
                refine flo_nil ?_
                have HI8 := Lib.hid (HI7.out.gr (HG8.out.trans (Gr.refl w8).drew))
                obtain ⟨w9, hw9⟩ : ∃ y, y = w8.drew := ⟨_, rfl⟩
                rw [← hw9] at HI8
                have r0 : w9.cell? ⟨g16, 0, none⟩ = some (.int .i64 h0.seq) := by rw [hw9]; exact (Gr.refl w8).drew.keep r0
                rw [← hw9]
                clear hw9 r1 r2 r3 r4 r5 dB lB HG kn
                have hbl := bkL_len HF.out.wf HE.out (X.ks.take i)
                rw [List.length_take] at hbl
                have HLF : Hid (lastF X (X.ks.take (i + 1)) = max (lastF X (X.ks.take i)) h0.seq) := Lib.hid (by rw [HTS.out, lastF_snoc, HOF.out]; rfl)
                generalize lastF X (X.ks.take i) = lf at *
                go_wp2_with (first
                  | (at_builtin; go_must (refine wpList_appv _ rfl (.tmp 183) (.tmp 184) 53 rfl 43 i0 _ 6 56 Try.underlying53 hi hz0 hz1 hz2 rfl (by decide) u7 (bkL X (X.ks.take i)).length (rowE (bkL X (X.ks.take i))) rfl (show Own w9 43 6 u7 (bkL X (X.ks.take i)).length (rowE (bkL X (X.ks.take i))) from HI8.out.get (i := 2) rfl) (some ⟨g16, 0, none⟩) (X.of k).length c16 (rowE (X.of k)) rfl (src_all (show Own w9 43 6 (.slice (some ⟨g16, 0, none⟩) (X.of k).length c16) (X.of k).length (rowE (X.of k)) from HI8.out.get (i := 1) rfl) (rowE_one _)) (by simp only [maxLen]; omega) (by omega) ?_); intro v2 w2 hA; have HAP := Lib.hid hA; clear hA)
                  | fail)
                have HI9 := HI8.out.at (i := 2) rfl (HAP.out.mdh (fun g h => h)) (fun k hk => .inl hk) (B := rowA 43 6 v2 (bkL X (X.ks.take (i + 1))).length (rowE (bkL X (X.ks.take (i + 1))))) (by
                  show Own _ _ _ _ _ _
                  rw [HTS.out, bkL_snoc, rowE_app, List.length_append]
                  exact HAP.out.1) (fun k hq => HAP.out.2.1 k hq)
                exact ⟨⟨i + 1, by omega, by simp, by rw [HLF.out, Int.max_def]; congr 1; split <;> split <;> omega, Lib.hid (HI9.sub (.cons_cons _ (.cons _ (List.Sublist.refl _))))⟩, by simp [intOf]; omega⟩
        · have hli' : ¬ (i : Int) < X.ks.length := by omega
          obtain rfl : i = X.ks.length := by omega
          rw [List.take_length] at HR
          have HBP := Lib.hid (bkL_all HF.out.wf)
          generalize bkL X X.ks = bk at *
          obtain ⟨a6, c6, rfl, _⟩ := ownE_at (show Own wr 43 6 u6 X.ents.length (rowE X.ents) from HR.out.get (i := 3) rfl)
          obtain ⟨a7, c7, rfl, _⟩ := ownE_at (show Own wr 43 6 u7 bk.length (rowE bk) from HR.out.get (i := 1) rfl)
          have HLL : Hid (lastF X (X.ks.take X.ks.length) = X.last) := Lib.hid (by rw [List.take_length]; rfl)
          have hbl : (bk.length : Int) = all.length := by rw [HBP.out.length_eq, HLN.out]
          have hel := HLN.out
          rw [HLL.out]
          go_wp2_with fail
          refine (Last_any HR.out.ixp).mono ?_
          rintro e w5 ⟨rfl, hg⟩
          have HS5 := Lib.hid (HR.out.gr hg)
          clear hg HR HLL
          go_wp2_with fail
          go_loopw [207] (fun t207 wx => ∃ q : Nat, q ≤ all.length ∧ t207 = .int .i64 q ∧ Hid (SW w [ixA b X S, rowA 43 6 (.slice a7 bk.length c7) (bk).length (rowE (bk)), rowA 9 1 (.slice a12 X.ks.length c12) X.ks.length (kS X.ks), rowA 43 6 (.slice a6 X.ents.length c6) (X.ents).length (rowE (X.ents)), rowA 43 6 (.slice av all.length cv) all.length (rowE all)] wx)) (fun t207 _ => all.length - (intOf t207).toNat)
          case atStart => exact ⟨0, by omega, rfl, HS5⟩
          case round =>
            obtain ⟨q, hq, rfl, HI⟩ := hrel
            clear HS5
            by_cases hlq : q < all.length
            · have hlq' : (q : Int) < all.length := by omega
              obtain ⟨x, hx⟩ : ∃ x, all[q]? = some x := ⟨_, List.getElem?_eq_getElem hlq⟩
              obtain ⟨av', cv', hv, _, _, hat⟩ := ownE_at (show Own wr 43 6 (.slice av all.length cv) all.length (rowE all) from HI.out.get (i := 4) rfl)
              injection hv with g1 g2 g3
              subst g1
              obtain ⟨gv, rfl, _, _, hc⟩ := hat q x hx
              have y0 := hc 0 _ rfl
              have y1 := hc 1 _ rfl
              have y2 := hc 2 _ rfl
              have y3 := hc 3 _ rfl
              have y4 := hc 4 _ rfl
              have y5 := hc 5 _ rfl
              simp only [Nat.add_zero] at y0 y1 y2 y3 y4 y5
              have HIN : Hid (x ∈ X.ents ∧ x ∈ bk) := Lib.hid (by
                have h1 := (HF.out.mem x).1 (List.mem_of_getElem? hx)
                exact ⟨h1, HBP.out.mem_iff.2 h1⟩)
              clear hat g2 g3 hc hx
              go_wp2_with fail
              obtain ⟨b22, hb22⟩ : ∃ b', b' = wr.heap.size := ⟨_, rfl⟩
              obtain ⟨w7, hw7⟩ : ∃ y, y = wr.alloc (.cells #[.int .i64 x.seq, .string x.key, .bool x.del, .int .i64 x.slot, .int .i64 x.off, .int .i64 x.size] 43) := ⟨_, rfl⟩
              have HI7 := Lib.hid (HI.out.gr ((Gr.refl wr).alloc (.cells #[.int .i64 x.seq, .string x.key, .bool x.del, .int .i64 x.slot, .int .i64 x.off, .int .i64 x.size] 43)))
              have HB7 : Hid (w7.heap[b22]? = some (.cells #[.int .i64 x.seq, .string x.key, .bool x.del, .int .i64 x.slot, .int .i64 x.off, .int .i64 x.size] 43)) := Lib.hid (by rw [hw7, hb22]; exact blkNew wr _)
              rw [← hw7] at HI7
              rw [← hw7, ← hb22]
              clear hw7 hb22 y0 y1 y2 y3 y4 y5 HI
              have dB := (cellsOf HB7.out).1
              refine (ContainsV X.ents (by omega) _ x _ (HI7.out.get (i := 3) rfl)).mono ?_
              rintro e w8 ⟨rfl, hg⟩
              rw [decide_eq_true HIN.out.1]
              have HI8 := Lib.hid (HI7.out.gr hg)
              have dB2 := (cellsOf (hg.blk HB7.out)).1
              clear hg dB HI7
              go_wp2_with fail
              refine (ContainsV bk (by omega) _ x _ (HI8.out.get (i := 1) rfl)).mono ?_
              rintro e w9 ⟨rfl, hg⟩
              rw [decide_eq_true HIN.out.2]
              have HI9 := Lib.hid (HI8.out.gr hg)
              clear hg dB2 HI8
              go_wp2_with fail
              exact ⟨⟨q + 1, by omega, by simp, HI9⟩, by simp [intOf]; omega⟩
            · have hlq' : ¬ (q : Int) < all.length := by omega
              go_wp2_with fail
              refine (ix_works _).mono ?_
              rintro e w13 ⟨rfl, hg⟩
              have HG := Lib.hid (HI.out.g.trans hg)
              clear hg
              go_wp2
              go_ret
              exact ⟨rfl, HG.out⟩
end Go.Proofs.Ytndknnhgdlgbgaa
