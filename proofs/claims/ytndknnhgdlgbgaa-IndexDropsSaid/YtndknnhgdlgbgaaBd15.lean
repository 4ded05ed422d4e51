/- An index has each entry once: what it has of a key, or in a slot, is what it has with that key, in that slot. No walk. -/
import Derived.Test.YtndknnhgdlgbgaaBd13
import Derived.Test.YtndknnhgdlgbgaaBd12
import Derived.WalkSpells
import Derived.Deep.DeepMust
import Derived.Test.YtndknnhgdlgbgaaBd14
set_option linter.unusedVariables false
set_option linter.unusedSimpArgs false
namespace Go.Proofs.Ytndknnhgdlgbgaa

theorem ents_nodup {X : IX} (h : X.Wf) : X.ents.Nodup := by
  refine (h.v.nodup_iff).1 ?_
  refine List.pairwise_flatMap.2 ⟨fun x hx => (h.k x hx).p.imp (fun {a b} hab e => by subst e; rw [ltE_irr] at hab; cases hab), ?_⟩
  refine List.Pairwise.imp_of_mem (fun {x y} hx hy hxy a ha b hb e => ?_) h.k0
  have h1 := (h.k x hx).e a ha
  have h2 := (h.k y hy).e b hb
  rw [← h1, ← h2, e] at hxy
  rw [ordS.irr] at hxy
  cases hxy
theorem of_nodup {X : IX} (h : X.Wf) (k : ByteArray) : (X.of k).Nodup := (h.ofPair k).imp (fun {a b} hab e => by subst e; rw [ltE_irr] at hab; cases hab)
def keyP (k : ByteArray) (e : En) : Bool := decide (e.key = k)
def slotP (s : Int) (e : En) : Bool := decide (e.slot = s)
theorem of_perm {X : IX} (h : X.Wf) (k : ByteArray) : (X.of k).Perm (X.ents.filter (keyP k)) :=
  (List.perm_ext_iff_of_nodup (of_nodup h k) ((ents_nodup h).filter _)).2 (fun e => by rw [h.of_mem, List.mem_filter, keyP, decide_eq_true_iff])
theorem slot_perm {X : IX} (h : X.Wf) (s : Int) : (X.slot s).Perm (X.ents.filter (slotP s)) :=
  (List.perm_ext_iff_of_nodup (slot_nodup (h.slotOk s)) ((ents_nodup h).filter _)).2 (fun e => by rw [h.slot_mem, List.mem_filter, slotP, decide_eq_true_iff])
end Go.Proofs.Ytndknnhgdlgbgaa

/- slices.Clone, Index, Contains at []api.Entry. -/
set_option linter.unusedVariables false
set_option linter.unusedSimpArgs false
namespace Go.Proofs.Ytndknnhgdlgbgaa
open Go.RowKit Go.Shelf
attribute [local go_sem] OvM cell_ovm obj_ovm

set_option maxRecDepth 40000 in
set_option maxHeartbeats 1000000 in
theorem CloneV (l : List En) (hlen : l.length ≤ 100000) (s : Sl) (w : World) (h : Own w 43 6 (slV s) l.length (rowE l)) :
    Calls Try.prog 45 #[slV s] w fun e w' => ∃ s' : Sl, e = .returned (slV s') ∧ Own w' 43 6 (slV s') l.length (rowE l) ∧ (∀ k, (slV s').ownBlock = some k → w.heap.size ≤ k) ∧ Gr w w' := by
  obtain ⟨i0, hi, hz0, hz1, hz2⟩ := info_parts infoIten
  obtain ⟨s1, s2, s3⟩ := s
  simp only [slV] at *
  rcases h.2 with ⟨hv, h0⟩ | ⟨g, cap, cur, hv, _, hg, h1, h2, h3, h4⟩
  · have k3 := @Lib.run_eql_slice_nil
    obtain rfl : l = [] := List.eq_nil_of_length_eq_zero h0
    injection hv with e1 e2 e3
    subst e1 e2 e3
    clear h
    go_enter Try.func45, Try.ntmps45
    go_wp2
    go_ret
    exact ⟨(none, 0, 0), rfl, nilRow _ _ _, fun k hk => by simp [Value.ownBlock] at hk, Gr.refl _⟩
  · injection hv with e1 e2 e3
    subst e1 e2 e3
    have k3 : ∀ w : World, (binOp .eql 53 (.slice (some ⟨g, 0, none⟩) l.length s3) (.slice none 0 0)).run Try.prog w = .ok (.bool false) w := fun w => Lib.run_eql_slice_nil w _ _ (some ⟨g, 0, none⟩) l.length s3 0 0 Try.underlying53
    have HC : Hid (∀ w1, Gr w w1 → ∀ j u, (rowE l)[j]? = some u → w1.cell? ((⟨g, 0, none⟩ : Addr).add j) = some u) := Lib.hid (fun w1 g1 j u hj => (h.gr g1).cells (g := g) rfl j u hj)
    have HR : Hid ((rowE l).length = l.length * 6) := Lib.hid (rowE_len l)
    have H1 := Lib.hid (rowE_one l)
    clear h hg h4
    go_enter Try.func45, Try.ntmps45
    go_wp2_with (at_builtin; go_must (refine wpList_append_own _ rfl (.tmp 5) (.tmp 6) 53 rfl w.heap.size 43 i0 _ 6 56 Try.underlying53 hi hz0 hz1 hz2 rfl (by decide) (.slice (some ⟨w.heap.size, 0, none⟩) 0 0) 0 [] rfl (World.ownsRow_made _ #[] 0 (Nat.le_refl _) (by simp only [maxLen]; omega) rfl) ⟨g, 0, none⟩ l.length s3 (rowE l) rfl HR.out (HC.out _ (by (repeat (first | (with_reducible exact Gr.refl _) | assumption | (with_reducible apply Gr.from_drew) | (with_reducible apply Gr.alloc) | (with_reducible apply Gr.drew) | (with_reducible refine Gr.trans ?_ (by assumption)) | (with_reducible refine Gr.setCell ?_ (by omega) _))))) H1.out (by simp only [maxLen]; omega) (by omega) (by simp) ?_); intro v' w2 hown2 hgrow hnil; have HO2 := Lib.hid hown2; have HG2 := Lib.hid hgrow; have HN := Lib.hid hnil; clear hown2 hgrow hnil)
    go_ret
    have ho := HO2.out
    simp only [Nat.zero_add, List.nil_append] at ho
    have hg := HG2.out
    have hv : ∃ s' : Sl, v' = slV s' := by
      rcases ho.2 with ⟨hv, _⟩ | ⟨g', cap', cur', hv, _⟩
      · exact ⟨(none, 0, 0), hv⟩
      · exact ⟨(_, _, _), hv⟩
    obtain ⟨s', rfl⟩ := hv
    refine ⟨s', rfl, Own.lift ho, fun k hk => (World.ownsRow.lt ho k hk).1, hg.os, hg.tape, hg.output, Nat.le_trans (by simp) hg.size, fun k hk => ?_⟩
    exact (hg.block k (by simp; omega) (by simp [Value.ownBlock]; omega)).trans (Below.heap_alloc w _ k hk)
attribute [local go_sem] Oper.semAt_some
def eqP (e o : En) : Bool := decide (e = o)
theorem eqP_any (e : En) (l : List En) : l.any (eqP e) = decide (e ∈ l) := by
  rw [Bool.eq_iff_iff, List.any_eq_true, decide_eq_true_iff]
  constructor
  · rintro ⟨x, hx, hp⟩
    obtain rfl := of_decide_eq_true hp
    exact hx
  · exact fun h => ⟨e, h, decide_eq_true rfl⟩
set_option maxRecDepth 40000 in
set_option maxHeartbeats 2000000 in
theorem IndexV (l : List En) (hn : l.length ≤ 1000000) (v : Value) (e : En) (w : World) (h : Own w 43 6 v l.length (rowE l)) :
    Calls Try.prog 107 #[v, enV e] w fun r w' => r = .returned (.int .i64 (idxV (eqP e) l)) ∧ Gr w w' := by
  obtain ⟨a1, cap1, rfl, hc1, hm1, hat1⟩ := ownE_at h
  have HAT := Lib.hid hat1
  clear h hat1
  unfold maxLen at hm1
  simp only [enV]
  go_enter Try.func107, Try.ntmps107
  go_wp2_with fail
  obtain ⟨b, hb⟩ : ∃ q, q = w.heap.size := ⟨_, rfl⟩
  obtain ⟨w1, hw1⟩ : ∃ y, y = w.alloc (.cells #[.int .i64 e.seq, .string e.key, .bool e.del, .int .i64 e.slot, .int .i64 e.off, .int .i64 e.size] 43) := ⟨_, rfl⟩
  have HB : Hid (Gr w w1 ∧ w1.heap[b]? = some (.cells #[.int .i64 e.seq, .string e.key, .bool e.del, .int .i64 e.slot, .int .i64 e.off, .int .i64 e.size] 43)) := Lib.hid (by rw [hw1, hb]; exact ⟨(Gr.refl w).alloc _, blkNew w _⟩)
  rw [← hw1, ← hb]
  clear hw1 hb
  go_loopw [8] (fun t8 wx => ∃ k : Nat, k ≤ l.length ∧ t8 = .int .i64 k ∧ Hid (k ≤ idxP (eqP e) l ∧ Gr w1 wx)) (fun t8 _ => l.length - (intOf t8).toNat)
  case atStart => exact ⟨0, by omega, rfl, Lib.hid ⟨by omega, Gr.refl _⟩⟩
  case round =>
    obtain ⟨k, hk, rfl, H⟩ := hrel
    by_cases hlt : k < l.length
    · have hlt' : (k : Int) < l.length := by omega
      have hx : l[k]? = some (l[k]'hlt) := List.getElem?_eq_getElem hlt
      obtain ⟨g0, rfl, z1, z2, hc⟩ := HAT.out k _ hx
      have HX := Lib.hid hx
      generalize l[k]'hlt = x at *
      have hr : ∀ i u, (enC x)[i]? = some u → wr.cell? ⟨g0, k * 6 + i, none⟩ = some u := fun i u hu => (HB.out.1.trans H.out.2).keep (hc i u hu)
      have d0 := hr 0 _ rfl
      have d1 := hr 1 _ rfl
      have d2 := hr 2 _ rfl
      have d3 := hr 3 _ rfl
      have d4 := hr 4 _ rfl
      have d5 := hr 5 _ rfl
      simp only [Nat.add_zero] at d0 d1 d2 d3 d4 d5
      have dB := (cellsOf (H.out.2.blk HB.out.2)).1
      have k1 := fun w => eqlE_run e x w
      clear hr hc hx z1 z2
      by_cases hxy : e = x
      · have hd : decide (e = x) = true := decide_eq_true hxy
        have HXY := Lib.hid hxy
        clear hxy
        go_wp2
        refine wp_region_flo (fun _ => False) [] [] (by kernel_rfl) (by kernel_rfl) (fun _ h => h.elim) ?_
        refine flo_seg 6 rfl ?_
        simp only [List.take_succ_cons, List.take_zero, List.drop_succ_cons, List.drop_zero]
        repeat (go_big_quiet_step (fail))
        refine wpQuiet_nil ?_
        refine flo_nil ?_
        go_wp2
        go_ret
        have hk2 : k = idxP (eqP e) l := by
          rcases Nat.eq_or_lt_of_le H.out.1 with h1 | h1
          · exact h1
          · have := cnt_lo (fun x => !eqP e x) l k x h1 HX.out
            rw [HXY.out] at this
            simp [eqP] at this
        exact ⟨ret_int (by unfold idxV; rw [if_pos (by omega), hk2]), (HB.out.1.trans H.out.2).trans (by (repeat (first | (with_reducible exact Gr.refl _) | assumption | (with_reducible apply Gr.from_drew) | (with_reducible apply Gr.alloc) | (with_reducible apply Gr.drew) | (with_reducible refine Gr.trans ?_ (by assumption)) | (with_reducible refine Gr.setCell ?_ (by omega) _))))⟩
      · have hd : decide (e = x) = false := decide_eq_false hxy
        have HXY := Lib.hid hxy
        clear hxy
        go_wp2
        refine wp_region_flo (fun _ => False) [] [] (by kernel_rfl) (by kernel_rfl) (fun _ h => h.elim) ?_
        refine flo_seg 6 rfl ?_
        simp only [List.take_succ_cons, List.take_zero, List.drop_succ_cons, List.drop_zero]
        repeat (go_big_quiet_step (fail))
        refine wpQuiet_nil ?_
        refine flo_nil ?_
        go_wp2
        go_roundw
        case rel => exact ⟨k + 1, by omega, by go_num, Lib.hid ⟨by
          rcases Nat.eq_or_lt_of_le H.out.1 with h1 | h1
          · have := cnt_at (fun x => !eqP e x) l x (by have := HX.out; rw [h1] at this; exact this)
            simp [eqP, HXY.out] at this
          · omega, H.out.2.trans (by (repeat (first | (with_reducible exact Gr.refl _) | assumption | (with_reducible apply Gr.from_drew) | (with_reducible apply Gr.alloc) | (with_reducible apply Gr.drew) | (with_reducible refine Gr.trans ?_ (by assumption)) | (with_reducible refine Gr.setCell ?_ (by omega) _))))⟩⟩
        case measure => simp [intOf]; omega
    · have hlt' : ¬ (k : Int) < l.length := by omega
      go_wp2
      go_ret
      have := H.out.1
      exact ⟨ret_int (by unfold idxV; rw [if_neg (by omega)]), HB.out.1.trans H.out.2⟩
set_option maxRecDepth 40000 in
theorem ContainsV (l : List En) (hn : l.length ≤ 1000000) (v : Value) (e : En) (w : World) (h : Own w 43 6 v l.length (rowE l)) :
    Calls Try.prog 41 #[v, enV e] w fun r w' => r = .returned (.bool (decide (e ∈ l))) ∧ Gr w w' := by
  have HC := Lib.hid (fun (w' : World) (g : Gr w w') => IndexV l hn v e w' (h.gr g))
  have HA : Hid (decide (idxP (eqP e) l < l.length) = decide (e ∈ l)) := Lib.hid (by rw [idxP_any, eqP_any])
  obtain ⟨a1, cap1, rfl, _, _, _⟩ := ownE_at h
  clear h
  simp only [enV] at HC ⊢
  go_enter Try.func41, Try.ntmps41
  go_wp2_with fail
  refine Calls.mono (HC.out _ ((Gr.refl w).alloc _)) ?_
  rintro r w1 ⟨rfl, hg⟩
  have HG := Lib.hid (((Gr.refl w).alloc _).trans hg)
  clear hg
  unfold idxV
  by_cases hlt : idxP (eqP e) l < l.length
  · rw [if_pos hlt]
    have h0 : (0 : Int) ≤ idxP (eqP e) l := by omega
    have HB : Hid (decide (e ∈ l) = true) := Lib.hid (by rw [← HA.out]; simpa using hlt)
    go_wp2
    go_ret
    exact ⟨ret_bool HB.out.symm, HG.out⟩
  · rw [if_neg hlt]
    have HB : Hid (decide (e ∈ l) = false) := Lib.hid (by rw [← HA.out]; simpa using hlt)
    go_wp2
    go_ret
    exact ⟨ret_bool HB.out.symm, HG.out⟩
end Go.Proofs.Ytndknnhgdlgbgaa

/- IndexDrops. -/
set_option linter.unusedVariables false
set_option linter.unusedSimpArgs false
namespace Go.Proofs.Ytndknnhgdlgbgaa
open Go.RowKit Go.Shelf
attribute [local go_sem] OvM cell_ovm obj_ovm
attribute [local go_sem] Oper.semAt_some

set_option maxRecDepth 40000 in
theorem drp1 (o : En) (s : Int) (b12 : Nat) (w : World) (h : w.heap[b12]? = some (.cells #[.int .i64 s] 3)) :
    Calls Try.prog 46 #[enV o, .pointer (some ⟨b12, 0, none⟩)] w fun r w' => r = .returned (.bool (inSl s o)) ∧ Gr w w' := by
  have c := (cellsOf h).1
  have l := blkLt h
  have HN : Hid (inSl s o = decide (o.slot = s)) := Lib.hid rfl
  rw [HN.out]
  simp only [enV]
  by_cases h1 : o.slot = s
  all_goals
    go_enter Try.func46, Try.ntmps46
    go_wp2
    go_ret
    exact ⟨ret_bool (by first | rfl | (simp_all; done) | (simp_all; omega)), by (repeat (first | (with_reducible exact Gr.refl _) | assumption | (with_reducible apply Gr.from_drew) | (with_reducible apply Gr.alloc) | (with_reducible apply Gr.drew) | (with_reducible refine Gr.trans ?_ (by assumption)) | (with_reducible refine Gr.setCell ?_ (by omega) _)))⟩
theorem drpP1 (s : Int) (b12 : Nat) (w : World) (T : Nat → Prop) (hT : ¬ T b12) (h : w.heap[b12]? = some (.cells #[.int .i64 s] 3)) :
    PredC 46 #[.pointer (some ⟨b12, 0, none⟩)] (inSl s) T w :=
  ⟨enters_of Try.func46 (by kernel_rfl) rfl, fun x w' m => drp1 x s b12 w' (m.blk h hT)⟩
def keys4 : List ByteArray := [⟨#[97]⟩, ⟨#[98]⟩, ⟨#[107, 101, 121]⟩, ⟨#[107, 45, 50]⟩]
theorem filter_take_succ (l : List En) (p : En → Bool) (i : Nat) (x : En) (h : l[i]? = some x) : ((l.take (i + 1)).filter p).length = ((l.take i).filter p).length + if p x then 1 else 0 := by
  rw [List.take_add_one, h, List.filter_append, List.length_append]
  simp only [Option.toList_some, List.filter_cons, List.filter_nil]
  cases p x <;> rfl
set_option maxRecDepth 40000 in
set_option maxHeartbeats 8000000 in
theorem IndexDrops_any (a : Option Addr) (len cap : Nat) (L : List Mv) (u : Int) (w : World) (hl : L.length = len) (hle : len ≤ cap) (hcap : cap ≤ maxLen) (hs : MovesAt w a L) (hu0 : 0 ≤ u) (hu1 : u ≤ 255) :
    Calls Try.prog 8 #[.slice a len cap, .int .u8 u] w fun e w' => e = .returned (.bool true) ∧ Gr w w' := by
  have HC := Lib.hid (filled_any a len cap L w hl hle hcap hs)
  have HF := Lib.hid (filS_fi hs (Nat.le_refl 80))
  have HE := Lib.hid (filS_ents hs (Nat.le_refl 80))
  obtain ⟨σ, hσ⟩ : ∃ σ : Nat, (σ : Int) = u % 5 := ⟨(u % 5).toNat, by omega⟩
  have hσ5 : σ < 5 := by omega
  have hσ' : u % 5 = (σ : Int) := hσ.symm
  clear hl hs hσ
  go_enter Try.func8, Try.ntmps8
  go_wp2_with fail
  refine Calls.mono HC.out ?_
  intro e w1 hp
  obtain ⟨b, S, av, cv, rfl, hs⟩ := hp.r
  have HS1 := Lib.hid hs
  generalize filS (L.take 80) = st at *
  obtain ⟨X, all, en, nx⟩ := st
  simp only at HF HS1 HE
  simp only
  have halen : all.length ≤ 80 := by have := HF.out.pm.length_eq; have := HE.out; omega
  obtain ⟨p1, p2, p3⟩ := HF.out.drop (s := (σ : Int)) (by omega) (by omega)
  have p4 : (dropX X σ).slot σ = [] := by rw [drop_slot HF.out.wf, if_pos rfl]
  obtain ⟨left, hleft⟩ : ∃ left, left = all.filter (fun o => !inSl σ o) := ⟨_, rfl⟩
  have p2' : (X.slot σ).length + left.length = all.length := by rw [hleft]; exact p2
  have p3' : FI (dropX X σ) left (upd en σ 0) nx (80 + 1) 5 := by rw [hleft]; exact p3
  have hll : left.length ≤ 80 := by omega
  have hlen : ((X.slot σ).length : Int) = (all.length : Int) - (left.length : Int) := by omega
  have HX := Lib.hid (And.intro p1 (And.intro p3' p4))
  have HLF := Lib.hid hleft
  clear p1 p2 p3 p4 p2' p3' hp hs HC hleft
  go_wp2_with fail
  obtain ⟨b8, hb8⟩ : ∃ q, q = w1.heap.size := ⟨_, rfl⟩
  obtain ⟨w2, hw2⟩ : ∃ y, y = w1.alloc (.cells #[.int .i64 σ] 3) := ⟨_, rfl⟩
  have HS2 : Hid (SW w [ixA b X S, blkA b8 (.cells #[.int .i64 σ] 3), rowA 43 6 (.slice av all.length cv) all.length (rowE all)] w2) := Lib.hid (by rw [hw2, hb8]; exact HS1.out.allocT _)
  rw [← hw2, ← hb8]
  clear hw2 hb8 HS1
  refine (Drop_any HS2.out.ix (σ : Int)).mono ?_
  rintro e w3 ⟨rfl, hp⟩
  obtain ⟨S3, hs⟩ := HS2.out.post hp
  have HS3 := Lib.hid hs
  rw [HX.out.1]
  generalize dropX X σ = X2 at *
  clear hs hp HS2
  go_wp2_with fail
  refine (CloneV all (by omega) (av, all.length, cv) w3 (HS3.out.get (i := 2) rfl)).mono ?_
  rintro e w4 ⟨s', rfl, ho, hn, hg⟩
  obtain ⟨a4, n4, c4⟩ := s'
  simp only [slV] at ho hn
  simp only [slV]
  obtain ⟨a4', c4', hv, _, _, _⟩ := ownE_at ho
  injection hv with g1 g2 g3
  subst g2
  have HS4 := Lib.hid (HS3.out.row ⟨ho, hn⟩ hg)
  have hne8 : ¬ (slV (a4, all.length, c4)).ownBlock = some b8 := own_ne (show Own w4 43 6 (slV (a4, all.length, c4)) all.length (rowE all) from ho) (show w4.heap[b8]? = _ from HS4.out.get (i := 2) rfl) (by decide)
  have HDF := Lib.hid (DeleteFE all (by omega) (a4, all.length, c4) w4 ho (drpP1 (σ : Int) b8 w4 _ hne8 (HS4.out.get (i := 2) rfl)))
  clear ho hn hg hne8 g1 g3 HS3
  go_wp2_with fail
  refine Calls.mono HDF.out ?_
  rintro r w5 ⟨s', rfl, ho, hk, hm⟩
  rw [← HLF.out] at ho
  obtain ⟨a9, n9, c9⟩ := s'
  simp only [slV] at ho hk hm
  simp only [slV]
  obtain ⟨a9', c9', hv, _, _, _⟩ := ownE_at ho
  injection hv with g1 g2 g3
  subst g2
  have HS5 : Hid (SW w [ixA b X2 S3, rowA 43 6 (.slice a9 left.length c9) left.length (rowE left), blkA b8 (.cells #[.int .i64 σ] 3), rowA 43 6 (.slice av all.length cv) all.length (rowE all)] w5) := Lib.hid (HS4.out.at (i := 1) rfl hm (fun k hk => .inl hk) ho (fun k hk' => .inl (hk k hk')))
  clear ho hk hm g1 g3 HDF HS4
  have d8 := (cellsOf (show w5.heap[b8]? = _ from HS5.out.get (i := 2) rfl)).1
  have HLL := Lib.hid HX.out.2.1.len
  go_wp2_with fail
  refine (Len_any HS5.out.ixp).mono ?_
  rintro e w6 ⟨rfl, rfl⟩
  rw [HLL.out]
  go_wp2_with fail
  refine (Slot_any _ _ _).mono ?_
  rintro e w6 ⟨bb, bk, rfl, k1, k2, l1, l2, hg⟩
  have HS6 := Lib.hid (HS5.out.gr hg)
  have HT := Lib.hid (take_slot HS6.out.ixp _ bb bk k1 k2)
  clear k1 k2 l1 l2 hg d8 HS5
  go_wp2_with fail
  refine Calls.mono HT.out ?_
  rw [HX.out.2.2]
  rintro e w7 ⟨v1, rfl, hr, hg⟩
  obtain ⟨a1, c1, rfl, _⟩ := ownE_at (l := []) hr.own
  have HS7 := Lib.hid (HS6.out.gr hg)
  clear hr hg HT HS6
  go_wp2_with fail
  obtain ⟨g, hg⟩ : ∃ q, q = w7.heap.size := ⟨_, rfl⟩
  obtain ⟨w8, hw8⟩ : ∃ y, y = w7.alloc (.cells (kS keys4).toArray 9) := ⟨_, rfl⟩
  have HS8 : Hid (SW w [ixA b X2 S3, blkA g (.cells (kS keys4).toArray 9), rowA 43 6 (.slice a9 left.length c9) left.length (rowE left), blkA b8 (.cells #[.int .i64 σ] 3), rowA 43 6 (.slice av all.length cv) all.length (rowE all)] w8) := Lib.hid (by rw [hw8, hg]; exact HS7.out.allocT _)
  simp only [kS, keys4, List.map_cons, List.map_nil] at hw8
  rw [← hw8, ← hg]
  clear hw8 hg HS7
  go_loopw [69] (fun t69 wx => ∃ j : Nat, j ≤ 4 ∧ t69 = .int .i64 j ∧ Hid (SW w [ixA b X2 S3, blkA g (.cells (kS keys4).toArray 9), rowA 43 6 (.slice a9 left.length c9) left.length (rowE left), blkA b8 (.cells #[.int .i64 σ] 3), rowA 43 6 (.slice av all.length cv) all.length (rowE all)] wx)) (fun t69 _ => 4 - (intOf t69).toNat)
  case atStart => exact ⟨0, by omega, rfl, HS8⟩
  case round =>
    obtain ⟨j, hj, rfl, HR⟩ := hrel
    clear HS8
    by_cases hlt : j < 4
    · have hlt' : (j : Int) < 4 := by omega
      obtain ⟨kk, hkk⟩ : ∃ kk, keys4[j]? = some kk := ⟨_, List.getElem?_eq_getElem (show j < 4 from hlt)⟩
      have d0 : wr.cell? ⟨g, j, none⟩ = some (.string kk) := ((cellsOf (show wr.heap[g]? = _ from HR.out.get (i := 1) rfl)).1 j).trans (by rw [List.getElem?_toArray, kS, List.getElem?_map, hkk]; rfl)
      clear hkk
      go_wp2_with fail
      refine (Of_any _ _ _).mono ?_
      rintro e w9 ⟨bb2, bk2, rfl, k1, k2, l1, l2, hg⟩
      have HS9 := Lib.hid (HR.out.gr hg)
      have HT := Lib.hid (take_of HS9.out.ixp _ bb2 bk2 k1 k2)
      clear k1 k2 l1 l2 hg d0 HR
      go_wp2_with fail
      refine Calls.mono HT.out ?_
      have hol : (X2.of kk).length ≤ 80 := by
        have h1 := of_len HX.out.2.1.wf kk
        have h2 := HX.out.2.1.pm.length_eq
        omega
      rw [List.take_of_length_le (by omega)]
      rintro e w10 ⟨v6, rfl, hr, hg⟩
      obtain ⟨a6, c6, rfl, _⟩ := ownE_at hr.own
      have HS10 := Lib.hid (HS9.out.row hr hg)
      clear hr hg HT HS9
      go_wp2_with fail
      go_loopw [15, 79] (fun t15 t79 wx => ∃ i : Nat, i ≤ left.length ∧ t79 = .int .i64 i ∧ t15 = .int .i64 ((left.take i).filter (keyP kk)).length ∧ Hid (SW w [ixA b X2 S3, rowA 43 6 (.slice a6 (X2.of kk).length c6) (X2.of kk).length (rowE (X2.of kk)), blkA g (.cells (kS keys4).toArray 9), rowA 43 6 (.slice a9 left.length c9) left.length (rowE left), blkA b8 (.cells #[.int .i64 σ] 3), rowA 43 6 (.slice av all.length cv) all.length (rowE all)] wx)) (fun _ t79 _ => left.length - (intOf t79).toNat)
      case atStart => exact ⟨0, by omega, rfl, by simp, HS10⟩
      case round =>
        obtain ⟨i, hi, rfl, rfl, HI⟩ := hrel
        clear HS10
        by_cases hli : i < left.length
        · have hli' : (i : Int) < left.length := by omega
          obtain ⟨x, hx⟩ : ∃ x, left[i]? = some x := ⟨_, List.getElem?_eq_getElem hli⟩
          obtain ⟨a9', c9', hv, _, _, hat⟩ := ownE_at (show Own wr 43 6 (.slice a9 left.length c9) left.length (rowE left) from HI.out.get (i := 3) rfl)
          injection hv with g1 g2 g3
          subst g1
          obtain ⟨g9, rfl, _, _, hc⟩ := hat i x hx
          have y0 := hc 0 _ rfl
          have y1 := hc 1 _ rfl
          have y2 := hc 2 _ rfl
          have y3 := hc 3 _ rfl
          have y4 := hc 4 _ rfl
          have y5 := hc 5 _ rfl
          simp only [Nat.add_zero] at y0 y1 y2 y3 y4 y5
          have HXI := Lib.hid (And.intro hx (List.mem_of_getElem? hx))
          have hcn : ((left.take i).filter (keyP kk)).length ≤ 80 := by
            have h1 := List.length_filter_le (keyP kk) (left.take i)
            rw [List.length_take] at h1
            omega
          clear hat g2 g3 hc hx
          by_cases hk : x.key = kk
          · have hb : (x.key.toList == kk.toList) = true := by rw [str_beq]; exact decide_eq_true hk
            have HIN : Hid (x ∈ X2.of kk) := Lib.hid ((HX.out.2.1.of kk x).2 ⟨HXI.out.2, hk⟩)
            have HK := Lib.hid hk
            clear hk
            go_wp2_with fail
            refine (ContainsV (X2.of kk) (by omega) _ x _ ((HI.out.gr ((Gr.refl wr).alloc _)).get (i := 1) rfl)).mono ?_
            rintro e w11 ⟨rfl, hg⟩
            rw [decide_eq_true HIN.out]
            have HI2 := Lib.hid (HI.out.gr (((Gr.refl wr).alloc _).trans hg))
            clear hg
            go_wp2_with fail
            have hf := filter_take_succ left (keyP kk) i x HXI.out.1
            rw [show keyP kk x = true from decide_eq_true HK.out, if_pos rfl] at hf
            exact ⟨⟨i + 1, by omega, by simp, by rw [hf]; simp, HI2⟩, by simp [intOf]; omega⟩
          · have hb : (x.key.toList == kk.toList) = false := by rw [str_beq]; exact decide_eq_false hk
            have HK := Lib.hid hk
            clear hk
            go_wp2_with fail
            have hf := filter_take_succ left (keyP kk) i x HXI.out.1
            rw [show keyP kk x = false from decide_eq_false HK.out, if_neg (by decide)] at hf
            exact ⟨⟨i + 1, by omega, by simp, by rw [hf]; simp, Lib.hid (HI.out.gr ((Gr.refl wr).alloc _))⟩, by simp [intOf]; omega⟩
        · have hli' : ¬ (i : Int) < left.length := by omega
          obtain rfl : i = left.length := by omega
          have hcn : ((left.take left.length).filter (keyP kk)).length = (X2.of kk).length := by
            rw [List.take_length, (of_perm HX.out.2.1.wf kk).length_eq, (HX.out.2.1.pm.filter _).length_eq]
          rw [hcn]
          clear hcn
          go_wp2_with fail
          exact ⟨⟨j + 1, by omega, by simp, Lib.hid (HI.out.sub (.cons_cons _ (.cons _ (List.Sublist.refl _))))⟩, by simp [intOf]; omega⟩
    · have hlt' : ¬ (j : Int) < 4 := by omega
      have d8 := (cellsOf (show wr.heap[b8]? = _ from HR.out.get (i := 3) rfl)).1
      have HDC : Hid (dropC X2 σ = 0) := Lib.hid (if_pos (HX.out.2.1.has (by omega) (by omega)))
      go_wp2_with fail
      refine (Drop_any HR.out.ix (σ : Int)).mono ?_
      rintro e w11 ⟨rfl, hp⟩
      obtain ⟨S11, hs⟩ := HR.out.post hp
      have HS11 := Lib.hid hs
      rw [HX.out.2.2, HDC.out]
      clear hs hp HR d8
      go_wp2_with fail
      refine (ix_works _).mono ?_
      rintro e w13 ⟨rfl, hg⟩
      have HG := Lib.hid (HS11.out.g.trans hg)
      clear hg
      go_wp2
      go_ret
      exact ⟨rfl, HG.out⟩
end Go.Proofs.Ytndknnhgdlgbgaa
