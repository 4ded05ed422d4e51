/- A copy of an index. -/
import Derived.Test.YtmdfickejpeofaaBd10
import Derived.Test.YtmdfickejpeofaaBd11
import Derived.Test.YtmdfickejpeofaaBd13
set_option linter.unusedVariables false
set_option linter.unusedSimpArgs false
namespace Go.Proofs.Ytmdfickejpeofaa
open Go.RowKit Go.Shelf
attribute [local go_sem] OvM cell_ovm obj_ovm
attribute [local go_sem] Oper.semAt_some

section
variable {w0 wl W W' : World} {A Z : Nat → Prop} {R R' : List Asn} {B : Asn}
theorem SWz.new (h : SWz w0 wl A R Z W) (hA : ∀ k, A k → k < wl.heap.size) (g : Gr W W') (hB : B.P W') (hn : ∀ k, B.S k → W.heap.size ≤ k) : SWz w0 wl A (B :: R) Z W' :=
  ⟨h.s.new g hB hn, fun C hC k hk hz => (List.mem_cons.1 hC).elim (fun e => by have := hn k (e ▸ hk); have := h.zl k hz; omega) (fun e => h.z C e k hk hz),
    fun C hC k hk ha => (List.mem_cons.1 hC).elim (fun e => by have := hn k (e ▸ hk); have := hA k ha; have := h.sz; omega) (fun e => h.a C e k hk ha),
    h.zn, fun k hk => Nat.lt_of_lt_of_le (h.zl k hk) g.sz, Nat.le_trans h.sz g.sz⟩
theorem SWz.perm (h : SWz w0 wl A R Z W) (p : R.Perm R') : SWz w0 wl A R' Z W := ⟨h.s.perm p, fun B hB => h.z B (p.mem_iff.2 hB), fun B hB => h.a B (p.mem_iff.2 hB), h.zn, h.zl, h.sz⟩
end
theorem info_list : (Try.prog.info? 137).map (fun i => (i.zero, i.size, i.bytes)) = some (some (.slice none 0 0), 1, 24) := by kernel_rfl
/-- The last one put. -/
theorem put_last {α : Type} {L : List (ByteArray × α)} {k : ByteArray} {v : α} (h : ∀ x ∈ L, ltS x.1 k = true) (hs : Srt ltS L) : putL ltS L k v = L ++ [(k, v)] := by
  have hr : rk ltS L k = L.length := by
    refine (rk_uniq ordS hs k L.length (Nat.le_refl _) (fun j x _ hx => h x (List.mem_of_getElem? hx)) (fun j x hj hx => ?_)).symm
    have := (List.getElem?_eq_some_iff.1 hx).1; omega
  have hl : look ltS L k = none := by
    rw [look_none ordS hs]
    intro v hv
    have := h _ hv
    rw [ordS.irr] at this
    cases this
  unfold putL
  rw [hl, hr, List.take_length, List.drop_length, List.append_nil]
/-- The map of the copy under way. -/
structure CpK (Y : Lay) (X : IX) (KL' : List (ByteArray × Sl)) (j : Nat) : Prop where
  k : KL'.map Prod.fst = (X.keys.take j).map Prod.fst
theorem CpK.put {Y : Lay} {X : IX} {KL' : List (ByteArray × Sl)} {j : Nat} (h : CpK Y X KL' j) (hX : X.Wf) {k : ByteArray} {l : List En} (hx : X.keys[j]? = some (k, l)) (s' : Sl) : putL ltS KL' k s' = KL' ++ [(k, s')] ∧ CpK Y X (KL' ++ [(k, s')]) (j + 1) := by
  have hj := (List.getElem?_eq_some_iff.1 hx).1
  have hsrt : Srt ltS (X.keys.take j) := hX.k0.sublist (List.take_sublist _ _)
  have hs1 : (KL'.map Prod.fst).Pairwise (fun a b => ltS a b = true) := by
    rw [h.k]; exact List.pairwise_map.2 hsrt
  refine ⟨put_last (fun x hx' => ?_) (List.pairwise_map.1 hs1), ⟨?_⟩⟩
  · have hm : x.1 ∈ KL'.map Prod.fst := List.mem_map_of_mem hx'
    rw [h.k] at hm
    obtain ⟨y, hy, hxy⟩ := List.mem_map.1 hm
    obtain ⟨i, hi, rfl⟩ := List.mem_iff_getElem.1 hy
    rw [List.length_take] at hi
    rw [List.getElem_take] at hxy
    have := List.pairwise_iff_getElem.1 hX.k0 i j (by omega) hj (by omega)
    rw [hxy, (List.getElem?_eq_some_iff.1 hx).2] at this
    exact this
  · rw [List.map_append, h.k, List.take_add_one, hx, List.map_append]
    rfl
theorem keyRows_snoc {KL : List (ByteArray × Sl)} {ks : List (ByteArray × List En)} (h : KL.length = ks.length) (k : ByteArray) (s : Sl) (l : List En) : keyRows (KL ++ [(k, s)]) (ks ++ [(k, l)]) = keyRows KL ks ++ [enA s l] := by
  unfold keyRows
  rw [List.zipWith_append h]
  rfl
theorem slotRows_snoc {SL : List Sl} {ls : List (List En)} (h : SL.length = ls.length) (s : Sl) (l : List En) : slotRows (SL ++ [s]) (ls ++ [l]) = slotRows SL ls ++ [enA s l] := by
  unfold slotRows
  rw [List.zipWith_append h]
  rfl
def CopyPost (X : IX) (w : World) (e : Ending) (w' : World) : Prop := ∃ b' S', e = .returned (.pointer (some ⟨b', 0, none⟩)) ∧ IXR w' b' X S' ∧ (∀ k, S' k → w.heap.size ≤ k) ∧ Gr w w'
abbrev cpHd (b3 bi bm : Nat) (v : Value) (KL : List (ByteArray × Sl)) (sv : Value) : List Asn := [blkA b3 (.cells #[.pointer (some ⟨bi, 0, none⟩)] 46), blkA bi (.cells #[.pointer (some ⟨bm, 0, none⟩), sv] 140), omA bm v KL]

set_option maxRecDepth 40000 in
set_option maxHeartbeats 8000000 in
theorem CopyX {w : World} {b : Nat} {X : IX} {S : Nat → Prop} (h : IXR w b X S) : Calls Try.prog 33 #[.pointer (some ⟨b, 0, none⟩)] w (CopyPost X w) := by
  have HI := Lib.hid h
  obtain ⟨h1, h2, Y, h3, h4, h5⟩ := h
  have HF := Lib.hid (show _ from And.intro h1 (And.intro h3 (And.intro h4 h5)))
  have db := (cellsOf (Lay.blk h3)).1
  have lb := blkLt (Lay.blk h3)
  obtain ⟨i0, hi, hz0, hz1, hz2⟩ := info_parts info_list
  clear h1 h2 h3 h4 h5
  refine calls_of_wp_marks Try.func33 rfl ?_
  simp only [Try.ntmps33, List.size_toArray, List.length_cons, List.length_nil, Nat.reduceAdd, Nat.reduceSub, Array.replicate_succ, Array.replicate_zero, List.push_toArray, List.append_toArray, List.nil_append, List.cons_append]
  go_wp2_with (first
    | (go_at_call 72; refine (made_yes HI.out).mono ?_; rintro e w1 ⟨rfl, rfl⟩)
    | fail)
  refine (NewOsl w).mono ?_
  rintro e w1 ⟨rfl, hom, hg1⟩
  have HOM := Lib.hid hom
  have HG1 := Lib.hid hg1
  have db1 := (cellsOf (hg1.blk (Lay.blk HF.out.2.1))).1
  have lb1 := blkLt (hg1.blk (Lay.blk HF.out.2.1))
  clear hom hg1 db lb
  go_wp2_with fail
  obtain ⟨bm, hbm⟩ : ∃ q, q = w.heap.size := ⟨_, rfl⟩
  obtain ⟨bi, hbi⟩ : ∃ q, q = w1.heap.size := ⟨_, rfl⟩
  refine (AllOsl _ _).mono ?_
  rintro e w2 ⟨bb, rfl, k1, l1, hg⟩
  have HS2 : Hid (SW w (cpHd (bi + 1) bi bm (.slice none 0 0) [] (.slice none 0 0)) w2) := Lib.hid (by
    have h1 : SW w [omA bm (.slice none 0 0) []] w1 := (SW.start w).new HG1.out (by rw [hbm]; exact HOM.out) (fun k hk => hk.elim (fun e => by omega) (fun e => by cases e))
    have h2 := (h1.alloc (.cells #[.pointer (some ⟨w.heap.size, 0, none⟩), .slice none 0 0] 140)).alloc (.cells #[.pointer (some ⟨w1.heap.size, 0, none⟩)] 46)
    simp only [World.size_alloc] at h2
    rw [← hbi, ← hbm] at h2
    rw [← hbi, ← hbm] at hg
    exact h2.gr hg)
  have HBB : Hid (bi + 2 ≤ bb ∧ bb < w2.heap.size) := Lib.hid ⟨by simp only [World.size_alloc] at l1; omega, World.block_lt_of_cell? w2 _ k1⟩
  have HG2 : Hid (Gr w w2) := Lib.hid HS2.out.g
  have hKL : Y.KL.length ≤ 16384 := by
    have e1 := congrArg List.length HF.out.2.2.1.k
    simp only [List.length_map] at e1
    have e3 := HF.out.1.keys_le
    omega
  have HKL := Lib.hid hKL
  obtain ⟨A, hA⟩ : ∃ A : Nat → Prop, A = fun k => k = bb ∨ OMB (some ⟨Y.bm, 0, none⟩) Y.v k := ⟨_, rfl⟩
  have HOB : Hid (∀ k, OMB (some ⟨Y.bm, 0, none⟩) Y.v k → k < w.heap.size) := Lib.hid (fun k hk => HF.out.2.1.lt (A := omA Y.bm Y.v Y.KL) (by simp [Lay.list, Lay.hd]) k (hk.elim (fun ⟨a, e, hk⟩ => .inl (by cases e; exact hk)) .inr))
  have HAL : Hid (∀ k, A k → k < w2.heap.size) := Lib.hid (fun k hk => by
    rw [hA] at hk
    have := HG2.out.sz
    rcases hk with rfl | hk
    · exact HBB.out.2
    · have := HOB.out k hk; omega)
  have HSEQ : Hid (SeqZ Fence.wide 2 Try.prog 157 #[.pointer (some ⟨bb, 0, none⟩)] encOsl A (fun xs => xs = Y.KL) (fun pre => pre <+: Y.KL) w2) := Lib.hid (by
    rw [hA]
    exact SeqAsl (some ⟨Y.bm, 0, none⟩) Y.v Y.KL (by omega) bb w2 (.inl ⟨_, rfl, (Lay.om HF.out.2.1).gr HG2.out⟩) k1)
  have HCP0 : Hid (CpK Y X [] 0) := Lib.hid ⟨by simp⟩
  have HZ : Hid (SWz w w2 A (cpHd (bi + 1) bi bm (.slice none 0 0) [] (.slice none 0 0) ++ keyRows [] (X.keys.take 0)) (fun _ => False) w2) := Lib.hid (SWz.start (by simpa [keyRows] using HS2.out) (fun B hB k hk ha => by
    rw [List.take_zero] at hB
    have hB' : B ∈ cpHd (bi + 1) bi bm (.slice none 0 0) [] (.slice none 0 0) := by simpa [keyRows] using hB
    have l2 := HS2.out.n B hB' k hk
    rw [hA] at ha
    rcases ha with rfl | ha
    · have := HBB.out.1
      have hgz := HG1.out.sz
      simp only [cpHd, List.mem_cons, List.not_mem_nil, or_false] at hB'
      rcases hB' with rfl | rfl | rfl
      · have : k = bi + 1 := hk; omega
      · have : k = bi := hk; omega
      · rcases hk with e | e
        · omega
        · cases e
    · have := HOB.out k ha; omega))
  have HBI := Lib.hid (And.intro hbm hbi)
  rw [← hbm, ← hbi]
  clear k1 l1 hg hKL hA hbm hbi db1 lb1
  go_wp2_with fail
  apply wp_rangeFunc_zb (gf := 157) (lb := #[.pointer (some ⟨bb, 0, none⟩)]) rfl (enters_of Try.func157 (by kernel_rfl) rfl) HSEQ.out (Mdh.refl _ w2) HAL.out (fun _ => rfl)
    (fun Z pre X' => ∃ v KL, CpK Y X KL pre.length ∧ SWz w w2 A (cpHd (bi + 1) bi bm v KL (.slice none 0 0) ++ keyRows KL (X.keys.take pre.length)) Z X')
    (fun _ _ _ => False) (fun _ _ _ => False)
    (Apart.ex fun v => Apart.ex fun KL => (Apart.pure (fun pre : List Itsl => CpK Y X KL pre.length)).and (SWz.apart HG2.out.sz (fun pre : List Itsl => cpHd (bi + 1) bi bm v KL (.slice none 0 0) ++ keyRows KL (X.keys.take pre.length)))) apart_no apart_no
    ⟨_, _, HCP0.out, HZ.out⟩ _ ?assign ?body ?hend ?hret
  case hret => intro _ _ _ _ _ _ _ h; exact h.elim
  case assign =>
    intro l x X' K hK
    dsimp only [encOsl]
    gi_wp2
    exact hK
  case body =>
    intro l Z pre x X' hI hsp
    obtain ⟨v, KL, hcp, hZ⟩ := hI
    have HZI := Lib.hid hZ
    have HCP := Lib.hid hcp
    have hx : Y.KL[pre.length]? = some x := by
      obtain ⟨t, ht⟩ := hsp
      rw [← ht]
      simp
    obtain ⟨x1, x2⟩ := x
    obtain ⟨l', hl'⟩ : ∃ l', X.keys[pre.length]? = some (x1, l') := by
      have := keys_at HF.out.2.2.1.k pre.length
      rw [hx] at this
      cases h : X.keys[pre.length]? with
      | none => rw [h] at this; cases this
      | some y =>
        rw [h] at this
        obtain ⟨y1, y2⟩ := y
        have e : x1 = y1 := Option.some.inj this
        subst e
        exact ⟨y2, rfl⟩
    have HL' := Lib.hid hl'
    have HLE : Hid (l'.length ≤ 16384) := Lib.hid (by
      have h1 : X.of x1 = l' := by unfold IX.of; rw [(look_mem ordS HF.out.1.k0 x1 l').2 (List.mem_of_getElem? hl')]; rfl
      have := HF.out.1.of_le x1
      rwa [h1] at this)
    have HOW : Hid (Own X' 53 6 (slV x2) l'.length (rowE l')) := Lib.hid ((HF.out.2.1.get (Lay.key_mem hx hl')).gr hZ.s.g)
    have HB3 := Lib.hid (show X'.heap[bi + 1]? = _ from hZ.s.get (i := 0) rfl)
    have HBX := Lib.hid (show X'.heap[bi]? = _ from hZ.s.get (i := 1) rfl)
    have HOM' := Lib.hid (show OMsl X' bm v KL from hZ.s.get (i := 2) rfl)
    have HOML : Hid (∀ k, (k = bm ∨ v.ownBlock = some k) → k < X'.heap.size) := Lib.hid (fun k hk => hZ.s.s.lt (A := omA bm v KL) (by simp [cpHd]) k hk)
    have hKL : KL.length ≤ 16384 := by
      have e1 := congrArg List.length hcp.k
      simp only [List.length_map, List.length_take] at e1
      have := HF.out.1.keys_le
      omega
    have HKL := Lib.hid hKL
    have hbb : bm < bi := by have := blkLt HOM.out.blk; have := HBI.out; omega
    have m1 : ¬ bi + 1 = bm := by omega
    have m2 : ¬ v.ownBlock = some (bi + 1) := own_ne HOM'.out.own HB3.out (by decide)
    have m3 : ¬ bi = bm := by omega
    have m4 : ¬ v.ownBlock = some bi := own_ne HOM'.out.own HBX.out (by decide)
    have d3 := (cellsOf HB3.out).1
    have dx := (cellsOf HBX.out).1
    clear hcp hZ hsp hx hl' hKL
    obtain ⟨s1, s2, s3⟩ := x2
    simp only [slV] at *
    gi_wp2_with fail
    refine wpIn_region_flo (fun _ => trivial) rfl (fun k => k = bm ∨ v.ownBlock = some k) [] [] (by kernel_rfl) (by kernel_rfl) (HOML.out) ?_
    refine flo_seg 6 rfl ?_
    simp only [List.take_succ_cons, List.take_zero, List.drop_succ_cons, List.drop_zero]
    repeat (go_big_quiet_step (fail))
    refine wpQuiet_nil ?_
    refine flo_eff rfl rfl rfl rfl (fun K hK => ?_)
    gi_wp2_with ((refine ⟨trivial, ?_⟩; gi_at_call 84; refine (CallsIn.inRound l (callsIn_wide.2 (CloneE l' (by have := HLE.out; omega) (s1, s2, s3) X'.drew (HOW.out.gr (Gr.refl _).drew)))).mono ?_; rintro e w3 ⟨⟨q1, q2, q3⟩, rfl, ho3, hn3, hg3⟩; simp only [slV] at ho3 hn3; simp only [slV]; have HO3 := Lib.hid ho3; have HN3 := Lib.hid hn3; have HGD := Lib.hid hg3; have HG3 := Lib.hid (((Gr.refl _).drew).trans hg3); clear ho3 hn3 hg3))
    refine ⟨by first | exact HGD.out.mdh _ | exact HG3.out.mdh _, ?_⟩
    refine flo_eff rfl rfl rfl rfl (fun K hK => ?_)
    gi_wp2_with ((refine ⟨trivial, ?_⟩; gi_at_call 83; refine (CallsIn.inRound l (callsIn_wide.2 (Setsl bm v KL x1 (q1, q2, q3) w3 (HOM'.out.gr HG3.out) (by have := HKL.out; omega)))).mono ?_; rintro e w4 ⟨rfl, v', hm4, ho4, hd4⟩; have HM4 := Lib.hid hm4; have HO4 := Lib.hid ho4; have HD4 := Lib.hid hd4; clear hm4 ho4 hd4))
    refine ⟨by first | exact HD4.out | exact HD4.out.mono (fun k hk => .inl hk), ?_⟩
    refine flo_nil ?_
    gi_wp2_with fail
    have hp := HCP.out.put HF.out.1 HL'.out (q1, q2, q3)
    have hkl : KL.length = (X.keys.take pre.length).length := by simpa using congrArg List.length HCP.out.k
    have z4 := HZI.out.new HAL.out HG3.out (B := enA (q1, q2, q3) l') HO3.out HN3.out
    have z5 := z4.step (i := 3) (B' := omA bm v' (KL ++ [(x1, (q1, q2, q3))])) rfl HAL.out HD4.out (fun k hk => .inl hk) (by rw [← hp.1]; exact HM4.out) (fun k hk => hk.elim (fun e => .inl (.inl e)) (fun e => (HO4.out k e).imp .inr (fun h => h)))
    refine ⟨(HG3.out.mdh _).trans z5.2, v', KL ++ [(x1, (q1, q2, q3))], by rw [List.length_append]; exact hp.2, ?_⟩
    rw [List.length_append, show ([(x1, (s1, s2, s3))] : List Itsl).length = 1 from rfl, List.take_add_one, HL'.out, show (some (x1, l')).toList = [(x1, l')] from rfl, keyRows_snoc hkl]
    refine z5.1.perm ?_
    have e1 : ((enA (q1, q2, q3) l' :: (cpHd (bi + 1) bi bm v KL (.slice none 0 0) ++ keyRows KL (X.keys.take pre.length))).set 3 (omA bm v' (KL ++ [(x1, (q1, q2, q3))]))) = [enA (q1, q2, q3) l'] ++ (cpHd (bi + 1) bi bm v' (KL ++ [(x1, (q1, q2, q3))]) (.slice none 0 0) ++ keyRows KL (X.keys.take pre.length)) := rfl
    rw [e1]
    exact List.perm_append_comm.trans (by rw [List.append_assoc])
  case hend =>
    intro Z D xs W hD hZD hcase hdef
    obtain ⟨hxs, v, KL, hcp, hZ⟩ := hcase.elim (fun h => h) (fun h => h.2.elim)
    have hxs' : xs = Y.KL := hxs
    subst hxs'
    have hkl : Y.KL.length = X.keys.length := by simpa using congrArg List.length HF.out.2.2.1.k
    rw [hkl, List.take_length] at hZ
    have HK : Hid (KL.map Prod.fst = X.keys.map Prod.fst) := Lib.hid (by have := hcp.k; rwa [hkl, List.take_length] at this)
    have HD := Lib.hid (And.intro hD hdef)
    have hdz : ∀ B ∈ cpHd (bi + 1) bi bm v KL (.slice none 0 0) ++ keyRows KL X.keys, ∀ k, B.S k → k ≠ D := fun B hB k hk e => hZ.z B hB k hk (e ▸ hZD)
    have hnD : w.heap.size ≤ D := Nat.le_trans HG2.out.sz hD
    have HS0 : Hid (SW w (blkA D (.deferred (some [])) :: (cpHd (bi + 1) bi bm v KL (.slice none 0 0) ++ (rowA 137 1 (.slice none 0 0) 0 [] :: (keyRows KL X.keys ++ slotRows [] [])))) W) := Lib.hid (by
      have h1 : SW w (blkA D (.deferred (some [])) :: (cpHd (bi + 1) bi bm v KL (.slice none 0 0) ++ keyRows KL X.keys)) W := ⟨hZ.s.g, ⟨fun B hB => (List.mem_cons.1 hB).elim (fun e => e ▸ hdef) (hZ.s.s.1 B), List.pairwise_cons.2 ⟨fun B hB k hk hb => hdz B hB k hb hk, hZ.s.s.2⟩⟩, fun B hB k hk => (List.mem_cons.1 hB).elim (fun e => by rw [e] at hk; rw [show k = D from hk]; exact hnD) (fun e => hZ.s.n B e k hk)⟩
      have h2 := h1.new (Gr.refl _) (A := rowA 137 1 (.slice none 0 0) 0 []) (nilRow _ _ _) (fun k hk => by cases hk)
      refine h2.perm ?_
      rw [show slotRows [] [] = [] from rfl, List.append_nil]
      exact (List.perm_middle (l₁ := blkA D (.deferred (some [])) :: cpHd (bi + 1) bi bm v KL (.slice none 0 0))).symm)
    have HC : Hid (∃ g cap, w.heap[b]? = some (.cells #[.pointer (some ⟨Y.bm, 0, none⟩), .slice (some ⟨g, 0, none⟩) X.slots.length cap] 140) ∧ X.slots.length ≤ cap ∧ cap ≤ maxLen ∧ ∀ j l, X.slots[j]? = some l → ∃ s : Sl, w.cell? ⟨g, j, none⟩ = some (slV s) ∧ Own w 53 6 (slV s) l.length (rowE l)) := Lib.hid (by
      rcases (Lay.srow HF.out.2.1).2 with ⟨_, h0⟩ | ⟨g, cap, cur, hv, _, hg, c1, c2, c3, c4⟩
      · exact absurd (List.eq_nil_of_length_eq_zero h0) HI.out.pos
      · have hb := Lay.blk HF.out.2.1
        rw [hv] at hb
        refine ⟨g, cap, hb, c1, c2, fun j l hj => ?_⟩
        have hjl := (List.getElem?_eq_some_iff.1 hj).1
        have hs : X.has j = true := by simp [IX.has]; omega
        obtain ⟨i, sl, g', cap', e1, hlt, hsl, hsx, hsv, c1, c2, hc, ho, hm⟩ := Lay.slotE HF.out.2.1 HF.out.2.2.1 hs
        obtain rfl : j = i := by omega
        rw [hv] at hsv
        injection hsv with e2 _ _
        injection e2 with e2
        injection e2 with e2 _ _
        subst e2
        rw [hsx] at hj
        obtain rfl := Option.some.inj hj
        exact ⟨sl, hc, ho⟩)
    obtain ⟨g, cap, hb, hcn, hcm, hcs⟩ := HC.out
    have HCS := Lib.hid hcs
    have HGW := Lib.hid hZ.s.g
    have db := (cellsOf (hZ.s.g.blk hb)).1
    have h32 := HF.out.1.n
    unfold maxLen at hcm
    clear hcp hZ hcase hxs hdz hD hdef hnD hkl hb hcs
    dsimp only
    go_wp2_with fail
    go_loopw [34] (fun t34 wx => ∃ (j : Nat) (sv : Value) (SL : List Sl), j ≤ X.slots.length ∧ t34 = .int .i64 j ∧ Hid (SL.length = j ∧ SW w (blkA D (.deferred (some [])) :: (cpHd (bi + 1) bi bm v KL sv ++ (rowA 137 1 sv j (SL.map slV) :: (keyRows KL X.keys ++ slotRows SL (X.slots.take j))))) wx)) (fun t34 _ => X.slots.length - (intOf t34).toNat)
    case atStart => exact ⟨0, _, [], by omega, rfl, Lib.hid ⟨rfl, HS0.out⟩⟩
    case round =>
      obtain ⟨j, sv, SL, hj, rfl, HR⟩ := hrel
      by_cases hlt : j < X.slots.length
      · have hlt' : (j : Int) < X.slots.length := by omega
        obtain ⟨l, hl⟩ : ∃ l, X.slots[j]? = some l := ⟨_, List.getElem?_eq_getElem hlt⟩
        obtain ⟨⟨s1, s2, s3⟩, hc, ho⟩ := HCS.out j l hl
        simp only [slV] at hc ho
        have HL := Lib.hid hl
        have HOW := Lib.hid (ho.gr HR.out.2.g)
        have dg := HR.out.2.g.keep hc
        have db := (cellsOf (HR.out.2.g.blk (show w.heap[b]? = _ from HC.out.choose_spec.choose_spec.1))).1
        have HLL : Hid (l.length ≤ 512) := Lib.hid (by have := HF.out.1.slot_le j; rwa [slot_at hl] at this)
        have HB3 := Lib.hid (show wr.heap[bi + 1]? = _ from HR.out.2.get (i := 1) rfl)
        have HBX := Lib.hid (show wr.heap[bi]? = _ from HR.out.2.get (i := 2) rfl)
        have HSR := Lib.hid (show Own wr 137 1 sv j (SL.map slV) from HR.out.2.get (i := 4) rfl)
        have m2 : ¬ sv.ownBlock = some (bi + 1) := own_ne HSR.out HB3.out (by decide)
        have m4 : ¬ sv.ownBlock = some bi := own_ne HSR.out HBX.out (by decide)
        have HM4 := Lib.hid m4
        have d3 := (cellsOf HB3.out).1
        have dx := (cellsOf HBX.out).1
        have mixed : Try.prog.follows .mixedOrders = true := by kernel_rfl
        clear hl hc ho
        go_wp2_with fail
        refine wp_region_flt 9 (fun q => sv.ownBlock = some q) [] [] (by kernel_rfl) (by kernel_rfl) (by decide) (by kernel_rfl) (fun q hq => HSR.out.lt hq) ?_
        simp only [List.take_succ_cons, List.take_zero, List.drop_succ_cons, List.drop_zero]
        refine flo_seg 6 rfl ?_
        simp only [List.take_succ_cons, List.take_zero, List.drop_succ_cons, List.drop_zero]
        repeat (go_big_quiet_step (fail))
        refine wpQuiet_nil ?_
        refine flo_eff rfl rfl rfl rfl (fun K hK => ?_)
        go_wp2_with ((go_at_call 84; refine (CloneE l (by have := HLL.out; omega) (s1, s2, s3) wr.drew (HOW.out.gr (Gr.refl _).drew)).mono ?_; rintro e w3 ⟨⟨q1, q2, q3⟩, rfl, ho3, hn3, hg3⟩; simp only [slV] at ho3 hn3; simp only [slV]; have HO3 := Lib.hid ho3; have HN3 := Lib.hid hn3; have HGD := Lib.hid hg3; have HG3 := Lib.hid (((Gr.refl _).drew).trans hg3); clear ho3 hn3 hg3))
        refine ⟨by first | exact HGD.out.mdh _ | exact HG3.out.mdh _, ?_⟩
        refine flo_eff rfl rfl rfl rfl (fun K hK => ?_)
        go_wp2
        refine ⟨by (first | (refine Gr.mdh ?_ _; (repeat (first | (with_reducible exact Gr.refl _) | assumption | (with_reducible apply Gr.from_drew) | (with_reducible apply Gr.alloc) | (with_reducible apply Gr.drew) | (with_reducible refine Gr.trans ?_ (by assumption)) | (with_reducible refine Gr.setCell ?_ (by omega) _))); done) | (repeat (first | (with_reducible exact Mdh.refl _ _) | (with_reducible refine Mdh.setCell ?_ (by simp) _) | (with_reducible refine Mdh.setNew ?_ (by simp) _) | (with_reducible apply Mdh.alloc) | (with_reducible apply Mdh.from_drew) | (with_reducible apply Mdh.drew) | (with_reducible refine Mdh.gr ?_ (by assumption))))), ?_⟩
        refine flo_eff rfl rfl rfl rfl (fun K hK => ?_)
        refine wp_appv _ (.tmp 42) (.tmp 45) 138 rfl 137 i0 _ 1 24 Try.underlying138 hi hz0 hz1 hz2 rfl (by decide) sv j (SL.map slV) rfl ((HSR.out.gr HG3.out).gr (by (repeat (first | (with_reducible exact Gr.refl _) | assumption | (with_reducible apply Gr.from_drew) | (with_reducible apply Gr.alloc) | (with_reducible apply Gr.drew) | (with_reducible refine Gr.trans ?_ (by assumption)) | (with_reducible refine Gr.setCell ?_ (by omega) _))))) (some ⟨w3.heap.size, 0, none⟩) 1 1 [.slice q1 q2 q3] rfl ((src_newK w3 [.slice q1 q2 q3] _ 1 rfl (by simp [Value.oneCell'])).gr (by (repeat (first | (with_reducible exact Gr.refl _) | assumption | (with_reducible apply Gr.from_drew) | (with_reducible apply Gr.alloc) | (with_reducible apply Gr.drew) | (with_reducible refine Gr.trans ?_ (by assumption)) | (with_reducible refine Gr.setCell ?_ (by omega) _))))) (by simp only [maxLen]; omega) (by omega) (fun v' xa hk => ?_); obtain ⟨a', c', rfl⟩ := hk.val; have HK' := Lib.hid hk; refine hK _ _ ⟨hk.mdh (fun q hq => .inl hq), ?_⟩; simp only [Act.put, List.setIfInBounds_toArray, List.set_cons_succ, List.set_cons_zero]
        refine flo_nil ?_
        have z1 := HR.out.2.new HG3.out (A := enA (q1, q2, q3) l) HO3.out HN3.out
        have z2 := z1.gr ((Gr.refl w3).alloc (.cells #[.slice q1 q2 q3] 137))
        have hm := hk.mdh (fun g h => h)
        have z3 := z2.at (i := 5) (B := rowA 137 1 (.slice a' (j + 1) c') (j + 1) (SL.map slV ++ [Value.slice q1 q2 q3])) rfl hm (fun k hk => .inl hk) hk.1 (fun k hq => hk.2.1 k hq)
        have HZ3 := Lib.hid z3
        have b1 : xa.heap[bi]? = some (.cells #[.pointer (some ⟨bm, 0, none⟩), sv] 140) := HZ3.out.get (i := 3) rfl
        have HB1 := Lib.hid b1
        have f1 := (cellsOf b1).1
        have ff := (cellsOf b1).2
        clear hk z1 z2 z3 hm b1 m2 m4 d3 dx dg db
        go_wp2_with fail
        have z4 := HZ3.out.at (i := 3) (B := blkA bi (.cells #[.pointer (some ⟨bm, 0, none⟩), .slice a' (j + 1) c'] 140)) rfl ((Mdh.refl (fun k => k = bi) xa).setCell (p := ⟨bi, 1, none⟩) rfl (.slice a' (j + 1) c')) (fun k hk => .inl hk) (blkSet (j := 1) (u := .slice a' (j + 1) c') HB1.out) (fun k hk => .inl hk)
        have hsn : slotRows (SL ++ [(q1, q2, q3)]) (X.slots.take (j + 1)) = slotRows SL (X.slots.take j) ++ [enA (q1, q2, q3) l] := by
          rw [List.take_add_one, HL.out]
          exact slotRows_snoc (by rw [HR.out.1, List.length_take]; omega) _ _
        go_roundw
        case rel =>
          refine ⟨j + 1, .slice a' (j + 1) c', SL ++ [(q1, q2, q3)], by omega, by go_num, Lib.hid ⟨by rw [List.length_append, HR.out.1]; rfl, ?_⟩⟩
          rw [hsn, List.map_append]
          refine z4.perm ?_
          refine (List.perm_append_comm (l₁ := [enA (q1, q2, q3) l])).trans ?_
          simp only [cpHd, List.set_cons_succ, List.set_cons_zero, List.cons_append, List.nil_append, List.append_assoc]
          exact List.Perm.refl _
        case measure => simp [intOf]; omega
      · have hlt' : ¬ (j : Int) < X.slots.length := by omega
        obtain rfl : j = X.slots.length := by omega
        have d3 := (cellsOf (show wr.heap[bi + 1]? = _ from HR.out.2.get (i := 1) rfl)).1
        have hdef : wr.heap[D]? = some (.deferred (some [])) := HR.out.2.get (i := 0) rfl
        have HDF := Lib.hid hdef
        clear hdef
        go_wp2
        have hsep := HR.out.2.s.tail
        rw [List.take_length] at hsep
        have hnw := HR.out.2.n
        rw [List.take_length] at hnw
        have hds := HR.out.2.s.dis
        rw [List.take_length] at hds
        have hp : (cpHd (bi + 1) bi bm v KL sv ++ (rowA 137 1 sv X.slots.length (SL.map slV) :: (keyRows KL X.keys ++ slotRows SL X.slots))).Perm (blkA (bi + 1) (.cells #[.pointer (some ⟨bi, 0, none⟩)] 46) :: (⟨bm, v, sv, KL, SL⟩ : Lay).list bi X) := List.Perm.refl _
        have hm : Mdh (fun k => k = D) wr (wr.putObj D (.deferred none)) := (Mdh.refl (fun k => k = D) wr).putObj rfl _
        refine retM1 (D := D) (v := .pointer (some ⟨bi, 0, none⟩)) rfl HDF.out ?_ ⟨bi, fun k => ∃ B ∈ (⟨bm, v, sv, KL, SL⟩ : Lay).list bi X, B.S k, rfl, ⟨HF.out.1, HI.out.pos, ⟨bm, v, sv, KL, SL⟩, ?_, ⟨HK.out, HR.out.1⟩, fun k => Iff.rfl⟩, ?_, ?_⟩
        · simp [results, Try.results33, go_sem]
        · exact (hsep.perm hp).tail.mdh hm (fun B hB k hk hkD => hds B (hp.mem_iff.2 (List.mem_cons_of_mem _ hB)) k hkD hk)
        · rintro k ⟨B, hB, hk⟩
          exact hnw B (List.mem_cons_of_mem _ (hp.mem_iff.2 (List.mem_cons_of_mem _ hB))) k hk
        · exact HR.out.2.g.putObj (hnw _ (List.mem_cons_self ..) D rfl) _
end Go.Proofs.Ytmdfickejpeofaa

/- drumlinlaw21.take: the first elements of an iterator, in a row. -/
set_option linter.unusedVariables false
set_option linter.unusedSimpArgs false
namespace Go.Proofs.Ytmdfickejpeofaa
open Go.RowKit Go.Shelf
attribute [local go_sem] OvM cell_ovm obj_ovm
attribute [local go_sem] Oper.semAt_some

theorem info_str : (Try.prog.info? 9).map (fun i => (i.zero, i.size, i.bytes)) = some (some (.string ⟨#[]⟩), 1, 16) := by kernel_rfl
theorem rowE_snoc (l : List En) (x : En) : rowE (l ++ [x]) = rowE l ++ enC x := by rw [rowE_app]; simp [rowE]
theorem enC_one (x : En) : ∀ u ∈ enC x, u.oneCell' = true := fun u hu => rowE_one [x] u (by simpa [rowE] using hu)
theorem take_pre {α : Type} {n : Nat} {pre L : List α} (h : pre <+: L) (hn : pre.length = n) : pre = L.take n := by
  obtain ⟨t, rfl⟩ := h
  rw [← hn, List.take_left']
  rfl
def kS (l : List ByteArray) : List Value := l.map Value.string
set_option maxRecDepth 40000 in
set_option maxHeartbeats 4000000 in
theorem TakeE {gf : Nat} {lb : Array Value} {A : Nat → Prop} {L : List En} {w : World} (eg : ∀ args w, (callFunc gf args).run Try.prog w = .ok (.enter gf args) w) (hseq : SeqZ Fence.wide 2 Try.prog gf lb encE A (fun xs => xs = L) (fun pre => pre <+: L) w) (hA : ∀ k, A k → k < w.heap.size) :
    Calls Try.prog 96 #[.func (.func gf) #[] lb] w fun e w' => ∃ v, e = .returned v ∧ Nw w w' 53 6 v (L.take 5000).length (rowE (L.take 5000)) ∧ Gr w w' := by
  obtain ⟨i0, hi, hz0, hz1, hz2⟩ := info_parts infoIten
  have k1 : ∀ w : World, (binOp .eql 148 (.func (.func gf) #[] lb) .nilFunc).run Try.prog w = .ok (.bool false) w := fun w => by kernel_rfl
  have HSEQ := Lib.hid hseq
  have HA := Lib.hid hA
  have HEG := Lib.hid eg
  clear hseq hA eg
  refine calls_of_wp_marks Try.func96 rfl ?_
  simp only [Try.ntmps96, List.size_toArray, List.length_cons, List.length_nil, Nat.reduceAdd, Nat.reduceSub, Array.replicate_succ, Array.replicate_zero, List.push_toArray, List.append_toArray, List.nil_append, List.cons_append]
  go_wp2_with fail
  obtain ⟨b, hb⟩ : ∃ q, q = w.heap.size := ⟨_, rfl⟩
  obtain ⟨w1, hw1⟩ : ∃ y, y = w.alloc (.cells #[.slice none 0 0] 45) := ⟨_, rfl⟩
  have HG1 : Hid (Gr w w1) := Lib.hid (by rw [hw1]; exact (Gr.refl w).alloc _)
  have HAL : Hid (∀ k, A k → k < w1.heap.size) := Lib.hid (fun k hk => by have := HA.out k hk; have := HG1.out.sz; omega)
  have HZ : Hid (SWz w w1 A [blkA b (.cells #[.slice none 0 0] 45), rowA 53 6 (.slice none 0 0) 0 []] (fun _ => False) w1) := Lib.hid (by
    have h1 : SW w [rowA 53 6 (.slice none 0 0) 0 []] w := (SW.start w).new (Gr.refl _) (nilRow _ _ _) (fun k hk => by cases hk)
    have h2 := h1.alloc (.cells #[.slice none 0 0] 45)
    rw [← hw1, ← hb] at h2
    refine SWz.start h2 (fun B hB k hk ha => ?_)
    have := h2.n B hB k hk
    have := HA.out k ha
    omega)
  rw [← hw1, ← hb]
  clear hw1 hb
  apply wp_rangeFunc_zx (gf := gf) (lb := lb) rfl HEG.out HSEQ.out (HG1.out.mdh _) HAL.out (fun _ => rfl)
    (fun Z pre X' => ∃ v, pre.length < 5000 ∧ SWz w w1 A [blkA b (.cells #[v] 45), rowA 53 6 v pre.length (rowE pre)] Z X')
    (fun Z pre X' => ∃ v, pre.length = 5000 ∧ SWz w w1 A [blkA b (.cells #[v] 45), rowA 53 6 v pre.length (rowE pre)] Z X') (fun _ _ _ => False)
    (Apart.ex fun v => (Apart.pure (fun pre : List En => pre.length < 5000)).and (SWz.apart HG1.out.sz (fun pre : List En => [blkA b (.cells #[v] 45), rowA 53 6 v pre.length (rowE pre)])))
    (Apart.ex fun v => (Apart.pure (fun pre : List En => pre.length = 5000)).and (SWz.apart HG1.out.sz (fun pre : List En => [blkA b (.cells #[v] 45), rowA 53 6 v pre.length (rowE pre)]))) apart_no
    ⟨_, by decide, HZ.out⟩ (fun Z pre X' ⟨v, _, h⟩ => h.frm HG1.out) (fun x => .cells #[.int .i64 x.seq, .string x.key, .bool x.del, .int .i64 x.slot, .int .i64 x.off, .int .i64 x.size] 53)
    _ ?assign ?body ?hend ?hret
  case hret => intro _ _ _ _ _ _ _ h; exact h.elim
  case assign =>
    intro l x bx X' K hbx hK
    dsimp only [encE, enV]
    gi_wp2
    rw [← hbx]
    exact hK
  case body =>
    intro l Z pre x bx X' hI hbx hx hzx hzl hlr hsp
    obtain ⟨v, hlt, hI⟩ := hI
    have HIZ := Lib.hid hI
    have HX := Lib.hid hx
    have HO := Lib.hid (show Own X' 53 6 v pre.length (rowE pre) from hI.s.get (i := 1) rfl)
    have HB := Lib.hid (show X'.heap[b]? = _ from hI.s.get (i := 0) rfl)
    have dx := (cellsOf HX.out).1
    have lx := blkLt HX.out
    obtain ⟨db, fb⟩ := cellsOf HB.out
    have lbb := blkLt HB.out
    have nb : ¬ v.ownBlock = some b := own_ne HO.out HB.out (by decide)
    have HNB := Lib.hid nb
    clear hI hbx hx hzx hzl hlr hsp nb
    by_cases h5 : pre.length + 1 = 5000
    · have h5' : ((pre.length : Int) + 1 == 5000) = true := beq_iff_eq.2 (by omega)
      gi_wp2_with (first
        | (gi_at_builtin; go_must (refine wpListIn_appv _ rfl (.tmp 9) (.tmp 11) 45 rfl 53 i0 _ 6 56 Try.underlying45 hi hz0 hz1 hz2 rfl (by decide) v pre.length (rowE pre) rfl (HO.out.gr (by (repeat (first | (with_reducible exact Gr.refl _) | assumption | (with_reducible apply Gr.from_drew) | (with_reducible apply Gr.alloc) | (with_reducible apply Gr.drew) | (with_reducible refine Gr.trans ?_ (by assumption)) | (with_reducible refine Gr.setCell ?_ (by omega) _))))) (some ⟨X'.heap.size, 0, none⟩) 1 1 (enC x) rfl ((src_newK X' (enC x) _ 6 rfl (enC_one x))) (by simp only [maxLen]; omega) (by omega) ?_); intro v2 w2 hA; obtain ⟨a2, c2, rfl⟩ := hA.val; have HAV := Lib.hid hA; have HB2 := Lib.hid ((hA.mdh (fun g h => h)).blk (((Gr.refl X').alloc _).blk HB.out) HNB.out); clear hA; obtain ⟨db2, fb2⟩ := cellsOf HB2.out)
        | fail)
      have z2 := HIZ.out.gr ((Gr.refl X').alloc (.cells (enC x).toArray 53))
      have z3 := z2.1.step (i := 1) (B' := rowA 53 6 (.slice a2 (pre.length + 1) c2) (pre.length + 1) (rowE pre ++ enC x)) rfl HAL.out (HAV.out.mdh (fun g h => h)) (fun k hk => .inl hk) HAV.out.1 (fun k hq => HAV.out.2.1 k hq)
      have z4 := z3.1.step (i := 0) (B' := blkA b (.cells #[.slice a2 (pre.length + 1) c2] 45)) rfl HAL.out ((Mdh.refl (fun k => k = b) w2).setCell (p := ⟨b, 0, none⟩) rfl (.slice a2 (pre.length + 1) c2)) (fun k hk => .inl hk) (blkSet (j := 0) (u := .slice a2 (pre.length + 1) c2) HB2.out) (fun k hk => .inl hk)
      have zM := (z2.2.trans z3.2).trans z4.2
      have zR : SWz w w1 A [blkA b (.cells #[.slice a2 (pre.length + 1) c2] 45), rowA 53 6 (.slice a2 (pre.length + 1) c2) (pre ++ [x]).length (rowE (pre ++ [x]))] Z (w2.setCell ⟨b, 0, none⟩ (.slice a2 (pre.length + 1) c2)) := by
        rw [rowE_snoc, List.length_append]
        exact z4.1
      rw [h5] at zM zR
      exact ⟨zM.mono (fun k h => h.2), rfl, _, by simp; omega, zR⟩
    · have h5' : ((pre.length : Int) + 1 == 5000) = false := beq_false_of_ne (by omega)
      gi_wp2_with (first
        | (gi_at_builtin; go_must (refine wpListIn_appv _ rfl (.tmp 9) (.tmp 11) 45 rfl 53 i0 _ 6 56 Try.underlying45 hi hz0 hz1 hz2 rfl (by decide) v pre.length (rowE pre) rfl (HO.out.gr (by (repeat (first | (with_reducible exact Gr.refl _) | assumption | (with_reducible apply Gr.from_drew) | (with_reducible apply Gr.alloc) | (with_reducible apply Gr.drew) | (with_reducible refine Gr.trans ?_ (by assumption)) | (with_reducible refine Gr.setCell ?_ (by omega) _))))) (some ⟨X'.heap.size, 0, none⟩) 1 1 (enC x) rfl ((src_newK X' (enC x) _ 6 rfl (enC_one x))) (by simp only [maxLen]; omega) (by omega) ?_); intro v2 w2 hA; obtain ⟨a2, c2, rfl⟩ := hA.val; have HAV := Lib.hid hA; have HB2 := Lib.hid ((hA.mdh (fun g h => h)).blk (((Gr.refl X').alloc _).blk HB.out) HNB.out); clear hA; obtain ⟨db2, fb2⟩ := cellsOf HB2.out)
        | fail)
      have z2 := HIZ.out.gr ((Gr.refl X').alloc (.cells (enC x).toArray 53))
      have z3 := z2.1.step (i := 1) (B' := rowA 53 6 (.slice a2 (pre.length + 1) c2) (pre.length + 1) (rowE pre ++ enC x)) rfl HAL.out (HAV.out.mdh (fun g h => h)) (fun k hk => .inl hk) HAV.out.1 (fun k hq => HAV.out.2.1 k hq)
      have z4 := z3.1.step (i := 0) (B' := blkA b (.cells #[.slice a2 (pre.length + 1) c2] 45)) rfl HAL.out ((Mdh.refl (fun k => k = b) w2).setCell (p := ⟨b, 0, none⟩) rfl (.slice a2 (pre.length + 1) c2)) (fun k hk => .inl hk) (blkSet (j := 0) (u := .slice a2 (pre.length + 1) c2) HB2.out) (fun k hk => .inl hk)
      have zM := (z2.2.trans z3.2).trans z4.2
      have zR : SWz w w1 A [blkA b (.cells #[.slice a2 (pre.length + 1) c2] 45), rowA 53 6 (.slice a2 (pre.length + 1) c2) (pre ++ [x]).length (rowE (pre ++ [x]))] Z (w2.setCell ⟨b, 0, none⟩ (.slice a2 (pre.length + 1) c2)) := by
        rw [rowE_snoc, List.length_append]
        exact z4.1
      exact ⟨zM, _, by simp; omega, zR⟩
  case hend =>
    intro Z D xs W hD hZD hcase hdef
    have hx : ∃ v, xs = L.take 5000 ∧ SWz w w1 A [blkA b (.cells #[v] 45), rowA 53 6 v xs.length (rowE xs)] Z W := by
      rcases hcase with ⟨h1, v, h2, h3⟩ | ⟨h1, v, h2, h3⟩
      · exact ⟨v, by rw [show xs = L from h1] at h2 ⊢; rw [List.take_of_length_le (by omega)], h3⟩
      · exact ⟨v, take_pre h1 h2, h3⟩
    obtain ⟨v, rfl, hZ⟩ := hx
    have db := (cellsOf (show W.heap[b]? = _ from hZ.s.get (i := 0) rfl)).1
    have HZW := Lib.hid hZ
    have HD := Lib.hid (And.intro hD (And.intro hZD hdef))
    clear hcase hZ hD hZD hdef
    dsimp only
    go_wp2_with fail
    obtain ⟨hD, hZD, hdef⟩ := HD.out
    have hm : Mdh (fun k => k = D) W (W.putObj D (.deferred none)) := (Mdh.refl (fun k => k = D) W).putObj rfl _
    refine retM1 (D := D) rfl hdef (results_tmp rfl _ _ _) ⟨v, rfl, ⟨(show Own W _ _ _ _ _ from HZW.out.s.get (i := 1) rfl).mdh hm (fun k hk e => HZW.out.z _ (List.mem_cons_of_mem _ (List.mem_cons_self ..)) k hk (e ▸ hZD)), fun q hq => HZW.out.s.n _ (List.mem_cons_of_mem _ (List.mem_cons_self ..)) q hq⟩, HZW.out.s.g.putObj (Nat.le_trans HG1.out.sz hD) _⟩
theorem kS_snoc (l : List ByteArray) (x : ByteArray) : kS (l ++ [x]) = kS l ++ [.string x] := by simp [kS]
set_option maxRecDepth 40000 in
set_option maxHeartbeats 4000000 in
theorem TakeS {gf : Nat} {lb : Array Value} {A : Nat → Prop} {L : List ByteArray} {w : World} (eg : ∀ args w, (callFunc gf args).run Try.prog w = .ok (.enter gf args) w) (hseq : SeqZ Fence.wide 2 Try.prog gf lb encK A (fun xs => xs = L) (fun pre => pre <+: L) w) (hA : ∀ k, A k → k < w.heap.size) :
    Calls Try.prog 98 #[.func (.func gf) #[] lb] w fun e w' => ∃ v, e = .returned v ∧ Nw w w' 9 1 v (L.take 5000).length (kS (L.take 5000)) ∧ Gr w w' := by
  obtain ⟨i0, hi, hz0, hz1, hz2⟩ := info_parts info_str
  have k1 : ∀ w : World, (binOp .eql 174 (.func (.func gf) #[] lb) .nilFunc).run Try.prog w = .ok (.bool false) w := fun w => by kernel_rfl
  have HSEQ := Lib.hid hseq
  have HA := Lib.hid hA
  have HEG := Lib.hid eg
  clear hseq hA eg
  refine calls_of_wp_marks Try.func98 rfl ?_
  simp only [Try.ntmps98, List.size_toArray, List.length_cons, List.length_nil, Nat.reduceAdd, Nat.reduceSub, Array.replicate_succ, Array.replicate_zero, List.push_toArray, List.append_toArray, List.nil_append, List.cons_append]
  go_wp2_with fail
  obtain ⟨b, hb⟩ : ∃ q, q = w.heap.size := ⟨_, rfl⟩
  obtain ⟨w1, hw1⟩ : ∃ y, y = w.alloc (.cells #[.slice none 0 0] 171) := ⟨_, rfl⟩
  have HG1 : Hid (Gr w w1) := Lib.hid (by rw [hw1]; exact (Gr.refl w).alloc _)
  have HAL : Hid (∀ k, A k → k < w1.heap.size) := Lib.hid (fun k hk => by have := HA.out k hk; have := HG1.out.sz; omega)
  have HZ : Hid (SWz w w1 A [blkA b (.cells #[.slice none 0 0] 171), rowA 9 1 (.slice none 0 0) 0 []] (fun _ => False) w1) := Lib.hid (by
    have h1 : SW w [rowA 9 1 (.slice none 0 0) 0 []] w := (SW.start w).new (Gr.refl _) (nilRow _ _ _) (fun k hk => by cases hk)
    have h2 := h1.alloc (.cells #[.slice none 0 0] 171)
    rw [← hw1, ← hb] at h2
    refine SWz.start h2 (fun B hB k hk ha => ?_)
    have := h2.n B hB k hk
    have := HA.out k ha
    omega)
  rw [← hw1, ← hb]
  clear hw1 hb
  apply wp_rangeFunc_zb (gf := gf) (lb := lb) rfl HEG.out HSEQ.out (HG1.out.mdh _) HAL.out (fun _ => rfl)
    (fun Z pre X' => ∃ v, pre.length < 5000 ∧ SWz w w1 A [blkA b (.cells #[v] 171), rowA 9 1 v pre.length (kS pre)] Z X')
    (fun Z pre X' => ∃ v, pre.length = 5000 ∧ SWz w w1 A [blkA b (.cells #[v] 171), rowA 9 1 v pre.length (kS pre)] Z X') (fun _ _ _ => False)
    (Apart.ex fun v => (Apart.pure (fun pre : List ByteArray => pre.length < 5000)).and (SWz.apart HG1.out.sz (fun pre : List ByteArray => [blkA b (.cells #[v] 171), rowA 9 1 v pre.length (kS pre)])))
    (Apart.ex fun v => (Apart.pure (fun pre : List ByteArray => pre.length = 5000)).and (SWz.apart HG1.out.sz (fun pre : List ByteArray => [blkA b (.cells #[v] 171), rowA 9 1 v pre.length (kS pre)]))) apart_no
    ⟨_, by decide, HZ.out⟩
    _ ?assign ?body ?hend ?hret
  case hret => intro _ _ _ _ _ _ _ h; exact h.elim
  case assign =>
    intro l x X' K hK
    dsimp only [encK]
    gi_wp2
    exact hK
  case body =>
    intro l Z pre x X' hI hsp
    obtain ⟨v, hlt, hI⟩ := hI
    have HIZ := Lib.hid hI
    have HO := Lib.hid (show Own X' 9 1 v pre.length (kS pre) from hI.s.get (i := 1) rfl)
    have HB := Lib.hid (show X'.heap[b]? = _ from hI.s.get (i := 0) rfl)
    obtain ⟨db, fb⟩ := cellsOf HB.out
    have lbb := blkLt HB.out
    have nb : ¬ v.ownBlock = some b := own_ne HO.out HB.out (by decide)
    have HNB := Lib.hid nb
    clear hI hsp nb
    by_cases h5 : pre.length + 1 = 5000
    · have h5' : ((pre.length : Int) + 1 == 5000) = true := beq_iff_eq.2 (by omega)
      gi_wp2_with (first
        | (gi_at_builtin; go_must (refine wpListIn_appv _ rfl (.tmp 9) (.tmp 11) 171 rfl 9 i0 _ 1 16 Try.underlying171 hi hz0 hz1 hz2 rfl (by decide) v pre.length (kS pre) rfl (HO.out.gr (by (repeat (first | (with_reducible exact Gr.refl _) | assumption | (with_reducible apply Gr.from_drew) | (with_reducible apply Gr.alloc) | (with_reducible apply Gr.drew) | (with_reducible refine Gr.trans ?_ (by assumption)) | (with_reducible refine Gr.setCell ?_ (by omega) _))))) (some ⟨X'.heap.size, 0, none⟩) 1 1 ([Value.string x]) rfl ((src_newK X' ([Value.string x]) _ 1 rfl (by simp [Value.oneCell']))) (by simp only [maxLen]; omega) (by omega) ?_); intro v2 w2 hA; obtain ⟨a2, c2, rfl⟩ := hA.val; have HAV := Lib.hid hA; have HB2 := Lib.hid ((hA.mdh (fun g h => h)).blk (((Gr.refl X').alloc _).blk HB.out) HNB.out); clear hA; obtain ⟨db2, fb2⟩ := cellsOf HB2.out)
        | fail)
      have z2 := HIZ.out.gr ((Gr.refl X').alloc (.cells ([Value.string x]).toArray 9))
      have z3 := z2.1.step (i := 1) (B' := rowA 9 1 (.slice a2 (pre.length + 1) c2) (pre.length + 1) (kS pre ++ [Value.string x])) rfl HAL.out (HAV.out.mdh (fun g h => h)) (fun k hk => .inl hk) HAV.out.1 (fun k hq => HAV.out.2.1 k hq)
      have z4 := z3.1.step (i := 0) (B' := blkA b (.cells #[.slice a2 (pre.length + 1) c2] 171)) rfl HAL.out ((Mdh.refl (fun k => k = b) w2).setCell (p := ⟨b, 0, none⟩) rfl (.slice a2 (pre.length + 1) c2)) (fun k hk => .inl hk) (blkSet (j := 0) (u := .slice a2 (pre.length + 1) c2) HB2.out) (fun k hk => .inl hk)
      have zM := (z2.2.trans z3.2).trans z4.2
      have zR : SWz w w1 A [blkA b (.cells #[.slice a2 (pre.length + 1) c2] 171), rowA 9 1 (.slice a2 (pre.length + 1) c2) (pre ++ [x]).length (kS (pre ++ [x]))] Z (w2.setCell ⟨b, 0, none⟩ (.slice a2 (pre.length + 1) c2)) := by
        rw [kS_snoc, List.length_append]
        exact z4.1
      rw [h5] at zM zR
      exact ⟨zM.mono (fun k h => h.2), rfl, _, by simp; omega, zR⟩
    · have h5' : ((pre.length : Int) + 1 == 5000) = false := beq_false_of_ne (by omega)
      gi_wp2_with (first
        | (gi_at_builtin; go_must (refine wpListIn_appv _ rfl (.tmp 9) (.tmp 11) 171 rfl 9 i0 _ 1 16 Try.underlying171 hi hz0 hz1 hz2 rfl (by decide) v pre.length (kS pre) rfl (HO.out.gr (by (repeat (first | (with_reducible exact Gr.refl _) | assumption | (with_reducible apply Gr.from_drew) | (with_reducible apply Gr.alloc) | (with_reducible apply Gr.drew) | (with_reducible refine Gr.trans ?_ (by assumption)) | (with_reducible refine Gr.setCell ?_ (by omega) _))))) (some ⟨X'.heap.size, 0, none⟩) 1 1 ([Value.string x]) rfl ((src_newK X' ([Value.string x]) _ 1 rfl (by simp [Value.oneCell']))) (by simp only [maxLen]; omega) (by omega) ?_); intro v2 w2 hA; obtain ⟨a2, c2, rfl⟩ := hA.val; have HAV := Lib.hid hA; have HB2 := Lib.hid ((hA.mdh (fun g h => h)).blk (((Gr.refl X').alloc _).blk HB.out) HNB.out); clear hA; obtain ⟨db2, fb2⟩ := cellsOf HB2.out)
        | fail)
      have z2 := HIZ.out.gr ((Gr.refl X').alloc (.cells ([Value.string x]).toArray 9))
      have z3 := z2.1.step (i := 1) (B' := rowA 9 1 (.slice a2 (pre.length + 1) c2) (pre.length + 1) (kS pre ++ [Value.string x])) rfl HAL.out (HAV.out.mdh (fun g h => h)) (fun k hk => .inl hk) HAV.out.1 (fun k hq => HAV.out.2.1 k hq)
      have z4 := z3.1.step (i := 0) (B' := blkA b (.cells #[.slice a2 (pre.length + 1) c2] 171)) rfl HAL.out ((Mdh.refl (fun k => k = b) w2).setCell (p := ⟨b, 0, none⟩) rfl (.slice a2 (pre.length + 1) c2)) (fun k hk => .inl hk) (blkSet (j := 0) (u := .slice a2 (pre.length + 1) c2) HB2.out) (fun k hk => .inl hk)
      have zM := (z2.2.trans z3.2).trans z4.2
      have zR : SWz w w1 A [blkA b (.cells #[.slice a2 (pre.length + 1) c2] 171), rowA 9 1 (.slice a2 (pre.length + 1) c2) (pre ++ [x]).length (kS (pre ++ [x]))] Z (w2.setCell ⟨b, 0, none⟩ (.slice a2 (pre.length + 1) c2)) := by
        rw [kS_snoc, List.length_append]
        exact z4.1
      exact ⟨zM, _, by simp; omega, zR⟩
  case hend =>
    intro Z D xs W hD hZD hcase hdef
    have hx : ∃ v, xs = L.take 5000 ∧ SWz w w1 A [blkA b (.cells #[v] 171), rowA 9 1 v xs.length (kS xs)] Z W := by
      rcases hcase with ⟨h1, v, h2, h3⟩ | ⟨h1, v, h2, h3⟩
      · exact ⟨v, by rw [show xs = L from h1] at h2 ⊢; rw [List.take_of_length_le (by omega)], h3⟩
      · exact ⟨v, take_pre h1 h2, h3⟩
    obtain ⟨v, rfl, hZ⟩ := hx
    have db := (cellsOf (show W.heap[b]? = _ from hZ.s.get (i := 0) rfl)).1
    have HZW := Lib.hid hZ
    have HD := Lib.hid (And.intro hD (And.intro hZD hdef))
    clear hcase hZ hD hZD hdef
    dsimp only
    go_wp2_with fail
    obtain ⟨hD, hZD, hdef⟩ := HD.out
    have hm : Mdh (fun k => k = D) W (W.putObj D (.deferred none)) := (Mdh.refl (fun k => k = D) W).putObj rfl _
    refine retM1 (D := D) rfl hdef (results_tmp rfl _ _ _) ⟨v, rfl, ⟨(show Own W _ _ _ _ _ from HZW.out.s.get (i := 1) rfl).mdh hm (fun k hk e => HZW.out.z _ (List.mem_cons_of_mem _ (List.mem_cons_self ..)) k hk (e ▸ hZD)), fun q hq => HZW.out.s.n _ (List.mem_cons_of_mem _ (List.mem_cons_self ..)) q hq⟩, HZW.out.s.g.putObj (Nat.le_trans HG1.out.sz hD) _⟩
end Go.Proofs.Ytmdfickejpeofaa

/- drumlinref21's Of: again and again the best of what is left. -/
set_option linter.unusedVariables false
set_option linter.unusedSimpArgs false
namespace Go.Proofs.Ytmdfickejpeofaa
open Go.RowKit Go.Shelf
attribute [local go_sem] OvM cell_ovm obj_ovm
attribute [local go_sem] Oper.semAt_some

theorem fil_key {k : ByteArray} {all : List En} {i : Nat} {x : En} (h : all[i]? = some x) : (all.take (i + 1)).filter (keyF k) = (all.take i).filter (keyF k) ++ (if x.key = k then [x] else []) := by
  rw [List.take_add_one, h]
  show ((all.take i) ++ [x]).filter (keyF k) = _
  rw [List.filter_append]
  by_cases e : x.key = k
  · rw [if_pos e]; simp [keyF, e]
  · rw [if_neg e]; simp [keyF, e]
def OfP (X : IX) (k : ByteArray) (w : World) (e : Ending) (w' : World) : Prop := ∃ v, e = .returned v ∧ Nw w w' 53 6 v (X.of k).length (rowE (X.of k)) ∧ Gr w w'
set_option maxRecDepth 40000 in
set_option maxHeartbeats 8000000 in
theorem rOf_any {w : World} {rb : Nat} {N : Int} {v : Value} {all : List En} {X : IX} (h : w.heap[rb]? = some (rmO N v)) (hN : 0 < N) (ho : Own w 53 6 v all.length (rowE all)) (hw : X.Wf) (hp : all.Perm X.ents) (h1000 : all.length ≤ 1000) (k : ByteArray) :
    Calls Try.prog 108 #[.pointer (some ⟨rb, 0, none⟩), .string k] w (OfP X k w) := by
  have HB := Lib.hid h
  have HO := Lib.hid ho
  have HV := Lib.hid (fun W (g : Gr w W) => rvalid (g.blk h) hN)
  have HL := Lib.hid (of_left hw hp k)
  have HPW := Lib.hid (hw.ofPair k)
  have HOL := Lib.hid (hw.of_le k)
  obtain ⟨a, c, rfl, hc, hm, _⟩ := ownE_at ho
  unfold maxLen at hm
  obtain ⟨i0, hi, hz0, hz1, hz2⟩ := info_parts infoIten
  clear h ho hw hp
  go_enter Try.func108, Try.ntmps108
  go_wp2_with (go_at_call 85; refine Calls.mono (HV.out _ (Gr.refl _)) ?_; rintro e w1 ⟨rfl, rfl⟩)
  go_loopw [6, 7] (fun t6 t7 wx => ∃ (i : Nat) (v : Value), i ≤ all.length ∧ v = t6 ∧ t7 = .int .i64 i ∧ Hid (Nw w wx 53 6 v ((all.take i).filter (keyF k)).length (rowE ((all.take i).filter (keyF k))) ∧ Gr w wx)) (fun _ t7 _ => all.length - (intOf t7).toNat)
  case atStart => exact ⟨0, _, by omega, rfl, rfl, Lib.hid ⟨Nw.nil w _ _, Gr.refl _⟩⟩
  case round =>
    obtain ⟨i, v, hil, rfl, rfl, HR⟩ := hrel
    have c1 := ((cellsOf (HR.out.2.blk HB.out)).1 1).trans (show _ = some (Value.slice a all.length c) from rfl)
    by_cases hlt : i < all.length
    · have hlt' : (i : Int) < all.length := by omega
      obtain ⟨x, hx⟩ : ∃ x, all[i]? = some x := ⟨_, List.getElem?_eq_getElem hlt⟩
      obtain ⟨g0, rfl, hg0, y0, y1, y2, y3, y4, y5⟩ := ent6 (HO.out.gr HR.out.2) hx
      have HTK := Lib.hid (fil_key (k := k) hx)
      have hfl : ((all.take i).filter (keyF k)).length ≤ i := by
        have h1 := List.length_filter_le (keyF k) (all.take i)
        have h2 : (all.take i).length ≤ i := by rw [List.length_take]; omega
        omega
      generalize (all.take i).filter (keyF k) = fl at *
      clear hx
      obtain ⟨x0, x1, x2, x3, x4, x5⟩ := x
      simp only at y0 y1 y2 y3 y4 y5 HTK
      by_cases hk : x1 = k
      · subst hk
        go_wp2_with (first
          | (at_builtin; go_must (refine wpList_appv _ rfl (.tmp 31) (.tmp 39) 45 rfl 53 i0 _ 6 56 Try.underlying45 hi hz0 hz1 hz2 rfl (by decide) v fl.length (rowE fl) rfl (HR.out.1.own.gr (by (repeat (first | (with_reducible exact Gr.refl _) | assumption | (with_reducible apply Gr.from_drew) | (with_reducible apply Gr.alloc) | (with_reducible apply Gr.drew) | (with_reducible refine Gr.trans ?_ (by assumption)) | (with_reducible refine Gr.setCell ?_ (by omega) _))))) (some ⟨wr.heap.size, 0, none⟩) 1 1 (enC ⟨x0, x1, x2, x3, x4, x5⟩) rfl (src_newK wr (enC ⟨x0, x1, x2, x3, x4, x5⟩) _ 6 rfl (enC_one _)) (by simp only [maxLen]; omega) (by omega) ?_); intro v3 w6 hA; have N6 := Lib.hid (hA.nw (HR.out.1.gr ((Gr.refl wr).alloc _)) (by have := HR.out.2.sz; simp; omega)); have HG6 := Lib.hid (hA.gw (HR.out.1.gr ((Gr.refl wr).alloc _)) (HR.out.2.alloc _)); clear hA)
          | fail)
        go_roundw
        case rel => exact ⟨i + 1, v3, by omega, rfl, by go_num, Lib.hid ⟨by rw [HTK.out, if_pos rfl, List.length_append, rowE_snoc]; exact N6.out, HG6.out⟩⟩
        case measure => simp [intOf]; omega
      · have hkb : (x1.toList == k.toList) = false := (str_beq x1 k).trans (decide_eq_false hk)
        go_wp2_with fail
        go_roundw
        case rel => exact ⟨i + 1, v, by omega, rfl, by go_num, Lib.hid ⟨by rw [HTK.out, if_neg hk, List.append_nil]; exact HR.out.1, HR.out.2⟩⟩
        case measure => simp [intOf]; omega
    · have hlt' : ¬ (i : Int) < all.length := by omega
      have hii : i = all.length := by omega
      have HN0 := Lib.hid HR.out.1
      rw [hii, List.take_length] at HN0
      have HG0 := Lib.hid HR.out.2
      clear HR hii
      have hll : (all.filter (keyF k)).length ≤ 1000 := by
        have := List.length_filter_le (keyF k) all
        omega
      generalize all.filter (keyF k) = L0 at *
      go_wp2_with fail
      go_loopw [5, 6] (fun t5 t6 wx => ∃ (out left : List En) (v5 v6 : Value), v5 = t5 ∧ v6 = t6 ∧ Hid (Nw w wx 53 6 v5 out.length (rowE out) ∧ Nw w wx 53 6 v6 left.length (rowE left) ∧ Gr w wx ∧ (∀ q, v5.ownBlock = some q → v6.ownBlock ≠ some q) ∧ ∃ D, X.of k = out ++ D ∧ left.Perm D ∧ left.length ≤ 1000)) (fun _ t6 _ => match t6 with | .slice _ m _ => m | _ => 0)
      case atStart => exact ⟨[], L0, _, _, rfl, rfl, Lib.hid ⟨(Nw.nil w _ _).gr HG0.out, HN0.out, HG0.out, (fun q h => by cases h), X.of k, rfl, HL.out, hll⟩⟩
      case round =>
        obtain ⟨out, left, v5, v6, rfl, rfl, HI⟩ := hrel
        obtain ⟨a6, c6, rfl, hc6, hm6, _⟩ := ownE_at HI.out.2.1.own
        have hm62 := hm6
        unfold maxLen at hm62
        obtain ⟨D, hD1, hD2, hD3⟩ := HI.out.2.2.2.2
        have HD := Lib.hid (And.intro hD1 (And.intro hD2 hD3))
        clear hD1 hD2
        by_cases hl0 : left.length = 0
        · have hl : left = [] := List.eq_nil_of_length_eq_zero hl0
          have hDn : D = [] := by
            have h := HD.out.2.1.length_eq
            rw [hl0] at h
            exact List.eq_nil_of_length_eq_zero h.symm
          have HE : Hid (OfP X k w (.returned v5) wr) := Lib.hid ⟨v5, rfl, by rw [HD.out.1, hDn, List.append_nil]; exact HI.out.1, HI.out.2.2.1⟩
          have hz : ¬ (0 : Int) < left.length := by omega
          generalize OfP X k w = Q at *
          clear hl hDn
          go_wp2_with fail
          exact HE.out
        · have hz : (0 : Int) < left.length := by omega
          go_wp2_with fail
          generalize decide (0 < left.length) = B43
          go_loopw [8, 9] (fun t8 t9 wx => ∃ i bi : Nat, 1 ≤ i ∧ i ≤ left.length ∧ bi < left.length ∧ t8 = .int .i64 bi ∧ t9 = .int .i64 i ∧ Hid (selI left i bi ∧ Gr wr wx)) (fun _ t9 _ => left.length - (intOf t9).toNat)
          case atStart => exact ⟨1, 0, by omega, by omega, by omega, by go_num, by go_num, Lib.hid ⟨selI_one (by omega), Gr.refl _⟩⟩
          case round =>
            clear hz
            obtain ⟨i2, bi, hi1, hi2, hbi, rfl, rfl, HS⟩ := hrel
            by_cases hlt2 : i2 < left.length
            · have hlt2' : (i2 : Int) < left.length := by omega
              have hbi' : (bi : Int) < left.length := by omega
              obtain ⟨y, hy⟩ : ∃ y, left[i2]? = some y := ⟨_, List.getElem?_eq_getElem hlt2⟩
              obtain ⟨x, hx⟩ : ∃ x, left[bi]? = some x := ⟨_, List.getElem?_eq_getElem hbi⟩
              obtain ⟨g1, rfl, hg1, y0, _, _, y3, _, _⟩ := ent6 (HI.out.2.1.own.gr HS.out.2) hy
              obtain ⟨_, x0, _, _, x3, _, _⟩ := ent6g (HI.out.2.1.own.gr HS.out.2) hx
              have HNO := Lib.hid (fun h => selI_no HS.out.1 hx hy h)
              have HYE := Lib.hid (fun h => selI_yes HS.out.1 hx hy h)
              have HLT : Hid (ltE y x = (decide (x.seq < y.seq) || (decide (y.seq = x.seq) && decide (y.slot < x.slot)))) := Lib.hid (by
                unfold ltE
                rw [Bool.eq_iff_iff]
                simp)
              clear hx hy
              generalize y.seq = ys at *
              generalize x.seq = xs at *
              generalize y.slot = yl at *
              generalize x.slot = xl at *
              by_cases e1 : xs < ys
              · have d1 : decide (xs < ys) = true := decide_eq_true e1
                have HN2 := Lib.hid (HYE.out (by rw [HLT.out, d1]; rfl))
                go_wp2_with fail
                refine wp_region_flo (fun _ => False) [] [] (by kernel_rfl) (by kernel_rfl) (fun _ h => h.elim) ?_
                (try simp only [List.append_eq, List.cons_append, List.nil_append])
                refine flo_seg 37 rfl ?_
                simp only [List.take_succ_cons, List.take_zero, List.drop_succ_cons, List.drop_zero]
                repeat (go_big_quiet_step (fail))
                refine wpQuiet_nil ?_
                refine flo_nil ?_
                go_wp2_with fail
                go_roundw
                case rel => exact ⟨i2 + 1, i2, by omega, by omega, by omega, rfl, by go_num, Lib.hid ⟨HN2.out, HS.out.2.trans (Gr.refl wr).drew⟩⟩
                case measure => simp [intOf]; omega
              · have d1 : decide (xs < ys) = false := decide_eq_false e1
                by_cases e2 : ys = xs
                · by_cases e3 : yl < xl
                  · have d2 : (ys == xs) = true := beq_iff_eq.2 e2
                    have HN2 := Lib.hid (HYE.out (by rw [HLT.out, d1, decide_eq_true e2, decide_eq_true e3]; rfl))
                    go_wp2_with fail
                    refine wp_region_flo (fun _ => False) [] [] (by kernel_rfl) (by kernel_rfl) (fun _ h => h.elim) ?_
                    (try simp only [List.append_eq, List.cons_append, List.nil_append])
                    refine flo_seg 37 rfl ?_
                    simp only [List.take_succ_cons, List.take_zero, List.drop_succ_cons, List.drop_zero]
                    repeat (go_big_quiet_step (fail))
                    refine wpQuiet_nil ?_
                    refine flo_nil ?_
                    go_wp2_with fail
                    go_roundw
                    case rel => exact ⟨i2 + 1, i2, by omega, by omega, by omega, rfl, by go_num, Lib.hid ⟨HN2.out, HS.out.2.trans (Gr.refl wr).drew⟩⟩
                    case measure => simp [intOf]; omega
                  · have d2 : (ys == xs) = true := beq_iff_eq.2 e2
                    have HN2 := Lib.hid (HNO.out (by rw [HLT.out, d1, decide_eq_true e2, decide_eq_false e3]; rfl))
                    go_wp2_with fail
                    refine wp_region_flo (fun _ => False) [] [] (by kernel_rfl) (by kernel_rfl) (fun _ h => h.elim) ?_
                    (try simp only [List.append_eq, List.cons_append, List.nil_append])
                    refine flo_seg 37 rfl ?_
                    simp only [List.take_succ_cons, List.take_zero, List.drop_succ_cons, List.drop_zero]
                    repeat (go_big_quiet_step (fail))
                    refine wpQuiet_nil ?_
                    refine flo_nil ?_
                    go_wp2_with fail
                    go_roundw
                    case rel => exact ⟨i2 + 1, bi, by omega, by omega, by omega, rfl, by go_num, Lib.hid ⟨HN2.out, HS.out.2.trans (Gr.refl wr).drew⟩⟩
                    case measure => simp [intOf]; omega
                · have d2 : (ys == xs) = false := beq_false_of_ne e2
                  have HN2 := Lib.hid (HNO.out (by rw [HLT.out, d1, decide_eq_false e2]; rfl))
                  go_wp2_with fail
                  refine wp_region_flo (fun _ => False) [] [] (by kernel_rfl) (by kernel_rfl) (fun _ h => h.elim) ?_
                  (try simp only [List.append_eq, List.cons_append, List.nil_append])
                  refine flo_seg 37 rfl ?_
                  simp only [List.take_succ_cons, List.take_zero, List.drop_succ_cons, List.drop_zero]
                  repeat (go_big_quiet_step (fail))
                  refine wpQuiet_nil ?_
                  refine flo_nil ?_
                  go_wp2_with fail
                  go_roundw
                  case rel => exact ⟨i2 + 1, bi, by omega, by omega, by omega, rfl, by go_num, Lib.hid ⟨HN2.out, HS.out.2.trans (Gr.refl wr).drew⟩⟩
                  case measure => simp [intOf]; omega
            · have hlt2' : ¬ (i2 : Int) < left.length := by omega
              obtain rfl : i2 = left.length := by omega
              have hbi' : (bi : Int) < left.length := by omega
              obtain ⟨x, hx, hmin⟩ : ∃ x, left[bi]? = some x ∧ ∀ y ∈ left, ltE y x = false := selI_end HS.out.1
              obtain ⟨D', hDe, hDp⟩ := sel_head (List.pairwise_append.1 (HD.out.1 ▸ HPW.out)).2.1 HD.out.2.1 hx hmin
              have hol : out.length ≤ 1000 := by
                have h1 := congrArg List.length HD.out.1
                have h2 := HL.out.length_eq
                rw [List.length_append] at h1
                omega
              have HDE : Hid (X.of k = (out ++ [x]) ++ D' ∧ (left.eraseIdx bi).Perm D') := Lib.hid ⟨by rw [HD.out.1, hDe, List.append_assoc]; rfl, hDp⟩
              obtain ⟨g1, rfl, hg1, y0, y1, y2, y3, y4, y5⟩ := ent6 (HI.out.2.1.own.gr HS.out.2) hx
              obtain ⟨x0, x1, x2, x3, x4, x5⟩ := x
              simp only at y0 y1 y2 y3 y4 y5
              clear hx hmin hDe hDp
              go_wp2_with (first
                | (at_builtin; go_must (refine wpList_appv _ rfl (.tmp 88) (.tmp 93) 45 rfl 53 i0 _ 6 56 Try.underlying45 hi hz0 hz1 hz2 rfl (by decide) v5 out.length (rowE out) rfl ((HI.out.1.own.gr HS.out.2).gr (by (repeat (first | (with_reducible exact Gr.refl _) | assumption | (with_reducible apply Gr.from_drew) | (with_reducible apply Gr.alloc) | (with_reducible apply Gr.drew) | (with_reducible refine Gr.trans ?_ (by assumption)) | (with_reducible refine Gr.setCell ?_ (by omega) _))))) (some ⟨wr.heap.size, 0, none⟩) 1 1 (enC ⟨x0, x1, x2, x3, x4, x5⟩) rfl (src_newK wr (enC ⟨x0, x1, x2, x3, x4, x5⟩) _ 6 rfl (enC_one _)) (by simp only [maxLen]; omega) (by omega) ?_); intro v7 w5 hA; have N5 := Lib.hid (hA.nw ((HI.out.1.gr HS.out.2).gr ((Gr.refl wr).alloc _)) (by have h1 := HI.out.2.2.1.sz; have h2 := HS.out.2.sz; simp; omega)); have HG5 := Lib.hid (hA.gw ((HI.out.1.gr HS.out.2).gr ((Gr.refl wr).alloc _)) ((HI.out.2.2.1.trans HS.out.2).alloc _)); have HL5 := Lib.hid (((HI.out.2.1.gr HS.out.2).gr ((Gr.refl wr).alloc _)).mdh (hA.mdh (S := fun q => v5.ownBlock = some q) (fun g h => h)) (fun q hq hs => HI.out.2.2.2.1 q hs hq)); clear hA)
                | fail)
              have hel : (left.eraseIdx bi).length = bi + (left.length - (bi + 1)) := by rw [List.length_eraseIdx_of_lt hbi]; omega
              have HEL := Lib.hid hel
              obtain ⟨V, hV⟩ : ∃ V, V = Value.slice (some ⟨g1, 0, none⟩) left.length c6 := ⟨_, rfl⟩
              have HVE := Lib.hid hV
              rw [← hV] at HL5 ⊢
              obtain ⟨z1, n1, s1, src1, _⟩ := slice_take Try.underlying45 hi hz1 HL5.out.own (rowE_one left) (i := bi) (by omega)
              obtain ⟨z2, n2, s2', src2, _⟩ := slice_drop Try.underlying45 hi hz1 HL5.out.own (rowE_one left) (i := bi + 1) (by omega)
              have s2 : ∀ w' : World, (Instr.slice 45 V (some (.int .i64 ((bi : Int) + 1))) none none).run Try.prog w' = .ok (.slice z2 (left.length - (bi + 1)) n2) w' := fun w' => by rw [show ((bi : Int) + 1) = ((bi + 1 : Nat) : Int) by omega]; exact s2' w'
              rw [rowE_take] at src1
              rw [rowE_drop] at src2
              have SRC := Lib.hid (And.intro src1 src2)
              clear hel hV src1 src2 s2' y0 y1 y2 y3 y4 y5 hg1
              have hib : (bi : Int) ≤ 1000 := by have := HD.out.2.2; omega
              have hle : left.length ≤ 1000 := HD.out.2.2
              go_wp2_with fail
              refine wp_region_flo (fun _ => False) [] [] (by kernel_rfl) (by kernel_rfl) (fun _ h => h.elim) ?_
              refine flo_eff rfl rfl rfl rfl (fun K hK => ?_)
              go_wp2
              refine ⟨by (first | (refine Gr.mdh ?_ _; (repeat (first | (with_reducible exact Gr.refl _) | assumption | (with_reducible apply Gr.from_drew) | (with_reducible apply Gr.alloc) | (with_reducible apply Gr.drew) | (with_reducible refine Gr.trans ?_ (by assumption)) | (with_reducible refine Gr.setCell ?_ (by omega) _))); done) | (repeat (first | (with_reducible exact Mdh.refl _ _) | (with_reducible refine Mdh.setCell ?_ (by simp) _) | (with_reducible refine Mdh.setNew ?_ (by simp) _) | (with_reducible apply Mdh.alloc) | (with_reducible apply Mdh.from_drew) | (with_reducible apply Mdh.drew) | (with_reducible refine Mdh.gr ?_ (by assumption))))), ?_⟩
              refine flo_seg 3 rfl ?_
              simp only [List.take_succ_cons, List.take_zero, List.drop_succ_cons, List.drop_zero]
              repeat (go_big_quiet_step (fail))
              refine wpQuiet_nil ?_
              refine flo_eff rfl rfl rfl rfl (fun K hK => ?_)
              refine wp_appv _ (.tmp 95) (.tmp 98) 45 rfl 53 i0 _ 6 56 Try.underlying45 hi hz0 hz1 hz2 rfl (by decide) (.slice (some ⟨w5.heap.size, 0, none⟩) 0 0) 0 [] rfl ((Nw.made (w0 := w5) (w := w5) (Nat.le_refl _)).own.gr (by (repeat (first | (with_reducible exact Gr.refl _) | assumption | (with_reducible apply Gr.from_drew) | (with_reducible apply Gr.alloc) | (with_reducible apply Gr.drew) | (with_reducible refine Gr.trans ?_ (by assumption)) | (with_reducible refine Gr.setCell ?_ (by omega) _))))) z1 bi _ (rowE (left.take bi)) rfl (SRC.out.1.gr (by (repeat (first | (with_reducible exact Gr.refl _) | assumption | (with_reducible apply Gr.from_drew) | (with_reducible apply Gr.alloc) | (with_reducible apply Gr.drew) | (with_reducible refine Gr.trans ?_ (by assumption)) | (with_reducible refine Gr.setCell ?_ (by omega) _))))) (by simp only [maxLen]; omega) (by omega) (fun k3 xa hk3 => ?_); rw [Nat.zero_add, List.nil_append] at hk3; (have n3 := hk3.nw (w0 := w5) ((Nw.made (w0 := w5) (w := w5) (e := 53) (K := 6) (Nat.le_refl _)).gr (by (repeat (first | (with_reducible exact Gr.refl _) | assumption | (with_reducible apply Gr.from_drew) | (with_reducible apply Gr.alloc) | (with_reducible apply Gr.drew) | (with_reducible refine Gr.trans ?_ (by assumption)) | (with_reducible refine Gr.setCell ?_ (by omega) _))))) (Gr.sz (by (repeat (first | (with_reducible exact Gr.refl _) | assumption | (with_reducible apply Gr.from_drew) | (with_reducible apply Gr.alloc) | (with_reducible apply Gr.drew) | (with_reducible refine Gr.trans ?_ (by assumption)) | (with_reducible refine Gr.setCell ?_ (by omega) _)))))); (have m3 := hk3.gw (w0 := w5) ((Nw.made (w0 := w5) (w := w5) (e := 53) (K := 6) (Nat.le_refl _)).gr (by (repeat (first | (with_reducible exact Gr.refl _) | assumption | (with_reducible apply Gr.from_drew) | (with_reducible apply Gr.alloc) | (with_reducible apply Gr.drew) | (with_reducible refine Gr.trans ?_ (by assumption)) | (with_reducible refine Gr.setCell ?_ (by omega) _))))) (by (repeat (first | (with_reducible exact Gr.refl _) | assumption | (with_reducible apply Gr.from_drew) | (with_reducible apply Gr.alloc) | (with_reducible apply Gr.drew) | (with_reducible refine Gr.trans ?_ (by assumption)) | (with_reducible refine Gr.setCell ?_ (by omega) _))))); refine hK _ _ ⟨hk3.mdh (fun q hq => by rw [ownB hq]; right; right; exact ⟨Nat.le_refl _, by simp⟩), ?_⟩; simp only [Act.put, List.setIfInBounds_toArray, List.set_cons_succ, List.set_cons_zero]
              refine flo_seg 4 rfl ?_
              simp only [List.take_succ_cons, List.take_zero, List.drop_succ_cons, List.drop_zero]
              repeat (go_big_quiet_step (fail))
              refine wpQuiet_nil ?_
              refine flo_eff rfl rfl rfl rfl (fun K hK => ?_)
              refine wp_appv _ (.tmp 99) (.tmp 103) 45 rfl 53 i0 _ 6 56 Try.underlying45 hi hz0 hz1 hz2 rfl (by decide) k3 bi (rowE (left.take bi)) rfl hk3.1 z2 (left.length - (bi + 1)) _ (rowE (left.drop (bi + 1))) rfl (SRC.out.2.gr m3) (by simp only [maxLen]; omega) (by omega) (fun k5 xb hk5 => ?_); obtain ⟨a5, c5, rfl⟩ := hk5.val; refine hK _ _ ⟨hk5.mdh (fun q hq => (hk3.2.1 q hq).elim (fun h => by rw [ownB h]; exact .inr (.inl (.inr ⟨Nat.le_refl _, by simp⟩))) (fun h => .inr (.inr ⟨h, hk3.1.lt hq⟩))), ?_⟩; simp only [Act.put, List.setIfInBounds_toArray, List.set_cons_succ, List.set_cons_zero]
              refine flo_seg 1 rfl ?_
              simp only [List.take_succ_cons, List.take_zero, List.drop_succ_cons, List.drop_zero]
              repeat (go_big_quiet_step (fail))
              refine wpQuiet_nil ?_
              refine flo_nil ?_
              have n5 := hk5.nw n3 m3.sz
              have m5 := hk5.gw n3 m3
              have hcut : (left.take bi ++ left.drop (bi + 1)) = left.eraseIdx bi := (List.eraseIdx_eq_take_drop_succ left bi).symm
              rw [← rowE_app, hcut] at n5
              have hsm : bi + (left.length - (bi + 1)) < left.length := by omega
              have HNN : Hid (Nw w xb 53 6 (.slice a5 (bi + (left.length - (bi + 1))) c5) (left.eraseIdx bi).length (rowE (left.eraseIdx bi))) := Lib.hid (by rw [HEL.out]; exact ⟨n5.own, fun q hq => Nat.le_trans HG5.out.sz (n5.new q hq)⟩)
              have HNE : Hid (∀ q, v7.ownBlock = some q → (Value.slice a5 (bi + (left.length - (bi + 1))) c5).ownBlock ≠ some q) := Lib.hid (fun q hq hs => absurd (n5.new q hs) (Nat.not_le.2 (N5.out.own.lt hq)))
              have HM5 := Lib.hid m5
              clear hk3 hk5 n3 m3 n5 m5 s1 s2 SRC
              go_wp2_with fail
              exact ⟨⟨out ++ [⟨x0, x1, x2, x3, x4, x5⟩], left.eraseIdx bi, v7, _, rfl, rfl, Lib.hid ⟨by rw [List.length_append, rowE_snoc]; exact N5.out.gr HM5.out, HNN.out, HG5.out.trans HM5.out, HNE.out, D', HDE.out.1, HDE.out.2, by rw [HEL.out]; omega⟩⟩, hsm⟩
end Go.Proofs.Ytmdfickejpeofaa
