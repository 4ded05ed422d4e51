/- A copy of an index. -/
import Derived.Test.YtiidkehcfoajeaaIxw
import Derived.Test.YtiidkehcfoajeaaAppv
import Derived.Test.YtiidkehcfoajeaaTl
set_option linter.unusedVariables false
set_option linter.unusedSimpArgs false
namespace Go.Proofs.Ytiidkehcfoajeaa
open Go.RowKit Go.Shelf
attribute [local go_sem] OvM cell_ovm obj_ovm
attribute [local go_sem] Oper.semAt_some

section
variable {w0 wl W W' : World} {A Z : Nat → Prop} {R R' : List Asn} {B : Asn}
theorem SWz.new (h : SWz w0 wl A R Z W) (hA : ∀ k, A k → k < wl.heap.size) (g : Gr W W') (hB : B.P W') (hn : ∀ k, B.S k → W.heap.size ≤ k) : SWz w0 wl A (B :: R) Z W' :=
  ⟨h.s.new g hB hn, fun C hC k hk hz => (List.mem_cons.1 hC).elim (fun e => by have := hn k (e ▸ hk); have := h.zl k hz; omega) (fun e => h.z C e k hk hz),
    fun C hC k hk ha => (List.mem_cons.1 hC).elim (fun e => by have := hn k (e ▸ hk); have := hA k ha; have := h.sz; omega) (fun e => h.a C e k hk ha),
    h.zn, fun k hk => Nat.lt_of_lt_of_le (h.zl k hk) g.sz, Nat.le_trans h.sz g.sz⟩
theorem SWz.perm (h : SWz w0 wl A R Z W) (p : R.Perm R') : SWz w0 wl A R' Z W := ⟨h.s.perm p, fun B hB => h.z B (p.mem_iff.2 hB), fun B hB => h.a B (p.mem_iff.2 hB), h.zn, h.zl, h.sz⟩
end
theorem info_list : (Try.prog.info? 127).map (fun i => (i.zero, i.size, i.bytes)) = some (some (.slice none 0 0), 1, 24) := by kernel_rfl
/-- The last one put. -/
theorem put_last {α : Type} {L : List (ByteArray × α)} {k : ByteArray} {v : α} (h : ∀ x ∈ L, ltS x.1 k = true) (hs : Srt ltS L) : putL ltS L k v = L ++ [(k, v)] := by
  have hr : rk ltS L k = L.length := by
    refine (rk_uniq ordS hs k L.length (Nat.le_refl _) (fun j x _ hx => h x (List.mem_of_getElem? hx)) (fun j x hj hx => ?_)).symm
    have := (List.getElem?_eq_some_iff.1 hx).1; omega
  have hl : look ltS L k = none := by
    rw [look_none ordS hs]
    intro v hv
    have := h _ hv
    rw [ordS.irr] at this
    cases this
  unfold putL
  rw [hl, hr, List.take_length, List.drop_length, List.append_nil]
/-- The map of the copy under way. -/
structure CpK (Y : Lay) (X : IX) (KL' : List (ByteArray × Sl)) (j : Nat) : Prop where
  k : KL'.map Prod.fst = (X.keys.take j).map Prod.fst
theorem CpK.put {Y : Lay} {X : IX} {KL' : List (ByteArray × Sl)} {j : Nat} (h : CpK Y X KL' j) (hX : X.Wf) {k : ByteArray} {l : List En} (hx : X.keys[j]? = some (k, l)) (s' : Sl) : putL ltS KL' k s' = KL' ++ [(k, s')] ∧ CpK Y X (KL' ++ [(k, s')]) (j + 1) := by
  have hj := (List.getElem?_eq_some_iff.1 hx).1
  have hsrt : Srt ltS (X.keys.take j) := hX.k0.sublist (List.take_sublist _ _)
  have hs1 : (KL'.map Prod.fst).Pairwise (fun a b => ltS a b = true) := by
    rw [h.k]; exact List.pairwise_map.2 hsrt
  refine ⟨put_last (fun x hx' => ?_) (List.pairwise_map.1 hs1), ⟨?_⟩⟩
  · have hm : x.1 ∈ KL'.map Prod.fst := List.mem_map_of_mem hx'
    rw [h.k] at hm
    obtain ⟨y, hy, hxy⟩ := List.mem_map.1 hm
    obtain ⟨i, hi, rfl⟩ := List.mem_iff_getElem.1 hy
    rw [List.length_take] at hi
    rw [List.getElem_take] at hxy
    have := List.pairwise_iff_getElem.1 hX.k0 i j (by omega) hj (by omega)
    rw [hxy, (List.getElem?_eq_some_iff.1 hx).2] at this
    exact this
  · rw [List.map_append, h.k, List.take_add_one, hx, List.map_append]
    rfl
theorem keyRows_snoc {KL : List (ByteArray × Sl)} {ks : List (ByteArray × List En)} (h : KL.length = ks.length) (k : ByteArray) (s : Sl) (l : List En) : keyRows (KL ++ [(k, s)]) (ks ++ [(k, l)]) = keyRows KL ks ++ [enA s l] := by
  unfold keyRows
  rw [List.zipWith_append h]
  rfl
theorem slotRows_snoc {SL : List Sl} {ls : List (List En)} (h : SL.length = ls.length) (s : Sl) (l : List En) : slotRows (SL ++ [s]) (ls ++ [l]) = slotRows SL ls ++ [enA s l] := by
  unfold slotRows
  rw [List.zipWith_append h]
  rfl
def CopyPost (X : IX) (w : World) (e : Ending) (w' : World) : Prop := ∃ b' S', e = .returned (.pointer (some ⟨b', 0, none⟩)) ∧ IXR w' b' X S' ∧ (∀ k, S' k → w.heap.size ≤ k) ∧ Gr w w'
abbrev cpHd (b3 bi bm : Nat) (v : Value) (KL : List (ByteArray × Sl)) (sv : Value) : List Asn := [blkA b3 (.cells #[.pointer (some ⟨bi, 0, none⟩)] 25), blkA bi (.cells #[.pointer (some ⟨bm, 0, none⟩), sv] 29), omA bm v KL]

set_option maxRecDepth 40000 in
set_option maxHeartbeats 8000000 in
theorem CopyX {w : World} {b : Nat} {X : IX} {S : Nat → Prop} (h : IXR w b X S) : Calls Try.prog 68 #[.pointer (some ⟨b, 0, none⟩)] w (CopyPost X w) := by
  have HI := Lib.hid h
  obtain ⟨h1, h2, Y, h3, h4, h5⟩ := h
  have HF := Lib.hid (show _ from And.intro h1 (And.intro h3 (And.intro h4 h5)))
  have db := (cellsOf (Lay.blk h3)).1
  have lb := blkLt (Lay.blk h3)
  obtain ⟨i0, hi, hz0, hz1, hz2⟩ := info_parts info_list
  clear h1 h2 h3 h4 h5
  refine calls_of_wp_marks Try.func68 rfl ?_
  simp only [Try.ntmps68, List.size_toArray, List.length_cons, List.length_nil, Nat.reduceAdd, Nat.reduceSub, Array.replicate_succ, Array.replicate_zero, List.push_toArray, List.append_toArray, List.nil_append, List.cons_append]
  go_wp2_with (first
    | (go_at_call 95; refine (made_yes HI.out).mono ?_; rintro e w1 ⟨rfl, rfl⟩)
    | fail)
  refine (NewOsl w).mono ?_
  rintro e w1 ⟨rfl, hom, hg1⟩
  have HOM := Lib.hid hom
  have HG1 := Lib.hid hg1
  have db1 := (cellsOf (hg1.blk (Lay.blk HF.out.2.1))).1
  have lb1 := blkLt (hg1.blk (Lay.blk HF.out.2.1))
  clear hom hg1 db lb
  go_wp2_with fail
  obtain ⟨bm, hbm⟩ : ∃ q, q = w.heap.size := ⟨_, rfl⟩
  obtain ⟨bi, hbi⟩ : ∃ q, q = w1.heap.size := ⟨_, rfl⟩
  refine (AllOsl _ _).mono ?_
  rintro e w2 ⟨bb, rfl, k1, l1, hg⟩
  have HS2 : Hid (SW w (cpHd (bi + 1) bi bm (.slice none 0 0) [] (.slice none 0 0)) w2) := Lib.hid (by
    have h1 : SW w [omA bm (.slice none 0 0) []] w1 := (SW.start w).new HG1.out (by rw [hbm]; exact HOM.out) (fun k hk => hk.elim (fun e => by omega) (fun e => by cases e))
    have h2 := (h1.alloc (.cells #[.pointer (some ⟨w.heap.size, 0, none⟩), .slice none 0 0] 29)).alloc (.cells #[.pointer (some ⟨w1.heap.size, 0, none⟩)] 25)
    simp only [World.size_alloc] at h2
    rw [← hbi, ← hbm] at h2
    rw [← hbi, ← hbm] at hg
    exact h2.gr hg)
  have HBB : Hid (bi + 2 ≤ bb ∧ bb < w2.heap.size) := Lib.hid ⟨by simp only [World.size_alloc] at l1; omega, World.block_lt_of_cell? w2 _ k1⟩
  have HG2 : Hid (Gr w w2) := Lib.hid HS2.out.g
  have hKL : Y.KL.length ≤ 16384 := by
    have e1 := congrArg List.length HF.out.2.2.1.k
    simp only [List.length_map] at e1
    have e3 := HF.out.1.keys_le
    omega
  have HKL := Lib.hid hKL
  obtain ⟨A, hA⟩ : ∃ A : Nat → Prop, A = fun k => k = bb ∨ OMB (some ⟨Y.bm, 0, none⟩) Y.v k := ⟨_, rfl⟩
  have HOB : Hid (∀ k, OMB (some ⟨Y.bm, 0, none⟩) Y.v k → k < w.heap.size) := Lib.hid (fun k hk => HF.out.2.1.lt (A := omA Y.bm Y.v Y.KL) (by simp [Lay.list, Lay.hd]) k (hk.elim (fun ⟨a, e, hk⟩ => .inl (by cases e; exact hk)) .inr))
  have HAL : Hid (∀ k, A k → k < w2.heap.size) := Lib.hid (fun k hk => by
    rw [hA] at hk
    have := HG2.out.sz
    rcases hk with rfl | hk
    · exact HBB.out.2
    · have := HOB.out k hk; omega)
  have HSEQ : Hid (SeqZ Fence.wide 2 Try.prog 131 #[.pointer (some ⟨bb, 0, none⟩)] encOsl A (fun xs => xs = Y.KL) (fun pre => pre <+: Y.KL) w2) := Lib.hid (by
    rw [hA]
    exact SeqAsl (some ⟨Y.bm, 0, none⟩) Y.v Y.KL (by omega) bb w2 (.inl ⟨_, rfl, (Lay.om HF.out.2.1).gr HG2.out⟩) k1)
  have HCP0 : Hid (CpK Y X [] 0) := Lib.hid ⟨by simp⟩
  have HZ : Hid (SWz w w2 A (cpHd (bi + 1) bi bm (.slice none 0 0) [] (.slice none 0 0) ++ keyRows [] (X.keys.take 0)) (fun _ => False) w2) := Lib.hid (SWz.start (by simpa [keyRows] using HS2.out) (fun B hB k hk ha => by
    rw [List.take_zero] at hB
    have hB' : B ∈ cpHd (bi + 1) bi bm (.slice none 0 0) [] (.slice none 0 0) := by simpa [keyRows] using hB
    have l2 := HS2.out.n B hB' k hk
    rw [hA] at ha
    rcases ha with rfl | ha
    · have := HBB.out.1
      have hgz := HG1.out.sz
      simp only [cpHd, List.mem_cons, List.not_mem_nil, or_false] at hB'
      rcases hB' with rfl | rfl | rfl
      · have : k = bi + 1 := hk; omega
      · have : k = bi := hk; omega
      · rcases hk with e | e
        · omega
        · cases e
    · have := HOB.out k ha; omega))
  have HBI := Lib.hid (And.intro hbm hbi)
  rw [← hbm, ← hbi]
  clear k1 l1 hg hKL hA hbm hbi db1 lb1
  go_wp2_with fail
  apply wp_rangeFunc_zb (gf := 131) (lb := #[.pointer (some ⟨bb, 0, none⟩)]) rfl (enters_of Try.func131 (by kernel_rfl) rfl) HSEQ.out (Mdh.refl _ w2) HAL.out (fun _ => rfl)
    (fun Z pre X' => ∃ v KL, CpK Y X KL pre.length ∧ SWz w w2 A (cpHd (bi + 1) bi bm v KL (.slice none 0 0) ++ keyRows KL (X.keys.take pre.length)) Z X')
    (fun _ _ _ => False) (fun _ _ _ => False)
    (Apart.ex fun v => Apart.ex fun KL => (Apart.pure (fun pre : List Itsl => CpK Y X KL pre.length)).and (SWz.apart HG2.out.sz (fun pre : List Itsl => cpHd (bi + 1) bi bm v KL (.slice none 0 0) ++ keyRows KL (X.keys.take pre.length)))) apart_no apart_no
    ⟨_, _, HCP0.out, HZ.out⟩ _ ?assign ?body ?hend ?hret
  case hret => intro _ _ _ _ _ _ _ h; exact h.elim
  case assign =>
    intro l x X' K hK
    dsimp only [encOsl]
    gi_wp2
    exact hK
  case body =>
    intro l Z pre x X' hI hsp
    obtain ⟨v, KL, hcp, hZ⟩ := hI
    have HZI := Lib.hid hZ
    have HCP := Lib.hid hcp
    have hx : Y.KL[pre.length]? = some x := by
      obtain ⟨t, ht⟩ := hsp
      rw [← ht]
      simp
    obtain ⟨x1, x2⟩ := x
    obtain ⟨l', hl'⟩ : ∃ l', X.keys[pre.length]? = some (x1, l') := by
      have := keys_at HF.out.2.2.1.k pre.length
      rw [hx] at this
      cases h : X.keys[pre.length]? with
      | none => rw [h] at this; cases this
      | some y =>
        rw [h] at this
        obtain ⟨y1, y2⟩ := y
        have e : x1 = y1 := Option.some.inj this
        subst e
        exact ⟨y2, rfl⟩
    have HL' := Lib.hid hl'
    have HLE : Hid (l'.length ≤ 16384) := Lib.hid (by
      have h1 : X.of x1 = l' := by unfold IX.of; rw [(look_mem ordS HF.out.1.k0 x1 l').2 (List.mem_of_getElem? hl')]; rfl
      have := HF.out.1.of_le x1
      rwa [h1] at this)
    have HOW : Hid (Own X' 23 6 (slV x2) l'.length (rowE l')) := Lib.hid ((HF.out.2.1.get (Lay.key_mem hx hl')).gr hZ.s.g)
    have HB3 := Lib.hid (show X'.heap[bi + 1]? = _ from hZ.s.get (i := 0) rfl)
    have HBX := Lib.hid (show X'.heap[bi]? = _ from hZ.s.get (i := 1) rfl)
    have HOM' := Lib.hid (show OMsl X' bm v KL from hZ.s.get (i := 2) rfl)
    have HOML : Hid (∀ k, (k = bm ∨ v.ownBlock = some k) → k < X'.heap.size) := Lib.hid (fun k hk => hZ.s.s.lt (A := omA bm v KL) (by simp [cpHd]) k hk)
    have hKL : KL.length ≤ 16384 := by
      have e1 := congrArg List.length hcp.k
      simp only [List.length_map, List.length_take] at e1
      have := HF.out.1.keys_le
      omega
    have HKL := Lib.hid hKL
    have hbb : bm < bi := by have := blkLt HOM.out.blk; have := HBI.out; omega
    have m1 : ¬ bi + 1 = bm := by omega
    have m2 : ¬ v.ownBlock = some (bi + 1) := own_ne HOM'.out.own HB3.out (by decide)
    have m3 : ¬ bi = bm := by omega
    have m4 : ¬ v.ownBlock = some bi := own_ne HOM'.out.own HBX.out (by decide)
    have d3 := (cellsOf HB3.out).1
    have dx := (cellsOf HBX.out).1
    clear hcp hZ hsp hx hl' hKL
    obtain ⟨s1, s2, s3⟩ := x2
    simp only [slV] at *
    gi_wp2_with fail
    refine wpIn_region_flo (fun _ => trivial) rfl (fun k => k = bm ∨ v.ownBlock = some k) [] [] (by kernel_rfl) (by kernel_rfl) (HOML.out) ?_
    refine flo_seg 6 rfl ?_
    simp only [List.take_succ_cons, List.take_zero, List.drop_succ_cons, List.drop_zero]
    repeat (go_big_quiet_step (fail))
    refine wpQuiet_nil ?_
    refine flo_eff rfl rfl rfl rfl (fun K hK => ?_)
    gi_wp2_with ((refine ⟨trivial, ?_⟩; gi_at_call 112; refine (CallsIn.inRound l (callsIn_wide.2 (CloneE l' (by have := HLE.out; omega) (s1, s2, s3) X'.drew (HOW.out.gr (Gr.refl _).drew)))).mono ?_; rintro e w3 ⟨⟨q1, q2, q3⟩, rfl, ho3, hn3, hg3⟩; simp only [slV] at ho3 hn3; simp only [slV]; have HO3 := Lib.hid ho3; have HN3 := Lib.hid hn3; have HGD := Lib.hid hg3; have HG3 := Lib.hid (((Gr.refl _).drew).trans hg3); clear ho3 hn3 hg3))
    refine ⟨by first | exact HGD.out.mdh _ | exact HG3.out.mdh _, ?_⟩
    refine flo_eff rfl rfl rfl rfl (fun K hK => ?_)
    gi_wp2_with ((refine ⟨trivial, ?_⟩; gi_at_call 111; refine (CallsIn.inRound l (callsIn_wide.2 (Setsl bm v KL x1 (q1, q2, q3) w3 (HOM'.out.gr HG3.out) (by have := HKL.out; omega)))).mono ?_; rintro e w4 ⟨rfl, v', hm4, ho4, hd4⟩; have HM4 := Lib.hid hm4; have HO4 := Lib.hid ho4; have HD4 := Lib.hid hd4; clear hm4 ho4 hd4))
    refine ⟨by first | exact HD4.out | exact HD4.out.mono (fun k hk => .inl hk), ?_⟩
    refine flo_nil ?_
    gi_wp2_with fail
    have hp := HCP.out.put HF.out.1 HL'.out (q1, q2, q3)
    have hkl : KL.length = (X.keys.take pre.length).length := by simpa using congrArg List.length HCP.out.k
    have z4 := HZI.out.new HAL.out HG3.out (B := enA (q1, q2, q3) l') HO3.out HN3.out
    have z5 := z4.step (i := 3) (B' := omA bm v' (KL ++ [(x1, (q1, q2, q3))])) rfl HAL.out HD4.out (fun k hk => .inl hk) (by rw [← hp.1]; exact HM4.out) (fun k hk => hk.elim (fun e => .inl (.inl e)) (fun e => (HO4.out k e).imp .inr (fun h => h)))
    refine ⟨(HG3.out.mdh _).trans z5.2, v', KL ++ [(x1, (q1, q2, q3))], by rw [List.length_append]; exact hp.2, ?_⟩
    rw [List.length_append, show ([(x1, (s1, s2, s3))] : List Itsl).length = 1 from rfl, List.take_add_one, HL'.out, show (some (x1, l')).toList = [(x1, l')] from rfl, keyRows_snoc hkl]
    refine z5.1.perm ?_
    have e1 : ((enA (q1, q2, q3) l' :: (cpHd (bi + 1) bi bm v KL (.slice none 0 0) ++ keyRows KL (X.keys.take pre.length))).set 3 (omA bm v' (KL ++ [(x1, (q1, q2, q3))]))) = [enA (q1, q2, q3) l'] ++ (cpHd (bi + 1) bi bm v' (KL ++ [(x1, (q1, q2, q3))]) (.slice none 0 0) ++ keyRows KL (X.keys.take pre.length)) := rfl
    rw [e1]
    exact List.perm_append_comm.trans (by rw [List.append_assoc])
  case hend =>
    intro Z D xs W hD hZD hcase hdef
    obtain ⟨hxs, v, KL, hcp, hZ⟩ := hcase.elim (fun h => h) (fun h => h.2.elim)
    have hxs' : xs = Y.KL := hxs
    subst hxs'
    have hkl : Y.KL.length = X.keys.length := by simpa using congrArg List.length HF.out.2.2.1.k
    rw [hkl, List.take_length] at hZ
    have HK : Hid (KL.map Prod.fst = X.keys.map Prod.fst) := Lib.hid (by have := hcp.k; rwa [hkl, List.take_length] at this)
    have HD := Lib.hid (And.intro hD hdef)
    have hdz : ∀ B ∈ cpHd (bi + 1) bi bm v KL (.slice none 0 0) ++ keyRows KL X.keys, ∀ k, B.S k → k ≠ D := fun B hB k hk e => hZ.z B hB k hk (e ▸ hZD)
    have hnD : w.heap.size ≤ D := Nat.le_trans HG2.out.sz hD
    have HS0 : Hid (SW w (blkA D (.deferred (some [])) :: (cpHd (bi + 1) bi bm v KL (.slice none 0 0) ++ (rowA 127 1 (.slice none 0 0) 0 [] :: (keyRows KL X.keys ++ slotRows [] [])))) W) := Lib.hid (by
      have h1 : SW w (blkA D (.deferred (some [])) :: (cpHd (bi + 1) bi bm v KL (.slice none 0 0) ++ keyRows KL X.keys)) W := ⟨hZ.s.g, ⟨fun B hB => (List.mem_cons.1 hB).elim (fun e => e ▸ hdef) (hZ.s.s.1 B), List.pairwise_cons.2 ⟨fun B hB k hk hb => hdz B hB k hb hk, hZ.s.s.2⟩⟩, fun B hB k hk => (List.mem_cons.1 hB).elim (fun e => by rw [e] at hk; rw [show k = D from hk]; exact hnD) (fun e => hZ.s.n B e k hk)⟩
      have h2 := h1.new (Gr.refl _) (A := rowA 127 1 (.slice none 0 0) 0 []) (nilRow _ _ _) (fun k hk => by cases hk)
      refine h2.perm ?_
      rw [show slotRows [] [] = [] from rfl, List.append_nil]
      exact (List.perm_middle (l₁ := blkA D (.deferred (some [])) :: cpHd (bi + 1) bi bm v KL (.slice none 0 0))).symm)
    have HC : Hid (∃ g cap, w.heap[b]? = some (.cells #[.pointer (some ⟨Y.bm, 0, none⟩), .slice (some ⟨g, 0, none⟩) X.slots.length cap] 29) ∧ X.slots.length ≤ cap ∧ cap ≤ maxLen ∧ ∀ j l, X.slots[j]? = some l → ∃ s : Sl, w.cell? ⟨g, j, none⟩ = some (slV s) ∧ Own w 23 6 (slV s) l.length (rowE l)) := Lib.hid (by
      rcases (Lay.srow HF.out.2.1).2 with ⟨_, h0⟩ | ⟨g, cap, cur, hv, _, hg, c1, c2, c3, c4⟩
      · exact absurd (List.eq_nil_of_length_eq_zero h0) HI.out.pos
      · have hb := Lay.blk HF.out.2.1
        rw [hv] at hb
        refine ⟨g, cap, hb, c1, c2, fun j l hj => ?_⟩
        have hjl := (List.getElem?_eq_some_iff.1 hj).1
        have hs : X.has j = true := by simp [IX.has]; omega
        obtain ⟨i, sl, g', cap', e1, hlt, hsl, hsx, hsv, c1, c2, hc, ho, hm⟩ := Lay.slotE HF.out.2.1 HF.out.2.2.1 hs
        obtain rfl : j = i := by omega
        rw [hv] at hsv
        injection hsv with e2 _ _
        injection e2 with e2
        injection e2 with e2 _ _
        subst e2
        rw [hsx] at hj
        obtain rfl := Option.some.inj hj
        exact ⟨sl, hc, ho⟩)
    obtain ⟨g, cap, hb, hcn, hcm, hcs⟩ := HC.out
    have HCS := Lib.hid hcs
    have HGW := Lib.hid hZ.s.g
    have db := (cellsOf (hZ.s.g.blk hb)).1
    have h32 := HF.out.1.n
    unfold maxLen at hcm
    clear hcp hZ hcase hxs hdz hD hdef hnD hkl hb hcs
    dsimp only
    go_wp2_with fail
    go_loopw [34] (fun t34 wx => ∃ (j : Nat) (sv : Value) (SL : List Sl), j ≤ X.slots.length ∧ t34 = .int .i64 j ∧ Hid (SL.length = j ∧ SW w (blkA D (.deferred (some [])) :: (cpHd (bi + 1) bi bm v KL sv ++ (rowA 127 1 sv j (SL.map slV) :: (keyRows KL X.keys ++ slotRows SL (X.slots.take j))))) wx)) (fun t34 _ => X.slots.length - (intOf t34).toNat)
    case atStart => exact ⟨0, _, [], by omega, rfl, Lib.hid ⟨rfl, HS0.out⟩⟩
    case round =>
      obtain ⟨j, sv, SL, hj, rfl, HR⟩ := hrel
      by_cases hlt : j < X.slots.length
      · have hlt' : (j : Int) < X.slots.length := by omega
        obtain ⟨l, hl⟩ : ∃ l, X.slots[j]? = some l := ⟨_, List.getElem?_eq_getElem hlt⟩
        obtain ⟨⟨s1, s2, s3⟩, hc, ho⟩ := HCS.out j l hl
        simp only [slV] at hc ho
        have HL := Lib.hid hl
        have HOW := Lib.hid (ho.gr HR.out.2.g)
        have dg := HR.out.2.g.keep hc
        have db := (cellsOf (HR.out.2.g.blk (show w.heap[b]? = _ from HC.out.choose_spec.choose_spec.1))).1
        have HLL : Hid (l.length ≤ 512) := Lib.hid (by have := HF.out.1.slot_le j; rwa [slot_at hl] at this)
        have HB3 := Lib.hid (show wr.heap[bi + 1]? = _ from HR.out.2.get (i := 1) rfl)
        have HBX := Lib.hid (show wr.heap[bi]? = _ from HR.out.2.get (i := 2) rfl)
        have HSR := Lib.hid (show Own wr 127 1 sv j (SL.map slV) from HR.out.2.get (i := 4) rfl)
        have m2 : ¬ sv.ownBlock = some (bi + 1) := own_ne HSR.out HB3.out (by decide)
        have m4 : ¬ sv.ownBlock = some bi := own_ne HSR.out HBX.out (by decide)
        have HM4 := Lib.hid m4
        have d3 := (cellsOf HB3.out).1
        have dx := (cellsOf HBX.out).1
        have mixed : Try.prog.follows .mixedOrders = true := by kernel_rfl
        clear hl hc ho
        go_wp2_with fail
        refine wp_region_flt 9 (fun q => sv.ownBlock = some q) [] [] (by kernel_rfl) (by kernel_rfl) (by decide) (by kernel_rfl) (fun q hq => HSR.out.lt hq) ?_
        simp only [List.take_succ_cons, List.take_zero, List.drop_succ_cons, List.drop_zero]
        refine flo_seg 6 rfl ?_
        simp only [List.take_succ_cons, List.take_zero, List.drop_succ_cons, List.drop_zero]
        repeat (go_big_quiet_step (fail))
        refine wpQuiet_nil ?_
        refine flo_eff rfl rfl rfl rfl (fun K hK => ?_)
        go_wp2_with ((go_at_call 112; refine (CloneE l (by have := HLL.out; omega) (s1, s2, s3) wr.drew (HOW.out.gr (Gr.refl _).drew)).mono ?_; rintro e w3 ⟨⟨q1, q2, q3⟩, rfl, ho3, hn3, hg3⟩; simp only [slV] at ho3 hn3; simp only [slV]; have HO3 := Lib.hid ho3; have HN3 := Lib.hid hn3; have HGD := Lib.hid hg3; have HG3 := Lib.hid (((Gr.refl _).drew).trans hg3); clear ho3 hn3 hg3))
        refine ⟨by first | exact HGD.out.mdh _ | exact HG3.out.mdh _, ?_⟩
        refine flo_eff rfl rfl rfl rfl (fun K hK => ?_)
        go_wp2
        refine ⟨by (first | (refine Gr.mdh ?_ _; (repeat (first | (with_reducible exact Gr.refl _) | assumption | (with_reducible apply Gr.from_drew) | (with_reducible apply Gr.alloc) | (with_reducible apply Gr.drew) | (with_reducible refine Gr.trans ?_ (by assumption)) | (with_reducible refine Gr.setCell ?_ (by omega) _))); done) | (repeat (first | (with_reducible exact Mdh.refl _ _) | (with_reducible refine Mdh.setCell ?_ (by simp) _) | (with_reducible refine Mdh.setNew ?_ (by simp) _) | (with_reducible apply Mdh.alloc) | (with_reducible apply Mdh.from_drew) | (with_reducible apply Mdh.drew) | (with_reducible refine Mdh.gr ?_ (by assumption))))), ?_⟩
        refine flo_eff rfl rfl rfl rfl (fun K hK => ?_)
        refine wp_appv _ (.tmp 42) (.tmp 45) 27 rfl 127 i0 _ 1 24 Try.underlying27 hi hz0 hz1 hz2 rfl (by decide) sv j (SL.map slV) rfl ((HSR.out.gr HG3.out).gr (by (repeat (first | (with_reducible exact Gr.refl _) | assumption | (with_reducible apply Gr.from_drew) | (with_reducible apply Gr.alloc) | (with_reducible apply Gr.drew) | (with_reducible refine Gr.trans ?_ (by assumption)) | (with_reducible refine Gr.setCell ?_ (by omega) _))))) (some ⟨w3.heap.size, 0, none⟩) 1 1 [.slice q1 q2 q3] rfl ((src_newK w3 [.slice q1 q2 q3] _ 1 rfl (by simp [Value.oneCell'])).gr (by (repeat (first | (with_reducible exact Gr.refl _) | assumption | (with_reducible apply Gr.from_drew) | (with_reducible apply Gr.alloc) | (with_reducible apply Gr.drew) | (with_reducible refine Gr.trans ?_ (by assumption)) | (with_reducible refine Gr.setCell ?_ (by omega) _))))) (by simp only [maxLen]; omega) (by omega) (fun v' xa hk => ?_); obtain ⟨a', c', rfl⟩ := hk.val; have HK' := Lib.hid hk; refine hK _ _ ⟨hk.mdh (fun q hq => .inl hq), ?_⟩; simp only [Act.put, List.setIfInBounds_toArray, List.set_cons_succ, List.set_cons_zero]
        refine flo_nil ?_
        have z1 := HR.out.2.new HG3.out (A := enA (q1, q2, q3) l) HO3.out HN3.out
        have z2 := z1.gr ((Gr.refl w3).alloc (.cells #[.slice q1 q2 q3] 127))
        have hm := hk.mdh (fun g h => h)
        have z3 := z2.at (i := 5) (B := rowA 127 1 (.slice a' (j + 1) c') (j + 1) (SL.map slV ++ [Value.slice q1 q2 q3])) rfl hm (fun k hk => .inl hk) hk.1 (fun k hq => hk.2.1 k hq)
        have HZ3 := Lib.hid z3
        have b1 : xa.heap[bi]? = some (.cells #[.pointer (some ⟨bm, 0, none⟩), sv] 29) := HZ3.out.get (i := 3) rfl
        have HB1 := Lib.hid b1
        have f1 := (cellsOf b1).1
        have ff := (cellsOf b1).2
        clear hk z1 z2 z3 hm b1 m2 m4 d3 dx dg db
        go_wp2_with fail
        have z4 := HZ3.out.at (i := 3) (B := blkA bi (.cells #[.pointer (some ⟨bm, 0, none⟩), .slice a' (j + 1) c'] 29)) rfl ((Mdh.refl (fun k => k = bi) xa).setCell (p := ⟨bi, 1, none⟩) rfl (.slice a' (j + 1) c')) (fun k hk => .inl hk) (blkSet (j := 1) (u := .slice a' (j + 1) c') HB1.out) (fun k hk => .inl hk)
        have hsn : slotRows (SL ++ [(q1, q2, q3)]) (X.slots.take (j + 1)) = slotRows SL (X.slots.take j) ++ [enA (q1, q2, q3) l] := by
          rw [List.take_add_one, HL.out]
          exact slotRows_snoc (by rw [HR.out.1, List.length_take]; omega) _ _
        go_roundw
        case rel =>
          refine ⟨j + 1, .slice a' (j + 1) c', SL ++ [(q1, q2, q3)], by omega, by go_num, Lib.hid ⟨by rw [List.length_append, HR.out.1]; rfl, ?_⟩⟩
          rw [hsn, List.map_append]
          refine z4.perm ?_
          refine (List.perm_append_comm (l₁ := [enA (q1, q2, q3) l])).trans ?_
          simp only [cpHd, List.set_cons_succ, List.set_cons_zero, List.cons_append, List.nil_append, List.append_assoc]
          exact List.Perm.refl _
        case measure => simp [intOf]; omega
      · have hlt' : ¬ (j : Int) < X.slots.length := by omega
        obtain rfl : j = X.slots.length := by omega
        have d3 := (cellsOf (show wr.heap[bi + 1]? = _ from HR.out.2.get (i := 1) rfl)).1
        have hdef : wr.heap[D]? = some (.deferred (some [])) := HR.out.2.get (i := 0) rfl
        have HDF := Lib.hid hdef
        clear hdef
        go_wp2
        have hsep := HR.out.2.s.tail
        rw [List.take_length] at hsep
        have hnw := HR.out.2.n
        rw [List.take_length] at hnw
        have hds := HR.out.2.s.dis
        rw [List.take_length] at hds
        have hp : (cpHd (bi + 1) bi bm v KL sv ++ (rowA 127 1 sv X.slots.length (SL.map slV) :: (keyRows KL X.keys ++ slotRows SL X.slots))).Perm (blkA (bi + 1) (.cells #[.pointer (some ⟨bi, 0, none⟩)] 25) :: (⟨bm, v, sv, KL, SL⟩ : Lay).list bi X) := List.Perm.refl _
        have hm : Mdh (fun k => k = D) wr (wr.putObj D (.deferred none)) := (Mdh.refl (fun k => k = D) wr).putObj rfl _
        refine retM1 (D := D) (v := .pointer (some ⟨bi, 0, none⟩)) rfl HDF.out ?_ ⟨bi, fun k => ∃ B ∈ (⟨bm, v, sv, KL, SL⟩ : Lay).list bi X, B.S k, rfl, ⟨HF.out.1, HI.out.pos, ⟨bm, v, sv, KL, SL⟩, ?_, ⟨HK.out, HR.out.1⟩, fun k => Iff.rfl⟩, ?_, ?_⟩
        · simp [results, Try.results68, go_sem]
        · exact (hsep.perm hp).tail.mdh hm (fun B hB k hk hkD => hds B (hp.mem_iff.2 (List.mem_cons_of_mem _ hB)) k hkD hk)
        · rintro k ⟨B, hB, hk⟩
          exact hnw B (List.mem_cons_of_mem _ (hp.mem_iff.2 (List.mem_cons_of_mem _ hB))) k hk
        · exact HR.out.2.g.putObj (hnw _ (List.mem_cons_self ..) D rfl) _
end Go.Proofs.Ytiidkehcfoajeaa
