/- A copy of an index. -/
import Derived.Test.YtmdfickejpeofaaGreatBd10
import Derived.Test.YtmdfickejpeofaaGreatBd11
import Derived.Test.YtmdfickejpeofaaGreatBd6
import Derived.Laws.MakeOwn
set_option linter.unusedVariables false
set_option linter.unusedSimpArgs false
namespace Go.Proofs.YtmdfickejpeofaaGreat
open Go.RowKit Go.Shelf
attribute [local go_sem] OvM cell_ovm obj_ovm
attribute [local go_sem] Oper.semAt_some

section
variable {w0 wl W W' : World} {A Z : Nat → Prop} {R R' : List Asn} {B : Asn}
theorem SWz.new (h : SWz w0 wl A R Z W) (hA : ∀ k, A k → k < wl.heap.size) (g : Gr W W') (hB : B.P W') (hn : ∀ k, B.S k → W.heap.size ≤ k) : SWz w0 wl A (B :: R) Z W' :=
  ⟨h.s.new g hB hn, fun C hC k hk hz => (List.mem_cons.1 hC).elim (fun e => by have := hn k (e ▸ hk); have := h.zl k hz; omega) (fun e => h.z C e k hk hz),
    fun C hC k hk ha => (List.mem_cons.1 hC).elim (fun e => by have := hn k (e ▸ hk); have := hA k ha; have := h.sz; omega) (fun e => h.a C e k hk ha),
    h.zn, fun k hk => Nat.lt_of_lt_of_le (h.zl k hk) g.sz, Nat.le_trans h.sz g.sz⟩
theorem SWz.perm (h : SWz w0 wl A R Z W) (p : R.Perm R') : SWz w0 wl A R' Z W := ⟨h.s.perm p, fun B hB => h.z B (p.mem_iff.2 hB), fun B hB => h.a B (p.mem_iff.2 hB), h.zn, h.zl, h.sz⟩
end
theorem info_list : (Tryz.prog.info? 120).map (fun i => (i.zero, i.size, i.bytes)) = some (some (.slice none 0 0), 1, 24) := by kernel_rfl
/-- The last one put. -/
theorem put_last {α : Type} {L : List (ByteArray × α)} {k : ByteArray} {v : α} (h : ∀ x ∈ L, ltS x.1 k = true) (hs : Srt ltS L) : putL ltS L k v = L ++ [(k, v)] := by
  have hr : rk ltS L k = L.length := by
    refine (rk_uniq ordS hs k L.length (Nat.le_refl _) (fun j x _ hx => h x (List.mem_of_getElem? hx)) (fun j x hj hx => ?_)).symm
    have := (List.getElem?_eq_some_iff.1 hx).1; omega
  have hl : look ltS L k = none := by
    rw [look_none ordS hs]
    intro v hv
    have := h _ hv
    rw [ordS.irr] at this
    cases this
  unfold putL
  rw [hl, hr, List.take_length, List.drop_length, List.append_nil]
/-- The map of the copy under way. -/
structure CpK (Y : Lay) (X : IX) (KL' : List (ByteArray × Sl)) (j : Nat) : Prop where
  k : KL'.map Prod.fst = (X.keys.take j).map Prod.fst
theorem CpK.put {Y : Lay} {X : IX} {KL' : List (ByteArray × Sl)} {j : Nat} (h : CpK Y X KL' j) (hX : X.Wf) {k : ByteArray} {l : List En} (hx : X.keys[j]? = some (k, l)) (s' : Sl) : putL ltS KL' k s' = KL' ++ [(k, s')] ∧ CpK Y X (KL' ++ [(k, s')]) (j + 1) := by
  have hj := (List.getElem?_eq_some_iff.1 hx).1
  have hsrt : Srt ltS (X.keys.take j) := hX.k0.sublist (List.take_sublist _ _)
  have hs1 : (KL'.map Prod.fst).Pairwise (fun a b => ltS a b = true) := by
    rw [h.k]; exact List.pairwise_map.2 hsrt
  refine ⟨put_last (fun x hx' => ?_) (List.pairwise_map.1 hs1), ⟨?_⟩⟩
  · have hm : x.1 ∈ KL'.map Prod.fst := List.mem_map_of_mem hx'
    rw [h.k] at hm
    obtain ⟨y, hy, hxy⟩ := List.mem_map.1 hm
    obtain ⟨i, hi, rfl⟩ := List.mem_iff_getElem.1 hy
    rw [List.length_take] at hi
    rw [List.getElem_take] at hxy
    have := List.pairwise_iff_getElem.1 hX.k0 i j (by omega) hj (by omega)
    rw [hxy, (List.getElem?_eq_some_iff.1 hx).2] at this
    exact this
  · rw [List.map_append, h.k, List.take_add_one, hx, List.map_append]
    rfl
theorem keyRows_snoc {KL : List (ByteArray × Sl)} {ks : List (ByteArray × List En)} (h : KL.length = ks.length) (k : ByteArray) (s : Sl) (l : List En) : keyRows (KL ++ [(k, s)]) (ks ++ [(k, l)]) = keyRows KL ks ++ [enA s l] := by
  unfold keyRows
  rw [List.zipWith_append h]
  rfl
theorem slotRows_snoc {SL : List Sl} {ls : List (List En)} (h : SL.length = ls.length) (s : Sl) (l : List En) : slotRows (SL ++ [s]) (ls ++ [l]) = slotRows SL ls ++ [enA s l] := by
  unfold slotRows
  rw [List.zipWith_append h]
  rfl
def CopyPost (X : IX) (w : World) (e : Ending) (w' : World) : Prop := ∃ b' S', e = .returned (.pointer (some ⟨b', 0, none⟩)) ∧ IXR w' b' X S' ∧ (∀ k, S' k → w.heap.size ≤ k) ∧ Gr w w'
abbrev cpHd (b3 bi bm : Nat) (v : Value) (KL : List (ByteArray × Sl)) (sv : Value) : List Asn := [blkA b3 (.cells #[.pointer (some ⟨bi, 0, none⟩)] 35), blkA bi (.cells #[.pointer (some ⟨bm, 0, none⟩), sv] 119), omA bm v KL]

set_option maxRecDepth 40000 in
set_option maxHeartbeats 8000000 in
theorem CopyX {w : World} {b : Nat} {X : IX} {S : Nat → Prop} (h : IXR w b X S) : Calls Tryz.prog 104 #[.pointer (some ⟨b, 0, none⟩)] w (CopyPost X w) := by
  have HI := Lib.hid h
  obtain ⟨h1, h2, Y, h3, h4, h5⟩ := h
  have HF := Lib.hid (show _ from And.intro h1 (And.intro h3 (And.intro h4 h5)))
  have db := (cellsOf (Lay.blk h3)).1
  have lb := blkLt (Lay.blk h3)
  obtain ⟨i0, hi, hz0, hz1, hz2⟩ := info_parts info_list
  clear h1 h2 h3 h4 h5
  refine calls_of_wp_marks Tryz.func104 rfl ?_
  simp only [Tryz.ntmps104, List.size_toArray, List.length_cons, List.length_nil, Nat.reduceAdd, Nat.reduceSub, Array.replicate_succ, Array.replicate_zero, List.push_toArray, List.append_toArray, List.nil_append, List.cons_append]
  go_wp2_with (first
    | (go_at_call 70; refine (made_yes HI.out).mono ?_; rintro e w1 ⟨rfl, rfl⟩)
    | fail)
  refine (NewOsl w).mono ?_
  rintro e w1 ⟨rfl, hom, hg1⟩
  have HOM := Lib.hid hom
  have HG1 := Lib.hid hg1
  have db1 := (cellsOf (hg1.blk (Lay.blk HF.out.2.1))).1
  have lb1 := blkLt (hg1.blk (Lay.blk HF.out.2.1))
  clear hom hg1 db lb
  go_wp2_with fail
  obtain ⟨bm, hbm⟩ : ∃ q, q = w.heap.size := ⟨_, rfl⟩
  obtain ⟨bi, hbi⟩ : ∃ q, q = w1.heap.size := ⟨_, rfl⟩
  refine (AllOsl _ _).mono ?_
  rintro e w2 ⟨bb, rfl, k1, l1, hg⟩
  have HS2 : Hid (SW w (cpHd (bi + 1) bi bm (.slice none 0 0) [] (.slice none 0 0)) w2) := Lib.hid (by
    have h1 : SW w [omA bm (.slice none 0 0) []] w1 := (SW.start w).new HG1.out (by rw [hbm]; exact HOM.out) (fun k hk => hk.elim (fun e => by omega) (fun e => by cases e))
    have h2 := (h1.alloc (.cells #[.pointer (some ⟨w.heap.size, 0, none⟩), .slice none 0 0] 119)).alloc (.cells #[.pointer (some ⟨w1.heap.size, 0, none⟩)] 35)
    simp only [World.size_alloc] at h2
    rw [← hbi, ← hbm] at h2
    rw [← hbi, ← hbm] at hg
    exact h2.gr hg)
  have HBB : Hid (bi + 2 ≤ bb ∧ bb < w2.heap.size) := Lib.hid ⟨by simp only [World.size_alloc] at l1; omega, World.block_lt_of_cell? w2 _ k1⟩
  have HG2 : Hid (Gr w w2) := Lib.hid HS2.out.g
  have hKL : Y.KL.length ≤ 16384 := by
    have e1 := congrArg List.length HF.out.2.2.1.k
    simp only [List.length_map] at e1
    have e3 := HF.out.1.keys_le
    omega
  have HKL := Lib.hid hKL
  obtain ⟨A, hA⟩ : ∃ A : Nat → Prop, A = fun k => k = bb ∨ OMB (some ⟨Y.bm, 0, none⟩) Y.v k := ⟨_, rfl⟩
  have HOB : Hid (∀ k, OMB (some ⟨Y.bm, 0, none⟩) Y.v k → k < w.heap.size) := Lib.hid (fun k hk => HF.out.2.1.lt (A := omA Y.bm Y.v Y.KL) (by simp [Lay.list, Lay.hd]) k (hk.elim (fun ⟨a, e, hk⟩ => .inl (by cases e; exact hk)) .inr))
  have HAL : Hid (∀ k, A k → k < w2.heap.size) := Lib.hid (fun k hk => by
    rw [hA] at hk
    have := HG2.out.sz
    rcases hk with rfl | hk
    · exact HBB.out.2
    · have := HOB.out k hk; omega)
  have HSEQ : Hid (SeqZ Fence.wide 2 Tryz.prog 189 #[.pointer (some ⟨bb, 0, none⟩)] encOsl A (fun xs => xs = Y.KL) (fun pre => pre <+: Y.KL) w2) := Lib.hid (by
    rw [hA]
    exact SeqAsl (some ⟨Y.bm, 0, none⟩) Y.v Y.KL (by omega) bb w2 (.inl ⟨_, rfl, (Lay.om HF.out.2.1).gr HG2.out⟩) k1)
  have HCP0 : Hid (CpK Y X [] 0) := Lib.hid ⟨by simp⟩
  have HZ : Hid (SWz w w2 A (cpHd (bi + 1) bi bm (.slice none 0 0) [] (.slice none 0 0) ++ keyRows [] (X.keys.take 0)) (fun _ => False) w2) := Lib.hid (SWz.start (by simpa [keyRows] using HS2.out) (fun B hB k hk ha => by
    rw [List.take_zero] at hB
    have hB' : B ∈ cpHd (bi + 1) bi bm (.slice none 0 0) [] (.slice none 0 0) := by simpa [keyRows] using hB
    have l2 := HS2.out.n B hB' k hk
    rw [hA] at ha
    rcases ha with rfl | ha
    · have := HBB.out.1
      have hgz := HG1.out.sz
      simp only [cpHd, List.mem_cons, List.not_mem_nil, or_false] at hB'
      rcases hB' with rfl | rfl | rfl
      · have : k = bi + 1 := hk; omega
      · have : k = bi := hk; omega
      · rcases hk with e | e
        · omega
        · cases e
    · have := HOB.out k ha; omega))
  have HBI := Lib.hid (And.intro hbm hbi)
  rw [← hbm, ← hbi]
  clear k1 l1 hg hKL hA hbm hbi db1 lb1
  go_wp2_with fail
  apply wp_rangeFunc_zb (gf := 189) (lb := #[.pointer (some ⟨bb, 0, none⟩)]) rfl (enters_of Tryz.func189 (by kernel_rfl) rfl) HSEQ.out (Mdh.refl _ w2) HAL.out (fun _ => rfl)
    (fun Z pre X' => ∃ v KL, CpK Y X KL pre.length ∧ SWz w w2 A (cpHd (bi + 1) bi bm v KL (.slice none 0 0) ++ keyRows KL (X.keys.take pre.length)) Z X')
    (fun _ _ _ => False) (fun _ _ _ => False)
    (Apart.ex fun v => Apart.ex fun KL => (Apart.pure (fun pre : List Itsl => CpK Y X KL pre.length)).and (SWz.apart HG2.out.sz (fun pre : List Itsl => cpHd (bi + 1) bi bm v KL (.slice none 0 0) ++ keyRows KL (X.keys.take pre.length)))) apart_no apart_no
    ⟨_, _, HCP0.out, HZ.out⟩ _ ?assign ?body ?hend ?hret
  case hret => intro _ _ _ _ _ _ _ h; exact h.elim
  case assign =>
    intro l x X' K hK
    dsimp only [encOsl]
    gi_wp2
    exact hK
  case body =>
    intro l Z pre x X' hI hsp
    obtain ⟨v, KL, hcp, hZ⟩ := hI
    have HZI := Lib.hid hZ
    have HCP := Lib.hid hcp
    have hx : Y.KL[pre.length]? = some x := by
      obtain ⟨t, ht⟩ := hsp
      rw [← ht]
      simp
    obtain ⟨x1, x2⟩ := x
    obtain ⟨l', hl'⟩ : ∃ l', X.keys[pre.length]? = some (x1, l') := by
      have := keys_at HF.out.2.2.1.k pre.length
      rw [hx] at this
      cases h : X.keys[pre.length]? with
      | none => rw [h] at this; cases this
      | some y =>
        rw [h] at this
        obtain ⟨y1, y2⟩ := y
        have e : x1 = y1 := Option.some.inj this
        subst e
        exact ⟨y2, rfl⟩
    have HL' := Lib.hid hl'
    have HLE : Hid (l'.length ≤ 16384) := Lib.hid (by
      have h1 : X.of x1 = l' := by unfold IX.of; rw [(look_mem ordS HF.out.1.k0 x1 l').2 (List.mem_of_getElem? hl')]; rfl
      have := HF.out.1.of_le x1
      rwa [h1] at this)
    have HOW : Hid (Own X' 56 6 (slV x2) l'.length (rowE l')) := Lib.hid ((HF.out.2.1.get (Lay.key_mem hx hl')).gr hZ.s.g)
    have HB3 := Lib.hid (show X'.heap[bi + 1]? = _ from hZ.s.get (i := 0) rfl)
    have HBX := Lib.hid (show X'.heap[bi]? = _ from hZ.s.get (i := 1) rfl)
    have HOM' := Lib.hid (show OMsl X' bm v KL from hZ.s.get (i := 2) rfl)
    have HOML : Hid (∀ k, (k = bm ∨ v.ownBlock = some k) → k < X'.heap.size) := Lib.hid (fun k hk => hZ.s.s.lt (A := omA bm v KL) (by simp [cpHd]) k hk)
    have hKL : KL.length ≤ 16384 := by
      have e1 := congrArg List.length hcp.k
      simp only [List.length_map, List.length_take] at e1
      have := HF.out.1.keys_le
      omega
    have HKL := Lib.hid hKL
    have hbb : bm < bi := by have := blkLt HOM.out.blk; have := HBI.out; omega
    have m1 : ¬ bi + 1 = bm := by omega
    have m2 : ¬ v.ownBlock = some (bi + 1) := own_ne HOM'.out.own HB3.out (by decide)
    have m3 : ¬ bi = bm := by omega
    have m4 : ¬ v.ownBlock = some bi := own_ne HOM'.out.own HBX.out (by decide)
    have d3 := (cellsOf HB3.out).1
    have dx := (cellsOf HBX.out).1
    clear hcp hZ hsp hx hl' hKL
    obtain ⟨s1, s2, s3⟩ := x2
    simp only [slV] at *
    gi_wp2_with fail
    refine wpIn_region_flo (fun _ => trivial) rfl (fun k => k = bm ∨ v.ownBlock = some k) [] [] (by kernel_rfl) (by kernel_rfl) (HOML.out) ?_
    refine flo_seg 6 rfl ?_
    simp only [List.take_succ_cons, List.take_zero, List.drop_succ_cons, List.drop_zero]
    repeat (go_big_quiet_step (fail))
    refine wpQuiet_nil ?_
    refine flo_eff rfl rfl rfl rfl (fun K hK => ?_)
    gi_wp2_with ((refine ⟨trivial, ?_⟩; gi_at_call 98; refine (CallsIn.inRound l (callsIn_wide.2 (CloneE l' (by have := HLE.out; omega) (s1, s2, s3) X'.drew (HOW.out.gr (Gr.refl _).drew)))).mono ?_; rintro e w3 ⟨⟨q1, q2, q3⟩, rfl, ho3, hn3, hg3⟩; simp only [slV] at ho3 hn3; simp only [slV]; have HO3 := Lib.hid ho3; have HN3 := Lib.hid hn3; have HGD := Lib.hid hg3; have HG3 := Lib.hid (((Gr.refl _).drew).trans hg3); clear ho3 hn3 hg3))
    refine ⟨by first | exact HGD.out.mdh _ | exact HG3.out.mdh _, ?_⟩
    refine flo_eff rfl rfl rfl rfl (fun K hK => ?_)
    gi_wp2_with ((refine ⟨trivial, ?_⟩; gi_at_call 97; refine (CallsIn.inRound l (callsIn_wide.2 (Setsl bm v KL x1 (q1, q2, q3) w3 (HOM'.out.gr HG3.out) (by have := HKL.out; omega)))).mono ?_; rintro e w4 ⟨rfl, v', hm4, ho4, hd4⟩; have HM4 := Lib.hid hm4; have HO4 := Lib.hid ho4; have HD4 := Lib.hid hd4; clear hm4 ho4 hd4))
    refine ⟨by first | exact HD4.out | exact HD4.out.mono (fun k hk => .inl hk), ?_⟩
    refine flo_nil ?_
    gi_wp2_with fail
    have hp := HCP.out.put HF.out.1 HL'.out (q1, q2, q3)
    have hkl : KL.length = (X.keys.take pre.length).length := by simpa using congrArg List.length HCP.out.k
    have z4 := HZI.out.new HAL.out HG3.out (B := enA (q1, q2, q3) l') HO3.out HN3.out
    have z5 := z4.step (i := 3) (B' := omA bm v' (KL ++ [(x1, (q1, q2, q3))])) rfl HAL.out HD4.out (fun k hk => .inl hk) (by rw [← hp.1]; exact HM4.out) (fun k hk => hk.elim (fun e => .inl (.inl e)) (fun e => (HO4.out k e).imp .inr (fun h => h)))
    refine ⟨(HG3.out.mdh _).trans z5.2, v', KL ++ [(x1, (q1, q2, q3))], by rw [List.length_append]; exact hp.2, ?_⟩
    rw [List.length_append, show ([(x1, (s1, s2, s3))] : List Itsl).length = 1 from rfl, List.take_add_one, HL'.out, show (some (x1, l')).toList = [(x1, l')] from rfl, keyRows_snoc hkl]
    refine z5.1.perm ?_
    have e1 : ((enA (q1, q2, q3) l' :: (cpHd (bi + 1) bi bm v KL (.slice none 0 0) ++ keyRows KL (X.keys.take pre.length))).set 3 (omA bm v' (KL ++ [(x1, (q1, q2, q3))]))) = [enA (q1, q2, q3) l'] ++ (cpHd (bi + 1) bi bm v' (KL ++ [(x1, (q1, q2, q3))]) (.slice none 0 0) ++ keyRows KL (X.keys.take pre.length)) := rfl
    rw [e1]
    exact List.perm_append_comm.trans (by rw [List.append_assoc])
  case hend =>
    intro Z D xs W hD hZD hcase hdef
    obtain ⟨hxs, v, KL, hcp, hZ⟩ := hcase.elim (fun h => h) (fun h => h.2.elim)
    have hxs' : xs = Y.KL := hxs
    subst hxs'
    have hkl : Y.KL.length = X.keys.length := by simpa using congrArg List.length HF.out.2.2.1.k
    rw [hkl, List.take_length] at hZ
    have HK : Hid (KL.map Prod.fst = X.keys.map Prod.fst) := Lib.hid (by have := hcp.k; rwa [hkl, List.take_length] at this)
    have HD := Lib.hid (And.intro hD hdef)
    have hdz : ∀ B ∈ cpHd (bi + 1) bi bm v KL (.slice none 0 0) ++ keyRows KL X.keys, ∀ k, B.S k → k ≠ D := fun B hB k hk e => hZ.z B hB k hk (e ▸ hZD)
    have hnD : w.heap.size ≤ D := Nat.le_trans HG2.out.sz hD
    have HS0 : Hid (SW w (blkA D (.deferred (some [])) :: (cpHd (bi + 1) bi bm v KL (.slice none 0 0) ++ (rowA 120 1 (.slice none 0 0) 0 [] :: (keyRows KL X.keys ++ slotRows [] [])))) W) := Lib.hid (by
      have h1 : SW w (blkA D (.deferred (some [])) :: (cpHd (bi + 1) bi bm v KL (.slice none 0 0) ++ keyRows KL X.keys)) W := ⟨hZ.s.g, ⟨fun B hB => (List.mem_cons.1 hB).elim (fun e => e ▸ hdef) (hZ.s.s.1 B), List.pairwise_cons.2 ⟨fun B hB k hk hb => hdz B hB k hb hk, hZ.s.s.2⟩⟩, fun B hB k hk => (List.mem_cons.1 hB).elim (fun e => by rw [e] at hk; rw [show k = D from hk]; exact hnD) (fun e => hZ.s.n B e k hk)⟩
      have h2 := h1.new (Gr.refl _) (A := rowA 120 1 (.slice none 0 0) 0 []) (nilRow _ _ _) (fun k hk => by cases hk)
      refine h2.perm ?_
      rw [show slotRows [] [] = [] from rfl, List.append_nil]
      exact (List.perm_middle (l₁ := blkA D (.deferred (some [])) :: cpHd (bi + 1) bi bm v KL (.slice none 0 0))).symm)
    have HC : Hid (∃ g cap, w.heap[b]? = some (.cells #[.pointer (some ⟨Y.bm, 0, none⟩), .slice (some ⟨g, 0, none⟩) X.slots.length cap] 119) ∧ X.slots.length ≤ cap ∧ cap ≤ maxLen ∧ ∀ j l, X.slots[j]? = some l → ∃ s : Sl, w.cell? ⟨g, j, none⟩ = some (slV s) ∧ Own w 56 6 (slV s) l.length (rowE l)) := Lib.hid (by
      rcases (Lay.srow HF.out.2.1).2 with ⟨_, h0⟩ | ⟨g, cap, cur, hv, _, hg, c1, c2, c3, c4⟩
      · exact absurd (List.eq_nil_of_length_eq_zero h0) HI.out.pos
      · have hb := Lay.blk HF.out.2.1
        rw [hv] at hb
        refine ⟨g, cap, hb, c1, c2, fun j l hj => ?_⟩
        have hjl := (List.getElem?_eq_some_iff.1 hj).1
        have hs : X.has j = true := by simp [IX.has]; omega
        obtain ⟨i, sl, g', cap', e1, hlt, hsl, hsx, hsv, c1, c2, hc, ho, hm⟩ := Lay.slotE HF.out.2.1 HF.out.2.2.1 hs
        obtain rfl : j = i := by omega
        rw [hv] at hsv
        injection hsv with e2 _ _
        injection e2 with e2
        injection e2 with e2 _ _
        subst e2
        rw [hsx] at hj
        obtain rfl := Option.some.inj hj
        exact ⟨sl, hc, ho⟩)
    obtain ⟨g, cap, hb, hcn, hcm, hcs⟩ := HC.out
    have HCS := Lib.hid hcs
    have HGW := Lib.hid hZ.s.g
    have db := (cellsOf (hZ.s.g.blk hb)).1
    have h32 := HF.out.1.n
    unfold maxLen at hcm
    clear hcp hZ hcase hxs hdz hD hdef hnD hkl hb hcs
    dsimp only
    go_wp2_with fail
    go_loopw [34] (fun t34 wx => ∃ (j : Nat) (sv : Value) (SL : List Sl), j ≤ X.slots.length ∧ t34 = .int .i64 j ∧ Hid (SL.length = j ∧ SW w (blkA D (.deferred (some [])) :: (cpHd (bi + 1) bi bm v KL sv ++ (rowA 120 1 sv j (SL.map slV) :: (keyRows KL X.keys ++ slotRows SL (X.slots.take j))))) wx)) (fun t34 _ => X.slots.length - (intOf t34).toNat)
    case atStart => exact ⟨0, _, [], by omega, rfl, Lib.hid ⟨rfl, HS0.out⟩⟩
    case round =>
      obtain ⟨j, sv, SL, hj, rfl, HR⟩ := hrel
      by_cases hlt : j < X.slots.length
      · have hlt' : (j : Int) < X.slots.length := by omega
        obtain ⟨l, hl⟩ : ∃ l, X.slots[j]? = some l := ⟨_, List.getElem?_eq_getElem hlt⟩
        obtain ⟨⟨s1, s2, s3⟩, hc, ho⟩ := HCS.out j l hl
        simp only [slV] at hc ho
        have HL := Lib.hid hl
        have HOW := Lib.hid (ho.gr HR.out.2.g)
        have dg := HR.out.2.g.keep hc
        have db := (cellsOf (HR.out.2.g.blk (show w.heap[b]? = _ from HC.out.choose_spec.choose_spec.1))).1
        have HLL : Hid (l.length ≤ 512) := Lib.hid (by have := HF.out.1.slot_le j; rwa [slot_at hl] at this)
        have HB3 := Lib.hid (show wr.heap[bi + 1]? = _ from HR.out.2.get (i := 1) rfl)
        have HBX := Lib.hid (show wr.heap[bi]? = _ from HR.out.2.get (i := 2) rfl)
        have HSR := Lib.hid (show Own wr 120 1 sv j (SL.map slV) from HR.out.2.get (i := 4) rfl)
        have m2 : ¬ sv.ownBlock = some (bi + 1) := own_ne HSR.out HB3.out (by decide)
        have m4 : ¬ sv.ownBlock = some bi := own_ne HSR.out HBX.out (by decide)
        have HM4 := Lib.hid m4
        have d3 := (cellsOf HB3.out).1
        have dx := (cellsOf HBX.out).1
        have mixed : Tryz.prog.follows .mixedOrders = true := by kernel_rfl
        clear hl hc ho
        go_wp2_with fail
        refine wp_region_flt 9 (fun q => sv.ownBlock = some q) [] [] (by kernel_rfl) (by kernel_rfl) (by decide) (by kernel_rfl) (fun q hq => HSR.out.lt hq) ?_
        simp only [List.take_succ_cons, List.take_zero, List.drop_succ_cons, List.drop_zero]
        refine flo_seg 6 rfl ?_
        simp only [List.take_succ_cons, List.take_zero, List.drop_succ_cons, List.drop_zero]
        repeat (go_big_quiet_step (fail))
        refine wpQuiet_nil ?_
        refine flo_eff rfl rfl rfl rfl (fun K hK => ?_)
        go_wp2_with ((go_at_call 98; refine (CloneE l (by have := HLL.out; omega) (s1, s2, s3) wr.drew (HOW.out.gr (Gr.refl _).drew)).mono ?_; rintro e w3 ⟨⟨q1, q2, q3⟩, rfl, ho3, hn3, hg3⟩; simp only [slV] at ho3 hn3; simp only [slV]; have HO3 := Lib.hid ho3; have HN3 := Lib.hid hn3; have HGD := Lib.hid hg3; have HG3 := Lib.hid (((Gr.refl _).drew).trans hg3); clear ho3 hn3 hg3))
        refine ⟨by first | exact HGD.out.mdh _ | exact HG3.out.mdh _, ?_⟩
        refine flo_eff rfl rfl rfl rfl (fun K hK => ?_)
        go_wp2
        refine ⟨by (first | (refine Gr.mdh ?_ _; (repeat (first | (with_reducible exact Gr.refl _) | assumption | (with_reducible apply Gr.from_drew) | (with_reducible apply Gr.alloc) | (with_reducible apply Gr.drew) | (with_reducible refine Gr.trans ?_ (by assumption)) | (with_reducible refine Gr.setCell ?_ (by omega) _))); done) | (repeat (first | (with_reducible exact Mdh.refl _ _) | (with_reducible refine Mdh.setCell ?_ (by simp) _) | (with_reducible refine Mdh.setNew ?_ (by simp) _) | (with_reducible apply Mdh.alloc) | (with_reducible apply Mdh.from_drew) | (with_reducible apply Mdh.drew) | (with_reducible refine Mdh.gr ?_ (by assumption))))), ?_⟩
        refine flo_eff rfl rfl rfl rfl (fun K hK => ?_)
        refine wp_appv _ (.tmp 42) (.tmp 45) 117 rfl 120 i0 _ 1 24 Tryz.underlying117 hi hz0 hz1 hz2 rfl (by decide) sv j (SL.map slV) rfl ((HSR.out.gr HG3.out).gr (by (repeat (first | (with_reducible exact Gr.refl _) | assumption | (with_reducible apply Gr.from_drew) | (with_reducible apply Gr.alloc) | (with_reducible apply Gr.drew) | (with_reducible refine Gr.trans ?_ (by assumption)) | (with_reducible refine Gr.setCell ?_ (by omega) _))))) (some ⟨w3.heap.size, 0, none⟩) 1 1 [.slice q1 q2 q3] rfl ((src_newK w3 [.slice q1 q2 q3] _ 1 rfl (by simp [Value.oneCell'])).gr (by (repeat (first | (with_reducible exact Gr.refl _) | assumption | (with_reducible apply Gr.from_drew) | (with_reducible apply Gr.alloc) | (with_reducible apply Gr.drew) | (with_reducible refine Gr.trans ?_ (by assumption)) | (with_reducible refine Gr.setCell ?_ (by omega) _))))) (by simp only [maxLen]; omega) (by omega) (fun v' xa hk => ?_); obtain ⟨a', c', rfl⟩ := hk.val; have HK' := Lib.hid hk; refine hK _ _ ⟨hk.mdh (fun q hq => .inl hq), ?_⟩; simp only [Act.put, List.setIfInBounds_toArray, List.set_cons_succ, List.set_cons_zero]
        refine flo_nil ?_
        have z1 := HR.out.2.new HG3.out (A := enA (q1, q2, q3) l) HO3.out HN3.out
        have z2 := z1.gr ((Gr.refl w3).alloc (.cells #[.slice q1 q2 q3] 120))
        have hm := hk.mdh (fun g h => h)
        have z3 := z2.at (i := 5) (B := rowA 120 1 (.slice a' (j + 1) c') (j + 1) (SL.map slV ++ [Value.slice q1 q2 q3])) rfl hm (fun k hk => .inl hk) hk.1 (fun k hq => hk.2.1 k hq)
        have HZ3 := Lib.hid z3
        have b1 : xa.heap[bi]? = some (.cells #[.pointer (some ⟨bm, 0, none⟩), sv] 119) := HZ3.out.get (i := 3) rfl
        have HB1 := Lib.hid b1
        have f1 := (cellsOf b1).1
        have ff := (cellsOf b1).2
        clear hk z1 z2 z3 hm b1 m2 m4 d3 dx dg db
        go_wp2_with fail
        have z4 := HZ3.out.at (i := 3) (B := blkA bi (.cells #[.pointer (some ⟨bm, 0, none⟩), .slice a' (j + 1) c'] 119)) rfl ((Mdh.refl (fun k => k = bi) xa).setCell (p := ⟨bi, 1, none⟩) rfl (.slice a' (j + 1) c')) (fun k hk => .inl hk) (blkSet (j := 1) (u := .slice a' (j + 1) c') HB1.out) (fun k hk => .inl hk)
        have hsn : slotRows (SL ++ [(q1, q2, q3)]) (X.slots.take (j + 1)) = slotRows SL (X.slots.take j) ++ [enA (q1, q2, q3) l] := by
          rw [List.take_add_one, HL.out]
          exact slotRows_snoc (by rw [HR.out.1, List.length_take]; omega) _ _
        go_roundw
        case rel =>
          refine ⟨j + 1, .slice a' (j + 1) c', SL ++ [(q1, q2, q3)], by omega, by go_num, Lib.hid ⟨by rw [List.length_append, HR.out.1]; rfl, ?_⟩⟩
          rw [hsn, List.map_append]
          refine z4.perm ?_
          refine (List.perm_append_comm (l₁ := [enA (q1, q2, q3) l])).trans ?_
          simp only [cpHd, List.set_cons_succ, List.set_cons_zero, List.cons_append, List.nil_append, List.append_assoc]
          exact List.Perm.refl _
        case measure => simp [intOf]; omega
      · have hlt' : ¬ (j : Int) < X.slots.length := by omega
        obtain rfl : j = X.slots.length := by omega
        have d3 := (cellsOf (show wr.heap[bi + 1]? = _ from HR.out.2.get (i := 1) rfl)).1
        have hdef : wr.heap[D]? = some (.deferred (some [])) := HR.out.2.get (i := 0) rfl
        have HDF := Lib.hid hdef
        clear hdef
        go_wp2
        have hsep := HR.out.2.s.tail
        rw [List.take_length] at hsep
        have hnw := HR.out.2.n
        rw [List.take_length] at hnw
        have hds := HR.out.2.s.dis
        rw [List.take_length] at hds
        have hp : (cpHd (bi + 1) bi bm v KL sv ++ (rowA 120 1 sv X.slots.length (SL.map slV) :: (keyRows KL X.keys ++ slotRows SL X.slots))).Perm (blkA (bi + 1) (.cells #[.pointer (some ⟨bi, 0, none⟩)] 35) :: (⟨bm, v, sv, KL, SL⟩ : Lay).list bi X) := List.Perm.refl _
        have hm : Mdh (fun k => k = D) wr (wr.putObj D (.deferred none)) := (Mdh.refl (fun k => k = D) wr).putObj rfl _
        refine retM1 (D := D) (v := .pointer (some ⟨bi, 0, none⟩)) rfl HDF.out ?_ ⟨bi, fun k => ∃ B ∈ (⟨bm, v, sv, KL, SL⟩ : Lay).list bi X, B.S k, rfl, ⟨HF.out.1, HI.out.pos, ⟨bm, v, sv, KL, SL⟩, ?_, ⟨HK.out, HR.out.1⟩, fun k => Iff.rfl⟩, ?_, ?_⟩
        · simp [results, Tryz.results104, go_sem]
        · exact (hsep.perm hp).tail.mdh hm (fun B hB k hk hkD => hds B (hp.mem_iff.2 (List.mem_cons_of_mem _ hB)) k hkD hk)
        · rintro k ⟨B, hB, hk⟩
          exact hnw B (List.mem_cons_of_mem _ (hp.mem_iff.2 (List.mem_cons_of_mem _ hB))) k hk
        · exact HR.out.2.g.putObj (hnw _ (List.mem_cons_self ..) D rfl) _
end Go.Proofs.YtmdfickejpeofaaGreat

/- Contract of index.New. -/
set_option linter.unusedVariables false
set_option linter.unusedSimpArgs false
namespace Go.Proofs.YtmdfickejpeofaaGreat
open Go.RowKit
attribute [local go_sem] OvM cell_ovm obj_ovm

theorem infoList : (Tryz.prog.info? 120).map (fun i => (i.zero, i.size, i.bytes)) = some (some (.slice none 0 0), 1, 24) := by kernel_rfl
theorem new_bad (n : Int) (h : n < 1 ∨ 32 < n) (w : World) : Calls Tryz.prog 32 #[.int .i64 n] w fun e w' => e = .returned (.tuple #[.pointer none, .int .i64 2]) ∧ w = w' := by
  rcases h with h | h
  · go_enter Tryz.func32, Tryz.ntmps32
    go_wp2
    go_ret2
    exact ⟨rfl, rfl⟩
  · have h1 : ¬ n < 1 := by omega
    go_enter Tryz.func32, Tryz.ntmps32
    go_wp2
    go_ret2
    exact ⟨rfl, rfl⟩
theorem ixNew_pos {n : Nat} (h : 1 ≤ n) : (ixNew n).slots ≠ [] := by
  intro h0
  have := congrArg List.length h0
  simp [ixNew] at this
  omega
/-- The rows of empty slots. -/
theorem new_sep {w : World} {b bm g n : Nat} (hn : 1 ≤ n) (h1 : n ≤ 32) (hb : w.heap[b]? = some (.cells #[.pointer (some ⟨bm, 0, none⟩), .slice (some ⟨g, 0, none⟩) n n] 119)) (ho : OMsl w bm (.slice none 0 0) []) (hg : w.heap[g]? = some (.cells (madeCells #[.slice none 0 0] (n * 1)) 120))
    (n1 : b ≠ bm) (n2 : b ≠ g) (n3 : bm ≠ g) : IXR w b (ixNew n) (fun k => k = b ∨ k = bm ∨ k = g) := by
  have hrep : (List.replicate n ((none, 0, 0) : Sl)).map slV = List.replicate n (Value.slice none 0 0) := by simp [slV]
  have hrow : Own w 120 1 (.slice (some ⟨g, 0, none⟩) n n) n ((List.replicate n ((none, 0, 0) : Sl)).map slV) := by
    refine Own.ofParts hg (Nat.le_refl _) (by simp only [maxLen]; omega) (by rw [size_madeCells]) ?_
    rw [hrep]
    apply List.ext_getElem?
    intro i
    by_cases hi : i < n
    · rw [List.getElem?_take_of_lt (by omega), made_get _ n i hi]
      simp [hi]
    · rw [List.getElem?_eq_none (by simp [size_madeCells]; omega), List.getElem?_eq_none (by simp; omega)]
  have hemp : ∀ (m : Nat), ∀ A ∈ slotRows (List.replicate m ((none, 0, 0) : Sl)) (List.replicate m []), A = enA (none, 0, 0) [] := fun m A hA => by
    unfold slotRows at hA
    rw [List.zipWith_replicate] at hA
    exact (List.mem_replicate.1 hA).2
  have hno : ∀ k, ¬ (enA (none, 0, 0) []).S k := fun k h => by cases h
  refine ⟨new_wf h1, ixNew_pos hn, ⟨bm, .slice none 0 0, .slice (some ⟨g, 0, none⟩) n n, [], List.replicate n (none, 0, 0)⟩, ⟨fun A hA => ?_, ?_⟩, ⟨rfl, by simp [ixNew]⟩, fun k => ⟨fun hk => ?_, fun ⟨A, hA, hk⟩ => ?_⟩⟩
  · simp only [Lay.list, Lay.hd, List.mem_append, List.mem_cons, List.not_mem_nil, or_false, ixNew, List.length_replicate] at hA
    rcases hA with (rfl | rfl | rfl) | hA | hA
    · exact hb
    · exact ho
    · exact hrow
    · cases hA
    · rw [hemp n A hA]; exact nilRow w _ _
  · simp only [Lay.list, Lay.hd, ixNew, keyRows, List.zipWith_nil_left, List.nil_append, List.cons_append, List.length_replicate]
    refine List.pairwise_cons.2 ⟨fun A hA k h1 h2 => ?_, List.pairwise_cons.2 ⟨fun A hA k h1 h2 => ?_, List.pairwise_cons.2 ⟨fun A hA k h1 h2 => ?_, ?_⟩⟩⟩
    · have h1' : k = b := h1
      subst h1'
      simp only [List.mem_cons] at hA
      rcases hA with rfl | rfl | hA
      · rcases h2 with h | h
        · exact n1 h
        · cases h
      · exact n2 (Option.some.inj h2).symm
      · rw [hemp n A hA] at h2; exact hno _ h2
    · have h1' : k = bm := h1.elim (fun h => h) (fun h => by cases h)
      subst h1'
      simp only [List.mem_cons] at hA
      rcases hA with rfl | hA
      · exact n3 (Option.some.inj h2).symm
      · rw [hemp n A hA] at h2; exact hno _ h2
    · rw [hemp n A hA] at h2; exact hno _ h2
    · refine List.pairwise_of_forall_mem_list (fun A hA B hB k h1 h2 => ?_)
      rw [hemp n A hA] at h1; exact hno _ h1
  · rcases hk with rfl | rfl | rfl
    · exact ⟨blkA k _, by simp [Lay.list, Lay.hd]; exact .inl rfl, rfl⟩
    · exact ⟨omA k (.slice none 0 0) [], by simp [Lay.list, Lay.hd], .inl rfl⟩
    · exact ⟨rowA 120 1 (.slice (some ⟨k, 0, none⟩) n n) n ((List.replicate n ((none, 0, 0) : Sl)).map slV), by simp [Lay.list, Lay.hd, ixNew], rfl⟩
  · simp only [Lay.list, Lay.hd, List.mem_append, List.mem_cons, List.not_mem_nil, or_false, ixNew, List.length_replicate] at hA
    rcases hA with (rfl | rfl | rfl) | hA | hA
    · exact .inl hk
    · exact .inr (.inl (hk.elim (fun h => h) (fun h => by cases h)))
    · exact .inr (.inr (Option.some.inj hk).symm)
    · cases hA
    · rw [hemp n A hA] at hk; exact (hno _ hk).elim
set_option maxRecDepth 40000 in
set_option maxHeartbeats 1000000 in
theorem New_any (n : Nat) (w : World) (h1 : 1 ≤ n) (h2 : n ≤ 32) : Calls Tryz.prog 32 #[.int .i64 n] w fun e w' => ∃ b S, e = .returned (.tuple #[.pointer (some ⟨b, 0, none⟩), .int .i64 0]) ∧ IXR w' b (ixNew n) S ∧ (∀ k, S k → w.heap.size ≤ k) ∧ Gr w w' := by
  obtain ⟨i0, hi, hz0, hz1, hz2⟩ := info_parts infoList
  have hn1 : ¬ (n : Int) < 1 := by omega
  have hn2 : ¬ (32 : Int) < n := by omega
  have hm1 : ∀ w : World, (Instr.makeSlice 117 (.int .i64 (n : Int)) (.int .i64 (n : Int))).run Tryz.prog w = .ok (.slice (some ⟨w.heap.size, 0, none⟩) n n) (w.alloc (.cells (madeCells #[.slice none 0 0] (n * 1)) 120)) := fun w => by
    have := run_make (P := Tryz.prog) w 117 120 i0 _ Tryz.underlying117 hi hz0 .i64 .i64 n n (by omega) (by omega) (by rw [hz2]; omega) (by omega)
    rw [hz1] at this
    simp only [Int.toNat_natCast] at this
    exact this
  have HM1 := Lib.hid hm1
  clear hm1 hi hz0 hz1 hz2
  go_enter Tryz.func32, Tryz.ntmps32
  go_wp2
  have HG := Gr.refl w.drew
  refine wp_region_flo (fun _ => False) [12] [] (by kernel_rfl) (by kernel_rfl) (fun _ h => h.elim) ?_
  refine flo_effg rfl rfl rfl (fun wg1 hgg1 K hK => ?_)
  (try replace HG := Gr.trans (Gr.trans HG (by (repeat (first | (with_reducible exact Gr.refl _) | assumption | (with_reducible apply Gr.from_drew) | (with_reducible apply Gr.alloc) | (with_reducible apply Gr.drew) | (with_reducible refine Gr.trans ?_ (by assumption)) | (with_reducible refine Gr.setCell ?_ (by omega) _))))) hgg1)
  go_wp2_with fail; refine (NewOsl _).mono ?_; rintro e' wa1 ⟨rfl, hom, hg⟩; have HOM := Lib.hid hom; have HGA := Lib.hid (HG.trans hg); have HSZ := Lib.hid HG.sz; have HGW := Lib.hid hg; replace HG := HG.trans hg; clear hom hg; go_wp2_with fail; refine ⟨HGW.out.mdh _, ?_⟩
  refine flo_seg 1 rfl ?_
  simp only [List.take_succ_cons, List.take_zero, List.drop_succ_cons, List.drop_zero]
  repeat (go_big_quiet_step (fail))
  refine wpQuiet_nil ?_
  refine flo_float (fun b ↦ .slice (some ⟨b, 0, none⟩) n n) (.cells (madeCells #[.slice none 0 0] (n * 1)) 120 ) rfl rfl ( fun w ↦ by simp [go_sem, HM1.out w] ) (fun wf1 fb1 hgf1 fl1 fh1 ft1 fo1 => ?_)
  (try replace HG := Gr.trans (Gr.trans HG (by (repeat (first | (with_reducible exact Gr.refl _) | assumption | (with_reducible apply Gr.from_drew) | (with_reducible apply Gr.alloc) | (with_reducible apply Gr.drew) | (with_reducible refine Gr.trans ?_ (by assumption)) | (with_reducible refine Gr.setCell ?_ (by omega) _))))) hgf1)
  (try have fc1 := (cellsOf fo1).1)
  (try have ff1 := (cellsOf fo1).2)
  simp only [Act.put, List.setIfInBounds_toArray, List.set_cons_succ, List.set_cons_zero]
  refine flo_seg 1 rfl ?_
  simp only [List.take_succ_cons, List.take_zero, List.drop_succ_cons, List.drop_zero]
  repeat (go_big_quiet_step (fail))
  refine wpQuiet_nil ?_
  refine flo_eff rfl rfl rfl rfl (fun K hK => ?_)
  go_wp2
  refine ⟨by (first | (refine Gr.mdh ?_ _; (repeat (first | (with_reducible exact Gr.refl _) | assumption | (with_reducible apply Gr.from_drew) | (with_reducible apply Gr.alloc) | (with_reducible apply Gr.drew) | (with_reducible refine Gr.trans ?_ (by assumption)) | (with_reducible refine Gr.setCell ?_ (by omega) _))); done) | (repeat (first | (with_reducible exact Mdh.refl _ _) | (with_reducible refine Mdh.setCell ?_ (by simp) _) | (with_reducible refine Mdh.setNew ?_ (by simp) _) | (with_reducible apply Mdh.alloc) | (with_reducible apply Mdh.from_drew) | (with_reducible apply Mdh.drew) | (with_reducible refine Mdh.gr ?_ (by assumption))))), ?_⟩
  refine flo_seg 2 rfl ?_
  simp only [List.take_succ_cons, List.take_zero, List.drop_succ_cons, List.drop_zero]
  repeat (go_big_quiet_step (fail))
  refine wpQuiet_nil ?_
  refine flo_nil ?_
  have hf := Lib.hid (And.intro fo1 (And.intro HG (And.intro fl1 (And.intro fh1 (And.intro ft1 hgf1)))))
  clear fo1 HG fl1 fh1 ft1 hgf1 hgg1
  (try clear fc1 ff1)
  go_wp2
  go_ret2
  obtain ⟨fo1, HG, fl1, fh1, ft1, hgf1⟩ := hf.out
  have l1 := blkLt HOM.out.blk
  have l2 := hgf1.sz
  have l3 : w.heap.size ≤ wg1.heap.size := HSZ.out
  have l4 : w.heap.size ≤ wf1.heap.size := HG.sz
  refine ⟨wf1.heap.size, _, rfl, new_sep h1 h2 (blkNew wf1 _) ((HOM.out.gr hgf1).gr ((Gr.refl _).alloc _)) (blkOld fo1) (by omega) (by omega) (fun h => ft1 (.inr (by omega))), fun k hk => ?_, (Gr.of_drew HG).alloc _⟩
  rcases hk with rfl | rfl | rfl <;> omega
end Go.Proofs.YtmdfickejpeofaaGreat

/- An index that was not made: Add, Drop, Copy; an index among other things. -/
set_option linter.unusedVariables false
set_option linter.unusedSimpArgs false
namespace Go.Proofs.YtmdfickejpeofaaGreat
open Go.RowKit Go.Shelf
attribute [local go_sem] OvM cell_ovm obj_ovm
attribute [local go_sem] Oper.semAt_some

set_option maxRecDepth 40000 in
set_option maxHeartbeats 2000000 in
theorem AddN {w : World} {p : Option Addr} (h : IXN w p) (e : En) : Calls Tryz.prog 44 #[.pointer p, enV e] w fun e' w' => e' = .returned (.int .i64 1) ∧ Gr w w' := by
  have H := Lib.hid h
  clear h
  obtain ⟨e1, e2, e3, e4, e5, e6⟩ := e
  simp only [enV]
  refine calls_of_wp_marks Tryz.func44 rfl ?_
  simp only [Tryz.ntmps44, List.size_toArray, List.length_cons, List.length_nil, Nat.reduceAdd, Nat.reduceSub, Array.replicate_succ, Array.replicate_zero, List.push_toArray, List.append_toArray, List.nil_append, List.cons_append]
  go_wp2_with (go_at_call 70; refine (made_no (H.out.gr (by (repeat (first | (with_reducible exact Gr.refl _) | assumption | (with_reducible apply Gr.from_drew) | (with_reducible apply Gr.alloc) | (with_reducible apply Gr.drew) | (with_reducible refine Gr.trans ?_ (by assumption)) | (with_reducible refine Gr.setCell ?_ (by omega) _)))))).mono ?_; rintro e w1 ⟨rfl, rfl⟩)
  exact retM0 (v := .int .i64 1) (by simp [results, Tryz.results44, go_sem]) rfl ⟨rfl, by (repeat (first | (with_reducible exact Gr.refl _) | assumption | (with_reducible apply Gr.from_drew) | (with_reducible apply Gr.alloc) | (with_reducible apply Gr.drew) | (with_reducible refine Gr.trans ?_ (by assumption)) | (with_reducible refine Gr.setCell ?_ (by omega) _)))⟩
set_option maxRecDepth 40000 in
theorem DropN {w : World} {p : Option Addr} (h : IXN w p) (s : Int) : Calls Tryz.prog 46 #[.pointer p, .int .i64 s] w fun e' w' => e' = .returned (.tuple #[.int .i64 0, .int .i64 1]) ∧ Gr w w' := by
  have H := Lib.hid h
  clear h
  refine calls_of_wp_marks Tryz.func46 rfl ?_
  simp only [Tryz.ntmps46, List.size_toArray, List.length_cons, List.length_nil, Nat.reduceAdd, Nat.reduceSub, Array.replicate_succ, Array.replicate_zero, List.push_toArray, List.append_toArray, List.nil_append, List.cons_append]
  go_wp2_with (go_at_call 70; refine (made_no (H.out.gr (by (repeat (first | (with_reducible exact Gr.refl _) | assumption | (with_reducible apply Gr.from_drew) | (with_reducible apply Gr.alloc) | (with_reducible apply Gr.drew) | (with_reducible refine Gr.trans ?_ (by assumption)) | (with_reducible refine Gr.setCell ?_ (by omega) _)))))).mono ?_; rintro e w1 ⟨rfl, rfl⟩)
  exact retM0 (v := .tuple #[.int .i64 0, .int .i64 1]) (by simp [results, Tryz.results46, go_sem]) rfl ⟨rfl, by (repeat (first | (with_reducible exact Gr.refl _) | assumption | (with_reducible apply Gr.from_drew) | (with_reducible apply Gr.alloc) | (with_reducible apply Gr.drew) | (with_reducible refine Gr.trans ?_ (by assumption)) | (with_reducible refine Gr.setCell ?_ (by omega) _)))⟩
set_option maxRecDepth 40000 in
theorem CopyN {w : World} {p : Option Addr} (h : IXN w p) : Calls Tryz.prog 104 #[.pointer p] w fun e' w' => e' = .returned (.pointer none) ∧ Gr w w' := by
  have H := Lib.hid h
  clear h
  refine calls_of_wp_marks Tryz.func104 rfl ?_
  simp only [Tryz.ntmps104, List.size_toArray, List.length_cons, List.length_nil, Nat.reduceAdd, Nat.reduceSub, Array.replicate_succ, Array.replicate_zero, List.push_toArray, List.append_toArray, List.nil_append, List.cons_append]
  go_wp2_with (go_at_call 70; refine (made_no H.out).mono ?_; rintro e w1 ⟨rfl, rfl⟩)
  exact retM0 (v := .pointer none) (by simp [results, Tryz.results104, go_sem]) rfl ⟨rfl, by (repeat (first | (with_reducible exact Gr.refl _) | assumption | (with_reducible apply Gr.from_drew) | (with_reducible apply Gr.alloc) | (with_reducible apply Gr.drew) | (with_reducible refine Gr.trans ?_ (by assumption)) | (with_reducible refine Gr.setCell ?_ (by omega) _)))⟩
theorem ixp_none {w : World} {p : Option Addr} {X : IX} {S : Nat → Prop} (h : IXP w p X S) (h0 : X.slots = []) : IXN w p := by
  rcases h with ⟨b, e, h⟩ | ⟨h, _⟩
  · exact absurd h0 h.pos
  · exact h
theorem ixp_some {w : World} {p : Option Addr} {X : IX} {S : Nat → Prop} (h : IXP w p X S) (h0 : X.slots ≠ []) : ∃ b, p = some ⟨b, 0, none⟩ ∧ IXR w b X S := by
  rcases h with ⟨b, e, h⟩ | ⟨h, h1, _⟩
  · exact ⟨b, e, h⟩
  · rw [h1] at h0; exact absurd rfl h0
/-- What Copy returns. -/
def CopyQ (X : IX) (w : World) (e : Ending) (w' : World) : Prop := ∃ q, e = .returned (.pointer q) ∧ Gr w w' ∧ (q = none ↔ X.slots = []) ∧ ∃ S', IXP w' q X S' ∧ ∀ k, S' k → w.heap.size ≤ k
theorem Copy_any {w : World} {p : Option Addr} {X : IX} {S : Nat → Prop} (h : IXP w p X S) : Calls Tryz.prog 104 #[.pointer p] w (CopyQ X w) := by
  rcases h with ⟨b, rfl, h⟩ | ⟨h, h1, _⟩
  · refine (CopyX h).mono ?_
    rintro e w' ⟨b', S', rfl, h1, h2, h3⟩
    exact ⟨_, rfl, h3, ⟨(fun h0 => by cases h0), fun h0 => absurd h0 h.pos⟩, S', .inl ⟨b', rfl, h1⟩, h2⟩
  · refine (CopyN h).mono ?_
    rintro e w' ⟨rfl, hg⟩
    exact ⟨none, rfl, hg, ⟨fun _ => by rw [h1], fun _ => rfl⟩, fun _ => False, .inr ⟨.inl rfl, h1, fun k => ⟨fun h => h.elim, (fun ⟨a, ha, _⟩ => by cases ha)⟩⟩, fun k hk => hk.elim⟩
/-- An index among other things turns. -/
theorem SW.post {w0 w w' : World} {R : List Asn} {b : Nat} {X X' : IX} {S : Nat → Prop} (h : SW w0 (ixA b X S :: R) w) (p : IXPost b X' S w w') : ∃ S', SW w0 (ixA b X' S' :: R) w' := by
  obtain ⟨S', h1, h2, h3⟩ := p
  exact ⟨S', h.step h2 (fun k hk => .inl hk) h1 h3⟩
theorem SW.ix {w0 w : World} {R : List Asn} {b : Nat} {X : IX} {S : Nat → Prop} (h : SW w0 (ixA b X S :: R) w) : IXR w b X S := h.s.head
theorem SW.ixp {w0 w : World} {R : List Asn} {b : Nat} {X : IX} {S : Nat → Prop} (h : SW w0 (ixA b X S :: R) w) : IXP w (some ⟨b, 0, none⟩) X S := .inl ⟨b, rfl, h.s.head⟩
theorem SW.ixnew {w0 w w' : World} {R : List Asn} {b : Nat} {X : IX} {S : Nat → Prop} (h : SW w0 R w) (h1 : IXR w' b X S) (h2 : ∀ k, S k → w.heap.size ≤ k) (g : Gr w w') : SW w0 (ixA b X S :: R) w' := h.new g h1 h2
/-- A row behind an index. -/
theorem SW.row {w0 w w' : World} {R : List Asn} {A : Asn} {t : TypeId} {K n : Nat} {v : Value} {xs : List Value} (h : SW w0 (A :: R) w) (hr : Nw w w' t K v n xs) (g : Gr w w') : SW w0 (A :: rowA t K v n xs :: R) w' :=
  (h.new g (A := rowA t K v n xs) hr.own (fun k hk => hr.new k hk)).perm (List.Perm.swap _ _ _)
theorem SW.allocT {w0 w : World} {R : List Asn} {A : Asn} (h : SW w0 (A :: R) w) (o : Obj) : SW w0 (A :: blkA w.heap.size o :: R) (w.alloc o) := (h.alloc o).perm (List.Perm.swap _ _ _)
end Go.Proofs.YtmdfickejpeofaaGreat

/- liveness: any, needed, Needed. -/
set_option linter.unusedVariables false
set_option linter.unusedSimpArgs false
namespace Go.Proofs.YtmdfickejpeofaaGreat
open Go.RowKit Go.Shelf
attribute [local go_sem] OvM cell_ovm obj_ovm
attribute [local go_sem] Oper.semAt_some

set_option maxRecDepth 40000 in
set_option maxHeartbeats 4000000 in
theorem any_any {w : World} {p : Option Addr} {X : IX} {S : Nat → Prop} (h : IXP w p X S) (k : ByteArray) {g : Nat} {lb : Array Value} {pr : En → Bool} {T : Nat → Prop} (hp : PredC g lb pr T w) :
    Calls Tryz.prog 148 #[.pointer p, .string k, .func (.func g) #[] lb] w fun e w' => e = .returned (.bool ((X.of k).any pr)) ∧ Gr w w' := by
  have H := Lib.hid h
  have HP := Lib.hid hp
  have heg := hp.enter
  clear h hp
  refine calls_of_wp_marks Tryz.func148 rfl ?_
  simp only [Tryz.ntmps148, List.size_toArray, List.length_cons, List.length_nil, Nat.reduceAdd, Nat.reduceSub, Array.replicate_succ, Array.replicate_zero, List.push_toArray, List.append_toArray, List.nil_append, List.cons_append]
  go_wp2_with fail
  obtain ⟨b5, hb5⟩ : ∃ q, q = w.heap.size := ⟨_, rfl⟩
  obtain ⟨w0, hw0⟩ : ∃ y, y = (w.alloc (.cells #[.func (.func g) #[] lb] 143)).alloc (.cells #[.bool false] 4) := ⟨_, rfl⟩
  have HSW : Hid (SW w [blkA (b5 + 1) (.cells #[.bool false] 4), blkA b5 (.cells #[.func (.func g) #[] lb] 143)] w0) := Lib.hid (by
    have := ((SW.start w).alloc (.cells #[.func (.func g) #[] lb] 143)).alloc (.cells #[.bool false] 4)
    simp only [World.size_alloc] at this
    rw [hw0, hb5]
    exact this)
  rw [← hw0, ← hb5]
  clear hw0 hb5
  refine (Of_any p k _).mono ?_
  rintro e' w1 ⟨bb, bk, rfl, h1, h2, h3, h4, hg⟩
  have HS1 := Lib.hid (HSW.out.gr hg)
  have HI := Lib.hid (H.out.gr HS1.out.g)
  have HSEQ := Lib.hid (SeqOfP HI.out k bb bk h1 h2)
  have HA : Hid (∀ q, (q = bb ∨ q = bk ∨ S q) → q < w1.heap.size) := Lib.hid (fun q hq => by
    have l1 := World.block_lt_of_cell? w1 ⟨bb, 0, none⟩ h1
    have l2 := World.block_lt_of_cell? w1 ⟨bk, 0, none⟩ h2
    rcases hq with rfl | rfl | hq
    · exact l1
    · exact l2
    · exact HI.out.lt q hq)
  have HZ : Hid (SWz w w1 (fun q => q = bb ∨ q = bk ∨ S q) [blkA (b5 + 1) (.cells #[.bool false] 4), blkA b5 (.cells #[.func (.func g) #[] lb] 143)] (fun _ => False) w1) := Lib.hid (SWz.start HS1.out (fun B hB k hk ha => by
    have l1 := HSW.out.s.lt hB k hk
    have l2 := HSW.out.n B hB k hk
    rcases ha with rfl | rfl | ha
    · omega
    · omega
    · have := H.out.lt k ha; omega))
  clear h1 h2 h3 h4 hg
  go_wp2_with fail
  apply wp_rangeFunc_zx (gf := 132) (lb := #[.pointer (some ⟨bb, 0, none⟩), .pointer (some ⟨bk, 0, none⟩)]) rfl (enters_of Tryz.func132 (by kernel_rfl) rfl) HSEQ.out (Mdh.refl _ w1) HA.out (fun _ => rfl)
    (fun Z pre X' => pre.any pr = false ∧ SWz w w1 (fun q => q = bb ∨ q = bk ∨ S q) [blkA (b5 + 1) (.cells #[.bool false] 4), blkA b5 (.cells #[.func (.func g) #[] lb] 143)] Z X')
    (fun _ _ _ => False)
    (fun Z pre X' => pre.any pr = true ∧ SWz w w1 (fun q => q = bb ∨ q = bk ∨ S q) [blkA (b5 + 1) (.cells #[.bool true] 4), blkA b5 (.cells #[.func (.func g) #[] lb] 143)] Z X')
    ((Apart.pure (fun pre : List En => pre.any pr = false)).and (SWz.apart HS1.out.g.sz (fun _ : List En => [blkA (b5 + 1) (.cells #[.bool false] 4), blkA b5 (.cells #[.func (.func g) #[] lb] 143)]))) apart_no
    ((Apart.pure (fun pre : List En => pre.any pr = true)).and (SWz.apart HS1.out.g.sz (fun _ : List En => [blkA (b5 + 1) (.cells #[.bool true] 4), blkA b5 (.cells #[.func (.func g) #[] lb] 143)])))
    ⟨rfl, HZ.out⟩ (fun Z pre X' h => h.2.frm HS1.out.g) (fun x => .cells #[.int .i64 x.seq, .string x.key, .bool x.del, .int .i64 x.slot, .int .i64 x.off, .int .i64 x.size] 56)
    _ ?assign ?body ?hend ?hret
  case assign =>
    intro l x bx X' K hbx hK
    dsimp only [encE, enV]
    gi_wp2
    rw [← hbx]
    exact hK
  case body =>
    intro l Z pre x bx X' hI hbx hx hzx hzl hlr hsp
    have HIZ := Lib.hid hI
    have HX := Lib.hid hx
    have HB5 := Lib.hid (show X'.heap[b5]? = _ from hI.2.s.get (i := 1) rfl)
    have HB6 := Lib.hid (show X'.heap[b5 + 1]? = _ from hI.2.s.get (i := 0) rfl)
    have dx := (cellsOf HX.out).1
    have d5 := (cellsOf HB5.out).1
    have HR := Lib.hid ((HP.out.gr hI.2.s.g).run x X' (Mdh.refl _ _))
    clear hI hbx hx hzx hzl hlr hsp
    gi_wp2_with fail
    refine ⟨trivial, (CallsIn.inRound l (callsIn_wide.2 HR.out)).mono ?_⟩
    rintro e w9 ⟨rfl, hg9⟩
    have HG9 := Lib.hid hg9
    have HZ9 := Lib.hid (HIZ.out.2.gr hg9)
    obtain ⟨d6, f6⟩ := cellsOf (hg9.blk HB6.out)
    cases hpx : pr x with
    | true =>
      have HPX : Hid ((pre ++ [x]).any pr = true) := Lib.hid (by simp [hpx])
      have HB7 := Lib.hid (HZ9.out.1.box (i := 0) rfl HA.out ((Mdh.refl (fun k => k = b5 + 1) w9).setCell (p := ⟨b5 + 1, 0, none⟩) rfl (.bool true)) (blkSet (j := 0) (u := .bool true) (hg9.blk HB6.out)))
      clear hpx hg9
      gi_wp2_with fail
      exact ⟨(HZ9.out.2.trans HB7.out.2).mono (fun k h => h.2), HPX.out, HB7.out.1⟩
    | false =>
      have HPX : Hid ((pre ++ [x]).any pr = false) := Lib.hid (by rw [List.any_append, HIZ.out.1]; simp [hpx])
      clear hpx hg9
      gi_wp2_with fail
      exact ⟨HZ9.out.2, HPX.out, HZ9.out.1⟩
  case hend =>
    intro Z D xs W hD hZD hcase hdef
    obtain ⟨hxs, hI⟩ := hcase.elim (fun h => h) (fun h => h.2.elim)
    have HE : Hid ((X.of k).any pr = false) := Lib.hid (by rw [← show xs = X.of k from hxs]; exact hI.1)
    have HD := Lib.hid (And.intro hD (And.intro hZD hdef))
    have hb6 : W.heap[b5 + 1]? = _ := hI.2.s.get (i := 0) rfl
    have HB6 := Lib.hid hb6
    obtain ⟨d6, f6⟩ := cellsOf hb6
    have HIW := Lib.hid hI.2
    clear hI hcase hxs hb6 hD hZD hdef
    dsimp only
    go_wp2_with fail
    obtain ⟨hD, hZD, hdef⟩ := HD.out
    have n6 : D ≠ b5 + 1 := fun e => HIW.out.z _ (List.mem_cons_self ..) (b5 + 1) rfl (e ▸ hZD)
    have hW2 : (W.setCell ⟨b5 + 1, 0, none⟩ (.bool false)).heap[b5 + 1]? = _ := blkSet (j := 0) (u := .bool false) HB6.out
    have h4' : ((W.setCell ⟨b5 + 1, 0, none⟩ (.bool false)).putObj D (.deferred none)).heap[b5 + 1]? = _ := (World.putObj_heap_other n6.symm).trans hW2
    obtain ⟨d4, _⟩ := cellsOf h4'
    refine retM1 (D := D) (v := .bool false) rfl (blkSetO hdef n6) ?_ ⟨by rw [HE.out], (Gr.setCell HIW.out.s.g (p := ⟨b5 + 1, 0, none⟩) (HSW.out.n _ (List.mem_cons_self ..) _ rfl) _).putObj (by have := HS1.out.g.sz; omega) _⟩
    simp [results, Tryz.results148, go_sem, d4]
  case hret =>
    intro Z D pre W hD hZD hsp hI hdef
    have HE : Hid ((X.of k).any pr = true) := Lib.hid (by
      obtain ⟨t, ht⟩ := hsp
      rw [← show pre ++ t = X.of k from ht, List.any_append, hI.1]; rfl)
    have hb6 : W.heap[b5 + 1]? = _ := hI.2.s.get (i := 0) rfl
    have n6 : D ≠ b5 + 1 := fun e => hI.2.z _ (List.mem_cons_self ..) (b5 + 1) rfl (e ▸ hZD)
    have h4' : (W.putObj D (.deferred none)).heap[b5 + 1]? = _ := (World.putObj_heap_other n6.symm).trans hb6
    obtain ⟨d4, _⟩ := cellsOf h4'
    dsimp only
    go_wp2_with fail
    refine retM1 (D := D) (v := .bool true) rfl hdef ?_ ⟨by rw [HE.out], hI.2.s.g.putObj (by have := HS1.out.g.sz; omega) _⟩
    simp [results, Tryz.results148, go_sem, d4]

/-! ### needed -/
def nd1 (e y : En) : Bool := decide (e.seq < y.seq)
def nd2 (e y : En) : Bool := decide (y.seq = e.seq ∧ y.slot ≠ e.slot)
def nd3 (e y : En) : Bool := decide (y.seq < e.seq ∧ y.slot ≠ e.slot)
def IX.needs (X : IX) (e : En) : Bool := if (X.of e.key).any (nd1 e) = true then false else if (X.of e.key).any (nd2 e) = true then false else if e.del = false then true else (X.of e.key).any (nd3 e)
abbrev boxE (e : En) : Obj := .cells #[.int .i64 e.seq, .string e.key, .bool e.del, .int .i64 e.slot, .int .i64 e.off, .int .i64 e.size] 56
set_option maxRecDepth 40000 in
theorem need1 (y e : En) (be : Nat) (w : World) (h : w.heap[be]? = some (boxE e)) : Calls Tryz.prog 191 #[enV y, .pointer (some ⟨be, 0, none⟩)] w fun r w' => r = .returned (.bool (nd1 e y)) ∧ Gr w w' := by
  have c := (cellsOf h).1
  have l := blkLt h
  have HN : Hid (nd1 e y = decide (e.seq < y.seq)) := Lib.hid rfl
  rw [HN.out]
  simp only [enV]
  by_cases h1 : y.seq = e.seq
  all_goals by_cases h2 : y.slot = e.slot
  all_goals
    go_enter Tryz.func191, Tryz.ntmps191
    go_wp2
    all_goals
      go_ret
      exact ⟨ret_bool (by first | rfl | (simp_all; done) | (simp_all; omega)), by (repeat (first | (with_reducible exact Gr.refl _) | assumption | (with_reducible apply Gr.from_drew) | (with_reducible apply Gr.alloc) | (with_reducible apply Gr.drew) | (with_reducible refine Gr.trans ?_ (by assumption)) | (with_reducible refine Gr.setCell ?_ (by omega) _)))⟩
theorem needP1 (e : En) (be : Nat) (w : World) (h : w.heap[be]? = some (boxE e)) : PredC 191 #[.pointer (some ⟨be, 0, none⟩)] (nd1 e) (fun _ => False) w :=
  ⟨enters_of Tryz.func191 (by kernel_rfl) rfl, fun x w' m => need1 x e be w' (m.blk h (fun h => h))⟩
set_option maxRecDepth 40000 in
theorem need2 (y e : En) (be : Nat) (w : World) (h : w.heap[be]? = some (boxE e)) : Calls Tryz.prog 192 #[enV y, .pointer (some ⟨be, 0, none⟩)] w fun r w' => r = .returned (.bool (nd2 e y)) ∧ Gr w w' := by
  have c := (cellsOf h).1
  have l := blkLt h
  have HN : Hid (nd2 e y = decide (y.seq = e.seq ∧ y.slot ≠ e.slot)) := Lib.hid rfl
  rw [HN.out]
  simp only [enV]
  by_cases h1 : y.seq = e.seq
  all_goals by_cases h2 : y.slot = e.slot
  all_goals
    go_enter Tryz.func192, Tryz.ntmps192
    go_wp2
    all_goals
      go_ret
      exact ⟨ret_bool (by first | rfl | (simp_all; done) | (simp_all; omega)), by (repeat (first | (with_reducible exact Gr.refl _) | assumption | (with_reducible apply Gr.from_drew) | (with_reducible apply Gr.alloc) | (with_reducible apply Gr.drew) | (with_reducible refine Gr.trans ?_ (by assumption)) | (with_reducible refine Gr.setCell ?_ (by omega) _)))⟩
theorem needP2 (e : En) (be : Nat) (w : World) (h : w.heap[be]? = some (boxE e)) : PredC 192 #[.pointer (some ⟨be, 0, none⟩)] (nd2 e) (fun _ => False) w :=
  ⟨enters_of Tryz.func192 (by kernel_rfl) rfl, fun x w' m => need2 x e be w' (m.blk h (fun h => h))⟩
set_option maxRecDepth 40000 in
theorem need3 (y e : En) (be : Nat) (w : World) (h : w.heap[be]? = some (boxE e)) : Calls Tryz.prog 193 #[enV y, .pointer (some ⟨be, 0, none⟩)] w fun r w' => r = .returned (.bool (nd3 e y)) ∧ Gr w w' := by
  have c := (cellsOf h).1
  have l := blkLt h
  have HN : Hid (nd3 e y = decide (y.seq < e.seq ∧ y.slot ≠ e.slot)) := Lib.hid rfl
  rw [HN.out]
  simp only [enV]
  by_cases h1 : y.seq = e.seq
  all_goals by_cases h2 : y.slot = e.slot
  all_goals
    go_enter Tryz.func193, Tryz.ntmps193
    go_wp2
    all_goals
      go_ret
      exact ⟨ret_bool (by first | rfl | (simp_all; done) | (simp_all; omega)), by (repeat (first | (with_reducible exact Gr.refl _) | assumption | (with_reducible apply Gr.from_drew) | (with_reducible apply Gr.alloc) | (with_reducible apply Gr.drew) | (with_reducible refine Gr.trans ?_ (by assumption)) | (with_reducible refine Gr.setCell ?_ (by omega) _)))⟩
theorem needP3 (e : En) (be : Nat) (w : World) (h : w.heap[be]? = some (boxE e)) : PredC 193 #[.pointer (some ⟨be, 0, none⟩)] (nd3 e) (fun _ => False) w :=
  ⟨enters_of Tryz.func193 (by kernel_rfl) rfl, fun x w' m => need3 x e be w' (m.blk h (fun h => h))⟩
set_option maxRecDepth 40000 in
set_option maxHeartbeats 2000000 in
theorem needed_any {w : World} {p : Option Addr} {X : IX} {S : Nat → Prop} (h : IXP w p X S) (e : En) : Calls Tryz.prog 150 #[.pointer p, enV e] w fun r w' => r = .returned (.bool (X.needs e)) ∧ Gr w w' := by
  have H := Lib.hid h
  clear h
  simp only [enV]
  have HE : Hid (X.needs e = if (X.of e.key).any (nd1 e) = true then false else if (X.of e.key).any (nd2 e) = true then false else if e.del = false then true else (X.of e.key).any (nd3 e)) := Lib.hid rfl
  go_enter Tryz.func150, Tryz.ntmps150
  go_wp2_with fail
  obtain ⟨b, hb⟩ : ∃ q, q = w.heap.size := ⟨_, rfl⟩
  obtain ⟨w0, hw0⟩ : ∃ y, y = w.alloc (boxE e) := ⟨_, rfl⟩
  have H0 : Hid (Gr w w0 ∧ w0.heap[b]? = some (boxE e)) := Lib.hid (by rw [hw0, hb]; exact ⟨(Gr.refl w).alloc _, blkNew w _⟩)
  rw [← show w0 = w.alloc (.cells #[.int .i64 e.seq, .string e.key, .bool e.del, .int .i64 e.slot, .int .i64 e.off, .int .i64 e.size] 56) from hw0, ← hb]
  clear hw0 hb
  refine (any_any (H.out.gr H0.out.1) e.key (needP1 e b w0 H0.out.2)).mono ?_
  rintro r w1 ⟨rfl, hg⟩
  have H1 := Lib.hid (And.intro (H0.out.1.trans hg) (hg.blk H0.out.2))
  clear hg
  cases h1 : (X.of e.key).any (nd1 e) with
  | true =>
    have HR : Hid (X.needs e = false) := Lib.hid (by rw [HE.out, h1]; rfl)
    clear h1
    go_wp2
    go_ret
    exact ⟨by rw [HR.out] <;> rfl, H1.out.1⟩
  | false =>
    have HE1 : Hid (X.needs e = if (X.of e.key).any (nd2 e) = true then false else if e.del = false then true else (X.of e.key).any (nd3 e)) := Lib.hid (by rw [HE.out, h1]; rfl)
    have c1 := (cellsOf H1.out.2).1
    clear h1
    go_wp2_with fail
    refine (any_any (H.out.gr H1.out.1) e.key (needP2 e b w1 H1.out.2)).mono ?_
    rintro r w2 ⟨rfl, hg⟩
    have H2 := Lib.hid (And.intro (H1.out.1.trans hg) (hg.blk H1.out.2))
    clear hg c1
    cases h2 : (X.of e.key).any (nd2 e) with
    | true =>
      have HR : Hid (X.needs e = false) := Lib.hid (by rw [HE1.out, h2]; rfl)
      clear h2
      go_wp2
      go_ret
      exact ⟨by rw [HR.out] <;> rfl, H2.out.1⟩
    | false =>
      have HE2 : Hid (X.needs e = if e.del = false then true else (X.of e.key).any (nd3 e)) := Lib.hid (by rw [HE1.out, h2]; rfl)
      have c2 := (cellsOf H2.out.2).1
      clear h2
      cases hd : e.del with
      | false =>
        have HR : Hid (X.needs e = true) := Lib.hid (by rw [HE2.out, hd]; rfl)
        rw [hd] at c2
        clear hd
        go_wp2
        go_ret
        exact ⟨by rw [HR.out] <;> rfl, H2.out.1⟩
      | true =>
        have HR : Hid (X.needs e = (X.of e.key).any (nd3 e)) := Lib.hid (by rw [HE2.out, hd]; rfl)
        rw [hd] at c2
        clear hd
        go_wp2_with fail
        refine (any_any (H.out.gr H2.out.1) e.key (needP3 e b w2 H2.out.2)).mono ?_
        rintro r w3 ⟨rfl, hg⟩
        have HG := Lib.hid (H2.out.1.trans hg)
        clear hg
        go_wp2
        go_ret
        exact ⟨by rw [HR.out] <;> rfl, HG.out⟩
end Go.Proofs.YtmdfickejpeofaaGreat

/- drumlinlaw21.take: the first elements of an iterator, in a row. -/
set_option linter.unusedVariables false
set_option linter.unusedSimpArgs false
namespace Go.Proofs.YtmdfickejpeofaaGreat
open Go.RowKit Go.Shelf
attribute [local go_sem] OvM cell_ovm obj_ovm
attribute [local go_sem] Oper.semAt_some

theorem info_str : (Tryz.prog.info? 9).map (fun i => (i.zero, i.size, i.bytes)) = some (some (.string ⟨#[]⟩), 1, 16) := by kernel_rfl
theorem rowE_snoc (l : List En) (x : En) : rowE (l ++ [x]) = rowE l ++ enC x := by rw [rowE_app]; simp [rowE]
theorem enC_one (x : En) : ∀ u ∈ enC x, u.oneCell' = true := fun u hu => rowE_one [x] u (by simpa [rowE] using hu)
theorem take_pre {α : Type} {n : Nat} {pre L : List α} (h : pre <+: L) (hn : pre.length = n) : pre = L.take n := by
  obtain ⟨t, rfl⟩ := h
  rw [← hn, List.take_left']
  rfl
def kS (l : List ByteArray) : List Value := l.map Value.string
theorem kS_snoc (l : List ByteArray) (x : ByteArray) : kS (l ++ [x]) = kS l ++ [.string x] := by simp [kS]
end Go.Proofs.YtmdfickejpeofaaGreat

/- slices.Equal at rows of entries and of strings. -/
set_option linter.unusedVariables false
set_option linter.unusedSimpArgs false
namespace Go.Proofs.YtmdfickejpeofaaGreat
open Go.RowKit Go.Shelf
attribute [local go_sem] OvM cell_ovm obj_ovm
attribute [local go_sem] Oper.semAt_some

theorem ownS_at {w : World} {v : Value} {l : List ByteArray} (h : Own w 9 1 v l.length (kS l)) : ∃ a cap, v = .slice a l.length cap ∧ l.length ≤ cap ∧ cap ≤ maxLen ∧ ∀ i x, l[i]? = some x → ∃ g, a = some ⟨g, 0, none⟩ ∧ g < w.heap.size ∧ v.ownBlock = some g ∧ w.cell? ⟨g, i, none⟩ = some (.string x) := by
  rcases h.2 with ⟨hv, h0⟩ | ⟨g, cap, cur, hv, _, hg, h1, h2, h3, h4⟩
  · have hL : l = [] := List.eq_nil_of_length_eq_zero h0
    subst hL
    exact ⟨none, 0, hv, Nat.le_refl _, by simp [maxLen], fun i x hx => by simp at hx⟩
  · subst hv
    refine ⟨_, cap, rfl, h1, h2, fun i x hx => ⟨g, rfl, blkLt hg, rfl, ?_⟩⟩
    have hc := h.cells (g := g) rfl i (.string x) (by unfold kS; rw [List.getElem?_map, hx]; rfl)
    rwa [show (⟨g, 0, none⟩ : Addr).add i = ⟨g, i, none⟩ by unfold Addr.add; split <;> simp_all] at hc
theorem beq_len (a b : Nat) (h : a ≠ b) : ((a : Int) == (b : Int)) = false := beq_false_of_ne (by omega)
end Go.Proofs.YtmdfickejpeofaaGreat

/- take at an index's own iterators; rows that a literal lays. -/
set_option linter.unusedVariables false
set_option linter.unusedSimpArgs false
namespace Go.Proofs.YtmdfickejpeofaaGreat
open Go.RowKit Go.Shelf

theorem own_lit (w : World) (t : TypeId) (K n : Nat) (xs : List Value) (hx : xs.length = n * K) (hn : n ≤ 100000) : Own (w.alloc (.cells xs.toArray t)) t K (.slice (some ⟨w.heap.size, 0, none⟩) n n) n xs :=
  Own.ofParts (blkNew w _) (Nat.le_refl _) (by unfold maxLen; omega) (by simpa using hx) (by rw [List.take_of_length_le (by rw [← hx]; exact Nat.le_refl _)])
end Go.Proofs.YtmdfickejpeofaaGreat
