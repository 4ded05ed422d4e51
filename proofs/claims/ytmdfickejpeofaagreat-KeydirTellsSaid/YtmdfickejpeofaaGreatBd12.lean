/- A copy of an index. -/
import Derived.Test.YtmdfickejpeofaaGreatBd10
import Derived.Test.YtmdfickejpeofaaGreatBd11
import Derived.Test.YtmdfickejpeofaaGreatBd6
import Derived.Laws.MakeOwn
set_option linter.unusedVariables false
set_option linter.unusedSimpArgs false
namespace Go.Proofs.YtmdfickejpeofaaGreat
open Go.RowKit Go.Shelf
attribute [local go_sem] OvM cell_ovm obj_ovm
attribute [local go_sem] Oper.semAt_some

section
variable {w0 wl W W' : World} {A Z : Nat → Prop} {R R' : List Asn} {B : Asn}
theorem SWz.new (h : SWz w0 wl A R Z W) (hA : ∀ k, A k → k < wl.heap.size) (g : Gr W W') (hB : B.P W') (hn : ∀ k, B.S k → W.heap.size ≤ k) : SWz w0 wl A (B :: R) Z W' :=
  ⟨h.s.new g hB hn, fun C hC k hk hz => (List.mem_cons.1 hC).elim (fun e => by have := hn k (e ▸ hk); have := h.zl k hz; omega) (fun e => h.z C e k hk hz),
    fun C hC k hk ha => (List.mem_cons.1 hC).elim (fun e => by have := hn k (e ▸ hk); have := hA k ha; have := h.sz; omega) (fun e => h.a C e k hk ha),
    h.zn, fun k hk => Nat.lt_of_lt_of_le (h.zl k hk) g.sz, Nat.le_trans h.sz g.sz⟩
theorem SWz.perm (h : SWz w0 wl A R Z W) (p : R.Perm R') : SWz w0 wl A R' Z W := ⟨h.s.perm p, fun B hB => h.z B (p.mem_iff.2 hB), fun B hB => h.a B (p.mem_iff.2 hB), h.zn, h.zl, h.sz⟩
end
theorem info_list : (Tryz.prog.info? 120).map (fun i => (i.zero, i.size, i.bytes)) = some (some (.slice none 0 0), 1, 24) := by kernel_rfl
/-- The last one put. -/
theorem put_last {α : Type} {L : List (ByteArray × α)} {k : ByteArray} {v : α} (h : ∀ x ∈ L, ltS x.1 k = true) (hs : Srt ltS L) : putL ltS L k v = L ++ [(k, v)] := by
  have hr : rk ltS L k = L.length := by
    refine (rk_uniq ordS hs k L.length (Nat.le_refl _) (fun j x _ hx => h x (List.mem_of_getElem? hx)) (fun j x hj hx => ?_)).symm
    have := (List.getElem?_eq_some_iff.1 hx).1; omega
  have hl : look ltS L k = none := by
    rw [look_none ordS hs]
    intro v hv
    have := h _ hv
    rw [ordS.irr] at this
    cases this
  unfold putL
  rw [hl, hr, List.take_length, List.drop_length, List.append_nil]
/-- The map of the copy under way. -/
structure CpK (Y : Lay) (X : IX) (KL' : List (ByteArray × Sl)) (j : Nat) : Prop where
  k : KL'.map Prod.fst = (X.keys.take j).map Prod.fst
theorem CpK.put {Y : Lay} {X : IX} {KL' : List (ByteArray × Sl)} {j : Nat} (h : CpK Y X KL' j) (hX : X.Wf) {k : ByteArray} {l : List En} (hx : X.keys[j]? = some (k, l)) (s' : Sl) : putL ltS KL' k s' = KL' ++ [(k, s')] ∧ CpK Y X (KL' ++ [(k, s')]) (j + 1) := by
  have hj := (List.getElem?_eq_some_iff.1 hx).1
  have hsrt : Srt ltS (X.keys.take j) := hX.k0.sublist (List.take_sublist _ _)
  have hs1 : (KL'.map Prod.fst).Pairwise (fun a b => ltS a b = true) := by
    rw [h.k]; exact List.pairwise_map.2 hsrt
  refine ⟨put_last (fun x hx' => ?_) (List.pairwise_map.1 hs1), ⟨?_⟩⟩
  · have hm : x.1 ∈ KL'.map Prod.fst := List.mem_map_of_mem hx'
    rw [h.k] at hm
    obtain ⟨y, hy, hxy⟩ := List.mem_map.1 hm
    obtain ⟨i, hi, rfl⟩ := List.mem_iff_getElem.1 hy
    rw [List.length_take] at hi
    rw [List.getElem_take] at hxy
    have := List.pairwise_iff_getElem.1 hX.k0 i j (by omega) hj (by omega)
    rw [hxy, (List.getElem?_eq_some_iff.1 hx).2] at this
    exact this
  · rw [List.map_append, h.k, List.take_add_one, hx, List.map_append]
    rfl
theorem keyRows_snoc {KL : List (ByteArray × Sl)} {ks : List (ByteArray × List En)} (h : KL.length = ks.length) (k : ByteArray) (s : Sl) (l : List En) : keyRows (KL ++ [(k, s)]) (ks ++ [(k, l)]) = keyRows KL ks ++ [enA s l] := by
  unfold keyRows
  rw [List.zipWith_append h]
  rfl
theorem slotRows_snoc {SL : List Sl} {ls : List (List En)} (h : SL.length = ls.length) (s : Sl) (l : List En) : slotRows (SL ++ [s]) (ls ++ [l]) = slotRows SL ls ++ [enA s l] := by
  unfold slotRows
  rw [List.zipWith_append h]
  rfl
def CopyPost (X : IX) (w : World) (e : Ending) (w' : World) : Prop := ∃ b' S', e = .returned (.pointer (some ⟨b', 0, none⟩)) ∧ IXR w' b' X S' ∧ (∀ k, S' k → w.heap.size ≤ k) ∧ Gr w w'
abbrev cpHd (b3 bi bm : Nat) (v : Value) (KL : List (ByteArray × Sl)) (sv : Value) : List Asn := [blkA b3 (.cells #[.pointer (some ⟨bi, 0, none⟩)] 35), blkA bi (.cells #[.pointer (some ⟨bm, 0, none⟩), sv] 119), omA bm v KL]

set_option maxRecDepth 40000 in
set_option maxHeartbeats 8000000 in
theorem CopyX {w : World} {b : Nat} {X : IX} {S : Nat → Prop} (h : IXR w b X S) : Calls Tryz.prog 104 #[.pointer (some ⟨b, 0, none⟩)] w (CopyPost X w) := by
  have HI := Lib.hid h
  obtain ⟨h1, h2, Y, h3, h4, h5⟩ := h
  have HF := Lib.hid (show _ from And.intro h1 (And.intro h3 (And.intro h4 h5)))
  have db := (cellsOf (Lay.blk h3)).1
  have lb := blkLt (Lay.blk h3)
  obtain ⟨i0, hi, hz0, hz1, hz2⟩ := info_parts info_list
  clear h1 h2 h3 h4 h5
  refine calls_of_wp_marks Tryz.func104 rfl ?_
  simp only [Tryz.ntmps104, List.size_toArray, List.length_cons, List.length_nil, Nat.reduceAdd, Nat.reduceSub, Array.replicate_succ, Array.replicate_zero, List.push_toArray, List.append_toArray, List.nil_append, List.cons_append]
  go_wp2_with (first
    | (go_at_call 70; refine (made_yes HI.out).mono ?_; rintro e w1 ⟨rfl, rfl⟩)
    | fail)
  refine (NewOsl w).mono ?_
  rintro e w1 ⟨rfl, hom, hg1⟩
  have HOM := Lib.hid hom
  have HG1 := Lib.hid hg1
  have db1 := (cellsOf (hg1.blk (Lay.blk HF.out.2.1))).1
  have lb1 := blkLt (hg1.blk (Lay.blk HF.out.2.1))
  clear hom hg1 db lb
  go_wp2_with fail
  obtain ⟨bm, hbm⟩ : ∃ q, q = w.heap.size := ⟨_, rfl⟩
  obtain ⟨bi, hbi⟩ : ∃ q, q = w1.heap.size := ⟨_, rfl⟩
  refine (AllOsl _ _).mono ?_
  rintro e w2 ⟨bb, rfl, k1, l1, hg⟩
  have HS2 : Hid (SW w (cpHd (bi + 1) bi bm (.slice none 0 0) [] (.slice none 0 0)) w2) := Lib.hid (by
    have h1 : SW w [omA bm (.slice none 0 0) []] w1 := (SW.start w).new HG1.out (by rw [hbm]; exact HOM.out) (fun k hk => hk.elim (fun e => by omega) (fun e => by cases e))
    have h2 := (h1.alloc (.cells #[.pointer (some ⟨w.heap.size, 0, none⟩), .slice none 0 0] 119)).alloc (.cells #[.pointer (some ⟨w1.heap.size, 0, none⟩)] 35)
    simp only [World.size_alloc] at h2
    rw [← hbi, ← hbm] at h2
    rw [← hbi, ← hbm] at hg
    exact h2.gr hg)
  have HBB : Hid (bi + 2 ≤ bb ∧ bb < w2.heap.size) := Lib.hid ⟨by simp only [World.size_alloc] at l1; omega, World.block_lt_of_cell? w2 _ k1⟩
  have HG2 : Hid (Gr w w2) := Lib.hid HS2.out.g
  have hKL : Y.KL.length ≤ 16384 := by
    have e1 := congrArg List.length HF.out.2.2.1.k
    simp only [List.length_map] at e1
    have e3 := HF.out.1.keys_le
    omega
  have HKL := Lib.hid hKL
  obtain ⟨A, hA⟩ : ∃ A : Nat → Prop, A = fun k => k = bb ∨ OMB (some ⟨Y.bm, 0, none⟩) Y.v k := ⟨_, rfl⟩
  have HOB : Hid (∀ k, OMB (some ⟨Y.bm, 0, none⟩) Y.v k → k < w.heap.size) := Lib.hid (fun k hk => HF.out.2.1.lt (A := omA Y.bm Y.v Y.KL) (by simp [Lay.list, Lay.hd]) k (hk.elim (fun ⟨a, e, hk⟩ => .inl (by cases e; exact hk)) .inr))
  have HAL : Hid (∀ k, A k → k < w2.heap.size) := Lib.hid (fun k hk => by
    rw [hA] at hk
    have := HG2.out.sz
    rcases hk with rfl | hk
    · exact HBB.out.2
    · have := HOB.out k hk; omega)
  have HSEQ : Hid (SeqZ Fence.wide 2 Tryz.prog 189 #[.pointer (some ⟨bb, 0, none⟩)] encOsl A (fun xs => xs = Y.KL) (fun pre => pre <+: Y.KL) w2) := Lib.hid (by
    rw [hA]
    exact SeqAsl (some ⟨Y.bm, 0, none⟩) Y.v Y.KL (by omega) bb w2 (.inl ⟨_, rfl, (Lay.om HF.out.2.1).gr HG2.out⟩) k1)
  have HCP0 : Hid (CpK Y X [] 0) := Lib.hid ⟨by simp⟩
  have HZ : Hid (SWz w w2 A (cpHd (bi + 1) bi bm (.slice none 0 0) [] (.slice none 0 0) ++ keyRows [] (X.keys.take 0)) (fun _ => False) w2) := Lib.hid (SWz.start (by simpa [keyRows] using HS2.out) (fun B hB k hk ha => by
    rw [List.take_zero] at hB
    have hB' : B ∈ cpHd (bi + 1) bi bm (.slice none 0 0) [] (.slice none 0 0) := by simpa [keyRows] using hB
    have l2 := HS2.out.n B hB' k hk
    rw [hA] at ha
    rcases ha with rfl | ha
    · have := HBB.out.1
      have hgz := HG1.out.sz
      simp only [cpHd, List.mem_cons, List.not_mem_nil, or_false] at hB'
      rcases hB' with rfl | rfl | rfl
      · have : k = bi + 1 := hk; omega
      · have : k = bi := hk; omega
      · rcases hk with e | e
        · omega
        · cases e
    · have := HOB.out k ha; omega))
  have HBI := Lib.hid (And.intro hbm hbi)
  rw [← hbm, ← hbi]
  clear k1 l1 hg hKL hA hbm hbi db1 lb1
  go_wp2_with fail
  apply wp_rangeFunc_zb (gf := 189) (lb := #[.pointer (some ⟨bb, 0, none⟩)]) rfl (enters_of Tryz.func189 (by kernel_rfl) rfl) HSEQ.out (Mdh.refl _ w2) HAL.out (fun _ => rfl)
    (fun Z pre X' => ∃ v KL, CpK Y X KL pre.length ∧ SWz w w2 A (cpHd (bi + 1) bi bm v KL (.slice none 0 0) ++ keyRows KL (X.keys.take pre.length)) Z X')
    (fun _ _ _ => False) (fun _ _ _ => False)
    (Apart.ex fun v => Apart.ex fun KL => (Apart.pure (fun pre : List Itsl => CpK Y X KL pre.length)).and (SWz.apart HG2.out.sz (fun pre : List Itsl => cpHd (bi + 1) bi bm v KL (.slice none 0 0) ++ keyRows KL (X.keys.take pre.length)))) apart_no apart_no
    ⟨_, _, HCP0.out, HZ.out⟩ _ ?assign ?body ?hend ?hret
  case hret => intro _ _ _ _ _ _ _ h; exact h.elim
  case assign =>
    intro l x X' K hK
    dsimp only [encOsl]
    gi_wp2
    exact hK
  case body =>
    intro l Z pre x X' hI hsp
    obtain ⟨v, KL, hcp, hZ⟩ := hI
    have HZI := Lib.hid hZ
    have HCP := Lib.hid hcp
    have hx : Y.KL[pre.length]? = some x := by
      obtain ⟨t, ht⟩ := hsp
      rw [← ht]
      simp
    obtain ⟨x1, x2⟩ := x
    obtain ⟨l', hl'⟩ : ∃ l', X.keys[pre.length]? = some (x1, l') := by
      have := keys_at HF.out.2.2.1.k pre.length
      rw [hx] at this
      cases h : X.keys[pre.length]? with
      | none => rw [h] at this; cases this
      | some y =>
        rw [h] at this
        obtain ⟨y1, y2⟩ := y
        have e : x1 = y1 := Option.some.inj this
        subst e
        exact ⟨y2, rfl⟩
    have HL' := Lib.hid hl'
    have HLE : Hid (l'.length ≤ 16384) := Lib.hid (by
      have h1 : X.of x1 = l' := by unfold IX.of; rw [(look_mem ordS HF.out.1.k0 x1 l').2 (List.mem_of_getElem? hl')]; rfl
      have := HF.out.1.of_le x1
      rwa [h1] at this)
    have HOW : Hid (Own X' 56 6 (slV x2) l'.length (rowE l')) := Lib.hid ((HF.out.2.1.get (Lay.key_mem hx hl')).gr hZ.s.g)
    have HB3 := Lib.hid (show X'.heap[bi + 1]? = _ from hZ.s.get (i := 0) rfl)
    have HBX := Lib.hid (show X'.heap[bi]? = _ from hZ.s.get (i := 1) rfl)
    have HOM' := Lib.hid (show OMsl X' bm v KL from hZ.s.get (i := 2) rfl)
    have HOML : Hid (∀ k, (k = bm ∨ v.ownBlock = some k) → k < X'.heap.size) := Lib.hid (fun k hk => hZ.s.s.lt (A := omA bm v KL) (by simp [cpHd]) k hk)
    have hKL : KL.length ≤ 16384 := by
      have e1 := congrArg List.length hcp.k
      simp only [List.length_map, List.length_take] at e1
      have := HF.out.1.keys_le
      omega
    have HKL := Lib.hid hKL
    have hbb : bm < bi := by have := blkLt HOM.out.blk; have := HBI.out; omega
    have m1 : ¬ bi + 1 = bm := by omega
    have m2 : ¬ v.ownBlock = some (bi + 1) := own_ne HOM'.out.own HB3.out (by decide)
    have m3 : ¬ bi = bm := by omega
    have m4 : ¬ v.ownBlock = some bi := own_ne HOM'.out.own HBX.out (by decide)
    have d3 := (cellsOf HB3.out).1
    have dx := (cellsOf HBX.out).1
    clear hcp hZ hsp hx hl' hKL
    obtain ⟨s1, s2, s3⟩ := x2
    simp only [slV] at *
    gi_wp2_with fail
    refine wpIn_region_flo (fun _ => trivial) rfl (fun k => k = bm ∨ v.ownBlock = some k) [] [] (by kernel_rfl) (by kernel_rfl) (HOML.out) ?_
    refine flo_seg 6 rfl ?_
    simp only [List.take_succ_cons, List.take_zero, List.drop_succ_cons, List.drop_zero]
    repeat (go_big_quiet_step (fail))
    refine wpQuiet_nil ?_
    refine flo_eff rfl rfl rfl rfl (fun K hK => ?_)
    gi_wp2_with ((refine ⟨trivial, ?_⟩; gi_at_call 98; refine (CallsIn.inRound l (callsIn_wide.2 (CloneE l' (by have := HLE.out; omega) (s1, s2, s3) X'.drew (HOW.out.gr (Gr.refl _).drew)))).mono ?_; rintro e w3 ⟨⟨q1, q2, q3⟩, rfl, ho3, hn3, hg3⟩; simp only [slV] at ho3 hn3; simp only [slV]; have HO3 := Lib.hid ho3; have HN3 := Lib.hid hn3; have HGD := Lib.hid hg3; have HG3 := Lib.hid (((Gr.refl _).drew).trans hg3); clear ho3 hn3 hg3))
    refine ⟨by first | exact HGD.out.mdh _ | exact HG3.out.mdh _, ?_⟩
    refine flo_eff rfl rfl rfl rfl (fun K hK => ?_)
    gi_wp2_with ((refine ⟨trivial, ?_⟩; gi_at_call 97; refine (CallsIn.inRound l (callsIn_wide.2 (Setsl bm v KL x1 (q1, q2, q3) w3 (HOM'.out.gr HG3.out) (by have := HKL.out; omega)))).mono ?_; rintro e w4 ⟨rfl, v', hm4, ho4, hd4⟩; have HM4 := Lib.hid hm4; have HO4 := Lib.hid ho4; have HD4 := Lib.hid hd4; clear hm4 ho4 hd4))
    refine ⟨by first | exact HD4.out | exact HD4.out.mono (fun k hk => .inl hk), ?_⟩
    refine flo_nil ?_
    gi_wp2_with fail
    have hp := HCP.out.put HF.out.1 HL'.out (q1, q2, q3)
    have hkl : KL.length = (X.keys.take pre.length).length := by simpa using congrArg List.length HCP.out.k
    have z4 := HZI.out.new HAL.out HG3.out (B := enA (q1, q2, q3) l') HO3.out HN3.out
    have z5 := z4.step (i := 3) (B' := omA bm v' (KL ++ [(x1, (q1, q2, q3))])) rfl HAL.out HD4.out (fun k hk => .inl hk) (by rw [← hp.1]; exact HM4.out) (fun k hk => hk.elim (fun e => .inl (.inl e)) (fun e => (HO4.out k e).imp .inr (fun h => h)))
    refine ⟨(HG3.out.mdh _).trans z5.2, v', KL ++ [(x1, (q1, q2, q3))], by rw [List.length_append]; exact hp.2, ?_⟩
    rw [List.length_append, show ([(x1, (s1, s2, s3))] : List Itsl).length = 1 from rfl, List.take_add_one, HL'.out, show (some (x1, l')).toList = [(x1, l')] from rfl, keyRows_snoc hkl]
    refine z5.1.perm ?_
    have e1 : ((enA (q1, q2, q3) l' :: (cpHd (bi + 1) bi bm v KL (.slice none 0 0) ++ keyRows KL (X.keys.take pre.length))).set 3 (omA bm v' (KL ++ [(x1, (q1, q2, q3))]))) = [enA (q1, q2, q3) l'] ++ (cpHd (bi + 1) bi bm v' (KL ++ [(x1, (q1, q2, q3))]) (.slice none 0 0) ++ keyRows KL (X.keys.take pre.length)) := rfl
    rw [e1]
    exact List.perm_append_comm.trans (by rw [List.append_assoc])
  case hend =>
    intro Z D xs W hD hZD hcase hdef
    obtain ⟨hxs, v, KL, hcp, hZ⟩ := hcase.elim (fun h => h) (fun h => h.2.elim)
    have hxs' : xs = Y.KL := hxs
    subst hxs'
    have hkl : Y.KL.length = X.keys.length := by simpa using congrArg List.length HF.out.2.2.1.k
    rw [hkl, List.take_length] at hZ
    have HK : Hid (KL.map Prod.fst = X.keys.map Prod.fst) := Lib.hid (by have := hcp.k; rwa [hkl, List.take_length] at this)
    have HD := Lib.hid (And.intro hD hdef)
    have hdz : ∀ B ∈ cpHd (bi + 1) bi bm v KL (.slice none 0 0) ++ keyRows KL X.keys, ∀ k, B.S k → k ≠ D := fun B hB k hk e => hZ.z B hB k hk (e ▸ hZD)
    have hnD : w.heap.size ≤ D := Nat.le_trans HG2.out.sz hD
    have HS0 : Hid (SW w (blkA D (.deferred (some [])) :: (cpHd (bi + 1) bi bm v KL (.slice none 0 0) ++ (rowA 120 1 (.slice none 0 0) 0 [] :: (keyRows KL X.keys ++ slotRows [] [])))) W) := Lib.hid (by
      have h1 : SW w (blkA D (.deferred (some [])) :: (cpHd (bi + 1) bi bm v KL (.slice none 0 0) ++ keyRows KL X.keys)) W := ⟨hZ.s.g, ⟨fun B hB => (List.mem_cons.1 hB).elim (fun e => e ▸ hdef) (hZ.s.s.1 B), List.pairwise_cons.2 ⟨fun B hB k hk hb => hdz B hB k hb hk, hZ.s.s.2⟩⟩, fun B hB k hk => (List.mem_cons.1 hB).elim (fun e => by rw [e] at hk; rw [show k = D from hk]; exact hnD) (fun e => hZ.s.n B e k hk)⟩
      have h2 := h1.new (Gr.refl _) (A := rowA 120 1 (.slice none 0 0) 0 []) (nilRow _ _ _) (fun k hk => by cases hk)
      refine h2.perm ?_
      rw [show slotRows [] [] = [] from rfl, List.append_nil]
      exact (List.perm_middle (l₁ := blkA D (.deferred (some [])) :: cpHd (bi + 1) bi bm v KL (.slice none 0 0))).symm)
    have HC : Hid (∃ g cap, w.heap[b]? = some (.cells #[.pointer (some ⟨Y.bm, 0, none⟩), .slice (some ⟨g, 0, none⟩) X.slots.length cap] 119) ∧ X.slots.length ≤ cap ∧ cap ≤ maxLen ∧ ∀ j l, X.slots[j]? = some l → ∃ s : Sl, w.cell? ⟨g, j, none⟩ = some (slV s) ∧ Own w 56 6 (slV s) l.length (rowE l)) := Lib.hid (by
      rcases (Lay.srow HF.out.2.1).2 with ⟨_, h0⟩ | ⟨g, cap, cur, hv, _, hg, c1, c2, c3, c4⟩
      · exact absurd (List.eq_nil_of_length_eq_zero h0) HI.out.pos
      · have hb := Lay.blk HF.out.2.1
        rw [hv] at hb
        refine ⟨g, cap, hb, c1, c2, fun j l hj => ?_⟩
        have hjl := (List.getElem?_eq_some_iff.1 hj).1
        have hs : X.has j = true := by simp [IX.has]; omega
        obtain ⟨i, sl, g', cap', e1, hlt, hsl, hsx, hsv, c1, c2, hc, ho, hm⟩ := Lay.slotE HF.out.2.1 HF.out.2.2.1 hs
        obtain rfl : j = i := by omega
        rw [hv] at hsv
        injection hsv with e2 _ _
        injection e2 with e2
        injection e2 with e2 _ _
        subst e2
        rw [hsx] at hj
        obtain rfl := Option.some.inj hj
        exact ⟨sl, hc, ho⟩)
    obtain ⟨g, cap, hb, hcn, hcm, hcs⟩ := HC.out
    have HCS := Lib.hid hcs
    have HGW := Lib.hid hZ.s.g
    have db := (cellsOf (hZ.s.g.blk hb)).1
    have h32 := HF.out.1.n
    unfold maxLen at hcm
    clear hcp hZ hcase hxs hdz hD hdef hnD hkl hb hcs
    dsimp only
    go_wp2_with fail
    go_loopw [34] (fun t34 wx => ∃ (j : Nat) (sv : Value) (SL : List Sl), j ≤ X.slots.length ∧ t34 = .int .i64 j ∧ Hid (SL.length = j ∧ SW w (blkA D (.deferred (some [])) :: (cpHd (bi + 1) bi bm v KL sv ++ (rowA 120 1 sv j (SL.map slV) :: (keyRows KL X.keys ++ slotRows SL (X.slots.take j))))) wx)) (fun t34 _ => X.slots.length - (intOf t34).toNat)
    case atStart => exact ⟨0, _, [], by omega, rfl, Lib.hid ⟨rfl, HS0.out⟩⟩
    case round =>
      obtain ⟨j, sv, SL, hj, rfl, HR⟩ := hrel
      by_cases hlt : j < X.slots.length
      · have hlt' : (j : Int) < X.slots.length := by omega
        obtain ⟨l, hl⟩ : ∃ l, X.slots[j]? = some l := ⟨_, List.getElem?_eq_getElem hlt⟩
        obtain ⟨⟨s1, s2, s3⟩, hc, ho⟩ := HCS.out j l hl
        simp only [slV] at hc ho
        have HL := Lib.hid hl
        have HOW := Lib.hid (ho.gr HR.out.2.g)
        have dg := HR.out.2.g.keep hc
        have db := (cellsOf (HR.out.2.g.blk (show w.heap[b]? = _ from HC.out.choose_spec.choose_spec.1))).1
        have HLL : Hid (l.length ≤ 512) := Lib.hid (by have := HF.out.1.slot_le j; rwa [slot_at hl] at this)
        have HB3 := Lib.hid (show wr.heap[bi + 1]? = _ from HR.out.2.get (i := 1) rfl)
        have HBX := Lib.hid (show wr.heap[bi]? = _ from HR.out.2.get (i := 2) rfl)
        have HSR := Lib.hid (show Own wr 120 1 sv j (SL.map slV) from HR.out.2.get (i := 4) rfl)
        have m2 : ¬ sv.ownBlock = some (bi + 1) := own_ne HSR.out HB3.out (by decide)
        have m4 : ¬ sv.ownBlock = some bi := own_ne HSR.out HBX.out (by decide)
        have HM4 := Lib.hid m4
        have d3 := (cellsOf HB3.out).1
        have dx := (cellsOf HBX.out).1
        have mixed : Tryz.prog.follows .mixedOrders = true := by kernel_rfl
        clear hl hc ho
        go_wp2_with fail
        refine wp_region_flt 9 (fun q => sv.ownBlock = some q) [] [] (by kernel_rfl) (by kernel_rfl) (by decide) (by kernel_rfl) (fun q hq => HSR.out.lt hq) ?_
        simp only [List.take_succ_cons, List.take_zero, List.drop_succ_cons, List.drop_zero]
        refine flo_seg 6 rfl ?_
        simp only [List.take_succ_cons, List.take_zero, List.drop_succ_cons, List.drop_zero]
        repeat (go_big_quiet_step (fail))
        refine wpQuiet_nil ?_
        refine flo_eff rfl rfl rfl rfl (fun K hK => ?_)
        go_wp2_with ((go_at_call 98; refine (CloneE l (by have := HLL.out; omega) (s1, s2, s3) wr.drew (HOW.out.gr (Gr.refl _).drew)).mono ?_; rintro e w3 ⟨⟨q1, q2, q3⟩, rfl, ho3, hn3, hg3⟩; simp only [slV] at ho3 hn3; simp only [slV]; have HO3 := Lib.hid ho3; have HN3 := Lib.hid hn3; have HGD := Lib.hid hg3; have HG3 := Lib.hid (((Gr.refl _).drew).trans hg3); clear ho3 hn3 hg3))
        refine ⟨by first | exact HGD.out.mdh _ | exact HG3.out.mdh _, ?_⟩
        refine flo_eff rfl rfl rfl rfl (fun K hK => ?_)
        go_wp2
        refine ⟨by (first | (refine Gr.mdh ?_ _; (repeat (first | (with_reducible exact Gr.refl _) | assumption | (with_reducible apply Gr.from_drew) | (with_reducible apply Gr.alloc) | (with_reducible apply Gr.drew) | (with_reducible refine Gr.trans ?_ (by assumption)) | (with_reducible refine Gr.setCell ?_ (by omega) _))); done) | (repeat (first | (with_reducible exact Mdh.refl _ _) | (with_reducible refine Mdh.setCell ?_ (by simp) _) | (with_reducible refine Mdh.setNew ?_ (by simp) _) | (with_reducible apply Mdh.alloc) | (with_reducible apply Mdh.from_drew) | (with_reducible apply Mdh.drew) | (with_reducible refine Mdh.gr ?_ (by assumption))))), ?_⟩
        refine flo_eff rfl rfl rfl rfl (fun K hK => ?_)
        refine wp_appv _ (.tmp 42) (.tmp 45) 117 rfl 120 i0 _ 1 24 Tryz.underlying117 hi hz0 hz1 hz2 rfl (by decide) sv j (SL.map slV) rfl ((HSR.out.gr HG3.out).gr (by (repeat (first | (with_reducible exact Gr.refl _) | assumption | (with_reducible apply Gr.from_drew) | (with_reducible apply Gr.alloc) | (with_reducible apply Gr.drew) | (with_reducible refine Gr.trans ?_ (by assumption)) | (with_reducible refine Gr.setCell ?_ (by omega) _))))) (some ⟨w3.heap.size, 0, none⟩) 1 1 [.slice q1 q2 q3] rfl ((src_newK w3 [.slice q1 q2 q3] _ 1 rfl (by simp [Value.oneCell'])).gr (by (repeat (first | (with_reducible exact Gr.refl _) | assumption | (with_reducible apply Gr.from_drew) | (with_reducible apply Gr.alloc) | (with_reducible apply Gr.drew) | (with_reducible refine Gr.trans ?_ (by assumption)) | (with_reducible refine Gr.setCell ?_ (by omega) _))))) (by simp only [maxLen]; omega) (by omega) (fun v' xa hk => ?_); obtain ⟨a', c', rfl⟩ := hk.val; have HK' := Lib.hid hk; refine hK _ _ ⟨hk.mdh (fun q hq => .inl hq), ?_⟩; simp only [Act.put, List.setIfInBounds_toArray, List.set_cons_succ, List.set_cons_zero]
        refine flo_nil ?_
        have z1 := HR.out.2.new HG3.out (A := enA (q1, q2, q3) l) HO3.out HN3.out
        have z2 := z1.gr ((Gr.refl w3).alloc (.cells #[.slice q1 q2 q3] 120))
        have hm := hk.mdh (fun g h => h)
        have z3 := z2.at (i := 5) (B := rowA 120 1 (.slice a' (j + 1) c') (j + 1) (SL.map slV ++ [Value.slice q1 q2 q3])) rfl hm (fun k hk => .inl hk) hk.1 (fun k hq => hk.2.1 k hq)
        have HZ3 := Lib.hid z3
        have b1 : xa.heap[bi]? = some (.cells #[.pointer (some ⟨bm, 0, none⟩), sv] 119) := HZ3.out.get (i := 3) rfl
        have HB1 := Lib.hid b1
        have f1 := (cellsOf b1).1
        have ff := (cellsOf b1).2
        clear hk z1 z2 z3 hm b1 m2 m4 d3 dx dg db
        go_wp2_with fail
        have z4 := HZ3.out.at (i := 3) (B := blkA bi (.cells #[.pointer (some ⟨bm, 0, none⟩), .slice a' (j + 1) c'] 119)) rfl ((Mdh.refl (fun k => k = bi) xa).setCell (p := ⟨bi, 1, none⟩) rfl (.slice a' (j + 1) c')) (fun k hk => .inl hk) (blkSet (j := 1) (u := .slice a' (j + 1) c') HB1.out) (fun k hk => .inl hk)
        have hsn : slotRows (SL ++ [(q1, q2, q3)]) (X.slots.take (j + 1)) = slotRows SL (X.slots.take j) ++ [enA (q1, q2, q3) l] := by
          rw [List.take_add_one, HL.out]
          exact slotRows_snoc (by rw [HR.out.1, List.length_take]; omega) _ _
        go_roundw
        case rel =>
          refine ⟨j + 1, .slice a' (j + 1) c', SL ++ [(q1, q2, q3)], by omega, by go_num, Lib.hid ⟨by rw [List.length_append, HR.out.1]; rfl, ?_⟩⟩
          rw [hsn, List.map_append]
          refine z4.perm ?_
          refine (List.perm_append_comm (l₁ := [enA (q1, q2, q3) l])).trans ?_
          simp only [cpHd, List.set_cons_succ, List.set_cons_zero, List.cons_append, List.nil_append, List.append_assoc]
          exact List.Perm.refl _
        case measure => simp [intOf]; omega
      · have hlt' : ¬ (j : Int) < X.slots.length := by omega
        obtain rfl : j = X.slots.length := by omega
        have d3 := (cellsOf (show wr.heap[bi + 1]? = _ from HR.out.2.get (i := 1) rfl)).1
        have hdef : wr.heap[D]? = some (.deferred (some [])) := HR.out.2.get (i := 0) rfl
        have HDF := Lib.hid hdef
        clear hdef
        go_wp2
        have hsep := HR.out.2.s.tail
        rw [List.take_length] at hsep
        have hnw := HR.out.2.n
        rw [List.take_length] at hnw
        have hds := HR.out.2.s.dis
        rw [List.take_length] at hds
        have hp : (cpHd (bi + 1) bi bm v KL sv ++ (rowA 120 1 sv X.slots.length (SL.map slV) :: (keyRows KL X.keys ++ slotRows SL X.slots))).Perm (blkA (bi + 1) (.cells #[.pointer (some ⟨bi, 0, none⟩)] 35) :: (⟨bm, v, sv, KL, SL⟩ : Lay).list bi X) := List.Perm.refl _
        have hm : Mdh (fun k => k = D) wr (wr.putObj D (.deferred none)) := (Mdh.refl (fun k => k = D) wr).putObj rfl _
        refine retM1 (D := D) (v := .pointer (some ⟨bi, 0, none⟩)) rfl HDF.out ?_ ⟨bi, fun k => ∃ B ∈ (⟨bm, v, sv, KL, SL⟩ : Lay).list bi X, B.S k, rfl, ⟨HF.out.1, HI.out.pos, ⟨bm, v, sv, KL, SL⟩, ?_, ⟨HK.out, HR.out.1⟩, fun k => Iff.rfl⟩, ?_, ?_⟩
        · simp [results, Tryz.results104, go_sem]
        · exact (hsep.perm hp).tail.mdh hm (fun B hB k hk hkD => hds B (hp.mem_iff.2 (List.mem_cons_of_mem _ hB)) k hkD hk)
        · rintro k ⟨B, hB, hk⟩
          exact hnw B (List.mem_cons_of_mem _ (hp.mem_iff.2 (List.mem_cons_of_mem _ hB))) k hk
        · exact HR.out.2.g.putObj (hnw _ (List.mem_cons_self ..) D rfl) _
end Go.Proofs.YtmdfickejpeofaaGreat

/- Contract of index.New. -/
set_option linter.unusedVariables false
set_option linter.unusedSimpArgs false
namespace Go.Proofs.YtmdfickejpeofaaGreat
open Go.RowKit
attribute [local go_sem] OvM cell_ovm obj_ovm

theorem infoList : (Tryz.prog.info? 120).map (fun i => (i.zero, i.size, i.bytes)) = some (some (.slice none 0 0), 1, 24) := by kernel_rfl
theorem new_bad (n : Int) (h : n < 1 ∨ 32 < n) (w : World) : Calls Tryz.prog 32 #[.int .i64 n] w fun e w' => e = .returned (.tuple #[.pointer none, .int .i64 2]) ∧ w = w' := by
  rcases h with h | h
  · go_enter Tryz.func32, Tryz.ntmps32
    go_wp2
    go_ret2
    exact ⟨rfl, rfl⟩
  · have h1 : ¬ n < 1 := by omega
    go_enter Tryz.func32, Tryz.ntmps32
    go_wp2
    go_ret2
    exact ⟨rfl, rfl⟩
theorem ixNew_pos {n : Nat} (h : 1 ≤ n) : (ixNew n).slots ≠ [] := by
  intro h0
  have := congrArg List.length h0
  simp [ixNew] at this
  omega
/-- The rows of empty slots. -/
theorem new_sep {w : World} {b bm g n : Nat} (hn : 1 ≤ n) (h1 : n ≤ 32) (hb : w.heap[b]? = some (.cells #[.pointer (some ⟨bm, 0, none⟩), .slice (some ⟨g, 0, none⟩) n n] 119)) (ho : OMsl w bm (.slice none 0 0) []) (hg : w.heap[g]? = some (.cells (madeCells #[.slice none 0 0] (n * 1)) 120))
    (n1 : b ≠ bm) (n2 : b ≠ g) (n3 : bm ≠ g) : IXR w b (ixNew n) (fun k => k = b ∨ k = bm ∨ k = g) := by
  have hrep : (List.replicate n ((none, 0, 0) : Sl)).map slV = List.replicate n (Value.slice none 0 0) := by simp [slV]
  have hrow : Own w 120 1 (.slice (some ⟨g, 0, none⟩) n n) n ((List.replicate n ((none, 0, 0) : Sl)).map slV) := by
    refine Own.ofParts hg (Nat.le_refl _) (by simp only [maxLen]; omega) (by rw [size_madeCells]) ?_
    rw [hrep]
    apply List.ext_getElem?
    intro i
    by_cases hi : i < n
    · rw [List.getElem?_take_of_lt (by omega), made_get _ n i hi]
      simp [hi]
    · rw [List.getElem?_eq_none (by simp [size_madeCells]; omega), List.getElem?_eq_none (by simp; omega)]
  have hemp : ∀ (m : Nat), ∀ A ∈ slotRows (List.replicate m ((none, 0, 0) : Sl)) (List.replicate m []), A = enA (none, 0, 0) [] := fun m A hA => by
    unfold slotRows at hA
    rw [List.zipWith_replicate] at hA
    exact (List.mem_replicate.1 hA).2
  have hno : ∀ k, ¬ (enA (none, 0, 0) []).S k := fun k h => by cases h
  refine ⟨new_wf h1, ixNew_pos hn, ⟨bm, .slice none 0 0, .slice (some ⟨g, 0, none⟩) n n, [], List.replicate n (none, 0, 0)⟩, ⟨fun A hA => ?_, ?_⟩, ⟨rfl, by simp [ixNew]⟩, fun k => ⟨fun hk => ?_, fun ⟨A, hA, hk⟩ => ?_⟩⟩
  · simp only [Lay.list, Lay.hd, List.mem_append, List.mem_cons, List.not_mem_nil, or_false, ixNew, List.length_replicate] at hA
    rcases hA with (rfl | rfl | rfl) | hA | hA
    · exact hb
    · exact ho
    · exact hrow
    · cases hA
    · rw [hemp n A hA]; exact nilRow w _ _
  · simp only [Lay.list, Lay.hd, ixNew, keyRows, List.zipWith_nil_left, List.nil_append, List.cons_append, List.length_replicate]
    refine List.pairwise_cons.2 ⟨fun A hA k h1 h2 => ?_, List.pairwise_cons.2 ⟨fun A hA k h1 h2 => ?_, List.pairwise_cons.2 ⟨fun A hA k h1 h2 => ?_, ?_⟩⟩⟩
    · have h1' : k = b := h1
      subst h1'
      simp only [List.mem_cons] at hA
      rcases hA with rfl | rfl | hA
      · rcases h2 with h | h
        · exact n1 h
        · cases h
      · exact n2 (Option.some.inj h2).symm
      · rw [hemp n A hA] at h2; exact hno _ h2
    · have h1' : k = bm := h1.elim (fun h => h) (fun h => by cases h)
      subst h1'
      simp only [List.mem_cons] at hA
      rcases hA with rfl | hA
      · exact n3 (Option.some.inj h2).symm
      · rw [hemp n A hA] at h2; exact hno _ h2
    · rw [hemp n A hA] at h2; exact hno _ h2
    · refine List.pairwise_of_forall_mem_list (fun A hA B hB k h1 h2 => ?_)
      rw [hemp n A hA] at h1; exact hno _ h1
  · rcases hk with rfl | rfl | rfl
    · exact ⟨blkA k _, by simp [Lay.list, Lay.hd]; exact .inl rfl, rfl⟩
    · exact ⟨omA k (.slice none 0 0) [], by simp [Lay.list, Lay.hd], .inl rfl⟩
    · exact ⟨rowA 120 1 (.slice (some ⟨k, 0, none⟩) n n) n ((List.replicate n ((none, 0, 0) : Sl)).map slV), by simp [Lay.list, Lay.hd, ixNew], rfl⟩
  · simp only [Lay.list, Lay.hd, List.mem_append, List.mem_cons, List.not_mem_nil, or_false, ixNew, List.length_replicate] at hA
    rcases hA with (rfl | rfl | rfl) | hA | hA
    · exact .inl hk
    · exact .inr (.inl (hk.elim (fun h => h) (fun h => by cases h)))
    · exact .inr (.inr (Option.some.inj hk).symm)
    · cases hA
    · rw [hemp n A hA] at hk; exact (hno _ hk).elim
set_option maxRecDepth 40000 in
set_option maxHeartbeats 1000000 in
theorem New_any (n : Nat) (w : World) (h1 : 1 ≤ n) (h2 : n ≤ 32) : Calls Tryz.prog 32 #[.int .i64 n] w fun e w' => ∃ b S, e = .returned (.tuple #[.pointer (some ⟨b, 0, none⟩), .int .i64 0]) ∧ IXR w' b (ixNew n) S ∧ (∀ k, S k → w.heap.size ≤ k) ∧ Gr w w' := by
  obtain ⟨i0, hi, hz0, hz1, hz2⟩ := info_parts infoList
  have hn1 : ¬ (n : Int) < 1 := by omega
  have hn2 : ¬ (32 : Int) < n := by omega
  have hm1 : ∀ w : World, (Instr.makeSlice 117 (.int .i64 (n : Int)) (.int .i64 (n : Int))).run Tryz.prog w = .ok (.slice (some ⟨w.heap.size, 0, none⟩) n n) (w.alloc (.cells (madeCells #[.slice none 0 0] (n * 1)) 120)) := fun w => by
    have := run_make (P := Tryz.prog) w 117 120 i0 _ Tryz.underlying117 hi hz0 .i64 .i64 n n (by omega) (by omega) (by rw [hz2]; omega) (by omega)
    rw [hz1] at this
    simp only [Int.toNat_natCast] at this
    exact this
  have HM1 := Lib.hid hm1
  clear hm1 hi hz0 hz1 hz2
  go_enter Tryz.func32, Tryz.ntmps32
  go_wp2
  have HG := Gr.refl w.drew
  refine wp_region_flo (fun _ => False) [12] [] (by kernel_rfl) (by kernel_rfl) (fun _ h => h.elim) ?_
  refine flo_effg rfl rfl rfl (fun wg1 hgg1 K hK => ?_)
  (try replace HG := Gr.trans (Gr.trans HG (by (repeat (first | (with_reducible exact Gr.refl _) | assumption | (with_reducible apply Gr.from_drew) | (with_reducible apply Gr.alloc) | (with_reducible apply Gr.drew) | (with_reducible refine Gr.trans ?_ (by assumption)) | (with_reducible refine Gr.setCell ?_ (by omega) _))))) hgg1)
  go_wp2_with fail; refine (NewOsl _).mono ?_; rintro e' wa1 ⟨rfl, hom, hg⟩; have HOM := Lib.hid hom; have HGA := Lib.hid (HG.trans hg); have HSZ := Lib.hid HG.sz; have HGW := Lib.hid hg; replace HG := HG.trans hg; clear hom hg; go_wp2_with fail; refine ⟨HGW.out.mdh _, ?_⟩
  refine flo_seg 1 rfl ?_
  simp only [List.take_succ_cons, List.take_zero, List.drop_succ_cons, List.drop_zero]
  repeat (go_big_quiet_step (fail))
  refine wpQuiet_nil ?_
  refine flo_float (fun b ↦ .slice (some ⟨b, 0, none⟩) n n) (.cells (madeCells #[.slice none 0 0] (n * 1)) 120 ) rfl rfl ( fun w ↦ by simp [go_sem, HM1.out w] ) (fun wf1 fb1 hgf1 fl1 fh1 ft1 fo1 => ?_)
  (try replace HG := Gr.trans (Gr.trans HG (by (repeat (first | (with_reducible exact Gr.refl _) | assumption | (with_reducible apply Gr.from_drew) | (with_reducible apply Gr.alloc) | (with_reducible apply Gr.drew) | (with_reducible refine Gr.trans ?_ (by assumption)) | (with_reducible refine Gr.setCell ?_ (by omega) _))))) hgf1)
  (try have fc1 := (cellsOf fo1).1)
  (try have ff1 := (cellsOf fo1).2)
  simp only [Act.put, List.setIfInBounds_toArray, List.set_cons_succ, List.set_cons_zero]
  refine flo_seg 1 rfl ?_
  simp only [List.take_succ_cons, List.take_zero, List.drop_succ_cons, List.drop_zero]
  repeat (go_big_quiet_step (fail))
  refine wpQuiet_nil ?_
  refine flo_eff rfl rfl rfl rfl (fun K hK => ?_)
  go_wp2
  refine ⟨by (first | (refine Gr.mdh ?_ _; (repeat (first | (with_reducible exact Gr.refl _) | assumption | (with_reducible apply Gr.from_drew) | (with_reducible apply Gr.alloc) | (with_reducible apply Gr.drew) | (with_reducible refine Gr.trans ?_ (by assumption)) | (with_reducible refine Gr.setCell ?_ (by omega) _))); done) | (repeat (first | (with_reducible exact Mdh.refl _ _) | (with_reducible refine Mdh.setCell ?_ (by simp) _) | (with_reducible refine Mdh.setNew ?_ (by simp) _) | (with_reducible apply Mdh.alloc) | (with_reducible apply Mdh.from_drew) | (with_reducible apply Mdh.drew) | (with_reducible refine Mdh.gr ?_ (by assumption))))), ?_⟩
  refine flo_seg 2 rfl ?_
  simp only [List.take_succ_cons, List.take_zero, List.drop_succ_cons, List.drop_zero]
  repeat (go_big_quiet_step (fail))
  refine wpQuiet_nil ?_
  refine flo_nil ?_
  have hf := Lib.hid (And.intro fo1 (And.intro HG (And.intro fl1 (And.intro fh1 (And.intro ft1 hgf1)))))
  clear fo1 HG fl1 fh1 ft1 hgf1 hgg1
  (try clear fc1 ff1)
  go_wp2
  go_ret2
  obtain ⟨fo1, HG, fl1, fh1, ft1, hgf1⟩ := hf.out
  have l1 := blkLt HOM.out.blk
  have l2 := hgf1.sz
  have l3 : w.heap.size ≤ wg1.heap.size := HSZ.out
  have l4 : w.heap.size ≤ wf1.heap.size := HG.sz
  refine ⟨wf1.heap.size, _, rfl, new_sep h1 h2 (blkNew wf1 _) ((HOM.out.gr hgf1).gr ((Gr.refl _).alloc _)) (blkOld fo1) (by omega) (by omega) (fun h => ft1 (.inr (by omega))), fun k hk => ?_, (Gr.of_drew HG).alloc _⟩
  rcases hk with rfl | rfl | rfl <;> omega
end Go.Proofs.YtmdfickejpeofaaGreat

/- An index that was not made: Add, Drop, Copy; an index among other things. -/
set_option linter.unusedVariables false
set_option linter.unusedSimpArgs false
namespace Go.Proofs.YtmdfickejpeofaaGreat
open Go.RowKit Go.Shelf
attribute [local go_sem] OvM cell_ovm obj_ovm
attribute [local go_sem] Oper.semAt_some

set_option maxRecDepth 40000 in
set_option maxHeartbeats 2000000 in
theorem AddN {w : World} {p : Option Addr} (h : IXN w p) (e : En) : Calls Tryz.prog 44 #[.pointer p, enV e] w fun e' w' => e' = .returned (.int .i64 1) ∧ Gr w w' := by
  have H := Lib.hid h
  clear h
  obtain ⟨e1, e2, e3, e4, e5, e6⟩ := e
  simp only [enV]
  refine calls_of_wp_marks Tryz.func44 rfl ?_
  simp only [Tryz.ntmps44, List.size_toArray, List.length_cons, List.length_nil, Nat.reduceAdd, Nat.reduceSub, Array.replicate_succ, Array.replicate_zero, List.push_toArray, List.append_toArray, List.nil_append, List.cons_append]
  go_wp2_with (go_at_call 70; refine (made_no (H.out.gr (by (repeat (first | (with_reducible exact Gr.refl _) | assumption | (with_reducible apply Gr.from_drew) | (with_reducible apply Gr.alloc) | (with_reducible apply Gr.drew) | (with_reducible refine Gr.trans ?_ (by assumption)) | (with_reducible refine Gr.setCell ?_ (by omega) _)))))).mono ?_; rintro e w1 ⟨rfl, rfl⟩)
  exact retM0 (v := .int .i64 1) (by simp [results, Tryz.results44, go_sem]) rfl ⟨rfl, by (repeat (first | (with_reducible exact Gr.refl _) | assumption | (with_reducible apply Gr.from_drew) | (with_reducible apply Gr.alloc) | (with_reducible apply Gr.drew) | (with_reducible refine Gr.trans ?_ (by assumption)) | (with_reducible refine Gr.setCell ?_ (by omega) _)))⟩
set_option maxRecDepth 40000 in
theorem DropN {w : World} {p : Option Addr} (h : IXN w p) (s : Int) : Calls Tryz.prog 46 #[.pointer p, .int .i64 s] w fun e' w' => e' = .returned (.tuple #[.int .i64 0, .int .i64 1]) ∧ Gr w w' := by
  have H := Lib.hid h
  clear h
  refine calls_of_wp_marks Tryz.func46 rfl ?_
  simp only [Tryz.ntmps46, List.size_toArray, List.length_cons, List.length_nil, Nat.reduceAdd, Nat.reduceSub, Array.replicate_succ, Array.replicate_zero, List.push_toArray, List.append_toArray, List.nil_append, List.cons_append]
  go_wp2_with (go_at_call 70; refine (made_no (H.out.gr (by (repeat (first | (with_reducible exact Gr.refl _) | assumption | (with_reducible apply Gr.from_drew) | (with_reducible apply Gr.alloc) | (with_reducible apply Gr.drew) | (with_reducible refine Gr.trans ?_ (by assumption)) | (with_reducible refine Gr.setCell ?_ (by omega) _)))))).mono ?_; rintro e w1 ⟨rfl, rfl⟩)
  exact retM0 (v := .tuple #[.int .i64 0, .int .i64 1]) (by simp [results, Tryz.results46, go_sem]) rfl ⟨rfl, by (repeat (first | (with_reducible exact Gr.refl _) | assumption | (with_reducible apply Gr.from_drew) | (with_reducible apply Gr.alloc) | (with_reducible apply Gr.drew) | (with_reducible refine Gr.trans ?_ (by assumption)) | (with_reducible refine Gr.setCell ?_ (by omega) _)))⟩
set_option maxRecDepth 40000 in
theorem CopyN {w : World} {p : Option Addr} (h : IXN w p) : Calls Tryz.prog 104 #[.pointer p] w fun e' w' => e' = .returned (.pointer none) ∧ Gr w w' := by
  have H := Lib.hid h
  clear h
  refine calls_of_wp_marks Tryz.func104 rfl ?_
  simp only [Tryz.ntmps104, List.size_toArray, List.length_cons, List.length_nil, Nat.reduceAdd, Nat.reduceSub, Array.replicate_succ, Array.replicate_zero, List.push_toArray, List.append_toArray, List.nil_append, List.cons_append]
  go_wp2_with (go_at_call 70; refine (made_no H.out).mono ?_; rintro e w1 ⟨rfl, rfl⟩)
  exact retM0 (v := .pointer none) (by simp [results, Tryz.results104, go_sem]) rfl ⟨rfl, by (repeat (first | (with_reducible exact Gr.refl _) | assumption | (with_reducible apply Gr.from_drew) | (with_reducible apply Gr.alloc) | (with_reducible apply Gr.drew) | (with_reducible refine Gr.trans ?_ (by assumption)) | (with_reducible refine Gr.setCell ?_ (by omega) _)))⟩
theorem ixp_none {w : World} {p : Option Addr} {X : IX} {S : Nat → Prop} (h : IXP w p X S) (h0 : X.slots = []) : IXN w p := by
  rcases h with ⟨b, e, h⟩ | ⟨h, _⟩
  · exact absurd h0 h.pos
  · exact h
theorem ixp_some {w : World} {p : Option Addr} {X : IX} {S : Nat → Prop} (h : IXP w p X S) (h0 : X.slots ≠ []) : ∃ b, p = some ⟨b, 0, none⟩ ∧ IXR w b X S := by
  rcases h with ⟨b, e, h⟩ | ⟨h, h1, _⟩
  · exact ⟨b, e, h⟩
  · rw [h1] at h0; exact absurd rfl h0
/-- What Copy returns. -/
def CopyQ (X : IX) (w : World) (e : Ending) (w' : World) : Prop := ∃ q, e = .returned (.pointer q) ∧ Gr w w' ∧ (q = none ↔ X.slots = []) ∧ ∃ S', IXP w' q X S' ∧ ∀ k, S' k → w.heap.size ≤ k
theorem Copy_any {w : World} {p : Option Addr} {X : IX} {S : Nat → Prop} (h : IXP w p X S) : Calls Tryz.prog 104 #[.pointer p] w (CopyQ X w) := by
  rcases h with ⟨b, rfl, h⟩ | ⟨h, h1, _⟩
  · refine (CopyX h).mono ?_
    rintro e w' ⟨b', S', rfl, h1, h2, h3⟩
    exact ⟨_, rfl, h3, ⟨(fun h0 => by cases h0), fun h0 => absurd h0 h.pos⟩, S', .inl ⟨b', rfl, h1⟩, h2⟩
  · refine (CopyN h).mono ?_
    rintro e w' ⟨rfl, hg⟩
    exact ⟨none, rfl, hg, ⟨fun _ => by rw [h1], fun _ => rfl⟩, fun _ => False, .inr ⟨.inl rfl, h1, fun k => ⟨fun h => h.elim, (fun ⟨a, ha, _⟩ => by cases ha)⟩⟩, fun k hk => hk.elim⟩
/-- An index among other things turns. -/
theorem SW.post {w0 w w' : World} {R : List Asn} {b : Nat} {X X' : IX} {S : Nat → Prop} (h : SW w0 (ixA b X S :: R) w) (p : IXPost b X' S w w') : ∃ S', SW w0 (ixA b X' S' :: R) w' := by
  obtain ⟨S', h1, h2, h3⟩ := p
  exact ⟨S', h.step h2 (fun k hk => .inl hk) h1 h3⟩
theorem SW.ix {w0 w : World} {R : List Asn} {b : Nat} {X : IX} {S : Nat → Prop} (h : SW w0 (ixA b X S :: R) w) : IXR w b X S := h.s.head
theorem SW.ixp {w0 w : World} {R : List Asn} {b : Nat} {X : IX} {S : Nat → Prop} (h : SW w0 (ixA b X S :: R) w) : IXP w (some ⟨b, 0, none⟩) X S := .inl ⟨b, rfl, h.s.head⟩
theorem SW.ixnew {w0 w w' : World} {R : List Asn} {b : Nat} {X : IX} {S : Nat → Prop} (h : SW w0 R w) (h1 : IXR w' b X S) (h2 : ∀ k, S k → w.heap.size ≤ k) (g : Gr w w') : SW w0 (ixA b X S :: R) w' := h.new g h1 h2
/-- A row behind an index. -/
theorem SW.row {w0 w w' : World} {R : List Asn} {A : Asn} {t : TypeId} {K n : Nat} {v : Value} {xs : List Value} (h : SW w0 (A :: R) w) (hr : Nw w w' t K v n xs) (g : Gr w w') : SW w0 (A :: rowA t K v n xs :: R) w' :=
  (h.new g (A := rowA t K v n xs) hr.own (fun k hk => hr.new k hk)).perm (List.Perm.swap _ _ _)
theorem SW.allocT {w0 w : World} {R : List Asn} {A : Asn} (h : SW w0 (A :: R) w) (o : Obj) : SW w0 (A :: blkA w.heap.size o :: R) (w.alloc o) := (h.alloc o).perm (List.Perm.swap _ _ _)
end Go.Proofs.YtmdfickejpeofaaGreat

/- drumlinlaw21.take: the first elements of an iterator, in a row. -/
set_option linter.unusedVariables false
set_option linter.unusedSimpArgs false
namespace Go.Proofs.YtmdfickejpeofaaGreat
open Go.RowKit Go.Shelf
attribute [local go_sem] OvM cell_ovm obj_ovm
attribute [local go_sem] Oper.semAt_some

theorem info_str : (Tryz.prog.info? 9).map (fun i => (i.zero, i.size, i.bytes)) = some (some (.string ⟨#[]⟩), 1, 16) := by kernel_rfl
theorem rowE_snoc (l : List En) (x : En) : rowE (l ++ [x]) = rowE l ++ enC x := by rw [rowE_app]; simp [rowE]
theorem enC_one (x : En) : ∀ u ∈ enC x, u.oneCell' = true := fun u hu => rowE_one [x] u (by simpa [rowE] using hu)
theorem take_pre {α : Type} {n : Nat} {pre L : List α} (h : pre <+: L) (hn : pre.length = n) : pre = L.take n := by
  obtain ⟨t, rfl⟩ := h
  rw [← hn, List.take_left']
  rfl
def kS (l : List ByteArray) : List Value := l.map Value.string
theorem kS_snoc (l : List ByteArray) (x : ByteArray) : kS (l ++ [x]) = kS l ++ [.string x] := by simp [kS]
end Go.Proofs.YtmdfickejpeofaaGreat

/- slices.Equal at rows of entries and of strings. -/
set_option linter.unusedVariables false
set_option linter.unusedSimpArgs false
namespace Go.Proofs.YtmdfickejpeofaaGreat
open Go.RowKit Go.Shelf
attribute [local go_sem] OvM cell_ovm obj_ovm
attribute [local go_sem] Oper.semAt_some

theorem ownS_at {w : World} {v : Value} {l : List ByteArray} (h : Own w 9 1 v l.length (kS l)) : ∃ a cap, v = .slice a l.length cap ∧ l.length ≤ cap ∧ cap ≤ maxLen ∧ ∀ i x, l[i]? = some x → ∃ g, a = some ⟨g, 0, none⟩ ∧ g < w.heap.size ∧ v.ownBlock = some g ∧ w.cell? ⟨g, i, none⟩ = some (.string x) := by
  rcases h.2 with ⟨hv, h0⟩ | ⟨g, cap, cur, hv, _, hg, h1, h2, h3, h4⟩
  · have hL : l = [] := List.eq_nil_of_length_eq_zero h0
    subst hL
    exact ⟨none, 0, hv, Nat.le_refl _, by simp [maxLen], fun i x hx => by simp at hx⟩
  · subst hv
    refine ⟨_, cap, rfl, h1, h2, fun i x hx => ⟨g, rfl, blkLt hg, rfl, ?_⟩⟩
    have hc := h.cells (g := g) rfl i (.string x) (by unfold kS; rw [List.getElem?_map, hx]; rfl)
    rwa [show (⟨g, 0, none⟩ : Addr).add i = ⟨g, i, none⟩ by unfold Addr.add; split <;> simp_all] at hc
theorem beq_len (a b : Nat) (h : a ≠ b) : ((a : Int) == (b : Int)) = false := beq_false_of_ne (by omega)
end Go.Proofs.YtmdfickejpeofaaGreat

/- take at an index's own iterators; rows that a literal lays. -/
set_option linter.unusedVariables false
set_option linter.unusedSimpArgs false
namespace Go.Proofs.YtmdfickejpeofaaGreat
open Go.RowKit Go.Shelf

theorem own_lit (w : World) (t : TypeId) (K n : Nat) (xs : List Value) (hx : xs.length = n * K) (hn : n ≤ 100000) : Own (w.alloc (.cells xs.toArray t)) t K (.slice (some ⟨w.heap.size, 0, none⟩) n n) n xs :=
  Own.ofParts (blkNew w _) (Nat.le_refl _) (by unfold maxLen; omega) (by simpa using hx) (by rw [List.take_of_length_le (by rw [← hx]; exact Nat.le_refl _)])
end Go.Proofs.YtmdfickejpeofaaGreat

/- keydir: valid, Find, the iterator of Live. -/
set_option linter.unusedVariables false
set_option linter.unusedSimpArgs false
namespace Go.Proofs.YtmdfickejpeofaaGreat
open Go.RowKit Go.Shelf
attribute [local go_sem] OvM cell_ovm obj_ovm
attribute [local go_sem] Oper.semAt_some

def findE (X : IX) (k : ByteArray) : Option En := match X.of k with | [] => none | e :: _ => if e.del = true then none else some e
def codeX (X : IX) : Int := if X.slots = [] then 1 else 0
def findV (X : IX) (k : ByteArray) : Value := .tuple #[enV ((findE X k).getD zE), .bool (findE X k).isSome, .int .i64 (codeX X)]
def lvF (X : IX) (l : List ByteArray) : List (ByteArray × En) := l.filterMap fun k => (findE X k).map fun e => (k, e)
def liveL (X : IX) : List (ByteArray × En) := lvF X X.ks
theorem lvF_none {X : IX} {l : List ByteArray} {k : ByteArray} (h : findE X k = none) : lvF X (l ++ [k]) = lvF X l := by simp [lvF, h]
theorem lvF_some {X : IX} {l : List ByteArray} {k : ByteArray} {e : En} (h : findE X k = some e) : lvF X (l ++ [k]) = lvF X l ++ [(k, e)] := by simp [lvF, h]
theorem lvF_pre {X : IX} {l m : List ByteArray} (h : l <+: m) : lvF X l <+: lvF X m := by
  obtain ⟨t, rfl⟩ := h
  exact ⟨lvF X t, by simp [lvF]⟩
theorem of_noslots {X : IX} (h : X.Wf) (h0 : X.slots = []) (k : ByteArray) : X.of k = [] := by unfold IX.of; rw [h.z h0]; rfl
set_option maxRecDepth 40000 in
theorem valid_any {w : World} {p : Option Addr} {X : IX} {S : Nat → Prop} (h : IXP w p X S) : Calls Tryz.prog 73 #[.pointer p] w fun e w' => e = .returned (.bool (decide (X.slots ≠ []))) ∧ w = w' := by
  have HS := Lib.hid (Slots_any h)
  obtain ⟨n, hn⟩ : ∃ n, n = X.slots.length := ⟨_, rfl⟩
  have HB : Hid (decide (X.slots ≠ []) = decide (0 < n)) := Lib.hid (by rw [hn, decide_eq_decide]; exact ⟨fun h => List.length_pos_iff.2 h, fun h => List.length_pos_iff.1 h⟩)
  rw [← hn] at HS
  clear h hn
  by_cases h0 : 0 < n
  · have h0' : (0 : Int) < n := by omega
    have HR : Hid (decide (X.slots ≠ []) = true) := Lib.hid (by rw [HB.out]; exact decide_eq_true h0)
    go_enter Tryz.func73, Tryz.ntmps73
    go_wp2_with (go_at_call 105; refine Calls.mono HS.out ?_; rintro e w1 ⟨rfl, rfl⟩)
    go_ret
    exact ⟨ret_bool HR.out.symm, rfl⟩
  · have h0' : ¬ (0 : Int) < n := by omega
    have HR : Hid (decide (X.slots ≠ []) = false) := Lib.hid (by rw [HB.out]; exact decide_eq_false h0)
    go_enter Tryz.func73, Tryz.ntmps73
    go_wp2_with (go_at_call 105; refine Calls.mono HS.out ?_; rintro e w1 ⟨rfl, rfl⟩)
    go_ret
    exact ⟨ret_bool HR.out.symm, rfl⟩
set_option maxRecDepth 40000 in
set_option maxHeartbeats 2000000 in
theorem Find_any {w : World} {p : Option Addr} {X : IX} {S : Nat → Prop} (h : IXP w p X S) (k : ByteArray) : Calls Tryz.prog 20 #[.pointer p, .string k] w fun e w' => e = .returned (findV X k) ∧ Gr w w' := by
  have H := Lib.hid h
  have HV : Hid (findV X k = .tuple #[enV ((findE X k).getD zE), .bool (findE X k).isSome, .int .i64 (codeX X)]) := Lib.hid rfl
  have HE : Hid (findE X k = match X.of k with | [] => none | e :: _ => if e.del = true then none else some e) := Lib.hid rfl
  have HNE := Lib.hid (of_noslots h.ok)
  clear h
  go_enter Tryz.func20, Tryz.ntmps20
  by_cases h0 : X.slots = []
  · have HR : Hid (findV X k = .tuple #[enV zE, .bool false, .int .i64 1]) := Lib.hid (by rw [HV.out, HE.out, HNE.out h0 k, show codeX X = 1 from if_pos h0]; rfl)
    have HD : Hid (decide (X.slots ≠ []) = false) := Lib.hid (decide_eq_false (fun h => h h0))
    clear h0
    go_wp2_with (go_at_call 73; refine (valid_any (H.out.gr ((Gr.refl _).alloc _))).mono ?_; rintro e w1 ⟨rfl, rfl⟩; rw [HD.out])
    refine bodyPost_ret (v := .tuple #[enV zE, .bool false, .int .i64 1]) ?_ rfl ⟨by rw [HR.out], by (repeat (first | (with_reducible exact Gr.refl _) | assumption | (with_reducible apply Gr.from_drew) | (with_reducible apply Gr.alloc) | (with_reducible apply Gr.drew) | (with_reducible refine Gr.trans ?_ (by assumption)) | (with_reducible refine Gr.setCell ?_ (by omega) _)))⟩
    simp [results, Tryz.results20, go_sem, enV, zE]
  · have HC : Hid (codeX X = 0) := Lib.hid (if_neg h0)
    have HD : Hid (decide (X.slots ≠ []) = true) := Lib.hid (decide_eq_true h0)
    clear h0
    go_wp2_with (first
      | (go_at_call 73; refine (valid_any (H.out.gr ((Gr.refl _).alloc _))).mono ?_; rintro e w1 ⟨rfl, rfl⟩; rw [HD.out])
      | fail)
    refine (Newest_any (H.out.gr ((Gr.refl _).alloc _)) k).mono ?_
    rintro e w2 ⟨rfl, hg⟩
    obtain ⟨b4, hb4⟩ : ∃ q, q = w.heap.size := ⟨_, rfl⟩
    have H2 : Hid (Gr w w2 ∧ w2.heap[b4]? = some (.cells #[.int .i64 0, .string ⟨#[]⟩, .bool false, .int .i64 0, .int .i64 0, .int .i64 0] 56) ∧ w.heap.size ≤ b4) := Lib.hid ⟨((Gr.refl w).alloc _).trans hg, by rw [hb4]; exact hg.blk (blkNew w _), by omega⟩
    obtain ⟨c4, f4⟩ := cellsOf H2.out.2.1
    have l4 := blkLt H2.out.2.1
    rw [← hb4]
    clear hg hb4
    cases ho : X.of k with
    | nil =>
      have HR : Hid (findV X k = .tuple #[enV zE, .bool false, .int .i64 0]) := Lib.hid (by rw [HV.out, HE.out, ho, HC.out]; rfl)
      clear ho
      simp only [newV, enV, zE]
      go_wp2_with fail
      refine bodyPost_ret (v := .tuple #[enV zE, .bool false, .int .i64 0]) ?_ rfl ⟨by rw [HR.out], ?_⟩
      · have h1 := blk6 (y0 := .int .i64 0) (y1 := .string ⟨#[]⟩) (y2 := .bool false) (y3 := .int .i64 0) (y4 := .int .i64 0) (y5 := .int .i64 0) H2.out.2.1
        have h2 := blkOld (o' := .cells #[.int .i64 0, .string ⟨#[]⟩, .bool false, .int .i64 0, .int .i64 0, .int .i64 0] 56) h1
        have d4 := (cellsOf h2).1
        simp [results, Tryz.results20, go_sem, d4, enV, zE]
      · have hn := H2.out.2.2
        exact (((((((H2.out.1.setCell (p := ⟨b4, 0, none⟩) hn _).setCell (p := ⟨b4, 1, none⟩) hn _).setCell (p := ⟨b4, 2, none⟩) hn _).setCell (p := ⟨b4, 3, none⟩) hn _).setCell (p := ⟨b4, 4, none⟩) hn _).setCell (p := ⟨b4, 5, none⟩) hn _).alloc _)
    | cons x l =>
      simp only [newV, enV]
      cases hd : x.del with
      | true =>
        have HR : Hid (findV X k = .tuple #[enV zE, .bool false, .int .i64 0]) := Lib.hid (by rw [HV.out, HE.out, ho, HC.out]; simp [hd])
        clear ho hd
        go_wp2_with fail
        refine bodyPost_ret (v := .tuple #[enV zE, .bool false, .int .i64 0]) ?_ rfl ⟨by rw [HR.out], ?_⟩
        · have h1 := blk6 (y0 := .int .i64 0) (y1 := .string ⟨#[]⟩) (y2 := .bool false) (y3 := .int .i64 0) (y4 := .int .i64 0) (y5 := .int .i64 0) H2.out.2.1
          have h2 := blkOld (o' := .cells #[.int .i64 x.seq, .string x.key, .bool true, .int .i64 x.slot, .int .i64 x.off, .int .i64 x.size] 56) h1
          have d4 := (cellsOf h2).1
          simp [results, Tryz.results20, go_sem, d4, enV, zE]
        · have hn := H2.out.2.2
          exact (((((((H2.out.1.setCell (p := ⟨b4, 0, none⟩) hn _).setCell (p := ⟨b4, 1, none⟩) hn _).setCell (p := ⟨b4, 2, none⟩) hn _).setCell (p := ⟨b4, 3, none⟩) hn _).setCell (p := ⟨b4, 4, none⟩) hn _).setCell (p := ⟨b4, 5, none⟩) hn _).alloc _)
      | false =>
        have HR : Hid (findV X k = .tuple #[enV x, .bool true, .int .i64 0]) := Lib.hid (by rw [HV.out, HE.out, ho, HC.out]; simp [hd])
        have HDX := Lib.hid hd
        clear ho hd
        go_wp2_with fail
        refine bodyPost_ret (v := .tuple #[enV x, .bool true, .int .i64 0]) ?_ rfl ⟨by rw [HR.out], ?_⟩
        · have h1 := blk6 (y0 := .int .i64 x.seq) (y1 := .string x.key) (y2 := .bool false) (y3 := .int .i64 x.slot) (y4 := .int .i64 x.off) (y5 := .int .i64 x.size) H2.out.2.1
          have h2 := blkOld (o' := .cells #[.int .i64 x.seq, .string x.key, .bool false, .int .i64 x.slot, .int .i64 x.off, .int .i64 x.size] 56) h1
          have d4 := (cellsOf h2).1
          simp [results, Tryz.results20, go_sem, d4, enV, HDX.out]
        · have hn := H2.out.2.2
          exact (((((((H2.out.1.setCell (p := ⟨b4, 0, none⟩) hn _).setCell (p := ⟨b4, 1, none⟩) hn _).setCell (p := ⟨b4, 2, none⟩) hn _).setCell (p := ⟨b4, 3, none⟩) hn _).setCell (p := ⟨b4, 4, none⟩) hn _).setCell (p := ⟨b4, 5, none⟩) hn _).alloc _)
/-- Blocks that stay as they were, beside an iterator's own, which are new. -/
structure KeptA (w0 : World) (A : Nat → Prop) (n : Nat) (Z : Nat → Prop) (X : World) : Prop where
  m : Mdh (fun k => ¬ A k) w0 X
  z : ∀ k, Z k → n ≤ k
  s : n ≤ X.heap.size
theorem KeptA.apart {β : Type} (w0 : World) (A : Nat → Prop) {n : Nat} (hA : ∀ k, A k → k < n) : Apart (fun Z (_ : β) X => KeptA w0 A n Z X) := fun Z Z' _ X Y h hm hz =>
  ⟨h.m.trans (hm.mono (fun k hk ha => by have := h.z k hk; have := hA k ha; omega)), fun k hk => (hz k hk).elim (h.z k) (fun y => Nat.le_trans h.s y.1), Nat.le_trans h.s hm.size⟩
def encKE (x : ByteArray × En) : Array Value := #[.string x.1, enV x.2]
set_option maxRecDepth 40000 in
set_option maxHeartbeats 4000000 in
theorem SeqLive {w : World} {p : Option Addr} {X : IX} {S : Nat → Prop} (h : IXP w p X S) (bb : Nat) (hbb : w.cell? ⟨bb, 0, none⟩ = some (.pointer p)) :
    SeqZ Fence.wide 2 Tryz.prog 129 #[.pointer (some ⟨bb, 0, none⟩)] encKE (fun q => q = bb ∨ S q) (fun xs => xs = liveL X) (fun pre => pre <+: liveL X) w := by
  intro l J Jx W hW hJ hJx hY h0
  have hbW : W.cell? ⟨bb, 0, none⟩ = some (.pointer p) := hW.keep hbb (fun h => h (.inl rfl))
  have lbb : bb < W.heap.size := World.block_lt_of_cell? W ⟨bb, 0, none⟩ hbW
  have HI : Hid (IXP W p X S) := Lib.hid (h.mdh hW (fun q hq hn => hn (.inr hq)))
  have HBB := Lib.hid hbW
  have HLB := Lib.hid lbb
  have HY := Lib.hid hY
  have H0 := Lib.hid h0
  have HJ := Lib.hid hJ
  have HJx := Lib.hid hJx
  have HLV : Hid (liveL X = lvF X X.ks) := Lib.hid rfl
  clear hY h0 hW h hbb hJ hJx
  refine callsIn_wide.2 (calls_of_wp_marks Tryz.func129 rfl ?_)
  simp only [Tryz.ntmps129, List.size_toArray, List.length_cons, List.length_nil, Nat.reduceAdd, Nat.reduceSub, Array.replicate_succ, Array.replicate_zero, List.push_toArray, List.append_toArray, List.nil_append, List.cons_append]
  go_wp2_with fail
  obtain ⟨b0, hb0⟩ : ∃ q, q = W.heap.size := ⟨_, rfl⟩
  refine (Keys_any p _).mono ?_
  rintro e w2 ⟨b2, rfl, c2, hlt, hg⟩
  have HG2 := Lib.hid (((Gr.refl W).alloc (.cells #[.func (.yield l) #[] #[]] 179)).trans hg)
  have HBY : Hid (w2.heap[b0]? = some (.cells #[.func (.yield l) #[] #[]] 179)) := Lib.hid (by rw [hb0]; exact hg.blk (blkNew W _))
  have HSQ := Lib.hid (SeqKeysP (HI.out.gr HG2.out) b2 c2)
  have HL2 : Hid (b0 < b2 ∧ b2 < w2.heap.size ∧ b0 = W.heap.size) := Lib.hid (by
    have l2 := World.block_lt_of_cell? w2 ⟨b2, 0, none⟩ c2
    rw [World.size_alloc] at hlt
    exact ⟨by omega, l2, hb0⟩)
  have HFF : Hid (∀ k, (k = b2 ∨ S k) → k < w2.heap.size) := Lib.hid (fun k hk => hk.elim (fun e => by rw [e]; exact HL2.out.2.1) (fun e => by have := HI.out.lt k e; have := HL2.out; omega))
  have HAA : Hid (∀ k, (k = bb ∨ S k) → k < w2.heap.size) := Lib.hid (fun k hk => hk.elim (fun e => by rw [e]; have := HLB.out; have := HL2.out; omega) (fun e => by have := HI.out.lt k e; have := HL2.out; omega))
  rw [← hb0]
  clear hg hlt c2 hb0 hbW lbb
  go_wp2_with fail
  apply wp_rangeFunc_zb (gf := 177) (lb := #[.pointer (some ⟨b2, 0, none⟩)]) rfl (enters_of Tryz.func177 (by kernel_rfl) rfl) HSQ.out (Mdh.refl _ w2) HFF.out (fun _ => rfl)
    (fun Z pre X' => plusS (fun q => q = b0 ∨ q = b2) J Z (lvF X pre) X' ∧ (X'.heap[b0]? = some (.cells #[.func (.yield l) #[] #[]] 179) ∧ ¬ Z b0) ∧ KeptA W (fun k => k = bb ∨ S k) w2.heap.size Z X')
    (fun _ _ _ => False)
    (fun Z pre X' => plusS (fun q => q = b0 ∨ q = b2) Jx Z (lvF X pre) X')
    (((plusS_apart _ HJ.out).map _).and ((Apart.block b0 (fun _ => _)).and (KeptA.apart _ _ HAA.out))) apart_no ((plusS_apart _ HJx.out).map _)
    ⟨HJ.out _ _ _ _ _ H0.out (HG2.out.mdh _) (fun k hk => hk.elim .inl (fun e => .inr (by have := HL2.out; omega))), ⟨HBY.out, fun h => h⟩, HG2.out.mdh _, fun k hk => hk.elim, Nat.le_refl _⟩
    _ ?assign ?body ?hend ?hret
  case assign =>
    intro l' x X' K hK
    dsimp only [encK]
    gi_wp2
    exact hK
  case body =>
    intro l' Z pre x X' hI hsp
    obtain ⟨hj, ⟨hby, hzy⟩, hk⟩ := hI
    have HK := Lib.hid hk
    have HBY' := Lib.hid hby
    have HJI := Lib.hid hj
    have HZY := Lib.hid hzy
    have HIX : Hid (IXP X' p X S) := Lib.hid (HI.out.mdh hk.m (fun q hq hn => hn (.inr hq)))
    have hbX : X'.cell? ⟨bb, 0, none⟩ = some (.pointer p) := hk.m.keep HBB.out (fun h => h (.inl rfl))
    have HSP := Lib.hid hsp
    clear hj hby hzy hk hsp
    gi_wp2_with fail
    refine ⟨trivial, (CallsIn.inRound l' (callsIn_wide.2 (Find_any HIX.out x))).mono ?_⟩
    rintro e w9 ⟨rfl, hg9⟩
    cases hfe : findE X x with
    | none =>
      have HV : Hid (findV X x = .tuple #[enV zE, .bool false, .int .i64 (codeX X)]) := Lib.hid (by unfold findV; rw [hfe]; rfl)
      have HN := Lib.hid (lvF_none (l := pre) hfe)
      have HG9 := Lib.hid (hg9.alloc (.cells #[.int .i64 0, .string ⟨#[]⟩, .bool false, .int .i64 0, .int .i64 0, .int .i64 0] 56))
      rw [HV.out]
      simp only [enV, zE]
      clear hfe hg9 hbX
      gi_wp2_with fail
      refine ⟨fun _ h => (by cases h), ?_⟩
      gi_wp2_with fail
      refine ⟨HG9.out.mdh _, ?_, ⟨HG9.out.blk HBY'.out, HZY.out⟩, HK.out.m.trans (HG9.out.mdh _), HK.out.z, Nat.le_trans HK.out.s HG9.out.sz⟩
      show plusS _ _ _ _ _
      rw [HN.out]
      exact HJ.out _ _ _ _ _ HJI.out (HG9.out.mdh _) (fun k hk => .inl hk)
    | some y =>
      have HV : Hid (findV X x = .tuple #[enV y, .bool true, .int .i64 (codeX X)]) := Lib.hid (by unfold findV; rw [hfe]; rfl)
      have HN := Lib.hid (lvF_some (l := pre) hfe)
      have HG9 := Lib.hid (hg9.alloc (.cells #[.int .i64 y.seq, .string y.key, .bool y.del, .int .i64 y.slot, .int .i64 y.off, .int .i64 y.size] 56))
      have hpf : lvF X pre ++ [(x, y)] <+: liveL X := by rw [← HN.out, HLV.out]; exact lvF_pre HSP.out
      obtain ⟨fn, tmps, assign, body, hy, hR⟩ := yield_any 0 (HY.out _ _ (x, y) _ (HJ.out _ _ _ _ _ HJI.out (HG9.out.mdh _) (fun k hk => .inl hk)) hpf)
      have cy := (cellsOf (hg9.blk HBY'.out)).1
      have ly := blkLt (hg9.blk HBY'.out)
      rw [HV.out]
      simp only [encKE, enV] at hy
      simp only [enV]
      clear hfe hg9 hbX hpf
      gi_wp2_with fail
      refine hR.mono ?_
      rintro e W5 (⟨rfl, hj5, hm5⟩ | ⟨rfl, hjx5, hm5⟩)
      · have HJ5 := Lib.hid hj5
        have HM5 := Lib.hid hm5
        clear hj5 hm5 hR hy
        gi_wp2_with fail
        refine ⟨(HG9.out.mdh _).trans (HM5.out.mono (fun k hk => ⟨fun h => h.elim (fun e => hk.2 (.inr (.inr e))) (fun e => hk.1 (.inr e)), fun h => hk.2 (.inl h)⟩)), ?_, ⟨HM5.out.blk (HG9.out.blk HBY'.out) (fun h => h.2 (.inr (.inl rfl))), HZY.out⟩, (HK.out.m.trans (HG9.out.mdh _)).trans (HM5.out.mono (fun k hk => hk.1)), HK.out.z, Nat.le_trans HK.out.s (Nat.le_trans HG9.out.sz HM5.out.size)⟩
        show plusS _ _ _ _ _
        rw [HN.out]; exact HJ5.out
      · have HJ5 := Lib.hid hjx5
        have HM5 := Lib.hid hm5
        clear hjx5 hm5 hR hy
        gi_wp2_with fail
        refine ⟨(HG9.out.mdh _).trans (HM5.out.mono (fun k hk h => hk (.inl h))), ?_⟩
        show plusS _ _ _ _ _
        rw [HN.out]; exact HJ5.out
  case hend =>
    intro Z D xs W' hD hZD hcase hdef
    obtain ⟨hxs, hj, _⟩ := hcase.elim (fun h => h) (fun h => h.2.elim)
    dsimp only
    go_wp2_with fail
    refine retM1 (D := D) rfl hdef (results_none rfl _ _ _) ⟨⟨_, rfl⟩, .inl ⟨_, _, ?_, HJ.out _ _ _ _ _ hj ((Mdh.refl _ W').putObj (.inl hZD) _) (fun k hk => .inl hk)⟩⟩
    show lvF X xs = liveL X
    rw [show xs = X.ks from hxs, HLV.out]
  case hret =>
    intro Z D pre W' hD hZD hsp hj hdef
    dsimp only
    go_wp2_with fail
    refine retM1 (D := D) rfl hdef (results_none rfl _ _ _) ⟨⟨_, rfl⟩, .inr ⟨_, _, ?_, HJx.out _ _ _ _ _ hj ((Mdh.refl _ W').putObj (.inl hZD) _) (fun k hk => .inl hk)⟩⟩
    show lvF X pre <+: liveL X
    rw [HLV.out]
    exact lvF_pre hsp
set_option maxRecDepth 40000 in
theorem Live_any (p : Option Addr) (w : World) : Calls Tryz.prog 77 #[.pointer p] w fun e w' =>
    ∃ bb, e = .returned (.func (.func 129) #[] #[.pointer (some ⟨bb, 0, none⟩)]) ∧ w'.cell? ⟨bb, 0, none⟩ = some (.pointer p) ∧ w.heap.size ≤ bb ∧ Gr w w' := by
  go_enter Tryz.func77, Tryz.ntmps77
  go_wp2
  go_ret
  exact ⟨_, rfl, by simp [go_sem], Nat.le_refl _, by (repeat (first | (with_reducible exact Gr.refl _) | assumption | (with_reducible apply Gr.from_drew) | (with_reducible apply Gr.alloc) | (with_reducible apply Gr.drew) | (with_reducible refine Gr.trans ?_ (by assumption)) | (with_reducible refine Gr.setCell ?_ (by omega) _)))⟩
end Go.Proofs.YtmdfickejpeofaaGreat
