/- Contract of 'filled': a map after calls, and the Go map with the same pairs. -/
import Derived.Test.YtbhkigjmjmfbgaaOgm
set_option linter.unusedVariables false
set_option linter.unusedSimpArgs false
namespace Go.Proofs.Ytbhkigjmjmfbgaa
open Go.RowKit Go.Maps
attribute [local go_sem] OvM cell_ovm obj_ovm

abbrev Cl := Bool × Int × Int
def InB (x : Int) : Prop := -32768 ≤ x ∧ x ≤ 32767
/-- The calls lie in w. -/
def CallsAt (w : World) (a : Option Addr) (l : List Cl) : Prop :=
  ∀ i, i < l.length → ∃ b off, a = some ⟨b, off, none⟩ ∧ b < w.heap.size ∧ w.cell? ⟨b, off + i * 3, none⟩ = some (.bool (l[i]?.getD (false, 0, 0)).1) ∧
    w.cell? ⟨b, off + i * 3 + 1, none⟩ = some (.int .i16 (l[i]?.getD (false, 0, 0)).2.1) ∧ w.cell? ⟨b, off + i * 3 + 2, none⟩ = some (.int .i16 (l[i]?.getD (false, 0, 0)).2.2) ∧
    InB (l[i]?.getD (false, 0, 0)).2.1 ∧ InB (l[i]?.getD (false, 0, 0)).2.2
theorem lookV_getD (L : List Itii) (k : Int) : lookVii L k = .int .i64 ((look ltZ L k).getD 0) := by unfold lookVii; cases look ltZ L k <;> rfl
theorem put_all {L : List Itii} (s : Srt ltZ L) {p : Itii → Prop} (h : ∀ x ∈ L, p x) (k v : Int) (hk : p (k, v)) : ∀ x ∈ putL ltZ L k v, p x := fun x hx =>
  ((put_mem ordZ s k v x).1 hx).elim (fun e => e ▸ hk) (fun h' => h x h'.1)
theorem del_all {L : List Itii} (s : Srt ltZ L) {p : Itii → Prop} (h : ∀ x ∈ L, p x) (k : Int) : ∀ x ∈ delL ltZ L k, p x := fun x hx => h x ((del_mem ordZ s k x).1 hx).1

/-- The map b and the Go map bw hold L. -/
structure FS (w wx : World) (b : Nat) (v : Value) (bw n : Nat) (L : List Itii) : Prop where
  om : OMii wx b v L
  gm : GM wx bw n L
  bnd : ∀ x ∈ L, InB x.1 ∧ InB x.2
  nb : w.heap.size ≤ b
  nv : ∀ g, v.ownBlock = some g → w.heap.size ≤ g
  nw : w.heap.size ≤ bw
  g : Gr w wx
section
variable {w u u' u2 : World} {b bw n : Nat} {v : Value} {L L' : List Itii}
theorem FS.gr (h : FS w u b v bw n L) (g : Gr u u') : FS w u' b v bw n L := ⟨h.om.gr g, h.gm.gr g, h.bnd, h.nb, h.nv, h.nw, h.g.trans g⟩
theorem FS.ne (h : FS w u b v bw n L) : bw ≠ b ∧ v.ownBlock ≠ some bw := ⟨h.gm.ne h.om.blk, h.gm.nown h.om.own⟩
/-- Behind a call on the map. -/
theorem FS.call (h : FS w u b v bw n L) (hp : OMPostii b v L' u u') : ∃ v', OMii u' b v' L' ∧ GM u' bw n L ∧ (∀ g, v'.ownBlock = some g → w.heap.size ≤ g) ∧ Gr w u' ∧ bw ≠ b ∧ v'.ownBlock ≠ some bw := by
  obtain ⟨v', h1, h2, h3⟩ := hp
  have hn := h.ne
  have hg : GM u' bw n L := h.gm.mdh h3 (fun hk => hk.elim hn.1 hn.2)
  exact ⟨v', h1, hg, fun g hg => (h2 g hg).elim (h.nv g) (Nat.le_trans h.g.sz), h.g.md h3 (fun k hk => hk.elim (fun e => e ▸ h.nb) (h.nv k)), hn.1, hg.nown h1.own⟩
end
theorem FS.fin {w u' u2 : World} {b bw n : Nat} {v : Value} {L : List Itii} (h1 : OMii u' b v L) (hnv : ∀ g, v.ownBlock = some g → w.heap.size ≤ g) (hg : Gr w u') (hne1 : bw ≠ b) (hne2 : v.ownBlock ≠ some bw) (hnb : w.heap.size ≤ b) (hnw : w.heap.size ≤ bw)
    (hb : ∀ x ∈ L, InB x.1 ∧ InB x.2) (gm : GM u2 bw n L) (m : Mdh (fun q => q = bw) u' u2) : FS w u2 b v bw n L :=
  ⟨h1.mdh m (fun k hk e => by subst e; exact hk.elim hne1 hne2), gm, hb, hnb, hnv, hnw, hg.md m (fun k hk => hk ▸ hnw)⟩
def FillPost (w : World) (e : Ending) (w' : World) : Prop := ∃ b v bw n L, e = .returned (.tuple #[.pointer (some ⟨b, 0, none⟩), .map (some bw), .bool true]) ∧ FS w w' b v bw n L ∧ n ≤ 100

set_option maxRecDepth 40000 in
set_option maxHeartbeats 8000000 in
theorem filled_any (a : Option Addr) (len cap : Nat) (l : List Cl) (w : World) (hl : l.length = len) (hle : len ≤ cap) (hcap : cap ≤ maxLen) (hs : CallsAt w a l) :
    Calls Try.prog 10 #[.slice a len cap] w (FillPost w) := by
  have hmm := @run_makeMap Try.prog
  have HS := Lib.hid hs
  have HL := Lib.hid hl
  unfold maxLen at hcap
  clear hs hl
  go_enter Try.func10, Try.ntmps10
  go_wp2_with fail
  refine (NewOii w).mono ?_
  rintro e w1 ⟨rfl, hom, hg1⟩
  obtain ⟨b0, hb0⟩ : ∃ b, b = w.heap.size := ⟨_, rfl⟩
  have H0 : Hid (FS w (w1.alloc (.map #[] 0)) b0 (.slice none 0 0) w1.heap.size 0 []) := Lib.hid ⟨(by rw [hb0]; exact hom.gr ((Gr.refl _).alloc _)), GM.made w1, fun x hx => (by cases hx), by omega, fun g hg => (by cases hg), by have := hg1.sz; omega, hg1.alloc _⟩
  have HB := Lib.hid hb0
  clear hom hg1 hb0
  rw [← HB.out]
  by_cases h100 : (100 : Int) < len
  · go_wp2
    try rw [show (max (100 : Int) 0) = 100 from rfl]
    go_loopw [26] (fun t26 wx => ∃ (j : Nat) (v : Value) (L : List Itii), j ≤ 100 ∧ t26 = .int .i64 j ∧ Hid (FS w wx b0 v w1.heap.size j L)) (fun t26 _ => 100 - (intOf t26).toNat)
    case atStart => exact ⟨0, _, [], by omega, rfl, H0⟩
    case round =>
      obtain ⟨j, v, L, hj, rfl, H⟩ := hrel
      clear H0
      by_cases hlt : j < 100
      · have hlt' : (j : Int) < 100 := by omega
        obtain ⟨gs, off, rfl, hgs, c0, c1, c2, hk, hv⟩ := HS.out j (by rw [HL.out]; omega)
        have e0 := H.out.g.keep c0
        have e1 := H.out.g.keep c1
        have e2 := H.out.g.keep c2
        generalize l[j]?.getD (false, 0, 0) = x at *
        obtain ⟨d, K, V⟩ := x
        simp only at e0 e1 e2 hk hv
        have HKV := Lib.hid (And.intro hk hv)
        obtain ⟨k1, k2⟩ := hk
        obtain ⟨v1, v2⟩ := hv
        clear c0 c1 c2 hgs
        have hLn := H.out.gm.len_le
        obtain ⟨X, hX⟩ : ∃ X, (look ltZ L K).getD 0 = X := ⟨_, rfl⟩
        obtain ⟨B, hB⟩ : ∃ B, (look ltZ L K).isSome = B := ⟨_, rfl⟩
        have F1 := Lib.hid hX
        have F2 := Lib.hid hB
        have F3 : Hid (lookVii L K = .int .i64 X) := Lib.hid (by rw [lookV_getD, hX])
        have F4 : Hid (hasBii L K = B) := Lib.hid hB
        clear hX hB
        cases d
        all_goals
          go_wp2_with fail
        · -- Set
          obtain ⟨u, hu⟩ : ∃ u, u = wr.alloc (.cells #[.bool false, .int .i16 K, .int .i16 V] 86) := ⟨_, rfl⟩
          have xb : u.heap[wr.heap.size]? = some (.cells #[.bool false, .int .i16 K, .int .i16 V] 86) := by rw [hu]; exact blkNew _ _
          rw [← hu]
          have HU : Hid (FS w u b0 v w1.heap.size j L) := Lib.hid (by rw [hu]; exact H.out.gr ((Gr.refl _).alloc _))
          have y0 := ((cellsOf xb).1 0).trans (show _ = some (Value.bool false) from rfl)
          have y1 := ((cellsOf xb).1 1).trans (show _ = some (Value.int .i16 K) from rfl)
          have y2 := ((cellsOf xb).1 2).trans (show _ = some (Value.int .i16 V) from rfl)
          clear hu e0 e1 e2 H xb
          generalize wr.heap.size = bx at *
          refine wp_region_flo (fun _ => False) [] [] (by kernel_rfl) (by kernel_rfl) (fun _ h => h.elim) ?_
          refine flo_seg 8 rfl ?_
          simp only [List.take_succ_cons, List.take_zero, List.drop_succ_cons, List.drop_zero]
          repeat (go_big_quiet_step (fail))
          refine wpQuiet_nil ?_
          refine flo_nil ?_
          replace HU := Lib.hid (HU.out.gr (Gr.drew (Gr.refl _)))
          go_wp2_with (first
            | (at_lookup; refine wpList_gm_look _ rfl (.tmp 37) (.tmp 38) rfl w1.heap.size j L rfl HU.out.gm K rfl (WalkArith.wf_i64 (by omega)) ?_; rw [F1.out, F2.out])
            | fail)
          refine (Setii b0 v L K V _ HU.out.om (by omega)).mono ?_
          rintro e w3 ⟨rfl, hp⟩
          rw [F3.out, F4.out]
          obtain ⟨v', hom', hgm', hnv', hg', hne1, hne2⟩ := HU.out.call hp
          have H3 := Lib.hid (And.intro hom' (And.intro hgm' (And.intro hnv' (And.intro hg' (And.intro hne1 hne2)))))
          clear hp hom' hgm' hnv' hg' hne1 hne2
          go_wp2_with (first
            | (at_mapUpdate; refine wpList_gm_set _ rfl (.tmp 80) (.tmp 81) (.tmp 82) rfl w1.heap.size j L rfl H3.out.2.1 (by omega) K V rfl rfl (WalkArith.wf_i64 (by omega)) (WalkArith.wf_i64 (by omega)) ?_; intro w5 hgm5 hmd5; have H5 := Lib.hid (And.intro hgm5 hmd5); clear hgm5 hmd5)
            | fail)
          go_roundw
          case rel => exact ⟨j + 1, v', putL ltZ L K V, by omega, by go_num, Lib.hid (FS.fin H3.out.1 H3.out.2.2.1 H3.out.2.2.2.1 H3.out.2.2.2.2.1 H3.out.2.2.2.2.2 HU.out.nb HU.out.nw (put_all HU.out.om.srt HU.out.bnd K V ⟨HKV.out.1, HKV.out.2⟩) (GM.mono H5.out.1 (by omega)) H5.out.2)⟩
          case measure => simp [intOf]; omega
        · -- Delete
          obtain ⟨u, hu⟩ : ∃ u, u = wr.alloc (.cells #[.bool true, .int .i16 K, .int .i16 V] 86) := ⟨_, rfl⟩
          have xb : u.heap[wr.heap.size]? = some (.cells #[.bool true, .int .i16 K, .int .i16 V] 86) := by rw [hu]; exact blkNew _ _
          rw [← hu]
          have HU : Hid (FS w u b0 v w1.heap.size j L) := Lib.hid (by rw [hu]; exact H.out.gr ((Gr.refl _).alloc _))
          have y0 := ((cellsOf xb).1 0).trans (show _ = some (Value.bool true) from rfl)
          have y1 := ((cellsOf xb).1 1).trans (show _ = some (Value.int .i16 K) from rfl)
          have y2 := ((cellsOf xb).1 2).trans (show _ = some (Value.int .i16 V) from rfl)
          clear hu e0 e1 e2 H xb
          generalize wr.heap.size = bx at *
          refine wp_region_flo (fun _ => False) [] [] (by kernel_rfl) (by kernel_rfl) (fun _ h => h.elim) ?_
          refine flo_seg 8 rfl ?_
          simp only [List.take_succ_cons, List.take_zero, List.drop_succ_cons, List.drop_zero]
          repeat (go_big_quiet_step (fail))
          refine wpQuiet_nil ?_
          refine flo_nil ?_
          replace HU := Lib.hid (HU.out.gr (Gr.drew (Gr.refl _)))
          go_wp2_with (first
            | (at_lookup; refine wpList_gm_look _ rfl (.tmp 37) (.tmp 38) rfl w1.heap.size j L rfl HU.out.gm K rfl (WalkArith.wf_i64 (by omega)) ?_; rw [F1.out, F2.out])
            | fail)
          refine (DeleteOii b0 v L K _ HU.out.om (by omega)).mono ?_
          rintro e w3 ⟨rfl, hp⟩
          rw [F3.out, F4.out]
          obtain ⟨v', hom', hgm', hnv', hg', hne1, hne2⟩ := HU.out.call hp
          have H3 := Lib.hid (And.intro hom' (And.intro hgm' (And.intro hnv' (And.intro hg' (And.intro hne1 hne2)))))
          clear hp hom' hgm' hnv' hg' hne1 hne2
          go_wp2_with (first
            | (at_delete; refine wpList_gm_del _ rfl (.tmp 58) (.tmp 59) rfl w1.heap.size j L rfl H3.out.2.1 K rfl (WalkArith.wf_i64 (by omega)) ?_; intro w5 hgm5 hmd5; have H5 := Lib.hid (And.intro hgm5 hmd5); clear hgm5 hmd5)
            | fail)
          go_roundw
          case rel => exact ⟨j + 1, v', delL ltZ L K, by omega, by go_num, Lib.hid (FS.fin H3.out.1 H3.out.2.2.1 H3.out.2.2.2.1 H3.out.2.2.2.2.1 H3.out.2.2.2.2.2 HU.out.nb HU.out.nw (del_all HU.out.om.srt HU.out.bnd K) (GM.mono H5.out.1 (by omega)) H5.out.2)⟩
          case measure => simp [intOf]; omega
      · have hlt' : ¬ (j : Int) < 100 := by omega
        go_wp2
        first
          | done
          | (go_ret3; exact ⟨b0, v, _, j, L, rfl, H.out, by omega⟩)
  · have h100' : (len : Int) ≤ 100 := by omega
    go_wp2_with fail

    go_loopw [26] (fun t26 wx => ∃ (j : Nat) (v : Value) (L : List Itii), j ≤ len ∧ t26 = .int .i64 j ∧ Hid (FS w wx b0 v w1.heap.size j L)) (fun t26 _ => len - (intOf t26).toNat)
    case atStart => exact ⟨0, _, [], by omega, rfl, H0⟩
    case round =>
      obtain ⟨j, v, L, hj, rfl, H⟩ := hrel
      clear H0
      by_cases hlt : j < len
      · have hlt' : (j : Int) < len := by omega
        obtain ⟨gs, off, rfl, hgs, c0, c1, c2, hk, hv⟩ := HS.out j (by rw [HL.out]; omega)
        have e0 := H.out.g.keep c0
        have e1 := H.out.g.keep c1
        have e2 := H.out.g.keep c2
        generalize l[j]?.getD (false, 0, 0) = x at *
        obtain ⟨d, K, V⟩ := x
        simp only at e0 e1 e2 hk hv
        have HKV := Lib.hid (And.intro hk hv)
        obtain ⟨k1, k2⟩ := hk
        obtain ⟨v1, v2⟩ := hv
        clear c0 c1 c2 hgs
        have hLn := H.out.gm.len_le
        obtain ⟨X, hX⟩ : ∃ X, (look ltZ L K).getD 0 = X := ⟨_, rfl⟩
        obtain ⟨B, hB⟩ : ∃ B, (look ltZ L K).isSome = B := ⟨_, rfl⟩
        have F1 := Lib.hid hX
        have F2 := Lib.hid hB
        have F3 : Hid (lookVii L K = .int .i64 X) := Lib.hid (by rw [lookV_getD, hX])
        have F4 : Hid (hasBii L K = B) := Lib.hid hB
        clear hX hB
        cases d
        all_goals
          go_wp2_with fail
        · -- Set
          obtain ⟨u, hu⟩ : ∃ u, u = wr.alloc (.cells #[.bool false, .int .i16 K, .int .i16 V] 86) := ⟨_, rfl⟩
          have xb : u.heap[wr.heap.size]? = some (.cells #[.bool false, .int .i16 K, .int .i16 V] 86) := by rw [hu]; exact blkNew _ _
          rw [← hu]
          have HU : Hid (FS w u b0 v w1.heap.size j L) := Lib.hid (by rw [hu]; exact H.out.gr ((Gr.refl _).alloc _))
          have y0 := ((cellsOf xb).1 0).trans (show _ = some (Value.bool false) from rfl)
          have y1 := ((cellsOf xb).1 1).trans (show _ = some (Value.int .i16 K) from rfl)
          have y2 := ((cellsOf xb).1 2).trans (show _ = some (Value.int .i16 V) from rfl)
          clear hu e0 e1 e2 H xb
          generalize wr.heap.size = bx at *
          refine wp_region_flo (fun _ => False) [] [] (by kernel_rfl) (by kernel_rfl) (fun _ h => h.elim) ?_
          refine flo_seg 8 rfl ?_
          simp only [List.take_succ_cons, List.take_zero, List.drop_succ_cons, List.drop_zero]
          repeat (go_big_quiet_step (fail))
          refine wpQuiet_nil ?_
          refine flo_nil ?_
          replace HU := Lib.hid (HU.out.gr (Gr.drew (Gr.refl _)))
          go_wp2_with (first
            | (at_lookup; refine wpList_gm_look _ rfl (.tmp 37) (.tmp 38) rfl w1.heap.size j L rfl HU.out.gm K rfl (WalkArith.wf_i64 (by omega)) ?_; rw [F1.out, F2.out])
            | fail)
          refine (Setii b0 v L K V _ HU.out.om (by omega)).mono ?_
          rintro e w3 ⟨rfl, hp⟩
          rw [F3.out, F4.out]
          obtain ⟨v', hom', hgm', hnv', hg', hne1, hne2⟩ := HU.out.call hp
          have H3 := Lib.hid (And.intro hom' (And.intro hgm' (And.intro hnv' (And.intro hg' (And.intro hne1 hne2)))))
          clear hp hom' hgm' hnv' hg' hne1 hne2
          go_wp2_with (first
            | (at_mapUpdate; refine wpList_gm_set _ rfl (.tmp 80) (.tmp 81) (.tmp 82) rfl w1.heap.size j L rfl H3.out.2.1 (by omega) K V rfl rfl (WalkArith.wf_i64 (by omega)) (WalkArith.wf_i64 (by omega)) ?_; intro w5 hgm5 hmd5; have H5 := Lib.hid (And.intro hgm5 hmd5); clear hgm5 hmd5)
            | fail)
          go_roundw
          case rel => exact ⟨j + 1, v', putL ltZ L K V, by omega, by go_num, Lib.hid (FS.fin H3.out.1 H3.out.2.2.1 H3.out.2.2.2.1 H3.out.2.2.2.2.1 H3.out.2.2.2.2.2 HU.out.nb HU.out.nw (put_all HU.out.om.srt HU.out.bnd K V ⟨HKV.out.1, HKV.out.2⟩) (GM.mono H5.out.1 (by omega)) H5.out.2)⟩
          case measure => simp [intOf]; omega
        · -- Delete
          obtain ⟨u, hu⟩ : ∃ u, u = wr.alloc (.cells #[.bool true, .int .i16 K, .int .i16 V] 86) := ⟨_, rfl⟩
          have xb : u.heap[wr.heap.size]? = some (.cells #[.bool true, .int .i16 K, .int .i16 V] 86) := by rw [hu]; exact blkNew _ _
          rw [← hu]
          have HU : Hid (FS w u b0 v w1.heap.size j L) := Lib.hid (by rw [hu]; exact H.out.gr ((Gr.refl _).alloc _))
          have y0 := ((cellsOf xb).1 0).trans (show _ = some (Value.bool true) from rfl)
          have y1 := ((cellsOf xb).1 1).trans (show _ = some (Value.int .i16 K) from rfl)
          have y2 := ((cellsOf xb).1 2).trans (show _ = some (Value.int .i16 V) from rfl)
          clear hu e0 e1 e2 H xb
          generalize wr.heap.size = bx at *
          refine wp_region_flo (fun _ => False) [] [] (by kernel_rfl) (by kernel_rfl) (fun _ h => h.elim) ?_
          refine flo_seg 8 rfl ?_
          simp only [List.take_succ_cons, List.take_zero, List.drop_succ_cons, List.drop_zero]
          repeat (go_big_quiet_step (fail))
          refine wpQuiet_nil ?_
          refine flo_nil ?_
          replace HU := Lib.hid (HU.out.gr (Gr.drew (Gr.refl _)))
          go_wp2_with (first
            | (at_lookup; refine wpList_gm_look _ rfl (.tmp 37) (.tmp 38) rfl w1.heap.size j L rfl HU.out.gm K rfl (WalkArith.wf_i64 (by omega)) ?_; rw [F1.out, F2.out])
            | fail)
          refine (DeleteOii b0 v L K _ HU.out.om (by omega)).mono ?_
          rintro e w3 ⟨rfl, hp⟩
          rw [F3.out, F4.out]
          obtain ⟨v', hom', hgm', hnv', hg', hne1, hne2⟩ := HU.out.call hp
          have H3 := Lib.hid (And.intro hom' (And.intro hgm' (And.intro hnv' (And.intro hg' (And.intro hne1 hne2)))))
          clear hp hom' hgm' hnv' hg' hne1 hne2
          go_wp2_with (first
            | (at_delete; refine wpList_gm_del _ rfl (.tmp 58) (.tmp 59) rfl w1.heap.size j L rfl H3.out.2.1 K rfl (WalkArith.wf_i64 (by omega)) ?_; intro w5 hgm5 hmd5; have H5 := Lib.hid (And.intro hgm5 hmd5); clear hgm5 hmd5)
            | fail)
          go_roundw
          case rel => exact ⟨j + 1, v', delL ltZ L K, by omega, by go_num, Lib.hid (FS.fin H3.out.1 H3.out.2.2.1 H3.out.2.2.2.1 H3.out.2.2.2.2.1 H3.out.2.2.2.2.2 HU.out.nb HU.out.nw (del_all HU.out.om.srt HU.out.bnd K) (GM.mono H5.out.1 (by omega)) H5.out.2)⟩
          case measure => simp [intOf]; omega
      · have hlt' : ¬ (j : Int) < len := by omega
        go_wp2
        first
          | done
          | (go_ret3; exact ⟨b0, v, _, j, L, rfl, H.out, by omega⟩)
end Go.Proofs.Ytbhkigjmjmfbgaa
