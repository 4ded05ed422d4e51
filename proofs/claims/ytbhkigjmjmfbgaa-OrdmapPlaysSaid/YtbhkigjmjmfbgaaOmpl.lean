/- OrdmapPlays answers true: maps of strings, call by call. -/
import Derived.Test.YtbhkigjmjmfbgaaOmu
import Derived.Test.YtbhkigjmjmfbgaaOmw
import Derived.Test.YtbhkigjmjmfbgaaOmqss
set_option linter.unusedVariables false
set_option linter.unusedSimpArgs false
namespace Go.Proofs.Ytbhkigjmjmfbgaa
open Go.RowKit Go.Shelf
attribute [local go_sem] OvM cell_ovm obj_ovm
attribute [local go_sem] Oper.semAt_some

abbrev Stp := UInt8 × ByteArray × ByteArray
/-- The steps lie in w. -/
def StepsAt (w : World) (a : Option Addr) (l : List Stp) : Prop :=
  ∀ i, i < l.length → ∃ b off, a = some ⟨b, off, none⟩ ∧ b < w.heap.size ∧ w.cell? ⟨b, off + i * 3, none⟩ = some (.int .u8 ((l[i]?.getD (0, ⟨#[]⟩, ⟨#[]⟩)).1.toNat : Int)) ∧
    w.cell? ⟨b, off + i * 3 + 1, none⟩ = some (.string (l[i]?.getD (0, ⟨#[]⟩, ⟨#[]⟩)).2.1) ∧ w.cell? ⟨b, off + i * 3 + 2, none⟩ = some (.string (l[i]?.getD (0, ⟨#[]⟩, ⟨#[]⟩)).2.2)

/-- A map and the reference's, of the same pairs. -/
structure P2 (w : World) (bm : Nat) (v : Value) (br : Nat) (kv vv : Value) (L : List Itss) : Prop where
  m : OMss w bm v L
  r : RM w br kv vv L
  ap : ∀ g, kv.ownBlock = some g → vv.ownBlock ≠ some g
/-- The blocks of theirs that are written. -/
def W2 (bm : Nat) (v : Value) (br : Nat) (vv : Value) : Nat → Prop := fun k => k = bm ∨ v.ownBlock = some k ∨ k = br ∨ vv.ownBlock = some k
section
variable {w w' w1 w2 : World} {bm br : Nat} {v kv vv : Value} {L L' : List Itss} {p p' : Option Addr} {W W' : Nat → Prop}
theorem P2.bv (h : P2 w bm v br kv vv L) : BV w (some ⟨bm, 0, none⟩) v (some ⟨br, 0, none⟩) L := .inl ⟨bm, br, kv, vv, rfl, h.m, rfl, h.r⟩
theorem P2.gr (h : P2 w bm v br kv vv L) (g : Gr w w') : P2 w' bm v br kv vv L := ⟨h.m.gr g, h.r.gr g, h.ap⟩
theorem RM.mdh {F : Nat → Prop} (h : RM w br kv vv L) (m : Mdh F w w') (h1 : ¬ F br) (h2 : ∀ g, kv.ownBlock = some g → ¬ F g) (h3 : ∀ g, vv.ownBlock = some g → ¬ F g) : RM w' br kv vv L :=
  ⟨m.blk h.blk h1, h.ok.mdh m h2, h.ov.mdh m h3, h.srt⟩
/-- Behind a call on the one map the other is as it was. -/
theorem p2_one (h : P2 w bm v br kv vv L) (h1 : OMPostss bm v L' w w1) : ∃ v', OMss w1 bm v' L' ∧ RM w1 br kv vv L ∧ (∀ g, v'.ownBlock = some g → v.ownBlock = some g ∨ w.heap.size ≤ g) ∧ Mdh (fun k => k = bm ∨ v.ownBlock = some k) w w1 := by
  obtain ⟨v', a1, a2, a3⟩ := h1
  have hbb : br ≠ bm := fun e => by have h2 := h.r.blk; rw [e, h.m.blk] at h2; simp at h2
  refine ⟨v', a1, h.r.mdh a3 (fun hk => hk.elim hbb (fun h' => own_ne h.m.own h.r.blk (by decide) h')) (fun g hg hk => hk.elim (fun e => own_ne h.r.ok h.m.blk (by decide) (e ▸ hg)) (fun h' => own_ne2 h.m.own h.r.ok (by decide) g h' hg)) (fun g hg hk => hk.elim (fun e => own_ne h.r.ov h.m.blk (by decide) (e ▸ hg)) (fun h' => own_ne2 h.m.own h.r.ov (by decide) g h' hg)), a2, a3⟩
theorem p2_two (h : OMss w1 bm v L') (h0 : RM w1 br kv vv L) (h1 : RMPost br kv vv L' w1 w2) : ∃ kv' vv', P2 w2 bm v br kv' vv' L' ∧ (∀ g, vv'.ownBlock = some g → vv.ownBlock = some g ∨ w1.heap.size ≤ g) ∧ Mdh (fun k => k = br ∨ vv.ownBlock = some k) w1 w2 := by
  obtain ⟨kv', vv', a1, a2, _, a4, a5⟩ := h1
  have hbb : bm ≠ br := fun e => by have h2 := h.blk; rw [e, h0.blk] at h2; simp at h2
  refine ⟨kv', vv', ⟨h.mdh a5 (fun k hk hF => ?_), a1, a2⟩, a4, a5⟩
  rcases hk with rfl | hk
  · exact hF.elim hbb (fun h' => own_ne h0.ov h.blk (by decide) h')
  · exact hF.elim (fun e => own_ne h.own h0.blk (by decide) (e ▸ hk)) (fun h' => own_ne2 h.own h0.ov (by decide) k hk h')
/-- A pair of maps that stays, whatever happens to the blocks W. -/
def OldP (w : World) (p p' : Option Addr) (W : Nat → Prop) : Prop := ∃ v L, L.length ≤ 100 ∧ ∀ w', Mdh W w w' → BV w' p v p' L
theorem OldP.step (h : OldP w p p' W) (m : Mdh W w w') (hs : ∀ k, W' k → W k ∨ w.heap.size ≤ k) : OldP w' p p' W' :=
  let ⟨v, L, h1, h2⟩ := h; ⟨v, L, h1, fun _ m' => h2 _ (m.then m' hs)⟩
theorem OldP.none (w : World) (W : Nat → Prop) : OldP w none none W := ⟨.slice .none 0 0, [], by simp, fun _ _ => .inr ⟨.inl rfl, rfl, rfl, rfl⟩⟩
theorem P2.lt (h : P2 w bm v br kv vv L) : ∀ k, W2 bm v br vv k → k < w.heap.size := by
  rintro k (rfl | h' | rfl | h')
  · exact blkLt h.m.blk
  · exact h.m.own.lt h'
  · exact blkLt h.r.blk
  · exact h.r.ov.lt h'
theorem P2.old (h : P2 w bm v br kv vv L) (hn : L.length ≤ 100) (hW : ∀ k, W k → w.heap.size ≤ k) : OldP w (some ⟨bm, 0, .none⟩) (some ⟨br, 0, .none⟩) W :=
  ⟨v, L, hn, fun w' m => .inl ⟨bm, br, kv, vv, rfl, h.m.mdh m (fun k hk hw => by have := hW k hw; have := h.lt k (hk.elim .inl (fun h => .inr (.inl h))); omega), rfl,
    h.r.mdh m (fun hw => by have := hW _ hw; have := h.lt br (.inr (.inr (.inl rfl))); omega) (fun g hg hw => by have := hW _ hw; have := h.r.ok.lt hg; omega) (fun g hg hw => by have := hW _ hw; have := h.r.ov.lt hg; omega)⟩⟩
end
/-- What holds at the head of a round. -/
structure PlS (w wx : World) (bm : Nat) (v : Value) (br : Nat) (kv vv : Value) (L : List Itss) (p9 p10 : Option Addr) (j : Nat) : Prop where
  p : P2 wx bm v br kv vv L
  n : L.length ≤ j
  b : ∀ k, W2 bm v br vv k → w.heap.size ≤ k
  o : OldP wx p9 p10 (W2 bm v br vv)
  g : Gr w wx
/-- Behind a call on both maps. -/
theorem PlS.call {w u w1 w2 : World} {bm br : Nat} {v v1 kv vv kv1 vv1 : Value} {L L1 : List Itss} {p9 p10 : Option Addr} {j j' : Nat} (h : PlS w u bm v br kv vv L p9 p10 j) (hn : L1.length ≤ j')
    (hv1 : ∀ g, v1.ownBlock = some g → v.ownBlock = some g ∨ u.heap.size ≤ g) (m1 : Mdh (fun k => k = bm ∨ v.ownBlock = some k) u w1)
    (P : P2 w2 bm v1 br kv1 vv1 L1) (hvv : ∀ g, vv1.ownBlock = some g → vv.ownBlock = some g ∨ w1.heap.size ≤ g) (m2 : Mdh (fun k => k = br ∨ vv.ownBlock = some k) w1 w2) :
    PlS w w2 bm v1 br kv1 vv1 L1 p9 p10 j' ∧ Mdh (W2 bm v br vv) u w2 := by
  have m : Mdh (W2 bm v br vv) u w2 := (m1.mono (fun k hk => hk.elim .inl (fun h => .inr (.inl h)))).trans (m2.mono (fun k hk => .inr (.inr hk)))
  have hs : ∀ k, W2 bm v1 br vv1 k → W2 bm v br vv k ∨ u.heap.size ≤ k := by
    rintro k (rfl | h' | rfl | h')
    · exact .inl (.inl rfl)
    · exact (hv1 k h').imp (fun h => .inr (.inl h)) id
    · exact .inl (.inr (.inr (.inl rfl)))
    · exact (hvv k h').imp (fun h => .inr (.inr (.inr h))) (fun h => Nat.le_trans m1.size h)
  exact ⟨⟨P, hn, fun k hk => (hs k hk).elim (h.b k) (fun h' => Nat.le_trans h.g.sz h'), h.o.step m hs, h.g.md m h.b⟩, m⟩
theorem PlS.gr {w u u' : World} {bm br : Nat} {v kv vv : Value} {L : List Itss} {p9 p10 : Option Addr} {j : Nat} (h : PlS w u bm v br kv vv L p9 p10 j) (g : Gr u u') : PlS w u' bm v br kv vv L p9 p10 j :=
  ⟨h.p.gr g, h.n, h.b, h.o.step (g.mdh _) (fun _ hk => .inl hk), h.g.trans g⟩

set_option maxRecDepth 40000 in
set_option maxHeartbeats 16000000 in
theorem Plays_any (a : Option Addr) (len cap : Nat) (l : List Stp) (key : ByteArray) (i : Int) (w : World) (hl : l.length = len) (hle : len ≤ cap) (hcap : cap ≤ maxLen) (hs : StepsAt w a l) :
    Calls Try.prog 5 #[.slice a len cap, .string key, .int .i64 i] w fun e w' => e = .returned (.bool true) ∧ Gr w w' := by
  by_cases hlong : (60 : Int) < len ∨ (100 : Int) < key.size
  · have h2 : (60 : Int) < len ∨ (¬ (60 : Int) < len ∧ (100 : Int) < key.size) := by omega
    clear hlong
    rcases h2 with h | ⟨h0, h⟩
    all_goals
      go_enter Try.func5, Try.ntmps5
      go_wp2_with fail
      refine (works_any _).mono ?_
      rintro e w9 ⟨rfl, hg9⟩
      go_wp2
      go_ret
      exact ⟨rfl, hg9⟩
  have hlen : (len : Int) ≤ 60 := by omega
  have hkey : (key.size : Int) ≤ 100 := by omega
  have HS := Lib.hid hs
  have HL := Lib.hid hl
  unfold maxLen at hcap
  clear hs hl hlong
  go_enter Try.func5, Try.ntmps5
  go_wp2_with fail
  refine (NewOss w).mono ?_
  rintro e w1 ⟨rfl, hm, hg1⟩
  obtain ⟨b0, hb0⟩ : ∃ b, b = w.heap.size := ⟨_, rfl⟩
  rw [← hb0] at hm ⊢
  have HM := Lib.hid (And.intro hm (And.intro hg1 hb0))
  clear hm hg1 hb0
  go_wp2_with fail
  refine (rNew w1).mono ?_
  rintro e w2 ⟨rfl, hr, hg2⟩
  obtain ⟨b1, hb1⟩ : ∃ b, b = w1.heap.size := ⟨_, rfl⟩
  rw [← hb1] at hr ⊢
  have H0 : Hid (PlS w w2 b0 (.slice none 0 0) b1 (.slice none 0 0) (.slice none 0 0) [] none none 0) := Lib.hid ⟨⟨HM.out.1.gr hg2, hr, fun g hg => (by cases hg)⟩, Nat.le_refl _, (by
    have h1 := HM.out.2.2
    have h2 := HM.out.2.1.sz
    rintro k (rfl | h | rfl | h)
    · omega
    · cases h
    · omega
    · cases h), OldP.none _ _, HM.out.2.1.trans hg2⟩
  clear hr hg2 hb1 HM
  go_wp2_with fail
  go_loopw [7, 8, 9, 10, 36] (fun t7 t8 t9 t10 t36 wx => ∃ (j bm br : Nat) (v kv vv : Value) (L : List Itss) (p9 p10 : Option Addr), j ≤ len ∧ t7 = .pointer (some ⟨bm, 0, none⟩) ∧ t8 = .pointer (some ⟨br, 0, none⟩) ∧ t9 = .pointer p9 ∧ t10 = .pointer p10 ∧ t36 = .int .i64 j ∧ Hid (PlS w wx bm v br kv vv L p9 p10 j)) (fun _ _ _ _ t36 _ => len - (intOf t36).toNat)
  case atStart => exact ⟨0, b0, b1, _, _, _, [], none, none, by omega, rfl, rfl, rfl, rfl, rfl, H0⟩
  case round =>
    obtain ⟨j, bm, br, v, kv, vv, L, p9, p10, hj, rfl, rfl, rfl, rfl, rfl, H⟩ := hrel
    clear H0
    by_cases hlt : j < len
    · have hlt' : (j : Int) < len := by omega
      obtain ⟨gs, off, rfl, hgs, c0, c1, c2⟩ := HS.out j (by rw [HL.out]; exact hlt)
      have e0 := H.out.g.keep c0
      have e1 := H.out.g.keep c1
      have e2 := H.out.g.keep c2
      generalize l[j]?.getD (0, ⟨#[]⟩, ⟨#[]⟩) = x at *
      obtain ⟨d, K, V⟩ := x
      simp only at e0 e1 e2
      clear c0 c1 c2 hgs
      have hd0 : (0 : Int) ≤ d.toNat := by omega
      have hd1 : (d.toNat : Int) < 256 := by have := d.toNat_lt; omega
      by_cases hbig : (100 : Int) < K.size ∨ (100 : Int) < V.size
      · have h2 : (100 : Int) < K.size ∨ (¬ (100 : Int) < K.size ∧ (100 : Int) < V.size) := by omega
        clear hbig
        rcases h2 with h | ⟨h0, h⟩
        all_goals
          go_wp2_with fail
          refine (works_any _).mono ?_
          rintro e w9 ⟨rfl, hg9⟩
          go_wp2
          go_ret
          exact ⟨rfl, (H.out.g.alloc _).trans hg9⟩
      have hK : (K.size : Int) ≤ 100 := by omega
      have hV : (V.size : Int) ≤ 100 := by omega
      clear hbig
      obtain ⟨s6, f6⟩ := lookV_str L K
      have F6 := Lib.hid f6
      clear f6
      have h4 : (d.toNat : Int) % 4 = 0 ∨ (d.toNat : Int) % 4 = 1 ∨ (d.toNat : Int) % 4 = 2 ∨ (d.toNat : Int) % 4 = 3 := by omega
      rcases h4 with hq | hq | hq | hq
      · -- Set
        go_wp2_with fail
        obtain ⟨u, hu⟩ : ∃ u, u = wr.alloc (.cells #[.int .u8 (d.toNat : Int), .string K, .string V] 68) := ⟨_, rfl⟩
        rw [← hu]
        have HU : Hid (PlS w u bm v br kv vv L p9 p10 j ∧ u.heap[wr.heap.size]? = some (.cells #[.int .u8 (d.toNat : Int), .string K, .string V] 68)) := Lib.hid ⟨by rw [hu]; exact H.out.gr ((Gr.refl _).alloc _), by rw [hu]; exact blkNew _ _⟩
        have HLT : Hid (∀ k, W2 bm v br vv k → k ≠ wr.heap.size) := Lib.hid (fun k hk => by have := H.out.p.lt k hk; omega)
        clear hu e0 e1 e2 H
        generalize wr.heap.size = bx at *
        refine (Setss bm v L K V _ HU.out.1.p.m (by have := HU.out.1.n; omega)).mono ?_
        rintro e w3 ⟨rfl, hp⟩
        rw [F6.out]
        obtain ⟨v1, hm1, hr1, hv1, hmd1⟩ := p2_one HU.out.1.p hp
        have xb := hmd1.blk HU.out.2 (fun hk => HLT.out bx (hk.elim .inl (fun h => .inr (.inl h))) rfl)
        have y1 := ((cellsOf xb).1 1).trans (show _ = some (Value.string K) from rfl)
        have y2 := ((cellsOf xb).1 2).trans (show _ = some (Value.string V) from rfl)
        have HM1 := Lib.hid (And.intro hm1 (And.intro hr1 (And.intro hv1 hmd1)))
        have HXB := Lib.hid xb
        clear hp hm1 hr1 hv1 hmd1 xb
        go_wp2_with fail
        clear y1 y2
        refine (rSet br kv vv L K V _ HM1.out.2.1 HU.out.1.p.ap (by have := HU.out.1.n; omega)).mono ?_
        rintro e w4 ⟨rfl, hp⟩
        rw [F6.out]
        obtain ⟨kv1, vv1, hP, hvv, hmd2⟩ := p2_two HM1.out.1 HM1.out.2.1 hp
        have xb := hmd2.blk HXB.out (fun hk => HLT.out bx (.inr (.inr hk)) rfl)
        have y1 := ((cellsOf xb).1 1).trans (show _ = some (Value.string K) from rfl)
        have PT : Hid (PlS w w4 bm v1 br kv1 vv1 (putL ltS L K V) p9 p10 (j + 1)) := Lib.hid (HU.out.1.call (by rw [put_length]; have := HU.out.1.n; split <;> omega) HM1.out.2.2.1 HM1.out.2.2.2 hP hvv hmd2).1
        have hbx := blkLt xb
        clear hp hP hvv hmd2 xb HM1 HXB HU HLT
        generalize hL1 : putL ltS L K V = L1 at *
        clear hL1
        obtain ⟨v9, L9, hl9, hb9⟩ := PT.out.o
        have HB9 := Lib.hid hb9
        have HG := Gr.refl w4
        have hln := PT.out.n
        clear hb9
        go_wp2_with (first
                | (go_at_call 36; ((with_reducible refine (shows_any (some ⟨bm, 0, none⟩) v1 (some ⟨br, 0, none⟩) L1 _ _ _ (PT.out.p.bv.gr HG) (by omega)).mono ?_); rintro e w1 ⟨rfl, hg1⟩; replace HG := HG.trans hg1; clear hg1))
                | (go_at_call 36; ((with_reducible refine (shows_any _ v9 _ L9 _ _ _ (HB9.out _ (HG.mdh _)) (by omega)).mono ?_); rintro e w1 ⟨rfl, hg1⟩; replace HG := HG.trans hg1; clear hg1))
                | (go_at_call 37; refine (rRank (some ⟨br, 0, none⟩) L1 _ _ (PT.out.p.bv.rv.gr HG)).mono ?_; rintro e w1 ⟨rfl, rfl⟩)
                | fail)
        go_roundw
        case rel => exact ⟨j + 1, bm, br, v1, kv1, vv1, L1, p9, p10, by omega, rfl, rfl, rfl, rfl, by go_num, Lib.hid (PT.out.gr HG)⟩
        case measure => simp [intOf]; omega
      · -- Set
        go_wp2_with fail
        obtain ⟨u, hu⟩ : ∃ u, u = wr.alloc (.cells #[.int .u8 (d.toNat : Int), .string K, .string V] 68) := ⟨_, rfl⟩
        rw [← hu]
        have HU : Hid (PlS w u bm v br kv vv L p9 p10 j ∧ u.heap[wr.heap.size]? = some (.cells #[.int .u8 (d.toNat : Int), .string K, .string V] 68)) := Lib.hid ⟨by rw [hu]; exact H.out.gr ((Gr.refl _).alloc _), by rw [hu]; exact blkNew _ _⟩
        have HLT : Hid (∀ k, W2 bm v br vv k → k ≠ wr.heap.size) := Lib.hid (fun k hk => by have := H.out.p.lt k hk; omega)
        clear hu e0 e1 e2 H
        generalize wr.heap.size = bx at *
        refine (Setss bm v L K V _ HU.out.1.p.m (by have := HU.out.1.n; omega)).mono ?_
        rintro e w3 ⟨rfl, hp⟩
        rw [F6.out]
        obtain ⟨v1, hm1, hr1, hv1, hmd1⟩ := p2_one HU.out.1.p hp
        have xb := hmd1.blk HU.out.2 (fun hk => HLT.out bx (hk.elim .inl (fun h => .inr (.inl h))) rfl)
        have y1 := ((cellsOf xb).1 1).trans (show _ = some (Value.string K) from rfl)
        have y2 := ((cellsOf xb).1 2).trans (show _ = some (Value.string V) from rfl)
        have HM1 := Lib.hid (And.intro hm1 (And.intro hr1 (And.intro hv1 hmd1)))
        have HXB := Lib.hid xb
        clear hp hm1 hr1 hv1 hmd1 xb
        go_wp2_with fail
        clear y1 y2
        refine (rSet br kv vv L K V _ HM1.out.2.1 HU.out.1.p.ap (by have := HU.out.1.n; omega)).mono ?_
        rintro e w4 ⟨rfl, hp⟩
        rw [F6.out]
        obtain ⟨kv1, vv1, hP, hvv, hmd2⟩ := p2_two HM1.out.1 HM1.out.2.1 hp
        have xb := hmd2.blk HXB.out (fun hk => HLT.out bx (.inr (.inr hk)) rfl)
        have y1 := ((cellsOf xb).1 1).trans (show _ = some (Value.string K) from rfl)
        have PT : Hid (PlS w w4 bm v1 br kv1 vv1 (putL ltS L K V) p9 p10 (j + 1)) := Lib.hid (HU.out.1.call (by rw [put_length]; have := HU.out.1.n; split <;> omega) HM1.out.2.2.1 HM1.out.2.2.2 hP hvv hmd2).1
        have hbx := blkLt xb
        clear hp hP hvv hmd2 xb HM1 HXB HU HLT
        generalize hL1 : putL ltS L K V = L1 at *
        clear hL1
        obtain ⟨v9, L9, hl9, hb9⟩ := PT.out.o
        have HB9 := Lib.hid hb9
        have HG := Gr.refl w4
        have hln := PT.out.n
        clear hb9
        go_wp2_with (first
                | (go_at_call 36; ((with_reducible refine (shows_any (some ⟨bm, 0, none⟩) v1 (some ⟨br, 0, none⟩) L1 _ _ _ (PT.out.p.bv.gr HG) (by omega)).mono ?_); rintro e w1 ⟨rfl, hg1⟩; replace HG := HG.trans hg1; clear hg1))
                | (go_at_call 36; ((with_reducible refine (shows_any _ v9 _ L9 _ _ _ (HB9.out _ (HG.mdh _)) (by omega)).mono ?_); rintro e w1 ⟨rfl, hg1⟩; replace HG := HG.trans hg1; clear hg1))
                | (go_at_call 37; refine (rRank (some ⟨br, 0, none⟩) L1 _ _ (PT.out.p.bv.rv.gr HG)).mono ?_; rintro e w1 ⟨rfl, rfl⟩)
                | fail)
        go_roundw
        case rel => exact ⟨j + 1, bm, br, v1, kv1, vv1, L1, p9, p10, by omega, rfl, rfl, rfl, rfl, by go_num, Lib.hid (PT.out.gr HG)⟩
        case measure => simp [intOf]; omega
      · -- Delete
        go_wp2_with fail
        obtain ⟨u, hu⟩ : ∃ u, u = wr.alloc (.cells #[.int .u8 (d.toNat : Int), .string K, .string V] 68) := ⟨_, rfl⟩
        rw [← hu]
        have HU : Hid (PlS w u bm v br kv vv L p9 p10 j ∧ u.heap[wr.heap.size]? = some (.cells #[.int .u8 (d.toNat : Int), .string K, .string V] 68)) := Lib.hid ⟨by rw [hu]; exact H.out.gr ((Gr.refl _).alloc _), by rw [hu]; exact blkNew _ _⟩
        have HLT : Hid (∀ k, W2 bm v br vv k → k ≠ wr.heap.size) := Lib.hid (fun k hk => by have := H.out.p.lt k hk; omega)
        clear hu e0 e1 e2 H
        generalize wr.heap.size = bx at *
        refine (DeleteOss bm v L K _ HU.out.1.p.m (by have := HU.out.1.n; omega)).mono ?_
        rintro e w3 ⟨rfl, hp⟩
        rw [F6.out]
        obtain ⟨v1, hm1, hr1, hv1, hmd1⟩ := p2_one HU.out.1.p hp
        have xb := hmd1.blk HU.out.2 (fun hk => HLT.out bx (hk.elim .inl (fun h => .inr (.inl h))) rfl)
        have y1 := ((cellsOf xb).1 1).trans (show _ = some (Value.string K) from rfl)
        have y2 := ((cellsOf xb).1 2).trans (show _ = some (Value.string V) from rfl)
        have HM1 := Lib.hid (And.intro hm1 (And.intro hr1 (And.intro hv1 hmd1)))
        have HXB := Lib.hid xb
        clear hp hm1 hr1 hv1 hmd1 xb
        go_wp2_with fail
        clear y1 y2
        refine (rDelete br kv vv L K _ HM1.out.2.1 HU.out.1.p.ap (by have := HU.out.1.n; omega)).mono ?_
        rintro e w4 ⟨rfl, hp⟩
        rw [F6.out]
        obtain ⟨kv1, vv1, hP, hvv, hmd2⟩ := p2_two HM1.out.1 HM1.out.2.1 hp
        have xb := hmd2.blk HXB.out (fun hk => HLT.out bx (.inr (.inr hk)) rfl)
        have y1 := ((cellsOf xb).1 1).trans (show _ = some (Value.string K) from rfl)
        have PT : Hid (PlS w w4 bm v1 br kv1 vv1 (delL ltS L K) p9 p10 (j + 1)) := Lib.hid (HU.out.1.call (by rw [del_length]; have := HU.out.1.n; split <;> omega) HM1.out.2.2.1 HM1.out.2.2.2 hP hvv hmd2).1
        have hbx := blkLt xb
        clear hp hP hvv hmd2 xb HM1 HXB HU HLT
        generalize hL1 : delL ltS L K = L1 at *
        clear hL1
        obtain ⟨v9, L9, hl9, hb9⟩ := PT.out.o
        have HB9 := Lib.hid hb9
        have HG := Gr.refl w4
        have hln := PT.out.n
        clear hb9
        go_wp2_with (first
                | (go_at_call 36; ((with_reducible refine (shows_any (some ⟨bm, 0, none⟩) v1 (some ⟨br, 0, none⟩) L1 _ _ _ (PT.out.p.bv.gr HG) (by omega)).mono ?_); rintro e w1 ⟨rfl, hg1⟩; replace HG := HG.trans hg1; clear hg1))
                | (go_at_call 36; ((with_reducible refine (shows_any _ v9 _ L9 _ _ _ (HB9.out _ (HG.mdh _)) (by omega)).mono ?_); rintro e w1 ⟨rfl, hg1⟩; replace HG := HG.trans hg1; clear hg1))
                | (go_at_call 37; refine (rRank (some ⟨br, 0, none⟩) L1 _ _ (PT.out.p.bv.rv.gr HG)).mono ?_; rintro e w1 ⟨rfl, rfl⟩)
                | fail)
        go_roundw
        case rel => exact ⟨j + 1, bm, br, v1, kv1, vv1, L1, p9, p10, by omega, rfl, rfl, rfl, rfl, by go_num, Lib.hid (PT.out.gr HG)⟩
        case measure => simp [intOf]; omega
      · -- a copy continues
        go_wp2_with fail
        obtain ⟨u, hu⟩ : ∃ u, u = wr.alloc (.cells #[.int .u8 (d.toNat : Int), .string K, .string V] 68) := ⟨_, rfl⟩
        rw [← hu]
        have HU : Hid (PlS w u bm v br kv vv L p9 p10 j ∧ u.heap[wr.heap.size]? = some (.cells #[.int .u8 (d.toNat : Int), .string K, .string V] 68)) := Lib.hid ⟨by rw [hu]; exact H.out.gr ((Gr.refl _).alloc _), by rw [hu]; exact blkNew _ _⟩
        clear hu e0 e1 e2 H
        generalize wr.heap.size = bx at *
        refine (CopyOss bm v L _ HU.out.1.p.m (by have := HU.out.1.n; omega)).mono ?_
        rintro e w3 ⟨bm', v', rfl, hm, hb', hv', hg3⟩
        have H3 := Lib.hid (And.intro hm (And.intro hb' (And.intro hv' hg3)))
        clear hm hb' hv' hg3
        go_wp2_with fail
        refine (rCopy br kv vv L _ (HU.out.1.p.r.gr H3.out.2.2.2) (by have := HU.out.1.n; omega)).mono ?_
        rintro e w4 ⟨br', kv', vv', rfl, hr, hap, hb4, hvv, hg4⟩
        have G4 := H3.out.2.2.2.trans hg4
        have xb := G4.blk HU.out.2
        have y1 := ((cellsOf xb).1 1).trans (show _ = some (Value.string K) from rfl)
        have hbx := blkLt xb
        have PT : Hid (PlS w w4 bm' v' br' kv' vv' L (some ⟨bm, 0, none⟩) (some ⟨br, 0, none⟩) (j + 1)) := Lib.hid (by
          have hs := H3.out.2.2.2.sz
          have hW : ∀ k, W2 bm' v' br' vv' k → u.heap.size ≤ k := by
            rintro k (rfl | h | rfl | h)
            · exact H3.out.2.1
            · exact H3.out.2.2.1 k h
            · omega
            · exact Nat.le_trans hs (hvv k h)
          exact ⟨⟨H3.out.1.gr hg4, hr, hap⟩, by have := HU.out.1.n; omega, fun k hk => Nat.le_trans HU.out.1.g.sz (hW k hk),
            (HU.out.1.p.old (by have := HU.out.1.n; omega) hW).step (G4.mdh _) (fun k hk => .inl hk), HU.out.1.g.trans G4⟩)
        clear hr hap hb4 hvv hg4 G4 xb HU H3
        obtain ⟨v9, L9, hl9, hb9⟩ := PT.out.o
        have HB9 := Lib.hid hb9
        have HG := Gr.refl w4
        have hln := PT.out.n
        clear hb9
        go_wp2_with (first
                | (go_at_call 36; ((with_reducible refine (shows_any (some ⟨bm', 0, none⟩) v' (some ⟨br', 0, none⟩) L _ _ _ (PT.out.p.bv.gr HG) (by omega)).mono ?_); rintro e w1 ⟨rfl, hg1⟩; replace HG := HG.trans hg1; clear hg1))
                | (go_at_call 36; ((with_reducible refine (shows_any _ v9 _ L9 _ _ _ (HB9.out _ (HG.mdh _)) (by omega)).mono ?_); rintro e w1 ⟨rfl, hg1⟩; replace HG := HG.trans hg1; clear hg1))
                | (go_at_call 37; refine (rRank (some ⟨br', 0, none⟩) L _ _ (PT.out.p.bv.rv.gr HG)).mono ?_; rintro e w1 ⟨rfl, rfl⟩)
                | fail)
        go_roundw
        case rel => exact ⟨j + 1, bm', br', v', kv', vv', L, (some ⟨bm, 0, none⟩), (some ⟨br, 0, none⟩), by omega, rfl, rfl, rfl, rfl, by go_num, Lib.hid (PT.out.gr HG)⟩
        case measure => simp [intOf]; omega
    · have hlt' : ¬ (j : Int) < len := by omega
      have HG := Gr.refl wr
      have hln := H.out.n
      go_wp2_with (first
        | (go_at_call 36; refine (shows_any (some ⟨bm, 0, none⟩) v (some ⟨br, 0, none⟩) L _ _ _ (H.out.p.bv.gr HG) (by omega)).mono ?_; rintro e w1 ⟨rfl, hg1⟩; replace HG := HG.trans hg1; clear hg1)
        | (go_at_call 18; refine (works_any _).mono ?_; rintro e w9 ⟨rfl, hg9⟩; replace HG := HG.trans hg9; clear hg9)
        | fail)
      go_ret
      exact ⟨rfl, H.out.g.trans HG⟩
end Go.Proofs.Ytbhkigjmjmfbgaa
