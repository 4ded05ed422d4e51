/- The methods of an ordered map at its ends and neighbours, New, Set, Delete, at keys string and values drumlin/index.list. Written from YOmc.base by inst.py. -/
import Derived.Test.YtiidkehcfoajeaaOmbsl
set_option linter.unusedVariables false
set_option linter.unusedSimpArgs false
namespace Go.Proofs.Ytiidkehcfoajeaa
open Go.RowKit
attribute [local go_sem] OvM cell_ovm obj_ovm

set_option maxRecDepth 40000 in
theorem NewOsl (w : World) : Calls Try.prog 116 #[] w fun e w' => e = .returned (.pointer (some ⟨w.heap.size, 0, none⟩)) ∧ OMsl w' w.heap.size (.slice none 0 0) [] ∧ Gr w w' := by
  go_enter Try.func116, Try.ntmps116
  go_wp2
  go_ret
  exact ⟨rfl, ⟨blkNew _ _, ⟨rfl, .inl ⟨rfl, rfl⟩⟩, (fun h => by cases h), List.Pairwise.nil⟩, by (repeat (first | (with_reducible exact Gr.refl _) | assumption | (with_reducible apply Gr.from_drew) | (with_reducible apply Gr.alloc) | (with_reducible apply Gr.drew) | (with_reducible refine Gr.trans ?_ (by assumption)) | (with_reducible refine Gr.setCell ?_ (by omega) _)))⟩

/-- What Set and Delete leave. -/
def OMPostsl (b : Nat) (v : Value) (L' : List Itsl) (w w' : World) : Prop := ∃ v', OMsl w' b v' L' ∧ (∀ g, v'.ownBlock = some g → v.ownBlock = some g ∨ w.heap.size ≤ g) ∧ Mdh (fun k => k = b ∨ v.ownBlock = some k) w w'

set_option maxRecDepth 40000 in
set_option maxHeartbeats 2000000 in
theorem Setsl (b : Nat) (v : Value) (L : List Itsl) (k : ByteArray) (u : (Option Addr × Nat × Nat)) (w : World) (h : OMsl w b v L) (hn : L.length ≤ 100000) :
    Calls Try.prog 111 #[.pointer (some ⟨b, 0, none⟩), .string (k), .slice (u).1 (u).2.1 (u).2.2] w fun e w' => e = .returned (.tuple #[lookVsl L k, .bool (hasBsl L k), .int .i64 0]) ∧ OMPostsl b v (putL ltS L k u) w w' := by
  have H := Lib.hid h
  have c0 := ((cellsOf h.blk).1 0).trans (show _ = some (Value.bool true) from rfl)
  have hr := rk_le (lt := ltS) L k
  obtain ⟨r, hrd⟩ : ∃ r, r = rk ltS L k := ⟨_, rfl⟩
  have HRK := Lib.hid hrd
  rw [← hrd] at hr
  have HSRT := Lib.hid (put_srt ordS h.srt k u)
  clear h hrd
  cases hl : look ltS L k with
  | none =>
    have HB := Lib.hid (show hasBsl L k = false by unfold hasBsl; rw [hl]; rfl)
    have HV := Lib.hid (show lookVsl L k = .slice none 0 0 by unfold lookVsl; rw [hl])
    have HP := Lib.hid (show putL ltS L k u = L.take r ++ [(k, u)] ++ L.drop r by unfold putL; rw [hl, HRK.out])
    rw [HB.out, HV.out]
    clear hl
    go_enter Try.func111, Try.ntmps111
    go_wp2_with fail
    refine (findsl _ v L k _ (.inl ⟨b, rfl, H.out⟩) (by omega)).mono ?_
    rintro e w1 ⟨rfl, hg⟩
    rw [HB.out, ← HRK.out]
    have H1 := Lib.hid (H.out.gr hg)
    have HG := Lib.hid hg
    have d1 := ((cellsOf H1.out.blk).1 1).trans (show _ = some v from rfl)
    clear hg c0
    go_wp2_with fail
    refine (Insertsl v L.length r (rowsl L) [.string (k), .slice (u).1 (u).2.1 (u).2.2] w1.heap.size _ (H1.out.own.gr (by (repeat (first | (with_reducible exact Gr.refl _) | assumption | (with_reducible apply Gr.from_drew) | (with_reducible apply Gr.alloc) | (with_reducible apply Gr.drew) | (with_reducible refine Gr.trans ?_ (by assumption)) | (with_reducible refine Gr.setCell ?_ (by omega) _))))) (row_onesl L) hr (by omega) (blkNew w1 _) rfl (by intro x hx; simp only [List.mem_cons, List.not_mem_nil, or_false] at hx; rcases hx with rfl | rfl <;> rfl) (fun e => by have := H1.out.own.lt e; omega)).mono ?_
    rintro e w2 ⟨g, cap, rfl, ho, hgw, hm⟩
    have HO := Lib.hid ho
    have HM := Lib.hid hm
    have HGW := Lib.hid hgw
    have hb1 : w2.heap[b]? = some (.cells #[.bool true, v] 161 (0, 0)) := hm.blk (blkOld H1.out.blk) (fun e => H1.out.ne e)
    have HB1 := Lib.hid hb1
    have e0 := ((cellsOf hb1).1 0).trans (show _ = some (Value.bool true) from rfl)
    have e1 := ((cellsOf hb1).1 1).trans (show _ = some v from rfl)
    have ef := (cellsOf hb1).2
    have hgb : g ≠ b := by
      have hbl := blkLt H1.out.blk
      rcases hgw with h | h
      · exact fun e => H1.out.ne (by rw [h, e])
      · simp only [World.size_alloc] at h; omega
    have HGB := Lib.hid hgb
    clear ho hm hgw hb1 d1 hgb
    go_wp2
    go_ret3
    refine ⟨rfl, .slice (some ⟨g, 0, none⟩) (L.length + 1) cap, ⟨blkSet (j := 1) (u := .slice (some ⟨g, 0, none⟩) (L.length + 1) cap) HB1.out, ?_, fun e => HGB.out (Option.some.inj e), HSRT.out⟩, fun g' hg' => ?_, ?_⟩
    · have e : rowsl (putL ltS L k u) = (rowsl L).take (r * 2) ++ [.string (k), .slice (u).1 (u).2.1 (u).2.2] ++ (rowsl L).drop (r * 2) := by
        rw [HP.out, row_appsl, row_appsl, row_takesl, row_dropsl]; rfl
      have el : (putL ltS L k u).length = L.length + 1 := by rw [HP.out]; simp; omega
      rw [e, el]
      exact HO.out.other (p := ⟨b, 1, none⟩) (fun h => HGB.out (Option.some.inj (show some g = some b from h))) _
    · obtain rfl : g = g' := Option.some.inj hg'
      exact HGW.out.imp (fun h => h) (fun h => Nat.le_trans HG.out.sz (by simp at h; omega))
    · exact (((HG.out.mdh _).alloc _).trans (HM.out.mono (fun q hq => .inr hq))).setCell (p := ⟨b, 1, none⟩) (.inl rfl) _
  | some u0 =>
    have HB := Lib.hid (show hasBsl L k = true by unfold hasBsl; rw [hl]; rfl)
    have HV := Lib.hid (show lookVsl L k = .slice (u0).1 (u0).2.1 (u0).2.2 by unfold lookVsl; rw [hl])
    have HP := Lib.hid (show putL ltS L k u = L.set r (k, u) by unfold putL; rw [hl, HRK.out])
    have hx : L[r]? = some (k, u0) := by rw [HRK.out]; exact look_some hl
    rw [HB.out, HV.out]
    obtain ⟨a, cap, rfl, hnc, hcm, hat⟩ := VWsl.at (.inl ⟨b, rfl, H.out⟩)
    obtain ⟨g, rfl, hgl, i0, i1⟩ := hat _ _ hx
    have hlt : r < L.length := (List.getElem?_eq_some_iff.1 hx).1
    have hlt' : (r : Int) < L.length := by omega
    unfold maxLen at hcm
    clear hl hat hgl
    go_enter Try.func111, Try.ntmps111
    go_wp2_with fail
    refine (findsl _ _ L k _ (.inl ⟨b, rfl, H.out⟩) (by omega)).mono ?_
    rintro e w1 ⟨rfl, hg⟩
    rw [HB.out, ← HRK.out]
    have H1 := Lib.hid (H.out.gr hg)
    have HG := Lib.hid hg
    have d1 := ((cellsOf H1.out.blk).1 1).trans (show _ = some (Value.slice (some ⟨g, 0, none⟩) L.length cap) from rfl)
    have j1 := hg.keep i1
    (try simp only at j1)
    obtain ⟨cur, hgc, _⟩ := H1.out.own.parts
    have jf := (cellsOf hgc).2
    have hgne : g ≠ b := fun e => H1.out.ne (by rw [e]; rfl)
    have HNE := Lib.hid hgne
    clear hg c0 i0 i1 hgc
    go_wp2
    go_region
    go_wp2
    go_ret3
    refine ⟨rfl, .slice (some ⟨g, 0, none⟩) L.length cap, ⟨blkSetO H1.out.blk (fun e => HNE.out e.symm), ?_, H1.out.ne, HSRT.out⟩, fun g' hg' => .inl hg', ?_⟩
    · have e : rowsl (putL ltS L k u) = (rowsl L).set (r * 2 + 1) (.slice (u).1 (u).2.1 (u).2.2) := by
        rw [HP.out]
        exact row_setsl L r k u0 u hx
      have el : (putL ltS L k u).length = L.length := by rw [HP.out]; simp
      rw [e, el]
      exact H1.out.own.set (by rw [row_lensl]; omega) _
    · exact ((HG.out.mdh _).setCell (p := ⟨g, r * 2 + 1, none⟩) (.inr rfl) _).drew

set_option maxRecDepth 40000 in
set_option maxHeartbeats 2000000 in
theorem DeleteOsl (b : Nat) (v : Value) (L : List Itsl) (k : ByteArray) (w : World) (h : OMsl w b v L) (hn : L.length ≤ 100000) :
    Calls Try.prog 115 #[.pointer (some ⟨b, 0, none⟩), .string (k)] w fun e w' => e = .returned (.tuple #[lookVsl L k, .bool (hasBsl L k)]) ∧ OMPostsl b v (delL ltS L k) w w' := by
  have H := Lib.hid h
  obtain ⟨r, hrd⟩ : ∃ r, r = rk ltS L k := ⟨_, rfl⟩
  have HRK := Lib.hid hrd
  have HSRT := Lib.hid (del_srt h.srt k)
  clear h hrd
  cases hl : look ltS L k with
  | none =>
    have HB := Lib.hid (show hasBsl L k = false by unfold hasBsl; rw [hl]; rfl)
    have HV := Lib.hid (show lookVsl L k = .slice none 0 0 by unfold lookVsl; rw [hl])
    have HP := Lib.hid (show delL ltS L k = L by unfold delL; rw [hl])
    clear hl
    rw [HB.out, HV.out]
    go_enter Try.func115, Try.ntmps115
    go_wp2_with fail
    refine (Getsl _ v L k _ (.inl ⟨b, rfl, H.out⟩) (by omega)).mono ?_
    rintro e w1 ⟨rfl, hg⟩
    rw [HB.out, HV.out]
    have H1 := Lib.hid (H.out.gr hg)
    go_wp2
    go_ret2
    exact ⟨rfl, v, by rw [HP.out]; exact H1.out, fun g hg => .inl hg, hg.mdh _⟩
  | some u0 =>
    have HB := Lib.hid (show hasBsl L k = true by unfold hasBsl; rw [hl]; rfl)
    have HV := Lib.hid (show lookVsl L k = .slice (u0).1 (u0).2.1 (u0).2.2 by unfold lookVsl; rw [hl])
    have HP := Lib.hid (show delL ltS L k = L.take r ++ L.drop (r + 1) by unfold delL; rw [hl, HRK.out])
    have hx : L[r]? = some (k, u0) := by rw [HRK.out]; exact look_some hl
    rw [HB.out, HV.out]
    obtain ⟨a, cap, rfl, hnc, hcm, hat⟩ := VWsl.at (.inl ⟨b, rfl, H.out⟩)
    obtain ⟨g, rfl, hgl, _, _⟩ := hat _ _ hx
    have hlt : r < L.length := (List.getElem?_eq_some_iff.1 hx).1
    have HLT := Lib.hid hlt
    have hlt' : (r : Int) < 100000 := by omega
    clear hl hat hgl hcm
    go_enter Try.func115, Try.ntmps115
    go_wp2_with fail
    refine (Getsl _ _ L k _ (.inl ⟨b, rfl, H.out⟩) (by omega)).mono ?_
    rintro e w1 ⟨rfl, hg⟩
    rw [HB.out, HV.out]
    have H1 := Lib.hid (H.out.gr hg)
    have HG := Lib.hid hg
    clear hg
    go_wp2_with fail
    refine (Ranksl _ _ L k _ (.inl ⟨b, rfl, H1.out⟩) (by omega)).mono ?_
    rintro e w2 ⟨rfl, hg⟩
    rw [← HRK.out]
    have H2 := Lib.hid (H1.out.gr hg)
    have HG2 := Lib.hid (HG.out.trans hg)
    have d1 := ((cellsOf H2.out.blk).1 1).trans (show _ = some (Value.slice (some ⟨g, 0, none⟩) L.length cap) from rfl)
    clear hg
    go_wp2_with fail
    refine (Deletesl g L.length cap r (rowsl L) _ H2.out.own (row_onesl L) HLT.out).mono ?_
    rintro e w3 ⟨rfl, ho, hm⟩
    have hgne : g ≠ b := fun e => H2.out.ne (by rw [e]; rfl)
    have hb3 := hm.blk H2.out.blk (fun e => hgne e.symm)
    have HO := Lib.hid ho
    have HM := Lib.hid hm
    have HB3 := Lib.hid hb3
    have HNE := Lib.hid hgne
    have e1 := ((cellsOf hb3).1 1).trans (show _ = some (Value.slice (some ⟨g, 0, none⟩) L.length cap) from rfl)
    have ef := (cellsOf hb3).2
    clear ho hm hb3 hgne d1
    go_wp2
    go_ret2
    refine ⟨rfl, .slice (some ⟨g, 0, none⟩) (L.length - 1) cap, ⟨blkSet (j := 1) (u := .slice (some ⟨g, 0, none⟩) (L.length - 1) cap) HB3.out, ?_, fun e => HNE.out (Option.some.inj e), HSRT.out⟩, fun g' hg' => .inl hg', ?_⟩
    · have e : rowsl (delL ltS L k) = (rowsl L).take (r * 2) ++ (rowsl L).drop ((r + 1) * 2) := by
        rw [HP.out, row_appsl, row_takesl, row_dropsl]
      have el : (delL ltS L k).length = L.length - 1 := by rw [HP.out]; have := HLT.out; simp; omega
      rw [e, el]
      exact HO.out.other (p := ⟨b, 1, none⟩) (fun h => HNE.out (Option.some.inj (show some g = some b from h))) _
    · exact ((HG2.out.mdh _).trans (HM.out.mono (fun q hq => .inr (by rw [hq]; rfl)))).setCell (p := ⟨b, 1, none⟩) (.inl rfl) _
end Go.Proofs.Ytiidkehcfoajeaa
