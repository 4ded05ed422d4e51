/- The methods of an ordered map at its ends and neighbours, New, Set, Delete, at keys int and values int. Written from YOmc.base by inst.py. -/
import Derived.Test.YtbhkigjmjmfbgaaOmbii
set_option linter.unusedVariables false
set_option linter.unusedSimpArgs false
namespace Go.Proofs.Ytbhkigjmjmfbgaa
open Go.RowKit
attribute [local go_sem] OvM cell_ovm obj_ovm

theorem atV_formii (o : Option Itii) : ∃ a b c, atVii o = .tuple #[a, b, .bool c] := by
  cases o with
  | none => exact ⟨_, _, _, rfl⟩
  | some x => exact ⟨_, _, _, rfl⟩
set_option maxRecDepth 40000 in
theorem Minii (p : Option Addr) (v : Value) (L : List Itii) (w : World) (h : VWii w p v L) (hn : L.length ≤ 1000000) :
    Calls Try.prog 49 #[.pointer p] w fun e w' => e = .returned (atVii (atO _ L 0)) ∧ Gr w w' := by
  have H := Lib.hid h
  clear h
  obtain ⟨x, y, c, hf⟩ := atV_formii (atO _ L 0)
  have HF := Lib.hid hf
  rw [hf]
  clear hf
  go_enter Try.func49, Try.ntmps49
  go_wp2_with (first
    | (go_at_call 16; refine (Lenii p v L _ H.out).mono ?_; rintro e w1 ⟨rfl, rfl⟩)
    | (go_at_call 56; refine (atii p v L _ _ H.out).mono ?_; rintro e w1 ⟨rfl, hg⟩; rw [HF.out]))
  go_ret3
  exact ⟨rfl, hg⟩
set_option maxRecDepth 40000 in
theorem Maxii (p : Option Addr) (v : Value) (L : List Itii) (w : World) (h : VWii w p v L) (hn : L.length ≤ 1000000) :
    Calls Try.prog 50 #[.pointer p] w fun e w' => e = .returned (atVii (atO _ L ((L.length : Int) - 1))) ∧ Gr w w' := by
  have H := Lib.hid h
  clear h
  obtain ⟨x, y, c, hf⟩ := atV_formii (atO _ L ((L.length : Int) - 1))
  have HF := Lib.hid hf
  rw [hf]
  clear hf
  go_enter Try.func50, Try.ntmps50
  go_wp2_with (first
    | (go_at_call 16; refine (Lenii p v L _ H.out).mono ?_; rintro e w1 ⟨rfl, rfl⟩)
    | (go_at_call 56; refine (atii p v L _ _ H.out).mono ?_; rintro e w1 ⟨rfl, hg⟩; rw [HF.out]))
  go_ret3
  exact ⟨rfl, hg⟩
set_option maxRecDepth 40000 in
theorem Ceilii (p : Option Addr) (v : Value) (L : List Itii) (k : Int) (w : World) (h : VWii w p v L) (hn : L.length ≤ 1000000) :
    Calls Try.prog 47 #[.pointer p, .int .i64 (k)] w fun e w' => e = .returned (atVii (L[rk ltZ L k]?)) ∧ Gr w w' := by
  have H := Lib.hid h
  clear h
  obtain ⟨x, y, c, hf⟩ := atV_formii (L[rk ltZ L k]?)
  have HF : Hid (atVii (atO _ L (rk ltZ L k : Nat)) = .tuple #[x, y, .bool c]) := Lib.hid (by rw [← hf]; unfold atO; rw [if_pos (by omega)]; simp)
  rw [hf]
  clear hf
  go_enter Try.func47, Try.ntmps47
  go_wp2_with fail
  refine (Rankii p v L k _ H.out hn).mono ?_
  rintro e w1 ⟨rfl, hg⟩
  have H1 := Lib.hid (H.out.gr hg)
  have HG := Lib.hid hg
  clear hg
  go_wp2_with fail
  refine (atii p v L _ _ H1.out).mono ?_
  rintro e w2 ⟨rfl, hg⟩
  rw [HF.out]
  go_wp2
  go_ret3
  exact ⟨rfl, HG.out.trans hg⟩
set_option maxRecDepth 40000 in
theorem Floorii (p : Option Addr) (v : Value) (L : List Itii) (k : Int) (w : World) (h : VWii w p v L) (hn : L.length ≤ 1000000) :
    Calls Try.prog 48 #[.pointer p, .int .i64 (k)] w fun e w' => e = .returned (atVii (atO _ L ((up ltZ L k : Nat) - 1))) ∧ Gr w w' := by
  have H := Lib.hid h
  clear h
  obtain ⟨x, y, c, hf⟩ := atV_formii (atO _ L ((up ltZ L k : Nat) - 1))
  have HF := Lib.hid hf
  rw [hf]
  clear hf
  have hu : (up ltZ L k : Int) ≤ 1000001 := by
    have := rk_le (lt := ltZ) L k
    have h2 : up ltZ L k ≤ rk ltZ L k + 1 := by unfold up; split <;> omega
    omega
  go_enter Try.func48, Try.ntmps48
  go_wp2_with (first
    | (go_at_call 57; refine (itemsii p v L _ (H.out.gr (by (repeat (first | (with_reducible exact Gr.refl _) | assumption | (with_reducible apply Gr.from_drew) | (with_reducible apply Gr.alloc) | (with_reducible apply Gr.drew) | (with_reducible refine Gr.trans ?_ (by assumption)) | (with_reducible refine Gr.setCell ?_ (by omega) _)))))).mono ?_; rintro e w1 ⟨rfl, rfl⟩)
    | (go_at_call 109; refine (firstFloorii p v L k w.heap.size _ (H.out.gr (by (repeat (first | (with_reducible exact Gr.refl _) | assumption | (with_reducible apply Gr.from_drew) | (with_reducible apply Gr.alloc) | (with_reducible apply Gr.drew) | (with_reducible refine Gr.trans ?_ (by assumption)) | (with_reducible refine Gr.setCell ?_ (by omega) _))))) hn (by simp [go_sem])).mono ?_; rintro e w1 ⟨rfl, hg⟩))
  refine (atii p v L _ _ ((H.out.gr ((Gr.alloc (Gr.refl w) _).trans hg)))).mono ?_
  rintro e w2 ⟨rfl, hg2⟩
  rw [HF.out]
  go_wp2
  go_ret3
  exact ⟨rfl, ((Gr.alloc (Gr.refl w) _).trans hg).trans hg2⟩

def atEii (p : Option Addr) (made : Bool) (o : Option Itii) : Value := match o with
  | some x => .tuple #[.int .i64 (x.1), .int .i64 (x.2), .int .i64 0]
  | none => .tuple #[.int .i64 0, .int .i64 0, .int .i64 (if made then 3 else 1)]
set_option maxRecDepth 40000 in
theorem Atii (b : Nat) (v : Value) (L : List Itii) (i : Int) (w : World) (h : OMii w b v L) :
    Calls Try.prog 15 #[.pointer (some ⟨b, 0, none⟩), .int .i64 i] w fun e w' => e = .returned (atEii (some ⟨b, 0, none⟩) true (atO _ L i)) ∧ Gr w w' := by
  have H := Lib.hid h
  have c0 := ((cellsOf h.blk).1 0).trans (show _ = some (Value.bool true) from rfl)
  clear h
  cases ho : atO _ L i with
  | none =>
    have HO := Lib.hid ho
    go_enter Try.func15, Try.ntmps15
    go_wp2_with fail
    refine (atii _ v L i _ (.inl ⟨b, rfl, H.out⟩)).mono ?_
    rintro e w1 ⟨rfl, hg⟩
    rw [HO.out]
    have d0 := hg.keep c0
    simp only [atVii]
    go_wp2
    go_ret3
    exact ⟨rfl, hg⟩
  | some x =>
    have HO := Lib.hid ho
    go_enter Try.func15, Try.ntmps15
    go_wp2_with fail
    refine (atii _ v L i _ (.inl ⟨b, rfl, H.out⟩)).mono ?_
    rintro e w1 ⟨rfl, hg⟩
    rw [HO.out]
    have d0 := hg.keep c0
    simp only [atVii]
    go_wp2
    go_ret3
    exact ⟨rfl, hg⟩

set_option maxRecDepth 40000 in
theorem NewOii (w : World) : Calls Try.prog 51 #[] w fun e w' => e = .returned (.pointer (some ⟨w.heap.size, 0, none⟩)) ∧ OMii w' w.heap.size (.slice none 0 0) [] ∧ Gr w w' := by
  go_enter Try.func51, Try.ntmps51
  go_wp2
  go_ret
  exact ⟨rfl, ⟨blkNew _ _, ⟨rfl, .inl ⟨rfl, rfl⟩⟩, (fun h => by cases h), List.Pairwise.nil⟩, by (repeat (first | (with_reducible exact Gr.refl _) | assumption | (with_reducible apply Gr.from_drew) | (with_reducible apply Gr.alloc) | (with_reducible apply Gr.drew) | (with_reducible refine Gr.trans ?_ (by assumption)) | (with_reducible refine Gr.setCell ?_ (by omega) _)))⟩

/-- What Set and Delete leave. -/
def OMPostii (b : Nat) (v : Value) (L' : List Itii) (w w' : World) : Prop := ∃ v', OMii w' b v' L' ∧ (∀ g, v'.ownBlock = some g → v.ownBlock = some g ∨ w.heap.size ≤ g) ∧ Mdh (fun k => k = b ∨ v.ownBlock = some k) w w'

set_option maxRecDepth 40000 in
set_option maxHeartbeats 2000000 in
theorem Setii (b : Nat) (v : Value) (L : List Itii) (k : Int) (u : Int) (w : World) (h : OMii w b v L) (hn : L.length ≤ 100000) :
    Calls Try.prog 41 #[.pointer (some ⟨b, 0, none⟩), .int .i64 (k), .int .i64 (u)] w fun e w' => e = .returned (.tuple #[lookVii L k, .bool (hasBii L k), .int .i64 0]) ∧ OMPostii b v (putL ltZ L k u) w w' := by
  have H := Lib.hid h
  have c0 := ((cellsOf h.blk).1 0).trans (show _ = some (Value.bool true) from rfl)
  have hr := rk_le (lt := ltZ) L k
  obtain ⟨r, hrd⟩ : ∃ r, r = rk ltZ L k := ⟨_, rfl⟩
  have HRK := Lib.hid hrd
  rw [← hrd] at hr
  have HSRT := Lib.hid (put_srt ordZ h.srt k u)
  clear h hrd
  cases hl : look ltZ L k with
  | none =>
    have HB := Lib.hid (show hasBii L k = false by unfold hasBii; rw [hl]; rfl)
    have HV := Lib.hid (show lookVii L k = .int .i64 0 by unfold lookVii; rw [hl])
    have HP := Lib.hid (show putL ltZ L k u = L.take r ++ [(k, u)] ++ L.drop r by unfold putL; rw [hl, HRK.out])
    rw [HB.out, HV.out]
    clear hl
    go_enter Try.func41, Try.ntmps41
    go_wp2_with fail
    refine (findii _ v L k _ (.inl ⟨b, rfl, H.out⟩) (by omega)).mono ?_
    rintro e w1 ⟨rfl, hg⟩
    rw [HB.out, ← HRK.out]
    have H1 := Lib.hid (H.out.gr hg)
    have HG := Lib.hid hg
    have d1 := ((cellsOf H1.out.blk).1 1).trans (show _ = some v from rfl)
    clear hg c0
    go_wp2_with fail
    refine (Insertii v L.length r (rowii L) [.int .i64 (k), .int .i64 (u)] w1.heap.size _ (H1.out.own.gr (by (repeat (first | (with_reducible exact Gr.refl _) | assumption | (with_reducible apply Gr.from_drew) | (with_reducible apply Gr.alloc) | (with_reducible apply Gr.drew) | (with_reducible refine Gr.trans ?_ (by assumption)) | (with_reducible refine Gr.setCell ?_ (by omega) _))))) (row_oneii L) hr (by omega) (blkNew w1 _) rfl (by intro x hx; simp only [List.mem_cons, List.not_mem_nil, or_false] at hx; rcases hx with rfl | rfl <;> rfl) (fun e => by have := H1.out.own.lt e; omega)).mono ?_
    rintro e w2 ⟨g, cap, rfl, ho, hgw, hm⟩
    have HO := Lib.hid ho
    have HM := Lib.hid hm
    have HGW := Lib.hid hgw
    have hb1 : w2.heap[b]? = some (.cells #[.bool true, v] 107 (0, 0)) := hm.blk (blkOld H1.out.blk) (fun e => H1.out.ne e)
    have HB1 := Lib.hid hb1
    have e0 := ((cellsOf hb1).1 0).trans (show _ = some (Value.bool true) from rfl)
    have e1 := ((cellsOf hb1).1 1).trans (show _ = some v from rfl)
    have ef := (cellsOf hb1).2
    have hgb : g ≠ b := by
      have hbl := blkLt H1.out.blk
      rcases hgw with h | h
      · exact fun e => H1.out.ne (by rw [h, e])
      · simp only [World.size_alloc] at h; omega
    have HGB := Lib.hid hgb
    clear ho hm hgw hb1 d1 hgb
    go_wp2
    go_ret3
    refine ⟨rfl, .slice (some ⟨g, 0, none⟩) (L.length + 1) cap, ⟨blkSet (j := 1) (u := .slice (some ⟨g, 0, none⟩) (L.length + 1) cap) HB1.out, ?_, fun e => HGB.out (Option.some.inj e), HSRT.out⟩, fun g' hg' => ?_, ?_⟩
    · have e : rowii (putL ltZ L k u) = (rowii L).take (r * 2) ++ [.int .i64 (k), .int .i64 (u)] ++ (rowii L).drop (r * 2) := by
        rw [HP.out, row_appii, row_appii, row_takeii, row_dropii]; rfl
      have el : (putL ltZ L k u).length = L.length + 1 := by rw [HP.out]; simp; omega
      rw [e, el]
      exact HO.out.other (p := ⟨b, 1, none⟩) (fun h => HGB.out (Option.some.inj (show some g = some b from h))) _
    · obtain rfl : g = g' := Option.some.inj hg'
      exact HGW.out.imp (fun h => h) (fun h => Nat.le_trans HG.out.sz (by simp at h; omega))
    · exact (((HG.out.mdh _).alloc _).trans (HM.out.mono (fun q hq => .inr hq))).setCell (p := ⟨b, 1, none⟩) (.inl rfl) _
  | some u0 =>
    have HB := Lib.hid (show hasBii L k = true by unfold hasBii; rw [hl]; rfl)
    have HV := Lib.hid (show lookVii L k = .int .i64 (u0) by unfold lookVii; rw [hl])
    have HP := Lib.hid (show putL ltZ L k u = L.set r (k, u) by unfold putL; rw [hl, HRK.out])
    have hx : L[r]? = some (k, u0) := by rw [HRK.out]; exact look_some hl
    rw [HB.out, HV.out]
    obtain ⟨a, cap, rfl, hnc, hcm, hat⟩ := VWii.at (.inl ⟨b, rfl, H.out⟩)
    obtain ⟨g, rfl, hgl, i0, i1⟩ := hat _ _ hx
    have hlt : r < L.length := (List.getElem?_eq_some_iff.1 hx).1
    have hlt' : (r : Int) < L.length := by omega
    unfold maxLen at hcm
    clear hl hat hgl
    go_enter Try.func41, Try.ntmps41
    go_wp2_with fail
    refine (findii _ _ L k _ (.inl ⟨b, rfl, H.out⟩) (by omega)).mono ?_
    rintro e w1 ⟨rfl, hg⟩
    rw [HB.out, ← HRK.out]
    have H1 := Lib.hid (H.out.gr hg)
    have HG := Lib.hid hg
    have d1 := ((cellsOf H1.out.blk).1 1).trans (show _ = some (Value.slice (some ⟨g, 0, none⟩) L.length cap) from rfl)
    have j1 := hg.keep i1
    (try simp only at j1)
    obtain ⟨cur, hgc, _⟩ := H1.out.own.parts
    have jf := (cellsOf hgc).2
    have hgne : g ≠ b := fun e => H1.out.ne (by rw [e]; rfl)
    have HNE := Lib.hid hgne
    clear hg c0 i0 i1 hgc
    go_wp2
    go_region
    go_wp2
    go_ret3
    refine ⟨rfl, .slice (some ⟨g, 0, none⟩) L.length cap, ⟨blkSetO H1.out.blk (fun e => HNE.out e.symm), ?_, H1.out.ne, HSRT.out⟩, fun g' hg' => .inl hg', ?_⟩
    · have e : rowii (putL ltZ L k u) = (rowii L).set (r * 2 + 1) (.int .i64 (u)) := by
        rw [HP.out]
        exact row_setii L r k u0 u hx
      have el : (putL ltZ L k u).length = L.length := by rw [HP.out]; simp
      rw [e, el]
      exact H1.out.own.set (by rw [row_lenii]; omega) _
    · exact ((HG.out.mdh _).setCell (p := ⟨g, r * 2 + 1, none⟩) (.inr rfl) _).drew

set_option maxRecDepth 40000 in
set_option maxHeartbeats 2000000 in
theorem DeleteOii (b : Nat) (v : Value) (L : List Itii) (k : Int) (w : World) (h : OMii w b v L) (hn : L.length ≤ 100000) :
    Calls Try.prog 40 #[.pointer (some ⟨b, 0, none⟩), .int .i64 (k)] w fun e w' => e = .returned (.tuple #[lookVii L k, .bool (hasBii L k)]) ∧ OMPostii b v (delL ltZ L k) w w' := by
  have H := Lib.hid h
  obtain ⟨r, hrd⟩ : ∃ r, r = rk ltZ L k := ⟨_, rfl⟩
  have HRK := Lib.hid hrd
  have HSRT := Lib.hid (del_srt h.srt k)
  clear h hrd
  cases hl : look ltZ L k with
  | none =>
    have HB := Lib.hid (show hasBii L k = false by unfold hasBii; rw [hl]; rfl)
    have HV := Lib.hid (show lookVii L k = .int .i64 0 by unfold lookVii; rw [hl])
    have HP := Lib.hid (show delL ltZ L k = L by unfold delL; rw [hl])
    clear hl
    rw [HB.out, HV.out]
    go_enter Try.func40, Try.ntmps40
    go_wp2_with fail
    refine (Getii _ v L k _ (.inl ⟨b, rfl, H.out⟩) (by omega)).mono ?_
    rintro e w1 ⟨rfl, hg⟩
    rw [HB.out, HV.out]
    have H1 := Lib.hid (H.out.gr hg)
    go_wp2
    go_ret2
    exact ⟨rfl, v, by rw [HP.out]; exact H1.out, fun g hg => .inl hg, hg.mdh _⟩
  | some u0 =>
    have HB := Lib.hid (show hasBii L k = true by unfold hasBii; rw [hl]; rfl)
    have HV := Lib.hid (show lookVii L k = .int .i64 (u0) by unfold lookVii; rw [hl])
    have HP := Lib.hid (show delL ltZ L k = L.take r ++ L.drop (r + 1) by unfold delL; rw [hl, HRK.out])
    have hx : L[r]? = some (k, u0) := by rw [HRK.out]; exact look_some hl
    rw [HB.out, HV.out]
    obtain ⟨a, cap, rfl, hnc, hcm, hat⟩ := VWii.at (.inl ⟨b, rfl, H.out⟩)
    obtain ⟨g, rfl, hgl, _, _⟩ := hat _ _ hx
    have hlt : r < L.length := (List.getElem?_eq_some_iff.1 hx).1
    have HLT := Lib.hid hlt
    have hlt' : (r : Int) < 100000 := by omega
    clear hl hat hgl hcm
    go_enter Try.func40, Try.ntmps40
    go_wp2_with fail
    refine (Getii _ _ L k _ (.inl ⟨b, rfl, H.out⟩) (by omega)).mono ?_
    rintro e w1 ⟨rfl, hg⟩
    rw [HB.out, HV.out]
    have H1 := Lib.hid (H.out.gr hg)
    have HG := Lib.hid hg
    clear hg
    go_wp2_with fail
    refine (Rankii _ _ L k _ (.inl ⟨b, rfl, H1.out⟩) (by omega)).mono ?_
    rintro e w2 ⟨rfl, hg⟩
    rw [← HRK.out]
    have H2 := Lib.hid (H1.out.gr hg)
    have HG2 := Lib.hid (HG.out.trans hg)
    have d1 := ((cellsOf H2.out.blk).1 1).trans (show _ = some (Value.slice (some ⟨g, 0, none⟩) L.length cap) from rfl)
    clear hg
    go_wp2_with fail
    refine (Deleteii g L.length cap r (rowii L) _ H2.out.own (row_oneii L) HLT.out).mono ?_
    rintro e w3 ⟨rfl, ho, hm⟩
    have hgne : g ≠ b := fun e => H2.out.ne (by rw [e]; rfl)
    have hb3 := hm.blk H2.out.blk (fun e => hgne e.symm)
    have HO := Lib.hid ho
    have HM := Lib.hid hm
    have HB3 := Lib.hid hb3
    have HNE := Lib.hid hgne
    have e1 := ((cellsOf hb3).1 1).trans (show _ = some (Value.slice (some ⟨g, 0, none⟩) L.length cap) from rfl)
    have ef := (cellsOf hb3).2
    clear ho hm hb3 hgne d1
    go_wp2
    go_ret2
    refine ⟨rfl, .slice (some ⟨g, 0, none⟩) (L.length - 1) cap, ⟨blkSet (j := 1) (u := .slice (some ⟨g, 0, none⟩) (L.length - 1) cap) HB3.out, ?_, fun e => HNE.out (Option.some.inj e), HSRT.out⟩, fun g' hg' => .inl hg', ?_⟩
    · have e : rowii (delL ltZ L k) = (rowii L).take (r * 2) ++ (rowii L).drop ((r + 1) * 2) := by
        rw [HP.out, row_appii, row_takeii, row_dropii]
      have el : (delL ltZ L k).length = L.length - 1 := by rw [HP.out]; have := HLT.out; simp; omega
      rw [e, el]
      exact HO.out.other (p := ⟨b, 1, none⟩) (fun h => HNE.out (Option.some.inj (show some g = some b from h))) _
    · exact ((HG2.out.mdh _).trans (HM.out.mono (fun q hq => .inr (by rw [hq]; rfl)))).setCell (p := ⟨b, 1, none⟩) (.inl rfl) _
end Go.Proofs.Ytbhkigjmjmfbgaa
