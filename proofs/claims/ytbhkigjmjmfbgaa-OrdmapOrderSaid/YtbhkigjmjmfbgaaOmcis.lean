/- The methods of an ordered map at its ends and neighbours, New, Set, Delete, at keys int and values string. Written from YOmc.base by inst.py. -/
import Derived.Test.YtbhkigjmjmfbgaaOmbis
set_option linter.unusedVariables false
set_option linter.unusedSimpArgs false
namespace Go.Proofs.Ytbhkigjmjmfbgaa
open Go.RowKit
attribute [local go_sem] OvM cell_ovm obj_ovm

theorem atV_formis (o : Option Itis) : ∃ a b c, atVis o = .tuple #[a, b, .bool c] := by
  cases o with
  | none => exact ⟨_, _, _, rfl⟩
  | some x => exact ⟨_, _, _, rfl⟩
set_option maxRecDepth 40000 in
theorem Minis (p : Option Addr) (v : Value) (L : List Itis) (w : World) (h : VWis w p v L) (hn : L.length ≤ 1000000) :
    Calls Try.prog 67 #[.pointer p] w fun e w' => e = .returned (atVis (atO _ L 0)) ∧ Gr w w' := by
  have H := Lib.hid h
  clear h
  obtain ⟨x, y, c, hf⟩ := atV_formis (atO _ L 0)
  have HF := Lib.hid hf
  rw [hf]
  clear hf
  go_enter Try.func67, Try.ntmps67
  go_wp2_with (first
    | (go_at_call 69; refine (Lenis p v L _ H.out).mono ?_; rintro e w1 ⟨rfl, rfl⟩)
    | (go_at_call 116; refine (atis p v L _ _ H.out).mono ?_; rintro e w1 ⟨rfl, hg⟩; rw [HF.out]))
  go_ret3
  exact ⟨rfl, hg⟩
set_option maxRecDepth 40000 in
theorem Ceilis (p : Option Addr) (v : Value) (L : List Itis) (k : Int) (w : World) (h : VWis w p v L) (hn : L.length ≤ 1000000) :
    Calls Try.prog 62 #[.pointer p, .int .i64 (k)] w fun e w' => e = .returned (atVis (L[rk ltZ L k]?)) ∧ Gr w w' := by
  have H := Lib.hid h
  clear h
  obtain ⟨x, y, c, hf⟩ := atV_formis (L[rk ltZ L k]?)
  have HF : Hid (atVis (atO _ L (rk ltZ L k : Nat)) = .tuple #[x, y, .bool c]) := Lib.hid (by rw [← hf]; unfold atO; rw [if_pos (by omega)]; simp)
  rw [hf]
  clear hf
  go_enter Try.func62, Try.ntmps62
  go_wp2_with fail
  refine (Rankis p v L k _ H.out hn).mono ?_
  rintro e w1 ⟨rfl, hg⟩
  have H1 := Lib.hid (H.out.gr hg)
  have HG := Lib.hid hg
  clear hg
  go_wp2_with fail
  refine (atis p v L _ _ H1.out).mono ?_
  rintro e w2 ⟨rfl, hg⟩
  rw [HF.out]
  go_wp2
  go_ret3
  exact ⟨rfl, HG.out.trans hg⟩
set_option maxRecDepth 40000 in
theorem Flooris (p : Option Addr) (v : Value) (L : List Itis) (k : Int) (w : World) (h : VWis w p v L) (hn : L.length ≤ 1000000) :
    Calls Try.prog 61 #[.pointer p, .int .i64 (k)] w fun e w' => e = .returned (atVis (atO _ L ((up ltZ L k : Nat) - 1))) ∧ Gr w w' := by
  have H := Lib.hid h
  clear h
  obtain ⟨x, y, c, hf⟩ := atV_formis (atO _ L ((up ltZ L k : Nat) - 1))
  have HF := Lib.hid hf
  rw [hf]
  clear hf
  have hu : (up ltZ L k : Int) ≤ 1000001 := by
    have := rk_le (lt := ltZ) L k
    have h2 : up ltZ L k ≤ rk ltZ L k + 1 := by unfold up; split <;> omega
    omega
  go_enter Try.func61, Try.ntmps61
  go_wp2_with (first
    | (go_at_call 118; refine (itemsis p v L _ (H.out.gr (by (repeat (first | (with_reducible exact Gr.refl _) | assumption | (with_reducible apply Gr.from_drew) | (with_reducible apply Gr.alloc) | (with_reducible apply Gr.drew) | (with_reducible refine Gr.trans ?_ (by assumption)) | (with_reducible refine Gr.setCell ?_ (by omega) _)))))).mono ?_; rintro e w1 ⟨rfl, rfl⟩)
    | (go_at_call 117; refine (firstFlooris p v L k w.heap.size _ (H.out.gr (by (repeat (first | (with_reducible exact Gr.refl _) | assumption | (with_reducible apply Gr.from_drew) | (with_reducible apply Gr.alloc) | (with_reducible apply Gr.drew) | (with_reducible refine Gr.trans ?_ (by assumption)) | (with_reducible refine Gr.setCell ?_ (by omega) _))))) hn (by simp [go_sem])).mono ?_; rintro e w1 ⟨rfl, hg⟩))
  refine (atis p v L _ _ ((H.out.gr ((Gr.alloc (Gr.refl w) _).trans hg)))).mono ?_
  rintro e w2 ⟨rfl, hg2⟩
  rw [HF.out]
  go_wp2
  go_ret3
  exact ⟨rfl, ((Gr.alloc (Gr.refl w) _).trans hg).trans hg2⟩

def atEis (p : Option Addr) (made : Bool) (o : Option Itis) : Value := match o with
  | some x => .tuple #[.int .i64 (x.1), .string (x.2), .int .i64 0]
  | none => .tuple #[.int .i64 0, .string ⟨#[]⟩, .int .i64 (if made then 3 else 1)]
set_option maxRecDepth 40000 in
theorem Atis (b : Nat) (v : Value) (L : List Itis) (i : Int) (w : World) (h : OMis w b v L) :
    Calls Try.prog 63 #[.pointer (some ⟨b, 0, none⟩), .int .i64 i] w fun e w' => e = .returned (atEis (some ⟨b, 0, none⟩) true (atO _ L i)) ∧ Gr w w' := by
  have H := Lib.hid h
  have c0 := ((cellsOf h.blk).1 0).trans (show _ = some (Value.bool true) from rfl)
  clear h
  cases ho : atO _ L i with
  | none =>
    have HO := Lib.hid ho
    go_enter Try.func63, Try.ntmps63
    go_wp2_with fail
    refine (atis _ v L i _ (.inl ⟨b, rfl, H.out⟩)).mono ?_
    rintro e w1 ⟨rfl, hg⟩
    rw [HO.out]
    have d0 := hg.keep c0
    simp only [atVis]
    go_wp2
    go_ret3
    exact ⟨rfl, hg⟩
  | some x =>
    have HO := Lib.hid ho
    go_enter Try.func63, Try.ntmps63
    go_wp2_with fail
    refine (atis _ v L i _ (.inl ⟨b, rfl, H.out⟩)).mono ?_
    rintro e w1 ⟨rfl, hg⟩
    rw [HO.out]
    have d0 := hg.keep c0
    simp only [atVis]
    go_wp2
    go_ret3
    exact ⟨rfl, hg⟩

set_option maxRecDepth 40000 in
theorem NewOis (w : World) : Calls Try.prog 59 #[] w fun e w' => e = .returned (.pointer (some ⟨w.heap.size, 0, none⟩)) ∧ OMis w' w.heap.size (.slice none 0 0) [] ∧ Gr w w' := by
  go_enter Try.func59, Try.ntmps59
  go_wp2
  go_ret
  exact ⟨rfl, ⟨blkNew _ _, ⟨rfl, .inl ⟨rfl, rfl⟩⟩, (fun h => by cases h), List.Pairwise.nil⟩, by (repeat (first | (with_reducible exact Gr.refl _) | assumption | (with_reducible apply Gr.from_drew) | (with_reducible apply Gr.alloc) | (with_reducible apply Gr.drew) | (with_reducible refine Gr.trans ?_ (by assumption)) | (with_reducible refine Gr.setCell ?_ (by omega) _)))⟩

/-- What Set and Delete leave. -/
def OMPostis (b : Nat) (v : Value) (L' : List Itis) (w w' : World) : Prop := ∃ v', OMis w' b v' L' ∧ (∀ g, v'.ownBlock = some g → v.ownBlock = some g ∨ w.heap.size ≤ g) ∧ Mdh (fun k => k = b ∨ v.ownBlock = some k) w w'

set_option maxRecDepth 40000 in
set_option maxHeartbeats 2000000 in
theorem Setis (b : Nat) (v : Value) (L : List Itis) (k : Int) (u : ByteArray) (w : World) (h : OMis w b v L) (hn : L.length ≤ 100000) :
    Calls Try.prog 60 #[.pointer (some ⟨b, 0, none⟩), .int .i64 (k), .string (u)] w fun e w' => e = .returned (.tuple #[lookVis L k, .bool (hasBis L k), .int .i64 0]) ∧ OMPostis b v (putL ltZ L k u) w w' := by
  have H := Lib.hid h
  have c0 := ((cellsOf h.blk).1 0).trans (show _ = some (Value.bool true) from rfl)
  have hr := rk_le (lt := ltZ) L k
  obtain ⟨r, hrd⟩ : ∃ r, r = rk ltZ L k := ⟨_, rfl⟩
  have HRK := Lib.hid hrd
  rw [← hrd] at hr
  have HSRT := Lib.hid (put_srt ordZ h.srt k u)
  clear h hrd
  cases hl : look ltZ L k with
  | none =>
    have HB := Lib.hid (show hasBis L k = false by unfold hasBis; rw [hl]; rfl)
    have HV := Lib.hid (show lookVis L k = .string ⟨#[]⟩ by unfold lookVis; rw [hl])
    have HP := Lib.hid (show putL ltZ L k u = L.take r ++ [(k, u)] ++ L.drop r by unfold putL; rw [hl, HRK.out])
    rw [HB.out, HV.out]
    clear hl
    go_enter Try.func60, Try.ntmps60
    go_wp2_with fail
    refine (findis _ v L k _ (.inl ⟨b, rfl, H.out⟩) (by omega)).mono ?_
    rintro e w1 ⟨rfl, hg⟩
    rw [HB.out, ← HRK.out]
    have H1 := Lib.hid (H.out.gr hg)
    have HG := Lib.hid hg
    have d1 := ((cellsOf H1.out.blk).1 1).trans (show _ = some v from rfl)
    clear hg c0
    go_wp2_with fail
    refine (Insertis v L.length r (rowis L) [.int .i64 (k), .string (u)] w1.heap.size _ (H1.out.own.gr (by (repeat (first | (with_reducible exact Gr.refl _) | assumption | (with_reducible apply Gr.from_drew) | (with_reducible apply Gr.alloc) | (with_reducible apply Gr.drew) | (with_reducible refine Gr.trans ?_ (by assumption)) | (with_reducible refine Gr.setCell ?_ (by omega) _))))) (row_oneis L) hr (by omega) (blkNew w1 _) rfl (by intro x hx; simp only [List.mem_cons, List.not_mem_nil, or_false] at hx; rcases hx with rfl | rfl <;> rfl) (fun e => by have := H1.out.own.lt e; omega)).mono ?_
    rintro e w2 ⟨g, cap, rfl, ho, hgw, hm⟩
    have HO := Lib.hid ho
    have HM := Lib.hid hm
    have HGW := Lib.hid hgw
    have hb1 : w2.heap[b]? = some (.cells #[.bool true, v] 173 (0, 0)) := hm.blk (blkOld H1.out.blk) (fun e => H1.out.ne e)
    have HB1 := Lib.hid hb1
    have e0 := ((cellsOf hb1).1 0).trans (show _ = some (Value.bool true) from rfl)
    have e1 := ((cellsOf hb1).1 1).trans (show _ = some v from rfl)
    have ef := (cellsOf hb1).2
    have hgb : g ≠ b := by
      have hbl := blkLt H1.out.blk
      rcases hgw with h | h
      · exact fun e => H1.out.ne (by rw [h, e])
      · simp only [World.size_alloc] at h; omega
    have HGB := Lib.hid hgb
    clear ho hm hgw hb1 d1 hgb
    go_wp2
    go_ret3
    refine ⟨rfl, .slice (some ⟨g, 0, none⟩) (L.length + 1) cap, ⟨blkSet (j := 1) (u := .slice (some ⟨g, 0, none⟩) (L.length + 1) cap) HB1.out, ?_, fun e => HGB.out (Option.some.inj e), HSRT.out⟩, fun g' hg' => ?_, ?_⟩
    · have e : rowis (putL ltZ L k u) = (rowis L).take (r * 2) ++ [.int .i64 (k), .string (u)] ++ (rowis L).drop (r * 2) := by
        rw [HP.out, row_appis, row_appis, row_takeis, row_dropis]; rfl
      have el : (putL ltZ L k u).length = L.length + 1 := by rw [HP.out]; simp; omega
      rw [e, el]
      exact HO.out.other (p := ⟨b, 1, none⟩) (fun h => HGB.out (Option.some.inj (show some g = some b from h))) _
    · obtain rfl : g = g' := Option.some.inj hg'
      exact HGW.out.imp (fun h => h) (fun h => Nat.le_trans HG.out.sz (by simp at h; omega))
    · exact (((HG.out.mdh _).alloc _).trans (HM.out.mono (fun q hq => .inr hq))).setCell (p := ⟨b, 1, none⟩) (.inl rfl) _
  | some u0 =>
    have HB := Lib.hid (show hasBis L k = true by unfold hasBis; rw [hl]; rfl)
    have HV := Lib.hid (show lookVis L k = .string (u0) by unfold lookVis; rw [hl])
    have HP := Lib.hid (show putL ltZ L k u = L.set r (k, u) by unfold putL; rw [hl, HRK.out])
    have hx : L[r]? = some (k, u0) := by rw [HRK.out]; exact look_some hl
    rw [HB.out, HV.out]
    obtain ⟨a, cap, rfl, hnc, hcm, hat⟩ := VWis.at (.inl ⟨b, rfl, H.out⟩)
    obtain ⟨g, rfl, hgl, i0, i1⟩ := hat _ _ hx
    have hlt : r < L.length := (List.getElem?_eq_some_iff.1 hx).1
    have hlt' : (r : Int) < L.length := by omega
    unfold maxLen at hcm
    clear hl hat hgl
    go_enter Try.func60, Try.ntmps60
    go_wp2_with fail
    refine (findis _ _ L k _ (.inl ⟨b, rfl, H.out⟩) (by omega)).mono ?_
    rintro e w1 ⟨rfl, hg⟩
    rw [HB.out, ← HRK.out]
    have H1 := Lib.hid (H.out.gr hg)
    have HG := Lib.hid hg
    have d1 := ((cellsOf H1.out.blk).1 1).trans (show _ = some (Value.slice (some ⟨g, 0, none⟩) L.length cap) from rfl)
    have j1 := hg.keep i1
    (try simp only at j1)
    obtain ⟨cur, hgc, _⟩ := H1.out.own.parts
    have jf := (cellsOf hgc).2
    have hgne : g ≠ b := fun e => H1.out.ne (by rw [e]; rfl)
    have HNE := Lib.hid hgne
    clear hg c0 i0 i1 hgc
    go_wp2
    go_region
    go_wp2
    go_ret3
    refine ⟨rfl, .slice (some ⟨g, 0, none⟩) L.length cap, ⟨blkSetO H1.out.blk (fun e => HNE.out e.symm), ?_, H1.out.ne, HSRT.out⟩, fun g' hg' => .inl hg', ?_⟩
    · have e : rowis (putL ltZ L k u) = (rowis L).set (r * 2 + 1) (.string (u)) := by
        rw [HP.out]
        exact row_setis L r k u0 u hx
      have el : (putL ltZ L k u).length = L.length := by rw [HP.out]; simp
      rw [e, el]
      exact H1.out.own.set (by rw [row_lenis]; omega) _
    · exact ((HG.out.mdh _).setCell (p := ⟨g, r * 2 + 1, none⟩) (.inr rfl) _).drew

set_option maxRecDepth 40000 in
set_option maxHeartbeats 2000000 in
theorem DeleteOis (b : Nat) (v : Value) (L : List Itis) (k : Int) (w : World) (h : OMis w b v L) (hn : L.length ≤ 100000) :
    Calls Try.prog 66 #[.pointer (some ⟨b, 0, none⟩), .int .i64 (k)] w fun e w' => e = .returned (.tuple #[lookVis L k, .bool (hasBis L k)]) ∧ OMPostis b v (delL ltZ L k) w w' := by
  have H := Lib.hid h
  obtain ⟨r, hrd⟩ : ∃ r, r = rk ltZ L k := ⟨_, rfl⟩
  have HRK := Lib.hid hrd
  have HSRT := Lib.hid (del_srt h.srt k)
  clear h hrd
  cases hl : look ltZ L k with
  | none =>
    have HB := Lib.hid (show hasBis L k = false by unfold hasBis; rw [hl]; rfl)
    have HV := Lib.hid (show lookVis L k = .string ⟨#[]⟩ by unfold lookVis; rw [hl])
    have HP := Lib.hid (show delL ltZ L k = L by unfold delL; rw [hl])
    clear hl
    rw [HB.out, HV.out]
    go_enter Try.func66, Try.ntmps66
    go_wp2_with fail
    refine (Getis _ v L k _ (.inl ⟨b, rfl, H.out⟩) (by omega)).mono ?_
    rintro e w1 ⟨rfl, hg⟩
    rw [HB.out, HV.out]
    have H1 := Lib.hid (H.out.gr hg)
    go_wp2
    go_ret2
    exact ⟨rfl, v, by rw [HP.out]; exact H1.out, fun g hg => .inl hg, hg.mdh _⟩
  | some u0 =>
    have HB := Lib.hid (show hasBis L k = true by unfold hasBis; rw [hl]; rfl)
    have HV := Lib.hid (show lookVis L k = .string (u0) by unfold lookVis; rw [hl])
    have HP := Lib.hid (show delL ltZ L k = L.take r ++ L.drop (r + 1) by unfold delL; rw [hl, HRK.out])
    have hx : L[r]? = some (k, u0) := by rw [HRK.out]; exact look_some hl
    rw [HB.out, HV.out]
    obtain ⟨a, cap, rfl, hnc, hcm, hat⟩ := VWis.at (.inl ⟨b, rfl, H.out⟩)
    obtain ⟨g, rfl, hgl, _, _⟩ := hat _ _ hx
    have hlt : r < L.length := (List.getElem?_eq_some_iff.1 hx).1
    have HLT := Lib.hid hlt
    have hlt' : (r : Int) < 100000 := by omega
    clear hl hat hgl hcm
    go_enter Try.func66, Try.ntmps66
    go_wp2_with fail
    refine (Getis _ _ L k _ (.inl ⟨b, rfl, H.out⟩) (by omega)).mono ?_
    rintro e w1 ⟨rfl, hg⟩
    rw [HB.out, HV.out]
    have H1 := Lib.hid (H.out.gr hg)
    have HG := Lib.hid hg
    clear hg
    go_wp2_with fail
    refine (Rankis _ _ L k _ (.inl ⟨b, rfl, H1.out⟩) (by omega)).mono ?_
    rintro e w2 ⟨rfl, hg⟩
    rw [← HRK.out]
    have H2 := Lib.hid (H1.out.gr hg)
    have HG2 := Lib.hid (HG.out.trans hg)
    have d1 := ((cellsOf H2.out.blk).1 1).trans (show _ = some (Value.slice (some ⟨g, 0, none⟩) L.length cap) from rfl)
    clear hg
    go_wp2_with fail
    refine (Deleteis g L.length cap r (rowis L) _ H2.out.own (row_oneis L) HLT.out).mono ?_
    rintro e w3 ⟨rfl, ho, hm⟩
    have hgne : g ≠ b := fun e => H2.out.ne (by rw [e]; rfl)
    have hb3 := hm.blk H2.out.blk (fun e => hgne e.symm)
    have HO := Lib.hid ho
    have HM := Lib.hid hm
    have HB3 := Lib.hid hb3
    have HNE := Lib.hid hgne
    have e1 := ((cellsOf hb3).1 1).trans (show _ = some (Value.slice (some ⟨g, 0, none⟩) L.length cap) from rfl)
    have ef := (cellsOf hb3).2
    clear ho hm hb3 hgne d1
    go_wp2
    go_ret2
    refine ⟨rfl, .slice (some ⟨g, 0, none⟩) (L.length - 1) cap, ⟨blkSet (j := 1) (u := .slice (some ⟨g, 0, none⟩) (L.length - 1) cap) HB3.out, ?_, fun e => HNE.out (Option.some.inj e), HSRT.out⟩, fun g' hg' => .inl hg', ?_⟩
    · have e : rowis (delL ltZ L k) = (rowis L).take (r * 2) ++ (rowis L).drop ((r + 1) * 2) := by
        rw [HP.out, row_appis, row_takeis, row_dropis]
      have el : (delL ltZ L k).length = L.length - 1 := by rw [HP.out]; have := HLT.out; simp; omega
      rw [e, el]
      exact HO.out.other (p := ⟨b, 1, none⟩) (fun h => HNE.out (Option.some.inj (show some g = some b from h))) _
    · exact ((HG2.out.mdh _).trans (HM.out.mono (fun q hq => .inr (by rw [hq]; rfl)))).setCell (p := ⟨b, 1, none⟩) (.inl rfl) _
end Go.Proofs.Ytbhkigjmjmfbgaa
