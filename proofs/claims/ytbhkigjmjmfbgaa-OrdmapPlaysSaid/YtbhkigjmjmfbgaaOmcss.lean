/- The methods of an ordered map at its ends and neighbours, New, Set, Delete, at keys string and values string. Written from YOmc.base by inst.py. -/
import Derived.Test.YtbhkigjmjmfbgaaOmbss
set_option linter.unusedVariables false
set_option linter.unusedSimpArgs false
namespace Go.Proofs.Ytbhkigjmjmfbgaa
open Go.RowKit
attribute [local go_sem] OvM cell_ovm obj_ovm

theorem atV_formss (o : Option Itss) : ∃ a b c, atVss o = .tuple #[a, b, .bool c] := by
  cases o with
  | none => exact ⟨_, _, _, rfl⟩
  | some x => exact ⟨_, _, _, rfl⟩
set_option maxRecDepth 40000 in
theorem Minss (p : Option Addr) (v : Value) (L : List Itss) (w : World) (h : VWss w p v L) (hn : L.length ≤ 1000000) :
    Calls Try.prog 92 #[.pointer p] w fun e w' => e = .returned (atVss (atO _ L 0)) ∧ Gr w w' := by
  have H := Lib.hid h
  clear h
  obtain ⟨x, y, c, hf⟩ := atV_formss (atO _ L 0)
  have HF := Lib.hid hf
  rw [hf]
  clear hf
  go_enter Try.func92, Try.ntmps92
  go_wp2_with (first
    | (go_at_call 97; refine (Lenss p v L _ H.out).mono ?_; rintro e w1 ⟨rfl, rfl⟩)
    | (go_at_call 103; refine (atss p v L _ _ H.out).mono ?_; rintro e w1 ⟨rfl, hg⟩; rw [HF.out]))
  go_ret3
  exact ⟨rfl, hg⟩
set_option maxRecDepth 40000 in
theorem Maxss (p : Option Addr) (v : Value) (L : List Itss) (w : World) (h : VWss w p v L) (hn : L.length ≤ 1000000) :
    Calls Try.prog 94 #[.pointer p] w fun e w' => e = .returned (atVss (atO _ L ((L.length : Int) - 1))) ∧ Gr w w' := by
  have H := Lib.hid h
  clear h
  obtain ⟨x, y, c, hf⟩ := atV_formss (atO _ L ((L.length : Int) - 1))
  have HF := Lib.hid hf
  rw [hf]
  clear hf
  go_enter Try.func94, Try.ntmps94
  go_wp2_with (first
    | (go_at_call 97; refine (Lenss p v L _ H.out).mono ?_; rintro e w1 ⟨rfl, rfl⟩)
    | (go_at_call 103; refine (atss p v L _ _ H.out).mono ?_; rintro e w1 ⟨rfl, hg⟩; rw [HF.out]))
  go_ret3
  exact ⟨rfl, hg⟩
set_option maxRecDepth 40000 in
theorem Ceilss (p : Option Addr) (v : Value) (L : List Itss) (k : ByteArray) (w : World) (h : VWss w p v L) (hn : L.length ≤ 1000000) :
    Calls Try.prog 90 #[.pointer p, .string (k)] w fun e w' => e = .returned (atVss (L[rk ltS L k]?)) ∧ Gr w w' := by
  have H := Lib.hid h
  clear h
  obtain ⟨x, y, c, hf⟩ := atV_formss (L[rk ltS L k]?)
  have HF : Hid (atVss (atO _ L (rk ltS L k : Nat)) = .tuple #[x, y, .bool c]) := Lib.hid (by rw [← hf]; unfold atO; rw [if_pos (by omega)]; simp)
  rw [hf]
  clear hf
  go_enter Try.func90, Try.ntmps90
  go_wp2_with fail
  refine (Rankss p v L k _ H.out hn).mono ?_
  rintro e w1 ⟨rfl, hg⟩
  have H1 := Lib.hid (H.out.gr hg)
  have HG := Lib.hid hg
  clear hg
  go_wp2_with fail
  refine (atss p v L _ _ H1.out).mono ?_
  rintro e w2 ⟨rfl, hg⟩
  rw [HF.out]
  go_wp2
  go_ret3
  exact ⟨rfl, HG.out.trans hg⟩
set_option maxRecDepth 40000 in
theorem Floorss (p : Option Addr) (v : Value) (L : List Itss) (k : ByteArray) (w : World) (h : VWss w p v L) (hn : L.length ≤ 1000000) :
    Calls Try.prog 88 #[.pointer p, .string (k)] w fun e w' => e = .returned (atVss (atO _ L ((up ltS L k : Nat) - 1))) ∧ Gr w w' := by
  have H := Lib.hid h
  clear h
  obtain ⟨x, y, c, hf⟩ := atV_formss (atO _ L ((up ltS L k : Nat) - 1))
  have HF := Lib.hid hf
  rw [hf]
  clear hf
  have hu : (up ltS L k : Int) ≤ 1000001 := by
    have := rk_le (lt := ltS) L k
    have h2 : up ltS L k ≤ rk ltS L k + 1 := by unfold up; split <;> omega
    omega
  go_enter Try.func88, Try.ntmps88
  go_wp2_with (first
    | (go_at_call 132; refine (itemsss p v L _ (H.out.gr (by (repeat (first | (with_reducible exact Gr.refl _) | assumption | (with_reducible apply Gr.from_drew) | (with_reducible apply Gr.alloc) | (with_reducible apply Gr.drew) | (with_reducible refine Gr.trans ?_ (by assumption)) | (with_reducible refine Gr.setCell ?_ (by omega) _)))))).mono ?_; rintro e w1 ⟨rfl, rfl⟩)
    | (go_at_call 135; refine (firstFloorss p v L k w.heap.size _ (H.out.gr (by (repeat (first | (with_reducible exact Gr.refl _) | assumption | (with_reducible apply Gr.from_drew) | (with_reducible apply Gr.alloc) | (with_reducible apply Gr.drew) | (with_reducible refine Gr.trans ?_ (by assumption)) | (with_reducible refine Gr.setCell ?_ (by omega) _))))) hn (by simp [go_sem])).mono ?_; rintro e w1 ⟨rfl, hg⟩))
  refine (atss p v L _ _ ((H.out.gr ((Gr.alloc (Gr.refl w) _).trans hg)))).mono ?_
  rintro e w2 ⟨rfl, hg2⟩
  rw [HF.out]
  go_wp2
  go_ret3
  exact ⟨rfl, ((Gr.alloc (Gr.refl w) _).trans hg).trans hg2⟩

def atEss (p : Option Addr) (made : Bool) (o : Option Itss) : Value := match o with
  | some x => .tuple #[.string (x.1), .string (x.2), .int .i64 0]
  | none => .tuple #[.string ⟨#[]⟩, .string ⟨#[]⟩, .int .i64 (if made then 3 else 1)]
set_option maxRecDepth 40000 in
theorem Atss (b : Nat) (v : Value) (L : List Itss) (i : Int) (w : World) (h : OMss w b v L) :
    Calls Try.prog 38 #[.pointer (some ⟨b, 0, none⟩), .int .i64 i] w fun e w' => e = .returned (atEss (some ⟨b, 0, none⟩) true (atO _ L i)) ∧ Gr w w' := by
  have H := Lib.hid h
  have c0 := ((cellsOf h.blk).1 0).trans (show _ = some (Value.bool true) from rfl)
  clear h
  cases ho : atO _ L i with
  | none =>
    have HO := Lib.hid ho
    go_enter Try.func38, Try.ntmps38
    go_wp2_with fail
    refine (atss _ v L i _ (.inl ⟨b, rfl, H.out⟩)).mono ?_
    rintro e w1 ⟨rfl, hg⟩
    rw [HO.out]
    have d0 := hg.keep c0
    simp only [atVss]
    go_wp2
    go_ret3
    exact ⟨rfl, hg⟩
  | some x =>
    have HO := Lib.hid ho
    go_enter Try.func38, Try.ntmps38
    go_wp2_with fail
    refine (atss _ v L i _ (.inl ⟨b, rfl, H.out⟩)).mono ?_
    rintro e w1 ⟨rfl, hg⟩
    rw [HO.out]
    have d0 := hg.keep c0
    simp only [atVss]
    go_wp2
    go_ret3
    exact ⟨rfl, hg⟩

set_option maxRecDepth 40000 in
theorem NewOss (w : World) : Calls Try.prog 28 #[] w fun e w' => e = .returned (.pointer (some ⟨w.heap.size, 0, none⟩)) ∧ OMss w' w.heap.size (.slice none 0 0) [] ∧ Gr w w' := by
  go_enter Try.func28, Try.ntmps28
  go_wp2
  go_ret
  exact ⟨rfl, ⟨blkNew _ _, ⟨rfl, .inl ⟨rfl, rfl⟩⟩, (fun h => by cases h), List.Pairwise.nil⟩, by (repeat (first | (with_reducible exact Gr.refl _) | assumption | (with_reducible apply Gr.from_drew) | (with_reducible apply Gr.alloc) | (with_reducible apply Gr.drew) | (with_reducible refine Gr.trans ?_ (by assumption)) | (with_reducible refine Gr.setCell ?_ (by omega) _)))⟩

/-- What Set and Delete leave. -/
def OMPostss (b : Nat) (v : Value) (L' : List Itss) (w w' : World) : Prop := ∃ v', OMss w' b v' L' ∧ (∀ g, v'.ownBlock = some g → v.ownBlock = some g ∨ w.heap.size ≤ g) ∧ Mdh (fun k => k = b ∨ v.ownBlock = some k) w w'

set_option maxRecDepth 40000 in
set_option maxHeartbeats 2000000 in
theorem Setss (b : Nat) (v : Value) (L : List Itss) (k : ByteArray) (u : ByteArray) (w : World) (h : OMss w b v L) (hn : L.length ≤ 100000) :
    Calls Try.prog 30 #[.pointer (some ⟨b, 0, none⟩), .string (k), .string (u)] w fun e w' => e = .returned (.tuple #[lookVss L k, .bool (hasBss L k), .int .i64 0]) ∧ OMPostss b v (putL ltS L k u) w w' := by
  have H := Lib.hid h
  have c0 := ((cellsOf h.blk).1 0).trans (show _ = some (Value.bool true) from rfl)
  have hr := rk_le (lt := ltS) L k
  obtain ⟨r, hrd⟩ : ∃ r, r = rk ltS L k := ⟨_, rfl⟩
  have HRK := Lib.hid hrd
  rw [← hrd] at hr
  have HSRT := Lib.hid (put_srt ordS h.srt k u)
  clear h hrd
  cases hl : look ltS L k with
  | none =>
    have HB := Lib.hid (show hasBss L k = false by unfold hasBss; rw [hl]; rfl)
    have HV := Lib.hid (show lookVss L k = .string ⟨#[]⟩ by unfold lookVss; rw [hl])
    have HP := Lib.hid (show putL ltS L k u = L.take r ++ [(k, u)] ++ L.drop r by unfold putL; rw [hl, HRK.out])
    rw [HB.out, HV.out]
    clear hl
    go_enter Try.func30, Try.ntmps30
    go_wp2_with fail
    refine (findss _ v L k _ (.inl ⟨b, rfl, H.out⟩) (by omega)).mono ?_
    rintro e w1 ⟨rfl, hg⟩
    rw [HB.out, ← HRK.out]
    have H1 := Lib.hid (H.out.gr hg)
    have HG := Lib.hid hg
    have d1 := ((cellsOf H1.out.blk).1 1).trans (show _ = some v from rfl)
    clear hg c0
    go_wp2_with fail
    refine (Insertss v L.length r (rowss L) [.string (k), .string (u)] w1.heap.size _ (H1.out.own.gr (by (repeat (first | (with_reducible exact Gr.refl _) | assumption | (with_reducible apply Gr.from_drew) | (with_reducible apply Gr.alloc) | (with_reducible apply Gr.drew) | (with_reducible refine Gr.trans ?_ (by assumption)) | (with_reducible refine Gr.setCell ?_ (by omega) _))))) (row_oness L) hr (by omega) (blkNew w1 _) rfl (by intro x hx; simp only [List.mem_cons, List.not_mem_nil, or_false] at hx; rcases hx with rfl | rfl <;> rfl) (fun e => by have := H1.out.own.lt e; omega)).mono ?_
    rintro e w2 ⟨g, cap, rfl, ho, hgw, hm⟩
    have HO := Lib.hid ho
    have HM := Lib.hid hm
    have HGW := Lib.hid hgw
    have hb1 : w2.heap[b]? = some (.cells #[.bool true, v] 78 (0, 0)) := hm.blk (blkOld H1.out.blk) (fun e => H1.out.ne e)
    have HB1 := Lib.hid hb1
    have e0 := ((cellsOf hb1).1 0).trans (show _ = some (Value.bool true) from rfl)
    have e1 := ((cellsOf hb1).1 1).trans (show _ = some v from rfl)
    have ef := (cellsOf hb1).2
    have hgb : g ≠ b := by
      have hbl := blkLt H1.out.blk
      rcases hgw with h | h
      · exact fun e => H1.out.ne (by rw [h, e])
      · simp only [World.size_alloc] at h; omega
    have HGB := Lib.hid hgb
    clear ho hm hgw hb1 d1 hgb
    go_wp2
    go_ret3
    refine ⟨rfl, .slice (some ⟨g, 0, none⟩) (L.length + 1) cap, ⟨blkSet (j := 1) (u := .slice (some ⟨g, 0, none⟩) (L.length + 1) cap) HB1.out, ?_, fun e => HGB.out (Option.some.inj e), HSRT.out⟩, fun g' hg' => ?_, ?_⟩
    · have e : rowss (putL ltS L k u) = (rowss L).take (r * 2) ++ [.string (k), .string (u)] ++ (rowss L).drop (r * 2) := by
        rw [HP.out, row_appss, row_appss, row_takess, row_dropss]; rfl
      have el : (putL ltS L k u).length = L.length + 1 := by rw [HP.out]; simp; omega
      rw [e, el]
      exact HO.out.other (p := ⟨b, 1, none⟩) (fun h => HGB.out (Option.some.inj (show some g = some b from h))) _
    · obtain rfl : g = g' := Option.some.inj hg'
      exact HGW.out.imp (fun h => h) (fun h => Nat.le_trans HG.out.sz (by simp at h; omega))
    · exact (((HG.out.mdh _).alloc _).trans (HM.out.mono (fun q hq => .inr hq))).setCell (p := ⟨b, 1, none⟩) (.inl rfl) _
  | some u0 =>
    have HB := Lib.hid (show hasBss L k = true by unfold hasBss; rw [hl]; rfl)
    have HV := Lib.hid (show lookVss L k = .string (u0) by unfold lookVss; rw [hl])
    have HP := Lib.hid (show putL ltS L k u = L.set r (k, u) by unfold putL; rw [hl, HRK.out])
    have hx : L[r]? = some (k, u0) := by rw [HRK.out]; exact look_some hl
    rw [HB.out, HV.out]
    obtain ⟨a, cap, rfl, hnc, hcm, hat⟩ := VWss.at (.inl ⟨b, rfl, H.out⟩)
    obtain ⟨g, rfl, hgl, i0, i1⟩ := hat _ _ hx
    have hlt : r < L.length := (List.getElem?_eq_some_iff.1 hx).1
    have hlt' : (r : Int) < L.length := by omega
    unfold maxLen at hcm
    clear hl hat hgl
    go_enter Try.func30, Try.ntmps30
    go_wp2_with fail
    refine (findss _ _ L k _ (.inl ⟨b, rfl, H.out⟩) (by omega)).mono ?_
    rintro e w1 ⟨rfl, hg⟩
    rw [HB.out, ← HRK.out]
    have H1 := Lib.hid (H.out.gr hg)
    have HG := Lib.hid hg
    have d1 := ((cellsOf H1.out.blk).1 1).trans (show _ = some (Value.slice (some ⟨g, 0, none⟩) L.length cap) from rfl)
    have j1 := hg.keep i1
    (try simp only at j1)
    obtain ⟨cur, hgc, _⟩ := H1.out.own.parts
    have jf := (cellsOf hgc).2
    have hgne : g ≠ b := fun e => H1.out.ne (by rw [e]; rfl)
    have HNE := Lib.hid hgne
    clear hg c0 i0 i1 hgc
    go_wp2
    go_region
    go_wp2
    go_ret3
    refine ⟨rfl, .slice (some ⟨g, 0, none⟩) L.length cap, ⟨blkSetO H1.out.blk (fun e => HNE.out e.symm), ?_, H1.out.ne, HSRT.out⟩, fun g' hg' => .inl hg', ?_⟩
    · have e : rowss (putL ltS L k u) = (rowss L).set (r * 2 + 1) (.string (u)) := by
        rw [HP.out]
        exact row_setss L r k u0 u hx
      have el : (putL ltS L k u).length = L.length := by rw [HP.out]; simp
      rw [e, el]
      exact H1.out.own.set (by rw [row_lenss]; omega) _
    · exact ((HG.out.mdh _).setCell (p := ⟨g, r * 2 + 1, none⟩) (.inr rfl) _).drew

set_option maxRecDepth 40000 in
set_option maxHeartbeats 2000000 in
theorem DeleteOss (b : Nat) (v : Value) (L : List Itss) (k : ByteArray) (w : World) (h : OMss w b v L) (hn : L.length ≤ 100000) :
    Calls Try.prog 32 #[.pointer (some ⟨b, 0, none⟩), .string (k)] w fun e w' => e = .returned (.tuple #[lookVss L k, .bool (hasBss L k)]) ∧ OMPostss b v (delL ltS L k) w w' := by
  have H := Lib.hid h
  obtain ⟨r, hrd⟩ : ∃ r, r = rk ltS L k := ⟨_, rfl⟩
  have HRK := Lib.hid hrd
  have HSRT := Lib.hid (del_srt h.srt k)
  clear h hrd
  cases hl : look ltS L k with
  | none =>
    have HB := Lib.hid (show hasBss L k = false by unfold hasBss; rw [hl]; rfl)
    have HV := Lib.hid (show lookVss L k = .string ⟨#[]⟩ by unfold lookVss; rw [hl])
    have HP := Lib.hid (show delL ltS L k = L by unfold delL; rw [hl])
    clear hl
    rw [HB.out, HV.out]
    go_enter Try.func32, Try.ntmps32
    go_wp2_with fail
    refine (Getss _ v L k _ (.inl ⟨b, rfl, H.out⟩) (by omega)).mono ?_
    rintro e w1 ⟨rfl, hg⟩
    rw [HB.out, HV.out]
    have H1 := Lib.hid (H.out.gr hg)
    go_wp2
    go_ret2
    exact ⟨rfl, v, by rw [HP.out]; exact H1.out, fun g hg => .inl hg, hg.mdh _⟩
  | some u0 =>
    have HB := Lib.hid (show hasBss L k = true by unfold hasBss; rw [hl]; rfl)
    have HV := Lib.hid (show lookVss L k = .string (u0) by unfold lookVss; rw [hl])
    have HP := Lib.hid (show delL ltS L k = L.take r ++ L.drop (r + 1) by unfold delL; rw [hl, HRK.out])
    have hx : L[r]? = some (k, u0) := by rw [HRK.out]; exact look_some hl
    rw [HB.out, HV.out]
    obtain ⟨a, cap, rfl, hnc, hcm, hat⟩ := VWss.at (.inl ⟨b, rfl, H.out⟩)
    obtain ⟨g, rfl, hgl, _, _⟩ := hat _ _ hx
    have hlt : r < L.length := (List.getElem?_eq_some_iff.1 hx).1
    have HLT := Lib.hid hlt
    have hlt' : (r : Int) < 100000 := by omega
    clear hl hat hgl hcm
    go_enter Try.func32, Try.ntmps32
    go_wp2_with fail
    refine (Getss _ _ L k _ (.inl ⟨b, rfl, H.out⟩) (by omega)).mono ?_
    rintro e w1 ⟨rfl, hg⟩
    rw [HB.out, HV.out]
    have H1 := Lib.hid (H.out.gr hg)
    have HG := Lib.hid hg
    clear hg
    go_wp2_with fail
    refine (Rankss _ _ L k _ (.inl ⟨b, rfl, H1.out⟩) (by omega)).mono ?_
    rintro e w2 ⟨rfl, hg⟩
    rw [← HRK.out]
    have H2 := Lib.hid (H1.out.gr hg)
    have HG2 := Lib.hid (HG.out.trans hg)
    have d1 := ((cellsOf H2.out.blk).1 1).trans (show _ = some (Value.slice (some ⟨g, 0, none⟩) L.length cap) from rfl)
    clear hg
    go_wp2_with fail
    refine (Deletess g L.length cap r (rowss L) _ H2.out.own (row_oness L) HLT.out).mono ?_
    rintro e w3 ⟨rfl, ho, hm⟩
    have hgne : g ≠ b := fun e => H2.out.ne (by rw [e]; rfl)
    have hb3 := hm.blk H2.out.blk (fun e => hgne e.symm)
    have HO := Lib.hid ho
    have HM := Lib.hid hm
    have HB3 := Lib.hid hb3
    have HNE := Lib.hid hgne
    have e1 := ((cellsOf hb3).1 1).trans (show _ = some (Value.slice (some ⟨g, 0, none⟩) L.length cap) from rfl)
    have ef := (cellsOf hb3).2
    clear ho hm hb3 hgne d1
    go_wp2
    go_ret2
    refine ⟨rfl, .slice (some ⟨g, 0, none⟩) (L.length - 1) cap, ⟨blkSet (j := 1) (u := .slice (some ⟨g, 0, none⟩) (L.length - 1) cap) HB3.out, ?_, fun e => HNE.out (Option.some.inj e), HSRT.out⟩, fun g' hg' => .inl hg', ?_⟩
    · have e : rowss (delL ltS L k) = (rowss L).take (r * 2) ++ (rowss L).drop ((r + 1) * 2) := by
        rw [HP.out, row_appss, row_takess, row_dropss]
      have el : (delL ltS L k).length = L.length - 1 := by rw [HP.out]; have := HLT.out; simp; omega
      rw [e, el]
      exact HO.out.other (p := ⟨b, 1, none⟩) (fun h => HNE.out (Option.some.inj (show some g = some b from h))) _
    · exact ((HG2.out.mdh _).trans (HM.out.mono (fun q hq => .inr (by rw [hq]; rfl)))).setCell (p := ⟨b, 1, none⟩) (.inl rfl) _
end Go.Proofs.Ytbhkigjmjmfbgaa
