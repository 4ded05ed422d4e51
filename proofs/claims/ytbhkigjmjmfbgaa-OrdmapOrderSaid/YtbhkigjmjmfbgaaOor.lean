/- OrdmapOrder answers true. -/
import Derived.Test.YtbhkigjmjmfbgaaOeo
import Derived.RangeFuncCalls
import Derived.Deep.CutRange
set_option linter.unusedVariables false
set_option linter.unusedSimpArgs false
namespace Go.Proofs.Ytbhkigjmjmfbgaa
open Go.RowKit Go.Shelf Go.Maps
attribute [local go_sem] OvM cell_ovm obj_ovm
attribute [local go_sem] Oper.semAt_some
set_option maxRecDepth 40000 in
theorem gm_at_runO {w : World} {b n : Nat} {L : List Itii} (h : GM w b n L) (k : Int) (hk : (Lit.int .i64 k).wf = true) : (Instr.lookup 24 (.map (some b)) (.int .i64 k) false).run Try.prog w = .ok (.int .i64 ((look ltZ L k).getD 0)) w := by
  obtain ⟨D, h1, h2⟩ := h
  obtain ⟨c, hrun, hat, _⟩ := h1.lookup_int lawI Try.underlying24 Try.underlying3 (zeroI w) (keyOf_int_mk Try.underlying3 hk)
  rw [h2.at0] at hat
  injection hat with hat
  injection hat with _ hat
  subst hat
  exact hrun
/-- The map, the Go map, its sorted keys, and the cells that hold the two. -/
structure OSt (wa w : World) (b bw n : Nat) (v : Value) (L : List Itii) (b6 b8 : Nat) (sa : Option Addr) (sc : Nat) : Prop where
  f : FS wa w b v bw n L
  x6 : w.heap[b6]? = some (.cells #[.map (some bw)] 24)
  x8 : w.heap[b8]? = some (.cells #[.slice sa L.length sc] 30)
  o : Own w 3 1 (.slice sa L.length sc) L.length ((L.map Prod.fst).map iv)
section
variable {wa w w' : World} {b bw n b6 b8 sc : Nat} {v : Value} {L : List Itii} {sa : Option Addr}
theorem OSt.gr (h : OSt wa w b bw n v L b6 b8 sa sc) (g : Gr w w') : OSt wa w' b bw n v L b6 b8 sa sc := ⟨h.f.gr g, g.blk h.x6, g.blk h.x8, h.o.gr g⟩
theorem OSt.c6 (h : OSt wa w b bw n v L b6 b8 sa sc) : w.cell? ⟨b6, 0, none⟩ = some (.map (some bw)) := (box1 h.x6).1
theorem OSt.c8 (h : OSt wa w b bw n v L b6 b8 sa sc) : w.cell? ⟨b8, 0, none⟩ = some (.slice sa L.length sc) := (box1 h.x8).1
theorem OSt.cellAt (h : OSt wa w b bw n v L b6 b8 sa sc) {j : Nat} {x : Itii} (hx : L[j]? = some x) : ∃ g, sa = some ⟨g, 0, none⟩ ∧ w.cell? ⟨g, j, none⟩ = some (.int .i64 x.1) := by
  have hj := (List.getElem?_eq_some_iff.1 hx).1
  obtain ⟨g, hg, hc⟩ := own_cellN h.o hj
  rw [List.getElem?_map, List.getElem?_map, hx] at hc
  exact ⟨g, hg, hc⟩
theorem OSt.look (h : OSt wa w b bw n v L b6 b8 sa sc) {x : Itii} (hx : x ∈ L) : (Instr.lookup 24 (.map (some bw)) (.int .i64 x.1) false).run Try.prog w = .ok (.int .i64 x.2) w := by
  have hb := (h.f.bnd x hx).1
  have h1 := gm_at_runO h.f.gm x.1 (WalkArith.wf_i64 (by unfold InB at hb; omega))
  rw [(look_mem ordZ h.f.om.srt x.1 x.2).2 hx] at h1
  exact h1
end
theorem look_at {L : List Itii} (s : Srt ltZ L) {j : Nat} {x : Itii} (hx : L[j]? = some x) : rk ltZ L x.1 = j := by
  refine (rk_uniq ordZ s x.1 j (by have := (List.getElem?_eq_some_iff.1 hx).1; omega) (fun i y hi hy => ?_) (fun i y hi hy => ?_)).symm
  · obtain ⟨hil, ei⟩ := List.getElem?_eq_some_iff.1 hy
    obtain ⟨hjl, ej⟩ := List.getElem?_eq_some_iff.1 hx
    have := List.pairwise_iff_getElem.1 s i j hil hjl hi
    rw [ei, ej] at this
    exact this
  · obtain ⟨hil, ei⟩ := List.getElem?_eq_some_iff.1 hy
    obtain ⟨hjl, ej⟩ := List.getElem?_eq_some_iff.1 hx
    rcases Nat.eq_or_lt_of_le hi with e | e
    · subst e
      rw [hx] at hy
      rw [← Option.some.inj hy]
      exact ordZ.irr _
    · have := List.pairwise_iff_getElem.1 s j i hjl hil e
      rw [ei, ej] at this
      have h1 : x.1 < y.1 := by simpa [ltZ] using this
      simp [ltZ]
      omega
def kI (xs : List Itii) : List Value := xs.map fun x => .int .i64 x.1
theorem kI_len (xs : List Itii) : (kI xs).length = xs.length := by simp [kI]
theorem kI_eq (xs : List Itii) : kI xs = (xs.map Prod.fst).map iv := by simp [kI, Function.comp_def]
theorem order_cases (L : List Itii) (key : Int) (r : Nat) (hb : Bool) (hr : r = rk ltZ L key) (hh : hb = hasBii L key) :
    (∃ x, L[r]? = some x ∧ hb = true ∧ atO _ L ((up ltZ L key : Nat) - 1) = some x) ∨
    (∃ x, L[r]? = some x ∧ hb = false ∧ r = 0 ∧ atO _ L ((up ltZ L key : Nat) - 1) = none) ∨
    (∃ x q y, L[r]? = some x ∧ hb = false ∧ r = q + 1 ∧ L[q]? = some y ∧ atO _ L ((up ltZ L key : Nat) - 1) = some y) ∨
    (L[r]? = none ∧ hb = false ∧ r = 0 ∧ atO _ L ((up ltZ L key : Nat) - 1) = none) ∨
    (∃ q y, L[r]? = none ∧ hb = false ∧ r = q + 1 ∧ L[q]? = some y ∧ atO _ L ((up ltZ L key : Nat) - 1) = some y) := by
  have hrl : r ≤ L.length := by rw [hr]; exact rk_le L key
  have out : hasBii L key = false → up ltZ L key = r := fun h => by
    have hn : look ltZ L key = none := by
      unfold hasBii at h
      cases e : look ltZ L key with
      | none => rfl
      | some u => rw [e] at h; cases h
    unfold up; rw [hn, hr]; simp
  have low : up ltZ L key = r → (r = 0 → atO _ L ((up ltZ L key : Nat) - 1) = none) ∧ ∀ q, r = q + 1 → ∃ y, L[q]? = some y ∧ atO _ L ((up ltZ L key : Nat) - 1) = some y := fun h => by
    rw [h]
    refine ⟨fun h0 => ?_, fun q hq => ?_⟩
    · unfold atO; rw [if_neg (by omega)]
    · have hql : q < L.length := by omega
      refine ⟨_, List.getElem?_eq_getElem hql, ?_⟩
      unfold atO
      rw [if_pos (by omega), show ((r : Int) - 1).toNat = q by omega]
      exact List.getElem?_eq_getElem hql
  cases hx : L[r]? with
  | some x =>
    have hd := hasB_atii (L := L) (k := key) (x := x) (by rw [← hr]; exact hx)
    by_cases e : x.1 = key
    · refine .inl ⟨x, rfl, by rw [hh, hd]; simp [e], ?_⟩
      have hs : look ltZ L key ≠ none := fun hn => by
        have : hasBii L key = false := by unfold hasBii; rw [hn]; rfl
        rw [hd] at this
        simp [e] at this
      have hu : up ltZ L key = r + 1 := by unfold up; rw [if_neg hs, hr]
      rw [hu]
      unfold atO
      rw [if_pos (by omega), show (((r + 1 : Nat) : Int) - 1).toNat = r by omega]
      exact hx
    · have hf : hasBii L key = false := by rw [hd]; simp [e]
      obtain ⟨l1, l2⟩ := low (out hf)
      rcases Nat.eq_zero_or_pos r with h0 | h0
      · exact .inr (.inl ⟨x, rfl, by rw [hh, hf], h0, l1 h0⟩)
      · obtain ⟨y, h1, h2⟩ := l2 (r - 1) (by omega)
        exact .inr (.inr (.inl ⟨x, r - 1, y, rfl, by rw [hh, hf], by omega, h1, h2⟩))
  | none =>
    have hf : hasBii L key = false := hasB_outii (by rw [← hr]; exact List.getElem?_eq_none_iff.1 hx)
    obtain ⟨l1, l2⟩ := low (out hf)
    rcases Nat.eq_zero_or_pos r with h0 | h0
    · exact .inr (.inr (.inr (.inl ⟨rfl, by rw [hh, hf], h0, l1 h0⟩)))
    · obtain ⟨y, h1, h2⟩ := l2 (r - 1) (by omega)
      exact .inr (.inr (.inr (.inr ⟨r - 1, y, rfl, by rw [hh, hf], by omega, h1, h2⟩)))
theorem look_run {w : World} {bw n : Nat} {L : List Itii} (gm : GM w bw n L) (s : Srt ltZ L) (bnd : ∀ x ∈ L, InB x.1 ∧ InB x.2) {x : Itii} (hx : x ∈ L) : (Instr.lookup 24 (.map (some bw)) (.int .i64 x.1) false).run Try.prog w = .ok (.int .i64 x.2) w := by
  have hb := (bnd x hx).1
  have h1 := gm_at_runO gm x.1 (WalkArith.wf_i64 (by unfold InB at hb; omega))
  rw [(look_mem ordZ s x.1 x.2).2 hx] at h1
  exact h1
theorem OSt.lows {wa w : World} {b bw n b6 b8 sc : Nat} {v : Value} {L : List Itii} {sa : Option Addr} (h : OSt wa w b bw n v L b6 b8 sa sc) : b < w.heap.size ∧ (∀ k, v.ownBlock = some k → k < w.heap.size) ∧ bw < w.heap.size ∧ b6 < w.heap.size ∧ b8 < w.heap.size :=
  ⟨h.f.low.1, h.f.low.2.1, h.f.low.2.2, blkLt h.x6, blkLt h.x8⟩
theorem tup3 {a b a' b' : Value} {c c' : Bool} (h : Value.tuple #[a, b, .bool c] = .tuple #[a', b', .bool c']) : a = a' ∧ b = b' ∧ c = c' := by
  injection h with h
  injection h with h
  injection h with h1 h
  injection h with h2 h
  injection h with h3 _
  injection h3 with h3
  exact ⟨h1, h2, h3⟩
theorem floor_cases (L : List Itii) (key : Int) (r : Nat) (hb : Bool) (hr : r = rk ltZ L key) (hh : hb = hasBii L key) (bl : Int) (hbl : bl = if hb = true then (r : Int) else (r : Int) - 1) :
    (∃ (q : Nat) (y : Itii), L[q]? = some y ∧ bl = (q : Int) ∧ atO _ L ((up ltZ L key : Nat) - 1) = some y) ∨ (bl = -1 ∧ atO _ L ((up ltZ L key : Nat) - 1) = none) := by
  rcases order_cases L key r hb hr hh with ⟨x, hx, rfl, hf⟩ | ⟨x, hx, rfl, hr0, hf⟩ | ⟨x, q, y, hx, rfl, hrq, hy, hf⟩ | ⟨hx, rfl, hr0, hf⟩ | ⟨q, y, hx, rfl, hrq, hy, hf⟩
  · exact .inl ⟨r, x, hx, by simpa using hbl, hf⟩
  · exact .inr ⟨by simp at hbl; omega, hf⟩
  · exact .inl ⟨q, y, hy, by simp at hbl; omega, hf⟩
  · exact .inr ⟨by simp at hbl; omega, hf⟩
  · exact .inl ⟨q, y, hy, by simp at hbl; omega, hf⟩
set_option maxRecDepth 100000 in
set_option maxHeartbeats 16000000 in
theorem Order_any (a : Option Addr) (len cap : Nat) (l : List Cl) (key : Int) (w : World) (hl : l.length = len) (hle : len ≤ cap) (hcap : cap ≤ maxLen) (hs : CallsAt w a l) :
    Calls Try.prog 9 #[.slice a len cap, .int .i64 key] w fun e w' => e = .returned (.bool true) ∧ Gr w w' := by
  obtain ⟨i0, hi, hz0, hz1, hz2⟩ := info_parts Try.infoInt
  refine calls_of_wp_marks Try.func9 rfl ?_
  simp only [Try.ntmps9, List.size_toArray, List.length_cons, List.length_nil, Nat.reduceAdd, Nat.reduceSub, Array.replicate_succ, Array.replicate_zero, List.push_toArray, List.append_toArray, List.nil_append, List.cons_append]
  obtain ⟨wa, hwa⟩ : ∃ wa, wa = w.alloc (.cells #[.bool false] 4) := ⟨_, rfl⟩
  obtain ⟨br, hbr⟩ : ∃ b, b = w.heap.size := ⟨_, rfl⟩
  have HWA : Hid (Gr w wa ∧ wa.heap[br]? = some (.cells #[.bool false] 4) ∧ br < wa.heap.size ∧ w.heap.size ≤ br ∧ wa = w.alloc (.cells #[.bool false] 4) ∧ br = w.heap.size) := Lib.hid ⟨by rw [hwa]; exact (Gr.refl w).alloc _, by rw [hwa, hbr]; exact blkNew _ _, by rw [hwa, hbr]; simp, by omega, hwa, hbr⟩
  clear hwa hbr
  have HI := Lib.hid (And.intro hi (And.intro hz0 (And.intro hz1 hz2)))
  clear hi hz0 hz1 hz2
  have HS := Lib.hid hs
  have HL := Lib.hid hl
  have HCAP := Lib.hid (And.intro hle hcap)
  clear hs hl hle hcap
  go_wp2_with fail
  rw [← HWA.out.2.2.2.2.1, ← HWA.out.2.2.2.2.2]
  refine (filled_any a len cap l wa HL.out HCAP.out.1 HCAP.out.2 (HS.out.grc HWA.out.1)).mono ?_
  rintro e w1 ⟨b, v, bw, n, L, rfl, hF, hn⟩
  have hLn := hF.gm.len_le
  obtain ⟨b6, hb6⟩ : ∃ k, k = w1.heap.size := ⟨_, rfl⟩
  obtain ⟨w2, hw2⟩ : ∃ y, y = w1.alloc (.cells #[.map (some bw)] 24) := ⟨_, rfl⟩
  have H2 : Hid ((FS wa w2 b v bw n L ∧ w2.heap[b6]? = some (.cells #[.map (some bw)] 24)) ∧ w2 = w1.alloc (.cells #[.map (some bw)] 24) ∧ b6 = w1.heap.size) := Lib.hid ⟨⟨by rw [hw2]; exact hF.gr ((Gr.refl _).alloc _), by rw [hw2, hb6]; exact blkNew _ _⟩, hw2, hb6⟩
  clear hw2 hb6 hF
  go_wp2_with fail
  rw [← H2.out.2.1, ← H2.out.2.2]
  refine (KeysC bw _).mono ?_
  rintro e w4 ⟨rfl, hw4⟩
  have H4 : Hid (FS wa w4 b v bw n L ∧ w4.heap[b6]? = some (.cells #[.map (some bw)] 24) ∧ w4.cell? ⟨w2.heap.size, 0, none⟩ = some (.map (some bw))) := Lib.hid (by
    have g4 : Gr w2 w4 := by rw [hw4]; exact (Gr.refl w2).alloc _
    exact ⟨H2.out.1.1.gr g4, g4.blk H2.out.1.2, by rw [hw4]; exact (box1 (blkNew w2 _)).1⟩)
  clear hw4 H2
  generalize w2.heap.size = Bm at *
  go_wp2_with fail
  refine (SortedC bw n L Bm w4 H4.out.1.gm (by omega) H4.out.2.2).mono ?_
  rintro e w5 ⟨sv, rfl, hown, hnew, hg5⟩
  obtain ⟨sa, sc, rfl, hsc, hsm⟩ := own_val hown
  unfold maxLen at hsm
  obtain ⟨w6, hw6⟩ : ∃ y, y = w5.alloc (.cells #[.slice sa L.length sc] 30) := ⟨_, rfl⟩
  obtain ⟨b8, hb8⟩ : ∃ k, k = w5.heap.size := ⟨_, rfl⟩
  have H6 : Hid (OSt wa w6 b bw n v L b6 b8 sa sc ∧ w6 = w5.alloc (.cells #[.slice sa L.length sc] 30) ∧ b8 = w5.heap.size) := Lib.hid (by
    have g6 : Gr w5 w6 := by rw [hw6]; exact (Gr.refl w5).alloc _
    exact ⟨⟨(H4.out.1.gr hg5).gr g6, (hg5.trans g6).blk H4.out.2.1, by rw [hw6, hb8]; exact blkNew _ _, hown.gr g6⟩, hw6, hb8⟩)
  clear hown hnew hg5 H4 hw6 hb8
  go_wp2_with fail
  rw [← H6.out.2.1, ← H6.out.2.2]
  have HO6 := Lib.hid H6.out.1
  clear H6
  go_loopw [39] (fun t39 wx => ∃ j : Nat, j ≤ L.length ∧ t39 = .int .i64 j ∧ Hid (OSt wa wx b bw n v L b6 b8 sa sc)) (fun t39 _ => L.length - (intOf t39).toNat)
  case atStart => exact ⟨0, by omega, rfl, HO6⟩
  case round =>
    obtain ⟨j, hj, rfl, H⟩ := hrel
    clear HO6
    by_cases hlt : j < L.length
    · have hlt' : (j : Int) < L.length := by omega
      obtain ⟨x, hx⟩ : ∃ x, L[j]? = some x := ⟨_, List.getElem?_eq_getElem hlt⟩
      obtain ⟨g, rfl, hc⟩ := H.out.cellAt hx
      have FA : Hid (atO _ L (j : Int) = some x) := Lib.hid (by unfold atO; rw [if_pos (by omega)]; simpa using hx)
      have FR : Hid (rk ltZ L x.1 = j) := Lib.hid (look_at H.out.f.om.srt hx)
      have HM : Hid (x ∈ L) := Lib.hid (List.mem_of_getElem? hx)
      clear hx
      go_wp2_with fail
      refine (Atii b v L j _ H.out.f.om).mono ?_
      rintro e w7 ⟨rfl, hg7⟩
      rw [FA.out]
      dsimp only [atEii]
      have H7 := Lib.hid (H.out.gr hg7)
      have c6 := H7.out.c6
      have hlk := H7.out.look HM.out
      have d1 := hg7.keep hc
      obtain ⟨x1, x2⟩ := x
      simp only at hlk d1
      clear hg7 hc
      go_wp2_with (first
        | (go_at_call 45; refine (Rankii (some ⟨b, 0, none⟩) v L x1 _ (.inl ⟨b, rfl, H7.out.f.om⟩) (by omega)).mono ?_; rintro e w8 ⟨rfl, hg8⟩; rw [FR.out]; have HG8 := Lib.hid hg8; clear hg8)
        | fail)
      go_roundw
      case rel => exact ⟨j + 1, by omega, by go_num, Lib.hid (H7.out.gr HG8.out)⟩
      case measure => simp [intOf]; omega
    · have hlt' : ¬ (j : Int) < L.length := by omega
      have c8 := H.out.c8
      go_wp2_with fail
      refine (BSearch L H.out.f.om.srt key sa sc _ H.out.o (by omega)).mono ?_
      rintro e w7 ⟨rfl, rfl⟩
      clear c8
      obtain ⟨r, hr⟩ : ∃ r, r = rk ltZ L key := ⟨_, rfl⟩
      obtain ⟨hb, hhb⟩ : ∃ hb, hb = hasBii L key := ⟨_, rfl⟩
      have HR := Lib.hid (And.intro hr hhb)
      have hrl : r ≤ L.length := by rw [hr]; exact rk_le L key
      rw [← HR.out.1, ← HR.out.2]
      clear hr hhb hlt hlt' hj
      go_wp2_with fail
      refine (Rankii (some ⟨b, 0, none⟩) v L key _ (.inl ⟨b, rfl, H.out.f.om⟩) (by omega)).mono ?_
      rintro e w8 ⟨rfl, hg8⟩
      rw [← HR.out.1]
      have H8 := Lib.hid (H.out.gr hg8)
      clear hg8 H
      go_wp2_with fail
      refine (Ceilii (some ⟨b, 0, none⟩) v L key _ (.inl ⟨b, rfl, H8.out.f.om⟩) (by omega)).mono ?_
      rintro e w9 ⟨rfl, hg9⟩
      rw [← HR.out.1]
      have H9 := Lib.hid (H8.out.gr hg9)
      clear hg9 H8
      obtain ⟨ca, cb, cc, hf⟩ := atV_formii (L[r]?)
      have HC := Lib.hid hf
      rw [hf]
      clear hf
      go_upto_region 16 with fail
      go_cut [126] from 91 to 126 (fun t126 wx => t126 = .bool false ∧ Hid (OSt wa wx b bw n v L b6 b8 sa sc))
      case first =>
        have c6 := H9.out.c6
        have c8 := H9.out.c8
        cases hx : L[r]? with
        | some x =>
          have hv := HC.out
          rw [hx] at hv
          obtain ⟨h1, h2, h3⟩ := tup3 hv
          subst h1 h2 h3
          clear hv HC
          have hrb : (r : Int) < L.length := by have := (List.getElem?_eq_some_iff.1 hx).1; omega
          obtain ⟨g, hsa, hd⟩ := H9.out.cellAt hx
          have hlk := H9.out.look (List.mem_of_getElem? hx)
          cases hsa
          obtain ⟨x1, x2⟩ := x
          simp only at hlk hd
          clear hx
          go_wp2_with fail
          go_meet
          exact ⟨rfl, H9⟩
        | none =>
          have hv := HC.out
          rw [hx] at hv
          obtain ⟨h1, h2, h3⟩ := tup3 hv
          subst h1 h2 h3
          clear hv HC
          have hrb : ¬ (r : Int) < L.length := by have := List.getElem?_eq_none_iff.1 hx; omega
          clear hx
          go_wp2_with fail
          go_meet
          exact ⟨rfl, H9⟩
      case rest =>
        obtain ⟨rfl, H10⟩ := hcut
        clear HC H9
        obtain ⟨bl, hbl⟩ : ∃ bl : Int, bl = if hb = true then (r : Int) else (r : Int) - 1 := ⟨_, rfl⟩
        have HBL := Lib.hid hbl
        clear hbl
        go_upto_if 129 with fail
        go_cut [19] from 130 to 130 (fun t19 wx => t19 = .int .i64 bl ∧ Hid (OSt wa wx b bw n v L b6 b8 sa sc))
        case first =>
          cases hb with
          | true =>
            have e : bl = (r : Int) := by simpa using HBL.out
            have HE := Lib.hid e
            clear e
            go_wp2_with fail
            go_meet
            exact ⟨by rw [HE.out], H10⟩
          | false =>
            have e : bl = (r : Int) - 1 := by simpa using HBL.out
            have HE := Lib.hid e
            clear e
            go_wp2_with fail
            go_meet
            exact ⟨by rw [HE.out], H10⟩
        case rest =>
          obtain ⟨rfl, H11⟩ := hcut
          clear H10
          go_wp2_with fail
          refine (Floorii (some ⟨b, 0, none⟩) v L key _ (.inl ⟨b, rfl, H11.out.f.om⟩) (by omega)).mono ?_
          rintro e w10 ⟨rfl, hg10⟩
          have H9 := Lib.hid (H11.out.gr hg10)
          clear hg10 H11
          obtain ⟨ca, cb, cc, hf⟩ := atV_formii (atO _ L ((up ltZ L key : Nat) - 1))
          have HC := Lib.hid hf
          rw [hf]
          clear hf
          go_upto_region 22 with fail
          go_cut [171] from 138 to 171 (fun t171 wx => t171 = .bool false ∧ Hid (OSt wa wx b bw n v L b6 b8 sa sc))
          case first =>
            have c6 := H9.out.c6
            have c8 := H9.out.c8
            rcases floor_cases L key r hb HR.out.1 HR.out.2 bl HBL.out with ⟨q, y, hy, hq, hf⟩ | ⟨hq, hf⟩
            · have hv := HC.out
              rw [hf] at hv
              obtain ⟨h1, h2, h3⟩ := tup3 hv
              subst h1 h2 h3
              clear hv HC hf HBL
              subst hq
              have hrb : (q : Int) < L.length := by have := (List.getElem?_eq_some_iff.1 hy).1; omega
              obtain ⟨g, hsa, hd⟩ := H9.out.cellAt hy
              have hlk := H9.out.look (List.mem_of_getElem? hy)
              cases hsa
              obtain ⟨x1, x2⟩ := y
              simp only at hlk hd
              clear hy
              go_wp2_with fail
              go_meet
              exact ⟨rfl, H9⟩
            · have hv := HC.out
              rw [hf] at hv
              obtain ⟨h1, h2, h3⟩ := tup3 hv
              subst h1 h2 h3
              clear hv HC hf HBL
              subst hq
              go_wp2_with fail
              go_meet
              exact ⟨rfl, H9⟩
          case rest =>
            obtain ⟨rfl, H10⟩ := hcut
            clear HC H9 HBL
            revert H10
            generalize wc = w10
            intro H10
            go_wp2_with fail
            obtain ⟨T, hT⟩ : ∃ T, T = L.drop r := ⟨_, rfl⟩
            have HTT : Hid (T = L.drop r ∧ T.length ≤ L.length ∧ T.length = L.length - r) := Lib.hid ⟨hT, by rw [hT, List.length_drop]; omega, by rw [hT, List.length_drop]⟩
            clear hT
            refine (FromOii _ key _).mono ?_
            rintro e w11 ⟨bb, bk, rfl, hbb, hbk, hlb, hlk, hg⟩
            obtain ⟨b20, hb20⟩ : ∃ k, k = w10.heap.size := ⟨_, rfl⟩
            have x20 : w11.heap[b20]? = some (.cells #[.slice none 0 0] 30) := by rw [hb20]; exact hg.blk (blkNew w10 _)
            have g11 : Gr w10 w11 := ((Gr.refl w10).alloc _).trans hg
            simp only [World.size_alloc] at hlb hlk
            rw [← hb20]
            have HLL : Hid (w10.heap.size ≤ b20 ∧ b20 < bb ∧ b20 < bk) := Lib.hid (by omega)
            have H11 := Lib.hid (H10.out.gr g11)
            have X20 := Lib.hid x20
            have G11 := Lib.hid g11
            have HBB := Lib.hid (And.intro hbb hbk)
            have LT := Lib.hid H10.out.lows
            clear hbb hbk hlb hlk hg hb20 x20 g11
            go_wp2_with fail
            refine (yieldsTwoii _ _ _).mono ?_
            rintro e w12 ⟨rfl, rfl⟩
            have HSEQ : Hid (SeqZ Fence.wide 2 Try.prog 52 #[.pointer (some ⟨bb, 0, none⟩), .pointer (some ⟨bk, 0, none⟩)] encOii (fun k => k = bb ∨ k = bk ∨ OMB (some ⟨b, 0, none⟩) v k) (fun xs => xs = T) (fun pre => pre <+: T) w11) := Lib.hid (by
              have := SeqFii _ v L key (by omega) bb bk w11 (.inl ⟨b, rfl, H11.out.f.om⟩) HBB.out.1 HBB.out.2
              rw [← HR.out.1, ← HTT.out.1] at this
              exact this)
            have HA : Hid (∀ k, (k = bb ∨ k = bk ∨ OMB (some ⟨b, 0, none⟩) v k) → k < w11.heap.size ∧ k ≠ b20) := Lib.hid (by
              obtain ⟨m1, m2, m3⟩ := HLL.out
              obtain ⟨l1, l2, _⟩ := LT.out
              have l8 := G11.out.sz
              have l9 := World.block_lt_of_cell? w11 ⟨bb, 0, none⟩ HBB.out.1
              have l10 := World.block_lt_of_cell? w11 ⟨bk, 0, none⟩ HBB.out.2
              simp only at l9 l10
              rintro k (rfl | rfl | ⟨ax, ha, hk⟩ | hk)
              · exact ⟨l9, by omega⟩
              · exact ⟨l10, by omega⟩
              · obtain rfl := Option.some.inj ha
                replace hk : k = b := hk
                exact ⟨by omega, by omega⟩
              · have := l2 k hk
                exact ⟨by omega, by omega⟩)
            go_wp2_with fail
            apply wp_rangeFunc_zb (gf := 52) (lb := #[.pointer (some ⟨bb, 0, none⟩), .pointer (some ⟨bk, 0, none⟩)]) rfl (enters_of Try.func52 (by kernel_rfl) rfl) HSEQ.out (Mdh.refl _ w11) (fun k hk => (HA.out k hk).1) (fun _ => rfl)
              (fun Z pre X => (∃ v2, BoxRow X Z b20 30 3 v2 (kI pre) ∧ ∀ g, v2.ownBlock = some g → w11.heap.size ≤ g) ∧ Frm w11 (fun k => k = b20) Z X)
              (fun _ _ _ => False) (fun _ _ _ => False)
              ((Apart.ex fun v2 => (BoxRow.apart _ _ _ v2 _).and (Apart.pure _)).and (Frm.apart _ _)) apart_no apart_no
              ⟨⟨_, ⟨X20.out, fun h => h, ⟨rfl, .inl ⟨rfl, rfl⟩⟩, fun g hg => (by cases hg)⟩, fun g hg => (by cases hg)⟩, Frm.refl _ _⟩
              _ ?assign ?body ?hend ?hret
            case assign =>
              intro l x X K hK
              dsimp only [encOii]
              gi_wp2
              exact hK
            case hret => intro _ _ _ _ _ _ _ h; exact h.elim
            case body =>
              intro l Z2 pre x X hI hsp
              obtain ⟨⟨v2, hB, hgn⟩, hF⟩ := hI
              obtain ⟨av, capv, hv, hle1, hcap1⟩ := own_val hB.own
              rw [kI_len] at hv hle1
              subst hv
              obtain ⟨m1, m2, m3⟩ := HLL.out
              obtain ⟨l1, l2, l3, l4, l5⟩ := LT.out
              obtain ⟨hi, hz0, hz1, hz2⟩ := HI.out
              have c20 := hB.cell
              have f20 := hB.fr
              obtain ⟨c6, _⟩ := box1 (hF.m.blk H11.out.x6 (by omega))
              obtain ⟨c8, _⟩ := box1 (hF.m.blk H11.out.x8 (by omega))
              have hpl : pre.length < T.length := by have := hsp.length_le; simp at this; omega
              have hpl2 : ¬ (L.length : Int) < (pre.length : Int) := by have := HTT.out.2.1; omega
              have hmem : x ∈ L := by
                have h1 : x ∈ T := hsp.subset (by simp)
                rw [HTT.out.1] at h1
                exact List.mem_of_mem_drop h1
              have hlk := look_run (H11.out.f.gm.mdh hF.m (by omega)) H11.out.f.om.srt H11.out.f.bnd hmem
              have hpl3 : pre.length ≤ 1000 := by have := HTT.out.2.1; omega
              have HBX := Lib.hid hB
              have HFR := Lib.hid hF
              have HGN := Lib.hid hgn
              obtain ⟨x1, x2⟩ := x
              simp only at hlk
              clear hB hF hgn hmem hsp
              unfold maxLen at hcap1
              have hg0 : Gr X (X.alloc (.cells #[.int .i64 x1] 3)) := (Gr.refl X).alloc _
              gi_wp2_with (gi_at_builtin; refine wpListIn_app _ rfl (.tmp 190) (.tmp 192) 30 rfl 3 i0 _ 1 8 Try.underlying30 hi hz0 hz1 hz2 rfl (by decide) (.slice av pre.length capv) pre.length (kI pre) rfl (by have := HBX.out.own.gr hg0; rwa [kI_len] at this) ⟨X.heap.size, 0, none⟩ 1 1 [.int .i64 x1] rfl rfl (news1 _ _ _) (by simp [Value.oneCell']) (by decide) (by simp only [maxLen]; omega) (by omega) ?_; intro g capg w4 hown hwh hgrow; obtain ⟨c4, f4⟩ := box1 (HBX.out.at2 hg0 hgrow); have HW := Lib.hid hwh; have HA4 := Lib.hid (HBX.out.app (by exact HFR.out.t) hg0 (by rw [kI_len]; exact hown) hwh hgrow); simp only [kI_len] at HA4; clear hown hwh hgrow)
              refine ⟨HA4.out.2.mono (fun k hk => ?_), ⟨_, by rw [kI, List.map_append]; exact HA4.out.1, fun q hq => ?_⟩, HFR.out.step HA4.out.2 (fun k hk => ?_)⟩
              · rcases hk with rfl | hk
                · exact ⟨fun h => (HA.out _ h).2 rfl, HBX.out.nz⟩
                · exact ⟨fun h => by have := (HA.out _ h).1; have := HGN.out k hk; omega, (HBX.out.rz k hk).1⟩
              · rw [ownB hq]
                exact HW.out.elim (HGN.out g) (fun h => by have := HFR.out.m.size; simp at h; omega)
              · rcases hk with rfl | hk
                · exact .inl rfl
                · exact .inr (HGN.out k hk)
            case hend =>
              intro Z2 D xs X hD hZD hcase hdef
              obtain ⟨hxs, ⟨v2, hB, hgn⟩, hF⟩ := hcase.elim (fun h => h) (fun h => h.2.elim)
              have hxs' : xs = T := hxs
              subst hxs'
              obtain ⟨a2, c2, hv2, hle2, hcap2⟩ := own_val hB.own
              rw [kI_len] at hv2 hle2
              subst hv2
              obtain ⟨hi, hz0, hz1, hz2⟩ := HI.out
              have hGX : Gr w10 X := G11.out.md hF.m (fun k hk => by have := HLL.out; omega)
              have HGX := Lib.hid hGX
              have HX := Lib.hid (H10.out.gr hGX)
              have HOX : Hid (X.heap[b20]? = some (.cells #[.slice a2 xs.length c2] 30) ∧ Own X 3 1 (.slice a2 xs.length c2) xs.length ((xs.map Prod.fst).map iv)) := Lib.hid ⟨hB.box, by have := hB.own; rw [kI_len, kI_eq] at this; exact this⟩
              have HD : Hid (w11.heap.size ≤ D ∧ X.heap[D]? = some (.deferred (some []))) := Lib.hid ⟨hD, hdef⟩
              obtain ⟨xa, cx, hsl, hsrc, _⟩ := slice_drop Try.underlying30 hi hz1 HX.out.o (fun u hu => by simp only [List.mem_map] at hu; obtain ⟨z, _, rfl⟩ := hu; rfl) hrl
              rw [← HTT.out.2.2] at hsl hsrc
              have HSRC : Hid (∀ W, Gr X W → ∀ i x, (xs.map Prod.fst)[i]? = some x → ∃ g o, xa = some ⟨g, o, none⟩ ∧ W.cell? ⟨g, o + i, none⟩ = some (.int .i64 x)) := Lib.hid (fun W gW i x hx => by
                have h0 := src_cells (l := xs.map Prod.fst) (w := X) (a := xa) (by
                  have h1 := hsrc
                  rw [Nat.mul_one, ← List.map_drop, ← List.map_drop, ← HTT.out.1] at h1
                  rw [List.length_map]
                  exact h1)
                obtain ⟨g, o, e1, e2⟩ := h0 i x hx
                exact ⟨g, o, e1, gW.keep e2⟩)
              have HLE : Hid (xs.length ≤ 1000000) := Lib.hid (by have := HTT.out.2.1; omega)
              unfold maxLen at hcap2
              clear hB hF hcase hdef hD hZD hxs hgn hGX hsrc hi hz0 hz1 hz2
              dsimp only
              have c8 := HX.out.c8
              have c20 := (box1 HOX.out.1).1
              go_wp2_with fail
              have HG := Gr.refl X.drew
              refine wp_region_flo (fun _ => False) [] [] (by kernel_rfl) (by kernel_rfl) (fun _ h => h.elim) ?_
              refine flo_seg 4 rfl ?_
              simp only [List.take_succ_cons, List.take_zero, List.drop_succ_cons, List.drop_zero]
              repeat (go_big_quiet_step (fail))
              refine wpQuiet_nil ?_
              refine flo_eff rfl rfl rfl rfl (fun K hK => ?_)
              go_wp2_with ((go_at_call 13; refine (EqualO (xs.map Prod.fst) xs.length (by simp) (.slice a2 xs.length c2) xa cx _ (HOX.out.2.gr (by (repeat (first | (with_reducible exact Gr.refl _) | assumption | (with_reducible apply Gr.from_drew) | (with_reducible apply Gr.alloc) | (with_reducible apply Gr.drew) | (with_reducible refine Gr.trans ?_ (by assumption)) | (with_reducible refine Gr.setCell ?_ (by omega) _))))) (HSRC.out _ (by (repeat (first | (with_reducible exact Gr.refl _) | assumption | (with_reducible apply Gr.from_drew) | (with_reducible apply Gr.alloc) | (with_reducible apply Gr.drew) | (with_reducible refine Gr.trans ?_ (by assumption)) | (with_reducible refine Gr.setCell ?_ (by omega) _))))) HLE.out).mono ?_; rintro e w1 ⟨rfl, hg⟩; replace HG := HG.trans hg; (try clear hc); have hc := HG.cell; (try simp only [World.size_alloc] at hc)))
              refine ⟨by (first | (refine Gr.mdh ?_ _; (repeat (first | (with_reducible exact Gr.refl _) | assumption | (with_reducible apply Gr.from_drew) | (with_reducible apply Gr.alloc) | (with_reducible apply Gr.drew) | (with_reducible refine Gr.trans ?_ (by assumption)) | (with_reducible refine Gr.setCell ?_ (by omega) _))); done) | (repeat (first | (with_reducible exact Mdh.refl _ _) | (with_reducible refine Mdh.setCell ?_ (by simp) _) | (with_reducible refine Mdh.setNew ?_ (by simp) _) | (with_reducible apply Mdh.alloc) | (with_reducible apply Mdh.drew) | (with_reducible refine Mdh.gr ?_ (by assumption))))), ?_⟩
              refine flo_seg 1 rfl ?_
              simp only [List.take_succ_cons, List.take_zero, List.drop_succ_cons, List.drop_zero]
              repeat (go_big_quiet_step (fail))
              refine wpQuiet_nil ?_
              refine flo_nil ?_
              have HGX2 : Hid (Gr X w1) := Lib.hid (Gr.of_drew HG)
              clear hc HG c8 c20 hsl
              have H13 := Lib.hid (HX.out.gr HGX2.out)
              go_wp2_with fail
              rcases Nat.eq_zero_or_pos L.length with hn0 | hn0
              · have HN0 := Lib.hid hn0
                clear hn0
                have FMin : Hid (atO _ L 0 = none) := Lib.hid (by unfold atO; rw [if_pos (by omega)]; exact List.getElem?_eq_none (by have := HN0.out; omega))
                have FMax : Hid (atO _ L ((L.length : Int) - 1) = none) := Lib.hid (by unfold atO; rw [if_neg (by have := HN0.out; omega)])
                refine (Minii (some ⟨b, 0, none⟩) v L _ (.inl ⟨b, rfl, H13.out.f.om⟩) (by omega)).mono ?_
                rintro e w13 ⟨rfl, hg13⟩
                rw [FMin.out]
                dsimp only [atVii]
                have HG13 := Lib.hid hg13
                clear hg13
                go_wp2_with fail
                refine (Maxii (some ⟨b, 0, none⟩) v L _ (.inl ⟨b, rfl, H13.out.f.om.gr HG13.out⟩) (by omega)).mono ?_
                rintro e w14 ⟨rfl, hg14⟩
                rw [FMax.out]
                dsimp only [atVii]
                have HG14 := Lib.hid (HG13.out.trans hg14)
                clear hg14
                have H14 := Lib.hid (H13.out.gr HG14.out)
                have c6 := H14.out.c6
                have c8 := H14.out.c8
                have hl0 : ¬ (0 : Int) < L.length := by have := HN0.out; omega
                have hle0 : L = [] := List.eq_nil_of_length_eq_zero HN0.out
                go_wp2_with fail
                refine (works_any _).mono ?_
                rintro e w15 ⟨rfl, hg15⟩
                have HG15 := Lib.hid ((HGX2.out.trans HG14.out).trans hg15)
                have b9 := ((H10.out.f.g.trans HGX.out).trans HG15.out).blk HWA.out.2.1
                obtain ⟨c9, f9⟩ := box1 b9
                have HB9 := Lib.hid b9
                clear b9 hg15
                go_wp2_with fail
                have e3 := HWA.out.2.2.1
                have e4 := HWA.out.2.2.2.1
                have e5 := H11.out.f.g.sz
                have e6 := HD.out.1
                have n0 : D ≠ br := by omega
                refine retM1 (D := D) (v := .bool true) rfl (blkSetO (HG15.out.blk HD.out.2) (by simp; omega)) ?_ ⟨rfl, ?_⟩
                · have h6 := blkSet (j := 0) (u := .bool true) HB9.out
                  have h6' : ((w15.setCell ⟨br, 0, none⟩ (.bool true)).putObj D (.deferred none)).heap[br]? = some (.cells #[.bool true] 4) :=
                    (World.putObj_heap_other n0.symm).trans (by simpa using h6)
                  have := (box1 h6').1
                  simp [results, Try.results9, go_sem, this]
                · exact ((((HWA.out.1.trans H10.out.f.g).trans HGX.out).trans HG15.out).setCell (by simp; omega) _).putObj (by omega) _
              · have HN0 := Lib.hid hn0
                clear hn0
                obtain ⟨x0, hx0⟩ : ∃ x, L[0]? = some x := ⟨_, List.getElem?_eq_getElem HN0.out⟩
                obtain ⟨ei, hei⟩ : ∃ e : Nat, (L.length : Int) - 1 = (e : Int) := ⟨L.length - 1, by have := HN0.out; omega⟩
                obtain ⟨xl, hxl⟩ : ∃ x, L[ei]? = some x := ⟨_, List.getElem?_eq_getElem (by have := HN0.out; omega)⟩
                have FMin : Hid (atO _ L 0 = some x0) := Lib.hid (by unfold atO; rw [if_pos (by omega)]; exact hx0)
                have FMax : Hid (atO _ L ((L.length : Int) - 1) = some xl) := Lib.hid (by unfold atO; rw [hei, if_pos (by omega)]; simpa using hxl)
                have HM0 := Lib.hid (And.intro hx0 (And.intro hxl hei))
                clear hx0 hxl hei
                refine (Minii (some ⟨b, 0, none⟩) v L _ (.inl ⟨b, rfl, H13.out.f.om⟩) (by omega)).mono ?_
                rintro e w13 ⟨rfl, hg13⟩
                rw [FMin.out]
                dsimp only [atVii]
                have HG13 := Lib.hid hg13
                clear hg13
                go_wp2_with fail
                refine (Maxii (some ⟨b, 0, none⟩) v L _ (.inl ⟨b, rfl, H13.out.f.om.gr HG13.out⟩) (by omega)).mono ?_
                rintro e w14 ⟨rfl, hg14⟩
                rw [FMax.out]
                dsimp only [atVii]
                have HG14 := Lib.hid (HG13.out.trans hg14)
                clear hg14
                have H14 := Lib.hid (H13.out.gr HG14.out)
                have c6 := H14.out.c6
                have c8 := H14.out.c8
                have hlk0 := H14.out.look (List.mem_of_getElem? HM0.out.1)
                have hlk1 := H14.out.look (List.mem_of_getElem? HM0.out.2.1)
                obtain ⟨g0, hg0, d0⟩ := H14.out.cellAt HM0.out.1
                obtain ⟨g1, hg1, d1⟩ := H14.out.cellAt HM0.out.2.1
                obtain rfl : g0 = g1 := by rw [hg0] at hg1; simpa using hg1
                have hei := HM0.out.2.2
                have hl0 : (0 : Int) < L.length := by have := HN0.out; omega
                have hel : (ei : Int) < L.length := by omega
                cases hg0
                obtain ⟨p0, p1⟩ := x0
                obtain ⟨s0, s1⟩ := xl
                simp only at hlk0 hlk1 d0 d1
                clear hg1
                go_wp2_with fail
                refine (works_any _).mono ?_
                rintro e w15 ⟨rfl, hg15⟩
                have HG15 := Lib.hid ((HGX2.out.trans HG14.out).trans hg15)
                have b9 := ((H10.out.f.g.trans HGX.out).trans HG15.out).blk HWA.out.2.1
                obtain ⟨c9, f9⟩ := box1 b9
                have HB9 := Lib.hid b9
                clear b9 hg15
                go_wp2_with fail
                have e3 := HWA.out.2.2.1
                have e4 := HWA.out.2.2.2.1
                have e5 := H11.out.f.g.sz
                have e6 := HD.out.1
                have n0 : D ≠ br := by omega
                refine retM1 (D := D) (v := .bool true) rfl (blkSetO (HG15.out.blk HD.out.2) (by simp; omega)) ?_ ⟨rfl, ?_⟩
                · have h6 := blkSet (j := 0) (u := .bool true) HB9.out
                  have h6' : ((w15.setCell ⟨br, 0, none⟩ (.bool true)).putObj D (.deferred none)).heap[br]? = some (.cells #[.bool true] 4) :=
                    (World.putObj_heap_other n0.symm).trans (by simpa using h6)
                  have := (box1 h6').1
                  simp [results, Try.results9, go_sem, this]
                · exact ((((HWA.out.1.trans H10.out.f.g).trans HGX.out).trans HG15.out).setCell (by simp; omega) _).putObj (by omega) _
end Go.Proofs.Ytbhkigjmjmfbgaa
