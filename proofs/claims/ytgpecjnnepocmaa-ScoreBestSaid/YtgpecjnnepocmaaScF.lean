/- Contracts for lists of sides: slices.Clone, slices.Equal, Best at any policy, the reference's Best. -/
import Derived.Test.YtgpecjnnepocmaaScN
import Derived.Test.YtgpecjnnepocmaaApp
namespace Go.Proofs.Ytgpecjnnepocmaa
open Go.RowKit
attribute [local go_sem] Ovs cell_ov obj_ov shape_ov

theorem rowS_lt (l : List Sd) (j : Nat) (u : Value) (h : (rowS l)[j]? = some u) : j / 3 < l.length := by
  have := (List.getElem?_eq_some_iff.1 h).1
  rw [rowS_length] at this
  omega
theorem add_none (b off j : Nat) : (⟨b, off, none⟩ : Addr).add j = ⟨b, off + j, none⟩ := by unfold Addr.add; split <;> simp_all
theorem SidesAt.cells {w : World} {b off : Nat} {l : List Sd} (h : SidesAt w b off l) : ∀ j u, (rowS l)[j]? = some u → w.cell? ((⟨b, off, none⟩ : Addr).add j) = some u := by
  intro j u hj
  have hi := rowS_lt l j u hj
  obtain ⟨i, e⟩ : ∃ i, i = j / 3 := ⟨_, rfl⟩
  rw [← e] at hi
  obtain ⟨r0, r1, r2⟩ := rowS_get l i hi
  obtain ⟨c0, c1, c2⟩ := h i hi
  rw [add_none]
  rcases (show j = i * 3 ∨ j = i * 3 + 1 ∨ j = i * 3 + 2 by omega) with e | e | e
  · rw [e] at hj ⊢; rw [c0, ← hj, r0]
  · rw [e] at hj ⊢; rw [← Nat.add_assoc, c1, ← hj, r1]
  · rw [e] at hj ⊢; rw [← Nat.add_assoc, c2, ← hj, r2]
theorem rowS_one (l : List Sd) : ∀ u ∈ rowS l, u.oneCell' = true := by
  intro u hu
  simp only [rowS, List.mem_flatMap] at hu
  obtain ⟨x, _, hx⟩ := hu
  exact one_cells x u hx
/-- A row of the call's own that holds sides. -/
theorem sides_of_own {w : World} {g n cap : Nat} {t : TypeId} {l : List Sd} (h : Own w t 3 (.slice (some ⟨g, 0, none⟩) n cap) n (rowS l)) (_hl : l.length = n) : n ≤ cap ∧ cap ≤ maxLen ∧ g < w.heap.size ∧ SidesAt w g 0 l := by
  rcases h.2 with ⟨h0, _⟩ | ⟨g', cap', cur, hv, _, hg, h1, h2, h3, h4⟩
  · cases h0
  · simp only [Value.slice.injEq, Option.some.injEq, Addr.mk.injEq, and_true, true_and] at hv
    obtain ⟨rfl, rfl⟩ := hv
    refine ⟨h1, h2, (Array.getElem?_eq_some_iff.1 hg).1, fun i hi => ?_⟩
    have hc := h.cells rfl
    obtain ⟨r1, r2, r3⟩ := rowS_get l i hi
    have hadd : ∀ j, (⟨g, 0, none⟩ : Addr).add j = ⟨g, j, none⟩ := fun j => by rw [add_none, Nat.zero_add]
    rw [Nat.zero_add]
    exact ⟨by rw [← hadd]; exact hc _ _ r1, by rw [← hadd]; exact hc _ _ r2, by rw [← hadd]; exact hc _ _ r3⟩

/-- A slice of sides that came in. -/
def SdIn (w : World) (a : Option Addr) (len cap : Nat) (l : List Sd) : Prop :=
  l.length = len ∧ ((a = none ∧ len = 0 ∧ cap = 0) ∨ ∃ ad, a = some ad ∧ (0 < len → ad.spot = none ∧ ad.block < w.heap.size ∧ SidesAt w ad.block ad.off l))
theorem SdIn.grow {w w1 : World} {a : Option Addr} {len cap : Nat} {l : List Sd} (h : SdIn w a len cap l) (g : Gr w w1) : SdIn w1 a len cap l := by
  obtain ⟨h1, h2 | ⟨ad, rfl, h2⟩⟩ := h
  · exact ⟨h1, .inl h2⟩
  · exact ⟨h1, .inr ⟨ad, rfl, fun h0 => let ⟨a1, a2, a3⟩ := h2 h0; ⟨a1, Nat.lt_of_lt_of_le a2 g.sz, a3.grow a2 g⟩⟩⟩
theorem SdIn.at {w : World} {a : Option Addr} {len cap : Nat} {l : List Sd} (h : SdIn w a len cap l) : ∀ i, i < len → ∃ b off, a = some ⟨b, off, none⟩ ∧ b < w.heap.size ∧
    w.cell? ⟨b, off + i * 3, none⟩ = some (.int .i64 (l[i]?.getD (0, 0, 0)).1) ∧ w.cell? ⟨b, off + i * 3 + 1, none⟩ = some (.int .i64 (l[i]?.getD (0, 0, 0)).2.1) ∧ w.cell? ⟨b, off + i * 3 + 2, none⟩ = some (.int .i64 (l[i]?.getD (0, 0, 0)).2.2) := by
  intro i hi
  obtain ⟨h1, ⟨_, h2, _⟩ | ⟨ad, rfl, h2⟩⟩ := h
  · omega
  · obtain ⟨a1, a2, a3⟩ := h2 (by omega)
    obtain ⟨b, off, sp⟩ := ad
    simp only at a1 a2 a3
    subst a1
    obtain ⟨c0, c1, c2⟩ := a3 i (by omega)
    exact ⟨b, off, rfl, a2, c0, c1, c2⟩
theorem SdIn.ofOwn {w : World} {v : Value} {n : Nat} {t : TypeId} {l : List Sd} (h : Own w t 3 v n (rowS l)) (hl : l.length = n) : ∃ a cap, v = .slice a n cap ∧ SdIn w a n cap l ∧ n ≤ cap ∧ cap ≤ maxLen := by
  rcases h.2 with ⟨rfl, rfl⟩ | ⟨g, cap, cur, rfl, hb, hg, h1, h2, h3, h4⟩
  · exact ⟨none, 0, rfl, ⟨hl, .inl ⟨rfl, rfl, rfl⟩⟩, by omega, by simp [maxLen]⟩
  · obtain ⟨a1, a2, a3, a4⟩ := sides_of_own h hl
    exact ⟨_, cap, rfl, ⟨hl, .inr ⟨_, rfl, fun _ => ⟨rfl, a3, a4⟩⟩⟩, a1, a2⟩

set_option maxRecDepth 40000 in
set_option maxHeartbeats 1000000 in
theorem CloneSd (a : Option Addr) (len cap : Nat) (l : List Sd) (hlen : len ≤ 100) (w : World) (hs : SdIn w a len cap l) :
    Calls Try.prog 22 #[.slice a len cap] w fun e w' => ∃ v, e = .returned v ∧ Own w' 23 3 v len (rowS l) ∧ (∀ k, v.ownBlock = some k → w.heap.size ≤ k) ∧ Gr w w' := by
  obtain ⟨i0, hi, hz0, hz1, hz2⟩ := info_parts Try.infoSide
  obtain ⟨hl, ⟨rfl, rfl, rfl⟩ | ⟨ad, rfl, hs⟩⟩ := hs
  · have k3 := @Lib.run_eql_slice_nil
    obtain rfl : l = [] := List.eq_nil_of_length_eq_zero hl
    clear hl
    go_enter Try.func22, Try.ntmps22
    go_wp2
    go_ret
    exact ⟨.slice none 0 0, rfl, ⟨rfl, .inl ⟨rfl, rfl⟩⟩, fun k hk => by simp [Value.ownBlock] at hk, Gr.refl _⟩
  · have k3 : ∀ w : World, (binOp .eql 42 (.slice (some ad) len cap) (.slice none 0 0)).run Try.prog w = .ok (.bool false) w := fun w => Lib.run_eql_slice_nil w _ _ (some ad) len cap 0 0 Try.underlying42
    have HC : Hid (∀ w1, Gr w w1 → ∀ j u, (rowS l)[j]? = some u → w1.cell? (ad.add j) = some u) := Lib.hid (fun w1 g j u hj => by
      have h0 := rowS_lt l j u hj
      obtain ⟨a1, a2, a3⟩ := hs (by omega)
      obtain ⟨b, off, sp⟩ := ad
      simp only at a1 a2 a3
      subst a1
      exact (a3.grow a2 g).cells j u hj)
    have HR : Hid ((rowS l).length = len * 3) := Lib.hid (by rw [rowS_length, hl])
    have H1 := Lib.hid (rowS_one l)
    clear hl hs
    go_enter Try.func22, Try.ntmps22
    go_wp2_with (at_builtin; go_must (refine wpList_append_own _ rfl (.tmp 5) (.tmp 6) 42 rfl w.heap.size 23 i0 _ 3 24 Try.underlying42 hi hz0 hz1 hz2 rfl (by decide) (.slice (some ⟨w.heap.size, 0, none⟩) 0 0) 0 [] rfl (World.ownsRow_made _ #[] 0 (Nat.le_refl _) (by simp only [maxLen]; omega) rfl) ad len cap (rowS l) rfl HR.out (HC.out _ (by (repeat (first | (with_reducible exact Gr.refl _) | assumption | (with_reducible apply Gr.from_drew) | (with_reducible apply Gr.alloc) | (with_reducible apply Gr.drew) | (with_reducible refine Gr.trans ?_ (by assumption)) | (with_reducible refine Gr.setCell ?_ (by omega) _))))) H1.out (by simp only [maxLen]; omega) (by omega) (by simp) ?_); intro v' w2 hown2 hgrow hnil; have HO2 := Lib.hid hown2; have HG2 := Lib.hid hgrow; have HN := Lib.hid hnil; clear hown2 hgrow hnil)
    go_ret
    have ho := HO2.out
    simp only [Nat.zero_add, List.nil_append] at ho
    have hg := HG2.out
    refine ⟨v', rfl, Own.lift ho, fun k hk => ?_, hg.os, hg.tape, hg.output, Nat.le_trans (by simp) hg.size, fun k hk => ?_⟩
    · exact (World.ownsRow.lt ho k hk).1
    · exact (hg.block k (by simp; omega) (by simp [Value.ownBlock]; omega)).trans (Below.heap_alloc w _ k hk)

set_option maxRecDepth 40000 in
set_option maxHeartbeats 1000000 in
theorem EqualSd (a a' : Option Addr) (len cap cap' : Nat) (l : List Sd) (hlen : len ≤ 100) (w : World) (hs : SdIn w a len cap l) (hs' : SdIn w a' len cap' l) :
    Calls Try.prog 24 #[.slice a len cap, .slice a' len cap'] w fun e w' => e = .returned (.bool true) ∧ Gr w w' := by
  have HS := Lib.hid hs.at
  have HS' := Lib.hid hs'.at
  clear hs hs'
  go_enter Try.func24, Try.ntmps24
  go_wp2_with fail
  go_loopw [13] (fun i wx => ∃ k : Nat, k ≤ len ∧ i = .int .i64 k ∧ Gr w wx) (fun i _ => len - (intOf i).toNat)
  case atStart => exact ⟨0, by omega, rfl, by (repeat (first | (with_reducible exact Gr.refl _) | assumption | (with_reducible apply Gr.from_drew) | (with_reducible apply Gr.alloc) | (with_reducible apply Gr.drew) | (with_reducible refine Gr.trans ?_ (by assumption)) | (with_reducible refine Gr.setCell ?_ (by omega) _)))⟩
  case round =>
    obtain ⟨k, hk, rfl, hg⟩ := hrel
    by_cases hlt : k < len
    · have hlt' : (k : Int) < len := by omega
      obtain ⟨b, off, rfl, hb, x0, x1, x2⟩ := HS.out k hlt
      obtain ⟨b', off', rfl, hb', x0', x1', x2'⟩ := HS'.out k hlt
      have y0 := (hg.cell _ _ hb).trans x0
      have y1 := (hg.cell _ _ hb).trans x1
      have y2 := (hg.cell _ _ hb).trans x2
      have y0' := (hg.cell _ _ hb').trans x0'
      have y1' := (hg.cell _ _ hb').trans x1'
      have y2' := (hg.cell _ _ hb').trans x2'
      generalize l[k]?.getD (0, 0, 0) = s at *
      obtain ⟨s1, s2, s3⟩ := s
      simp only at y0 y1 y2 y0' y1' y2'
      clear x0 x1 x2 x0' x1' x2'
      go_wp2
      refine wp_region_flow (by kernel_rfl) (by kernel_rfl) ?_
      refine flow_seg 9 rfl ?_
      simp only [List.take_succ_cons, List.take_zero, List.drop_succ_cons, List.drop_zero]
      repeat (go_big_quiet_step (fail))
      refine wpQuiet_nil ?_
      refine flow_nil ?_
      go_wp2
      go_roundw
      case rel => exact ⟨k + 1, by omega, by go_num, by (repeat (first | (with_reducible exact Gr.refl _) | assumption | (with_reducible apply Gr.from_drew) | (with_reducible apply Gr.alloc) | (with_reducible apply Gr.drew) | (with_reducible refine Gr.trans ?_ (by assumption)) | (with_reducible refine Gr.setCell ?_ (by omega) _)))⟩
      case measure => simp [intOf]; omega
    · have hlt' : ¬ (k : Int) < len := by omega
      go_wp2
      go_ret
      exact ⟨rfl, hg⟩

open Classical in
noncomputable def bestA (policy room : Int) (l : List Sd) : Value := if (policy = 1 ∨ policy = 2) ∧ inB room 1 8192 = true then bestR policy room l l.length else bestV zSd false 2
theorem bestA_yes {policy room : Int} {l : List Sd} (hp : policy = 1 ∨ policy = 2) (hr : inB room 1 8192 = true) : bestA policy room l = bestR policy room l l.length := if_pos ⟨hp, hr⟩
theorem bestA_no {policy room : Int} {l : List Sd} (h : ¬ ((policy = 1 ∨ policy = 2) ∧ inB room 1 8192 = true)) : bestA policy room l = bestV zSd false 2 := if_neg h

/-- Best at any policy, room and row. -/
theorem BestAny (policy room : Int) (v : Value) (n : Nat) (l : List Sd) (hl : l.length = n) (hn : n ≤ 100) (w : World) (hown : Own w 23 3 v n (rowS l)) :
    Calls Try.prog 21 #[.int .i64 policy, v, .int .i64 room] w fun e w' => e = .returned (bestA policy room l) ∧ Gr w w' := by
  by_cases hpr : (policy = 1 ∨ policy = 2) ∧ inB room 1 8192 = true
  · obtain ⟨hp, hr⟩ := hpr
    rw [bestA_yes hp hr, hl]
    have hown2 := hown
    rcases hown.2 with ⟨rfl, rfl⟩ | ⟨g, cap, cur, rfl, hb, hg, h1, h2, h3, h4⟩
    · obtain rfl : l = [] := List.eq_nil_of_length_eq_zero hl
      rw [best_none]
      rcases hp with rfl | rfl
      · exact Best_nil_1 room hr w
      · exact Best_nil_2 room hr w
    · obtain ⟨a1, a2, a3, a4⟩ := sides_of_own hown hl
      rcases hp with rfl | rfl
      · exact Best_1 room hr g 0 n cap l hl (by omega) a1 a2 w a4 a3
      · exact Best_2 room hr g 0 n cap l hl (by omega) a1 a2 w a4 a3
  · rw [bestA_no hpr]
    refine Best_bad policy room v (fun hp => ?_) w
    cases hr : inB room 1 8192 with
    | true => exact absurd ⟨hp, hr⟩ hpr
    | false => rfl
end Go.Proofs.Ytgpecjnnepocmaa
