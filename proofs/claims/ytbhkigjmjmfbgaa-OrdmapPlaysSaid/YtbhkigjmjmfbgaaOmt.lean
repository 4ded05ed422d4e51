/- Contract of the reference's From. -/
import Derived.Test.YtbhkigjmjmfbgaaOmr
import Derived.BigQuiet
set_option linter.unusedVariables false
set_option linter.unusedSimpArgs false
namespace Go.Proofs.Ytbhkigjmjmfbgaa
open Go.RowKit
attribute [local go_sem] OvM cell_ovm obj_ovm

theorem Try.infoStr : (Try.prog.info? 9).map (fun i => (i.zero, i.size, i.bytes)) = some (some (.string ⟨#[]⟩), 1, 16) := by kernel_rfl
/-- Nothing is appended. -/
theorem run_app0 (w : World) (ty : TypeId) (B : Nat) (x : Option Addr) (c : Nat) : (Builtin.append_ #[143, 143] ty #[.slice (some ⟨B, 0, none⟩) 0 0, .slice x 0 c]).run Try.prog w = .ok (.slice (some ⟨B, 0, none⟩) 0 0) w := by
  obtain ⟨i0, hi, hz0, hz1, hz2⟩ := info_parts Try.infoStr
  cases x <;> simp [Builtin.append_, run_underlying Try.underlying143, sizeOf, typeInfo, hi, hz1, Builtin.firstCells, Builtin.lenOf, storeCells, loadCells, loadCellsFrom]
def RFPost (L : List Itss) (r : Nat) (w : World) (e : Ending) (w' : World) : Prop := ∃ v1 v2, e = .returned (.tuple #[v1, v2]) ∧ Own w' 9 1 v1 (L.length - r) (ksL (L.drop r)) ∧ Own w' 9 1 v2 (L.length - r) (vsL (L.drop r)) ∧ Gr w w'
theorem own_made {w : World} {t : TypeId} {B : Nat} (h : w.heap[B]? = some (.cells #[] t)) : Own w t 1 (.slice (some ⟨B, 0, none⟩) 0 0) 0 [] := Own.ofParts h (Nat.le_refl _) (by simp [maxLen]) rfl rfl

set_option maxRecDepth 40000 in
set_option maxHeartbeats 2000000 in
theorem rFrom (p : Option Addr) (L : List Itss) (k : ByteArray) (w : World) (h : RV w p L) (hn : L.length ≤ 100000) :
    Calls Try.prog 100 #[.pointer p, .string k] w (RFPost L (rk ltS L k) w) := by
  have H := Lib.hid h
  obtain ⟨i0, hi, hz0, hz1, hz2⟩ := info_parts Try.infoStr
  rcases h with ⟨b, kv, vv, rfl, h⟩ | ⟨rfl, rfl⟩
  · obtain ⟨a, cap, rfl, hc, hm, hat⟩ := own_at h.ok
    obtain ⟨a', cap', rfl, hc', hm', hat'⟩ := own_at h.ov
    have c1 := ((cellsOf h.blk).1 1).trans (show _ = some (Value.slice a L.length cap) from rfl)
    have c2 := ((cellsOf h.blk).1 2).trans (show _ = some (Value.slice a' L.length cap') from rfl)
    have hr := rk_le (lt := ltS) L k
    obtain ⟨r, hrd⟩ : ∃ r, r = rk ltS L k := ⟨_, rfl⟩
    have HRK := Lib.hid hrd
    rw [← hrd] at hr ⊢
    unfold maxLen at hm hm'
    by_cases hrn : r < L.length
    · have hx : L[r]? = some (L[r]'hrn) := List.getElem?_eq_getElem hrn
      obtain ⟨g, rfl, d0⟩ := hat r _ (by rw [ksL, List.getElem?_map, hx]; rfl)
      obtain ⟨g', rfl, d1⟩ := hat' r _ (by rw [vsL, List.getElem?_map, hx]; rfl)
      have hcr : ¬ cap = r := by omega
      have hcr' : ¬ cap' = r := by omega
      have hrL : (r : Int) ≤ L.length := by omega
      have HN : Hid (∀ w1, Gr w w1 → (∀ j u, (ksL (L.drop r))[j]? = some u → w1.cell? ((⟨g, r, none⟩ : Addr).add j) = some u) ∧ (∀ j u, (vsL (L.drop r))[j]? = some u → w1.cell? ((⟨g', r, none⟩ : Addr).add j) = some u)) := Lib.hid (fun w1 g1 => by
        have hadd : ∀ b o j : Nat, (⟨b, o, none⟩ : Addr).add j = ⟨b, o + j, none⟩ := fun b o j => by unfold Addr.add; split <;> simp_all
        constructor
        · intro j u hj
          rw [ksL, List.getElem?_map, List.getElem?_drop, ← List.getElem?_map] at hj
          obtain ⟨g2, he, hc⟩ := hat _ _ hj
          obtain rfl : g = g2 := by simpa using he
          rw [hadd]; exact g1.keep hc
        · intro j u hj
          rw [vsL, List.getElem?_map, List.getElem?_drop, ← List.getElem?_map] at hj
          obtain ⟨g2, he, hc⟩ := hat' _ _ hj
          obtain rfl : g' = g2 := by simpa using he
          rw [hadd]; exact g1.keep hc)
      have HKL : Hid ((ksL (L.drop r)).length = (L.length - r) * 1 ∧ (vsL (L.drop r)).length = (L.length - r) * 1) := Lib.hid ⟨by simp [ksL], by simp [vsL]⟩
      have HK1 : Hid ((∀ u ∈ ksL (L.drop r), u.oneCell' = true) ∧ ∀ u ∈ vsL (L.drop r), u.oneCell' = true) := Lib.hid ⟨fun u hu => by simp only [ksL, List.mem_map] at hu; obtain ⟨x, _, rfl⟩ := hu; rfl, fun u hu => by simp only [vsL, List.mem_map] at hu; obtain ⟨x, _, rfl⟩ := hu; rfl⟩
      clear hat hat' hx h hrd d0 d1
      go_enter Try.func100, Try.ntmps100
      go_wp2_with (first | (go_at_call 81; refine (rvalid _ L _ H.out).mono ?_; rintro e w1 ⟨rfl, rfl⟩) | (go_at_call 37; refine (rRank _ L k _ H.out).mono ?_; rintro e w1 ⟨rfl, rfl⟩; rw [← HRK.out]))
      have HG := Gr.refl w.drew
      refine wp_region_flo (fun _ => False) [13, 21] [] (by kernel_rfl) (by kernel_rfl) (fun _ h => h.elim) ?_
      refine flo_float (fun b ↦ .slice (some ⟨b, 0, none⟩) 0 0) (_ ) rfl rfl ( fun w ↦ by simp [go_sem]; rfl ) (fun wf1 fb1 hgf1 fl1 fh1 ft1 fo1 => ?_)
      (try replace HG := Gr.trans (Gr.trans HG (by (repeat (first | (with_reducible exact Gr.refl _) | assumption | (with_reducible apply Gr.from_drew) | (with_reducible apply Gr.alloc) | (with_reducible apply Gr.drew) | (with_reducible refine Gr.trans ?_ (by assumption)) | (with_reducible refine Gr.setCell ?_ (by omega) _))))) hgf1)
      simp only [Act.put, List.setIfInBounds_toArray, List.set_cons_succ, List.set_cons_zero]
      refine flo_seg 6 rfl ?_
      simp only [List.take_succ_cons, List.take_zero, List.drop_succ_cons, List.drop_zero]
      repeat (go_big_quiet_step (fail))
      refine wpQuiet_nil ?_
      refine flo_effg rfl rfl rfl (fun wg2 hgg2 K hK => ?_)
      (try replace HG := Gr.trans (Gr.trans HG (by (repeat (first | (with_reducible exact Gr.refl _) | assumption | (with_reducible apply Gr.from_drew) | (with_reducible apply Gr.alloc) | (with_reducible apply Gr.drew) | (with_reducible refine Gr.trans ?_ (by assumption)) | (with_reducible refine Gr.setCell ?_ (by omega) _))))) hgg2)
      (try replace fo1 := Gr.blk hgg2 (Gr.blk (by (repeat (first | (with_reducible exact Gr.refl _) | assumption | (with_reducible apply Gr.from_drew) | (with_reducible apply Gr.alloc) | (with_reducible apply Gr.drew) | (with_reducible refine Gr.trans ?_ (by assumption)) | (with_reducible refine Gr.setCell ?_ (by omega) _)))) fo1))
      refine wp_app _ (.tmp 13) (.tmp 19) 143 rfl 9 i0 _ 1 16 Try.underlying143 hi hz0 hz1 hz2 rfl (by decide) (.slice (some ⟨fb1, 0, none⟩) 0 0) 0 [] rfl (own_made fo1) ⟨g, r, none⟩ (L.length - r) (cap - r) (ksL (L.drop r)) rfl HKL.out.1 ((HN.out _ (Gr.of_drew HG)).1) HK1.out.1 (by omega) (by simp only [maxLen]; omega) (by omega) (fun u1 n1 x1 ho6 hb6 hg6 => ?_); rw [List.nil_append, Nat.zero_add] at ho6; (have HO1 := Lib.hid ho6); (have HB1 := Lib.hid hb6); (have HM1 : Hid (Mdh (fun q => False ∨ False ∨ q = fb1) wg2 x1) := Lib.hid (Mdh.grown (Mdh.refl _ wg2) hg6 (fun q hq => by simpa [Value.ownBlock, eq_comm] using hq))); (replace HG := Gr.md HG HM1.out (fun q hq => by have := fl1; have hd : w.drew.heap.size = w.heap.size := rfl; rcases hq with h | h | h <;> first | exact h.elim | omega)); clear ho6 hb6 hg6 fo1; refine hK _ _ ⟨HM1.out.mono (fun q hq => by rcases hq with h | h | h <;> first | exact h.elim | exact .inr (.inr h)), ?_⟩; simp only [Act.put, List.setIfInBounds_toArray, List.set_cons_succ, List.set_cons_zero, Nat.zero_add]
      refine flo_float (fun b ↦ .slice (some ⟨b, 0, none⟩) 0 0) (_ ) rfl rfl ( fun w ↦ by simp [go_sem]; rfl ) (fun wf2 fb2 hgf2 fl2 fh2 ft2 fo2 => ?_)
      (try replace HG := Gr.trans (Gr.trans HG (by (repeat (first | (with_reducible exact Gr.refl _) | assumption | (with_reducible apply Gr.from_drew) | (with_reducible apply Gr.alloc) | (with_reducible apply Gr.drew) | (with_reducible refine Gr.trans ?_ (by assumption)) | (with_reducible refine Gr.setCell ?_ (by omega) _))))) hgf2)
      (try replace fo1 := Gr.blk hgf2 fo1)
      (try have fc1 := (cellsOf fo1).1)
      (try have ff1 := (cellsOf fo1).2)
      (try have fc2 := (cellsOf fo2).1)
      (try have ff2 := (cellsOf fo2).2)
      simp only [Act.put, List.setIfInBounds_toArray, List.set_cons_succ, List.set_cons_zero]
      refine flo_seg 6 rfl ?_
      simp only [List.take_succ_cons, List.take_zero, List.drop_succ_cons, List.drop_zero]
      repeat (go_big_quiet_step (fail))
      refine wpQuiet_nil ?_
      refine flo_eff rfl rfl rfl rfl (fun K hK => ?_)
      refine wp_app _ (.tmp 21) (.tmp 27) 143 rfl 9 i0 _ 1 16 Try.underlying143 hi hz0 hz1 hz2 rfl (by decide) (.slice (some ⟨fb2, 0, none⟩) 0 0) 0 [] rfl (own_made fo2) ⟨g', r, none⟩ (L.length - r) (cap' - r) (vsL (L.drop r)) rfl HKL.out.2 ((HN.out _ (Gr.of_drew HG)).2) HK1.out.2 (by omega) (by simp only [maxLen]; omega) (by omega) (fun u2 n2 x2 ho6 hb6 hg6 => ?_); rw [List.nil_append, Nat.zero_add] at ho6; (have HO2 := Lib.hid ho6); (have HB2 := Lib.hid hb6); (have HM2 : Hid (Mdh (fun q => False ∨ False ∨ q = fb2) wf2 x2) := Lib.hid (Mdh.grown (Mdh.refl _ wf2) hg6 (fun q hq => by simpa [Value.ownBlock, eq_comm] using hq))); (replace HG := Gr.md HG HM2.out (fun q hq => by have := fl2; have hd : w.drew.heap.size = w.heap.size := rfl; rcases hq with h | h | h <;> first | exact h.elim | omega)); clear ho6 hb6 hg6 fo2; refine hK _ _ ⟨HM2.out.mono (fun q hq => by rcases hq with h | h | h <;> first | exact h.elim | exact .inr (.inr h)), ?_⟩; simp only [Act.put, List.setIfInBounds_toArray, List.set_cons_succ, List.set_cons_zero, Nat.zero_add]
      refine flo_seg 2 rfl ?_
      simp only [List.take_succ_cons, List.take_zero, List.drop_succ_cons, List.drop_zero]
      repeat (go_big_quiet_step (fail))
      refine wpQuiet_nil ?_
      refine flo_nil ?_
      go_wp2
      go_ret2
      have hm1 : Own x2 9 1 (.slice (some ⟨u1, 0, none⟩) (L.length - r) n1) (L.length - r) (ksL (L.drop r)) := by
        refine (HO1.out.gr hgf2).mdh HM2.out fun k hk hq => ?_
        obtain rfl : u1 = k := by simpa [Value.ownBlock] using hk
        rcases hq with h | h | h
        · exact h
        · exact h
        · subst h
          refine ft2 ?_
          rcases HB1.out with h | h
          · exact .inl (.inr (by simpa [Value.ownBlock, eq_comm] using h))
          · exact .inr ⟨h, HO1.out.lt rfl⟩
      exact ⟨_, _, rfl, hm1, HO2.out, Gr.of_drew HG⟩
    · obtain rfl : r = L.length := by omega
      clear hat hat' h hrd hr hrn
      have hpost : ∀ (w1 : World) (e1 e2 : Nat), w1.heap[e1]? = some (.cells #[] 9) → w1.heap[e2]? = some (.cells #[] 9) → Gr w w1 → RFPost L L.length w (.returned (.tuple #[.slice (some ⟨e1, 0, none⟩) 0 0, .slice (some ⟨e2, 0, none⟩) 0 0])) w1 := fun w1 e1 e2 o1 o2 g => ⟨_, _, rfl, by rw [List.drop_length, Nat.sub_self]; exact own_made o1, by rw [List.drop_length, Nat.sub_self]; exact own_made o2, g⟩
      have HP := Lib.hid hpost
      clear hpost
      have hll : ((L.length : Nat) : Int) ≤ L.length := Int.le_refl _
      generalize RFPost L L.length w = POST at *
      by_cases hcr : cap = L.length <;> by_cases hcr' : cap' = L.length <;> cases a <;> cases a'
      all_goals
        (try subst hcr)
        (try subst hcr')
        go_enter Try.func100, Try.ntmps100
        go_wp2_with (first | (go_at_call 81; refine (rvalid _ L _ H.out).mono ?_; rintro e w1 ⟨rfl, rfl⟩) | (go_at_call 37; refine (rRank _ L k _ H.out).mono ?_; rintro e w1 ⟨rfl, rfl⟩; rw [← HRK.out]))
        have HG := Gr.refl w.drew
        refine wp_region_flo (fun _ => False) [13, 21] [] (by kernel_rfl) (by kernel_rfl) (fun _ h => h.elim) ?_
        refine flo_float (fun b ↦ .slice (some ⟨b, 0, none⟩) 0 0) (_ ) rfl rfl ( fun w ↦ by simp [go_sem]; rfl ) (fun wf1 fb1 hgf1 fl1 fh1 ft1 fo1 => ?_)
        (try replace HG := Gr.trans (Gr.trans HG (by (repeat (first | (with_reducible exact Gr.refl _) | assumption | (with_reducible apply Gr.from_drew) | (with_reducible apply Gr.alloc) | (with_reducible apply Gr.drew) | (with_reducible refine Gr.trans ?_ (by assumption)) | (with_reducible refine Gr.setCell ?_ (by omega) _))))) hgf1)
        simp only [Act.put, List.setIfInBounds_toArray, List.set_cons_succ, List.set_cons_zero]
        refine flo_seg 6 rfl ?_
        simp only [List.take_succ_cons, List.take_zero, List.drop_succ_cons, List.drop_zero]
        repeat (go_big_quiet_step (fail))
        refine wpQuiet_nil ?_
        refine flo_effg rfl rfl rfl (fun wg2 hgg2 K hK => ?_)
        (try replace HG := Gr.trans (Gr.trans HG (by (repeat (first | (with_reducible exact Gr.refl _) | assumption | (with_reducible apply Gr.from_drew) | (with_reducible apply Gr.alloc) | (with_reducible apply Gr.drew) | (with_reducible refine Gr.trans ?_ (by assumption)) | (with_reducible refine Gr.setCell ?_ (by omega) _))))) hgg2)
        (try replace fo1 := Gr.blk hgg2 (Gr.blk (by (repeat (first | (with_reducible exact Gr.refl _) | assumption | (with_reducible apply Gr.from_drew) | (with_reducible apply Gr.alloc) | (with_reducible apply Gr.drew) | (with_reducible refine Gr.trans ?_ (by assumption)) | (with_reducible refine Gr.setCell ?_ (by omega) _)))) fo1))
        refine wp_app_eq (run_app0 _ _ fb1 _ _) (.tmp 13) (.tmp 19) rfl rfl rfl rfl ?_; refine hK _ _ ⟨Mdh.refl _ _, ?_⟩; simp only [Act.put, List.setIfInBounds_toArray, List.set_cons_succ, List.set_cons_zero]
        refine flo_float (fun b ↦ .slice (some ⟨b, 0, none⟩) 0 0) (_ ) rfl rfl ( fun w ↦ by simp [go_sem]; rfl ) (fun wf2 fb2 hgf2 fl2 fh2 ft2 fo2 => ?_)
        (try replace HG := Gr.trans (Gr.trans HG (by (repeat (first | (with_reducible exact Gr.refl _) | assumption | (with_reducible apply Gr.from_drew) | (with_reducible apply Gr.alloc) | (with_reducible apply Gr.drew) | (with_reducible refine Gr.trans ?_ (by assumption)) | (with_reducible refine Gr.setCell ?_ (by omega) _))))) hgf2)
        (try replace fo1 := Gr.blk hgf2 fo1)
        (try have fc1 := (cellsOf fo1).1)
        (try have ff1 := (cellsOf fo1).2)
        (try have fc2 := (cellsOf fo2).1)
        (try have ff2 := (cellsOf fo2).2)
        simp only [Act.put, List.setIfInBounds_toArray, List.set_cons_succ, List.set_cons_zero]
        refine flo_seg 6 rfl ?_
        simp only [List.take_succ_cons, List.take_zero, List.drop_succ_cons, List.drop_zero]
        repeat (go_big_quiet_step (fail))
        refine wpQuiet_nil ?_
        refine flo_eff rfl rfl rfl rfl (fun K hK => ?_)
        refine wp_app_eq (run_app0 _ _ fb2 _ _) (.tmp 21) (.tmp 27) rfl rfl rfl rfl ?_; refine hK _ _ ⟨Mdh.refl _ _, ?_⟩; simp only [Act.put, List.setIfInBounds_toArray, List.set_cons_succ, List.set_cons_zero]
        refine flo_seg 2 rfl ?_
        simp only [List.take_succ_cons, List.take_zero, List.drop_succ_cons, List.drop_zero]
        repeat (go_big_quiet_step (fail))
        refine wpQuiet_nil ?_
        refine flo_nil ?_
        go_wp2
        exact HP.out _ _ _ fo1 fo2 (Gr.of_drew HG)
  · have H0 := Lib.hid (show rk ltS ([] : List Itss) k = 0 from rfl)
    go_enter Try.func100, Try.ntmps100
    go_wp2_with (go_at_call 81; refine (rvalid _ [] _ H.out).mono ?_; rintro e w1 ⟨rfl, rfl⟩)
    go_ret2
    exact ⟨_, _, rfl, ⟨rfl, .inl ⟨rfl, rfl⟩⟩, ⟨rfl, .inl ⟨rfl, rfl⟩⟩, Gr.refl w⟩
end Go.Proofs.Ytbhkigjmjmfbgaa
