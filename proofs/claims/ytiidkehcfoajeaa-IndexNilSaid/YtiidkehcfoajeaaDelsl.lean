/- Contract of slices.Delete of one element, at drumlin/ordmap.item[string, drumlin/index.list]. Written from YDel.base by inst.py. -/
import Derived.Test.YtiidkehcfoajeaaInssl
set_option linter.unusedVariables false
set_option linter.unusedSimpArgs false
namespace Go.Proofs.Ytiidkehcfoajeaa
open Go.RowKit
attribute [local go_sem] OvM cell_ovm obj_ovm

def DelPostsl (g n cap i : Nat) (xs : List Value) (w : World) (e : Ending) (w' : World) : Prop :=
  e = .returned (.slice (some ⟨g, 0, none⟩) (n - 1) cap) ∧ Own w' 158 2 (.slice (some ⟨g, 0, none⟩) (n - 1) cap) (n - 1) (xs.take (i * 2) ++ xs.drop ((i + 1) * 2)) ∧ Mdh (fun k => k = g) w w'
theorem zeroItsl (w : World) : (zeroValue 158).run Try.prog w = .ok (.agg #[.string ⟨#[]⟩, .slice none 0 0]) w := by kernel_rfl

set_option maxRecDepth 40000 in
set_option maxHeartbeats 4000000 in
theorem Deletesl (g n cap i : Nat) (xs : List Value) (w : World) (hown : Own w 158 2 (.slice (some ⟨g, 0, none⟩) n cap) n xs) (h1 : ∀ u ∈ xs, u.oneCell' = true) (hi : i < n) :
    Calls Try.prog 142 #[.slice (some ⟨g, 0, none⟩) n cap, .int .i64 i, .int .i64 ((i + 1 : Nat) : Int)] w (DelPostsl g n cap i xs w) := by
  obtain ⟨i0, hi0, hz0, hz1, hz2⟩ := info_parts infoItsl
  obtain ⟨cur, hg, hnc, hcm, hcs, htk⟩ := hown.parts
  have hx : xs.length = n * 2 := hown.1
  have hcell := hown.cells rfl
  have hc1 : ¬ cap = i := by omega
  obtain ⟨J, hJ⟩ : ∃ J : Nat, J = i + 1 := ⟨_, rfl⟩
  have hJn : J ≤ n := by omega
  have hadd : ∀ b o j : Nat, (⟨b, o, none⟩ : Addr).add j = ⟨b, o + j, none⟩ := fun b o j => by unfold Addr.add; split <;> simp_all
  have hdl : (xs.drop (J * 2)).length = (n - J) * 2 := by rw [List.length_drop, hx]; omega
  obtain ⟨ad, had⟩ : ∃ ad : Addr, ad = if cap = J then ⟨g, 0, none⟩ else ⟨g, J * 2, none⟩ := ⟨_, rfl⟩
  obtain ⟨w2, hr, ho, hgr⟩ := run_append_fits (P := Try.prog) w.drew 0 159 159 158 i0 2 Try.underlying159 hi0 hz1 g i cap (xs.take (i * 2)) ((hown.gr (Gr.drew (Gr.refl w))).take (by omega)) ad (n - J) (cap - J) (xs.drop (J * 2)) hdl
    (fun j v hj => by
      rw [List.getElem?_drop] at hj
      have hlt := (List.getElem?_eq_some_iff.1 hj).1
      have := hcell _ _ hj
      rw [hadd, Nat.zero_add] at this
      rw [had, if_neg (by omega), hadd]
      exact this) (fun v hv => h1 v (List.mem_of_mem_drop hv)) (by omega)
  have hlen : i + (n - J) = n - 1 := by omega
  rw [hlen] at hr ho
  obtain ⟨cur2, hg2, hnc2, hcm2, hcs2, htk2⟩ := Own.parts (Own.lift ho)
  have hM : Mdh (fun k => k = g) w w2 := Mdh.grown ((Mdh.refl _ w).drew) hgr (fun r hr => by simpa using hr.symm)
  have hcl := run_clearK (P := Try.prog) w2 159 158 0 (.agg #[.string ⟨#[]⟩, .slice none 0 0]) 2 Try.underlying159 zeroItsl rfl (by decide) g ((n - 1) * 2) 1 (cap - (n - 1)) (by omega) cur2 158 hg2 (by rw [hcs2]; omega)
  obtain ⟨cur3, hc3d⟩ : ∃ cur3, cur3 = (cur2.toList.take ((n - 1) * 2) ++ (Builtin.zeroCells (Value.agg #[.string ⟨#[]⟩, .slice none 0 0]).cells 1).toList ++ cur2.toList.drop ((n - 1) * 2 + 1 * 2)).toArray := ⟨_, rfl⟩
  rw [← hc3d] at hcl
  have hs3 : cur3.size = cap * 2 := by
    have := seg_len cur2.toList (Builtin.zeroCells (Value.agg #[.string ⟨#[]⟩, .slice none 0 0]).cells 1).toList ((n - 1) * 2) (by rw [zeroCells_len, Array.length_toList, hcs2, show (Value.agg #[.string ⟨#[]⟩, .slice none 0 0]).cells.size = 2 from rfl]; omega)
    rw [zeroCells_len, show (Value.agg #[.string ⟨#[]⟩, .slice none 0 0]).cells.size = 2 from rfl] at this
    rw [hc3d, ← hcs2]
    exact List.size_toArray.trans (this.trans Array.length_toList)
  have ht3 : cur3.toList.take ((n - 1) * 2) = xs.take (i * 2) ++ xs.drop (J * 2) := by
    rw [hc3d]
    show List.take _ (_ ++ _ ++ _) = _
    rw [List.append_assoc, List.take_append_of_le_length (by rw [List.length_take, Array.length_toList, hcs2]; omega), List.take_take, Nat.min_self, htk2]
  have HT3 := Lib.hid (And.intro hs3 ht3)
  have HR := Lib.hid hr
  have HM0 : Hid (Mdh (fun k => k = g) w.drew w2) := Lib.hid (Mdh.grown (Mdh.refl _ w.drew) hgr (fun r hr => by simpa using hr.symm))
  have HCL : Hid ((Builtin.clear_ #[159] 0 #[.slice (some ⟨g, (n - 1) * 2, none⟩) (n - (n - 1)) (cap - (n - 1))]).run Try.prog w2 = .ok (.tuple #[]) (w2.setRow g cur3)) := Lib.hid (by rw [show n - (n - 1) = 1 by omega]; exact hcl)
  have HF := Lib.hid (And.intro hg2 (And.intro hcs2 (And.intro htk2 hM)))
  rw [← hJ]
  unfold maxLen at hcm
  have hn1 : ((n - 1 : Nat) : Int) ≤ n := by omega
  have hc3 : ¬ cap = n - 1 := by omega
  have hJ' : ¬ (i : Int) = (J : Int) := by omega
  have hiJ : (i : Int) ≤ J := by omega
  have hJn' : (J : Int) ≤ n := by omega
  have hJ2 : i < J := by omega
  have HJ := Lib.hid hJ
  clear hs3 ht3 hc3d hJ hi hr hcl hg2 hnc2 hcm2 hcs2 htk2 hM ho hgr hcell hdl hx htk hcs hown hadd
  by_cases hJc : cap = J
  all_goals
    first
      | (rw [if_pos hJc] at had; subst hJc; rw [Nat.sub_self, Nat.sub_eq_zero_of_le hnc] at HR)
      | rw [if_neg hJc] at had
    subst had
    go_enter Try.func142, Try.ntmps142
    go_wp2
    refine wp_region_flo (fun k => k = g) [] [] (by kernel_rfl) (by kernel_rfl) (fun k hk => by subst hk; exact blkLt hg) ?_
    refine flo_seg 6 rfl ?_
    simp only [List.take_succ_cons, List.take_zero, List.drop_succ_cons, List.drop_zero]
    repeat (go_big_quiet_step (fail))
    refine wpQuiet_nil ?_
    refine flo_eff rfl rfl rfl rfl (fun K hK => ?_)
    refine wp_app_eq HR.out (.tmp 22) (.tmp 25) rfl rfl rfl rfl ?_; (have HM1 : Hid (Mdh (fun k => k = g) w.drew w2) := Lib.hid HM0.out); go_wp2; refine ⟨HM1.out.mono (fun q hq => by simpa using hq), ?_⟩
    refine flo_seg 1 rfl ?_
    simp only [List.take_succ_cons, List.take_zero, List.drop_succ_cons, List.drop_zero]
    repeat (go_big_quiet_step (fail))
    refine wpQuiet_nil ?_
    refine flo_nil ?_
    go_wp2_with (refine wpList_clear_eq HCL.out rfl (.tmp 31) rfl rfl rfl ?_)
    go_ret
    obtain ⟨hg2, hcs2, htk2, hM⟩ := HF.out
    exact ⟨rfl, Own.ofParts (setRow_at hg2) (by omega) (by unfold maxLen; omega) HT3.out.1 (by rw [HT3.out.2, HJ.out]), setRow_mdh hM (.inl rfl) _⟩
end Go.Proofs.Ytiidkehcfoajeaa
