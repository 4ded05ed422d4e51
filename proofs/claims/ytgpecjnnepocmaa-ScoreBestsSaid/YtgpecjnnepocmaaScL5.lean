/- ScoreBests answers true: the best side of a list is the reference's, or the error is; the list stays. -/
import Derived.Test.YtgpecjnnepocmaaScG
namespace Go.Proofs.Ytgpecjnnepocmaa
open Go.RowKit
attribute [local go_sem] Ovs cell_ov obj_ov shape_ov

theorem Try.infoRSide : (Try.prog.info? 24).map (fun i => (i.zero, i.size, i.bytes)) = some (some (.agg #[.int .i64 0, .int .i64 0, .int .i64 0]), 3, 24) := by kernel_rfl
theorem bestA_form (policy room : Int) (l : List Sd) : ∃ x is e, bestA policy room l = bestV x is e := by
  unfold bestA
  split
  · unfold bestR
    split
    · split
      · exact ⟨_, _, _, rfl⟩
      · split <;> exact ⟨_, _, _, rfl⟩
    · exact ⟨_, _, _, rfl⟩
  · exact ⟨_, _, _, rfl⟩
theorem news_at {w1 : World} {B : Nat} (x : Sd) (h0 : w1.cell? ⟨B, 0, none⟩ = some (.int .i64 x.1)) (h1 : w1.cell? ⟨B, 1, none⟩ = some (.int .i64 x.2.1)) (h2 : w1.cell? ⟨B, 2, none⟩ = some (.int .i64 x.2.2)) :
    ∀ j u, (cellsS x)[j]? = some u → w1.cell? ((⟨B, 0, none⟩ : Addr).add j) = some u := by
  intro j u hj
  rw [add_none, Nat.zero_add]
  match j with
  | 0 => simp [cellsS] at hj; subst hj; exact h0
  | 1 => simp [cellsS] at hj; subst hj; exact h1
  | 2 => simp [cellsS] at hj; subst hj; exact h2
  | j + 3 => simp [cellsS] at hj
theorem rowS_take (l : List Sd) (k : Nat) (h : k < l.length) : rowS (l.take (k + 1)) = rowS (l.take k) ++ cellsS (l[k]?.getD (0, 0, 0)) := by rw [take_snoc' l k h, rowS_snoc]

set_option maxRecDepth 40000 in
set_option maxHeartbeats 4000000 in
theorem ScoreBests_any (policy room : Int) (a : Option Addr) (len cap : Nat) (l : List Sd) (hle : len ≤ cap) (hcap : cap ≤ maxLen) (w : World) (hs : SdIn w a len cap l) :
    Calls Try.prog 7 #[.int .i64 policy, .slice a len cap, .int .i64 room] w fun e w' => e = .returned (.bool true) ∧ Gr w w' := by
  unfold maxLen at hcap
  by_cases h60 : 60 < len
  · have h60' : (60 : Int) < len := by omega
    go_enter Try.func7, Try.ntmps7
    go_wp2_with fail
    refine (works_any _).mono ?_
    rintro e w1 ⟨rfl, hg⟩
    go_wp2
    go_ret
    exact ⟨rfl, hg⟩
  · obtain ⟨i0, hi, hz0, hz1, hz2⟩ := info_parts Try.infoRSide
    have h60' : ¬ (60 : Int) < len := by omega
    obtain ⟨x, is, er, hform⟩ := bestA_form policy room l
    have HF := Lib.hid hform
    have HS := Lib.hid hs
    have hl := hs.1
    have HL := Lib.hid hl
    clear hform hs hl
    go_enter Try.func7, Try.ntmps7
    go_wp2_with fail
    refine (CloneSd a len cap l (by omega) w HS.out).mono ?_
    rintro e w1 ⟨v, rfl, hown, hfresh, hg1⟩
    obtain ⟨a1, cap1, rfl, hin1, hn1, hm1⟩ := SdIn.ofOwn hown HL.out
    have HO1 := Lib.hid hown
    have HG1 := Lib.hid hg1
    have HIN := Lib.hid hin1
    clear hown hfresh hg1 hin1
    go_wp2_with fail
    go_loopw [8, 25] (fun v i wx => ∃ k : Nat, k ≤ len ∧ i = .int .i64 k ∧ Hid (wx.ownsRow w1.heap.size 24 3 v k (rowS (l.take k)) ∧ Gr w1 wx)) (fun _ i _ => len - (intOf i).toNat)
    case atStart => exact ⟨0, by omega, rfl, Lib.hid ⟨⟨rfl, .inl ⟨rfl, rfl⟩⟩, by (repeat (first | (with_reducible exact Gr.refl _) | assumption | (with_reducible apply Gr.from_drew) | (with_reducible apply Gr.alloc) | (with_reducible apply Gr.drew) | (with_reducible refine Gr.trans ?_ (by assumption)) | (with_reducible refine Gr.setCell ?_ (by omega) _)))⟩⟩
    case round =>
      obtain ⟨k, hk, rfl, H⟩ := hrel
      by_cases hlt : k < len
      · have hlt' : (k : Int) < len := by omega
        obtain ⟨b, off, rfl, hb, x0, x1, x2⟩ := HS.out.at k hlt
        have hg2 := HG1.out.trans H.out.2
        have y0 := (hg2.cell _ _ hb).trans x0
        have y1 := (hg2.cell _ _ hb).trans x1
        have y2 := (hg2.cell _ _ hb).trans x2
        obtain ⟨s, hs⟩ : ∃ s, s = l[k]?.getD (0, 0, 0) := ⟨_, rfl⟩
        rw [← hs] at y0 y1 y2
        have HT : Hid (rowS (l.take (k + 1)) = rowS (l.take k) ++ cellsS s) := Lib.hid (by rw [rowS_take l k (by rw [HL.out]; exact hlt), ← hs])
        obtain ⟨s1, s2, s3⟩ := s
        simp only at y0 y1 y2
        clear x0 x1 x2 hs hg2 hb
        go_wp2_with (at_builtin; go_must (refine wpList_append_own _ rfl (.tmp 29) (.tmp 31) 52 rfl w1.heap.size 24 i0 _ 3 24 Try.underlying52 hi hz0 hz1 hz2 rfl (by decide) _ k (rowS (l.take k)) rfl (ownsRow_gr H.out.1 (by (repeat (first | (with_reducible exact Gr.refl _) | assumption | (with_reducible apply Gr.from_drew) | (with_reducible apply Gr.alloc) | (with_reducible apply Gr.drew) | (with_reducible refine Gr.trans ?_ (by assumption)) | (with_reducible refine Gr.setCell ?_ (by omega) _))))) ⟨wr.heap.size + 1, 0, none⟩ 1 1 (cellsS (s1, s2, s3)) rfl rfl (news_at _ (by simp [go_sem]) (by simp [go_sem]) (by simp [go_sem])) (one_cells _) (by simp only [maxLen]; omega) (by omega) (Nat.le_trans H.out.2.sz (by simp; omega)) ?_); intro v' w2 hown2 hgrow hnil; have HG2 := Lib.hid (Gr.of_append (w1 := (wr.alloc (.cells #[.int .i64 s1, .int .i64 s2, .int .i64 s3] 23)).alloc (.cells #[.int .i64 s1, .int .i64 s2, .int .i64 s3] 24)) (by (repeat (first | (with_reducible exact Gr.refl _) | assumption | (with_reducible apply Gr.from_drew) | (with_reducible apply Gr.alloc) | (with_reducible apply Gr.drew) | (with_reducible refine Gr.trans ?_ (by assumption)) | (with_reducible refine Gr.setCell ?_ (by omega) _)))) hgrow H.out.2 H.out.1 (Nat.le_refl _)); rw [← HT.out] at hown2; have HO2 := Lib.hid hown2; clear hown2 hgrow hnil)
        go_roundw
        case rel => exact ⟨k + 1, by omega, by go_num, Lib.hid ⟨HO2.out, HG2.out⟩⟩
        case measure => simp [intOf]; omega
      · have hlt' : ¬ (k : Int) < len := by omega
        obtain rfl : k = len := by omega
        have HTK : Hid (l.take k = l) := Lib.hid (List.take_of_length_le (by rw [HL.out]; exact Nat.le_refl _))
        have HO2 := Lib.hid (Own.lift H.out.1)
        rw [HTK.out] at HO2
        go_wp2_with fail
        refine (BestAny policy room _ k l HL.out (by omega) wr (HO1.out.gr H.out.2)).mono ?_
        rintro e w2 ⟨rfl, hg2⟩
        rw [HF.out]
        simp only [bestV]
        have HG2 := Lib.hid hg2
        clear hg2
        go_wp2_with fail
        refine (refBestAny policy room _ k l HL.out (by omega) _ ((HO2.out.gr HG2.out).gr (by (repeat (first | (with_reducible exact Gr.refl _) | assumption | (with_reducible apply Gr.from_drew) | (with_reducible apply Gr.alloc) | (with_reducible apply Gr.drew) | (with_reducible refine Gr.trans ?_ (by assumption)) | (with_reducible refine Gr.setCell ?_ (by omega) _)))))).mono ?_
        rintro e w3 ⟨rfl, hg3⟩
        rw [HF.out]
        simp only [bestV]
        have z0 := (hg3.cell w2.heap.size 0 (by simp)).trans (show _ = some (Value.int .i64 x.1) by simp [go_sem])
        have z1 := (hg3.cell w2.heap.size 1 (by simp)).trans (show _ = some (Value.int .i64 x.2.1) by simp [go_sem])
        have z2 := (hg3.cell w2.heap.size 2 (by simp)).trans (show _ = some (Value.int .i64 x.2.2) by simp [go_sem])
        have zlt := hg3.sz
        simp only [World.size_alloc] at zlt
        have HG3 : Hid (Gr w w3) := Lib.hid (((HG1.out.trans H.out.2).trans HG2.out).trans ((Gr.alloc (Gr.refl w2) _).trans hg3))
        have HG13 : Hid (Gr w1 w3) := Lib.hid ((H.out.2.trans HG2.out).trans ((Gr.alloc (Gr.refl w2) _).trans hg3))
        clear hg3
        generalize w2.heap.size = B at *
        have zlt' : B < w3.heap.size := by omega
        clear zlt
        go_wp2_with fail
        refine (EqualSd a1 a k cap1 cap l (by omega) _ ((HIN.out.grow HG13.out).grow (by (repeat (first | (with_reducible exact Gr.refl _) | assumption | (with_reducible apply Gr.from_drew) | (with_reducible apply Gr.alloc) | (with_reducible apply Gr.drew) | (with_reducible refine Gr.trans ?_ (by assumption)) | (with_reducible refine Gr.setCell ?_ (by omega) _))))) ((HS.out.grow HG3.out).grow (by (repeat (first | (with_reducible exact Gr.refl _) | assumption | (with_reducible apply Gr.from_drew) | (with_reducible apply Gr.alloc) | (with_reducible apply Gr.drew) | (with_reducible refine Gr.trans ?_ (by assumption)) | (with_reducible refine Gr.setCell ?_ (by omega) _)))))).mono ?_
        rintro e w4 ⟨rfl, hg4⟩
        have HG4 : Hid (Gr w w4) := Lib.hid (HG3.out.trans ((Gr.alloc (Gr.refl w3) _).trans hg4))
        clear hg4
        go_wp2_with fail
        refine (works_any _).mono ?_
        rintro e w5 ⟨rfl, hg5⟩
        go_wp2
        go_ret
        exact ⟨rfl, HG4.out.trans hg5⟩
end Go.Proofs.Ytgpecjnnepocmaa
