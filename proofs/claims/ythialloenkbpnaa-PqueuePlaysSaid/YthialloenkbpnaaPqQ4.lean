/- The reference's All. -/
import Derived.Test.YthialloenkbpnaaPqQ3
import Derived.Deep.LoopGhost
import Derived.Deep.DeepMust
set_option linter.unusedVariables false
set_option linter.unusedSimpArgs false
namespace Go.Proofs.Ythialloenkbpnaa
open Go.RowKit
attribute [local go_sem] OvM cell_ovm obj_ovm

def idL (xs : List EnL) : List Value := xs.map fun x => .int .i64 x.1
def pL (xs : List EnL) : List Value := xs.map fun x => .int .i64 x.2
theorem crow_blk {w : World} {t : TypeId} {g n : Nat} {f : Nat → Value} (r : CRow w t g n f) : ∃ cs, w.heap[g]? = some (.cells cs t) := let ⟨cs, h, _⟩ := r.blk; ⟨cs, h⟩
theorem own_crow {w : World} {e t : TypeId} {K m g n : Nat} {v : Value} {xs : List Value} {f : Nat → Value} (h : Own w e K v m xs) (r : CRow w t g n f) (hte : t ≠ e) : v.ownBlock ≠ some g := let ⟨_, hb⟩ := crow_blk r; own_ne h hb hte
/-- What holds at the head of a round. -/
structure AS (w wx : World) (bc n gi ci gp cp : Nat) (M : Nat → Option Int) (pre : List EnL) (v4 v5 : Value) (k : Nat) : Prop where
  q : ∃ P, RQ wx bc n gi ci gp cp (aftL M pre) P
  pops : PopsL n M pre
  len : pre.length + k = cnt M n
  cn : cnt (aftL M pre) n = k
  o4 : Nw w wx 3 1 v4 pre.length (idL pre)
  o5 : Nw w wx 2 1 v5 pre.length (pL pre)
  ap : v5.ownBlock ≠ some gp
  nw : w.heap.size ≤ bc ∧ w.heap.size ≤ gi ∧ w.heap.size ≤ gp
  g : Gr w wx
def AllPost (n : Nat) (M : Nat → Option Int) (w : World) (e : Ending) (w' : World) : Prop := ∃ xs v1 v2, e = .returned (.tuple #[v1, v2]) ∧ PopsL n M xs ∧ xs.length = cnt M n ∧ Own w' 3 1 v1 xs.length (idL xs) ∧ Own w' 2 1 v2 xs.length (pL xs) ∧ Gr w w'

set_option maxRecDepth 40000 in
set_option maxHeartbeats 4000000 in
theorem AllR (b n gi ci gp cp : Nat) (M : Nat → Option Int) (P : Nat → Int) (w : World) (q : RQ w b n gi ci gp cp M P) : Calls Try.prog 43 #[.pointer (some ⟨b, 0, none⟩)] w (AllPost n M w) := by
  obtain ⟨j0, hj, hy0, hy1, hy2⟩ := info_parts Try.infoI64Q
  obtain ⟨k0, hk0, hx0, hx1, hx2⟩ := info_parts Try.infoIntQ
  have HQ := Lib.hid q
  have hn := q.n1
  have hcn := cnt_le M n
  clear q
  go_enter Try.func43, Try.ntmps43
  go_wp2_with fail
  refine (CopyR b n gi ci gp cp M P w HQ.out).mono ?_
  rintro e w1 ⟨bc, gi', ci', gp', cp', rfl, hq, hb, hgi, hgp, hg⟩
  have H0 : Hid (AS w w1 bc n gi' ci' gp' cp' M [] (.slice none 0 0) (.slice none 0 0) (cnt M n)) := Lib.hid ⟨⟨P, hq⟩, PopsL.nil n M, by simp, rfl, ⟨⟨rfl, .inl ⟨rfl, rfl⟩⟩, fun q hq => (by cases hq)⟩, ⟨⟨rfl, .inl ⟨rfl, rfl⟩⟩, fun q hq => (by cases hq)⟩, (fun h => by cases h), ⟨hb, hgi, hgp⟩, hg⟩
  obtain ⟨c, hc⟩ : ∃ c, c = cnt M n := ⟨_, rfl⟩
  rw [← hc] at H0 hcn
  have HC := Lib.hid hc
  clear hq hb hgi hgp hg HQ hc
  go_wp2_with fail
  go_loopg [4, 5] c (fun k t4 t5 wx => ∃ pre v4 v5, t4 = v4 ∧ t5 = v5 ∧ Hid (AS w wx bc n gi' ci' gp' cp' M pre v4 v5 k))
  case atStart => exact ⟨[], _, _, rfl, rfl, H0⟩
  case round =>
    obtain ⟨pre, v4, v5, rfl, rfl, H⟩ := hrel
    clear H0
    have hgk : pre.length + gk ≤ n := by have := H.out.len; have := HC.out; omega
    by_cases hpos : 0 < gk
    · have hposI : (0 : Int) < gk := by omega
      obtain ⟨P1, hq1⟩ := H.out.q
      have HQ1 := Lib.hid hq1
      clear hq1
      go_wp2_with fail
      refine (LenR bc n gi' ci' gp' cp' _ P1 _ HQ1.out).mono ?_
      rintro e w2 ⟨rfl, rfl⟩
      rw [H.out.cn]
      go_wp2_with fail
      refine (PopR bc n gi' ci' gp' cp' _ P1 _ HQ1.out).mono ?_
      rintro e w3 (⟨rfl, hno, _⟩ | ⟨i, p, rfl, hin, hmin, ⟨⟨P3, hq3⟩, hm3⟩⟩)
      · exfalso
        have := H.out.cn
        rw [cnt_none (fun m _ => hno m)] at this
        omega
      · -- the rows behind Pop
        have o4 := H.out.o4.mdh hm3 (fun k hk hF => hF.elim (fun e => own_crow H.out.o4.own HQ1.out.ri (by decide) (e ▸ hk)) (fun e => own_crow H.out.o4.own HQ1.out.rp (by decide) (e ▸ hk)))
        have o5 := H.out.o5.mdh hm3 (fun k hk hF => hF.elim (fun e => own_crow H.out.o5.own HQ1.out.ri (by decide) (e ▸ hk)) (fun e => H.out.ap (e ▸ hk)))
        have g3 : Gr w w3 := H.out.g.md hm3 (fun k hk => hk.elim (fun e => e ▸ H.out.nw.2.1) (fun e => e ▸ H.out.nw.2.2))
        have HO4 := Lib.hid o4
        have HO5 := Lib.hid o5
        have HG3 := Lib.hid g3
        have HQ3 := Lib.hid hq3
        have HPO : Hid (PopsL n M (pre ++ [(i, p)])) := Lib.hid (H.out.pops.snoc hin hmin)
        have HCN : Hid (cnt (aftL M (pre ++ [(i, p)])) n = gk - 1) := Lib.hid (by
          rw [aft_snocL]
          have := cnt_out (n := n) hin hmin.1
          have := H.out.cn
          simp only
          omega)
        clear o4 o5 g3 hq3 hmin hm3 HQ1
        go_wp2_with (first
          | (at_builtin; refine wpList_appv _ rfl (.tmp 21) (.tmp 23) 25 rfl 3 k0 _ 1 8 Try.underlying25 hk0 hx0 hx1 hx2 rfl (by decide) u4 pre.length (idL pre) rfl (HO4.out.own.gr ((Gr.refl _).alloc _)) (some ⟨w3.heap.size, 0, none⟩) 1 1 [.int .i64 i] rfl (src_new _ _ _ rfl) (by simp only [maxLen]; omega) (by omega) ?_; intro k4 x4 hk4; have HK4 := Lib.hid hk4; have HN4 := Lib.hid (hk4.nw (HO4.out.gr ((Gr.refl _).alloc _)) (by have := HG3.out.sz; simp; omega)); have HG4 := Lib.hid (hk4.gw (HO4.out.gr ((Gr.refl _).alloc _)) (HG3.out.alloc _)); have HO5' := Lib.hid ((HO5.out.gr ((Gr.refl _).alloc _)).mdh (hk4.mdh (fun g h => h)) (fun k hk h => own_ne2 HO5.out.own HO4.out.own (by decide) k hk h)); have HQ4 : Hid (RQ x4 bc n gi' ci' gp' cp' (upd (aftL M pre) i none) P3) := Lib.hid ((HQ3.out.gr ((Gr.refl _).alloc _)).mdh (hk4.mdh (fun g h => h)) (fun k hk h => by rcases hk with rfl | rfl | rfl; exact own_ne HO4.out.own HQ3.out.blk (by decide) h; exact own_crow HO4.out.own HQ3.out.ri (by decide) h; exact own_crow HO4.out.own HQ3.out.rp (by decide) h)); clear hk4)
          | (at_builtin; refine wpList_appv _ rfl (.tmp 25) (.tmp 27) 75 rfl 2 j0 _ 1 8 Try.underlying75 hj hy0 hy1 hy2 rfl (by decide) u5 pre.length (pL pre) rfl (HO5'.out.own.gr ((Gr.refl _).alloc _)) (some ⟨x4.heap.size, 0, none⟩) 1 1 [.int .i64 p] rfl (src_new _ _ _ rfl) (by simp only [maxLen]; omega) (by omega) ?_; intro k5 x5 hk5; have HN5 := Lib.hid (hk5.nw (HO5'.out.gr ((Gr.refl _).alloc _)) (by have := HG4.out.sz; simp; omega)); have HG5 := Lib.hid (hk5.gw (HO5'.out.gr ((Gr.refl _).alloc _)) (HG4.out.alloc _)); have HN4' := Lib.hid ((HN4.out.gr ((Gr.refl _).alloc _)).mdh (hk5.mdh (fun g h => h)) (fun k hk h => own_ne2 HN4.out.own HO5'.out.own (by decide) k hk h)); have HQ5 : Hid (RQ x5 bc n gi' ci' gp' cp' (upd (aftL M pre) i none) P3) := Lib.hid ((HQ4.out.gr ((Gr.refl _).alloc _)).mdh (hk5.mdh (fun g h => h)) (fun k hk h => by rcases hk with rfl | rfl | rfl; exact own_ne HO5'.out.own HQ4.out.blk (by decide) h; exact own_crow HO5'.out.own HQ4.out.ri (by decide) h; exact H.out.ap h)); have HAP : Hid (k5.ownBlock ≠ some gp') := Lib.hid (fun h => (hk5.2.1 gp' h).elim (fun h => H.out.ap h) (fun h => by have := HQ4.out.rp.lt; simp at h; omega)); clear hk5)
          | fail)
        go_roundg (gk - 1)
        case rel => exact ⟨pre ++ [(i, p)], _, _, rfl, rfl, Lib.hid ⟨⟨P3, by rw [aft_snocL]; exact HQ5.out⟩, HPO.out, by have := H.out.len; simp; omega, HCN.out, by rw [List.length_append, idL, List.map_append]; exact HN4'.out, by rw [List.length_append, pL, List.map_append]; exact HN5.out, HAP.out, H.out.nw, HG5.out⟩⟩
        case measure => omega
    · obtain rfl : gk = 0 := by omega
      obtain ⟨P1, hq1⟩ := H.out.q
      have HQ1 := Lib.hid hq1
      clear hq1
      go_wp2_with fail
      refine (LenR bc n gi' ci' gp' cp' _ P1 _ HQ1.out).mono ?_
      rintro e w2 ⟨rfl, rfl⟩
      rw [H.out.cn]
      go_wp2
      go_ret2
      exact ⟨pre, u4, u5, rfl, H.out.pops, by have := H.out.len; omega, H.out.o4.own, H.out.o5.own, H.out.g⟩
theorem AllB (w0 w : World) (pq pr : Option Addr) (z : Bool) (n : Nat) (M N : Nat → Option Int) (W : Nat → Prop) (h : BX w0 w pq pr z n M N W) : Calls Try.prog 43 #[.pointer pr] w (AllPost n N w) := by
  rcases h with ⟨rfl, b, S, b', gi, ci, gp, cp, P, rfl, rfl, hq, hr, h1, h2, h3⟩ | ⟨rfl, rfl, rfl, rfl, rfl, _⟩
  · exact AllR b' n gi ci gp cp N P w hr
  · refine (AllN w).mono ?_
    rintro e w' ⟨rfl, rfl⟩
    exact ⟨[], _, _, rfl, PopsL.nil n _, by rw [cnt_none (fun _ _ => rfl)]; rfl, ⟨rfl, .inl ⟨rfl, rfl⟩⟩, ⟨rfl, .inl ⟨rfl, rfl⟩⟩, Gr.refl _⟩
end Go.Proofs.Ythialloenkbpnaa
