/- KeydirShadows in plain Lean. No walk. -/
import Derived.Test.YthefpmmeoajaiaaBd15
import Derived.Test.YthefpmmeoajaiaaBd12
import Derived.Test.YthefpmmeoajaiaaBd16
import Derived.Test.YthefpmmeoajaiaaBd13
import Derived.Test.YthefpmmeoajaiaaBd17
set_option linter.unusedVariables false
set_option linter.unusedSimpArgs false
namespace Go.Proofs.Ythefpmmeoajaiaa

/-- The greatest number and the least slot of the entries of the key of e. -/
def glS (e : En) (a : Int × Int) (o : En) : Int × Int := if o.key = e.key then (max a.1 o.seq, if o.seq = e.seq then min a.2 o.slot else a.2) else a
def GL (l : List En) (e : En) : Int × Int := l.foldl (glS e) (e.seq, e.slot)
theorem GL_snoc {l : List En} {k : Nat} {o : En} (h : l[k]? = some o) (e : En) : GL (l.take (k + 1)) e = glS e (GL (l.take k) e) o := by
  unfold GL
  rw [List.take_add_one, h, List.foldl_append]
  rfl
theorem gl_spec (e : En) : ∀ (l : List En) (a : Int × Int), a.1 ≤ (l.foldl (glS e) a).1 ∧ (l.foldl (glS e) a).2 ≤ a.2 ∧ (∀ o ∈ l, o.key = e.key → o.seq ≤ (l.foldl (glS e) a).1 ∧ (o.seq = e.seq → (l.foldl (glS e) a).2 ≤ o.slot)) ∧
    ((l.foldl (glS e) a).1 = a.1 ∨ ∃ o ∈ l, o.key = e.key ∧ (l.foldl (glS e) a).1 = o.seq) ∧ ((l.foldl (glS e) a).2 = a.2 ∨ ∃ o ∈ l, o.key = e.key ∧ o.seq = e.seq ∧ (l.foldl (glS e) a).2 = o.slot)
  | [], a => ⟨Int.le_refl _, Int.le_refl _, (fun _ h => by cases h), .inl rfl, .inl rfl⟩
  | x :: l, a => by
    obtain ⟨h1, h2, h3, h4, h5⟩ := gl_spec e l (glS e a x)
    rw [List.foldl_cons]
    generalize l.foldl (glS e) (glS e a x) = r at *
    unfold glS at h1 h2 h4 h5
    have H4 := Lib.hid h4
    have H5 := Lib.hid h5
    have H3 := Lib.hid h3
    clear h3 h4 h5
    by_cases hk : x.key = e.key
    · rw [if_pos hk] at h1 h2 H4 H5
      simp only at h1 h2 H4 H5
      by_cases hq : x.seq = e.seq
      · rw [if_pos hq] at h2 H5
        refine ⟨by omega, by omega, fun o ho hok => ?_, ?_, ?_⟩
        · rcases List.mem_cons.1 ho with rfl | ho
          · exact ⟨by omega, fun _ => by omega⟩
          · exact H3.out o ho hok
        · rcases H4.out with h4 | ⟨o, ho, h6, h7⟩
          · by_cases hm : a.1 ≤ x.seq
            · exact .inr ⟨x, List.mem_cons_self .., hk, by omega⟩
            · exact .inl (by omega)
          · exact .inr ⟨o, List.mem_cons_of_mem _ ho, h6, h7⟩
        · rcases H5.out with h5 | ⟨o, ho, h6, h7⟩
          · by_cases hm : x.slot ≤ a.2
            · exact .inr ⟨x, List.mem_cons_self .., hk, hq, by omega⟩
            · exact .inl (by omega)
          · exact .inr ⟨o, List.mem_cons_of_mem _ ho, h6, h7⟩
      · rw [if_neg hq] at h2 H5
        refine ⟨by omega, by omega, fun o ho hok => ?_, ?_, ?_⟩
        · rcases List.mem_cons.1 ho with rfl | ho
          · exact ⟨by omega, fun h => absurd h hq⟩
          · exact H3.out o ho hok
        · rcases H4.out with h4 | ⟨o, ho, h6, h7⟩
          · by_cases hm : a.1 ≤ x.seq
            · exact .inr ⟨x, List.mem_cons_self .., hk, by omega⟩
            · exact .inl (by omega)
          · exact .inr ⟨o, List.mem_cons_of_mem _ ho, h6, h7⟩
        · rcases H5.out with h5 | ⟨o, ho, h6, h7⟩
          · exact .inl h5
          · exact .inr ⟨o, List.mem_cons_of_mem _ ho, h6, h7⟩
    · rw [if_neg hk] at h1 h2 H4 H5
      refine ⟨h1, h2, fun o ho hok => ?_, ?_, ?_⟩
      · rcases List.mem_cons.1 ho with rfl | ho
        · exact absurd hok hk
        · exact H3.out o ho hok
      · exact H4.out.imp id (fun ⟨o, ho, h6⟩ => ⟨o, List.mem_cons_of_mem _ ho, h6⟩)
      · exact H5.out.imp id (fun ⟨o, ho, h6⟩ => ⟨o, List.mem_cons_of_mem _ ho, h6⟩)
structure Shd (X : IX) (e : En) (g l : Int) : Prop where
  sh : shadV X e = .tuple #[.bool (decide (e.seq < g)), .int .i64 0]
  co : codeX X = 0
  so : e.seq = g → (findE X e.key).isSome = !e.del
  eq : e.seq = g → ∀ c, findE X e.key = some c → decide (c = e) = decide (e.slot = l)
theorem shd {X : IX} {all : List En} {en : Int → Int} {n : Int} (h : FG X all en n) {e : En} (he : e ∈ all) : Shd X e (GL all e).1 (GL all e).2 := by
  obtain ⟨g1, g2, g3, g4, g5⟩ := gl_spec e all (e.seq, e.slot)
  unfold GL
  generalize all.foldl (glS e) (e.seq, e.slot) = r at *
  simp only at g1 g2 g4 g5
  have hm := (h.of e.key e).2 ⟨he, rfl⟩
  have hp := h.wf.ofPair e.key
  have hall : ∀ o, o ∈ X.of e.key ↔ o ∈ all ∧ o.key = e.key := h.of e.key
  have hcp := h.cp
  have hsl : ∀ o ∈ X.of e.key, ∀ o' ∈ X.of e.key, o.seq = o'.seq → o.slot = o'.slot → o = o' := by
    intro o ho o' ho' h1 h2
    obtain ⟨i, hi, e1⟩ := List.mem_iff_getElem.1 ho
    obtain ⟨j, hj, e2⟩ := List.mem_iff_getElem.1 ho'
    rcases Nat.lt_trichotomy i j with h3 | h3 | h3
    · have := List.pairwise_iff_getElem.1 hp i j hi hj h3
      rw [e1, e2] at this
      unfold ltE at this
      have := of_decide_eq_true this
      omega
    · subst h3; rw [← e1, ← e2]
    · have := List.pairwise_iff_getElem.1 hp j i hj hi h3
      rw [e1, e2] at this
      unfold ltE at this
      have := of_decide_eq_true this
      omega
  have hsh : shadV X e = .tuple #[.bool (decide (e.seq < ((X.of e.key).headD zE).seq)), .int .i64 0] := by
    unfold shadV
    rw [if_neg h.ne, if_pos (List.any_eq_true.2 ⟨e, hm, decide_eq_true rfl⟩)]
  have hfd : findE X e.key = match X.of e.key with | [] => none | e :: _ => if e.del = true then none else some e := rfl
  cases hl : X.of e.key with
  | nil => rw [hl] at hm; cases hm
  | cons y t =>
    rw [hl] at hsh hfd hm hp hall hsl
    simp only [List.headD_cons] at hsh
    simp only at hfd
    have hy := (hall y).1 (List.mem_cons_self ..)
    have hmax : ∀ o, o ∈ all → o.key = e.key → o = y ∨ ltE y o = true := fun o ho hk => by
      rcases List.mem_cons.1 ((hall o).2 ⟨ho, hk⟩) with h1 | h1
      · exact .inl h1
      · exact .inr ((List.pairwise_cons.1 hp).1 o h1)
    have hgy : r.1 = y.seq := by
      have h1 := (g3 y hy.1 hy.2).1
      rcases g4 with h2 | ⟨o, ho, h3, h4⟩
      · rcases hmax e he rfl with h5 | h5
        · rw [h5] at h2; exact h2
        · unfold ltE at h5; have := of_decide_eq_true h5; omega
      · rcases hmax o ho h3 with h5 | h5
        · rw [h5] at h4; exact h4
        · unfold ltE at h5; have := of_decide_eq_true h5; omega
    refine ⟨by rw [hgy]; exact hsh, if_neg h.ne, fun hq => ?_, fun hq c hc => ?_⟩
    · rw [hgy] at hq
      have := (hcp e he y hy.1 hq).2.1
      rw [hfd, ← this]
      cases e.del <;> simp
    · rw [hgy] at hq
      rw [hfd] at hc
      have hcy : y = c := by
        split at hc
        · cases hc
        · exact Option.some.inj hc
      subst hcy
      have h2 : r.2 ≤ y.slot := (g3 y hy.1 hy.2).2 hq.symm
      have h1 : y.slot ≤ r.2 := by
        rcases g5 with h3 | ⟨o, ho, h4, h5, h6⟩
        · rw [h3]
          rcases hmax e he rfl with h5 | h5
          · rw [← h5]; exact Int.le_refl _
          · unfold ltE at h5; have := of_decide_eq_true h5; omega
        · rw [h6]
          rcases hmax o ho h4 with h7 | h7
          · rw [← h7]; exact Int.le_refl _
          · unfold ltE at h7; have := of_decide_eq_true h7; omega
      by_cases hye : y = e
      · rw [decide_eq_true hye, decide_eq_true (by rw [← hye]; omega)]
      · rw [decide_eq_false hye, decide_eq_false (fun h3 => hye (hsl y (List.mem_cons_self ..) e hm hq.symm (by omega)))]
end Go.Proofs.Ythefpmmeoajaiaa

/- KeydirShadows: the walk. -/
set_option linter.unusedVariables false
set_option linter.unusedSimpArgs false
namespace Go.Proofs.Ythefpmmeoajaiaa
open Go.RowKit Go.Shelf
attribute [local go_sem] OvM cell_ovm obj_ovm
attribute [local go_sem] Oper.semAt_some

set_option maxRecDepth 40000 in
set_option maxHeartbeats 16000000 in
theorem KeydirShadows_any (u : Int) (a : Option Addr) (len cap : Nat) (L : List Tn) (w : World) (hu0 : 0 ≤ u) (hu1 : u ≤ 255) (hl : L.length = len) (hle : len ≤ cap) (hcap : cap ≤ maxLen) (hs : TurnAt w a L) :
    Calls Try.prog 5 #[.int .u8 u, .slice a len cap] w fun e w' => e = .returned (.bool true) ∧ Gr w w' := by
  by_cases h80 : 80 < len
  · have h80' : (80 : Int) < len := by omega
    clear hs hl
    go_enter Try.func5, Try.ntmps5
    go_wp2_with (go_at_call 22; refine (kd_works _).mono ?_; rintro e w1 ⟨rfl, hg⟩; have HG := Lib.hid hg; clear hg)
    go_ret
    exact ⟨rfl, HG.out⟩
  have h80' : ¬ (80 : Int) < len := by omega
  obtain ⟨n, hn⟩ : ∃ n : Nat, 1 + u % 8 = (n : Int) := ⟨(1 + u % 8).toNat, by omega⟩
  have hn1 : 1 ≤ n := by omega
  have hn2 : n ≤ 32 := by omega
  have HST := Lib.hid (foldM_ok n hn1 hn2 len L hl (by omega) (turnOk hs))
  have HS := Lib.hid hs
  have HL := Lib.hid hl
  clear hs hl
  go_enter Try.func5, Try.ntmps5
  go_wp2_with fail
  (try rw [hn])
  refine (Begin_any (SW.start w) n hn1 hn2).mono ?_
  rintro e w1 ⟨b, rb, mb, v1, v2, S, rfl, hs⟩
  have H1 := Lib.hid hs
  clear hs
  go_wp2_with fail
  refine (Play_any H1.out hn1 hn2 HL.out (by omega) hle hcap HS.out).mono ?_
  rintro e w2 ⟨rfl, v1', v2', S', hs⟩
  have H2 := Lib.hid hs
  clear hs H1 HS HL
  generalize foldM n L = st at *
  obtain ⟨X, all, nx⟩ := st
  have HFG := Lib.hid HST.out.g
  have hal : all.length ≤ 100 := by have := HST.out.n; simp only at this; omega
  simp only at HFG
  clear HST hn
  obtain ⟨av, cv, rfl, hcv, hmv, _⟩ := ownE_at (show Own w2 43 6 v2' all.length (rowE all) from H2.out.get (i := 4) rfl)
  unfold maxLen at hmv
  go_wp2_with fail
  go_loopw [7] (fun t7 wx => ∃ i : Nat, i ≤ all.length ∧ t7 = .int .i64 i ∧ Hid (SW w (mL b rb mb n v1' (.slice av all.length cv) S' ⟨X, all, nx⟩ []) wx)) (fun t7 _ => all.length - (intOf t7).toNat)
  case atStart => exact ⟨0, by omega, rfl, H2⟩
  case round =>
    obtain ⟨i, hil, rfl, HI⟩ := hrel
    clear H2
    have dm2 := ((cellsOf (show wr.heap[mb]? = _ from HI.out.get (i := 3) rfl)).1 2).trans (show _ = some (Value.slice av all.length cv) from rfl)
    by_cases hli : i < all.length
    · have hli' : (i : Int) < all.length := by omega
      obtain ⟨x, hx⟩ : ∃ x, all[i]? = some x := ⟨_, List.getElem?_eq_getElem hli⟩
      obtain ⟨g0, rfl, hg0, y0, y1, y2, y3, y4, y5⟩ := ent6 (show Own wr 43 6 (.slice av all.length cv) all.length (rowE all) from HI.out.get (i := 4) rfl) hx
      have HSH := Lib.hid (shd HFG.out (List.mem_of_getElem? hx))
      have HGS := Lib.hid (fun (k : Nat) (o : En) (h : all[k]? = some o) => GL_snoc h x)
      have HG0 : Hid (GL (all.take 0) x = (x.seq, x.slot)) := Lib.hid rfl
      have HGE : Hid (∀ (a : Int × Int) (o : En), glS x a o = if o.key = x.key then (max a.1 o.seq, if o.seq = x.seq then min a.2 o.slot else a.2) else a) := Lib.hid (fun a o => rfl)
      have HEQ := Lib.hid (fun (c : En) (w : World) => eqlE_run c x w)
      clear hx
      obtain ⟨gl, hgl⟩ : ∃ f : List En → Int × Int, f = fun l => GL l x := ⟨_, rfl⟩
      replace HSH : Hid (Shd X x (gl all).1 (gl all).2) := Lib.hid (by rw [hgl]; exact HSH.out)
      replace HGS : Hid (∀ (k : Nat) (o : En), all[k]? = some o → gl (all.take (k + 1)) = glS x (gl (all.take k)) o) := Lib.hid (by rw [hgl]; exact HGS.out)
      replace HG0 : Hid (gl (all.take 0) = (x.seq, x.slot)) := Lib.hid (by rw [hgl]; exact HG0.out)
      clear hgl
      obtain ⟨x0, x1, x2, x3, x4, x5⟩ := x
      simp only at y0 y1 y2 y3 y4 y5
      go_upto_region 10 with fail
      obtain ⟨b8, hb8⟩ : ∃ q, q = wr.heap.size := ⟨_, rfl⟩
      obtain ⟨w9, hw9⟩ : ∃ y, y = wr.alloc (boxF ⟨x0, x1, x2, x3, x4, x5⟩) := ⟨_, rfl⟩
      have H9 : Hid (SW w (blkA b8 (boxF ⟨x0, x1, x2, x3, x4, x5⟩) :: mL b rb mb n v1' (.slice (some ⟨g0, 0, none⟩) all.length cv) S' ⟨X, all, nx⟩ []) w9) := Lib.hid (by rw [hw9, hb8]; exact HI.out.alloc _)
      simp only [boxF] at hw9
      rw [← hb8, ← hw9]
      clear hw9 hb8 HI y0 y1 y2 y3 y4 y5 hg0 dm2
      have d8 := (cellsOf (show w9.heap[b8]? = _ from H9.out.get (i := 0) rfl)).1
      (try simp only [boxF] at d8)
      refine wp_region_flo (fun _ => False) [] [] (by kernel_rfl) (by kernel_rfl) (fun _ h => h.elim) ?_
      refine flo_seg 6 rfl ?_
      simp only [List.take_succ_cons, List.take_zero, List.drop_succ_cons, List.drop_zero]
      repeat (go_big_quiet_step (fail))
      refine wpQuiet_nil ?_
      refine flo_nil ?_
      have H10 := Lib.hid (H9.out.gr (Gr.refl w9).drew)
      clear H9 d8
      go_wp2_with fail
      go_loopw [9, 10, 11] (fun t9 t10 t11 wx => ∃ k : Nat, k ≤ all.length ∧ t9 = .int .i64 (gl (all.take k)).1 ∧ t10 = .int .i64 (gl (all.take k)).2 ∧ t11 = .int .i64 k ∧ Hid (SW w (blkA b8 (boxF ⟨x0, x1, x2, x3, x4, x5⟩) :: mL b rb mb n v1' (.slice (some ⟨g0, 0, none⟩) all.length cv) S' ⟨X, all, nx⟩ []) wx)) (fun _ _ t11 _ => all.length - (intOf t11).toNat)
      case atStart => exact ⟨0, by omega, by rw [HG0.out], by rw [HG0.out], rfl, H10⟩
      case round =>
        obtain ⟨k, hkl, rfl, rfl, rfl, HJ⟩ := hrel
        clear H10
        have dm2 := ((cellsOf (show wr.heap[mb]? = _ from HJ.out.get (i := 4) rfl)).1 2).trans (show _ = some (Value.slice (some ⟨g0, 0, none⟩) all.length cv) from rfl)
        have d8 := (cellsOf (show wr.heap[b8]? = _ from HJ.out.get (i := 0) rfl)).1
        (try simp only [boxF] at d8)
        by_cases hlk : k < all.length
        · have hlk' : (k : Int) < all.length := by omega
          obtain ⟨y, hy⟩ : ∃ y, all[k]? = some y := ⟨_, List.getElem?_eq_getElem hlk⟩
          obtain ⟨hg0, z0, z1, z2, z3, z4, z5⟩ := ent6g (show Own wr 43 6 (.slice (some ⟨g0, 0, none⟩) all.length cv) all.length (rowE all) from HJ.out.get (i := 5) rfl) hy
          have HGK := Lib.hid (HGS.out k y hy)
          rw [HGE.out] at HGK
          clear hy
          obtain ⟨q0, q1, q2, q3, q4, q5⟩ := y
          simp only at z0 z1 z2 z3 z4 z5 HGK
          obtain ⟨mm, hmm⟩ : ∃ mm, mm = gl (all.take k) := ⟨_, rfl⟩
          rw [← hmm] at HGK ⊢
          clear hmm
          obtain ⟨m1, m2⟩ := mm
          (try simp only at HGK)
          by_cases hk : q1 = x1
          · rw [if_pos hk] at HGK
            have hkb : (q1.toList == x1.toList) = true := (str_beq q1 x1).trans (decide_eq_true hk)
            clear hk
            go_wp2_with fail
            refine wp_region_flo (fun _ => False) [] [] (by kernel_rfl) (by kernel_rfl) (fun _ h => h.elim) ?_
            refine flo_seg 11 rfl ?_
            simp only [List.take_succ_cons, List.take_zero, List.drop_succ_cons, List.drop_zero]
            repeat (go_big_quiet_step (fail))
            refine wpQuiet_nil ?_
            refine flo_nil ?_
            go_wp2_with fail
            all_goals
              by_cases hq : q0 = x0
              · rw [if_pos hq] at HGK
                have hqb : (q0 == x0) = true := beq_iff_eq.2 hq
                clear hq
                refine wp_region_flo (fun _ => False) [] [] (by kernel_rfl) (by kernel_rfl) (fun _ h => h.elim) ?_
                refine flo_seg 11 rfl ?_
                simp only [List.take_succ_cons, List.take_zero, List.drop_succ_cons, List.drop_zero]
                repeat (go_big_quiet_step (fail))
                refine wpQuiet_nil ?_
                refine flo_nil ?_
                go_wp2_with fail
                all_goals
                  exact ⟨⟨k + 1, by omega, by simp only [HGK.out]; congr 1; omega, by simp only [HGK.out]; congr 1; omega, by simp, Lib.hid (HJ.out.gr (Gr.refl wr).drew.drew)⟩, by simp [intOf]; omega⟩
              · rw [if_neg hq] at HGK
                have hqb : (q0 == x0) = false := beq_false_of_ne hq
                clear hq
                refine wp_region_flo (fun _ => False) [] [] (by kernel_rfl) (by kernel_rfl) (fun _ h => h.elim) ?_
                refine flo_seg 11 rfl ?_
                simp only [List.take_succ_cons, List.take_zero, List.drop_succ_cons, List.drop_zero]
                repeat (go_big_quiet_step (fail))
                refine wpQuiet_nil ?_
                refine flo_nil ?_
                go_wp2_with fail
                all_goals
                  exact ⟨⟨k + 1, by omega, by simp only [HGK.out]; congr 1; omega, by simp only [HGK.out], by simp, Lib.hid (HJ.out.gr (Gr.refl wr).drew.drew)⟩, by simp [intOf]; omega⟩
          · rw [if_neg hk] at HGK
            have hkb : (q1.toList == x1.toList) = false := (str_beq q1 x1).trans (decide_eq_false hk)
            clear hk
            go_wp2_with fail
            refine wp_region_flo (fun _ => False) [] [] (by kernel_rfl) (by kernel_rfl) (fun _ h => h.elim) ?_
            refine flo_seg 11 rfl ?_
            simp only [List.take_succ_cons, List.take_zero, List.drop_succ_cons, List.drop_zero]
            repeat (go_big_quiet_step (fail))
            refine wpQuiet_nil ?_
            refine flo_nil ?_
            go_wp2_with fail
            refine ⟨⟨k + 1, by omega, by rw [HGK.out], by rw [HGK.out], by simp, Lib.hid (HJ.out.gr (Gr.refl wr).drew)⟩, by simp [intOf]; omega⟩
        · have hlk' : ¬ (k : Int) < all.length := by omega
          obtain rfl : k = all.length := by omega
          rw [List.take_length]
          obtain ⟨p, hp⟩ : ∃ p, p = gl all := ⟨_, rfl⟩
          rw [← hp] at HSH ⊢
          clear hp HGS HGE HG0
          obtain ⟨g, l⟩ := p
          have HFV : Hid (∃ (c : En) (cnt : Bool), findV X x1 = .tuple #[enV c, .bool cnt, .int .i64 0] ∧ (x0 = g → cnt = !x2) ∧ (x0 = g → cnt = true → decide (c = ⟨x0, x1, x2, x3, x4, x5⟩) = decide (x3 = l))) := Lib.hid (by
            refine ⟨(findE X x1).getD zE, (findE X x1).isSome, ?_, fun h => HSH.out.so h, fun h hc => ?_⟩
            · show findV X x1 = _
              unfold findV
              rw [HSH.out.co]
            · cases hf : findE X x1 with
              | none => rw [hf] at hc; cases hc
              | some c => exact HSH.out.eq h c hf)
          have dm0 := ((cellsOf (show wr.heap[mb]? = _ from HJ.out.get (i := 4) rfl)).1 0).trans (show _ = some (Value.pointer (some ⟨b, 0, none⟩)) from rfl)
          go_wp2_with fail
          refine wp_region_flo (fun _ => False) [] [] (by kernel_rfl) (by kernel_rfl) (fun _ h => h.elim) ?_
          refine flo_seg 5 rfl ?_
          simp only [List.take_succ_cons, List.take_zero, List.drop_succ_cons, List.drop_zero]
          repeat (go_big_quiet_step (fail))
          refine wpQuiet_nil ?_
          refine flo_eff rfl rfl rfl rfl (fun K hK => ?_)
          go_wp2_with ((go_at_call 31; refine (Shadowed_any (.inl ⟨b, rfl, (HJ.out.gr (Gr.refl wr).drew).get (i := 1) rfl⟩) ⟨x0, x1, x2, x3, x4, x5⟩).mono ?_; rintro e' w4 ⟨rfl, hg⟩; rw [HSH.out.sh]; have H18 := Lib.hid ((HJ.out.gr (Gr.refl wr).drew).gr hg); have HGM := Lib.hid hg; clear hg))
          refine ⟨by exact HGM.out.mdh _, ?_⟩
          refine flo_seg 5 rfl ?_
          simp only [List.take_succ_cons, List.take_zero, List.drop_succ_cons, List.drop_zero]
          repeat (go_big_quiet_step (fail))
          refine wpQuiet_nil ?_
          refine flo_nil ?_
          clear d8 dm0 dm2 HJ HSH
          obtain ⟨c, cnt, hfv, hso, heq⟩ := HFV.out
          have HFW := Lib.hid hfv
          have HSO := Lib.hid hso
          have HEC := Lib.hid heq
          clear hfv hso heq HFV
          have dm0 := ((cellsOf (show w4.heap[mb]? = _ from H18.out.get (i := 4) rfl)).1 0).trans (show _ = some (Value.pointer (some ⟨b, 0, none⟩)) from rfl)
          have d8 := (cellsOf (show w4.heap[b8]? = _ from H18.out.get (i := 0) rfl)).1
          (try simp only [boxF] at d8)
          have HQ := Lib.hid (HEQ.out c)
          obtain ⟨c0, c1, c2, c3, c4, c5⟩ := c
          go_wp2_with fail
          have HG := Gr.refl w4.drew
          refine wp_region_flo (fun _ => False) [14] [] (by kernel_rfl) (by kernel_rfl) (fun _ h => h.elim) ?_
          refine flo_seg 6 rfl ?_
          simp only [List.take_succ_cons, List.take_zero, List.drop_succ_cons, List.drop_zero]
          repeat (go_big_quiet_step (fail))
          refine wpQuiet_nil ?_
          refine flo_effg rfl rfl rfl (fun wg1 hgg1 K hK => ?_)
          (try replace HG := Gr.trans (Gr.trans HG (by (repeat (first | (with_reducible exact Gr.refl _) | assumption | (with_reducible apply Gr.from_drew) | (with_reducible apply Gr.alloc) | (with_reducible apply Gr.drew) | (with_reducible refine Gr.trans ?_ (by assumption)) | (with_reducible refine Gr.setCell ?_ (by omega) _))))) hgg1)
          go_wp2_with ((go_at_call 26; refine (Find_any (.inl ⟨b, rfl, (H18.out.gr (Gr.of_drew HG)).get (i := 1) rfl⟩) x1).mono ?_; rintro e' w5 ⟨rfl, hg⟩; rw [HFW.out]; simp only [enV]; have H19 := Lib.hid ((H18.out.gr (Gr.of_drew HG)).gr hg); have hg5 := hg; clear hg))
          refine ⟨by (first | (refine Gr.mdh ?_ _; (repeat (first | (with_reducible exact Gr.refl _) | assumption | (with_reducible apply Gr.from_drew) | (with_reducible apply Gr.alloc) | (with_reducible apply Gr.drew) | (with_reducible refine Gr.trans ?_ (by assumption)) | (with_reducible refine Gr.setCell ?_ (by omega) _))); done) | (repeat (first | (with_reducible exact Mdh.refl _ _) | (with_reducible refine Mdh.setCell ?_ (by simp) _) | (with_reducible refine Mdh.setNew ?_ (by simp) _) | (with_reducible apply Mdh.alloc) | (with_reducible apply Mdh.from_drew) | (with_reducible apply Mdh.drew) | (with_reducible refine Mdh.gr ?_ (by assumption))))), ?_⟩
          refine flo_seg 4 rfl ?_
          simp only [List.take_succ_cons, List.take_zero, List.drop_succ_cons, List.drop_zero]
          repeat (go_big_quiet_step (fail))
          refine wpQuiet_nil ?_
          refine flo_float (fun b => .pointer (some ⟨b, 0, none⟩)) (.cells #[.int .i64 0, .string ⟨#[]⟩, .bool false, .int .i64 0, .int .i64 0, .int .i64 0] 43) rfl rfl (fun w => by kernel_rfl) (fun wf1 fb1 hgf1 fl1 fh1 ft1 fo1 => ?_)
          (try replace HG := Gr.trans (Gr.trans HG (by (repeat (first | (with_reducible exact Gr.refl _) | assumption | (with_reducible apply Gr.from_drew) | (with_reducible apply Gr.alloc) | (with_reducible apply Gr.drew) | (with_reducible refine Gr.trans ?_ (by assumption)) | (with_reducible refine Gr.setCell ?_ (by omega) _))))) hgf1)
          (try have fc1 := (cellsOf fo1).1)
          (try have ff1 := (cellsOf fo1).2)
          refine flo_eff rfl rfl rfl rfl (fun K hK => ?_)
          go_wp2
          refine ⟨by (first | (refine Gr.mdh ?_ _; (repeat (first | (with_reducible exact Gr.refl _) | assumption | (with_reducible apply Gr.from_drew) | (with_reducible apply Gr.alloc) | (with_reducible apply Gr.drew) | (with_reducible refine Gr.trans ?_ (by assumption)) | (with_reducible refine Gr.setCell ?_ (by omega) _))); done) | (repeat (first | (with_reducible exact Mdh.refl _ _) | (with_reducible refine Mdh.setCell ?_ (by simp) _) | (with_reducible refine Mdh.setNew ?_ (by simp) _) | (with_reducible apply Mdh.alloc) | (with_reducible apply Mdh.from_drew) | (with_reducible apply Mdh.drew) | (with_reducible refine Mdh.gr ?_ (by assumption))))), ?_⟩
          refine flo_seg 2 rfl ?_
          simp only [List.take_succ_cons, List.take_zero, List.drop_succ_cons, List.drop_zero]
          repeat (go_big_quiet_step (fail))
          refine wpQuiet_nil ?_
          refine flo_nil ?_
          obtain ⟨W4, hW4⟩ : ∃ y, y = ((((((wf1.setCell ⟨fb1, 0, none⟩ (.int .i64 c0)).setCell ⟨fb1, 1, none⟩ (.string c1)).setCell ⟨fb1, 2, none⟩ (.bool c2)).setCell ⟨fb1, 3, none⟩ (.int .i64 c3)).setCell ⟨fb1, 4, none⟩ (.int .i64 c4)).setCell ⟨fb1, 5, none⟩ (.int .i64 c5)) := ⟨_, rfl⟩
          have H20 : Hid (SW w (blkA fb1 (boxF ⟨c0, c1, c2, c3, c4, c5⟩) :: blkA b8 (boxF ⟨x0, x1, x2, x3, x4, x5⟩) :: mL b rb mb n v1' (.slice (some ⟨g0, 0, none⟩) all.length cv) S' ⟨X, all, nx⟩ []) W4) := Lib.hid (by
            have h1 := SW.addD (H19.out.gr hgf1) (D := fb1) fo1 (fun B hB k hk e => ?_) (Nat.le_trans H18.out.g.sz fl1)
            · rw [hW4]
              exact h1.step (B := blkA fb1 (boxF ⟨c0, c1, c2, c3, c4, c5⟩)) (T := fun k => k = fb1) ((((((((Mdh.refl (fun k => k = fb1) wf1).setCell (p := ⟨fb1, 0, none⟩) rfl _).setCell (p := ⟨fb1, 1, none⟩) rfl _).setCell (p := ⟨fb1, 2, none⟩) rfl _).setCell (p := ⟨fb1, 3, none⟩) rfl _).setCell (p := ⟨fb1, 4, none⟩) rfl _).setCell (p := ⟨fb1, 5, none⟩) rfl _)) (fun k hk => .inl hk) (blk6 fo1) (fun k hk => .inl hk)
            · have := H18.out.s.lt hB k hk
              omega)
          rw [← hW4]
          clear hW4 fl1 fh1 ft1 fo1 fc1 ff1 HG hgf1 hgg1 hg5 H19 d8 dm0 H18 HGM HFW
          have d8 := (cellsOf (show W4.heap[b8]? = _ from H20.out.get (i := 1) rfl)).1
          (try simp only [boxF] at d8)
          have d14 := (cellsOf (show W4.heap[fb1]? = _ from H20.out.get (i := 0) rfl)).1
          (try simp only [boxF] at d14)
          have HEN : Hid (SW w (mL b rb mb n v1' (.slice (some ⟨g0, 0, none⟩) all.length cv) S' ⟨X, all, nx⟩ []) W4.drew) := Lib.hid ((H20.out.sub (.cons _ (.cons _ (List.Sublist.refl _)))).gr (Gr.refl W4).drew)
          clear H20 HEQ
          by_cases hxg : x0 = g
          · have hgb : (x0 == g) = true := beq_iff_eq.2 hxg
            have hlt : ¬ x0 < g := by omega
            have hc := HSO.out hxg
            have HE2 := Lib.hid (HEC.out hxg)
            clear hxg HSO HEC
            subst hc
            cases x2 with
            | true =>
              clear HQ HE2
              simp only [Bool.not_true]
              go_wp2_with fail
              refine wp_region_flo (fun _ => False) [] [] (by kernel_rfl) (by kernel_rfl) (fun _ h => h.elim) ?_
              refine flo_seg 23 rfl ?_
              simp only [List.take_succ_cons, List.take_zero, List.drop_succ_cons, List.drop_zero]
              repeat (go_big_quiet_step (fail))
              refine wpQuiet_nil ?_
              refine flo_nil ?_
              go_wp2_with fail
              go_roundw
              case rel => exact ⟨i + 1, by omega, by go_num, HEN⟩
              case measure => simp [intOf]; omega
            | false =>
              obtain ⟨bq, hbq⟩ : ∃ bq, bq = decide (x3 = l) := ⟨_, rfl⟩
              have ke : ∀ w, (binOp .eql 43 (.agg #[.int .i64 c0, .string c1, .bool c2, .int .i64 c3, .int .i64 c4, .int .i64 c5]) (.agg #[.int .i64 x0, .string x1, .bool false, .int .i64 x3, .int .i64 x4, .int .i64 x5])).run Try.prog w = .ok (.bool bq) w := fun w => (HQ.out w).trans (by rw [HE2.out rfl, ← hbq])
              have hlb : (x3 == l) = bq := by
                rw [hbq]
                by_cases h : x3 = l <;> simp [h]
              clear hbq HQ HE2
              simp only [Bool.not_false]
              cases bq
              all_goals
                go_wp2_with fail
                refine wp_region_flo (fun _ => False) [] [] (by kernel_rfl) (by kernel_rfl) (fun _ h => h.elim) ?_
                refine flo_seg 23 rfl ?_
                simp only [List.take_succ_cons, List.take_zero, List.drop_succ_cons, List.drop_zero]
                repeat (go_big_quiet_step (fail))
                refine wpQuiet_nil ?_
                refine flo_nil ?_
                go_wp2_with fail
                go_roundw
                case rel => exact ⟨i + 1, by omega, by go_num, HEN⟩
                case measure => simp [intOf]; omega
          · have hgb : (x0 == g) = false := beq_false_of_ne hxg
            clear hxg HSO HEC HQ
            by_cases hlt : x0 < g
            all_goals
              go_wp2_with fail
              refine wp_region_flo (fun _ => False) [] [] (by kernel_rfl) (by kernel_rfl) (fun _ h => h.elim) ?_
              refine flo_seg 23 rfl ?_
              simp only [List.take_succ_cons, List.take_zero, List.drop_succ_cons, List.drop_zero]
              repeat (go_big_quiet_step (fail))
              refine wpQuiet_nil ?_
              refine flo_nil ?_
              go_wp2_with fail
              go_roundw
              case rel => exact ⟨i + 1, by omega, by go_num, HEN⟩
              case measure => simp [intOf]; omega
    · have hli' : ¬ (i : Int) < all.length := by omega
      go_wp2_with (go_at_call 22; refine (kd_works _).mono ?_; rintro e w1 ⟨rfl, hg⟩; have HG := Lib.hid hg; clear hg)
      go_ret
      exact ⟨rfl, HI.out.g.trans HG.out⟩
end Go.Proofs.Ythefpmmeoajaiaa
