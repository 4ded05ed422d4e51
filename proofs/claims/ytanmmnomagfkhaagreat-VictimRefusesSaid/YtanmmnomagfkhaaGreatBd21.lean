/- VictimRefuses, in plain Lean: the error of what is wrong. -/
import Derived.Test.YtanmmnomagfkhaaGreatBd20
import Derived.Test.YtanmmnomagfkhaaGreatBd7
import Derived.Test.YtanmmnomagfkhaaGreatBd13
set_option linter.unusedVariables false
set_option linter.unusedSimpArgs false
namespace Go.Proofs.YtanmmnomagfkhaaGreat
open Go.RowKit

section
variable {X : IX} {c : Cfg} {l : List Int} {next : Int} {good : Bool}
theorem code_arg (h : argC X.slots.length c next good = false) : vCode X c l next good = 2 := by
  have h1 : vchkC X.slots.length c l next good = 2 := if_pos h
  unfold vCode
  rw [h1]
  rfl
theorem code_range (h : argC X.slots.length c next good = true) (h2 : l.all (okS X.slots.length) = false) : vCode X c l next good = 3 := by
  have h1 : vchkC X.slots.length c l next good = 3 := by
    unfold vchkC
    rw [if_neg (by rw [h]; simp), if_pos h2]
  unfold vCode
  rw [h1]
  rfl
theorem code_twice (h : argC X.slots.length c next good = true) (h2 : l.all (okS X.slots.length) = true) (h3 : ¬ l.Nodup) : vCode X c l next good = 6 := by
  have h1 : vchkC X.slots.length c l next good = 6 := by
    unfold vchkC
    rw [if_neg (by rw [h]; simp), if_neg (by rw [h2]; simp), if_pos (decide_eq_false h3)]
  unfold vCode
  rw [h1]
  rfl
theorem code_side (h : argC X.slots.length c next good = true) (h2 : l.all (okS X.slots.length) = true) (h3 : l.Nodup) : vCode X c l next good = sidesC X next (c.size - 16) l := by
  have h1 : vchkC X.slots.length c l next good = 0 := by
    unfold vchkC
    rw [if_neg (by rw [h]; simp), if_neg (by rw [h2]; simp), if_neg (by rw [decide_eq_true h3]; simp)]
  unfold vCode
  rw [if_pos h1]
theorem code_none (h : vCode X c l next good ≠ 0) : vSides X c l next good = [] := by
  unfold vCode at h
  unfold vSides
  by_cases h1 : vchkC X.slots.length c l next good = 0
  · rw [if_pos h1] at h ⊢
    unfold sidesC at h
    unfold sidesK
    split at h
    · exact absurd rfl h
    · rename_i h2
      exact if_neg h2
  · exact if_neg h1
end
section
variable {st : MS} {n j : Nat}
theorem arg_made (h : st.Ok n j) (h4 : 4 ≤ n) (h11 : n ≤ 11) {next : Int} (h1 : 1 ≤ next) (h2 : next ≤ 1099511627776) : argC st.X.slots.length (cfgM n) next true = true := by
  rw [made_slots h]
  unfold argC
  rw [cfgM_ok h4 h11]
  have e : (cfgM n).slots = (n : Int) := rfl
  rw [e]
  simp
  omega
theorem in_okS {n : Nat} {l : List Int} (h : ∀ s ∈ l, 0 ≤ s ∧ s < (n : Int)) : l.all (okS n) = true := List.all_eq_true.2 (fun s hs => by
  have := h s hs
  unfold okS
  simp
  omega)
/-- The first thing that can be wrong: the next number is too small. -/
theorem code_next (h : st.Ok n j) (hj : j ≤ 100) (h4 : 4 ≤ n) (h11 : n ≤ 11) : (vCode st.X (cfgM n) (allI n) st.nx true = 0) ∧ (¬ 1 < st.X.last → vCode st.X (cfgM n) (allI n) 1 true = 0) ∧ (1 < st.X.last → vCode st.X (cfgM n) (allI n) 1 true = 2) := by
  have hq := h.q0
  have hq1 := h.q1
  have hall : (allI n).all (okS st.X.slots.length) = true := by rw [made_slots h]; exact in_okS allI_in
  have hside : ∀ s : Int, 0 ≤ s → s < n → ∀ e ∈ st.X.slot s, e.seq ≤ (byOf st.X s).last := fun s _ _ e he => (slot_max h.g.wf s).ge e he
  refine ⟨(made_code h hj h4 h11 allI_in (allI_nodup n)).1, fun hlt => ?_, fun hlt => ?_⟩
  · rw [code_side (arg_made h h4 h11 (by omega) (by omega)) hall (allI_nodup n), cfgM_room]
    unfold sidesC
    refine if_pos (List.all_eq_true.2 (fun x hx => ?_))
    obtain ⟨s, hs, rfl⟩ := List.mem_map.1 hx
    have h0 := allI_in s hs
    have h1 := (made_side h hj (show ((n : Nat) : Int) ≤ 32 by omega) h0.1 h0.2).1
    have h2 := slot_max h.g.wf s
    have h3 : (byOf st.X s).last ≤ 1 := by
      rcases h2.at' with e | ⟨e, he, e1⟩
      · omega
      · have := (last_max h.g.wf).ge e ((h.g.mem e).1 ((h.g.slot s e).1 he).1)
        omega
    have h5 := h2.z
    have e1 : sideOf st.X 1 s = (s, sumZ (keepL st.X s), 1 - (byOf st.X s).last) := rfl
    have e2 : sideOf st.X st.nx s = (s, sumZ (keepL st.X s), st.nx - (byOf st.X s).last) := rfl
    rw [e1]
    rw [e2] at h1
    generalize sumZ (keepL st.X s) = k at *
    generalize (byOf st.X s).last = q at *
    simp only [chkS, chkB, inB, Bool.and_eq_true, decide_eq_true_eq] at h1 ⊢
    omega
  · rw [code_side (arg_made h h4 h11 (by omega) (by omega)) hall (allI_nodup n), cfgM_room]
    unfold sidesC
    refine if_neg (fun hc => ?_)
    rcases (last_max h.g.wf).at' with e | ⟨e, he, e1⟩
    · omega
    · have ha := (h.g.mem e).2 he
      have hs := h.g.slots ha
      have h2 := (slot_max h.g.wf e.slot).ge e ((h.g.slot e.slot e).2 ⟨ha, rfl⟩)
      have h3 := List.all_eq_true.1 hc _ (List.mem_map.2 ⟨e.slot, allI_mem.2 hs, rfl⟩)
      have e2 : sideOf st.X 1 e.slot = (e.slot, sumZ (keepL st.X e.slot), 1 - (byOf st.X e.slot).last) := rfl
      rw [e2] at h3
      simp only [chkS, chkB, inB, Bool.and_eq_true, decide_eq_true_eq] at h3
      omega
/-- One slot twice. -/
theorem code_dup (h : st.Ok n j) (h4 : 4 ≤ n) (h11 : n ≤ 11) {next : Int} (h1 : 1 ≤ next) (h2 : next ≤ 1099511627776) {x : Int} (hx : x ∈ allI n) : vCode st.X (cfgM n) (allI n ++ [x]) next true = 6 := by
  refine code_twice (arg_made h h4 h11 h1 h2) ?_ (fun hd => ?_)
  · rw [made_slots h]
    refine in_okS (fun s hs => ?_)
    rcases List.mem_append.1 hs with hs | hs
    · exact allI_in s hs
    · rw [List.mem_singleton.1 hs]; exact allI_in x hx
  · exact (List.nodup_append.1 hd).2.2 x hx x (by simp) rfl
/-- A slot that there is not. -/
theorem code_far (h : st.Ok n j) (h4 : 4 ≤ n) (h11 : n ≤ 11) {next : Int} (h1 : 1 ≤ next) (h2 : next ≤ 1099511627776) {x : Int} (hx : x < 0 ∨ (n : Int) ≤ x) (l : List Int) : vCode st.X (cfgM n) (x :: l) next true = 3 := by
  refine code_range (arg_made h h4 h11 h1 h2) ?_
  rw [made_slots h, List.all_cons]
  have : okS n x = false := by
    unfold okS
    rcases hx with hx | hx
    · rw [decide_eq_false (show ¬ 0 ≤ x by omega), Bool.false_and]
    · rw [decide_eq_false (show ¬ x < (n : Int) by omega), Bool.and_false]
  rw [this]
  rfl
/-- What is wrong ahead of the slots. -/
theorem code_pol {X : IX} {c : Cfg} {l : List Int} {next p : Int} (hp : polB26 p = false) : vCode X c l next (polB26 p) = 2 := by
  refine code_arg ?_
  unfold argC
  rw [hp]
  simp
theorem code_cfg {X : IX} {c : Cfg} {l : List Int} {next : Int} {good : Bool} (h : cfgOk c = false ∨ c.slots ≠ X.slots.length ∨ next < 1 ∨ 1099511627776 < next) : vCode X c l next good = 2 := by
  refine code_arg ?_
  unfold argC
  rcases h with h | h | h | h
  · rw [h]; simp
  · rw [decide_eq_false h]; simp
  · rw [decide_eq_false (show ¬ 1 ≤ next by omega)]; simp
  · rw [decide_eq_false (show ¬ next ≤ 1099511627776 by omega)]; simp
theorem code_true {X : IX} {c : Cfg} {l : List Int} {next p : Int} (hp : p = 1 ∨ p = 2) : vCode X c l next (polB26 p) = vCode X c l next true := by rw [pol_true hp]
end
end Go.Proofs.YtanmmnomagfkhaaGreat

/- VictimRefuses. -/
set_option linter.unusedVariables false
set_option linter.unusedSimpArgs false
namespace Go.Proofs.YtanmmnomagfkhaaGreat
open Go.RowKit Go.Shelf
attribute [local go_sem] OvM cell_ovm obj_ovm
attribute [local go_sem] Oper.semAt_some

abbrev rfL (b6 : Nat) (c : Cfg) (v : Value) (l : List Int) (b rb mb : Nat) (n : Int) (v1 v2 : Value) (S : Nat → Prop) (st : MS) : List Asn :=
  blkA b6 (cfgO c) :: rowA 3 1 v l.length (kN l) :: mL b rb mb n v1 v2 S st []
theorem kN1 (l : List Int) : ∀ u ∈ kN l, u.oneCell' = true := fun u hu => by
  unfold kN at hu
  obtain ⟨x, _, rfl⟩ := List.mem_map.1 hu
  rfl
theorem rLen26 {w : World} {rb : Nat} {N : Int} {a : Option Addr} {k cap : Nat} (h : w.heap[rb]? = some (rmO N (.slice a k cap))) (hN : 0 < N) : Calls Tryz.prog 21 #[.pointer (some ⟨rb, 0, none⟩)] w fun e w' => e = .returned (.int .i64 k) ∧ w = w' := by
  have c1 := ((cellsOf h).1 1).trans (show _ = some (Value.slice a k cap) from rfl)
  have HV := Lib.hid (rvalid h hN)
  clear h
  go_enter Tryz.func21, Tryz.ntmps21
  go_wp2_with (go_at_call 66; refine Calls.mono HV.out ?_; rintro e w1 ⟨rfl, rfl⟩)
  go_ret
  exact ⟨rfl, rfl⟩
theorem own_some26 {w : World} {t : TypeId} {K n cap : Nat} {a : Option Addr} {xs : List Value} (h : Own w t K (.slice a n cap) n xs) (hn : 0 < n) : ∃ g, a = some ⟨g, 0, none⟩ := by
  rcases h.2 with ⟨_, h0⟩ | ⟨g, cap', cur, hv, _⟩
  · omega
  · injection hv with e1 _ _
    exact ⟨g, e1⟩
theorem numAt_own2 {w : World} {a : Option Addr} {m c : Nat} {l : List Int} (h : Own w 3 1 (.slice a m c) l.length (kN l)) : l.length = m ∧ m ≤ c ∧ c ≤ maxLen ∧ NumAt w a l := by
  obtain ⟨a', c', hv, h1, h2, h3⟩ := numAt_own h
  injection hv with e1 e2 e3
  subst e1
  subst e3
  exact ⟨e2.symm, by rw [e2]; exact h1, h2, h3⟩
theorem far_all {n : Nat} {x : Int} {l : List Int} (hx : x < 0 ∨ (n : Int) ≤ x) : (x :: l).all (okS n) = false := by
  rw [List.all_cons]
  have e : okS n x = false := by
    unfold okS
    rcases hx with hx | hx
    · rw [decide_eq_false (show ¬ 0 ≤ x by omega), Bool.false_and]
    · rw [decide_eq_false (show ¬ x < (n : Int) by omega), Bool.and_false]
  rw [e]
  rfl
theorem vchk_all {n : Nat} {c : Cfg} {l : List Int} {next : Int} {good : Bool} (h : l.all (okS n) = false) : vchkC n c l next good ≠ 0 := by
  unfold vchkC
  by_cases h0 : argC n c next good = false
  · rw [if_pos h0]; decide
  · rw [if_neg h0, if_pos h]; decide
theorem cfg_res {c : Cfg} (h : c.reserve < 2) : cfgOk c = false := by
  unfold cfgOk spans
  rw [List.all_cons]
  have e : spanB (c.reserve, 2, 8) = false := by
    unfold spanB
    rw [decide_eq_false (show ¬ (2 : Int) ≤ c.reserve by omega)]
    rfl
  rw [e]
  rfl
theorem app1 {w0 wx w' : World} {A0 : Asn} {R : List Asn} {v v' : Value} {n : Nat} {l : List Int} {x : Int} {o : Obj} (h : SW w0 (A0 :: rowA 3 1 v l.length (kN l) :: R) wx) (hl : l.length = n) (hA : AppV (wx.alloc o) 3 1 v (n + 1) (kN l ++ [.int .i64 x]) v' w') : SW w0 (A0 :: rowA 3 1 v' (l ++ [x]).length (kN (l ++ [x])) :: R) w' := by
  refine h.at (i := 1) (B := rowA 3 1 v' (l ++ [x]).length (kN (l ++ [x]))) (T := fun k => v.ownBlock = some k) rfl ((((Gr.refl wx).alloc o).mdh _).trans (hA.mdh (fun g hg => hg))) (fun k hk => .inl hk) ?_ (fun k hk => (hA.2.1 k hk).imp id (fun h1 => by have := ((Gr.refl wx).alloc o).sz; omega))
  show Own _ _ _ v' (l ++ [x]).length (kN (l ++ [x]))
  rw [List.length_append, hl, kN_snoc]
  exact hA.1
theorem app2 {w0 wx w' : World} {A0 : Asn} {R : List Asn} {v v' : Value} {n : Nat} {l : List Int} {x : Int} {o : Obj} (h : SW w0 (A0 :: rowA 3 1 v l.length (kN l) :: R) wx) (hl : l.length = n) (hA : AppV (wx.alloc o) 3 1 (.slice (some ⟨wx.heap.size, 0, none⟩) 1 1) (1 + n) ([.int .i64 x] ++ kN l) v' w') : SW w0 (A0 :: rowA 3 1 v' (x :: l).length (kN (x :: l)) :: R) w' := by
  refine h.at (i := 1) (B := rowA 3 1 v' (x :: l).length (kN (x :: l))) (T := fun k => k = wx.heap.size) rfl ((((Gr.refl wx).alloc o).mdh _).trans (hA.mdh (fun g hg => ownB hg))) (fun k hk => .inr (by rw [hk]; exact Nat.le_refl _)) ?_ (fun k hk => (hA.2.1 k hk).elim (fun h1 => .inr (by rw [ownB h1]; exact Nat.le_refl _)) (fun h1 => .inr (by have := ((Gr.refl wx).alloc o).sz; omega)))
  show Own _ _ _ v' (x :: l).length (kN (x :: l))
  rw [List.length_cons, hl, Nat.add_comm]
  exact hA.1
theorem set0 {w0 wx : World} {A0 : Asn} {R : List Asn} {g m c : Nat} {l : List Int} {x y : Int} (h : SW w0 (A0 :: rowA 3 1 (.slice (some ⟨g, 0, none⟩) m c) (x :: l).length (kN (x :: l)) :: R) wx) (hm : (x :: l).length = m) : SW w0 (A0 :: rowA 3 1 (.slice (some ⟨g, 0, none⟩) m c) (y :: l).length (kN (y :: l)) :: R) (wx.setCell ⟨g, 0, none⟩ (.int .i64 y)) := by
  refine h.at (i := 1) (B := rowA 3 1 (.slice (some ⟨g, 0, none⟩) m c) (y :: l).length (kN (y :: l))) (T := fun k => k = g) rfl ((Mdh.refl (fun k => k = g) wx).setCell (p := ⟨g, 0, none⟩) rfl _) (fun k hk => .inl (by rw [hk]; rfl)) ?_ (fun k hk => .inl hk)
  have ho : Own wx 3 1 (.slice (some ⟨g, 0, none⟩) m c) (x :: l).length (kN (x :: l)) := h.get (i := 1) rfl
  show Own _ _ _ _ (y :: l).length (kN (y :: l))
  have e : (y :: l).length = m := hm
  rw [hm] at ho
  rw [e]
  exact ho.set (j := 0) (by simp [kN]) (.int .i64 y)
def badP (far : Int) : Int := if far % 2 = 0 then -far else 2 + far
theorem badP_no {far : Int} (h0 : 0 ≤ far) : polB26 (badP far) = false := by
  unfold badP polB26
  split
  · rw [decide_eq_false (by omega), decide_eq_false (by omega)]; rfl
  · rw [decide_eq_false (by omega), decide_eq_false (by omega)]; rfl
theorem Policy26 (far : Int) (h0 : 0 ≤ far) (h1 : far ≤ 65535) (w : World) : Calls Tryz.prog 24 #[.int .i64 far] w fun e w' => e = .returned (.int .i64 (badP far)) ∧ w = w' := by
  unfold badP
  by_cases h : far % 2 = 0
  · have hb : (far % 2 == 0) = true := by simp [h]
    rw [if_pos h]
    go_enter Tryz.func24, Tryz.ntmps24
    go_wp2
    go_ret
    exact ⟨rfl, rfl⟩
  · have hb : (far % 2 == 0) = false := by simp [h]
    rw [if_neg h]
    go_enter Tryz.func24, Tryz.ntmps24
    go_wp2
    go_ret
    exact ⟨rfl, rfl⟩
set_option maxRecDepth 40000 in
set_option maxHeartbeats 16000000 in
theorem VictimRefuses_any (u : Int) (a : Option Addr) (len cap : Nat) (L : List Tn) (wh far : Int) (w : World) (hu0 : 0 ≤ u) (hu1 : u ≤ 255) (hl : L.length = len) (hle : len ≤ cap) (hcap : cap ≤ maxLen) (hs : TurnAt w a L) (hw0 : 0 ≤ wh) (hw1 : wh ≤ 255) (hf0 : 0 ≤ far) (hf1 : far ≤ 65535) :
    Calls Tryz.prog 4 #[.int .u8 u, .slice a len cap, .int .u8 wh, .int .u16 far] w fun e w' => e = .returned (.bool true) ∧ Gr w w' := by
  by_cases h40 : 40 < len
  · have h40' : (40 : Int) < len := by omega
    clear hs hl
    go_enter Tryz.func4, Tryz.ntmps4
    go_wp2_with (go_at_call 10; refine (v_works _).mono ?_; rintro e w1 ⟨rfl, hg⟩; have HG := Lib.hid hg; clear hg)
    go_ret
    exact ⟨rfl, HG.out⟩
  have h40' : ¬ (40 : Int) < len := by omega
  obtain ⟨n, hn⟩ : ∃ n : Nat, 4 + u % 8 = (n : Int) := ⟨(4 + u % 8).toNat, by omega⟩
  have h4 : 4 ≤ n := by omega
  have h11 : n ≤ 11 := by omega
  have HST := Lib.hid (foldM_ok n (by omega) (by omega) len L hl (by omega) (turnOk hs))
  have HMD := Lib.hid (made_any u hu0 hu1 n hn a len cap L w hl (by omega) hle hcap hs)
  have hj : len ≤ 100 := by omega
  clear hs hl hn
  go_enter Tryz.func4, Tryz.ntmps4
  go_wp2_with fail
  refine Calls.mono HMD.out ?_
  rintro e w1 ⟨b, rb, mb, v1, v2, S, va, rfl, hs⟩
  have H1 := Lib.hid hs
  clear hs HMD
  generalize foldM n L = st at *
  have HOA := Lib.hid (show Own w1 3 1 va n (kN (allI n)) from H1.out.get (i := 0) rfl)
  obtain ⟨av, cv, rfl, hcv, hmv, hna⟩ := own_allI HOA.out
  have HNA := Lib.hid hna
  have hmv2 := hmv
  unfold maxLen at hmv2
  clear hna
  simp only [cfgV, cfgM]
  go_upto_region 4 with fail
  obtain ⟨b6, hb6⟩ : ∃ q, q = w1.heap.size := ⟨_, rfl⟩
  obtain ⟨w2, hw2⟩ : ∃ y, y = w1.alloc (.cells #[.int .i64 n, .int .i64 8192, .int .i64 2, .int .i64 65536, .int .i64 8, .int .i64 60, .int .i64 1] 24) := ⟨_, rfl⟩
  have H2 := Lib.hid (H1.out.alloc (.cells #[.int .i64 n, .int .i64 8192, .int .i64 2, .int .i64 65536, .int .i64 8, .int .i64 60, .int .i64 1] 24))
  have HG12 : Hid (Gr w1 w2) := Lib.hid (by rw [hw2]; exact (Gr.refl w1).alloc _)
  rw [← hw2, ← hb6] at H2
  rw [← hw2, ← hb6]
  clear hw2 hb6 H1
  have HQ := Lib.hid (And.intro HST.out.q0 HST.out.q1)
  have HCN := Lib.hid (code_next HST.out hj h4 h11)
  have HDU := Lib.hid (fun (next : Int) h1 h2 (x : Int) hx => code_dup (next := next) (x := x) HST.out h4 h11 h1 h2 hx)
  have HFA := Lib.hid (fun (next : Int) h1 h2 (x : Int) hx l => code_far (next := next) (x := x) HST.out h4 h11 h1 h2 hx l)
  have HSL := Lib.hid (made_slots HST.out)
  have HNE := Lib.hid (made_ne HST.out h4)
  have HEL := Lib.hid HST.out.g.len
  have HAL := Lib.hid HST.out.n
  obtain ⟨X, all, nx⟩ := st
  simp only at HQ HCN HDU HFA HSL HNE HEL HAL
  have hnx1 := HQ.out.1
  have hnx2 := HQ.out.2
  obtain ⟨ga, hga⟩ : ∃ g, av = some ⟨g, 0, none⟩ := by
    rcases HOA.out.2 with ⟨_, h0⟩ | ⟨g, cap', cur, hv, _⟩
    · omega
    · injection hv with e1 _ _
      exact ⟨g, e1⟩
  subst hga
  have H3 : Hid (SW w (rfL b6 (cfgM n) (.slice (some ⟨ga, 0, none⟩) n cv) (allI n) b rb mb n v1 v2 S ⟨X, all, nx⟩) w2) := Lib.hid (by
    have h := H2.out
    unfold rfL
    rw [allI_len]
    exact h)
  have dm0 := ((cellsOf (show w2.heap[mb]? = _ from H2.out.get (i := 5) rfl)).1 0).trans (show _ = some (Value.pointer (some ⟨b, 0, none⟩)) from rfl)
  have HLA := Lib.hid (Last_any (.inl ⟨b, rfl, (show IXR w2 b X S from H2.out.get (i := 2) rfl)⟩))
  clear H2 HNA HOA HQ HST HG12
  go_upto_region 9 with fail
  go_cut [44] (fun t44 wx => ∃ bb : Bool, t44 = .bool bb ∧ w2 = wx)
  case first => as_aux_lemma =>
    go_wp2_with fail
    go_meet
    exact ⟨_, rfl, rfl⟩
  case rest =>
    obtain ⟨bb, hb44, rfl⟩ := hcut
    have HB44 := Lib.hid hb44
    clear hb44
    go_upto_region 13 with fail
    go_cut [12, 16, 17] (fun t12 t16 t17 wx => ∃ nx' w0 : Int, t12 = .int .i64 nx' ∧ t16 = .int .i64 w0 ∧ t17 = .int .i64 w0 ∧ Hid (SW w (rfL b6 (cfgM n) (.slice (some ⟨ga, 0, none⟩) n cv) (allI n) b rb mb n v1 v2 S ⟨X, all, nx⟩) wx ∧ 1 ≤ nx' ∧ nx' ≤ 1099511627776 ∧ vCode X (cfgM n) (allI n) nx' true = w0))
    case first => as_aux_lemma =>
      have hb44 := HB44.out
      subst hb44
      obtain ⟨hc1, hc2, hc3⟩ := HCN.out
      obtain ⟨lst, hlst⟩ : ∃ lst, lst = X.last := ⟨_, rfl⟩
      rw [← hlst] at HLA hc2 hc3
      clear hlst
      have HC := Lib.hid (And.intro hc1 (And.intro hc2 hc3))
      clear hc1 hc2 hc3
      cases bb with
      | false =>
        go_wp2_with fail
        go_meet
        exact ⟨nx, 0, rfl, rfl, rfl, Lib.hid ⟨H3.out, by omega, by omega, HC.out.1⟩⟩
      | true =>
        by_cases hlt : 1 < lst
        · have hl1 : decide (1 < lst) = true := decide_eq_true hlt
          go_wp2_with (go_at_call 23; refine Calls.mono HLA.out ?_; rintro e w3 ⟨rfl, hg⟩; have HGL := Lib.hid hg; clear hg)
          go_meet
          exact ⟨1, 2, rfl, rfl, rfl, Lib.hid ⟨H3.out.gr HGL.out, by omega, by omega, HC.out.2.2 hlt⟩⟩
        · have hl1 : decide (1 < lst) = false := decide_eq_false hlt
          go_wp2_with (go_at_call 23; refine Calls.mono HLA.out ?_; rintro e w3 ⟨rfl, hg⟩; have HGL := Lib.hid hg; clear hg)
          go_meet
          exact ⟨1, 0, rfl, rfl, rfl, Lib.hid ⟨H3.out.gr HGL.out, by omega, by omega, HC.out.2.1 hlt⟩⟩
    case rest =>
      obtain ⟨nx', w0, rfl, rfl, rfl, HB1⟩ := hcut
      clear dm0 HLA H3 HCN
      obtain ⟨wa, hwa⟩ : ∃ y, y = wc := ⟨_, rfl⟩
      rw [← hwa] at HB1 ⊢
      clear hwa
      go_upto_region 13 with fail
      go_cut [53] (fun t53 wx => ∃ bb : Bool, t53 = .bool bb ∧ wa = wx)
      case first => as_aux_lemma =>
        go_wp2_with fail
        go_meet
        exact ⟨_, rfl, rfl⟩
      case rest =>
        obtain ⟨bb2, hb53, rfl⟩ := hcut
        have HB53 := Lib.hid hb53
        clear hb53
        go_upto_region 16 with fail
        go_cut [11, 16, 17] (fun t11 t16 t17 wx => ∃ (a2 : Addr) (n2 c2 : Nat) (l : List Int) (w0 : Int), t11 = .slice (some a2) n2 c2 ∧ t16 = .int .i64 w0 ∧ t17 = .int .i64 w0 ∧ Hid (SW w (rfL b6 (cfgM n) (.slice (some a2) n2 c2) l b rb mb n v1 v2 S ⟨X, all, nx⟩) wx ∧ l.length = n2 ∧ n2 ≤ 12 ∧ 1 ≤ n2 ∧ vCode X (cfgM n) l nx' true = w0))
        case first => as_aux_lemma =>
          have hb53 := HB53.out
          subst hb53
          cases bb2 with
          | false =>
            go_wp2_with fail
            go_meet
            exact ⟨⟨ga, 0, none⟩, n, cv, allI n, w0, rfl, rfl, rfl, Lib.hid ⟨HB1.out.1, allI_len n, by omega, by omega, HB1.out.2.2.2⟩⟩
          | true =>
            obtain ⟨i0, hi, hz0, hz1, hz2⟩ := info_parts infoN
            obtain ⟨kt, hkt⟩ : ∃ kt : Nat, far % (n : Int) = (kt : Int) := ⟨(far % (n : Int)).toNat, by have := Int.emod_nonneg far (show (n : Int) ≠ 0 by omega); omega⟩
            have hktn : kt < n := by have := Int.emod_lt_of_pos far (show (0 : Int) < n by omega); omega
            have hktn' : (kt : Int) < n := by omega
            have hn0 : ((n : Int) == 0) = false := by simp; omega
            have hn0' : ¬ (n : Int) = 0 := by omega
            have HO := Lib.hid (show Own wa 3 1 (.slice (some ⟨ga, 0, none⟩) n cv) (allI n).length (kN (allI n)) from HB1.out.1.get (i := 1) rfl)
            rw [allI_len] at HO
            obtain ⟨a9, c9, hv9, _, _, hna⟩ := own_allI HO.out
            injection hv9 with e1 _ e2
            subst e2
            obtain ⟨b9, o9, e3, _, zc⟩ := hna kt (kt : Int) (by unfold allI; rw [List.getElem?_map, List.getElem?_range hktn]; rfl)
            subst e1
            injection e3 with e4
            injection e4 with e5 e6
            subst e5
            subst e6
            simp only [Nat.zero_add] at zc
            clear hna
            go_wp2_with (first
              | (at_builtin; go_must (refine wpList_appv _ rfl (.tmp 54) (.tmp 62) 25 rfl 3 i0 _ 1 8 Tryz.underlying25 hi hz0 hz1 hz2 rfl (by decide) (.slice (some ⟨ga, 0, none⟩) n cv) n (kN (allI n)) rfl (HO.out.gr (by (repeat (first | (with_reducible exact Gr.refl _) | assumption | (with_reducible apply Gr.from_drew) | (with_reducible apply Gr.alloc) | (with_reducible apply Gr.drew) | (with_reducible refine Gr.trans ?_ (by assumption)) | (with_reducible refine Gr.setCell ?_ (by omega) _))))) (some ⟨wa.heap.size, 0, none⟩) 1 1 [.int .i64 kt] rfl (src_newK wa [.int .i64 kt] _ 1 rfl (by simp [Value.oneCell'])) (by simp only [maxLen]; omega) (by omega) ?_); intro v3 w6 hA; have HA := Lib.hid hA; clear hA)
              | fail)
            obtain ⟨a3, c3, hv3⟩ := HA.out.val
            subst hv3
            obtain ⟨g3, hg3⟩ := own_some26 HA.out.1 (by omega)
            subst hg3
            go_meet
            exact ⟨⟨g3, 0, none⟩, n + 1, c3, allI n ++ [(kt : Int)], 6, rfl, rfl, rfl, Lib.hid ⟨app1 HB1.out.1 (allI_len n) HA.out, by rw [List.length_append, allI_len]; rfl, by omega, by omega, HDU.out nx' HB1.out.2.1 HB1.out.2.2.1 kt (allI_mem.2 ⟨by omega, by omega⟩)⟩⟩
        case rest =>
          obtain ⟨a2, n2, c2, l, w1', rfl, rfl, rfl, HB2⟩ := hcut
          have hq1 := HB1.out.2.1
          have hq2 := HB1.out.2.2.1
          clear HB1 HDU
          obtain ⟨wb, hwb⟩ : ∃ y, y = wc := ⟨_, rfl⟩
          rw [← hwb] at HB2 ⊢
          clear hwb
          have HO2 : Hid (Own wb 3 1 (.slice (some a2) n2 c2) n2 (kN l)) := Lib.hid (by
            have h0 : Own wb 3 1 (.slice (some a2) n2 c2) l.length (kN l) := HB2.out.1.get (i := 1) rfl
            rw [HB2.out.2.1] at h0
            exact h0)
          obtain ⟨g2, hg2⟩ := own_some26 HO2.out (by have := HB2.out.2.2.2.1; omega)
          injection hg2 with hg2
          subst hg2
          have hl12 := HB2.out.2.2.1
          obtain ⟨_, _, hc2a, hc2b⟩ := own_fr HO2.out
          unfold maxLen at hc2b
          go_upto_region 16 with fail
          go_cut [66] (fun t66 wx => ∃ bb : Bool, t66 = .bool bb ∧ wb = wx)
          case first => as_aux_lemma =>
            go_wp2_with fail
            go_meet
            exact ⟨_, rfl, rfl⟩
          case rest =>
            obtain ⟨bb3, hb66, rfl⟩ := hcut
            have HB66 := Lib.hid hb66
            clear hb66
            go_upto_region 21 with fail
            go_cut [11, 16, 17] (fun t11 t16 t17 wx => ∃ (a2 : Addr) (n2 c2 : Nat) (l : List Int) (w0 : Int), t11 = .slice (some a2) n2 c2 ∧ t16 = .int .i64 w0 ∧ t17 = .int .i64 w0 ∧ Hid (SW w (rfL b6 (cfgM n) (.slice (some a2) n2 c2) l b rb mb n v1 v2 S ⟨X, all, nx⟩) wx ∧ l.length = n2 ∧ n2 ≤ 13 ∧ (n2 ≤ 12 ∨ l.all (okS n) = false) ∧ vCode X (cfgM n) l nx' true = w0))
            case first => as_aux_lemma =>
              have hb66 := HB66.out
              subst hb66
              cases bb3 with
              | false =>
                go_wp2_with fail
                go_meet
                exact ⟨⟨g2, 0, none⟩, n2, c2, l, w1', rfl, rfl, rfl, Lib.hid ⟨HB2.out.1, HB2.out.2.1, by omega, .inl hl12, HB2.out.2.2.2.2⟩⟩
              | true =>
                obtain ⟨i0, hi, hz0, hz1, hz2⟩ := info_parts infoN
                have d6 := ((cellsOf (show wb.heap[b6]? = _ from HB2.out.1.get (i := 0) rfl)).1 0).trans (show _ = some (Value.int .i64 n) from rfl)
                go_wp2_with (first
                  | (at_builtin; go_must (refine wpList_appv _ rfl (.tmp 71) (.tmp 72) 25 rfl 3 i0 _ 1 8 Tryz.underlying25 hi hz0 hz1 hz2 rfl (by decide) (.slice (some ⟨wb.heap.size, 0, none⟩) 1 1) 1 [.int .i64 ((n : Int) + far)] rfl (own_lit wb 3 1 1 [.int .i64 ((n : Int) + far)] rfl (by omega)) (some ⟨g2, 0, none⟩) n2 c2 (kN l) rfl ((src_all HO2.out (kN1 l)).gr (by (repeat (first | (with_reducible exact Gr.refl _) | assumption | (with_reducible apply Gr.from_drew) | (with_reducible apply Gr.alloc) | (with_reducible apply Gr.drew) | (with_reducible refine Gr.trans ?_ (by assumption)) | (with_reducible refine Gr.setCell ?_ (by omega) _))))) (by simp only [maxLen]; omega) (by omega) ?_); intro v3 w6 hA; have HA := Lib.hid hA; obtain ⟨a3, c3, hv3⟩ := hA.val; subst hv3; obtain ⟨g3, hg3⟩ := own_some26 hA.1 (by omega); subst hg3; have z0 : w6.cell? ⟨g3, 0, none⟩ = some (.int .i64 ((n : Int) + far)) := (by have h := hA.1.cells (g := g3) rfl 0 (.int .i64 ((n : Int) + far)) rfl; rwa [addr_add] at h); obtain ⟨f3, l3, _, _⟩ := own_fr hA.1; have f30 := f3 0; clear hA f3)
                  | fail)
                all_goals
                  go_meet
                  first
                  | exact ⟨⟨g3, 0, none⟩, 1 + n2, c3, ((n : Int) + far) :: l, 3, rfl, rfl, rfl, Lib.hid ⟨app2 HB2.out.1 HB2.out.2.1 HA.out, by rw [List.length_cons, HB2.out.2.1]; omega, by omega, .inr (far_all (.inr (by omega))), HFA.out nx' hq1 hq2 _ (.inr (by omega)) l⟩⟩
                  | exact ⟨⟨g3, 0, none⟩, 1 + n2, c3, (-1 - far) :: l, 3, rfl, rfl, rfl, Lib.hid ⟨set0 (app2 HB2.out.1 HB2.out.2.1 HA.out) (by rw [List.length_cons, HB2.out.2.1]; omega), by rw [List.length_cons, HB2.out.2.1]; omega, by omega, .inr (far_all (.inl (by omega))), HFA.out nx' hq1 hq2 _ (.inl (by omega)) l⟩⟩
            case rest =>
              clear HB2 HO2 HFA hl12 hc2a hc2b
              obtain ⟨a2, n2, c2, l, w1', rfl, rfl, rfl, HB4⟩ := hcut
              obtain ⟨wd, hwd⟩ : ∃ y, y = wc := ⟨_, rfl⟩
              rw [← hwd] at HB4 ⊢
              clear hwd
              go_upto_region 21 with fail
              go_cut [83] (fun t83 wx => ∃ bb : Bool, t83 = .bool bb ∧ wd = wx)
              case first => as_aux_lemma =>
                go_wp2_with fail
                go_meet
                exact ⟨_, rfl, rfl⟩
              case rest =>
                obtain ⟨bb4, hb83, rfl⟩ := hcut
                have HB83 := Lib.hid hb83
                clear hb83
                go_upto_region 24 with fail
                go_cut [15, 16] (fun t15 t16 wx => ∃ p w2' : Int, t15 = .int .i64 p ∧ t16 = .int .i64 w2' ∧ wd = wx ∧ Hid (vCode X (cfgM n) l nx' (polB26 p) = w2'))
                case first => as_aux_lemma =>
                  have hb83 := HB83.out
                  subst hb83
                  cases bb4 with
                  | false =>
                    go_wp2_with fail
                    go_meet
                    exact ⟨1, w1', rfl, rfl, rfl, Lib.hid ((code_true (.inl rfl)).trans HB4.out.2.2.2.2)⟩
                  | true =>
                    go_wp2_with (go_at_call 24; refine (Policy26 far hf0 hf1 _).mono ?_; rintro e w6 ⟨rfl, rfl⟩)
                    go_meet
                    exact ⟨badP far, 2, rfl, rfl, rfl, Lib.hid (code_pol (badP_no hf0))⟩
                case rest =>
                  obtain ⟨p, w2', rfl, rfl, rfl, HB8⟩ := hcut
                  go_upto_region 24 with fail
                  go_cut [88] (fun t88 wx => ∃ bb : Bool, t88 = .bool bb ∧ wd = wx)
                  case first => as_aux_lemma =>
                    go_wp2_with fail
                    go_meet
                    exact ⟨_, rfl, rfl⟩
                  case rest =>
                    obtain ⟨bb5, hb88, rfl⟩ := hcut
                    have HB88 := Lib.hid hb88
                    clear hb88
                    go_upto_region 34 with fail
                    go_cut [12, 16, 17] (fun t12 t16 t17 wx => ∃ (c : Cfg) (nx2 wp wq : Int), t12 = .int .i64 nx2 ∧ t16 = .int .i64 wq ∧ t17 = .int .i64 wp ∧ Hid (SW w (rfL b6 c (.slice (some a2) n2 c2) l b rb mb n v1 v2 S ⟨X, all, nx⟩) wx ∧ c.Bd ∧ vCode X c l nx2 true = wp ∧ vCode X c l nx2 (polB26 p) = wq))
                    case first => as_aux_lemma =>
                      have hb88 := HB88.out
                      subst hb88
                      cases bb5 with
                      | false =>
                        go_wp2_with fail
                        go_meet
                        exact ⟨cfgM n, nx', w1', w2', rfl, rfl, rfl, Lib.hid ⟨HB4.out.1, cfgM_bd h11, HB4.out.2.2.2.2, HB8.out⟩⟩
                      | true =>
                        obtain ⟨q6, f6⟩ := cellsOf (show wd.heap[b6]? = _ from HB4.out.1.get (i := 0) rfl)
                        (try simp only [cfgO, cfgM] at q6)
                        have l6 := blkLt (show wd.heap[b6]? = _ from HB4.out.1.get (i := 0) rfl)
                        have HE0 : Hid (SW w (rfL b6 ⟨(n : Int) + 1, 8192, 2, 65536, 8, 60, 1⟩ (.slice (some a2) n2 c2) l b rb mb n v1 v2 S ⟨X, all, nx⟩) (wd.setCell ⟨b6, 0, none⟩ (.int .i64 ((n : Int) + 1)))) := Lib.hid (HB4.out.1.put (o' := cfgO ⟨(n : Int) + 1, 8192, 2, 65536, 8, 60, 1⟩) ((Mdh.refl (fun k => k = b6) wd).setCell (p := ⟨b6, 0, none⟩) rfl _) (blkSet (j := 0) (u := .int .i64 ((n : Int) + 1)) (show wd.heap[b6]? = _ from HB4.out.1.get (i := 0) rfl)))
                        have HE1 : Hid (SW w (rfL b6 ⟨(n : Int), 8192, 1 - far, 65536, 8, 60, 1⟩ (.slice (some a2) n2 c2) l b rb mb n v1 v2 S ⟨X, all, nx⟩) (wd.setCell ⟨b6, 2, none⟩ (.int .i64 (1 - far)))) := Lib.hid (HB4.out.1.put (o' := cfgO ⟨(n : Int), 8192, 1 - far, 65536, 8, 60, 1⟩) ((Mdh.refl (fun k => k = b6) wd).setCell (p := ⟨b6, 2, none⟩) rfl _) (blkSet (j := 2) (u := .int .i64 (1 - far)) (show wd.heap[b6]? = _ from HB4.out.1.get (i := 0) rfl)))
                        have hb0 : Cfg.Bd ⟨(n : Int) + 1, 8192, 2, 65536, 8, 60, 1⟩ := by
                          constructor
                          all_goals first | (simp only; omega) | simp
                        have hb1 : Cfg.Bd ⟨(n : Int), 8192, 1 - far, 65536, 8, 60, 1⟩ := by
                          constructor
                          all_goals first | (simp only; omega) | simp
                        have hc0 : ∀ good, vCode X ⟨(n : Int) + 1, 8192, 2, 65536, 8, 60, 1⟩ l nx' good = 2 := fun good => code_cfg (.inr (.inl (by rw [HSL.out]; show (n : Int) + 1 ≠ n; omega)))
                        have hc1 : ∀ good, vCode X ⟨(n : Int), 8192, 1 - far, 65536, 8, 60, 1⟩ l nx' good = 2 := fun good => code_cfg (.inl (cfg_res (by show 1 - far < 2; omega)))
                        have HC0 := Lib.hid (And.intro hb0 hc0)
                        have HC1 := Lib.hid (And.intro hb1 hc1)
                        clear hb0 hb1 hc0 hc1
                        go_wp2_with fail
                        all_goals
                          go_meet
                          first
                          | exact ⟨_, nx', 2, 2, rfl, rfl, rfl, Lib.hid ⟨HE0.out, HC0.out.1, HC0.out.2 _, HC0.out.2 _⟩⟩
                          | exact ⟨_, nx', 2, 2, rfl, rfl, rfl, Lib.hid ⟨HE1.out, HC1.out.1, HC1.out.2 _, HC1.out.2 _⟩⟩
                          | exact ⟨cfgM n, _, 2, 2, rfl, rfl, rfl, Lib.hid ⟨HB4.out.1, cfgM_bd h11, code_cfg (.inr (.inr (.inl (by omega)))), code_cfg (.inr (.inr (.inl (by omega))))⟩⟩
                          | exact ⟨cfgM n, _, 2, 2, rfl, rfl, rfl, Lib.hid ⟨HB4.out.1, cfgM_bd h11, code_cfg (.inr (.inr (.inr (by omega)))), code_cfg (.inr (.inr (.inr (by omega))))⟩⟩
                    case rest =>
                      obtain ⟨c, nx2, wp, wq, rfl, rfl, rfl, HF⟩ := hcut
                      have hl13 := HB4.out.2.2.1
                      have HLN := Lib.hid HB4.out.2.1
                      have HBG := Lib.hid HB4.out.2.2.2.1
                      clear HB4 HB8 HB88 HB83 HB66 HB53 HB44 hq1 hq2
                      obtain ⟨wf, hwf⟩ : ∃ y, y = wc := ⟨_, rfl⟩
                      rw [← hwf] at HF ⊢
                      clear hwf
                      have HX := Lib.hid (fun W (g : Gr wf W) => (show IXR W b X S from (HF.out.1.gr g).get (i := 2) rfl))
                      obtain ⟨hln, hca, hcb, hnum⟩ := numAt_own2 (show Own wf 3 1 (.slice (some a2) n2 c2) l.length (kN l) from HF.out.1.get (i := 1) rfl)
                      have HNU := Lib.hid hnum
                      clear hnum hln
                      have hcb2 := hcb
                      unfold maxLen at hcb2
                      have HW := Lib.hid HF.out.2.2.1
                      have HWQ := Lib.hid HF.out.2.2.2
                      have HSD := Lib.hid (fun W (g : Gr wf W) => VSides_any (.inl ⟨b, rfl, HX.out W g⟩) HNE.out c HF.out.2.1 (some a2) n2 c2 l HLN.out hca hcb (by omega) (HNU.out.gr g) nx2)
                      have HCH := Lib.hid (fun W (g : Gr wf W) => VChoose_any (.inl ⟨b, rfl, HX.out W g⟩) HNE.out c HF.out.2.1 (some a2) n2 c2 l HLN.out hca hcb (by omega) (HNU.out.gr g) p nx2)
                      have HOD := Lib.hid (fun W (g : Gr wf W) => VOrder_any (.inl ⟨b, rfl, HX.out W g⟩) HNE.out c HF.out.2.1 (some a2) n2 c2 l HLN.out hca hcb (by omega) (HNU.out.gr g) p nx2 (HBG.out.elim .inl (fun h => .inr (by rw [HSL.out]; exact vchk_all h))))
                      obtain ⟨a1, c1v, hv1, _, hm1, _⟩ := ownE_at (show Own wf 72 6 v1 all.length (rowE all) from HF.out.1.get (i := 4) rfl)
                      subst hv1
                      have HLX := Lib.hid (fun W (g : Gr wf W) => Len_any (.inl ⟨b, rfl, HX.out W g⟩))
                      rw [HEL.out] at HLX
                      have HRX := Lib.hid (fun W (g : Gr wf W) => rLen26 (show W.heap[rb]? = some (rmO n (.slice a1 all.length c1v)) from (HF.out.1.gr g).get (i := 3) rfl) (by omega))
                      have HFN := Lib.hid (fun (h : wp ≠ 0) => code_none (X := X) (c := c) (l := l) (next := nx2) (good := true) (by rw [HW.out]; exact h))
                      have HFS := Lib.hid HF.out.1
                      clear HF HX HNU HLN HBG HSL HEL
                      obtain ⟨k0, k1, k2, k3, k4, k5, k6⟩ := c
                      (try simp only [cfgV] at HSD HCH HOD)
                      (try simp only at HW HWQ HFN)
                      have dm := (cellsOf (show wf.heap[mb]? = _ from HFS.out.get (i := 5) rfl)).1
                      have dm0 := (dm 0).trans (show _ = some (Value.pointer (some ⟨b, 0, none⟩)) from rfl)
                      have d6 := (cellsOf (show wf.heap[b6]? = _ from HFS.out.get (i := 0) rfl)).1
                      (try simp only [cfgO] at d6)
                      clear dm
                      go_wp2_with fail
                      refine wp_region_flo (fun _ => False) [] [] (by kernel_rfl) (by kernel_rfl) (fun _ h => h.elim) ?_
                      refine flo_seg 7 rfl ?_
                      simp only [List.take_succ_cons, List.take_zero, List.drop_succ_cons, List.drop_zero]
                      repeat (go_big_quiet_step (fail))
                      refine wpQuiet_nil ?_
                      refine flo_eff rfl rfl rfl rfl (fun K hK => ?_)
                      go_wp2_with ((go_at_call 13; refine Calls.mono (HSD.out _ (Gr.refl wf).drew) ?_; rintro e w3 ⟨vs, rfl, hns, hg⟩; rw [HW.out]; have HNS := Lib.hid hns; have HGD := Lib.hid hg; clear hns hg))
                      refine ⟨by exact HGD.out.mdh _, ?_⟩
                      refine flo_seg 5 rfl ?_
                      simp only [List.take_succ_cons, List.take_zero, List.drop_succ_cons, List.drop_zero]
                      repeat (go_big_quiet_step (fail))
                      refine wpQuiet_nil ?_
                      refine flo_nil ?_
                      obtain ⟨as3, cs3, hvs, _, _, _⟩ := SdIn.ofOwn HNS.out.own rfl
                      subst hvs
                      obtain ⟨ls, hls⟩ : ∃ ls, ls = (vSides X ⟨k0, k1, k2, k3, k4, k5, k6⟩ l nx2 true).length := ⟨_, rfl⟩
                      have HLS : Hid (wp ≠ 0 → ls = 0) := Lib.hid (fun h => by rw [hls, HFN.out h]; rfl)
                      rw [← hls]
                      clear hls HNS HFN
                      have HG3 := Lib.hid ((Gr.refl wf).drew.trans HGD.out)
                      clear dm0 d6 HGD
                      have H3f := Lib.hid (HFS.out.gr HG3.out)
                      have dm0 := ((cellsOf (show w3.heap[mb]? = _ from H3f.out.get (i := 5) rfl)).1 0).trans (show _ = some (Value.pointer (some ⟨b, 0, none⟩)) from rfl)
                      have d6 := (cellsOf (show w3.heap[b6]? = _ from H3f.out.get (i := 0) rfl)).1
                      (try simp only [cfgO] at d6)
                      go_wp2_with fail
                      refine wp_region_flo (fun _ => False) [] [] (by kernel_rfl) (by kernel_rfl) (fun _ h => h.elim) ?_
                      refine flo_seg 8 rfl ?_
                      simp only [List.take_succ_cons, List.take_zero, List.drop_succ_cons, List.drop_zero]
                      repeat (go_big_quiet_step (fail))
                      refine wpQuiet_nil ?_
                      refine flo_eff rfl rfl rfl rfl (fun K hK => ?_)
                      go_wp2_with ((go_at_call 15; refine Calls.mono (HCH.out _ (HG3.out.trans (Gr.refl w3).drew)) ?_; rintro e w4 ⟨x, is, rfl, _, hz, hg⟩; rw [HWQ.out] at hz ⊢; have HZ := Lib.hid hz; have HGD := Lib.hid hg; clear hz hg))
                      refine ⟨by exact HGD.out.mdh _, ?_⟩
                      refine flo_seg 7 rfl ?_
                      simp only [List.take_succ_cons, List.take_zero, List.drop_succ_cons, List.drop_zero]
                      repeat (go_big_quiet_step (fail))
                      refine wpQuiet_nil ?_
                      refine flo_nil ?_
                      have HG4 := Lib.hid (HG3.out.trans ((Gr.refl w3).drew.trans HGD.out))
                      clear dm0 d6 HGD H3f
                      have H4f := Lib.hid (HFS.out.gr HG4.out)
                      have dm0 := ((cellsOf (show w4.heap[mb]? = _ from H4f.out.get (i := 5) rfl)).1 0).trans (show _ = some (Value.pointer (some ⟨b, 0, none⟩)) from rfl)
                      have d6 := (cellsOf (show w4.heap[b6]? = _ from H4f.out.get (i := 0) rfl)).1
                      (try simp only [cfgO] at d6)
                      go_wp2_with fail
                      refine wp_region_flo (fun _ => False) [] [] (by kernel_rfl) (by kernel_rfl) (fun _ h => h.elim) ?_
                      refine flo_seg 8 rfl ?_
                      simp only [List.take_succ_cons, List.take_zero, List.drop_succ_cons, List.drop_zero]
                      repeat (go_big_quiet_step (fail))
                      refine wpQuiet_nil ?_
                      refine flo_eff rfl rfl rfl rfl (fun K hK => ?_)
                      go_wp2_with ((go_at_call 17; refine Calls.mono (HOD.out _ (HG4.out.trans (Gr.refl w4).drew)) ?_; rintro e w5 ⟨vo, M, rfl, _, hz, hno, hg⟩; rw [HWQ.out] at hz ⊢; have HZM := Lib.hid hz; have HNO := Lib.hid hno; have HGD := Lib.hid hg; clear hz hno hg))
                      refine ⟨by exact HGD.out.mdh _, ?_⟩
                      refine flo_seg 5 rfl ?_
                      simp only [List.take_succ_cons, List.take_zero, List.drop_succ_cons, List.drop_zero]
                      repeat (go_big_quiet_step (fail))
                      refine wpQuiet_nil ?_
                      refine flo_nil ?_
                      obtain ⟨ao, co, hvo, _, _, _⟩ := numAt_own (l := M.map (·.1)) (by rw [List.length_map]; exact HNO.out.own)
                      rw [List.length_map] at hvo
                      subst hvo
                      have HG5 := Lib.hid (HG4.out.trans ((Gr.refl w4).drew.trans HGD.out))
                      have HGW := Lib.hid (HFS.out.g.trans HG5.out)
                      clear dm0 d6 HGD H4f HNO HSD HCH HOD HW HWQ
                      have H5f := Lib.hid (HFS.out.gr HG5.out)
                      have dm := (cellsOf (show w5.heap[mb]? = _ from H5f.out.get (i := 5) rfl)).1
                      have dm0 := (dm 0).trans (show _ = some (Value.pointer (some ⟨b, 0, none⟩)) from rfl)
                      have dm1 := (dm 1).trans (show _ = some (Value.pointer (some ⟨rb, 0, none⟩)) from rfl)
                      clear dm H5f
                      have HM : Hid (wq ≠ 0 → x.1 = 0 ∧ is = false ∧ M.length = 0) := Lib.hid (fun h => ⟨by rw [(HZ.out h).1]; rfl, (HZ.out h).2, by rw [HZM.out h]; rfl⟩)
                      clear HZ HZM
                      generalize x.1 = xx at *
                      generalize M.length = ml at *
                      by_cases hwp : wp = 0
                      all_goals by_cases hwq : wq = 0
                      all_goals
                        first
                        | (have hl0 := HLS.out hwp; subst hl0; have hpb : (wp != 0) = true := by simp [hwp])
                        | subst hwp
                      all_goals
                        first
                        | (have hm0 := HM.out hwq; obtain ⟨e1, e2, e3⟩ := hm0; subst e1; subst e2; subst e3; have hqb : (wq != 0) = true := by simp [hwq])
                        | subst hwq
                      all_goals
                        clear HLS HM
                        go_wp2_with fail
                        refine wp_region_flo (fun _ => False) [] [] (by kernel_rfl) (by kernel_rfl) (fun _ h => h.elim) ?_
                        refine flo_seg 4 rfl ?_
                        simp only [List.take_succ_cons, List.take_zero, List.drop_succ_cons, List.drop_zero]
                        repeat (go_big_quiet_step (fail))
                        refine wpQuiet_nil ?_
                        refine flo_eff rfl rfl rfl rfl (fun K hK => ?_)
                        go_wp2_with ((go_at_call 20; refine Calls.mono (HLX.out _ (HG5.out.trans (Gr.refl w5).drew)) ?_; rintro e w6 ⟨rfl, rfl⟩))
                        refine ⟨by exact (Gr.refl _).mdh _, ?_⟩
                        refine flo_seg 4 rfl ?_
                        simp only [List.take_succ_cons, List.take_zero, List.drop_succ_cons, List.drop_zero]
                        repeat (go_big_quiet_step (fail))
                        refine wpQuiet_nil ?_
                        refine flo_eff rfl rfl rfl rfl (fun K hK => ?_)
                        go_wp2_with ((go_at_call 21; refine Calls.mono (HRX.out _ (HG5.out.trans (Gr.refl w5).drew)) ?_; rintro e w6 ⟨rfl, rfl⟩))
                        refine ⟨by exact (Gr.refl _).mdh _, ?_⟩
                        refine flo_seg 2 rfl ?_
                        simp only [List.take_succ_cons, List.take_zero, List.drop_succ_cons, List.drop_zero]
                        repeat (go_big_quiet_step (fail))
                        refine wpQuiet_nil ?_
                        refine flo_eff rfl rfl rfl rfl (fun K hK => ?_)
                        go_wp2_with ((go_at_call 10; refine (v_works _).mono ?_; rintro e w7 ⟨rfl, hg⟩; have HG7 := Lib.hid hg; clear hg))
                        refine ⟨by exact HG7.out.mdh _, ?_⟩
                        refine flo_seg 2 rfl ?_
                        simp only [List.take_succ_cons, List.take_zero, List.drop_succ_cons, List.drop_zero]
                        repeat (go_big_quiet_step (fail))
                        refine wpQuiet_nil ?_
                        refine flo_nil ?_
                        have HGE := Lib.hid (HGW.out.trans ((Gr.refl w5).drew.trans HG7.out))
                        go_wp2_with fail
                        go_ret
                        exact ⟨rfl, HGE.out⟩
end Go.Proofs.YtanmmnomagfkhaaGreat
