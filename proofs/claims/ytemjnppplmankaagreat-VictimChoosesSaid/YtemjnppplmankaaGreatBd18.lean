/- victim.Choose and Order. -/
import Derived.Test.YtemjnppplmankaaGreatBd17
import Derived.Test.YtemjnppplmankaaGreatBd7
import Derived.Test.YtemjnppplmankaaGreatBd15
set_option linter.unusedVariables false
set_option linter.unusedSimpArgs false
namespace Go.Proofs.YtemjnppplmankaaGreat
open Go.RowKit Go.Shelf
attribute [local go_sem] OvM cell_ovm obj_ovm
attribute [local go_sem] Oper.semAt_some

theorem cfg_room {c : Cfg} (h : cfgOk c = true) : inB (c.size - 16) 1 8192 = true := by
  unfold cfgOk spans at h
  simp only [List.all_cons, spanB, Bool.and_eq_true, decide_eq_true_eq] at h
  simp only [inB, Bool.and_eq_true, decide_eq_true_eq]
  omega
theorem pol26 {p : Int} (h : polB26 p = true) : p = 1 ∨ p = 2 := by
  unfold polB26 at h
  simpa using h
theorem vcode_ok {X : IX} {c : Cfg} {l : List Int} {next : Int} {good : Bool} (h0 : vchkC X.slots.length c l next good = 0) (h1 : sidesC X next (c.size - 16) l = 0) : (∀ x ∈ sidesL X next l, chkS (c.size - 16) x = true) ∧ l.Nodup ∧ inB (c.size - 16) 1 8192 = true ∧ good = true ∧ sidesK X next (c.size - 16) l = sidesL X next l := by
  obtain ⟨a1, a2, a3⟩ := vchk_ok h0
  have a4 := argC_ok a1
  by_cases h : (sidesL X next l).all (chkS (c.size - 16)) = true
  · exact ⟨List.all_eq_true.1 h, a3, cfg_room a4.1, a4.2.1, if_pos h⟩
  · unfold sidesC at h1
    rw [if_neg h] at h1
    cases h1
def ChP (X : IX) (c : Cfg) (l : List Int) (policy next : Int) (w : World) (e : Ending) (w' : World) : Prop :=
  ∃ (x : Sd) (is : Bool), e = .returned (.tuple #[.int .i64 x.1, .bool is, .int .i64 (vCode X c l next (polB26 policy))]) ∧ (vCode X c l next (polB26 policy) = 0 → bestA policy (c.size - 16) (sidesL X next l) = bestV x is 0) ∧ (vCode X c l next (polB26 policy) ≠ 0 → x = zSd ∧ is = false) ∧ Gr w w'
theorem best_code {policy room : Int} (hp : policy = 1 ∨ policy = 2) (hr : inB room 1 8192 = true) {S : List Sd} (hc : ∀ x ∈ S, chkS room x = true) (hd : (S.map (·.1)).Nodup) : ∃ x is, bestA policy room S = bestV x is 0 := by
  by_cases h : S.length = 0
  · rw [List.eq_nil_of_length_eq_zero h]
    exact ⟨_, _, best_empty hp hr⟩
  · obtain ⟨B, h1, _⟩ := best_good hp hr hc hd h
    exact ⟨B, true, h1⟩
set_option maxRecDepth 40000 in
set_option maxHeartbeats 4000000 in
theorem VChoose_any {w : World} {p : Option Addr} {X : IX} {S : Nat → Prop} (h : IXP w p X S) (hne : X.slots ≠ []) (c : Cfg) (a : Option Addr) (len cap : Nat) (l : List Int) (hl : l.length = len) (hle : len ≤ cap) (hcap : cap ≤ maxLen) (h100 : len ≤ 100) (hs : NumAt w a l) (policy next : Int) :
    Calls Tryz.prog 9 #[.pointer p, cfgV c, .slice a len cap, .int .i64 policy, .int .i64 next] w (ChP X c l policy next w) := by
  have HCK := Lib.hid (fun (w1 : World) (g : Gr w w1) => Vcheck_any (h.gr g) hne c a len cap l hl hle hcap (hs.gr g) next (polB26 policy))
  have HSD : Hid (vchkC X.slots.length c l next (polB26 policy) = 0 → ∀ w1, Gr w w1 → Calls Tryz.prog 22 #[.pointer p, .int .i64 (c.size - 16), .slice a len cap, .int .i64 next] w1 (SidesPost X next (c.size - 16) l w1)) := Lib.hid (fun h0 w1 g => by
    obtain ⟨h1, h2, h3⟩ := vchk_ok h0
    have h4 := argC_ok h1
    exact Vsides_any (h.gr g) _ next h4.2.2.2.1 h4.2.2.2.2 a len cap l hl hle hcap (by omega) (hs.gr g) (has_okS h2) hne)
  have HP1 : Hid (vchkC X.slots.length c l next (polB26 policy) = 0 → sidesC X next (c.size - 16) l = 0 → ∃ (x : Sd) (is : Bool), bestA policy (c.size - 16) (sidesL X next l) = bestV x is 0 ∧ ∀ w', Gr w w' → ChP X c l policy next w (.returned (.tuple #[.int .i64 x.1, .bool is, .int .i64 0])) w') := Lib.hid (fun h0 h1 => by
    obtain ⟨b1, b2, b3, b4, b5⟩ := vcode_ok h0 h1
    obtain ⟨x, is, hb⟩ := best_code (pol26 b4) b3 b1 (by rw [sidesL_slots]; exact b2)
    have hv : vCode X c l next (polB26 policy) = 0 := by unfold vCode; rw [if_pos h0]; exact h1
    exact ⟨x, is, hb, fun w' g => ⟨x, is, by rw [hv], fun _ => hb, fun h => absurd hv h, g⟩⟩)
  have HP2 : Hid (∀ k, (vchkC X.slots.length c l next (polB26 policy) = 0 → k = sidesC X next (c.size - 16) l) → (vchkC X.slots.length c l next (polB26 policy) ≠ 0 → k = vchkC X.slots.length c l next (polB26 policy)) → k ≠ 0 → ∀ w', Gr w w' → ChP X c l policy next w (.returned (.tuple #[.int .i64 0, .bool false, .int .i64 k])) w') := Lib.hid (fun k h0 h1 hk w' g => by
    have hv : vCode X c l next (polB26 policy) = k := by
      unfold vCode
      by_cases h2 : vchkC X.slots.length c l next (polB26 policy) = 0
      · rw [if_pos h2, h0 h2]
      · rw [if_neg h2, h1 h2]
    exact ⟨zSd, false, by rw [hv]; rfl, fun h => absurd (hv.symm.trans h) hk, fun _ => ⟨rfl, rfl⟩, g⟩)
  have HSP : Hid (∀ w1 e w', SidesPost X next (c.size - 16) l w1 e w' → ∃ v, e = .returned (.tuple #[v, .int .i64 (sidesC X next (c.size - 16) l)]) ∧ Gr w1 w' ∧ (vchkC X.slots.length c l next (polB26 policy) = 0 → sidesC X next (c.size - 16) l = 0 → Own w' 44 3 v len (rowS (sidesL X next l)))) := Lib.hid (fun w1 e w' ⟨v, e1, h1, h2⟩ => ⟨v, e1, h2, fun a1 a2 => by
    have e := (vcode_ok a1 a2).2.2.2.2
    have h3 := h1.own
    rw [e, sidesL_len, hl] at h3
    exact h3⟩)
  have HLS : Hid ((sidesL X next l).length = len) := Lib.hid (by rw [sidesL_len]; exact hl)
  generalize ChP X c l policy next w = Q at *
  obtain ⟨cd, hcd⟩ : ∃ cd, cd = vchkC X.slots.length c l next (polB26 policy) := ⟨_, rfl⟩
  rw [← hcd] at HCK HSD HP1 HP2 HSP
  obtain ⟨ks, hks⟩ : ∃ ks, ks = sidesC X next (c.size - 16) l := ⟨_, rfl⟩
  rw [← hks] at HP1 HP2 HSP
  clear hcd h hs hl hks
  obtain ⟨c0, c1, c2, c3, c4, c5, c6⟩ := c
  simp only [cfgV] at HCK ⊢
  simp only at HSD HP1 HCK HSP
  unfold maxLen at hcap
  have HKN := Lib.hid (fun w1 => known_any policy w1)
  generalize polB26 policy = good at *
  obtain ⟨b0, hb0⟩ : ∃ q, q = w.heap.size := ⟨_, rfl⟩
  obtain ⟨w0, hw0⟩ : ∃ y, y = w.alloc (cfgO ⟨c0, c1, c2, c3, c4, c5, c6⟩) := ⟨_, rfl⟩
  have H0 : Hid (SW w [blkA b0 (cfgO ⟨c0, c1, c2, c3, c4, c5, c6⟩)] w0) := Lib.hid (by rw [hw0, hb0]; exact (SW.start w).alloc _)
  (try simp only [cfgO] at hw0)
  have d0 := (cellsOf (show w0.heap[b0]? = _ from H0.out.get (i := 0) rfl)).1
  (try simp only [cfgO] at d0)
  have HCK0 := Lib.hid (HCK.out w0.drew (H0.out.g.trans (Gr.refl w0).drew))
  clear HCK
  go_enter Tryz.func9, Tryz.ntmps9
  go_upto_region 1 with fail
  rw [← hw0, ← hb0]
  clear hw0 hb0
  by_cases h0 : cd = 0
  · subst h0
    rw [if_pos rfl] at HCK0
    refine wp_region_flo (fun _ => False) [] [] (by kernel_rfl) (by kernel_rfl) (fun _ h => h.elim) ?_
    refine flo_seg 5 rfl ?_
    simp only [List.take_succ_cons, List.take_zero, List.drop_succ_cons, List.drop_zero]
    repeat (go_big_quiet_step (fail))
    refine wpQuiet_nil ?_
    refine flo_eff rfl rfl rfl rfl (fun K hK => ?_)
    go_wp2_with ((go_at_call 28; refine Calls.mono (HKN.out _) ?_; rintro e w1 ⟨rfl, rfl⟩))
    refine ⟨by exact (Gr.refl _).mdh _, ?_⟩
    refine flo_eff rfl rfl rfl rfl (fun K hK => ?_)
    go_wp2_with ((go_at_call 21; refine Calls.mono HCK0.out ?_; rintro e w1 ⟨rfl, hg⟩; have HG1 := Lib.hid (H0.out.g.trans ((Gr.refl w0).drew.trans hg)); have HG0 := Lib.hid hg; clear hg))
    refine ⟨by exact HG0.out.mdh _, ?_⟩
    refine flo_seg 5 rfl ?_
    simp only [List.take_succ_cons, List.take_zero, List.drop_succ_cons, List.drop_zero]
    repeat (go_big_quiet_step (fail))
    refine wpQuiet_nil ?_
    refine flo_nil ?_
    by_cases hk : ks = 0
    · obtain ⟨x, is, hb, hq⟩ := HP1.out (by trivial) hk
      have HE := Lib.hid hq
      have HBA := Lib.hid (fun (W : World) (v : Value) (ho : Own W 44 3 v len (rowS (sidesL X next l))) => BestAny policy (c1 - 16) v len (sidesL X next l) HLS.out (by omega) W ho)
      (try simp only at hb)
      rw [hb] at HBA
      obtain ⟨x1, x2, x3⟩ := x
      simp only [bestV] at HBA
      (try simp only at HE)
      clear hq hb
      subst hk
      go_wp2_with (first
        | (go_at_call 22; refine Calls.mono (HSD.out (by trivial) _ HG1.out) ?_; intro e w2 hq; obtain ⟨v, rfl, hg2, hown⟩ := HSP.out _ _ _ hq; have HG2 := Lib.hid (HG1.out.trans hg2); have HOW := Lib.hid (hown (by trivial) (by trivial)); clear hq hg2 hown)
        | (go_at_call 29; refine Calls.mono (HBA.out _ _ HOW.out) ?_; rintro e w3 ⟨rfl, hg3⟩; have HG3 := Lib.hid (HG2.out.trans hg3); clear hg3))
      exact bodyPost_ret (v := .tuple #[.int .i64 x1, .bool is, .int .i64 0]) (by simp [results, Tryz.results9, go_sem]) rfl (HE.out _ (HG3.out.alloc _))
    · have hk' : (ks != 0) = true := by simp [hk]
      have HE := Lib.hid (fun w' g => HP2.out ks (fun _ => rfl) (fun h => absurd rfl h) hk w' g)
      go_wp2_with (go_at_call 22; refine Calls.mono (HSD.out (by trivial) _ HG1.out) ?_; intro e w2 hq; obtain ⟨v, rfl, hg2, hown⟩ := HSP.out _ _ _ hq; have HG2 := Lib.hid (HG1.out.trans hg2); clear hq hg2 hown)
      exact bodyPost_ret (v := .tuple #[.int .i64 0, .bool false, .int .i64 ks]) (by simp [results, Tryz.results9, go_sem]) rfl (HE.out _ HG2.out)
  · have h0' : (cd != 0) = true := by simp [h0]
    rw [if_neg h0] at HCK0
    have HE := Lib.hid (fun w' g => HP2.out cd (fun h => absurd h h0) (fun _ => rfl) h0 w' g)
    refine wp_region_flo (fun _ => False) [] [] (by kernel_rfl) (by kernel_rfl) (fun _ h => h.elim) ?_
    refine flo_seg 5 rfl ?_
    simp only [List.take_succ_cons, List.take_zero, List.drop_succ_cons, List.drop_zero]
    repeat (go_big_quiet_step (fail))
    refine wpQuiet_nil ?_
    refine flo_eff rfl rfl rfl rfl (fun K hK => ?_)
    go_wp2_with ((go_at_call 28; refine Calls.mono (HKN.out _) ?_; rintro e w1 ⟨rfl, rfl⟩))
    refine ⟨by exact (Gr.refl _).mdh _, ?_⟩
    refine flo_eff rfl rfl rfl rfl (fun K hK => ?_)
    go_wp2_with ((go_at_call 21; refine Calls.mono HCK0.out ?_; rintro e w1 ⟨rfl, hg⟩; have HG1 := Lib.hid (H0.out.g.trans ((Gr.refl w0).drew.trans hg)); have HG0 := Lib.hid hg; clear hg))
    refine ⟨by exact HG0.out.mdh _, ?_⟩
    refine flo_seg 5 rfl ?_
    simp only [List.take_succ_cons, List.take_zero, List.drop_succ_cons, List.drop_zero]
    repeat (go_big_quiet_step (fail))
    refine wpQuiet_nil ?_
    refine flo_nil ?_
    go_wp2_with fail
    exact bodyPost_ret (v := .tuple #[.int .i64 0, .bool false, .int .i64 cd]) (by simp [results, Tryz.results9, go_sem]) rfl (HE.out _ HG1.out)
end Go.Proofs.YtemjnppplmankaaGreat

/- A choice of things that lie side by side, in any order. No program in sight. -/
set_option linter.unusedVariables false
set_option linter.unusedSimpArgs false
namespace Go.Proofs.YtemjnppplmankaaGreat
open Go.RowKit
theorem SW.sel {w0 w : World} {R R' : List Asn} (h : SW w0 R w) (is : List Nat) (hd : is.Nodup) (he : is.map (fun i => R[i]?) = R'.map some) : SW w0 R' w := by
  have hm : ∀ A ∈ R', A ∈ R := fun A hA => by
    have h1 : some A ∈ R'.map some := List.mem_map.2 ⟨A, hA, rfl⟩
    rw [← he] at h1
    obtain ⟨i, _, h2⟩ := List.mem_map.1 h1
    exact List.mem_of_getElem? h2
  have hp : (R'.map some).Pairwise (fun a b => ∀ A B, a = some A → b = some B → Dis A B) := by
    rw [← he]
    exact List.pairwise_map.2 (hd.imp (fun {i j} hij A B ha hb => h.get_ne ha hb hij))
  exact ⟨h.g, ⟨fun A hA => h.s.1 A (hm A hA), (List.pairwise_map.1 hp).imp (fun {A B} hab => hab A B rfl rfl)⟩, fun A hA => h.n A (hm A hA)⟩
/-- What a callee has laid beside what the caller held. -/
theorem SW.both {w w0 w1 : World} {R R2 : List Asn} (h : SW w R w0) (h2 : SW w0 R2 w1) : SW w (R2 ++ R) w1 := by
  have hr := h.s.gr h2.g
  refine ⟨h.g.trans h2.g, ⟨fun A hA => (List.mem_append.1 hA).elim (h2.s.1 A) (hr.1 A), List.pairwise_append.2 ⟨h2.s.2, h.s.2, fun A hA B hB k ka kb => ?_⟩⟩, fun A hA k hk => (List.mem_append.1 hA).elim (fun e => Nat.le_trans h.g.sz (h2.n A e k hk)) (fun e => h.n A e k hk)⟩
  have h3 := h2.n A hA k ka
  have h4 := h.s.lt hB k kb
  omega
/-- A block that lies apart from all of them. -/
theorem SW.addD {w0 W : World} {R : List Asn} {D : Nat} {o : Obj} (h : SW w0 R W) (hd : W.heap[D]? = some o) (hn : ∀ B ∈ R, ∀ k, B.S k → k ≠ D) (h0 : w0.heap.size ≤ D) : SW w0 (blkA D o :: R) W :=
  ⟨h.g, ⟨fun A hA => (List.mem_cons.1 hA).elim (fun e => by rw [e]; exact hd) (h.s.1 A), List.pairwise_cons.2 ⟨fun B hB k ka kb => hn B hB k kb ka, h.s.2⟩⟩, fun A hA k hk => (List.mem_cons.1 hA).elim (fun e => by rw [e] at hk; rw [show k = D from hk]; exact h0) (fun e => h.n A e k hk)⟩
end Go.Proofs.YtemjnppplmankaaGreat

/- victim.Order. -/
set_option linter.unusedVariables false
set_option linter.unusedSimpArgs false
namespace Go.Proofs.YtemjnppplmankaaGreat
open Go.RowKit Go.Shelf
attribute [local go_sem] OvM cell_ovm obj_ovm
attribute [local go_sem] Oper.semAt_some

def OrP (X : IX) (c : Cfg) (l : List Int) (policy next : Int) (w : World) (e : Ending) (w' : World) : Prop :=
  ∃ (v : Value) (M : List Sd), e = .returned (.tuple #[v, .int .i64 (vCode X c l next (polB26 policy))]) ∧ (vCode X c l next (polB26 policy) = 0 → OrdS policy (c.size - 16) (sidesL X next l) M) ∧ (vCode X c l next (polB26 policy) ≠ 0 → M = []) ∧ Nw w w' 3 1 v M.length (kN (M.map (·.1))) ∧ Gr w w'
theorem sortAny {w0 w : World} {R : List Asn} {f : Sd → Sd → Int} {S : List Sd} {n F : Nat} {lb : Array Value} {v : Value} (T : Tot f S) (hd : (S.map (·.1)).Nodup) (hl : S.length = n) (hn : n ≤ 12) (HC : CmpS F lb f S R) (H : SW w0 (rowA 44 3 v n (rowS S) :: R) w) :
    Calls Tryz.prog 30 #[v, .func (.func F) #[] lb] w fun e w' => (∃ u, e = .returned u) ∧ ∃ M a cap, v = .slice a n cap ∧ cap ≤ maxLen ∧ n ≤ cap ∧ M.Perm S ∧ SrtS f M ∧ Gr w0 w' ∧ SdIn w' a n cap M := by
  have ho : Own w 44 3 v n (rowS S) := H.get (i := 0) rfl
  by_cases h0 : n = 0
  · subst h0
    obtain ⟨a, cap, rfl, hs, h1, h2⟩ := SdIn.ofOwn ho hl
    refine (sort0_any a cap F lb w).mono ?_
    rintro e w' ⟨hu, rfl⟩
    have hS : S = [] := List.eq_nil_of_length_eq_zero hl
    subst hS
    exact ⟨hu, [], a, cap, rfl, h2, h1, List.Perm.refl _, List.Pairwise.nil, H.g, hs⟩
  · obtain ⟨g, cap, rfl, _⟩ := sides_of_row ho hl (by omega)
    refine (sortS_any T hd hl (by omega) hn HC H).mono ?_
    rintro e w' ⟨hu, M, hw, hp, hs⟩
    have ho2 : Own w' 44 3 (.slice (some ⟨g, 0, none⟩) n cap) n (rowS M) := hw.get (i := 0) rfl
    obtain ⟨a', cap', hv, hsd, h1, h2⟩ := SdIn.ofOwn ho2 (hp.length_eq.trans hl)
    injection hv with e1 _ e3
    subst e1
    subst e3
    exact ⟨hu, M, _, _, rfl, h2, h1, hp, hs, hw.g, hsd⟩
theorem infoN : (Tryz.prog.info? 3).map (fun i => (i.zero, i.size, i.bytes)) = some (some (.int .i64 0), 1, 8) := by kernel_rfl
set_option maxRecDepth 40000 in
set_option maxHeartbeats 4000000 in
theorem VOrder_any {w : World} {p : Option Addr} {X : IX} {S : Nat → Prop} (h : IXP w p X S) (hne : X.slots ≠ []) (c : Cfg) (a : Option Addr) (len cap : Nat) (l : List Int) (hl : l.length = len) (hle : len ≤ cap) (hcap : cap ≤ maxLen) (h100 : len ≤ 100) (hs : NumAt w a l) (policy next : Int) (h12 : len ≤ 12 ∨ vchkC X.slots.length c l next (polB26 policy) ≠ 0) :
    Calls Tryz.prog 11 #[.pointer p, cfgV c, .slice a len cap, .int .i64 policy, .int .i64 next] w (OrP X c l policy next w) := by
  have HCK := Lib.hid (fun (w1 : World) (g : Gr w w1) => Vcheck_any (h.gr g) hne c a len cap l hl hle hcap (hs.gr g) next (polB26 policy))
  have HSD : Hid (vchkC X.slots.length c l next (polB26 policy) = 0 → ∀ w1, Gr w w1 → Calls Tryz.prog 22 #[.pointer p, .int .i64 (c.size - 16), .slice a len cap, .int .i64 next] w1 (SidesPost X next (c.size - 16) l w1)) := Lib.hid (fun h0 w1 g => by
    obtain ⟨h1, h2, h3⟩ := vchk_ok h0
    have h4 := argC_ok h1
    exact Vsides_any (h.gr g) _ next h4.2.2.2.1 h4.2.2.2.2 a len cap l hl hle hcap (by omega) (hs.gr g) (has_okS h2) hne)
  have HP1 : Hid (vchkC X.slots.length c l next (polB26 policy) = 0 → sidesC X next (c.size - 16) l = 0 → len ≤ 12 ∧ (policy = 1 ∨ policy = 2) ∧ (∀ x ∈ sidesL X next l, chkS (c.size - 16) x = true) ∧ l.Nodup ∧ ∀ v M w', OrdS policy (c.size - 16) (sidesL X next l) M → Nw w w' 3 1 v M.length (kN (M.map (·.1))) → Gr w w' → OrP X c l policy next w (.returned (.tuple #[v, .int .i64 0])) w') := Lib.hid (fun h0 h1 => by
    obtain ⟨b1, b2, b3, b4, b5⟩ := vcode_ok h0 h1
    have hv : vCode X c l next (polB26 policy) = 0 := by unfold vCode; rw [if_pos h0]; exact h1
    exact ⟨h12.resolve_right (fun h => h h0), pol26 b4, b1, b2, fun v M w' hM hN g => ⟨v, M, by rw [hv], fun _ => hM, fun h => absurd hv h, hN, g⟩⟩)
  have HP2 : Hid (∀ k, (vchkC X.slots.length c l next (polB26 policy) = 0 → k = sidesC X next (c.size - 16) l) → (vchkC X.slots.length c l next (polB26 policy) ≠ 0 → k = vchkC X.slots.length c l next (polB26 policy)) → k ≠ 0 → ∀ w', Gr w w' → OrP X c l policy next w (.returned (.tuple #[.slice none 0 0, .int .i64 k])) w') := Lib.hid (fun k h0 h1 hk w' g => by
    have hv : vCode X c l next (polB26 policy) = k := by
      unfold vCode
      by_cases h2 : vchkC X.slots.length c l next (polB26 policy) = 0
      · rw [if_pos h2, h0 h2]
      · rw [if_neg h2, h1 h2]
    exact ⟨_, [], by rw [hv], fun h => absurd (hv.symm.trans h) hk, fun _ => rfl, Nw.nil2 g, g⟩)
  have HSP : Hid (∀ w1 e w', SidesPost X next (c.size - 16) l w1 e w' → ∃ v, e = .returned (.tuple #[v, .int .i64 (sidesC X next (c.size - 16) l)]) ∧ Gr w1 w' ∧ (vchkC X.slots.length c l next (polB26 policy) = 0 → sidesC X next (c.size - 16) l = 0 → Nw w1 w' 44 3 v len (rowS (sidesL X next l)))) := Lib.hid (fun w1 e w' ⟨v, e1, h1, h2⟩ => ⟨v, e1, h2, fun a1 a2 => by
    have e := (vcode_ok a1 a2).2.2.2.2
    rw [e, sidesL_len, hl] at h1
    exact h1⟩)
  have HLS : Hid ((sidesL X next l).length = len) := Lib.hid (by rw [sidesL_len]; exact hl)
  generalize OrP X c l policy next w = Q at *
  obtain ⟨cd, hcd⟩ : ∃ cd, cd = vchkC X.slots.length c l next (polB26 policy) := ⟨_, rfl⟩
  rw [← hcd] at HCK HSD HP1 HP2 HSP
  obtain ⟨ks, hks⟩ : ∃ ks, ks = sidesC X next (c.size - 16) l := ⟨_, rfl⟩
  rw [← hks] at HP1 HP2 HSP
  clear hcd h hs hl hks
  obtain ⟨c0, c1, c2, c3, c4, c5, c6⟩ := c
  simp only [cfgV] at HCK ⊢
  simp only at HSD HP1 HCK HSP
  unfold maxLen at hcap
  have HKN := Lib.hid (fun w1 => known_any policy w1)
  generalize polB26 policy = good at *
  obtain ⟨b0, hb0⟩ : ∃ q, q = w.heap.size := ⟨_, rfl⟩
  obtain ⟨w0, hw0⟩ : ∃ y, y = (w.alloc (cfgO ⟨c0, c1, c2, c3, c4, c5, c6⟩)).alloc (.cells #[.int .i64 policy] 3) := ⟨_, rfl⟩
  have H0 : Hid (SW w [blkA (b0 + 1) (.cells #[.int .i64 policy] 3), blkA b0 (cfgO ⟨c0, c1, c2, c3, c4, c5, c6⟩)] w0) := Lib.hid (by
    have h := ((SW.start w).alloc (cfgO ⟨c0, c1, c2, c3, c4, c5, c6⟩)).alloc (.cells #[.int .i64 policy] 3)
    rw [← hw0] at h
    simp only [World.size_alloc, ← hb0] at h
    exact h)
  (try simp only [cfgO] at hw0)
  have d0 := (cellsOf (show w0.heap[b0]? = _ from H0.out.get (i := 1) rfl)).1
  have d8 := ((cellsOf (show w0.heap[b0 + 1]? = _ from H0.out.get (i := 0) rfl)).1 0).trans (show _ = some (Value.int .i64 policy) from rfl)
  (try simp only [cfgO] at d0)
  have HCK0 := Lib.hid (fun (W : World) (g : Gr w0.drew W) => HCK.out W (H0.out.g.trans ((Gr.refl w0).drew.trans g)))
  clear HCK
  go_enter Tryz.func11, Tryz.ntmps11
  go_upto_region 1 with fail
  rw [← hw0, ← hb0]
  clear hw0 hb0
  by_cases h0 : cd = 0
  · subst h0
    rw [if_pos rfl] at HCK0
    have HG := Gr.refl w0.drew
    refine wp_region_flo (fun _ => False) [12] [] (by kernel_rfl) (by kernel_rfl) (fun _ h => h.elim) ?_
    refine flo_seg 5 rfl ?_
    simp only [List.take_succ_cons, List.take_zero, List.drop_succ_cons, List.drop_zero]
    repeat (go_big_quiet_step (fail))
    refine wpQuiet_nil ?_
    refine flo_effg rfl rfl rfl (fun wg1 hgg1 K hK => ?_)
    (try replace HG := Gr.trans (Gr.trans HG (by (repeat (first | (with_reducible exact Gr.refl _) | assumption | (with_reducible apply Gr.from_drew) | (with_reducible apply Gr.alloc) | (with_reducible apply Gr.drew) | (with_reducible refine Gr.trans ?_ (by assumption)) | (with_reducible refine Gr.setCell ?_ (by omega) _))))) hgg1)
    go_wp2_with ((go_at_call 28; refine Calls.mono (HKN.out _) ?_; rintro e w1 ⟨rfl, rfl⟩))
    refine ⟨by exact (Gr.refl _).mdh _, ?_⟩
    refine flo_effg rfl rfl rfl (fun wg2 hgg2 K hK => ?_)
    (try replace HG := Gr.trans (Gr.trans HG (by (repeat (first | (with_reducible exact Gr.refl _) | assumption | (with_reducible apply Gr.from_drew) | (with_reducible apply Gr.alloc) | (with_reducible apply Gr.drew) | (with_reducible refine Gr.trans ?_ (by assumption)) | (with_reducible refine Gr.setCell ?_ (by omega) _))))) hgg2)
    go_wp2_with ((go_at_call 21; refine Calls.mono (HCK0.out _ HG) ?_; rintro e w1 ⟨rfl, hg⟩; have HG0 := Lib.hid hg))
    refine ⟨by exact HG0.out.mdh _, ?_⟩
    refine flo_seg 3 rfl ?_
    simp only [List.take_succ_cons, List.take_zero, List.drop_succ_cons, List.drop_zero]
    repeat (go_big_quiet_step (fail))
    refine wpQuiet_nil ?_
    refine flo_float (fun b => .pointer (some ⟨b, 0, none⟩)) (.cells #[.int .i64 0] 3) rfl rfl (fun w => by kernel_rfl) (fun wf1 fb1 hgf1 fl1 fh1 ft1 fo1 => ?_)
    (try replace HG := Gr.trans (Gr.trans HG (by (repeat (first | (with_reducible exact Gr.refl _) | assumption | (with_reducible apply Gr.from_drew) | (with_reducible apply Gr.alloc) | (with_reducible apply Gr.drew) | (with_reducible refine Gr.trans ?_ (by assumption)) | (with_reducible refine Gr.setCell ?_ (by omega) _))))) hgf1)
    (try have fc1 := (cellsOf fo1).1)
    (try have ff1 := (cellsOf fo1).2)
    refine flo_eff rfl rfl rfl rfl (fun K hK => ?_)
    go_wp2
    refine ⟨by (first | (refine Gr.mdh ?_ _; (repeat (first | (with_reducible exact Gr.refl _) | assumption | (with_reducible apply Gr.from_drew) | (with_reducible apply Gr.alloc) | (with_reducible apply Gr.drew) | (with_reducible refine Gr.trans ?_ (by assumption)) | (with_reducible refine Gr.setCell ?_ (by omega) _))); done) | (repeat (first | (with_reducible exact Mdh.refl _ _) | (with_reducible refine Mdh.setCell ?_ (by simp) _) | (with_reducible refine Mdh.setNew ?_ (by simp) _) | (with_reducible apply Mdh.alloc) | (with_reducible apply Mdh.from_drew) | (with_reducible apply Mdh.drew) | (with_reducible refine Mdh.gr ?_ (by assumption))))), ?_⟩
    refine flo_seg 1 rfl ?_
    simp only [List.take_succ_cons, List.take_zero, List.drop_succ_cons, List.drop_zero]
    repeat (go_big_quiet_step (fail))
    refine wpQuiet_nil ?_
    refine flo_nil ?_
    obtain ⟨w2, hw2⟩ : ∃ y, y = wf1.setCell ⟨fb1, 0, none⟩ (.int .i64 (c1 - 16)) := ⟨_, rfl⟩
    have H2 : Hid (SW w [blkA fb1 (.cells #[.int .i64 (c1 - 16)] 3), blkA (b0 + 1) (.cells #[.int .i64 policy] 3)] w2) := Lib.hid (by
      have h1 := H0.out.new ((Gr.refl w0).drew.trans HG) (A := blkA fb1 (.cells #[.int .i64 0] 3)) fo1 (fun k hk => by rw [show k = fb1 from hk]; exact fl1)
      rw [hw2]
      exact (h1.box (i := 0) rfl (.int .i64 (c1 - 16))).sel [0, 1] (by decide) rfl)
    rw [← hw2]
    clear hw2 fl1 fh1 ft1 fo1 fc1 ff1 HG hgf1 HG0 hg hgg1 hgg2 d0 d8 H0
    generalize fb1 = b12 at *
    have d12 := ((cellsOf (show w2.heap[b12]? = _ from H2.out.get (i := 0) rfl)).1 0).trans (show _ = some (Value.int .i64 (c1 - 16)) from rfl)
    by_cases hk : ks = 0
    · obtain ⟨hn12, hgd, hch, hnd, hq⟩ := HP1.out (by trivial) hk
      have HE := Lib.hid hq
      have HT := Lib.hid (pol_tot (hgd) hch (by rw [sidesL_slots]; exact hnd))
      have HCM := Lib.hid (cmpS_ord policy (c1 - 16) (hgd) (b0 + 1) b12 hch)
      have HND := Lib.hid (show ((sidesL X next l).map (·.1)).Nodup by rw [sidesL_slots]; exact hnd)
      clear hq hch hnd
      subst hk
      go_wp2_with (first
        | (go_at_call 22; refine Calls.mono (HSD.out (by trivial) _ H2.out.g) ?_; intro e w3 hq; obtain ⟨v, rfl, hg2, hown⟩ := HSP.out _ _ _ hq; have HNV := hown (by trivial) (by trivial); have H3 := Lib.hid (H2.out.new hg2 (A := rowA 44 3 v len (rowS (sidesL X next l))) HNV.own (fun k hk => HNV.new k hk)); clear hq hg2 hown HNV)
        | fail)
      refine (sortAny HT.out HND.out HLS.out hn12 HCM.out H3.out).mono ?_
      rintro e w4 ⟨⟨u, rfl⟩, M, a', cap', rfl, hcm', hcl', hpm, hst, hg4, hsd⟩
      have HOM : Hid (OrdS policy (c1 - 16) (sidesL X next l) M) := Lib.hid ⟨hpm, hst⟩
      have HG4 := Lib.hid hg4
      have HAT := Lib.hid hsd.at
      have hml : M.length = len := hsd.1
      unfold maxLen at hcm'
      clear hpm hst hg4 hsd H3 HT HCM HND
      obtain ⟨i0, hi, hz0, hz1, hz2⟩ := info_parts infoN
      go_wp2_with fail
      go_loopw [15, 47] (fun t15 t47 wx => ∃ (k : Nat) (v2 : Value), k ≤ len ∧ v2 = t15 ∧ t47 = .int .i64 k ∧ Hid (Nw w4 wx 3 1 v2 k (kN ((M.take k).map (·.1))) ∧ Gr w4 wx)) (fun _ t47 _ => len - (intOf t47).toNat)
      case atStart => exact ⟨0, _, by omega, rfl, rfl, Lib.hid ⟨Nw.nil w4 _ _, Gr.refl _⟩⟩
      case round =>
        obtain ⟨k, v2, hk, rfl, rfl, HR⟩ := hrel
        by_cases hlt : k < len
        · have hlt' : (k : Int) < len := by omega
          obtain ⟨bb, off, rfl, hbb, q0, q1, q2⟩ := HAT.out k hlt
          have HTK : Hid (kN ((M.take (k + 1)).map (·.1)) = kN ((M.take k).map (·.1)) ++ [.int .i64 (M[k]?.getD (0, 0, 0)).1]) := Lib.hid (by
            rw [take_snoc' M k (by omega), List.map_append, List.map_singleton, kN_snoc])
          generalize M[k]?.getD (0, 0, 0) = x at *
          obtain ⟨x1, x2, x3⟩ := x
          simp only at q0 q1 q2 HTK
          have y0 := (HR.out.2.cell _ _ hbb).trans q0
          have y1 := (HR.out.2.cell _ _ hbb).trans q1
          have y2 := (HR.out.2.cell _ _ hbb).trans q2
          clear q0 q1 q2
          obtain ⟨w5, hw5⟩ : ∃ y, y = wr.alloc (.cells #[.int .i64 x1, .int .i64 x2, .int .i64 x3] 44) := ⟨_, rfl⟩
          have HG5 : Hid (Gr wr w5) := Lib.hid (by rw [hw5]; exact (Gr.refl wr).alloc _)
          have d17 : w5.cell? ⟨wr.heap.size, 0, none⟩ = some (.int .i64 x1) := by rw [hw5]; exact ((cellsOf (blkNew wr _)).1 0).trans rfl
          have N5 := Lib.hid (HR.out.1.gr HG5.out)
          go_upto_region 12 with fail
          rw [← hw5]
          clear hw5
          go_wp2_with (first
            | (at_builtin; go_must (refine wpList_appv _ rfl (.tmp 51) (.tmp 54) 25 rfl 3 i0 _ 1 8 Tryz.underlying25 hi hz0 hz1 hz2 rfl (by decide) v2 k (kN ((M.take k).map (·.1))) rfl (N5.out.own.gr (by (repeat (first | (with_reducible exact Gr.refl _) | assumption | (with_reducible apply Gr.from_drew) | (with_reducible apply Gr.alloc) | (with_reducible apply Gr.drew) | (with_reducible refine Gr.trans ?_ (by assumption)) | (with_reducible refine Gr.setCell ?_ (by omega) _))))) (some ⟨w5.heap.size, 0, none⟩) 1 1 [.int .i64 x1] rfl (src_newK w5 [.int .i64 x1] _ 1 rfl (by simp [Value.oneCell'])) (by simp only [maxLen]; omega) (by omega) ?_); intro v3 w6 hA; have N6 := Lib.hid (hA.nw (N5.out.gr ((Gr.refl w5).alloc _)) (by have := (HR.out.2.trans HG5.out).sz; simp; omega)); have HG6 := Lib.hid (hA.gw (N5.out.gr ((Gr.refl w5).alloc _)) ((HR.out.2.trans HG5.out).alloc _)); clear hA)
            | fail)
          go_roundw
          case rel => exact ⟨k + 1, v3, by omega, rfl, by go_num, Lib.hid ⟨by rw [HTK.out]; exact N6.out, HG6.out⟩⟩
          case measure => simp [intOf]; omega
        · have hlt' : ¬ (k : Int) < len := by omega
          have hkn : k = M.length := by omega
          have HE2 := Lib.hid (HE.out v2 M wr HOM.out (by
            have h1 := HR.out.1
            rw [hkn, List.take_length] at h1
            exact ⟨h1.own, fun q hq => Nat.le_trans HG4.out.sz (h1.new q hq)⟩) (HG4.out.trans HR.out.2))
          clear hkn
          go_wp2
          exact HE2.out
    · have hk' : (ks != 0) = true := by simp [hk]
      have HE := Lib.hid (fun w' g => HP2.out ks (fun _ => rfl) (fun h => absurd rfl h) hk w' g)
      go_wp2_with (go_at_call 22; refine Calls.mono (HSD.out (by trivial) _ H2.out.g) ?_; intro e w3 hq; obtain ⟨v, rfl, hg2, hown⟩ := HSP.out _ _ _ hq; have HG2 := Lib.hid (H2.out.g.trans hg2); clear hq hg2 hown)
      exact HE.out _ HG2.out
  · have h0' : (cd != 0) = true := by simp [h0]
    rw [if_neg h0] at HCK0
    have HE := Lib.hid (fun w' g => HP2.out cd (fun h => absurd h h0) (fun _ => rfl) h0 w' g)
    have HG := Gr.refl w0.drew
    refine wp_region_flo (fun _ => False) [12] [] (by kernel_rfl) (by kernel_rfl) (fun _ h => h.elim) ?_
    refine flo_seg 5 rfl ?_
    simp only [List.take_succ_cons, List.take_zero, List.drop_succ_cons, List.drop_zero]
    repeat (go_big_quiet_step (fail))
    refine wpQuiet_nil ?_
    refine flo_effg rfl rfl rfl (fun wg1 hgg1 K hK => ?_)
    (try replace HG := Gr.trans (Gr.trans HG (by (repeat (first | (with_reducible exact Gr.refl _) | assumption | (with_reducible apply Gr.from_drew) | (with_reducible apply Gr.alloc) | (with_reducible apply Gr.drew) | (with_reducible refine Gr.trans ?_ (by assumption)) | (with_reducible refine Gr.setCell ?_ (by omega) _))))) hgg1)
    go_wp2_with ((go_at_call 28; refine Calls.mono (HKN.out _) ?_; rintro e w1 ⟨rfl, rfl⟩))
    refine ⟨by exact (Gr.refl _).mdh _, ?_⟩
    refine flo_effg rfl rfl rfl (fun wg2 hgg2 K hK => ?_)
    (try replace HG := Gr.trans (Gr.trans HG (by (repeat (first | (with_reducible exact Gr.refl _) | assumption | (with_reducible apply Gr.from_drew) | (with_reducible apply Gr.alloc) | (with_reducible apply Gr.drew) | (with_reducible refine Gr.trans ?_ (by assumption)) | (with_reducible refine Gr.setCell ?_ (by omega) _))))) hgg2)
    go_wp2_with ((go_at_call 21; refine Calls.mono (HCK0.out _ HG) ?_; rintro e w1 ⟨rfl, hg⟩; have HG0 := Lib.hid hg))
    refine ⟨by exact HG0.out.mdh _, ?_⟩
    refine flo_seg 3 rfl ?_
    simp only [List.take_succ_cons, List.take_zero, List.drop_succ_cons, List.drop_zero]
    repeat (go_big_quiet_step (fail))
    refine wpQuiet_nil ?_
    refine flo_float (fun b => .pointer (some ⟨b, 0, none⟩)) (.cells #[.int .i64 0] 3) rfl rfl (fun w => by kernel_rfl) (fun wf1 fb1 hgf1 fl1 fh1 ft1 fo1 => ?_)
    (try replace HG := Gr.trans (Gr.trans HG (by (repeat (first | (with_reducible exact Gr.refl _) | assumption | (with_reducible apply Gr.from_drew) | (with_reducible apply Gr.alloc) | (with_reducible apply Gr.drew) | (with_reducible refine Gr.trans ?_ (by assumption)) | (with_reducible refine Gr.setCell ?_ (by omega) _))))) hgf1)
    (try have fc1 := (cellsOf fo1).1)
    (try have ff1 := (cellsOf fo1).2)
    refine flo_eff rfl rfl rfl rfl (fun K hK => ?_)
    go_wp2
    refine ⟨by (first | (refine Gr.mdh ?_ _; (repeat (first | (with_reducible exact Gr.refl _) | assumption | (with_reducible apply Gr.from_drew) | (with_reducible apply Gr.alloc) | (with_reducible apply Gr.drew) | (with_reducible refine Gr.trans ?_ (by assumption)) | (with_reducible refine Gr.setCell ?_ (by omega) _))); done) | (repeat (first | (with_reducible exact Mdh.refl _ _) | (with_reducible refine Mdh.setCell ?_ (by simp) _) | (with_reducible refine Mdh.setNew ?_ (by simp) _) | (with_reducible apply Mdh.alloc) | (with_reducible apply Mdh.from_drew) | (with_reducible apply Mdh.drew) | (with_reducible refine Mdh.gr ?_ (by assumption))))), ?_⟩
    refine flo_seg 1 rfl ?_
    simp only [List.take_succ_cons, List.take_zero, List.drop_succ_cons, List.drop_zero]
    repeat (go_big_quiet_step (fail))
    refine wpQuiet_nil ?_
    refine flo_nil ?_
    have HGW : Hid (Gr w (wf1.setCell ⟨fb1, 0, none⟩ (.int .i64 0))) := Lib.hid ((H0.out.g.trans ((Gr.refl w0).drew.trans HG)).md ((Mdh.refl (fun k => k = fb1) wf1).setCell (p := ⟨fb1, 0, none⟩) rfl (.int .i64 0)) (fun k hk => by rw [hk]; exact Nat.le_trans H0.out.g.sz fl1))
    go_wp2_with fail
    exact HE.out _ HGW.out
end Go.Proofs.YtemjnppplmankaaGreat

/- drumlinlaw24: put, del, kept. -/
set_option linter.unusedVariables false
set_option linter.unusedSimpArgs false
namespace Go.Proofs.YtemjnppplmankaaGreat
open Go.RowKit Go.Shelf
attribute [local go_sem] OvM cell_ovm obj_ovm
attribute [local go_sem] Oper.semAt_some

def keptB (X : IX) (s : Int) (L : List En) : Bool := decide (keepC X s = 0 ∧ keepL X s = L)
end Go.Proofs.YtemjnppplmankaaGreat

/- Functions that hold many ranges over functions, one after the other: the marks that they leave. No program in sight. -/
set_option linter.unusedVariables false
set_option linter.unusedSimpArgs false
namespace Go.Proofs.YtemjnppplmankaaGreat
open Go.RowKit
variable {P : Program}

def cdf (D : Nat) : Deferred := { target := .collected D, args := #[] }
/-- The marks as a thing. -/
def dsA (Ds : List Nat) : Asn := ⟨fun k => k ∈ Ds, fun w => ∀ D ∈ Ds, w.heap[D]? = some (.deferred (some [])), fun h m hs D hD => m.blk (h D hD) (hs D hD), fun h k hk => blkLt (h k hk)⟩
def clD (Ds : List Nat) (w : World) : World := Ds.foldl (fun w D => w.putObj D (.deferred none)) w
theorem clD_mdh : ∀ (Ds : List Nat) (w : World), Mdh (fun k => k ∈ Ds) w (clD Ds w)
  | [], w => Mdh.refl _ _
  | D :: Ds, w => (((Mdh.refl (fun k => k = D) w).putObj rfl _).mono (fun k hk => by rw [hk]; exact List.mem_cons_self ..)).trans ((clD_mdh Ds (w.putObj D (.deferred none))).mono (fun k hk => List.mem_cons_of_mem _ hk))
theorem clD_gr {w0 w : World} {Ds : List Nat} (h : Gr w0 w) (hn : ∀ D ∈ Ds, w0.heap.size ≤ D) : Gr w0 (clD Ds w) := h.md (clD_mdh Ds w) hn
theorem leavesMn {fn : Func} {tmps : Array Value} {R : Ending → World → Prop} {v : Value} : ∀ (Ds : List Nat) (w : World), (∀ D ∈ Ds, w.heap[D]? = some (.deferred (some []))) → Ds.Nodup → (results fn tmps).run P (clD Ds w) = .ok v (clD Ds w) → R (.returned v) (clD Ds w) →
    LeavesInM Fence.wide 3 P fn tmps R (Ds.map cdf) .returning w
  | [], w, _, _, hr, hR => ⟨v, hr, hR⟩
  | D :: Ds, w, h, hn, hr, hR => by
    have hn' := List.nodup_cons.1 hn
    refine ⟨by simp, .inl ⟨D, _, rfl, run_takeDeferred (h D (List.mem_cons_self ..)), leavesMn Ds _ (fun E hE => ?_) hn'.2 hr hR⟩⟩
    have hne : E ≠ D := fun e => hn'.1 (e ▸ hE)
    exact (World.putObj_heap_other hne).trans (h E (List.mem_cons_of_mem _ hE))
theorem retMn {fn : Func} {R : Ending → World → Prop} {a : Act} {w : World} {v : Value} (Ds : List Nat) (hd : a.defers = Ds.map cdf) (hk : ∀ D ∈ Ds, w.heap[D]? = some (.deferred (some []))) (hn : Ds.Nodup)
    (hr : (results fn a.tmps).run P (clD Ds w) = .ok v (clD Ds w)) (hR : R (.returned v) (clD Ds w)) : bodyPostM Fence.wide 3 P fn R .ret a w := by
  show LeavesInM _ _ _ _ _ _ _ _ _
  rw [hd]
  exact leavesMn Ds w hk hn hr hR
theorem SWz.close {w0 wl W : World} {A Z : Nat → Prop} {R : List Asn} {Ds : List Nat} {D : Nat} (h : SWz w0 wl A (dsA Ds :: R) Z W) (hz : Z D) (hw : w0.heap.size ≤ wl.heap.size) (hdef : W.heap[D]? = some (.deferred (some []))) : SW w0 (dsA (D :: Ds) :: R) W ∧ D ∉ Ds := by
  have hd := h.s.s.dis
  refine ⟨⟨h.s.g, ⟨fun B hB => ?_, List.pairwise_cons.2 ⟨fun B hB k hk hb => ?_, (List.pairwise_cons.1 h.s.s.2).2⟩⟩, fun B hB k hk => ?_⟩, fun hm => h.z _ (List.mem_cons_self ..) D hm hz⟩
  · rcases List.mem_cons.1 hB with rfl | hB
    · intro E hE
      rcases List.mem_cons.1 hE with rfl | hE
      · exact hdef
      · exact (show ∀ D ∈ Ds, W.heap[D]? = some (.deferred (some [])) from h.s.s.head) E hE
    · exact h.s.s.1 B (List.mem_cons_of_mem _ hB)
  · rcases List.mem_cons.1 hk with rfl | hk
    · exact h.z B (List.mem_cons_of_mem _ hB) _ hb hz
    · exact hd B hB k hk hb
  · rcases List.mem_cons.1 hB with rfl | hB
    · rcases List.mem_cons.1 hk with rfl | hk
      · exact Nat.le_trans hw (h.zn _ hz)
      · exact h.s.n _ (List.mem_cons_self ..) k hk
    · exact h.s.n B (List.mem_cons_of_mem _ hB) k hk
theorem SW.noDs {w0 w : World} {R : List Asn} (h : SW w0 R w) : SW w0 (dsA [] :: R) w := h.new (Gr.refl _) (A := dsA []) (fun D hD => by cases hD) (fun k hk => by cases hk)
end Go.Proofs.YtemjnppplmankaaGreat

/- liveness.Retired. -/
set_option linter.unusedVariables false
set_option linter.unusedSimpArgs false
namespace Go.Proofs.YtemjnppplmankaaGreat
open Go.RowKit Go.Shelf
attribute [local go_sem] OvM cell_ovm obj_ovm
attribute [local go_sem] Oper.semAt_some

def retP (X : IX) (e : En) : Bool := e.del && !X.needs e
def retL (X : IX) (n : Nat) : List En := (List.range n).flatMap fun s => (X.slot (s : Nat)).filter (retP X)
theorem retL_succ (X : IX) (n : Nat) : retL X (n + 1) = retL X n ++ (X.slot (n : Nat)).filter (retP X) := by simp [retL, List.range_succ]
theorem retL_le {X : IX} (h : X.Wf) : ∀ n, (retL X n).length ≤ 512 * n
  | 0 => by simp [retL]
  | n + 1 => by
    rw [retL_succ, List.length_append]
    have h1 := retL_le h n
    have h2 := h.slot_le (n : Nat)
    have h3 := List.length_filter_le (retP X) (X.slot (n : Nat))
    omega
abbrev lvR (bo b1 : Nat) (p : Option Addr) (v : Value) (L : List En) : List Asn := [blkA bo (.cells #[v] 37), rowA 89 6 v L.length (rowE L), blkA b1 (.cells #[.pointer p] 35)]
def RetPost (X : IX) (w : World) (e : Ending) (w' : World) : Prop := ∃ v, e = .returned (.tuple #[v, .int .i64 (if X.slots = [] then 1 else 0)]) ∧ Nw w w' 89 6 v (retL X X.slots.length).length (rowE (retL X X.slots.length)) ∧ Gr w w'
end Go.Proofs.YtemjnppplmankaaGreat

/- drumlinlaw24: the examples of the chapter. -/
set_option linter.unusedVariables false
set_option linter.unusedSimpArgs false
namespace Go.Proofs.YtemjnppplmankaaGreat
open Go.RowKit Go.Shelf
attribute [local go_sem] OvM cell_ovm obj_ovm
attribute [local go_sem] Oper.semAt_some

theorem low_b {k : ByteArray} {c : UInt8} (h : k = ⟨#[c]⟩) (hc : c.toNat < 128) : Low k := by
  subst h
  intro j hj
  have h1 : j < 1 := hj
  have h0 : j = 0 := by omega
  subst h0
  exact hc
/-- Adding entries, all of which are taken. -/
structure AllAdd (l : List En) (X0 : IX) (St : Nat → IX) : Prop where
  z : St 0 = X0
  s : ∀ j x, l[j]? = some x → addE (St j) x = 0 ∧ St (j + 1) = addX (St j) x ∧ Low x.key ∧ En64 x
def stAdd (l : List En) (X0 : IX) (j : Nat) : IX := (l.take j).foldl addX X0
theorem stAdd_next (l : List En) (X0 : IX) (j : Nat) (x : En) (h : l[j]? = some x) : stAdd l X0 (j + 1) = addX (stAdd l X0 j) x := by
  unfold stAdd
  rw [List.take_add_one, h, List.foldl_append]
  rfl
def lvD : En := ⟨3, ⟨#[107]⟩, true, 1, 0, 17⟩
def lvM : En := ⟨4, ⟨#[109]⟩, false, 1, 20, 19⟩
def lvL : List En := [⟨1, ⟨#[107]⟩, false, 0, 0, 19⟩, ⟨2, ⟨#[109]⟩, false, 0, 20, 19⟩, lvD, lvM, ⟨4, ⟨#[109]⟩, false, 2, 0, 19⟩]
theorem lv_add : AllAdd lvL (ixNew 3) (stAdd lvL (ixNew 3)) := ⟨rfl, by
  intro j x h
  refine (fun (a : addE (stAdd lvL (ixNew 3) j) x = 0 ∧ Low x.key ∧ En64 x) => ⟨a.1, stAdd_next _ _ j x h, a.2⟩) ?_
  match j, h with
  | 0, h => cases h; exact ⟨by kernel_rfl, low_b rfl (by decide), by unfold En64; decide⟩
  | 1, h => cases h; exact ⟨by kernel_rfl, low_b rfl (by decide), by unfold En64; decide⟩
  | 2, h => cases h; exact ⟨by kernel_rfl, low_b rfl (by decide), by unfold En64; decide⟩
  | 3, h => cases h; exact ⟨by kernel_rfl, low_b rfl (by decide), by unfold En64; decide⟩
  | 4, h => cases h; exact ⟨by kernel_rfl, low_b rfl (by decide), by unfold En64; decide⟩
  | _ + 5, h => cases h⟩
def lvX : IX := stAdd lvL (ixNew 3) 5
def lvX1 : IX := dropX lvX 0
def lvX2 : IX := dropX lvX1 2
theorem lv_k0 : keptB lvX 0 [] = true := by kernel_rfl
theorem lv_k1 : keptB lvX 1 [lvD] = true := by kernel_rfl
theorem lv_k2 : keptB lvX 2 [] = true := by kernel_rfl
theorem lv_n1 : neededV lvX ⟨3, ⟨#[107]⟩, true, 1, 1, 17⟩ = .tuple #[.bool false, .int .i64 5] := by kernel_rfl
theorem lv_n2 : neededV lvX lvD = .tuple #[.bool true, .int .i64 0] := by kernel_rfl
theorem lv_d1 : (lvX.slot 0).length = 2 ∧ dropC lvX 0 = 0 := ⟨by kernel_rfl, by kernel_rfl⟩
theorem lv_k3 : keptB lvX1 1 [] = true := by kernel_rfl
theorem lv_r : retL lvX1 lvX1.slots.length = [lvD] := by kernel_rfl
theorem lv_s : (if lvX1.slots = [] then (1 : Int) else 0) = 0 := by kernel_rfl
theorem lv_d2 : (lvX1.slot 2).length = 1 ∧ dropC lvX1 2 = 0 := ⟨by kernel_rfl, by kernel_rfl⟩
theorem lv_k4 : keptB lvX2 1 [lvM] = true := by kernel_rfl
theorem own_nilE (w : World) : Own w 89 6 (.slice none 0 0) ([] : List En).length (rowE []) := nilRow w _ _
end Go.Proofs.YtemjnppplmankaaGreat

/- drumlinlaw26: example, works. -/
set_option linter.unusedVariables false
set_option linter.unusedSimpArgs false
namespace Go.Proofs.YtemjnppplmankaaGreat
open Go.RowKit Go.Shelf
attribute [local go_sem] OvM cell_ovm obj_ovm
attribute [local go_sem] Oper.semAt_some

def vd1 : En := ⟨1, ⟨#[97]⟩, false, 0, 0, 20⟩
def vd2 : En := ⟨2, ⟨#[98]⟩, false, 0, 20, 18⟩
def vd3 : En := ⟨3, ⟨#[97]⟩, true, 1, 0, 17⟩
def vd4 : En := ⟨1, ⟨#[97]⟩, false, 2, 0, 20⟩
def vdL : List En := [vd1, vd2, vd3, vd4]
theorem vd_add : AllAdd vdL (ixNew 4) (stAdd vdL (ixNew 4)) := ⟨rfl, by
  intro j x h
  refine (fun (a : addE (stAdd vdL (ixNew 4) j) x = 0 ∧ Low x.key ∧ En64 x) => ⟨a.1, stAdd_next _ _ j x h, a.2⟩) ?_
  match j, h with
  | 0, h => cases h; exact ⟨by kernel_rfl, low_b rfl (by decide), by unfold En64; decide⟩
  | 1, h => cases h; exact ⟨by kernel_rfl, low_b rfl (by decide), by unfold En64; decide⟩
  | 2, h => cases h; exact ⟨by kernel_rfl, low_b rfl (by decide), by unfold En64; decide⟩
  | 3, h => cases h; exact ⟨by kernel_rfl, low_b rfl (by decide), by unfold En64; decide⟩
  | _ + 4, h => cases h⟩
def vdX : IX := stAdd vdL (ixNew 4) 4

def fourC : Cfg := ⟨4, 100, 2, 200, 8, 16, 1⟩
theorem four_bd : fourC.Bd := ⟨by decide, by decide, by decide, by decide, by decide, by decide, by decide⟩
def vdS : List Sd := [(0, 18, 3), (1, 17, 2), (2, 0, 4), (3, 0, 5)]
theorem vd_s4 : sidesL vdX 5 [0, 1, 2, 3] = vdS := by kernel_rfl
theorem vd_s2 : sidesL vdX 5 [0, 1] = [(0, 18, 3), (1, 17, 2)] := by kernel_rfl
theorem vd_s0 : sidesL vdX 5 [] = [] := rfl
theorem vd_c4 : vCode vdX fourC [0, 1, 2, 3] 5 true = 0 := by kernel_rfl
theorem vd_v4 : vSides vdX fourC [0, 1, 2, 3] 5 true = vdS := by kernel_rfl
theorem vd_c2 : vCode vdX fourC [0, 1] 5 (polB26 1) = 0 := by kernel_rfl
theorem vd_d2 : vCode vdX fourC [0, 1] 5 (polB26 2) = 0 := by kernel_rfl
theorem vd_o4 : vCode vdX fourC [0, 1, 2, 3] 5 (polB26 1) = 0 := by kernel_rfl
theorem vd_r : vCode vdX fourC [0, 4] 5 (polB26 1) = 3 := by kernel_rfl
theorem vd_h : vCode vdX fourC [0, 0] 5 (polB26 1) = 6 := by kernel_rfl
theorem vd_n : vCode vdX fourC [] 5 (polB26 1) = 0 := by kernel_rfl
theorem vd_b1 : bestA 1 84 [(0, 18, 3), (1, 17, 2)] = bestV (1, 17, 2) true 0 := by
  rw [bestA_yes (.inl rfl) (by decide), best_some (by decide) (by decide) (by decide)]
  rfl
theorem vd_b2 : bestA 2 84 [(0, 18, 3), (1, 17, 2)] = bestV (0, 18, 3) true 0 := by
  rw [bestA_yes (.inr rfl) (by decide), best_some (by decide) (by decide) (by decide)]
  rfl
theorem vd_b0 : bestA 1 84 [] = bestV zSd false 0 := best_empty (.inl rfl) (by decide)
theorem vd_t1 : bestA 1 (fourC.size - 16) (sidesL vdX 5 [0, 1]) = bestV (1, 17, 2) true 0 := by rw [vd_s2]; exact vd_b1
theorem vd_t2 : bestA 2 (fourC.size - 16) (sidesL vdX 5 [0, 1]) = bestV (0, 18, 3) true 0 := by rw [vd_s2]; exact vd_b2
theorem vd_t0 : bestA 1 (fourC.size - 16) (sidesL vdX 5 []) = bestV zSd false 0 := by rw [vd_s0]; exact vd_b0
theorem vd_ord {M : List Sd} (h : OrdS 1 84 vdS M) : M = [(2, 0, 4), (3, 0, 5), (1, 17, 2), (0, 18, 3)] :=
  srt_uniq (pol_tot (room := 84) (.inl rfl) (S := vdS) (by decide) (by decide)) h.pm (by decide) h.s (by decide)
theorem bestV_inj {x y : Sd} {a b : Bool} {c d : Int} (h : bestV x a c = bestV y b d) : x = y ∧ a = b := by
  obtain ⟨x1, x2, x3⟩ := x
  obtain ⟨y1, y2, y3⟩ := y
  unfold bestV at h
  simp at h
  obtain ⟨⟨h1, h2, h3⟩, h4, _⟩ := h
  exact ⟨by rw [h1, h2, h3], h4⟩
theorem numAt_own {w : World} {v : Value} {l : List Int} (h : Own w 3 1 v l.length (kN l)) : ∃ a cap, v = .slice a l.length cap ∧ l.length ≤ cap ∧ cap ≤ maxLen ∧ NumAt w a l := by
  obtain ⟨a, cap, h1, h2, h3, h4⟩ := ownN_at h
  refine ⟨a, cap, h1, h2, h3, fun i x hx => ?_⟩
  obtain ⟨g, e, h5, _, h6⟩ := h4 i x hx
  exact ⟨g, 0, e, h5, by rw [Nat.zero_add]; exact h6⟩
theorem numAt_lit {w : World} {g n : Nat} {l : List Int} {t : TypeId} (h : w.heap[g]? = some (.cells (kN l).toArray t)) (hn : l.length = n) : NumAt w (some ⟨g, 0, none⟩) l := fun i x hx => by
  refine ⟨g, 0, rfl, blkLt h, ?_⟩
  rw [Nat.zero_add, (cellsOf h).1 i, List.getElem?_toArray]
  unfold kN
  rw [List.getElem?_map, hx]
  rfl
set_option maxRecDepth 40000 in
theorem four_any (w : World) : Calls Tryz.prog 17 #[] w fun e w' => e = .returned (cfgV fourC) ∧ Gr w w' := by
  simp only [cfgV, fourC]
  go_enter Tryz.func17, Tryz.ntmps17
  go_wp2
  refine bodyPost_ret (v := .agg #[.int .i64 4, .int .i64 100, .int .i64 2, .int .i64 200, .int .i64 8, .int .i64 16, .int .i64 1]) (by simp [results, Tryz.results17, go_sem]) rfl ⟨rfl, by (repeat (first | (with_reducible exact Gr.refl _) | assumption | (with_reducible apply Gr.from_drew) | (with_reducible apply Gr.alloc) | (with_reducible apply Gr.drew) | (with_reducible refine Gr.trans ?_ (by assumption)) | (with_reducible refine Gr.setCell ?_ (by omega) _)))⟩
set_option maxRecDepth 40000 in
set_option maxHeartbeats 2000000 in
theorem Ints_any (w : World) (a b : Option Addr) (n m ca cb : Nat) (l k : List Int) (hl : l.length = n) (hk : k.length = m) (hn : n ≤ ca) (hm : m ≤ cb) (hca : ca ≤ maxLen) (hcb : cb ≤ maxLen) (h100 : n ≤ 1000) (ha : NumAt w a l) (hb : NumAt w b k) :
    Calls Tryz.prog 13 #[.slice a n ca, .slice b m cb] w fun e w' => e = .returned (.bool (decide (l = k))) ∧ Gr w w' := by
  obtain ⟨r, hr⟩ : ∃ r, r = decide (l = k) := ⟨_, rfl⟩
  rw [← hr]
  have HRV := Lib.hid hr
  have HA := Lib.hid ha
  have HB := Lib.hid hb
  unfold maxLen at hca hcb
  clear hr ha hb
  by_cases hnm : n = m
  · subst hnm
    go_enter Tryz.func13, Tryz.ntmps13
    go_wp2_with fail
    go_loopw [5] (fun t5 wx => ∃ i : Nat, i ≤ n ∧ t5 = .int .i64 i ∧ Hid (l.take i = k.take i ∧ Gr w wx)) (fun t5 _ => n - (intOf t5).toNat)
    case atStart => exact ⟨0, by omega, by go_num, Lib.hid ⟨rfl, Gr.refl _⟩⟩
    case round =>
      obtain ⟨i, hi, rfl, HR⟩ := hrel
      by_cases hlt : i < n
      · have hlt' : (i : Int) < n := by omega
        obtain ⟨x, hx⟩ : ∃ x, l[i]? = some x := ⟨_, List.getElem?_eq_getElem (by omega)⟩
        obtain ⟨y, hy⟩ : ∃ y, k[i]? = some y := ⟨_, List.getElem?_eq_getElem (by omega)⟩
        obtain ⟨ba, oa, rfl, hba, xa⟩ := HA.out i x hx
        obtain ⟨bb, ob, rfl, hbb, yb⟩ := HB.out i y hy
        have z1 := (HR.out.2.cell _ _ hba).trans xa
        have z2 := (HR.out.2.cell _ _ hbb).trans yb
        have HT1 : Hid (l.take (i + 1) = l.take i ++ [x]) := Lib.hid (by rw [List.take_add_one, hx]; rfl)
        have HT2 : Hid (k.take (i + 1) = k.take i ++ [y]) := Lib.hid (by rw [List.take_add_one, hy]; rfl)
        have HNE : Hid (x ≠ y → r = false) := Lib.hid (fun h => by
          rw [HRV.out]
          refine decide_eq_false (fun e => h ?_)
          rw [e, hy] at hx
          exact (Option.some.inj hx).symm)
        clear hx hy xa yb
        by_cases hxy : x = y
        · subst hxy
          go_wp2_with fail
          refine wp_region_flo (fun _ => False) [] [] (by kernel_rfl) (by kernel_rfl) (fun _ h => h.elim) ?_
          refine flo_seg 9 rfl ?_
          simp only [List.take_succ_cons, List.take_zero, List.drop_succ_cons, List.drop_zero]
          repeat (go_big_quiet_step (fail))
          refine wpQuiet_nil ?_
          refine flo_nil ?_
          go_wp2_with fail
          go_roundw
          case rel => exact ⟨i + 1, by omega, by go_num, Lib.hid ⟨by rw [HT1.out, HT2.out, HR.out.1], HR.out.2.trans (Gr.refl wr).drew⟩⟩
          case measure => simp [intOf]; omega
        · have hb2 : (x != y) = true := by simp [hxy]
          have HR0 := Lib.hid (HNE.out hxy)
          go_wp2_with fail
          refine wp_region_flo (fun _ => False) [] [] (by kernel_rfl) (by kernel_rfl) (fun _ h => h.elim) ?_
          refine flo_seg 9 rfl ?_
          simp only [List.take_succ_cons, List.take_zero, List.drop_succ_cons, List.drop_zero]
          repeat (go_big_quiet_step (fail))
          refine wpQuiet_nil ?_
          refine flo_nil ?_
          go_wp2_with fail
          go_ret
          exact ⟨ret_bool HR0.out.symm, HR.out.2.trans (Gr.refl wr).drew⟩
      · have hlt' : ¬ (i : Int) < n := by omega
        have hin : i = n := by omega
        have HR1 : Hid (r = true) := Lib.hid (by
          rw [HRV.out]
          refine decide_eq_true ?_
          have := HR.out.1
          rwa [hin, List.take_of_length_le (by omega), List.take_of_length_le (by omega)] at this)
        clear hin
        go_wp2
        go_ret
        exact ⟨ret_bool HR1.out.symm, HR.out.2⟩
  · have hb2 : ((n : Int) != (m : Int)) = true := by simp; omega
    have HR0 : Hid (r = false) := Lib.hid (by
      rw [HRV.out]
      refine decide_eq_false (fun e => hnm ?_)
      rw [← hl, ← hk, e])
    go_enter Tryz.func13, Tryz.ntmps13
    go_wp2
    go_ret
    exact ⟨ret_bool HR0.out.symm, Gr.refl _⟩
set_option maxRecDepth 40000 in
set_option maxHeartbeats 4000000 in
theorem vd_example (w : World) : Calls Tryz.prog 16 #[] w fun e w' => ∃ b S, e = .returned (.pointer (some ⟨b, 0, none⟩)) ∧ SW w [ixA b vdX S] w' := by
  have HST := Lib.hid vd_add.s
  go_enter Tryz.func16, Tryz.ntmps16
  go_wp2_with fail
  refine (New_any 4 w (by decide) (by decide)).mono ?_
  rintro e w2 ⟨b, S, rfl, h1, h2, h3⟩
  have HS1 : Hid (SW w [ixA b (stAdd vdL (ixNew 4) 0) S] w2) := Lib.hid ((SW.start w).ixnew h1 h2 h3)
  clear h1 h2 h3
  go_wp2_with fail
  obtain ⟨g, hg⟩ : ∃ q, q = w2.heap.size := ⟨_, rfl⟩
  obtain ⟨w3, hw3⟩ : ∃ y, y = w2.alloc (.cells (rowE vdL).toArray 89) := ⟨_, rfl⟩
  have HS3 : Hid (SW w [ixA b (stAdd vdL (ixNew 4) 0) S, blkA g (.cells (rowE vdL).toArray 89)] w3) := Lib.hid (by rw [hw3, hg]; exact HS1.out.allocT _)
  simp only [rowE, vdL, vd1, vd2, vd3, vd4, enC, List.flatMap_cons, List.flatMap_nil, List.cons_append, List.nil_append, List.append_nil] at hw3
  rw [← hw3, ← hg]
  clear hw3 hg
  go_loopw [17] (fun t17 wx => ∃ (j : Nat) (S : Nat → Prop), j ≤ 4 ∧ t17 = .int .i64 j ∧ Hid (SW w [ixA b (stAdd vdL (ixNew 4) j) S, blkA g (.cells (rowE vdL).toArray 89)] wx)) (fun t17 _ => 4 - (intOf t17).toNat)
  case atStart => exact ⟨0, S, by omega, rfl, HS3⟩
  case round =>
    obtain ⟨j, S, hj, rfl, HR⟩ := hrel
    by_cases hlt : j < 4
    · have hlt' : (j : Int) < 4 := by omega
      obtain ⟨x, hx⟩ : ∃ x, vdL[j]? = some x := ⟨_, List.getElem?_eq_getElem (show j < 4 from hlt)⟩
      have HX := Lib.hid (HST.out j x hx)
      have cc := (cellsOf (show wr.heap[g]? = _ from HR.out.get (i := 1) rfl)).1
      have hr : ∀ c u, (enC x)[c]? = some u → wr.cell? ⟨g, j * 6 + c, none⟩ = some u := fun c u hu => (cc _).trans (by rw [List.getElem?_toArray]; exact rowE_get vdL j x hx c u hu)
      have d0 := hr 0 _ rfl
      have d1 := hr 1 _ rfl
      have d2 := hr 2 _ rfl
      have d3 := hr 3 _ rfl
      have d4 := hr 4 _ rfl
      have d5 := hr 5 _ rfl
      simp only [Nat.add_zero] at d0 d1 d2 d3 d4 d5
      clear hr cc hx
      generalize hst : stAdd vdL (ixNew 4) (j + 1) = Y1 at HX
      have HY := Lib.hid hst
      clear hst
      go_wp2_with (go_at_call 36; refine (Add_any (HR.out.gr ((Gr.refl _).alloc _)).ix x HX.out.2.2.1 HX.out.2.2.2).mono ?_; rintro e w4 ⟨rfl, hp⟩; rw [HX.out.1]; have HP := Lib.hid hp; clear hp)
      obtain ⟨S', hI⟩ := (HR.out.gr ((Gr.refl _).alloc _)).post HP.out
      go_roundw
      case rel => exact ⟨j + 1, S', by omega, by go_num, Lib.hid (by rw [HY.out, HX.out.2.1]; exact hI)⟩
      case measure => simp [intOf]; omega
    · have hlt' : ¬ (j : Int) < 4 := by omega
      obtain rfl : j = 4 := by omega
      go_wp2
      go_ret
      exact ⟨b, rfl, S, HR.out.sub (.cons_cons _ (List.nil_sublist _))⟩
theorem vd_ne : vdX.slots ≠ [] := by
  intro h
  have : vdX.slots.length = 4 := by kernel_rfl
  rw [h] at this
  cases this
set_option maxRecDepth 40000 in
set_option maxHeartbeats 8000000 in
theorem v_works (w : World) : Calls Tryz.prog 4 #[] w fun e w' => e = .returned (.bool true) ∧ Gr w w' := by
  have HFX : Hid (∀ W b S (R : List Asn), SW w (ixA b vdX S :: R) W → IXP W (some ⟨b, 0, none⟩) vdX S) := Lib.hid (fun W b S R h => .inl ⟨b, rfl, (show IXR W b vdX S from h.get (i := 0) rfl)⟩)
  go_enter Tryz.func4, Tryz.ntmps4
  go_wp2_with fail
  refine (vd_example w).mono ?_
  rintro e w1 ⟨b, S, rfl, hs⟩
  have H1 := Lib.hid hs
  clear hs
  go_wp2_with (first | (go_at_call 17; refine (four_any _).mono ?_; rintro e w2 ⟨rfl, hg⟩; have H2 := Lib.hid (H1.out.gr hg); clear hg) | fail)
  obtain ⟨g3, hg3⟩ : ∃ q, q = w2.heap.size := ⟨_, rfl⟩
  obtain ⟨w3, hw3⟩ : ∃ y, y = w2.alloc (.cells (kN [0, 1, 2, 3]).toArray 3) := ⟨_, rfl⟩
  have HL3 : Hid (w3.heap[g3]? = some (.cells (kN [0, 1, 2, 3]).toArray 3)) := Lib.hid (by rw [hw3, hg3]; exact blkNew w2 _)
  have H3 := Lib.hid (H2.out.gr ((Gr.refl w2).alloc (.cells (kN [0, 1, 2, 3]).toArray 3)))
  rw [← hw3] at H3
  simp only [kN, List.map_cons, List.map_nil] at hw3
  rw [← hw3, ← hg3]
  clear hw3 hg3
  refine (VSides_any (HFX.out _ _ _ _ H3.out) vd_ne fourC (some ⟨g3, 0, none⟩) 4 4 [0, 1, 2, 3] rfl (by omega) (by decide) (by omega) (numAt_lit HL3.out rfl) 5).mono ?_
  rintro e w4 ⟨v4, rfl, hn, hg⟩
  rw [vd_v4] at hn
  rw [vd_c4]
  have H4 := Lib.hid True.intro
  have H4b := Lib.hid (H3.out.gr hg)
  have HR4 := Lib.hid hn.own
  obtain ⟨gs, cs, rfl, hcs1, hcs2, _⟩ := sides_of_row hn.own (show vdS.length = 4 from rfl) (by decide)
  clear hn hg H4
  go_wp2_with (first | (go_at_call 17; refine (four_any _).mono ?_; rintro e w5 ⟨rfl, hg⟩; have H5 := Lib.hid (H4b.out.gr hg); have HR5 := Lib.hid (HR4.out.gr hg); clear hg) | fail)
  obtain ⟨g6, hg6⟩ : ∃ q, q = w5.heap.size := ⟨_, rfl⟩
  obtain ⟨w6, hw6⟩ : ∃ y, y = w5.alloc (.cells (kN [0, 1]).toArray 3) := ⟨_, rfl⟩
  have HL6 : Hid (w6.heap[g6]? = some (.cells (kN [0, 1]).toArray 3)) := Lib.hid (by rw [hw6, hg6]; exact blkNew w5 _)
  have HGA6 : Hid (Gr w5 w6) := Lib.hid (by rw [hw6]; exact (Gr.refl w5).alloc _)
  have H6 := Lib.hid (H5.out.gr HGA6.out)
  have HR6 := Lib.hid (HR5.out.gr HGA6.out)
  simp only [kN, List.map_cons, List.map_nil] at hw6
  rw [← hw6, ← hg6]
  clear hw6 hg6
  refine (VChoose_any (HFX.out _ _ _ _ H6.out) vd_ne fourC (some ⟨g6, 0, none⟩) 2 2 [0, 1] rfl (by omega) (by decide) (by omega) (numAt_lit HL6.out rfl) 1 5).mono ?_
  rintro e w7 ⟨x, is, rfl, hb, hz, hg⟩
  rw [vd_c2] at hb hz ⊢
  obtain ⟨rfl, rfl⟩ := bestV_inj ((hb rfl).symm.trans vd_t1)
  have H7 := Lib.hid (H6.out.gr hg)
  have HR7 := Lib.hid (HR6.out.gr hg)
  clear hb hz hg
  go_wp2_with (first | (go_at_call 17; refine (four_any _).mono ?_; rintro e w8 ⟨rfl, hg⟩; have H8 := Lib.hid (H7.out.gr hg); have HR8 := Lib.hid (HR7.out.gr hg); clear hg) | fail)
  obtain ⟨g9, hg9⟩ : ∃ q, q = w8.heap.size := ⟨_, rfl⟩
  obtain ⟨w9, hw9⟩ : ∃ y, y = w8.alloc (.cells (kN [0, 1]).toArray 3) := ⟨_, rfl⟩
  have HL9 : Hid (w9.heap[g9]? = some (.cells (kN [0, 1]).toArray 3)) := Lib.hid (by rw [hw9, hg9]; exact blkNew w8 _)
  have HGA9 : Hid (Gr w8 w9) := Lib.hid (by rw [hw9]; exact (Gr.refl w8).alloc _)
  have H9 := Lib.hid (H8.out.gr HGA9.out)
  have HR9 := Lib.hid (HR8.out.gr HGA9.out)
  simp only [kN, List.map_cons, List.map_nil] at hw9
  rw [← hw9, ← hg9]
  clear hw9 hg9
  refine (VChoose_any (HFX.out _ _ _ _ H9.out) vd_ne fourC (some ⟨g9, 0, none⟩) 2 2 [0, 1] rfl (by omega) (by decide) (by omega) (numAt_lit HL9.out rfl) 2 5).mono ?_
  rintro e w10 ⟨x, is, rfl, hb, hz, hg⟩
  rw [vd_d2] at hb hz ⊢
  obtain ⟨rfl, rfl⟩ := bestV_inj ((hb rfl).symm.trans vd_t2)
  have H10 := Lib.hid (H9.out.gr hg)
  have HR10 := Lib.hid (HR9.out.gr hg)
  clear hb hz hg
  go_wp2_with (first | (go_at_call 17; refine (four_any _).mono ?_; rintro e w11 ⟨rfl, hg⟩; have H11 := Lib.hid (H10.out.gr hg); have HR11 := Lib.hid (HR10.out.gr hg); clear hg) | fail)
  obtain ⟨g12, hg12⟩ : ∃ q, q = w11.heap.size := ⟨_, rfl⟩
  obtain ⟨w12, hw12⟩ : ∃ y, y = w11.alloc (.cells (kN [0, 1, 2, 3]).toArray 3) := ⟨_, rfl⟩
  have HL12 : Hid (w12.heap[g12]? = some (.cells (kN [0, 1, 2, 3]).toArray 3)) := Lib.hid (by rw [hw12, hg12]; exact blkNew w11 _)
  have HGA12 : Hid (Gr w11 w12) := Lib.hid (by rw [hw12]; exact (Gr.refl w11).alloc _)
  have H12 := Lib.hid (H11.out.gr HGA12.out)
  have HR12 := Lib.hid (HR11.out.gr HGA12.out)
  simp only [kN, List.map_cons, List.map_nil] at hw12
  rw [← hw12, ← hg12]
  clear hw12 hg12
  refine (VOrder_any (HFX.out _ _ _ _ H12.out) vd_ne fourC (some ⟨g12, 0, none⟩) 4 4 [0, 1, 2, 3] rfl (by omega) (by decide) (by omega) (numAt_lit HL12.out rfl) 1 5 (.inl (by omega))).mono ?_
  rintro e w13 ⟨vo, M, rfl, hb, hz, hn, hg⟩
  rw [vd_o4] at hb hz ⊢
  have hM := hb rfl
  rw [vd_s4] at hM
  obtain rfl := vd_ord hM
  obtain ⟨ao, co, rfl, hco1, hco2, hao⟩ := numAt_own (l := [2, 3, 1, 0]) hn.own
  have H13 := Lib.hid (H12.out.gr hg)
  have HR13 := Lib.hid (HR12.out.gr hg)
  have HO13 := Lib.hid hao
  clear hb hz hg hn hM hao
  go_wp2_with (first | (go_at_call 17; refine (four_any _).mono ?_; rintro e w14 ⟨rfl, hg⟩; have H14 := Lib.hid (H13.out.gr hg); have HR14 := Lib.hid (HR13.out.gr hg); have HO14 := Lib.hid (HO13.out.gr hg); clear hg) | fail)
  obtain ⟨g15, hg15⟩ : ∃ q, q = w14.heap.size := ⟨_, rfl⟩
  obtain ⟨w15, hw15⟩ : ∃ y, y = w14.alloc (.cells (kN [0, 4]).toArray 3) := ⟨_, rfl⟩
  have HL15 : Hid (w15.heap[g15]? = some (.cells (kN [0, 4]).toArray 3)) := Lib.hid (by rw [hw15, hg15]; exact blkNew w14 _)
  have HGA15 : Hid (Gr w14 w15) := Lib.hid (by rw [hw15]; exact (Gr.refl w14).alloc _)
  have H15 := Lib.hid (H14.out.gr HGA15.out)
  have HR15 := Lib.hid (HR14.out.gr HGA15.out)
  have HO15 := Lib.hid (HO14.out.gr HGA15.out)
  simp only [kN, List.map_cons, List.map_nil] at hw15
  rw [← hw15, ← hg15]
  clear hw15 hg15
  refine (VChoose_any (HFX.out _ _ _ _ H15.out) vd_ne fourC (some ⟨g15, 0, none⟩) 2 2 [0, 4] rfl (by omega) (by decide) (by omega) (numAt_lit HL15.out rfl) 1 5).mono ?_
  rintro e w16 ⟨x, is, rfl, hb, hz, hg⟩
  rw [vd_r] at hb hz ⊢
  obtain ⟨rfl, rfl⟩ := hz (by decide)
  have H16 := Lib.hid (H15.out.gr hg)
  have HR16 := Lib.hid (HR15.out.gr hg)
  have HO16 := Lib.hid (HO15.out.gr hg)
  clear hb hz hg
  go_wp2_with (first | (go_at_call 17; refine (four_any _).mono ?_; rintro e w17 ⟨rfl, hg⟩; have H17 := Lib.hid (H16.out.gr hg); have HR17 := Lib.hid (HR16.out.gr hg); have HO17 := Lib.hid (HO16.out.gr hg); clear hg) | fail)
  obtain ⟨g18, hg18⟩ : ∃ q, q = w17.heap.size := ⟨_, rfl⟩
  obtain ⟨w18, hw18⟩ : ∃ y, y = w17.alloc (.cells (kN [0, 0]).toArray 3) := ⟨_, rfl⟩
  have HL18 : Hid (w18.heap[g18]? = some (.cells (kN [0, 0]).toArray 3)) := Lib.hid (by rw [hw18, hg18]; exact blkNew w17 _)
  have HGA18 : Hid (Gr w17 w18) := Lib.hid (by rw [hw18]; exact (Gr.refl w17).alloc _)
  have H18 := Lib.hid (H17.out.gr HGA18.out)
  have HR18 := Lib.hid (HR17.out.gr HGA18.out)
  have HO18 := Lib.hid (HO17.out.gr HGA18.out)
  simp only [kN, List.map_cons, List.map_nil] at hw18
  rw [← hw18, ← hg18]
  clear hw18 hg18
  refine (VChoose_any (HFX.out _ _ _ _ H18.out) vd_ne fourC (some ⟨g18, 0, none⟩) 2 2 [0, 0] rfl (by omega) (by decide) (by omega) (numAt_lit HL18.out rfl) 1 5).mono ?_
  rintro e w19 ⟨x, is, rfl, hb, hz, hg⟩
  rw [vd_h] at hb hz ⊢
  obtain ⟨rfl, rfl⟩ := hz (by decide)
  have H19 := Lib.hid (H18.out.gr hg)
  have HR19 := Lib.hid (HR18.out.gr hg)
  have HO19 := Lib.hid (HO18.out.gr hg)
  clear hb hz hg
  go_wp2_with (first | (go_at_call 17; refine (four_any _).mono ?_; rintro e w20 ⟨rfl, hg⟩; have H20 := Lib.hid (H19.out.gr hg); have HR20 := Lib.hid (HR19.out.gr hg); have HO20 := Lib.hid (HO19.out.gr hg); clear hg) | fail)
  refine (VChoose_any (HFX.out _ _ _ _ H20.out) vd_ne fourC none 0 0 [] rfl (by omega) (by decide) (by omega) (fun i x hx => by simp at hx) 1 5).mono ?_
  rintro e w21 ⟨x, is, rfl, hb, hz, hg⟩
  rw [vd_n] at hb hz ⊢
  obtain ⟨rfl, rfl⟩ := bestV_inj ((hb rfl).symm.trans vd_t0)
  have H21 := Lib.hid (H20.out.gr hg)
  have HR21 := Lib.hid (HR20.out.gr hg)
  have HO21 := Lib.hid (HO20.out.gr hg)
  clear hb hz hg
  obtain ⟨s00, s01, s02⟩ := own_side HR21.out (show vdS.length = 4 from rfl) (x := 0) (by decide)
  obtain ⟨s10, s11, s12⟩ := own_side HR21.out (show vdS.length = 4 from rfl) (x := 1) (by decide)
  obtain ⟨s20, s21, s22⟩ := own_side HR21.out (show vdS.length = 4 from rfl) (x := 2) (by decide)
  obtain ⟨s30, s31, s32⟩ := own_side HR21.out (show vdS.length = 4 from rfl) (x := 3) (by decide)
  simp [gS, vdS] at s00 s01 s02 s10 s11 s12 s20 s21 s22 s30 s31 s32
  simp only [zSd]
  unfold maxLen at hcs2
  go_wp2_with fail
  have HGF := Lib.hid H21.out.g
  refine (Ints_any _ ao _ 4 4 co 4 [2, 3, 1, 0] [2, 3, 1, 0] rfl rfl hco1 (by omega) hco2 (by decide) (by omega) (HO21.out.gr ((Gr.refl w21).alloc _)) (numAt_lit (l := [2, 3, 1, 0]) (blkNew w21 _) rfl)).mono ?_
  rintro e w22 ⟨rfl, hg⟩
  rw [show decide (([2, 3, 1, 0] : List Int) = [2, 3, 1, 0]) = true from by decide]
  have HGE := Lib.hid ((HGF.out.alloc _).trans hg)
  clear hg
  go_wp2_with fail
  go_ret
  exact ⟨rfl, HGE.out⟩
end Go.Proofs.YtemjnppplmankaaGreat
