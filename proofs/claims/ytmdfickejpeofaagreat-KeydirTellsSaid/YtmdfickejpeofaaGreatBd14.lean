/- liveness: Size, Redundant; the reference's Same. -/
import Derived.Test.YtmdfickejpeofaaGreatBd13
import Derived.Test.YtmdfickejpeofaaGreatBd7
set_option linter.unusedVariables false
set_option linter.unusedSimpArgs false
namespace Go.Proofs.YtmdfickejpeofaaGreat
open Go.RowKit Go.Shelf
attribute [local go_sem] OvM cell_ovm obj_ovm
attribute [local go_sem] Oper.semAt_some

def sumZ (l : List En) : Int := l.foldl (fun a e => a + e.size) 0
theorem sumZ_snoc (l : List En) (e : En) : sumZ (l ++ [e]) = sumZ l + e.size := by simp [sumZ]
theorem sumZ_le' : ∀ (l : List En) (a : Int), (∀ e ∈ l, 0 ≤ e.size ∧ e.size ≤ 8192) → a ≤ l.foldl (fun a e => a + e.size) a ∧ l.foldl (fun a e => a + e.size) a ≤ a + 8192 * l.length
  | [], a, _ => by simp
  | e :: l, a, h => by
    have h1 := h e (by simp)
    have h2 := sumZ_le' l (a + e.size) (fun x hx => h x (List.mem_cons_of_mem _ hx))
    simp only [List.foldl_cons, List.length_cons, Int.natCast_add] at *
    omega
theorem sumZ_le (l : List En) (h : ∀ e ∈ l, 0 ≤ e.size ∧ e.size ≤ 8192) : 0 ≤ sumZ l ∧ sumZ l ≤ 8192 * l.length := by
  have := sumZ_le' l 0 h
  simpa [sumZ] using this
theorem keepL_ok {X : IX} (h : X.Wf) (s : Int) : (keepL X s).length ≤ 512 ∧ ∀ e ∈ keepL X s, 0 ≤ e.size ∧ e.size ≤ 8192 := by
  refine ⟨Nat.le_trans (List.length_filter_le _ _) (h.slot_le s), fun e he => ?_⟩
  have := (valid_iff e).1 ((h.slotOk s).e e (List.mem_filter.1 he).1).2
  omega
theorem take_sub {l : List En} {k : Nat} {P : En → Prop} (h : ∀ e ∈ l, P e) : ∀ e ∈ l.take k, P e := fun e he => h e (List.mem_of_mem_take he)
set_option maxRecDepth 40000 in
set_option maxHeartbeats 4000000 in
theorem Size_any {w : World} {p : Option Addr} {X : IX} {S : Nat → Prop} (h : IXP w p X S) (s : Int) : Calls Tryz.prog 115 #[.pointer p, .int .i64 s] w fun e w' => e = .returned (.tuple #[.int .i64 (sumZ (keepL X s)), .int .i64 (keepC X s)]) ∧ Gr w w' := by
  have H := Lib.hid h
  obtain ⟨hk1, hk2⟩ := keepL_ok h.ok s
  have HK := Lib.hid (Keep_any h s)
  obtain ⟨L, hL⟩ : ∃ L, L = keepL X s := ⟨_, rfl⟩
  have HL := Lib.hid hL
  obtain ⟨c, hc⟩ : ∃ c, c = keepC X s := ⟨_, rfl⟩
  have HC := Lib.hid hc
  rw [← hc]
  rw [← hL]
  rw [← hL] at hk1 hk2
  have HK2 := Lib.hid hk2
  clear h hk2 hL hc
  go_enter Tryz.func115, Tryz.ntmps115
  go_wp2_with fail
  refine Calls.mono HK.out ?_
  rintro e w1 ⟨v, rfl, hr, hg⟩
  rw [← HL.out] at hr
  rw [← HC.out]
  obtain ⟨a, cap, rfl, _, hcm, hat⟩ := ownE_at hr.own
  have HAT := Lib.hid hat
  have HG := Lib.hid hg
  unfold maxLen at hcm
  clear hr hat hg
  go_wp2_with fail
  go_loopw [8, 19] (fun t8 t19 wx => ∃ k : Nat, k ≤ L.length ∧ t19 = .int .i64 k ∧ t8 = .int .i64 (sumZ (L.take k)) ∧ Hid (Gr w1 wx)) (fun _ t19 _ => L.length - (intOf t19).toNat)
  case atStart => exact ⟨0, by omega, rfl, rfl, Lib.hid (Gr.refl _)⟩
  case round =>
    obtain ⟨k, hk, rfl, rfl, HR⟩ := hrel
    by_cases hlt : k < L.length
    · have hlt' : (k : Int) < L.length := by omega
      have hx : L[k]? = some (L[k]'hlt) := List.getElem?_eq_getElem hlt
      obtain ⟨g, rfl, z1, z2, hc⟩ := HAT.out k _ hx
      clear z1 z2
      have hv := HK2.out _ (List.mem_of_getElem? hx)
      have hs := sumZ_le (L.take k) (take_sub HK2.out)
      rw [List.length_take] at hs
      have HSN : Hid (sumZ (L.take (k + 1)) = sumZ (L.take k) + (L[k]'hlt).size) := Lib.hid (by rw [List.take_add_one, hx]; exact sumZ_snoc _ _)
      generalize L[k]'hlt = x at *
      generalize sumZ (L.take k) = m at *
      have hr : ∀ i u, (enC x)[i]? = some u → wr.cell? ⟨g, k * 6 + i, none⟩ = some u := fun i u hu => HR.out.keep (hc i u hu)
      have d0 := hr 0 _ rfl
      have d1 := hr 1 _ rfl
      have d2 := hr 2 _ rfl
      have d3 := hr 3 _ rfl
      have d4 := hr 4 _ rfl
      have d5 := hr 5 _ rfl
      simp only [Nat.add_zero] at d0 d1 d2 d3 d4 d5
      obtain ⟨hv1, hv2⟩ := hv
      obtain ⟨hs1, hs2⟩ := hs
      have hs3 : m ≤ 8192 * 512 := by omega
      clear hr hc hx hs2
      go_wp2
      go_roundw
      case rel => exact ⟨k + 1, by omega, by go_num, by rw [HSN.out] <;> go_num, Lib.hid (HR.out.alloc _)⟩
      case measure => simp [intOf]; omega
    · have hlt' : ¬ (k : Int) < L.length := by omega
      have hkl : k = L.length := by omega
      have HS : Hid (sumZ (L.take k) = sumZ L) := Lib.hid (by rw [List.take_of_length_le (by omega)])
      clear hkl
      go_wp2
      go_ret2
      exact ⟨by rw [HS.out] <;> rfl, HG.out.trans HR.out⟩
set_option maxRecDepth 40000 in
set_option maxHeartbeats 2000000 in
theorem SameE (l1 l2 : List En) (v1 v2 : Value) (w : World) (h1 : Own w 56 6 v1 l1.length (rowE l1)) (h2 : Own w 56 6 v2 l2.length (rowE l2)) (hn : l1.length ≤ 1000000) :
    Calls Tryz.prog 24 #[v1, v2] w fun e w' => e = .returned (.bool (decide (l1 = l2))) ∧ Gr w w' := by
  obtain ⟨a1, cap1, rfl, hc1, hm1, hat1⟩ := ownE_at h1
  obtain ⟨a2, cap2, rfl, hc2, hm2, hat2⟩ := ownE_at h2
  have HA1 := Lib.hid hat1
  have HA2 := Lib.hid hat2
  clear h1 h2 hat1 hat2
  unfold maxLen at hm1 hm2
  by_cases hl : l1.length = l2.length
  · go_enter Tryz.func24, Tryz.ntmps24
    rw [← hl]
    rw [← hl] at hc2
    have HL := Lib.hid hl
    clear hl
    go_wp2_with fail
    go_loopw [5] (fun i wx => ∃ k : Nat, k ≤ l1.length ∧ i = .int .i64 k ∧ Hid (Gr w wx) ∧ Hid (l1.take k = l2.take k)) (fun i _ => l1.length - (intOf i).toNat)
    case atStart => exact ⟨0, by omega, rfl, Lib.hid (by (repeat (first | (with_reducible exact Gr.refl _) | assumption | (with_reducible apply Gr.from_drew) | (with_reducible apply Gr.alloc) | (with_reducible apply Gr.drew) | (with_reducible refine Gr.trans ?_ (by assumption)) | (with_reducible refine Gr.setCell ?_ (by omega) _)))), Lib.hid (by simp)⟩
    case round =>
      obtain ⟨k, hk, rfl, HG, HT⟩ := hrel
      by_cases hlt : k < l1.length
      · have hlt' : (k : Int) < l1.length := by omega
        have hx : l1[k]? = some (l1[k]'hlt) := List.getElem?_eq_getElem hlt
        have hy : l2[k]? = some (l2[k]'(by rw [← HL.out]; exact hlt)) := List.getElem?_eq_getElem _
        obtain ⟨g, rfl, z1, z2, c0⟩ := HA1.out k _ hx
        obtain ⟨g', rfl, z3, z4, c1⟩ := HA2.out k _ hy
        clear z1 z2 z3 z4
        have HX := Lib.hid hx
        have HY := Lib.hid hy
        generalize l1[k]'hlt = x at *
        generalize l2[k]'(by rw [← HL.out]; exact hlt) = y at *
        have hr : ∀ i u, (enC x)[i]? = some u → wr.cell? ⟨g, k * 6 + i, none⟩ = some u := fun i u hu => HG.out.keep (c0 i u hu)
        have hs : ∀ i u, (enC y)[i]? = some u → wr.cell? ⟨g', k * 6 + i, none⟩ = some u := fun i u hu => HG.out.keep (c1 i u hu)
        have d0 := hr 0 _ rfl
        have d1 := hr 1 _ rfl
        have d2 := hr 2 _ rfl
        have d3 := hr 3 _ rfl
        have d4 := hr 4 _ rfl
        have d5 := hr 5 _ rfl
        have e0 := hs 0 _ rfl
        have e1 := hs 1 _ rfl
        have e2 := hs 2 _ rfl
        have e3 := hs 3 _ rfl
        have e4 := hs 4 _ rfl
        have e5 := hs 5 _ rfl
        simp only [Nat.add_zero] at d0 d1 d2 d3 d4 d5 e0 e1 e2 e3 e4 e5
        have k1 := fun w => neqE_run x y w
        clear hr hs
        clear c0 c1 hx hy
        by_cases hxy : x = y
        · have hd : decide (x = y) = true := decide_eq_true hxy
          have HXY := Lib.hid hxy
          clear hxy
          go_wp2
          refine wp_region_flo (fun _ => False) [] [] (by kernel_rfl) (by kernel_rfl) (fun _ h => h.elim) ?_
          refine flo_seg 9 rfl ?_
          simp only [List.take_succ_cons, List.take_zero, List.drop_succ_cons, List.drop_zero]
          repeat (go_big_quiet_step (fail))
          refine wpQuiet_nil ?_
          refine flo_nil ?_
          go_wp2
          go_roundw
          case rel => exact ⟨k + 1, by omega, by go_num, Lib.hid (HG.out.trans (by (repeat (first | (with_reducible exact Gr.refl _) | assumption | (with_reducible apply Gr.from_drew) | (with_reducible apply Gr.alloc) | (with_reducible apply Gr.drew) | (with_reducible refine Gr.trans ?_ (by assumption)) | (with_reducible refine Gr.setCell ?_ (by omega) _))))), Lib.hid (by rw [List.take_add_one, List.take_add_one, HT.out, HX.out, HY.out, HXY.out])⟩
          case measure => simp [intOf]; omega
        · have hd : decide (x = y) = false := decide_eq_false hxy
          have HXY := Lib.hid hxy
          clear hxy
          have HNE : Hid (decide (l1 = l2) = false) := Lib.hid (by
            apply decide_eq_false
            rintro rfl
            rw [HX.out] at HY
            exact HXY.out (Option.some.inj HY.out))
          go_wp2
          refine wp_region_flo (fun _ => False) [] [] (by kernel_rfl) (by kernel_rfl) (fun _ h => h.elim) ?_
          refine flo_seg 9 rfl ?_
          simp only [List.take_succ_cons, List.take_zero, List.drop_succ_cons, List.drop_zero]
          repeat (go_big_quiet_step (fail))
          refine wpQuiet_nil ?_
          refine flo_nil ?_
          go_wp2
          go_ret
          exact ⟨ret_bool HNE.out.symm, HG.out.trans (by (repeat (first | (with_reducible exact Gr.refl _) | assumption | (with_reducible apply Gr.from_drew) | (with_reducible apply Gr.alloc) | (with_reducible apply Gr.drew) | (with_reducible refine Gr.trans ?_ (by assumption)) | (with_reducible refine Gr.setCell ?_ (by omega) _))))⟩
      · have hlt' : ¬ (k : Int) < l1.length := by omega
        have hkl : k = l1.length := by omega
        have HEQ : Hid (decide (l1 = l2) = true) := Lib.hid (by
          apply decide_eq_true
          have := HT.out
          rwa [List.take_of_length_le (by omega), List.take_of_length_le (by have := HL.out; omega)] at this)
        clear hkl
        go_wp2
        go_ret
        exact ⟨ret_bool HEQ.out.symm, HG.out⟩
  · have hb := beq_len _ _ hl
    have HNE : Hid (decide (l1 = l2) = false) := Lib.hid (decide_eq_false (fun e => hl (by rw [e])))
    clear hl
    go_enter Tryz.func24, Tryz.ntmps24
    go_wp2
    go_ret
    exact ⟨ret_bool HNE.out.symm, Gr.refl _⟩
end Go.Proofs.YtmdfickejpeofaaGreat

/- drumlinlaw24: put, del, kept. -/
set_option linter.unusedVariables false
set_option linter.unusedSimpArgs false
namespace Go.Proofs.YtmdfickejpeofaaGreat
open Go.RowKit Go.Shelf
attribute [local go_sem] OvM cell_ovm obj_ovm
attribute [local go_sem] Oper.semAt_some

def keptB (X : IX) (s : Int) (L : List En) : Bool := decide (keepC X s = 0 ∧ keepL X s = L)
end Go.Proofs.YtmdfickejpeofaaGreat

/- Functions that hold many ranges over functions, one after the other: the marks that they leave. No program in sight. -/
set_option linter.unusedVariables false
set_option linter.unusedSimpArgs false
namespace Go.Proofs.YtmdfickejpeofaaGreat
open Go.RowKit
variable {P : Program}

def cdf (D : Nat) : Deferred := { target := .collected D, args := #[] }
/-- The marks as a thing. -/
def dsA (Ds : List Nat) : Asn := ⟨fun k => k ∈ Ds, fun w => ∀ D ∈ Ds, w.heap[D]? = some (.deferred (some [])), fun h m hs D hD => m.blk (h D hD) (hs D hD), fun h k hk => blkLt (h k hk)⟩
def clD (Ds : List Nat) (w : World) : World := Ds.foldl (fun w D => w.putObj D (.deferred none)) w
theorem clD_mdh : ∀ (Ds : List Nat) (w : World), Mdh (fun k => k ∈ Ds) w (clD Ds w)
  | [], w => Mdh.refl _ _
  | D :: Ds, w => (((Mdh.refl (fun k => k = D) w).putObj rfl _).mono (fun k hk => by rw [hk]; exact List.mem_cons_self ..)).trans ((clD_mdh Ds (w.putObj D (.deferred none))).mono (fun k hk => List.mem_cons_of_mem _ hk))
theorem clD_gr {w0 w : World} {Ds : List Nat} (h : Gr w0 w) (hn : ∀ D ∈ Ds, w0.heap.size ≤ D) : Gr w0 (clD Ds w) := h.md (clD_mdh Ds w) hn
theorem leavesMn {fn : Func} {tmps : Array Value} {R : Ending → World → Prop} {v : Value} : ∀ (Ds : List Nat) (w : World), (∀ D ∈ Ds, w.heap[D]? = some (.deferred (some []))) → Ds.Nodup → (results fn tmps).run P (clD Ds w) = .ok v (clD Ds w) → R (.returned v) (clD Ds w) →
    LeavesInM Fence.wide 3 P fn tmps R (Ds.map cdf) .returning w
  | [], w, _, _, hr, hR => ⟨v, hr, hR⟩
  | D :: Ds, w, h, hn, hr, hR => by
    have hn' := List.nodup_cons.1 hn
    refine ⟨by simp, .inl ⟨D, _, rfl, run_takeDeferred (h D (List.mem_cons_self ..)), leavesMn Ds _ (fun E hE => ?_) hn'.2 hr hR⟩⟩
    have hne : E ≠ D := fun e => hn'.1 (e ▸ hE)
    exact (World.putObj_heap_other hne).trans (h E (List.mem_cons_of_mem _ hE))
theorem retMn {fn : Func} {R : Ending → World → Prop} {a : Act} {w : World} {v : Value} (Ds : List Nat) (hd : a.defers = Ds.map cdf) (hk : ∀ D ∈ Ds, w.heap[D]? = some (.deferred (some []))) (hn : Ds.Nodup)
    (hr : (results fn a.tmps).run P (clD Ds w) = .ok v (clD Ds w)) (hR : R (.returned v) (clD Ds w)) : bodyPostM Fence.wide 3 P fn R .ret a w := by
  show LeavesInM _ _ _ _ _ _ _ _ _
  rw [hd]
  exact leavesMn Ds w hk hn hr hR
theorem SWz.close {w0 wl W : World} {A Z : Nat → Prop} {R : List Asn} {Ds : List Nat} {D : Nat} (h : SWz w0 wl A (dsA Ds :: R) Z W) (hz : Z D) (hw : w0.heap.size ≤ wl.heap.size) (hdef : W.heap[D]? = some (.deferred (some []))) : SW w0 (dsA (D :: Ds) :: R) W ∧ D ∉ Ds := by
  have hd := h.s.s.dis
  refine ⟨⟨h.s.g, ⟨fun B hB => ?_, List.pairwise_cons.2 ⟨fun B hB k hk hb => ?_, (List.pairwise_cons.1 h.s.s.2).2⟩⟩, fun B hB k hk => ?_⟩, fun hm => h.z _ (List.mem_cons_self ..) D hm hz⟩
  · rcases List.mem_cons.1 hB with rfl | hB
    · intro E hE
      rcases List.mem_cons.1 hE with rfl | hE
      · exact hdef
      · exact (show ∀ D ∈ Ds, W.heap[D]? = some (.deferred (some [])) from h.s.s.head) E hE
    · exact h.s.s.1 B (List.mem_cons_of_mem _ hB)
  · rcases List.mem_cons.1 hk with rfl | hk
    · exact h.z B (List.mem_cons_of_mem _ hB) _ hb hz
    · exact hd B hB k hk hb
  · rcases List.mem_cons.1 hB with rfl | hB
    · rcases List.mem_cons.1 hk with rfl | hk
      · exact Nat.le_trans hw (h.zn _ hz)
      · exact h.s.n _ (List.mem_cons_self ..) k hk
    · exact h.s.n B (List.mem_cons_of_mem _ hB) k hk
theorem SW.noDs {w0 w : World} {R : List Asn} (h : SW w0 R w) : SW w0 (dsA [] :: R) w := h.new (Gr.refl _) (A := dsA []) (fun D hD => by cases hD) (fun k hk => by cases hk)
end Go.Proofs.YtmdfickejpeofaaGreat

/- liveness.Retired. -/
set_option linter.unusedVariables false
set_option linter.unusedSimpArgs false
namespace Go.Proofs.YtmdfickejpeofaaGreat
open Go.RowKit Go.Shelf
attribute [local go_sem] OvM cell_ovm obj_ovm
attribute [local go_sem] Oper.semAt_some

def retP (X : IX) (e : En) : Bool := e.del && !X.needs e
def retL (X : IX) (n : Nat) : List En := (List.range n).flatMap fun s => (X.slot (s : Nat)).filter (retP X)
theorem retL_succ (X : IX) (n : Nat) : retL X (n + 1) = retL X n ++ (X.slot (n : Nat)).filter (retP X) := by simp [retL, List.range_succ]
theorem retL_le {X : IX} (h : X.Wf) : ∀ n, (retL X n).length ≤ 512 * n
  | 0 => by simp [retL]
  | n + 1 => by
    rw [retL_succ, List.length_append]
    have h1 := retL_le h n
    have h2 := h.slot_le (n : Nat)
    have h3 := List.length_filter_le (retP X) (X.slot (n : Nat))
    omega
abbrev lvR (bo b1 : Nat) (p : Option Addr) (v : Value) (L : List En) : List Asn := [blkA bo (.cells #[v] 37), rowA 56 6 v L.length (rowE L), blkA b1 (.cells #[.pointer p] 35)]
def RetPost (X : IX) (w : World) (e : Ending) (w' : World) : Prop := ∃ v, e = .returned (.tuple #[v, .int .i64 (if X.slots = [] then 1 else 0)]) ∧ Nw w w' 56 6 v (retL X X.slots.length).length (rowE (retL X X.slots.length)) ∧ Gr w w'
end Go.Proofs.YtmdfickejpeofaaGreat

/- drumlinlaw24: the examples of the chapter. -/
set_option linter.unusedVariables false
set_option linter.unusedSimpArgs false
namespace Go.Proofs.YtmdfickejpeofaaGreat
open Go.RowKit Go.Shelf
attribute [local go_sem] OvM cell_ovm obj_ovm
attribute [local go_sem] Oper.semAt_some

theorem low_b {k : ByteArray} {c : UInt8} (h : k = ⟨#[c]⟩) (hc : c.toNat < 128) : Low k := by
  subst h
  intro j hj
  have h1 : j < 1 := hj
  have h0 : j = 0 := by omega
  subst h0
  exact hc
/-- Adding entries, all of which are taken. -/
structure AllAdd (l : List En) (X0 : IX) (St : Nat → IX) : Prop where
  z : St 0 = X0
  s : ∀ j x, l[j]? = some x → addE (St j) x = 0 ∧ St (j + 1) = addX (St j) x ∧ Low x.key ∧ En64 x
def stAdd (l : List En) (X0 : IX) (j : Nat) : IX := (l.take j).foldl addX X0
theorem stAdd_next (l : List En) (X0 : IX) (j : Nat) (x : En) (h : l[j]? = some x) : stAdd l X0 (j + 1) = addX (stAdd l X0 j) x := by
  unfold stAdd
  rw [List.take_add_one, h, List.foldl_append]
  rfl
def lvD : En := ⟨3, ⟨#[107]⟩, true, 1, 0, 17⟩
def lvM : En := ⟨4, ⟨#[109]⟩, false, 1, 20, 19⟩
def lvL : List En := [⟨1, ⟨#[107]⟩, false, 0, 0, 19⟩, ⟨2, ⟨#[109]⟩, false, 0, 20, 19⟩, lvD, lvM, ⟨4, ⟨#[109]⟩, false, 2, 0, 19⟩]
theorem lv_add : AllAdd lvL (ixNew 3) (stAdd lvL (ixNew 3)) := ⟨rfl, by
  intro j x h
  refine (fun (a : addE (stAdd lvL (ixNew 3) j) x = 0 ∧ Low x.key ∧ En64 x) => ⟨a.1, stAdd_next _ _ j x h, a.2⟩) ?_
  match j, h with
  | 0, h => cases h; exact ⟨by kernel_rfl, low_b rfl (by decide), by unfold En64; decide⟩
  | 1, h => cases h; exact ⟨by kernel_rfl, low_b rfl (by decide), by unfold En64; decide⟩
  | 2, h => cases h; exact ⟨by kernel_rfl, low_b rfl (by decide), by unfold En64; decide⟩
  | 3, h => cases h; exact ⟨by kernel_rfl, low_b rfl (by decide), by unfold En64; decide⟩
  | 4, h => cases h; exact ⟨by kernel_rfl, low_b rfl (by decide), by unfold En64; decide⟩
  | _ + 5, h => cases h⟩
def lvX : IX := stAdd lvL (ixNew 3) 5
def lvX1 : IX := dropX lvX 0
def lvX2 : IX := dropX lvX1 2
theorem lv_k0 : keptB lvX 0 [] = true := by kernel_rfl
theorem lv_k1 : keptB lvX 1 [lvD] = true := by kernel_rfl
theorem lv_k2 : keptB lvX 2 [] = true := by kernel_rfl
theorem lv_n1 : neededV lvX ⟨3, ⟨#[107]⟩, true, 1, 1, 17⟩ = .tuple #[.bool false, .int .i64 5] := by kernel_rfl
theorem lv_n2 : neededV lvX lvD = .tuple #[.bool true, .int .i64 0] := by kernel_rfl
theorem lv_d1 : (lvX.slot 0).length = 2 ∧ dropC lvX 0 = 0 := ⟨by kernel_rfl, by kernel_rfl⟩
theorem lv_k3 : keptB lvX1 1 [] = true := by kernel_rfl
theorem lv_r : retL lvX1 lvX1.slots.length = [lvD] := by kernel_rfl
theorem lv_s : (if lvX1.slots = [] then (1 : Int) else 0) = 0 := by kernel_rfl
theorem lv_d2 : (lvX1.slot 2).length = 1 ∧ dropC lvX1 2 = 0 := ⟨by kernel_rfl, by kernel_rfl⟩
theorem lv_k4 : keptB lvX2 1 [lvM] = true := by kernel_rfl
theorem own_nilE (w : World) : Own w 56 6 (.slice none 0 0) ([] : List En).length (rowE []) := nilRow w _ _
end Go.Proofs.YtmdfickejpeofaaGreat

/- drumlinlaw22: example, works. -/
set_option linter.unusedVariables false
set_option linter.unusedSimpArgs false
namespace Go.Proofs.YtmdfickejpeofaaGreat
open Go.RowKit Go.Shelf
attribute [local go_sem] OvM cell_ovm obj_ovm
attribute [local go_sem] Oper.semAt_some

def kd1 : En := ⟨1, ⟨#[97]⟩, false, 0, 0, 20⟩
def kd2 : En := ⟨2, ⟨#[98]⟩, false, 0, 20, 18⟩
def kd3 : En := ⟨3, ⟨#[97]⟩, true, 1, 0, 17⟩
def kd4 : En := ⟨1, ⟨#[97]⟩, false, 2, 0, 20⟩
def kdL : List En := [kd1, kd2, kd3, kd4]
theorem kd_add : AllAdd kdL (ixNew 3) (stAdd kdL (ixNew 3)) := ⟨rfl, by
  intro j x h
  refine (fun (a : addE (stAdd kdL (ixNew 3) j) x = 0 ∧ Low x.key ∧ En64 x) => ⟨a.1, stAdd_next _ _ j x h, a.2⟩) ?_
  match j, h with
  | 0, h => cases h; exact ⟨by kernel_rfl, low_b rfl (by decide), by unfold En64; decide⟩
  | 1, h => cases h; exact ⟨by kernel_rfl, low_b rfl (by decide), by unfold En64; decide⟩
  | 2, h => cases h; exact ⟨by kernel_rfl, low_b rfl (by decide), by unfold En64; decide⟩
  | 3, h => cases h; exact ⟨by kernel_rfl, low_b rfl (by decide), by unfold En64; decide⟩
  | _ + 4, h => cases h⟩
def kdX : IX := stAdd kdL (ixNew 3) 4
theorem kd_f1 : findV kdX ⟨#[98]⟩ = .tuple #[.agg #[.int .i64 2, .string ⟨#[98]⟩, .bool false, .int .i64 0, .int .i64 20, .int .i64 18], .bool true, .int .i64 0] := by kernel_rfl
theorem kd_f2 : findV kdX ⟨#[97]⟩ = .tuple #[.agg #[.int .i64 0, .string ⟨#[]⟩, .bool false, .int .i64 0, .int .i64 0, .int .i64 0], .bool false, .int .i64 0] := by kernel_rfl
theorem kd_c : sumR kdX (fun _ => 1) = .tuple #[.int .i64 1, .int .i64 0] := by kernel_rfl
theorem kd_t : sumR kdX (fun e => e.size) = .tuple #[.int .i64 18, .int .i64 0] := by kernel_rfl
theorem kd_s1 : shadV kdX kd4 = .tuple #[.bool true, .int .i64 0] := by kernel_rfl
theorem kd_s2 : shadV kdX ⟨1, ⟨#[97]⟩, false, 1, 0, 20⟩ = .tuple #[.bool false, .int .i64 5] := by kernel_rfl
theorem kd_l : liveL kdX = [(⟨#[98]⟩, kd2)] := by kernel_rfl
set_option maxRecDepth 40000 in
set_option maxHeartbeats 4000000 in
theorem kd_example (w : World) : Calls Tryz.prog 72 #[] w fun e w' => ∃ b S, e = .returned (.pointer (some ⟨b, 0, none⟩)) ∧ SW w [ixA b kdX S] w' := by
  have HST := Lib.hid kd_add.s
  go_enter Tryz.func72, Tryz.ntmps72
  go_wp2_with fail
  refine (New_any 3 w (by decide) (by decide)).mono ?_
  rintro e w2 ⟨b, S, rfl, h1, h2, h3⟩
  have HS1 : Hid (SW w [ixA b (stAdd kdL (ixNew 3) 0) S] w2) := Lib.hid ((SW.start w).ixnew h1 h2 h3)
  clear h1 h2 h3
  go_wp2_with fail
  obtain ⟨g, hg⟩ : ∃ q, q = w2.heap.size := ⟨_, rfl⟩
  obtain ⟨w3, hw3⟩ : ∃ y, y = w2.alloc (.cells (rowE kdL).toArray 56) := ⟨_, rfl⟩
  have HS3 : Hid (SW w [ixA b (stAdd kdL (ixNew 3) 0) S, blkA g (.cells (rowE kdL).toArray 56)] w3) := Lib.hid (by rw [hw3, hg]; exact HS1.out.allocT _)
  simp only [rowE, kdL, kd1, kd2, kd3, kd4, enC, List.flatMap_cons, List.flatMap_nil, List.cons_append, List.nil_append, List.append_nil] at hw3
  rw [← hw3, ← hg]
  clear hw3 hg
  go_loopw [17] (fun t17 wx => ∃ (j : Nat) (S : Nat → Prop), j ≤ 4 ∧ t17 = .int .i64 j ∧ Hid (SW w [ixA b (stAdd kdL (ixNew 3) j) S, blkA g (.cells (rowE kdL).toArray 56)] wx)) (fun t17 _ => 4 - (intOf t17).toNat)
  case atStart => exact ⟨0, S, by omega, rfl, HS3⟩
  case round =>
    obtain ⟨j, S, hj, rfl, HR⟩ := hrel
    by_cases hlt : j < 4
    · have hlt' : (j : Int) < 4 := by omega
      obtain ⟨x, hx⟩ : ∃ x, kdL[j]? = some x := ⟨_, List.getElem?_eq_getElem (show j < 4 from hlt)⟩
      have HX := Lib.hid (HST.out j x hx)
      have cc := (cellsOf (show wr.heap[g]? = _ from HR.out.get (i := 1) rfl)).1
      have hr : ∀ c u, (enC x)[c]? = some u → wr.cell? ⟨g, j * 6 + c, none⟩ = some u := fun c u hu => (cc _).trans (by rw [List.getElem?_toArray]; exact rowE_get kdL j x hx c u hu)
      have d0 := hr 0 _ rfl
      have d1 := hr 1 _ rfl
      have d2 := hr 2 _ rfl
      have d3 := hr 3 _ rfl
      have d4 := hr 4 _ rfl
      have d5 := hr 5 _ rfl
      simp only [Nat.add_zero] at d0 d1 d2 d3 d4 d5
      clear hr cc hx
      generalize hst : stAdd kdL (ixNew 3) (j + 1) = Y1 at HX
      have HY := Lib.hid hst
      clear hst
      go_wp2_with (go_at_call 44; refine (Add_any (HR.out.gr ((Gr.refl _).alloc _)).ix x HX.out.2.2.1 HX.out.2.2.2).mono ?_; rintro e w4 ⟨rfl, hp⟩; rw [HX.out.1]; have HP := Lib.hid hp; clear hp)
      obtain ⟨S', hI⟩ := (HR.out.gr ((Gr.refl _).alloc _)).post HP.out
      go_roundw
      case rel => exact ⟨j + 1, S', by omega, by go_num, Lib.hid (by rw [HY.out, HX.out.2.1]; exact hI)⟩
      case measure => simp [intOf]; omega
    · have hlt' : ¬ (j : Int) < 4 := by omega
      obtain rfl : j = 4 := by omega
      go_wp2
      go_ret
      exact ⟨b, rfl, S, HR.out.sub (.cons_cons _ (List.nil_sublist _))⟩
set_option maxRecDepth 40000 in
set_option maxHeartbeats 8000000 in
theorem kd_works (w : World) : Calls Tryz.prog 18 #[] w fun e w' => e = .returned (.bool true) ∧ Gr w w' := by
  go_enter Tryz.func18, Tryz.ntmps18
  go_wp2_with fail
  refine (kd_example w).mono ?_
  rintro e w1 ⟨b, S, rfl, hs⟩
  have H1 := Lib.hid hs
  clear hs
  go_wp2_with fail
  refine (Find_any H1.out.ixp ⟨#[98]⟩).mono ?_
  rintro e w2 ⟨rfl, hg⟩
  rw [kd_f1]
  have H2 := Lib.hid (H1.out.gr hg)
  clear hg
  go_wp2_with fail
  obtain ⟨b2, hb2⟩ : ∃ q, q = w2.heap.size := ⟨_, rfl⟩
  obtain ⟨w3, hw3⟩ : ∃ y, y = w2.alloc (.cells (enC kd2).toArray 56) := ⟨_, rfl⟩
  have H3 : Hid (SW w [ixA b kdX S, blkA b2 (.cells (enC kd2).toArray 56)] w3) := Lib.hid (by rw [hw3, hb2]; exact H2.out.allocT _)
  simp only [enC, kd2] at hw3
  rw [← hw3, ← hb2]
  clear hw3 hb2
  refine (Find_any H3.out.ixp ⟨#[97]⟩).mono ?_
  rintro e w4 ⟨rfl, hg⟩
  rw [kd_f2]
  have H4 := Lib.hid (H3.out.gr hg)
  clear hg
  go_wp2_with fail
  refine (Count_any (H4.out.gr ((Gr.refl _).alloc _)).ixp).mono ?_
  rintro e w5 ⟨rfl, hg⟩
  rw [kd_c]
  have H5 := Lib.hid (H4.out.gr (((Gr.refl _).alloc _).trans hg))
  clear hg
  go_wp2_with fail
  refine (Cost_any H5.out.ixp).mono ?_
  rintro e w6 ⟨rfl, hg⟩
  rw [kd_t]
  have H6 := Lib.hid (H5.out.gr hg)
  clear hg
  go_wp2_with fail
  refine (Shadowed_any H6.out.ixp kd4).mono ?_
  rintro e w7 ⟨rfl, hg⟩
  rw [kd_s1]
  have H7 := Lib.hid (H6.out.gr hg)
  clear hg
  go_wp2_with fail
  refine (Shadowed_any H7.out.ixp ⟨1, ⟨#[97]⟩, false, 1, 0, 20⟩).mono ?_
  rintro e w8 ⟨rfl, hg⟩
  rw [kd_s2]
  have H8 := Lib.hid (H7.out.gr hg)
  clear hg
  go_wp2_with fail
  refine (live22_any H8.out.ixp).mono ?_
  rintro e w9 ⟨v1, v2, rfl, o1, o2, hg⟩
  rw [kd_l] at o1 o2
  obtain ⟨a1, c1, rfl, k1, m1, at1⟩ := ownS_at (l := [⟨#[98]⟩]) o1
  obtain ⟨a2, c2, rfl, k2, m2, at2⟩ := ownE_at (l := [kd2]) o2
  obtain ⟨g1, rfl, y0, y0b, y1⟩ := at1 0 _ rfl
  obtain ⟨g2, rfl, y2, y3, y4⟩ := at2 0 _ rfl
  have H9 := Lib.hid (H8.out.gr hg)
  have d2 := (cellsOf (show w9.heap[b2]? = _ from H9.out.get (i := 1) rfl)).1
  simp only [enC, kd2] at d2
  have e0 := y4 0 _ rfl
  have e1 := y4 1 _ rfl
  have e2 := y4 2 _ rfl
  have e3 := y4 3 _ rfl
  have e4 := y4 4 _ rfl
  have e5 := y4 5 _ rfl
  simp only [kd2, Nat.zero_mul, Nat.zero_add] at e0 e1 e2 e3 e4 e5
  have ke := eqlE_run kd2 kd2
  simp only [kd2, decide_true] at ke
  simp only [List.length_cons, List.length_nil, Nat.reduceAdd]
  clear hg o1 o2 at1 at2 y4
  go_wp2_with fail
  refine wp_region_flo (fun _ => False) [] [] (by kernel_rfl) (by kernel_rfl) (fun _ h => h.elim) ?_
  (try simp only [List.append_eq, List.cons_append, List.nil_append])
  refine flo_seg 64 rfl ?_
  simp only [List.take_succ_cons, List.take_zero, List.drop_succ_cons, List.drop_zero]
  repeat (go_big_quiet_step (fail))
  refine wpQuiet_nil ?_
  refine flo_nil ?_
  go_wp2
  go_ret
  exact ⟨rfl, H9.out.g.drew⟩
end Go.Proofs.YtmdfickejpeofaaGreat
