/- What the map of an index is, as a sorted list of keys; KeydirDrops in plain Lean. No walk. -/
import Derived.Test.YthefpmmeoajaiaaBd15
import Derived.Test.YthefpmmeoajaiaaBd12
import Derived.Test.YthefpmmeoajaiaaBd16
import Derived.Test.YthefpmmeoajaiaaBd13
import Derived.Test.YthefpmmeoajaiaaBd17
import Derived.Test.YthefpmmeoajaiaaBd18
set_option linter.unusedVariables false
set_option linter.unusedSimpArgs false
namespace Go.Proofs.Ythefpmmeoajaiaa

section
variable {X : IX}
theorem mem_ks (h : X.Wf) (k : ByteArray) : k ∈ X.ks ↔ X.of k ≠ [] := by
  constructor
  · intro hk
    obtain ⟨x, hx, rfl⟩ := List.mem_map.1 hk
    unfold IX.of
    rw [(look_mem ordS h.k0 x.1 x.2).2 hx]
    exact (h.k x hx).ne
  · intro hk
    unfold IX.of at hk
    cases hl : look ltS X.keys k with
    | none => rw [hl] at hk; exact absurd rfl hk
    | some l => exact List.mem_map.2 ⟨(k, l), (look_mem ordS h.k0 k l).1 hl, rfl⟩
theorem ks_srt (h : X.Wf) : X.ks.Pairwise (fun a b => ltS a b = true) := List.pairwise_map.2 h.k0
theorem findE_ne {k : ByteArray} (h : (findE X k).isSome = true) : X.of k ≠ [] := fun h0 => by
  unfold findE at h
  rw [h0] at h
  cases h
/-- The keys of the map: those of the index that are found. -/
def lvK (X : IX) : List ByteArray := X.ks.filter (fun k => (findE X k).isSome)
def szK (X : IX) (k : ByteArray) : Int := ((findE X k).getD zE).size
theorem lvF_fst (l : List ByteArray) : (lvF X l).map (fun x => x.1) = l.filter (fun k => (findE X k).isSome) ∧ (lvF X l).map (fun x => x.2.size) = (l.filter (fun k => (findE X k).isSome)).map (szK X) := by
  induction l with
  | nil => exact ⟨rfl, rfl⟩
  | cons k l ih =>
    unfold lvF at *
    rw [List.filterMap_cons, List.filter_cons]
    cases hf : findE X k with
    | none => simpa using ih
    | some e =>
      simp only [Option.map_some, Option.isSome_some, if_true, List.map_cons]
      refine ⟨by rw [ih.1], ?_⟩
      rw [ih.2]
      congr 1
      unfold szK
      rw [hf]
      rfl
theorem live_keys : (liveL X).map (fun x => x.1) = lvK X := (lvF_fst X.ks).1
theorem sumF_map (f : En → Int) : ∀ l : List (ByteArray × En), sumF f l = (l.map (fun x => f x.2)).sum := by
  have h : ∀ (l : List (ByteArray × En)) (a : Int), l.foldl (fun a x => a + f x.2) a = a + (l.map (fun x => f x.2)).sum := by
    intro l
    induction l with
    | nil => intro a; simp
    | cons x l ih => intro a; rw [List.foldl_cons, ih, List.map_cons, List.sum_cons]; omega
  intro l
  have := h l 0
  unfold sumF
  omega
theorem live_size : sumF (fun e => e.size) (liveL X) = ((lvK X).map (szK X)).sum := by
  rw [sumF_map, show ((liveL X).map (fun x => x.2.size)) = (lvK X).map (szK X) from (lvF_fst X.ks).2]
theorem lvK_mem (h : X.Wf) (k : ByteArray) : k ∈ lvK X ↔ (findE X k).isSome = true := by
  unfold lvK
  rw [List.mem_filter, mem_ks h]
  exact ⟨fun h => h.2, fun h2 => ⟨findE_ne h2, h2⟩⟩
theorem lvK_srt (h : X.Wf) : (lvK X).Pairwise (fun a b => ltS a b = true) := (ks_srt h).sublist List.filter_sublist
theorem keys_eq {l m : List ByteArray} (hl : l.Pairwise (fun a b => ltS a b = true)) (hm : m.Pairwise (fun a b => ltS a b = true)) (h : ∀ x, x ∈ l ↔ x ∈ m) : l = m :=
  pair_eq (R := fun a b => ltS a b = true) (fun a => by rw [ordS.irr]; decide) (fun a b c h1 h2 => ordS.trn h1 h2) hl hm h
end
/-- Each entry of the slot is shadowed, or has a copy elsewhere. -/
def okD (X : IX) (all : List En) (s : Int) (e : En) : Bool := decide (e.seq < ((X.of e.key).headD zE).seq) || all.any (fun o => !decide (o.slot = s) && decide (o.key = e.key) && decide (o.seq = e.seq))
section
variable {X : IX} {all : List En} {en : Int → Int} {n : Int}
theorem drop_find (h : FG X all en n) {s : Int} (hk : ∀ e ∈ all, e.slot = s → okD X all s e = true) (k : ByteArray) : (findE (dropX X s) k).isSome = (findE X k).isSome ∧ szK (dropX X s) k = szK X k := by
  have hof := drop_of h.wf s k
  have hp := h.wf.ofPair k
  have hall := h.of k
  unfold szK
  cases hl : X.of k with
  | nil =>
    rw [hl, List.filter_nil] at hof
    unfold findE
    rw [hof, hl]
    exact ⟨rfl, rfl⟩
  | cons y t =>
    rw [hl] at hof hp hall
    have hy := (hall y).1 (List.mem_cons_self ..)
    rw [List.filter_cons] at hof
    by_cases hs : y.slot = s
    · rw [if_neg (by simp [hs])] at hof
      have h1 := hk y hy.1 hs
      unfold okD at h1
      rw [hy.2, hl, List.headD_cons, decide_eq_false (Int.lt_irrefl _), Bool.false_or] at h1
      obtain ⟨o, ho, h2⟩ := List.any_eq_true.1 h1
      simp only [Bool.and_eq_true, Bool.not_eq_true', decide_eq_false_iff_not, decide_eq_true_eq] at h2
      have h3 : o ∈ t.filter (fun o => decide (o.slot ≠ s)) := by
        refine List.mem_filter.2 ⟨?_, decide_eq_true h2.1.1⟩
        rcases List.mem_cons.1 ((hall o).2 ⟨ho, h2.1.2⟩) with h4 | h4
        · rw [h4] at h2; exact absurd hs h2.1.1
        · exact h4
      cases hf : t.filter (fun o => decide (o.slot ≠ s)) with
      | nil => rw [hf] at h3; cases h3
      | cons z u =>
        rw [hf] at h3 hof
        have hz : z ∈ t := (List.mem_filter.1 (show z ∈ t.filter (fun o => decide (o.slot ≠ s)) by rw [hf]; exact List.mem_cons_self ..)).1
        have hyz : ltE y z = true := (List.pairwise_cons.1 hp).1 z hz
        have hza := (hall z).1 (List.mem_cons_of_mem _ hz)
        have hpt : (z :: u).Pairwise (fun a b => ltE a b = true) := by rw [← hf]; exact (List.pairwise_cons.1 hp).2.sublist List.filter_sublist
        have hq : z.seq = y.seq := by
          unfold ltE at hyz
          have h5 := of_decide_eq_true hyz
          rcases List.mem_cons.1 h3 with h4 | h4
          · rw [← h4]; exact h2.2
          · have h6 := (List.pairwise_cons.1 hpt).1 o h4
            unfold ltE at h6
            have h7 := of_decide_eq_true h6
            omega
        obtain ⟨c1, c2, c3⟩ := h.cp z hza.1 y hy.1 hq
        unfold findE
        rw [hof, hl]
        simp only
        rw [c2]
        cases y.del
        · exact ⟨rfl, c3⟩
        · exact ⟨rfl, rfl⟩
    · rw [if_pos (by simp [hs])] at hof
      unfold findE
      rw [hof, hl]
      exact ⟨rfl, rfl⟩
theorem drop_live (h : FG X all en n) {s : Int} (hk : ∀ e ∈ all, e.slot = s → okD X all s e = true) : lvK (dropX X s) = lvK X ∧ sumF (fun e => e.size) (liveL (dropX X s)) = sumF (fun e => e.size) (liveL X) := by
  have hw := drop_wf h.wf s
  have e1 : lvK (dropX X s) = lvK X := keys_eq (lvK_srt hw) (lvK_srt h.wf) (fun k => by rw [lvK_mem hw, lvK_mem h.wf, (drop_find h hk k).1])
  refine ⟨e1, ?_⟩
  rw [live_size, live_size, e1]
  congr 1
  exact List.map_congr_left (fun k _ => (drop_find h hk k).2)
end
end Go.Proofs.Ythefpmmeoajaiaa

/- KeydirDrops: what its loops compute, in plain Lean. No walk. -/
set_option linter.unusedVariables false
set_option linter.unusedSimpArgs false
namespace Go.Proofs.Ythefpmmeoajaiaa
def cpP (s : Int) (e o : En) : Bool := !decide (o.slot = s) && decide (o.key = e.key) && decide (o.seq = e.seq)
def keepD (X : IX) (all : List En) (s : Int) (e : En) : Bool := !decide (e.slot = s) || okD X all s e
theorem okD_eq (X : IX) (all : List En) (s : Int) (e : En) : okD X all s e = (decide (e.seq < ((X.of e.key).headD zE).seq) || all.any (cpP s e)) := rfl
theorem allD_snoc {p : En → Bool} {l : List En} {i : Nat} {x : En} (h : l[i]? = some x) : (l.take (i + 1)).all p = ((l.take i).all p && p x) := by
  rw [List.take_add_one, h, List.all_append]
  simp
theorem anyD_snoc {p : En → Bool} {l : List En} {i : Nat} {x : En} (h : l[i]? = some x) : (l.take (i + 1)).any p = ((l.take i).any p || p x) := by
  rw [List.take_add_one, h, List.any_append]
  simp
theorem allD_ok {X : IX} {all : List En} {s : Int} (h : all.all (keepD X all s) = true) : ∀ e ∈ all, e.slot = s → okD X all s e = true := fun e he hs => by
  have := List.all_eq_true.1 h e he
  unfold keepD at this
  rw [decide_eq_true hs] at this
  simpa using this
theorem shadD {X : IX} {all : List En} {en : Int → Int} {n : Int} (h : FG X all en n) {e : En} (he : e ∈ all) : shadV X e = .tuple #[.bool (decide (e.seq < ((X.of e.key).headD zE).seq)), .int .i64 0] := by
  have hm := (h.of e.key e).2 ⟨he, rfl⟩
  unfold shadV
  rw [if_neg h.ne, if_pos (List.any_eq_true.2 ⟨e, hm, decide_eq_true rfl⟩)]
theorem sumD {X : IX} (h : X.slots ≠ []) (f : En → Int) : sumR X f = .tuple #[.int .i64 (sumF f (liveL X)), .int .i64 0] := by
  unfold sumR
  rw [if_neg h]
/-- What is the same behind the drop. -/
theorem dropD {X : IX} {all : List En} {en : Int → Int} {n : Int} (h : FG X all en n) {s : Int} (hs : 0 ≤ s) (hs2 : s < n) (hk : all.all (keepD X all s) = true) :
    (liveL (dropX X s)).map (fun x => x.1) = (liveL X).map (fun x => x.1) ∧ (liveL (dropX X s)).length = (liveL X).length ∧ sumR (dropX X s) (fun e => e.size) = .tuple #[.int .i64 (sumF (fun e => e.size) (liveL X)), .int .i64 0] := by
  obtain ⟨h1, h2⟩ := drop_live h (allD_ok hk)
  have e1 : (liveL (dropX X s)).map (fun x => x.1) = (liveL X).map (fun x => x.1) := by rw [live_keys, live_keys, h1]
  refine ⟨e1, by have := congrArg List.length e1; simpa using this, ?_⟩
  rw [sumD ?_, h2]
  rw [drop_yes (h.has hs hs2)]
  intro h0
  have := h.ne
  apply this
  have h3 := congrArg List.length h0
  simp only [List.length_set, List.length_nil] at h3
  exact List.eq_nil_of_length_eq_zero h3
end Go.Proofs.Ythefpmmeoajaiaa

/- KeydirDrops: the walk. -/
set_option linter.unusedVariables false
set_option linter.unusedSimpArgs false
namespace Go.Proofs.Ythefpmmeoajaiaa
open Go.RowKit Go.Shelf
attribute [local go_sem] OvM cell_ovm obj_ovm
attribute [local go_sem] Oper.semAt_some

set_option maxRecDepth 40000 in
set_option maxHeartbeats 16000000 in
theorem KeydirDrops_any (u : Int) (a : Option Addr) (len cap : Nat) (L : List Tn) (w : World) (hu0 : 0 ≤ u) (hu1 : u ≤ 255) (hl : L.length = len) (hle : len ≤ cap) (hcap : cap ≤ maxLen) (hs : TurnAt w a L) :
    Calls Try.prog 7 #[.int .u8 u, .slice a len cap] w fun e w' => e = .returned (.bool true) ∧ Gr w w' := by
  by_cases h80 : 80 < len
  · have h80' : (80 : Int) < len := by omega
    clear hs hl
    go_enter Try.func7, Try.ntmps7
    go_wp2_with (go_at_call 22; refine (kd_works _).mono ?_; rintro e w1 ⟨rfl, hg⟩; have HG := Lib.hid hg; clear hg)
    go_ret
    exact ⟨rfl, HG.out⟩
  have h80' : ¬ (80 : Int) < len := by omega
  obtain ⟨n, hn⟩ : ∃ n : Nat, 1 + u % 8 = (n : Int) := ⟨(1 + u % 8).toNat, by omega⟩
  have hn1 : 1 ≤ n := by omega
  have hn2 : n ≤ 32 := by omega
  have HST := Lib.hid (foldM_ok n hn1 hn2 len L hl (by omega) (turnOk hs))
  have HS := Lib.hid hs
  have HL := Lib.hid hl
  clear hs hl
  go_enter Try.func7, Try.ntmps7
  go_wp2_with fail
  (try rw [hn])
  refine (Begin_any (SW.start w) n hn1 hn2).mono ?_
  rintro e w1 ⟨b, rb, mb, v1, v2, S, rfl, hs⟩
  have H1 := Lib.hid hs
  clear hs
  go_wp2_with fail
  refine (Play_any H1.out hn1 hn2 HL.out (by omega) hle hcap HS.out).mono ?_
  rintro e w2 ⟨rfl, v1', v2', S', hs⟩
  have H2 := Lib.hid hs
  clear hs H1 HS HL
  generalize foldM n L = st at *
  obtain ⟨X, all, nx⟩ := st
  have HFG := Lib.hid HST.out.g
  have hal : all.length ≤ 100 := by have := HST.out.n; simp only at this; omega
  simp only at HFG
  clear HST hn
  obtain ⟨av, cv, rfl, hcv, hmv, _⟩ := ownE_at (show Own w2 43 6 v2' all.length (rowE all) from H2.out.get (i := 4) rfl)
  unfold maxLen at hmv
  have dm0 := ((cellsOf (show w2.heap[mb]? = _ from H2.out.get (i := 3) rfl)).1 0).trans (show _ = some (Value.pointer (some ⟨b, 0, none⟩)) from rfl)
  go_wp2_with fail
  refine (live22_any (.inl ⟨b, rfl, H2.out.get (i := 0) rfl⟩)).mono ?_
  rintro e w3 ⟨v7, v8, rfl, ho7, _, hg⟩
  have H3 := Lib.hid (H2.out.gr hg)
  have HKL : Hid (((liveL X).map (fun x => x.1)).length = (liveL X).length) := Lib.hid (by simp)
  obtain ⟨a7, c7, hv7, hc7, hm7, _⟩ := ownS_at (show Own w3 9 1 v7 ((liveL X).map (fun x => x.1)).length (kS ((liveL X).map (fun x => x.1))) by rw [HKL.out]; exact ho7)
  rw [HKL.out] at hv7 hc7
  subst hv7
  have HO7 := Lib.hid ho7
  clear ho7 hg H2 dm0
  have dm0 := ((cellsOf (show w3.heap[mb]? = _ from H3.out.get (i := 3) rfl)).1 0).trans (show _ = some (Value.pointer (some ⟨b, 0, none⟩)) from rfl)
  have HSU := Lib.hid (sumD HFG.out.ne (fun e : En => e.size))
  have HDD := Lib.hid (fun (s : Int) (h1 : 0 ≤ s) (h2 : s < n) (h : all.all (keepD X all s) = true) => dropD HFG.out h1 h2 h)
  have HSD := Lib.hid (fun (e : En) (he : e ∈ all) => shadD HFG.out he)
  have HLN := Lib.hid (live_len HFG.out.wf)
  have HNE := Lib.hid HFG.out.ne
  have HXL := Lib.hid HFG.out.ln
  generalize sumF (fun e : En => e.size) (liveL X) = cs at *
  go_wp2_with fail
  refine (Cost_any (.inl ⟨b, rfl, H3.out.get (i := 0) rfl⟩)).mono ?_
  rintro e w4 ⟨rfl, hg⟩
  rw [HSU.out]
  have H4 := Lib.hid (H3.out.gr hg)
  replace HO7 := Lib.hid (HO7.out.gr hg)
  clear hg H3 dm0
  go_wp2_with fail
  go_loopw [11] (fun t11 wx => ∃ s : Nat, s ≤ n ∧ t11 = .int .i64 s ∧ Hid (SW w (mL b rb mb n v1' (.slice av all.length cv) S' ⟨X, all, nx⟩ []) wx ∧ Own wx 9 1 (.slice a7 (liveL X).length c7) (liveL X).length (kS ((liveL X).map (fun x => x.1))))) (fun t11 _ => n - (intOf t11).toNat)
  case atStart => exact ⟨0, by omega, rfl, Lib.hid ⟨H4.out, HO7.out⟩⟩
  case round =>
    obtain ⟨s, hsn, rfl, HI⟩ := hrel
    clear H4 HO7
    have hsn' : (s : Int) ≤ n := by omega
    have dm0 := ((cellsOf (show wr.heap[mb]? = _ from HI.out.1.get (i := 3) rfl)).1 0).trans (show _ = some (Value.pointer (some ⟨b, 0, none⟩)) from rfl)
    have HSL := Lib.hid (Slots_any (.inl ⟨b, rfl, (show IXR wr b X S' from HI.out.1.get (i := 0) rfl)⟩))
    rw [show (X.slots.length : Int) = (n : Int) from HXL.out] at HSL
    go_wp2_with fail
    refine Calls.mono HSL.out ?_
    rintro e w5 ⟨rfl, rfl⟩
    clear HSL
    by_cases hlt : s < n
    · have hlt' : (s : Int) < n := by omega
      go_wp2_with fail
      go_loopw [12, 13] (fun t12 t13 wx => ∃ i : Nat, i ≤ all.length ∧ t12 = .bool ((all.take i).all (keepD X all s)) ∧ t13 = .int .i64 i ∧ Hid (SW w (mL b rb mb n v1' (.slice av all.length cv) S' ⟨X, all, nx⟩ []) wx ∧ Own wx 9 1 (.slice a7 (liveL X).length c7) (liveL X).length (kS ((liveL X).map (fun x => x.1))))) (fun _ t13 _ => all.length - (intOf t13).toNat)
      case atStart => exact ⟨0, by omega, rfl, rfl, HI⟩
      case round =>
        obtain ⟨i, hil, rfl, rfl, HJ⟩ := hrel
        clear HI dm0
        have dm := (cellsOf (show wr.heap[mb]? = _ from HJ.out.1.get (i := 3) rfl)).1
        have dm0 := (dm 0).trans (show _ = some (Value.pointer (some ⟨b, 0, none⟩)) from rfl)
        have dm2 := (dm 2).trans (show _ = some (Value.slice av all.length cv) from rfl)
        clear dm
        by_cases hli : i < all.length
        · have hli' : (i : Int) < all.length := by omega
          obtain ⟨x, hx⟩ : ∃ x, all[i]? = some x := ⟨_, List.getElem?_eq_getElem hli⟩
          obtain ⟨g0, rfl, hg0, y0, y1, y2, y3, y4, y5⟩ := ent6 (show Own wr 43 6 (.slice av all.length cv) all.length (rowE all) from HJ.out.1.get (i := 4) rfl) hx
          have HAS := Lib.hid (allD_snoc (p := keepD X all s) hx)
          have HXS := Lib.hid (HSD.out x (List.mem_of_getElem? hx))
          have HX := Lib.hid hx
          clear hx
          obtain ⟨ba, hba⟩ : ∃ ba, ba = (all.take i).all (keepD X all s) := ⟨_, rfl⟩
          rw [← hba] at HAS ⊢
          clear hba
          by_cases hxs : x.slot = (s : Int)
          · have hb : (x.slot == (s : Int)) = true := beq_iff_eq.2 hxs
            have hb2 : (x.slot != (s : Int)) = false := by simp [bne, hb]
            have HKX : Hid (keepD X all s x = (decide (x.seq < ((X.of x.key).headD zE).seq) || all.any (cpP s x))) := Lib.hid (by unfold keepD; rw [decide_eq_true hxs, okD_eq]; rfl)
            rw [HKX.out] at HAS
            have HCP := Lib.hid (fun (k : Nat) (o : En) (h : all[k]? = some o) => anyD_snoc (p := cpP s x) h)
            have HCE : Hid (∀ o, cpP s x o = (!decide (o.slot = s) && decide (o.key = x.key) && decide (o.seq = x.seq))) := Lib.hid (fun o => rfl)
            have HC0 : Hid ((all.take 0).any (cpP s x) = false) := Lib.hid rfl
            clear hxs HKX
            obtain ⟨bi, hbi⟩ : ∃ bi, bi = decide (x.seq < ((X.of x.key).headD zE).seq) := ⟨_, rfl⟩
            rw [← hbi] at HAS HXS
            clear hbi
            generalize cpP s x = cp at *
            have HSH := Lib.hid (Shadowed_any (.inl ⟨b, rfl, (HJ.out.1.gr (Gr.refl wr).drew).get (i := 0) rfl⟩) x)
            rw [HXS.out] at HSH
            obtain ⟨x0, x1, x2, x3, x4, x5⟩ := x
            simp only at y0 y1 y2 y3 y4 y5 hb hb2 HCE
            simp only [enV] at HSH
            go_wp2_with fail
            refine wp_region_flo (fun _ => False) [] [] (by kernel_rfl) (by kernel_rfl) (fun _ h => h.elim) ?_
            refine flo_seg 11 rfl ?_
            simp only [List.take_succ_cons, List.take_zero, List.drop_succ_cons, List.drop_zero]
            repeat (go_big_quiet_step (fail))
            refine wpQuiet_nil ?_
            refine flo_eff rfl rfl rfl rfl (fun K hK => ?_)
            go_wp2_with ((go_at_call 31; refine Calls.mono HSH.out ?_; rintro e' w6 ⟨rfl, hg⟩; have HK : Hid (SW w (mL b rb mb n v1' (.slice (some ⟨g0, 0, none⟩) all.length cv) S' ⟨X, all, nx⟩ []) w6 ∧ Own w6 9 1 (.slice a7 (liveL X).length c7) (liveL X).length (kS ((liveL X).map (fun x ↦ x.1)))) := Lib.hid ⟨(HJ.out.1.gr (Gr.refl wr).drew).gr hg, HJ.out.2.gr ((Gr.refl wr).drew.trans hg)⟩; have HGM := Lib.hid hg; clear hg))
            refine ⟨by exact HGM.out.mdh _, ?_⟩
            refine flo_seg 5 rfl ?_
            simp only [List.take_succ_cons, List.take_zero, List.drop_succ_cons, List.drop_zero]
            repeat (go_big_quiet_step (fail))
            refine wpQuiet_nil ?_
            refine flo_nil ?_
            clear HJ HSH HXS dm0 dm2 y0 y1 y2 y3 y4 y5 hg0
            go_wp2_with fail
            go_loopw [16, 17] (fun t16 t17 wx => ∃ k : Nat, k ≤ all.length ∧ t16 = .bool ((all.take k).any cp) ∧ t17 = .int .i64 k ∧ Hid (SW w (mL b rb mb n v1' (.slice (some ⟨g0, 0, none⟩) all.length cv) S' ⟨X, all, nx⟩ []) wx ∧ Own wx 9 1 (.slice a7 (liveL X).length c7) (liveL X).length (kS ((liveL X).map (fun x => x.1))))) (fun _ t17 _ => all.length - (intOf t17).toNat)
            case atStart => exact ⟨0, by omega, by rw [HC0.out], rfl, HK⟩
            case round =>
              obtain ⟨k, hkl, rfl, rfl, HM⟩ := hrel
              clear HK
              have dm2 := ((cellsOf (show wr.heap[mb]? = _ from HM.out.1.get (i := 3) rfl)).1 2).trans (show _ = some (Value.slice (some ⟨g0, 0, none⟩) all.length cv) from rfl)
              by_cases hlk : k < all.length
              · have hlk' : (k : Int) < all.length := by omega
                obtain ⟨y, hy⟩ : ∃ y, all[k]? = some y := ⟨_, List.getElem?_eq_getElem hlk⟩
                obtain ⟨hg0, y0, y1, y2, y3, y4, y5⟩ := ent6g (show Own wr 43 6 (.slice (some ⟨g0, 0, none⟩) all.length cv) all.length (rowE all) from HM.out.1.get (i := 4) rfl) HX.out
                obtain ⟨_, z0, z1, z2, z3, z4, z5⟩ := ent6g (show Own wr 43 6 (.slice (some ⟨g0, 0, none⟩) all.length cv) all.length (rowE all) from HM.out.1.get (i := 4) rfl) hy
                have HCS := Lib.hid (HCP.out k y hy)
                rw [HCE.out] at HCS
                have HEN : Hid (SW w (mL b rb mb n v1' (.slice (some ⟨g0, 0, none⟩) all.length cv) S' ⟨X, all, nx⟩ []) wr.drew ∧ Own wr.drew 9 1 (.slice a7 (liveL X).length c7) (liveL X).length (kS ((liveL X).map (fun x => x.1)))) := Lib.hid ⟨HM.out.1.gr (Gr.refl wr).drew, HM.out.2.gr (Gr.refl wr).drew⟩
                obtain ⟨bk, hbk⟩ : ∃ bk, bk = (all.take k).any cp := ⟨_, rfl⟩
                rw [← hbk] at HCS ⊢
                clear hbk hy HM
                obtain ⟨q0, q1, q2, q3, q4, q5⟩ := y
                simp only at y0 y1 y2 y3 y4 y5 z0 z1 z2 z3 z4 z5 HCS
                cases bk with
                | true =>
                  go_wp2_with fail
                  refine wp_region_flo (fun _ => False) [] [] (by kernel_rfl) (by kernel_rfl) (fun _ h => h.elim) ?_
                  (try simp only [List.append_eq, List.cons_append, List.nil_append])
                  refine flo_seg 52 rfl ?_
                  simp only [List.take_succ_cons, List.take_zero, List.drop_succ_cons, List.drop_zero]
                  repeat (go_big_quiet_step (fail))
                  refine wpQuiet_nil ?_
                  refine flo_nil ?_
                  go_wp2_with fail
                  exact ⟨⟨k + 1, by omega, by rw [HCS.out]; rfl, by simp, HEN⟩, by simp [intOf]; omega⟩
                | false =>
                  by_cases hq : q3 = (s : Int)
                  · have hqb : (q3 == (s : Int)) = true := beq_iff_eq.2 hq
                    have hqc : (q3 != (s : Int)) = false := by simp [bne, hqb]
                    rw [decide_eq_true hq] at HCS
                    clear hq
                    go_wp2_with fail
                    refine wp_region_flo (fun _ => False) [] [] (by kernel_rfl) (by kernel_rfl) (fun _ h => h.elim) ?_
                    (try simp only [List.append_eq, List.cons_append, List.nil_append])
                    refine flo_seg 52 rfl ?_
                    simp only [List.take_succ_cons, List.take_zero, List.drop_succ_cons, List.drop_zero]
                    repeat (go_big_quiet_step (fail))
                    refine wpQuiet_nil ?_
                    refine flo_nil ?_
                    go_wp2_with fail
                    exact ⟨⟨k + 1, by omega, by rw [HCS.out]; rfl, by simp, HEN⟩, by simp [intOf]; omega⟩
                  · have hqb : (q3 == (s : Int)) = false := beq_false_of_ne hq
                    have hqc : (q3 != (s : Int)) = true := by simp [bne, hqb]
                    rw [decide_eq_false hq] at HCS
                    clear hq
                    by_cases hk : q1 = x1
                    · have hkb : (q1.toList == x1.toList) = true := (str_beq q1 x1).trans (decide_eq_true hk)
                      rw [decide_eq_true hk] at HCS
                      clear hk
                      by_cases hw : q0 = x0
                      · have hwb : (q0 == x0) = true := beq_iff_eq.2 hw
                        rw [decide_eq_true hw] at HCS
                        clear hw
                        go_wp2_with fail
                        refine wp_region_flo (fun _ => False) [] [] (by kernel_rfl) (by kernel_rfl) (fun _ h => h.elim) ?_
                        (try simp only [List.append_eq, List.cons_append, List.nil_append])
                        refine flo_seg 52 rfl ?_
                        simp only [List.take_succ_cons, List.take_zero, List.drop_succ_cons, List.drop_zero]
                        repeat (go_big_quiet_step (fail))
                        refine wpQuiet_nil ?_
                        refine flo_nil ?_
                        go_wp2_with fail
                        exact ⟨⟨k + 1, by omega, by rw [HCS.out]; rfl, by simp, HEN⟩, by simp [intOf]; omega⟩
                      · have hwb : (q0 == x0) = false := beq_false_of_ne hw
                        rw [decide_eq_false hw] at HCS
                        clear hw
                        go_wp2_with fail
                        refine wp_region_flo (fun _ => False) [] [] (by kernel_rfl) (by kernel_rfl) (fun _ h => h.elim) ?_
                        (try simp only [List.append_eq, List.cons_append, List.nil_append])
                        refine flo_seg 52 rfl ?_
                        simp only [List.take_succ_cons, List.take_zero, List.drop_succ_cons, List.drop_zero]
                        repeat (go_big_quiet_step (fail))
                        refine wpQuiet_nil ?_
                        refine flo_nil ?_
                        go_wp2_with fail
                        exact ⟨⟨k + 1, by omega, by rw [HCS.out]; rfl, by simp, HEN⟩, by simp [intOf]; omega⟩
                    · have hkb : (q1.toList == x1.toList) = false := (str_beq q1 x1).trans (decide_eq_false hk)
                      rw [decide_eq_false hk] at HCS
                      clear hk
                      go_wp2_with fail
                      refine wp_region_flo (fun _ => False) [] [] (by kernel_rfl) (by kernel_rfl) (fun _ h => h.elim) ?_
                      (try simp only [List.append_eq, List.cons_append, List.nil_append])
                      refine flo_seg 52 rfl ?_
                      simp only [List.take_succ_cons, List.take_zero, List.drop_succ_cons, List.drop_zero]
                      repeat (go_big_quiet_step (fail))
                      refine wpQuiet_nil ?_
                      refine flo_nil ?_
                      go_wp2_with fail
                      exact ⟨⟨k + 1, by omega, by rw [HCS.out]; rfl, by simp, HEN⟩, by simp [intOf]; omega⟩
              · have hlk' : ¬ (k : Int) < all.length := by omega
                obtain rfl : k = all.length := by omega
                rw [List.take_length]
                obtain ⟨bc, hbc⟩ : ∃ bc, bc = all.any cp := ⟨_, rfl⟩
                rw [← hbc] at HAS ⊢
                clear hbc
                cases ba <;> cases bi <;> cases bc
                all_goals
                  go_wp2_with fail
                  exact ⟨⟨i + 1, by omega, by rw [HAS.out]; rfl, by simp, HM⟩, by simp [intOf]; omega⟩
          · have hb : (x.slot == (s : Int)) = false := beq_false_of_ne hxs
            have hb2 : (x.slot != (s : Int)) = true := by simp [bne, hb]
            have HKX : Hid (keepD X all s x = true) := Lib.hid (by unfold keepD; rw [decide_eq_false hxs]; rfl)
            rw [HKX.out, Bool.and_true] at HAS
            clear hxs
            go_wp2_with fail
            exact ⟨⟨i + 1, by omega, by rw [HAS.out], by simp, HJ⟩, by simp [intOf]; omega⟩
        · have hli' : ¬ (i : Int) < all.length := by omega
          obtain rfl : i = all.length := by omega
          rw [List.take_length]
          have HDK := Lib.hid (HDD.out (s : Int) (by omega) hlt')
          go_wp2_with fail
          refine (CopyX (show IXR wr b X S' from HJ.out.1.get (i := 0) rfl)).mono ?_
          rintro e w6 ⟨b6, S6, rfl, i1, i2, i3⟩
          have H6 : Hid (IXR w6 b6 X S6 ∧ (∀ k, S6 k → wr.heap.size ≤ k) ∧ Gr wr w6) := Lib.hid ⟨i1, i2, i3⟩
          clear i1 i2 i3
          cases hbt : all.all (keepD X all s) with
          | false =>
            clear hbt HDK
            go_wp2_with fail
            exact ⟨⟨s + 1, by omega, by simp, Lib.hid ⟨HJ.out.1.gr H6.out.2.2, HJ.out.2.gr H6.out.2.2⟩⟩, by simp [intOf]; omega⟩
          | true =>
            obtain ⟨d1, d2, d3⟩ := HDK.out hbt
            have HD1 := Lib.hid d1
            have HD2 := Lib.hid d2
            have HD3 := Lib.hid d3
            clear hbt HDK d1 d2 d3
            go_wp2_with fail
            refine (Drop_any H6.out.1 (s : Int)).mono ?_
            rintro e w7 ⟨rfl, S7, i1, i2, i3⟩
            have H7 : Hid (IXR w7 b6 (dropX X s) S7 ∧ Gr wr w7) := Lib.hid ⟨i1, H6.out.2.2.md i2 H6.out.2.1⟩
            clear i1 i2 i3 H6
            go_wp2_with fail
            refine (live22_any (.inl ⟨b6, rfl, H7.out.1⟩)).mono ?_
            rintro e w8 ⟨v19, v20, rfl, ho, _, hg⟩
            rw [HD2.out, HD1.out] at ho
            have H8 : Hid (IXR w8 b6 (dropX X s) S7 ∧ Gr wr w8) := Lib.hid ⟨H7.out.1.gr hg, H7.out.2.trans hg⟩
            obtain ⟨a19, c19, hv19, hc19, hm19, _⟩ := ownS_at (show Own w8 9 1 v19 ((liveL X).map (fun x => x.1)).length (kS ((liveL X).map (fun x => x.1))) by rw [HKL.out]; exact ho)
            rw [HKL.out] at hv19 hc19
            subst hv19
            have HO := Lib.hid ho
            clear ho hg H7
            go_wp2_with fail
            refine (Cost_any (.inl ⟨b6, rfl, H8.out.1⟩)).mono ?_
            rintro e w9 ⟨rfl, hg⟩
            rw [HD3.out]
            have H9 : Hid (Gr wr w9) := Lib.hid (H8.out.2.trans hg)
            replace HO := Lib.hid (HO.out.gr hg)
            clear hg H8
            obtain ⟨nl, hnl⟩ : ∃ nl, nl = (liveL X).length := ⟨_, rfl⟩
            have HN : Hid (SW w (mL b rb mb n v1' (.slice av all.length cv) S' ⟨X, all, nx⟩ []) w9 ∧ Own w9 9 1 (.slice a7 nl c7) nl (kS ((liveL X).map (fun x => x.1))) ∧ Own w9 9 1 (.slice a19 nl c19) nl (kS ((liveL X).map (fun x => x.1)))) := Lib.hid (by rw [hnl]; exact ⟨HJ.out.1.gr H9.out, HJ.out.2.gr H9.out, HO.out⟩)
            have HKN : Hid (((liveL X).map (fun x => x.1)).length = nl) := Lib.hid (by rw [hnl]; exact HKL.out)
            have HNL := Lib.hid hnl
            have hnl2 : nl ≤ 16384 := by rw [hnl]; exact HLN.out
            rw [← hnl] at hc7 hc19 ⊢
            clear hnl HJ H9 HO dm0 dm2
            go_wp2_with fail
            go_loopw [23] (fun t23 wx => ∃ k : Nat, k ≤ nl ∧ t23 = .int .i64 k ∧ Hid (SW w (mL b rb mb n v1' (.slice av all.length cv) S' ⟨X, all, nx⟩ []) wx ∧ Own wx 9 1 (.slice a7 nl c7) nl (kS ((liveL X).map (fun x => x.1))) ∧ Own wx 9 1 (.slice a19 nl c19) nl (kS ((liveL X).map (fun x => x.1))))) (fun t23 _ => nl - (intOf t23).toNat)
            case atStart => exact ⟨0, by omega, rfl, HN⟩
            case round =>
              obtain ⟨k, hkl, rfl, HM⟩ := hrel
              clear HN
              by_cases hlk : k < nl
              · have hlk' : (k : Int) < nl := by omega
                obtain ⟨y, hy⟩ : ∃ y, ((liveL X).map (fun x => x.1))[k]? = some y := ⟨_, List.getElem?_eq_getElem (by have := HKN.out; omega)⟩
                obtain ⟨g7, rfl, hg7, z7⟩ := str1 HKN.out HM.out.2.1 hy
                obtain ⟨g19, rfl, hg19, z19⟩ := str1 HKN.out HM.out.2.2 hy
                have hkb : (y.toList == y.toList) = true := (str_beq y y).trans (decide_eq_true rfl)
                clear hy
                go_wp2_with fail
                refine wp_region_flo (fun _ => False) [] [] (by kernel_rfl) (by kernel_rfl) (fun _ h => h.elim) ?_
                refine flo_seg 9 rfl ?_
                simp only [List.take_succ_cons, List.take_zero, List.drop_succ_cons, List.drop_zero]
                repeat (go_big_quiet_step (fail))
                refine wpQuiet_nil ?_
                refine flo_nil ?_
                go_wp2_with fail
                exact ⟨⟨k + 1, by omega, by simp, Lib.hid ⟨HM.out.1.gr (Gr.refl wr).drew, HM.out.2.1.gr (Gr.refl wr).drew, HM.out.2.2.gr (Gr.refl wr).drew⟩⟩, by simp [intOf]; omega⟩
              · have hlk' : ¬ (k : Int) < nl := by omega
                have hnl3 := HNL.out
                clear HNL
                subst hnl3
                go_wp2_with fail
                exact ⟨⟨s + 1, by omega, by simp, Lib.hid ⟨HM.out.1, HM.out.2.1⟩⟩, by simp [intOf]; omega⟩
    · have hlt' : ¬ (s : Int) < n := by omega
      go_wp2_with (go_at_call 22; refine (kd_works _).mono ?_; rintro e w1 ⟨rfl, hg⟩; have HG := Lib.hid hg; clear hg)
      go_ret
      exact ⟨rfl, HI.out.1.g.trans HG.out⟩
end Go.Proofs.Ythefpmmeoajaiaa
