/- An entry that is added: the index stays as it has to be. No walk. -/
import Derived.Test.YtiidkehcfoajeaaBd8
import Derived.Test.YtiidkehcfoajeaaBd6
import Derived.WalkSpells
import Derived.Deep.DeepMust
import Derived.Laws.StructEq
set_option linter.unusedVariables false
set_option linter.unusedSimpArgs false
namespace Go.Proofs.Ytiidkehcfoajeaa

theorem flat_perm {α : Type} {L M : List (List α)} (h : L.Perm M) : L.flatten.Perm M.flatten := h.flatten
theorem set_flat {ls : List (List En)} {i : Nat} {l : List En} (h : ls[i]? = some l) (l' : List En) : ∃ R, ls.flatten.Perm (l ++ R) ∧ (ls.set i l').flatten.Perm (l' ++ R) :=
  ⟨(ls.eraseIdx i).flatten, by simpa using flat_perm (erase_perm' h), by simpa using flat_perm (set_perm l' (List.getElem?_eq_some_iff.1 h).1)⟩
theorem fm_perm {L M : List (ByteArray × List En)} (h : L.Perm M) : (L.flatMap Prod.snd).Perm (M.flatMap Prod.snd) := by
  simp only [List.flatMap]
  exact flat_perm (h.map _)
theorem put_flat (ks : List (ByteArray × List En)) (k : ByteArray) (l' : List En) : ∃ R, (ks.flatMap Prod.snd).Perm ((look ltS ks k).getD [] ++ R) ∧ ((putL ltS ks k l').flatMap Prod.snd).Perm (l' ++ R) ∧ ((delL ltS ks k).flatMap Prod.snd).Perm R := by
  cases h : look ltS ks k with
  | none =>
    refine ⟨ks.flatMap Prod.snd, by simp, ?_, ?_⟩
    · unfold putL
      rw [h]
      have h1 : (ks.take (rk ltS ks k) ++ [(k, l')] ++ ks.drop (rk ltS ks k)).Perm ((k, l') :: ks) := by
        have := List.perm_middle (a := (k, l')) (l₁ := ks.take (rk ltS ks k)) (l₂ := ks.drop (rk ltS ks k))
        rw [List.take_append_drop] at this
        simpa using this
      simpa using fm_perm h1
    · unfold delL; rw [h]
  | some l =>
    have hx := look_some h
    refine ⟨(ks.eraseIdx (rk ltS ks k)).flatMap Prod.snd, by simpa using fm_perm (erase_perm' hx), ?_, ?_⟩
    · unfold putL
      rw [h]
      simpa using fm_perm (set_perm (k, l') (List.getElem?_eq_some_iff.1 hx).1)
    · unfold delL
      rw [h]
      simp only
      rw [← List.eraseIdx_eq_take_drop_succ]
section
variable {X : IX} {e : En}
/-- What an addition that goes through says. -/
structure AddOk (X : IX) (e : En) : Prop where
  ne : X.slots ≠ []
  has : X.has e.slot = true
  valid : validE e = true
  bad : ∀ o ∈ X.of e.key, badE e o = false
  same : ∀ o ∈ X.of e.key, sameE e o = false
  clash : clash (X.slot e.slot) e = false
theorem add_ok (h : addE X e = 0) : AddOk X e := by
  unfold addE at h
  split at h
  · cases h
  rename_i h1
  split at h
  · cases h
  rename_i h2
  split at h
  · cases h
  rename_i h3
  split at h
  · cases h
  rename_i h4
  split at h
  · cases h
  rename_i h5
  simp only [Bool.or_eq_true, not_or, Bool.not_eq_true] at h4 h5
  exact ⟨h1, by simpa using h2, by simpa using h3, fun o ho => by simpa using (List.any_eq_false.1 h4) o ho, fun o ho => by simpa using (List.any_eq_false.1 h5.1) o ho, h5.2⟩
theorem ok_add (h : AddOk X e) : addE X e = 0 := by
  unfold addE
  rw [if_neg h.ne, if_neg (by rw [h.has]; simp), if_neg (by rw [h.valid]; simp), if_neg, if_neg]
  · simp only [Bool.or_eq_true, not_or, Bool.not_eq_true]
    exact ⟨List.any_eq_false.2 (fun o ho => by simp [h.same o ho]), h.clash⟩
  · simp only [Bool.not_eq_true]
    exact List.any_eq_false.2 (fun o ho => by simp [h.bad o ho])
theorem slot_lt {i : Int} {s : List En} (hs : SlotOk i s) : s.Pairwise (fun a b => a.off + a.size ≤ b.off ∧ a.off < b.off) :=
  hs.p.imp_of_mem (fun {a b} ha _ h => ⟨h, by have := (valid_iff a).1 (hs.e a ha).2; omega⟩)
theorem off_mono (off : Int) (a b : En) (h : a.off + a.size ≤ b.off ∧ a.off < b.off) (ha : offP off a = false) : offP off b = false := by
  simp [offP] at *; omega
theorem cnt_off {i : Int} {s : List En} (hs : SlotOk i s) (off : Int) : ∀ j x, cnt (offP off) s ≤ j → s[j]? = some x → offP off x = false := cnt_hi _ (slot_lt hs) (off_mono off)
theorem clash_lo {i : Int} {s : List En} (hs : SlotOk i s) (h : clash s e = false) : ∀ x ∈ s, offP e.off x = true → x.off + x.size ≤ e.off := by
  intro x hx hp
  unfold clash at h
  simp only [Bool.or_eq_false_iff, Bool.and_eq_false_iff] at h
  obtain ⟨j, hj, rfl⟩ := List.mem_iff_getElem.1 hx
  have hjc : j < cnt (offP e.off) s := by
    rcases Nat.lt_or_ge j (cnt (offP e.off) s) with h1 | h1
    · exact h1
    · have := cnt_off hs e.off j _ h1 (List.getElem?_eq_getElem hj)
      rw [this] at hp; cases hp
  have hl := cnt_le (offP e.off) s
  have hk : cnt (offP e.off) s - 1 < s.length := by omega
  have h2 := h.2.resolve_left (by simp; omega)
  rw [List.getElem?_eq_getElem hk] at h2
  simp only [decide_eq_false_iff_not] at h2
  rcases Nat.eq_or_lt_of_le (show j ≤ cnt (offP e.off) s - 1 by omega) with h3 | h3
  · subst h3; omega
  · have := List.pairwise_iff_getElem.1 (slot_lt hs) j _ hj hk h3
    have hv := (valid_iff _).1 (hs.e _ (List.getElem_mem hk)).2
    omega
theorem clash_hi {i : Int} {s : List En} (hs : SlotOk i s) (h : clash s e = false) : ∀ x ∈ s, offP e.off x = false → e.off + e.size ≤ x.off := by
  intro x hx hp
  unfold clash at h
  simp only [Bool.or_eq_false_iff, Bool.and_eq_false_iff] at h
  obtain ⟨j, hj, rfl⟩ := List.mem_iff_getElem.1 hx
  have hjc : cnt (offP e.off) s ≤ j := by
    rcases Nat.lt_or_ge j (cnt (offP e.off) s) with h1 | h1
    · rw [cnt_lo (offP e.off) s j _ h1 (List.getElem?_eq_getElem hj)] at hp; cases hp
    · exact h1
  have hk : cnt (offP e.off) s < s.length := by omega
  have h2 := h.1
  rw [List.getElem?_eq_getElem hk] at h2
  simp only [Bool.or_eq_false_iff, decide_eq_false_iff_not] at h2
  rcases Nat.eq_or_lt_of_le hjc with h3 | h3
  · subst h3; omega
  · have := List.pairwise_iff_getElem.1 (slot_lt hs) _ j hk hj h3
    omega
/-- The parts of an index behind an addition. -/
theorem add_parts (h : X.Wf) (a : AddOk X e) : ∃ (i : Nat) (R1 R2 : List En), e.slot = i ∧ X.slots[i]? = some (X.slot e.slot) ∧
    X.slots.flatten.Perm (X.slot e.slot ++ R1) ∧ (X.slots.set i (insP (offP e.off) (X.slot e.slot) e)).flatten.Perm (insP (offP e.off) (X.slot e.slot) e ++ R1) ∧
    (X.keys.flatMap Prod.snd).Perm (X.of e.key ++ R2) ∧ ((putL ltS X.keys e.key (insP (fun o => ltE o e) (X.of e.key) e)).flatMap Prod.snd).Perm (insP (fun o => ltE o e) (X.of e.key) e ++ R2) := by
  obtain ⟨i, hi, hx⟩ := has_at a.has
  obtain ⟨R1, p1, p2⟩ := set_flat hx (insP (offP e.off) (X.slot e.slot) e)
  obtain ⟨R2, p3, p4, _⟩ := put_flat X.keys e.key (insP (fun o => ltE o e) (X.of e.key) e)
  exact ⟨i, R1, R2, hi, hx, p1, p2, p3, p4⟩
theorem addX_eq (a : AddOk X e) : addX X e = ⟨X.slots.set e.slot.toNat (insP (offP e.off) (X.slot e.slot) e), putL ltS X.keys e.key (insP (fun o => ltE o e) (X.of e.key) e)⟩ := by
  unfold addX; rw [if_pos (ok_add a)]
theorem add_ents (h : X.Wf) (a : AddOk X e) : (addX X e).ents.Perm (e :: X.ents) := by
  obtain ⟨i, R1, R2, hi, hx, p1, p2, p3, p4⟩ := add_parts h a
  rw [addX_eq a]
  unfold IX.ents
  rw [hi, Int.toNat_natCast, ← hi]
  exact p2.trans ((((insP_perm _ _ _).append_right _)).trans ((List.Perm.cons _ p1.symm)))
theorem add_wf (h : X.Wf) (a : AddOk X e) : (addX X e).Wf := by
  have hE := add_ents h a
  obtain ⟨i, R1, R2, hi, hx, p1, p2, p3, p4⟩ := add_parts h a
  have hil := (List.getElem?_eq_some_iff.1 hx).1
  rw [addX_eq a] at hE ⊢
  have hto : e.slot.toNat = i := by omega
  rw [hto] at hE ⊢
  have hS := h.slotOk e.slot
  refine ⟨by simpa using h.n, fun h0 => ?_, fun j l hl => ?_, put_srt ordS h.k0 _ _, fun x hxm => ?_, ?_, ?_⟩
  · exfalso
    have := congrArg List.length h0
    simp at this
    exact a.ne this
  · simp only at hl
    rw [List.getElem?_set] at hl
    split at hl
    · rename_i hij
      obtain rfl := Option.some.inj hl
      subst hij
      rw [← hi]
      refine ⟨?_, fun x hxm => ?_⟩
      · exact (insP_pair (R := fun a b => a.off + a.size ≤ b.off ∧ a.off < b.off) (offP e.off) (slot_lt hS) e (fun x hx' hp => ⟨clash_lo hS a.clash x hx' hp, by simpa [offP] using hp⟩)
          (fun x hx' hp => ⟨clash_hi hS a.clash x hx' hp, by have := clash_hi hS a.clash x hx' hp; have hv := (valid_iff e).1 a.valid; omega⟩) (off_mono e.off)).imp (fun h => h.1)
      · rcases (insP_mem _ _ _ _).1 hxm with rfl | hxm
        · exact ⟨rfl, a.valid⟩
        · exact hS.e x hxm
    · exact h.s j l hl
  · rcases (put_mem ordS h.k0 _ _ x).1 hxm with rfl | ⟨hxm, _⟩
    · refine ⟨?_, ?_, fun y hy => ?_⟩
      · intro h0
        have := congrArg List.length h0
        rw [insP_len] at this
        simp at this
      · refine insP_pair (R := fun a b => ltE a b = true) _ (h.ofPair e.key) e (fun x _ hp => hp) (fun x hx' hp => ?_) (fun a b hab ha => ?_)
        · cases he : ltE e x with
          | true => rfl
          | false =>
            have := ltE_tri hp he
            have hs := a.same x hx'
            simp [sameE, this] at hs
        · cases hb : ltE b e with
          | false => rfl
          | true => rw [ltE_trn hab hb] at ha; cases ha
      · rcases (insP_mem _ _ _ _).1 hy with rfl | hy
        · rfl
        · exact ((h.of_mem e.key y).1 hy).2
    · exact h.k x hxm
  · refine p4.trans ((((insP_perm _ _ _).append_right R2)).trans (List.Perm.trans ?_ hE.symm))
    exact List.Perm.cons _ (p3.symm.trans h.v)
  · intro x hxm y hym hk hq
    have key : ∀ o ∈ X.ents, o.key = e.key → o.seq = e.seq → o.del = e.del ∧ o.size = e.size := fun o ho h1 h2 => by
      have hb := a.bad o ((h.of_mem e.key o).2 ⟨ho, h1⟩)
      simp only [badE, decide_eq_false_iff_not, not_and, Decidable.not_not] at hb
      have := hb h2
      exact ⟨by rw [← this], by rw [← this]⟩
    rcases List.mem_cons.1 (hE.mem_iff.1 hxm) with rfl | hx'
    · rcases List.mem_cons.1 (hE.mem_iff.1 hym) with rfl | hy'
      · exact ⟨rfl, rfl⟩
      · have := key y hy' hk.symm hq.symm; exact ⟨this.1.symm, this.2.symm⟩
    · rcases List.mem_cons.1 (hE.mem_iff.1 hym) with rfl | hy'
      · exact key x hx' hk hq
      · exact h.c x hx' y hy' hk hq
end
end Go.Proofs.Ytiidkehcfoajeaa

/- Contracts of slices.BinarySearchFunc at rows of entries: by offset, and by how entries of a key compare. -/
set_option linter.unusedVariables false
set_option linter.unusedSimpArgs false
namespace Go.Proofs.Ytiidkehcfoajeaa
open Go.RowKit
attribute [local go_sem] OvM cell_ovm obj_ovm

def foundO (l : List En) (off : Int) : Bool := match l[cnt (offP off) l]? with | some o => decide (o.off = off) | none => false
def foundN (l : List En) (e : En) : Bool := match l[cnt (fun o => ltE o e) l]? with | some o => decide (newerZ o e = 0) | none => false
theorem cmpZ_tests (x y : Int) : (decide (cmpZ x y < 0) = decide (x < y)) ∧ ((cmpZ x y == 0) = decide (x = y)) := by
  constructor
  · rw [Bool.eq_iff_iff]; simp [cmpZ_neg]
  · rw [Bool.eq_iff_iff]; simp [cmpZ_zero]
set_option maxRecDepth 40000 in
set_option maxHeartbeats 4000000 in
theorem BsfOff (l : List En) (off : Int) (a : Option Addr) (cap : Nat) (w : World) (h : Own w 23 6 (.slice a l.length cap) l.length (rowE l)) (hn : l.length ≤ 1000000) (hmono : ∀ j x, cnt (offP off) l ≤ j → l[j]? = some x → (offP off) x = false) :
    Calls Try.prog 105 #[.slice a l.length cap, .int .i64 off, .func (.func 106) #[] #[]] w fun e' w' => e' = .returned (.tuple #[.int .i64 (cnt (offP off) l), .bool (foundO l off)]) ∧ Gr w w' := by
  obtain ⟨n, hnn⟩ : ∃ n, n = l.length := ⟨_, rfl⟩
  obtain ⟨r, hr⟩ : ∃ r, r = cnt (offP off) l := ⟨_, rfl⟩
  have hrn : r ≤ n := by rw [hr, hnn]; exact cnt_le _ l
  have HO : Hid (∀ j, j < n → ∃ g x, a = some ⟨g, 0, none⟩ ∧ l[j]? = some x ∧ ∀ i u, (enC x)[i]? = some u → w.cell? ⟨g, j * 6 + i, none⟩ = some u) := Lib.hid (by
    intro j hj
    rw [hnn] at hj
    obtain ⟨a', cap', hv, _, _, hat⟩ := ownE_at h
    obtain ⟨g, ha, _, _, hc⟩ := hat j _ (List.getElem?_eq_getElem hj)
    injection hv with e1 _ _
    exact ⟨g, _, e1.trans ha, List.getElem?_eq_getElem hj, hc⟩)
  have hnegs : ∀ x : En, (offP off) x = true ↔ cmpZ x.off off < 0 := fun x => by unfold offP; rw [decide_eq_true_iff]; exact (cmpZ_neg _ _).symm
  have HM : Hid ((∀ j x, j < r → l[j]? = some x → cmpZ x.off off < 0) ∧ (∀ j x, r ≤ j → l[j]? = some x → ¬ cmpZ x.off off < 0)) := Lib.hid ⟨fun j x hj hx => (hnegs x).1 (cnt_lo _ l j x (by rw [← hr]; exact hj) hx), fun j x hj hx hz => by
    have h1 := hmono j x (by rw [← hr]; exact hj) hx
    rw [(hnegs x).2 hz] at h1
    cases h1⟩
  have HF : Hid ((∀ x, l[r]? = some x → foundO l off = decide (cmpZ x.off off = 0)) ∧ (l[r]? = none → foundO l off = false)) := Lib.hid ⟨fun x hx => by
    rw [hr] at hx
    exact by unfold foundO; rw [hx]; simp [cmpZ_zero], fun hx => by
    rw [hr] at hx
    exact by unfold foundO; rw [hx]⟩
  have HR : Hid (n = l.length) := Lib.hid hnn
  rw [← hr, ← hnn]
  rw [← hnn] at hn
  generalize foundO l off = fb at *
  have HRR := Lib.hid hr
  clear h hnn hmono hnegs hr
  skip
  go_enter Try.func105, Try.ntmps105
  go_wp2_with fail
  obtain ⟨wb, hwb⟩ : ∃ y, y = w := ⟨_, rfl⟩
  have HG0 : Hid (Gr w wb ∧ True) := Lib.hid (by rw [hwb]; exact ⟨Gr.refl w, trivial⟩)
  rw [← hwb]
  clear hwb
  go_loopw [9, 10] (fun t9 t10 wx => ∃ i j : Nat, t9 = .int .i64 i ∧ t10 = .int .i64 j ∧ i ≤ r ∧ r ≤ j ∧ j ≤ n ∧ Hid (Gr wb wx)) (fun t9 t10 _ => (intOf t10).toNat - (intOf t9).toNat)
  case atStart => exact ⟨0, n, rfl, rfl, by omega, hrn, by omega, Lib.hid (Gr.refl _)⟩
  case round =>
    obtain ⟨i, j, rfl, rfl, h1, h2, h3, HG⟩ := hrel
    by_cases hij : i < j
    · have hij' : (i : Int) < j := by omega
      obtain ⟨m, hm⟩ : ∃ m, m = (i + j) / 2 := ⟨_, rfl⟩
      have hmj : m < j := by omega
      have him : i ≤ m := by omega
      obtain ⟨g, x, rfl, hx, hc⟩ := HO.out m (by omega)
      have hmn : (m : Int) < n := by omega
      have e2 : ((i : Int) + (j : Int)) / 2 = (m : Int) := by omega
      have HW := Lib.hid (HG0.out.1.trans HG.out)
      have d0 := HW.out.keep (hc 0 _ rfl)
      have d1 := HW.out.keep (hc 1 _ rfl)
      have d2 := HW.out.keep (hc 2 _ rfl)
      have d3 := HW.out.keep (hc 3 _ rfl)
      have d4 := HW.out.keep (hc 4 _ rfl)
      have d5 := HW.out.keep (hc 5 _ rfl)
      simp only [Nat.add_zero] at d0 d1 d2 d3 d4 d5
      skip
      clear hm hc
      by_cases hlt : cmpZ x.off off < 0
      · have hmr : m + 1 ≤ r := by
          rcases Nat.lt_or_ge m r with h | h
          · exact h
          · exfalso; have := HM.out.2 m x h hx; omega
        clear hx
        generalize hzz : cmpZ x.off off = z at *
        have HZ := Lib.hid hzz
        clear hzz
        go_wp2_with (go_at_call 106; refine (cmp_off x off _).mono ?_; rintro e w1 ⟨rfl, hg⟩; rw [HZ.out]; have HG1 := Lib.hid hg; clear hg)
        go_roundw
        case rel => exact ⟨m + 1, j, by go_num, rfl, by omega, by omega, by omega, Lib.hid (HG.out.trans HG1.out)⟩
        case measure => simp [intOf]; omega
      · have hmr : r ≤ m := by
          rcases Nat.lt_or_ge m r with h | h
          · exfalso; have := HM.out.1 m x h hx; omega
          · exact h
        clear hx
        generalize hzz : cmpZ x.off off = z at *
        have HZ := Lib.hid hzz
        clear hzz
        go_wp2_with (go_at_call 106; refine (cmp_off x off _).mono ?_; rintro e w1 ⟨rfl, hg⟩; rw [HZ.out]; have HG1 := Lib.hid hg; clear hg)
        go_roundw
        case rel => exact ⟨i, m, rfl, rfl, by omega, by omega, by omega, Lib.hid (HG.out.trans HG1.out)⟩
        case measure => simp [intOf]; omega
    · have hij' : ¬ (i : Int) < j := by omega
      obtain rfl : i = r := by omega
      obtain rfl : j = i := by omega
      by_cases hjn : j < n
      · have hjn' : (j : Int) < n := by omega
        obtain ⟨g, x, rfl, hx, hc⟩ := HO.out j hjn
        have F1 : Hid (fb = decide (cmpZ x.off off = 0)) := Lib.hid (HF.out.1 x hx)
        have HW := Lib.hid (HG0.out.1.trans HG.out)
        have d0 := HW.out.keep (hc 0 _ rfl)
        have d1 := HW.out.keep (hc 1 _ rfl)
        have d2 := HW.out.keep (hc 2 _ rfl)
        have d3 := HW.out.keep (hc 3 _ rfl)
        have d4 := HW.out.keep (hc 4 _ rfl)
        have d5 := HW.out.keep (hc 5 _ rfl)
        simp only [Nat.add_zero] at d0 d1 d2 d3 d4 d5
        skip
        clear hx hc HM HF
        generalize hzz : cmpZ x.off off = z at *
        have HZ := Lib.hid hzz
        clear hzz
        have F2 : Hid ((z == 0) = fb) := Lib.hid (by rw [F1.out]; by_cases h : z = 0 <;> simp [h])
        go_wp2_with (go_at_call 106; refine (cmp_off x off _).mono ?_; rintro e w1 ⟨rfl, hg⟩; rw [HZ.out]; have HG1 := Lib.hid hg; clear hg)
        go_ret2
        exact ⟨by rw [F2.out]; rfl, HW.out.trans HG1.out⟩
      · have hjn' : ¬ (j : Int) < n := by omega
        have F1 : Hid (fb = false) := Lib.hid (HF.out.2 (List.getElem?_eq_none (by have := HR.out; omega)))
        go_wp2
        go_ret2
        exact ⟨by rw [F1.out]; rfl, HG0.out.1.trans HG.out⟩
set_option maxRecDepth 40000 in
set_option maxHeartbeats 4000000 in
theorem BsfNew (l : List En) (e : En) (a : Option Addr) (cap : Nat) (w : World) (h : Own w 23 6 (.slice a l.length cap) l.length (rowE l)) (hn : l.length ≤ 1000000) (hmono : ∀ j x, cnt (fun o => ltE o e) l ≤ j → l[j]? = some x → (fun o => ltE o e) x = false) :
    Calls Try.prog 109 #[.slice a l.length cap, enV e, .func (.func 110) #[] #[]] w fun e' w' => e' = .returned (.tuple #[.int .i64 (cnt (fun o => ltE o e) l), .bool (foundN l e)]) ∧ Gr w w' := by
  obtain ⟨n, hnn⟩ : ∃ n, n = l.length := ⟨_, rfl⟩
  obtain ⟨r, hr⟩ : ∃ r, r = cnt (fun o => ltE o e) l := ⟨_, rfl⟩
  have hrn : r ≤ n := by rw [hr, hnn]; exact cnt_le _ l
  have HO : Hid (∀ j, j < n → ∃ g x, a = some ⟨g, 0, none⟩ ∧ l[j]? = some x ∧ ∀ i u, (enC x)[i]? = some u → w.cell? ⟨g, j * 6 + i, none⟩ = some u) := Lib.hid (by
    intro j hj
    rw [hnn] at hj
    obtain ⟨a', cap', hv, _, _, hat⟩ := ownE_at h
    obtain ⟨g, ha, _, _, hc⟩ := hat j _ (List.getElem?_eq_getElem hj)
    injection hv with e1 _ _
    exact ⟨g, _, e1.trans ha, List.getElem?_eq_getElem hj, hc⟩)
  have hnegs : ∀ x : En, (fun o => ltE o e) x = true ↔ newerZ x e < 0 := fun x => (newer_neg _ _).symm
  have HM : Hid ((∀ j x, j < r → l[j]? = some x → newerZ x e < 0) ∧ (∀ j x, r ≤ j → l[j]? = some x → ¬ newerZ x e < 0)) := Lib.hid ⟨fun j x hj hx => (hnegs x).1 (cnt_lo _ l j x (by rw [← hr]; exact hj) hx), fun j x hj hx hz => by
    have h1 := hmono j x (by rw [← hr]; exact hj) hx
    rw [(hnegs x).2 hz] at h1
    cases h1⟩
  have HF : Hid ((∀ x, l[r]? = some x → foundN l e = decide (newerZ x e = 0)) ∧ (l[r]? = none → foundN l e = false)) := Lib.hid ⟨fun x hx => by
    rw [hr] at hx
    exact by unfold foundN; rw [hx], fun hx => by
    rw [hr] at hx
    exact by unfold foundN; rw [hx]⟩
  have HR : Hid (n = l.length) := Lib.hid hnn
  rw [← hr, ← hnn]
  rw [← hnn] at hn
  generalize foundN l e = fb at *
  have HRR := Lib.hid hr
  clear h hnn hmono hnegs hr
  simp only [enV]
  go_enter Try.func109, Try.ntmps109
  go_wp2_with fail
  obtain ⟨wb, hwb⟩ : ∃ y, y = w.alloc (.cells #[.int .i64 e.seq, .string e.key, .bool e.del, .int .i64 e.slot, .int .i64 e.off, .int .i64 e.size] 23) := ⟨_, rfl⟩
  have HG0 : Hid (Gr w wb ∧ wb.heap[w.heap.size]? = some (.cells #[.int .i64 e.seq, .string e.key, .bool e.del, .int .i64 e.slot, .int .i64 e.off, .int .i64 e.size] 23)) := Lib.hid (by rw [hwb]; exact ⟨(Gr.refl w).alloc _, blkNew w _⟩)
  rw [← hwb]
  clear hwb
  go_loopw [9, 10] (fun t9 t10 wx => ∃ i j : Nat, t9 = .int .i64 i ∧ t10 = .int .i64 j ∧ i ≤ r ∧ r ≤ j ∧ j ≤ n ∧ Hid (Gr wb wx)) (fun t9 t10 _ => (intOf t10).toNat - (intOf t9).toNat)
  case atStart => exact ⟨0, n, rfl, rfl, by omega, hrn, by omega, Lib.hid (Gr.refl _)⟩
  case round =>
    obtain ⟨i, j, rfl, rfl, h1, h2, h3, HG⟩ := hrel
    by_cases hij : i < j
    · have hij' : (i : Int) < j := by omega
      obtain ⟨m, hm⟩ : ∃ m, m = (i + j) / 2 := ⟨_, rfl⟩
      have hmj : m < j := by omega
      have him : i ≤ m := by omega
      obtain ⟨g, x, rfl, hx, hc⟩ := HO.out m (by omega)
      have hmn : (m : Int) < n := by omega
      have e2 : ((i : Int) + (j : Int)) / 2 = (m : Int) := by omega
      have HW := Lib.hid (HG0.out.1.trans HG.out)
      have d0 := HW.out.keep (hc 0 _ rfl)
      have d1 := HW.out.keep (hc 1 _ rfl)
      have d2 := HW.out.keep (hc 2 _ rfl)
      have d3 := HW.out.keep (hc 3 _ rfl)
      have d4 := HW.out.keep (hc 4 _ rfl)
      have d5 := HW.out.keep (hc 5 _ rfl)
      simp only [Nat.add_zero] at d0 d1 d2 d3 d4 d5
      have ce := (cellsOf (HG.out.blk HG0.out.2)).1
      clear hm hc
      by_cases hlt : newerZ x e < 0
      · have hmr : m + 1 ≤ r := by
          rcases Nat.lt_or_ge m r with h | h
          · exact h
          · exfalso; have := HM.out.2 m x h hx; omega
        clear hx
        generalize hzz : newerZ x e = z at *
        have HZ := Lib.hid hzz
        clear hzz
        go_wp2_with fail
        have HGx := Gr.refl wr.drew
        refine wp_region_flo (fun _ => False) [] [] (by kernel_rfl) (by kernel_rfl) (fun _ h => h.elim) ?_
        refine flo_seg 6 rfl ?_
        simp only [List.take_succ_cons, List.take_zero, List.drop_succ_cons, List.drop_zero]
        repeat (go_big_quiet_step (fail))
        refine wpQuiet_nil ?_
        refine flo_eff rfl rfl rfl rfl (fun K hK => ?_)
        go_wp2_with fail; refine (newer_any x e _).mono ?_; rintro e' w1 ⟨rfl, hg⟩; rw [HZ.out]; have HG1 := Lib.hid (Gr.of_drew hg); clear hg; go_wp2_with fail; refine ⟨by (first | (refine Gr.mdh ?_ _; (repeat (first | (with_reducible exact Gr.refl _) | assumption | (with_reducible apply Gr.from_drew) | (with_reducible apply Gr.alloc) | (with_reducible apply Gr.drew) | (with_reducible refine Gr.trans ?_ (by assumption)) | (with_reducible refine Gr.setCell ?_ (by omega) _))); done) | (repeat (first | (with_reducible exact Mdh.refl _ _) | (with_reducible refine Mdh.setCell ?_ (by simp) _) | (with_reducible refine Mdh.setNew ?_ (by simp) _) | (with_reducible apply Mdh.alloc) | (with_reducible apply Mdh.from_drew) | (with_reducible apply Mdh.drew) | (with_reducible refine Mdh.gr ?_ (by assumption))))), ?_⟩
        refine flo_seg 1 rfl ?_
        simp only [List.take_succ_cons, List.take_zero, List.drop_succ_cons, List.drop_zero]
        repeat (go_big_quiet_step (fail))
        refine wpQuiet_nil ?_
        refine flo_nil ?_
        go_wp2_with fail
        go_roundw
        case rel => exact ⟨m + 1, j, by go_num, rfl, by omega, by omega, by omega, Lib.hid (HG.out.trans HG1.out)⟩
        case measure => simp [intOf]; omega
      · have hmr : r ≤ m := by
          rcases Nat.lt_or_ge m r with h | h
          · exfalso; have := HM.out.1 m x h hx; omega
          · exact h
        clear hx
        generalize hzz : newerZ x e = z at *
        have HZ := Lib.hid hzz
        clear hzz
        go_wp2_with fail
        have HGx := Gr.refl wr.drew
        refine wp_region_flo (fun _ => False) [] [] (by kernel_rfl) (by kernel_rfl) (fun _ h => h.elim) ?_
        refine flo_seg 6 rfl ?_
        simp only [List.take_succ_cons, List.take_zero, List.drop_succ_cons, List.drop_zero]
        repeat (go_big_quiet_step (fail))
        refine wpQuiet_nil ?_
        refine flo_eff rfl rfl rfl rfl (fun K hK => ?_)
        go_wp2_with fail; refine (newer_any x e _).mono ?_; rintro e' w1 ⟨rfl, hg⟩; rw [HZ.out]; have HG1 := Lib.hid (Gr.of_drew hg); clear hg; go_wp2_with fail; refine ⟨by (first | (refine Gr.mdh ?_ _; (repeat (first | (with_reducible exact Gr.refl _) | assumption | (with_reducible apply Gr.from_drew) | (with_reducible apply Gr.alloc) | (with_reducible apply Gr.drew) | (with_reducible refine Gr.trans ?_ (by assumption)) | (with_reducible refine Gr.setCell ?_ (by omega) _))); done) | (repeat (first | (with_reducible exact Mdh.refl _ _) | (with_reducible refine Mdh.setCell ?_ (by simp) _) | (with_reducible refine Mdh.setNew ?_ (by simp) _) | (with_reducible apply Mdh.alloc) | (with_reducible apply Mdh.from_drew) | (with_reducible apply Mdh.drew) | (with_reducible refine Mdh.gr ?_ (by assumption))))), ?_⟩
        refine flo_seg 1 rfl ?_
        simp only [List.take_succ_cons, List.take_zero, List.drop_succ_cons, List.drop_zero]
        repeat (go_big_quiet_step (fail))
        refine wpQuiet_nil ?_
        refine flo_nil ?_
        go_wp2_with fail
        go_roundw
        case rel => exact ⟨i, m, rfl, rfl, by omega, by omega, by omega, Lib.hid (HG.out.trans HG1.out)⟩
        case measure => simp [intOf]; omega
    · have hij' : ¬ (i : Int) < j := by omega
      obtain rfl : i = r := by omega
      obtain rfl : j = i := by omega
      by_cases hjn : j < n
      · have hjn' : (j : Int) < n := by omega
        obtain ⟨g, x, rfl, hx, hc⟩ := HO.out j hjn
        have F1 : Hid (fb = decide (newerZ x e = 0)) := Lib.hid (HF.out.1 x hx)
        have HW := Lib.hid (HG0.out.1.trans HG.out)
        have d0 := HW.out.keep (hc 0 _ rfl)
        have d1 := HW.out.keep (hc 1 _ rfl)
        have d2 := HW.out.keep (hc 2 _ rfl)
        have d3 := HW.out.keep (hc 3 _ rfl)
        have d4 := HW.out.keep (hc 4 _ rfl)
        have d5 := HW.out.keep (hc 5 _ rfl)
        simp only [Nat.add_zero] at d0 d1 d2 d3 d4 d5
        have ce := (cellsOf (HG.out.blk HG0.out.2)).1
        clear hx hc HM HF
        generalize hzz : newerZ x e = z at *
        have HZ := Lib.hid hzz
        clear hzz
        have F2 : Hid ((z == 0) = fb) := Lib.hid (by rw [F1.out]; by_cases h : z = 0 <;> simp [h])
        go_wp2_with fail
        refine wp_region_flo (fun _ => False) [] [] (by kernel_rfl) (by kernel_rfl) (fun _ h => h.elim) ?_
        refine flo_seg 11 rfl ?_
        simp only [List.take_succ_cons, List.take_zero, List.drop_succ_cons, List.drop_zero]
        repeat (go_big_quiet_step (fail))
        refine wpQuiet_nil ?_
        refine flo_eff rfl rfl rfl rfl (fun K hK => ?_)
        go_wp2_with fail; refine (newer_any x e _).mono ?_; rintro e' w1 ⟨rfl, hg⟩; rw [HZ.out]; have HG1 := Lib.hid (Gr.of_drew hg); clear hg; go_wp2_with fail; refine ⟨by (first | (refine Gr.mdh ?_ _; (repeat (first | (with_reducible exact Gr.refl _) | assumption | (with_reducible apply Gr.from_drew) | (with_reducible apply Gr.alloc) | (with_reducible apply Gr.drew) | (with_reducible refine Gr.trans ?_ (by assumption)) | (with_reducible refine Gr.setCell ?_ (by omega) _))); done) | (repeat (first | (with_reducible exact Mdh.refl _ _) | (with_reducible refine Mdh.setCell ?_ (by simp) _) | (with_reducible refine Mdh.setNew ?_ (by simp) _) | (with_reducible apply Mdh.alloc) | (with_reducible apply Mdh.from_drew) | (with_reducible apply Mdh.drew) | (with_reducible refine Mdh.gr ?_ (by assumption))))), ?_⟩
        refine flo_seg 4 rfl ?_
        simp only [List.take_succ_cons, List.take_zero, List.drop_succ_cons, List.drop_zero]
        repeat (go_big_quiet_step (fail))
        refine wpQuiet_nil ?_
        refine flo_nil ?_
        go_wp2_with fail
        go_ret2
        exact ⟨by rw [F2.out]; rfl, HW.out.trans HG1.out⟩
      · have hjn' : ¬ (j : Int) < n := by omega
        have F1 : Hid (fb = false) := Lib.hid (HF.out.2 (List.getElem?_eq_none (by have := HR.out; omega)))
        go_wp2_with fail
        refine wp_region_flo (fun _ => False) [] [] (by kernel_rfl) (by kernel_rfl) (fun _ h => h.elim) ?_
        refine flo_seg 11 rfl ?_
        simp only [List.take_succ_cons, List.take_zero, List.drop_succ_cons, List.drop_zero]
        repeat (go_big_quiet_step (fail))
        refine wpQuiet_nil ?_
        refine flo_pass rfl rfl rfl ?_
        (try go_simp)
        refine flo_seg 4 rfl ?_
        simp only [List.take_succ_cons, List.take_zero, List.drop_succ_cons, List.drop_zero]
        repeat (go_big_quiet_step (fail))
        refine wpQuiet_nil ?_
        refine flo_nil ?_
        go_wp2_with fail
        go_ret2
        exact ⟨by rw [F1.out]; rfl, (HG0.out.1.trans HG.out).drew⟩
end Go.Proofs.Ytiidkehcfoajeaa

/- slices.Clone at rows of entries. -/
set_option linter.unusedVariables false
set_option linter.unusedSimpArgs false
namespace Go.Proofs.Ytiidkehcfoajeaa
open Go.RowKit
attribute [local go_sem] OvM cell_ovm obj_ovm

set_option maxRecDepth 40000 in
set_option maxHeartbeats 1000000 in
theorem CloneE (l : List En) (hlen : l.length ≤ 100000) (s : Sl) (w : World) (h : Own w 23 6 (slV s) l.length (rowE l)) :
    Calls Try.prog 112 #[slV s] w fun e w' => ∃ s' : Sl, e = .returned (slV s') ∧ Own w' 23 6 (slV s') l.length (rowE l) ∧ (∀ k, (slV s').ownBlock = some k → w.heap.size ≤ k) ∧ Gr w w' := by
  obtain ⟨i0, hi, hz0, hz1, hz2⟩ := info_parts infoIten
  obtain ⟨s1, s2, s3⟩ := s
  simp only [slV] at *
  rcases h.2 with ⟨hv, h0⟩ | ⟨g, cap, cur, hv, _, hg, h1, h2, h3, h4⟩
  · have k3 := @Lib.run_eql_slice_nil
    obtain rfl : l = [] := List.eq_nil_of_length_eq_zero h0
    injection hv with e1 e2 e3
    subst e1 e2 e3
    clear h
    go_enter Try.func112, Try.ntmps112
    go_wp2
    go_ret
    exact ⟨(none, 0, 0), rfl, nilRow _ _ _, fun k hk => by simp [Value.ownBlock] at hk, Gr.refl _⟩
  · injection hv with e1 e2 e3
    subst e1 e2 e3
    have k3 : ∀ w : World, (binOp .eql 127 (.slice (some ⟨g, 0, none⟩) l.length s3) (.slice none 0 0)).run Try.prog w = .ok (.bool false) w := fun w => Lib.run_eql_slice_nil w _ _ (some ⟨g, 0, none⟩) l.length s3 0 0 Try.underlying127
    have HC : Hid (∀ w1, Gr w w1 → ∀ j u, (rowE l)[j]? = some u → w1.cell? ((⟨g, 0, none⟩ : Addr).add j) = some u) := Lib.hid (fun w1 g1 j u hj => (h.gr g1).cells (g := g) rfl j u hj)
    have HR : Hid ((rowE l).length = l.length * 6) := Lib.hid (rowE_len l)
    have H1 := Lib.hid (rowE_one l)
    clear h hg h4
    go_enter Try.func112, Try.ntmps112
    go_wp2_with (at_builtin; go_must (refine wpList_append_own _ rfl (.tmp 5) (.tmp 6) 127 rfl w.heap.size 23 i0 _ 6 56 Try.underlying127 hi hz0 hz1 hz2 rfl (by decide) (.slice (some ⟨w.heap.size, 0, none⟩) 0 0) 0 [] rfl (World.ownsRow_made _ #[] 0 (Nat.le_refl _) (by simp only [maxLen]; omega) rfl) ⟨g, 0, none⟩ l.length s3 (rowE l) rfl HR.out (HC.out _ (by (repeat (first | (with_reducible exact Gr.refl _) | assumption | (with_reducible apply Gr.from_drew) | (with_reducible apply Gr.alloc) | (with_reducible apply Gr.drew) | (with_reducible refine Gr.trans ?_ (by assumption)) | (with_reducible refine Gr.setCell ?_ (by omega) _))))) H1.out (by simp only [maxLen]; omega) (by omega) (by simp) ?_); intro v' w2 hown2 hgrow hnil; have HO2 := Lib.hid hown2; have HG2 := Lib.hid hgrow; have HN := Lib.hid hnil; clear hown2 hgrow hnil)
    go_ret
    have ho := HO2.out
    simp only [Nat.zero_add, List.nil_append] at ho
    have hg := HG2.out
    have hv : ∃ s' : Sl, v' = slV s' := by
      rcases ho.2 with ⟨hv, _⟩ | ⟨g', cap', cur', hv, _⟩
      · exact ⟨(none, 0, 0), hv⟩
      · exact ⟨(_, _, _), hv⟩
    obtain ⟨s', rfl⟩ := hv
    refine ⟨s', rfl, Own.lift ho, fun k hk => (World.ownsRow.lt ho k hk).1, hg.os, hg.tape, hg.output, Nat.le_trans (by simp) hg.size, fun k hk => ?_⟩
    exact (hg.block k (by simp; omega) (by simp [Value.ownBlock]; omega)).trans (Below.heap_alloc w _ k hk)
end Go.Proofs.Ytiidkehcfoajeaa

/- How entries are compared by ==. -/
set_option linter.unusedVariables false
set_option linter.unusedSimpArgs false
namespace Go.Proofs.Ytiidkehcfoajeaa
open Go.RowKit
theorem eq_fields (a b : En) : decide (a = b) = (a.seq == b.seq && (a.key.toList == b.key.toList && (a.del == b.del && (a.slot == b.slot && (a.off == b.off && a.size == b.size))))) := by
  rw [str_beq, Bool.eq_iff_iff]
  simp only [decide_eq_true_eq, Bool.and_eq_true, beq_iff_eq]
  exact En.eq_iff a b
theorem and_ite (a b : Bool) : (if a = false then false else b) = (a && b) := by cases a <;> rfl
theorem run_ite_ok {P : Program} {α : Type} (c : Prop) [Decidable c] (x y : α) (w : World) : (if c then Result.ok x w else Result.ok y w) = Result.ok (if c then x else y) w := by split <;> rfl
set_option maxRecDepth 40000 in
theorem neqE_run (a b : En) (w : World) : (binOp .neq 23 (.agg #[.int .i64 a.seq, .string a.key, .bool a.del, .int .i64 a.slot, .int .i64 a.off, .int .i64 a.size]) (.agg #[.int .i64 b.seq, .string b.key, .bool b.del, .int .i64 b.slot, .int .i64 b.off, .int .i64 b.size])).run Try.prog w = .ok (.bool (!decide (a = b))) w := by
  rw [run_neq_struct]
  have h : (Op.equalIn 10000 23 (.agg #[.int .i64 a.seq, .string a.key, .bool a.del, .int .i64 a.slot, .int .i64 a.off, .int .i64 a.size]) (.agg #[.int .i64 b.seq, .string b.key, .bool b.del, .int .i64 b.slot, .int .i64 b.off, .int .i64 b.size])).run Try.prog w = .ok (decide (a = b)) w := by
    rw [eq_fields]
    simp [go_sem]
    (repeat' split) <;> simp_all
  rw [h]
  rfl
set_option maxRecDepth 40000 in
theorem eqlE_run (a b : En) (w : World) : (binOp .eql 23 (.agg #[.int .i64 a.seq, .string a.key, .bool a.del, .int .i64 a.slot, .int .i64 a.off, .int .i64 a.size]) (.agg #[.int .i64 b.seq, .string b.key, .bool b.del, .int .i64 b.slot, .int .i64 b.off, .int .i64 b.size])).run Try.prog w = .ok (.bool (decide (a = b))) w := by
  rw [run_eql_struct]
  have h : (Op.equalIn 10000 23 (.agg #[.int .i64 a.seq, .string a.key, .bool a.del, .int .i64 a.slot, .int .i64 a.off, .int .i64 a.size]) (.agg #[.int .i64 b.seq, .string b.key, .bool b.del, .int .i64 b.slot, .int .i64 b.off, .int .i64 b.size])).run Try.prog w = .ok (decide (a = b)) w := by
    rw [eq_fields]
    simp [go_sem]
    (repeat' split) <;> simp_all
  rw [h]
  rfl
end Go.Proofs.Ytiidkehcfoajeaa
