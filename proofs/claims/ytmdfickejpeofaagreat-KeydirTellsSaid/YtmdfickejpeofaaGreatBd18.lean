/- What the map of an index is, as a sorted list of keys; KeydirDrops in plain Lean. No walk. -/
import Derived.Test.YtmdfickejpeofaaGreatBd16
import Derived.Test.YtmdfickejpeofaaGreatBd13
import Derived.Test.YtmdfickejpeofaaGreatBd15
import Derived.Test.YtmdfickejpeofaaGreatBd10
import Derived.Test.YtmdfickejpeofaaGreatBd6
import Derived.Test.YtmdfickejpeofaaGreatBd7
set_option linter.unusedVariables false
set_option linter.unusedSimpArgs false
namespace Go.Proofs.YtmdfickejpeofaaGreat

section
variable {X : IX}
theorem mem_ks (h : X.Wf) (k : ByteArray) : k ∈ X.ks ↔ X.of k ≠ [] := by
  constructor
  · intro hk
    obtain ⟨x, hx, rfl⟩ := List.mem_map.1 hk
    unfold IX.of
    rw [(look_mem ordS h.k0 x.1 x.2).2 hx]
    exact (h.k x hx).ne
  · intro hk
    unfold IX.of at hk
    cases hl : look ltS X.keys k with
    | none => rw [hl] at hk; exact absurd rfl hk
    | some l => exact List.mem_map.2 ⟨(k, l), (look_mem ordS h.k0 k l).1 hl, rfl⟩
theorem ks_srt (h : X.Wf) : X.ks.Pairwise (fun a b => ltS a b = true) := List.pairwise_map.2 h.k0
theorem findE_ne {k : ByteArray} (h : (findE X k).isSome = true) : X.of k ≠ [] := fun h0 => by
  unfold findE at h
  rw [h0] at h
  cases h
/-- The keys of the map: those of the index that are found. -/
def lvK (X : IX) : List ByteArray := X.ks.filter (fun k => (findE X k).isSome)
def szK (X : IX) (k : ByteArray) : Int := ((findE X k).getD zE).size
theorem lvF_fst (l : List ByteArray) : (lvF X l).map (fun x => x.1) = l.filter (fun k => (findE X k).isSome) ∧ (lvF X l).map (fun x => x.2.size) = (l.filter (fun k => (findE X k).isSome)).map (szK X) := by
  induction l with
  | nil => exact ⟨rfl, rfl⟩
  | cons k l ih =>
    unfold lvF at *
    rw [List.filterMap_cons, List.filter_cons]
    cases hf : findE X k with
    | none => simpa using ih
    | some e =>
      simp only [Option.map_some, Option.isSome_some, if_true, List.map_cons]
      refine ⟨by rw [ih.1], ?_⟩
      rw [ih.2]
      congr 1
      unfold szK
      rw [hf]
      rfl
theorem live_keys : (liveL X).map (fun x => x.1) = lvK X := (lvF_fst X.ks).1
theorem sumF_map (f : En → Int) : ∀ l : List (ByteArray × En), sumF f l = (l.map (fun x => f x.2)).sum := by
  have h : ∀ (l : List (ByteArray × En)) (a : Int), l.foldl (fun a x => a + f x.2) a = a + (l.map (fun x => f x.2)).sum := by
    intro l
    induction l with
    | nil => intro a; simp
    | cons x l ih => intro a; rw [List.foldl_cons, ih, List.map_cons, List.sum_cons]; omega
  intro l
  have := h l 0
  unfold sumF
  omega
theorem live_size : sumF (fun e => e.size) (liveL X) = ((lvK X).map (szK X)).sum := by
  rw [sumF_map, show ((liveL X).map (fun x => x.2.size)) = (lvK X).map (szK X) from (lvF_fst X.ks).2]
theorem lvK_mem (h : X.Wf) (k : ByteArray) : k ∈ lvK X ↔ (findE X k).isSome = true := by
  unfold lvK
  rw [List.mem_filter, mem_ks h]
  exact ⟨fun h => h.2, fun h2 => ⟨findE_ne h2, h2⟩⟩
theorem lvK_srt (h : X.Wf) : (lvK X).Pairwise (fun a b => ltS a b = true) := (ks_srt h).sublist List.filter_sublist
theorem keys_eq {l m : List ByteArray} (hl : l.Pairwise (fun a b => ltS a b = true)) (hm : m.Pairwise (fun a b => ltS a b = true)) (h : ∀ x, x ∈ l ↔ x ∈ m) : l = m :=
  pair_eq (R := fun a b => ltS a b = true) (fun a => by rw [ordS.irr]; decide) (fun a b c h1 h2 => ordS.trn h1 h2) hl hm h
end
/-- Each entry of the slot is shadowed, or has a copy elsewhere. -/
def okD (X : IX) (all : List En) (s : Int) (e : En) : Bool := decide (e.seq < ((X.of e.key).headD zE).seq) || all.any (fun o => !decide (o.slot = s) && decide (o.key = e.key) && decide (o.seq = e.seq))
section
variable {X : IX} {all : List En} {en : Int → Int} {n : Int}
theorem drop_find (h : FG X all en n) {s : Int} (hk : ∀ e ∈ all, e.slot = s → okD X all s e = true) (k : ByteArray) : (findE (dropX X s) k).isSome = (findE X k).isSome ∧ szK (dropX X s) k = szK X k := by
  have hof := drop_of h.wf s k
  have hp := h.wf.ofPair k
  have hall := h.of k
  unfold szK
  cases hl : X.of k with
  | nil =>
    rw [hl, List.filter_nil] at hof
    unfold findE
    rw [hof, hl]
    exact ⟨rfl, rfl⟩
  | cons y t =>
    rw [hl] at hof hp hall
    have hy := (hall y).1 (List.mem_cons_self ..)
    rw [List.filter_cons] at hof
    by_cases hs : y.slot = s
    · rw [if_neg (by simp [hs])] at hof
      have h1 := hk y hy.1 hs
      unfold okD at h1
      rw [hy.2, hl, List.headD_cons, decide_eq_false (Int.lt_irrefl _), Bool.false_or] at h1
      obtain ⟨o, ho, h2⟩ := List.any_eq_true.1 h1
      simp only [Bool.and_eq_true, Bool.not_eq_true', decide_eq_false_iff_not, decide_eq_true_eq] at h2
      have h3 : o ∈ t.filter (fun o => decide (o.slot ≠ s)) := by
        refine List.mem_filter.2 ⟨?_, decide_eq_true h2.1.1⟩
        rcases List.mem_cons.1 ((hall o).2 ⟨ho, h2.1.2⟩) with h4 | h4
        · rw [h4] at h2; exact absurd hs h2.1.1
        · exact h4
      cases hf : t.filter (fun o => decide (o.slot ≠ s)) with
      | nil => rw [hf] at h3; cases h3
      | cons z u =>
        rw [hf] at h3 hof
        have hz : z ∈ t := (List.mem_filter.1 (show z ∈ t.filter (fun o => decide (o.slot ≠ s)) by rw [hf]; exact List.mem_cons_self ..)).1
        have hyz : ltE y z = true := (List.pairwise_cons.1 hp).1 z hz
        have hza := (hall z).1 (List.mem_cons_of_mem _ hz)
        have hpt : (z :: u).Pairwise (fun a b => ltE a b = true) := by rw [← hf]; exact (List.pairwise_cons.1 hp).2.sublist List.filter_sublist
        have hq : z.seq = y.seq := by
          unfold ltE at hyz
          have h5 := of_decide_eq_true hyz
          rcases List.mem_cons.1 h3 with h4 | h4
          · rw [← h4]; exact h2.2
          · have h6 := (List.pairwise_cons.1 hpt).1 o h4
            unfold ltE at h6
            have h7 := of_decide_eq_true h6
            omega
        obtain ⟨c1, c2, c3⟩ := h.cp z hza.1 y hy.1 hq
        unfold findE
        rw [hof, hl]
        simp only
        rw [c2]
        cases y.del
        · exact ⟨rfl, c3⟩
        · exact ⟨rfl, rfl⟩
    · rw [if_pos (by simp [hs])] at hof
      unfold findE
      rw [hof, hl]
      exact ⟨rfl, rfl⟩
theorem drop_live (h : FG X all en n) {s : Int} (hk : ∀ e ∈ all, e.slot = s → okD X all s e = true) : lvK (dropX X s) = lvK X ∧ sumF (fun e => e.size) (liveL (dropX X s)) = sumF (fun e => e.size) (liveL X) := by
  have hw := drop_wf h.wf s
  have e1 : lvK (dropX X s) = lvK X := keys_eq (lvK_srt hw) (lvK_srt h.wf) (fun k => by rw [lvK_mem hw, lvK_mem h.wf, (drop_find h hk k).1])
  refine ⟨e1, ?_⟩
  rw [live_size, live_size, e1]
  congr 1
  exact List.map_congr_left (fun k _ => (drop_find h hk k).2)
end
end Go.Proofs.YtmdfickejpeofaaGreat

/- Keys of the reference in plain Lean: the least key that is greater than the last one. No walk. -/
set_option linter.unusedVariables false
set_option linter.unusedSimpArgs false
namespace Go.Proofs.YtmdfickejpeofaaGreat

theorem key_ne {e : En} (h : validE e = true) : e.key.size ≠ 0 := by
  have h1 := ((valid_iff e).1 h).1
  intro h0
  unfold keyChk at h1
  split at h1 <;> cases h1
theorem lt_emp (k : ByteArray) : ltS ⟨#[]⟩ k = decide (k.size ≠ 0) := by
  have hk : k.toList.length = k.size := by rw [toList_data, size_data]
  have h : (⟨#[]⟩ : ByteArray).toList = [] := by rw [toList_data]
  unfold ltS
  rw [h]
  cases hl : k.toList with
  | nil =>
    rw [hl] at hk
    have h0 : k.size = 0 := hk.symm
    rw [h0]
    rfl
  | cons a l =>
    rw [hl, List.length_cons] at hk
    have h0 : k.size ≠ 0 := by omega
    rw [decide_eq_true h0]
    rfl
theorem size_emp {k : ByteArray} (h : k.size = 0) : k = ⟨#[]⟩ := by
  have h1 : k.toList.length = k.size := by rw [toList_data, size_data]
  refine str_inj ?_
  rw [show (⟨#[]⟩ : ByteArray).toList = [] by rw [toList_data]]
  exact List.eq_nil_of_length_eq_zero (by omega)
/-- What best is behind i entries. -/
structure KyI (all : List En) (last best : ByteArray) (i : Nat) : Prop where
  no : best.size = 0 → ∀ (j : Nat) x, j < i → all[j]? = some x → ltS last x.key = false
  yes : best.size ≠ 0 → (∃ x ∈ all, x.key = best) ∧ ltS last best = true ∧ ∀ (j : Nat) x, j < i → all[j]? = some x → ltS last x.key = true → ltS x.key best = false
section
variable {all : List En} {last best : ByteArray} {i : Nat} {x : En}
theorem KyI.start : KyI all last ⟨#[]⟩ 0 := ⟨fun _ j x h => by omega, fun h => absurd rfl h⟩
theorem KyI.low (h : KyI all last best i) (hx : all[i]? = some x) (hl : ltS last x.key = false) : KyI all last best (i + 1) := by
  refine ⟨fun h0 j y hj hy => ?_, fun h0 => ⟨(h.yes h0).1, (h.yes h0).2.1, fun j y hj hy hly => ?_⟩⟩
  · by_cases hji : j < i
    · exact h.no h0 j y hji hy
    · obtain rfl : j = i := by omega
      rw [hx] at hy
      exact (Option.some.inj hy) ▸ hl
  · by_cases hji : j < i
    · exact (h.yes h0).2.2 j y hji hy hly
    · obtain rfl : j = i := by omega
      rw [hx] at hy
      rw [← Option.some.inj hy, hl] at hly
      cases hly
theorem KyI.keep (h : KyI all last best i) (hx : all[i]? = some x) (hb : best.size ≠ 0) (hg : ltS x.key best = false) : KyI all last best (i + 1) := by
  refine ⟨fun h0 => absurd h0 hb, fun h0 => ⟨(h.yes h0).1, (h.yes h0).2.1, fun j y hj hy hly => ?_⟩⟩
  by_cases hji : j < i
  · exact (h.yes h0).2.2 j y hji hy hly
  · obtain rfl : j = i := by omega
    rw [hx] at hy
    exact (Option.some.inj hy) ▸ hg
theorem KyI.take (h : KyI all last best i) (hx : all[i]? = some x) (hl : ltS last x.key = true) (hg : best.size = 0 ∨ ltS x.key best = true) : KyI all last x.key (i + 1) := by
  have hxm := List.mem_of_getElem? hx
  refine ⟨fun h0 j y hj hy => ?_, fun h0 => ⟨⟨x, hxm, rfl⟩, hl, fun j y hj hy hly => ?_⟩⟩
  · rw [size_emp h0] at hl
    rcases hb : ltS last ⟨#[]⟩ with _ | _
    · rw [hb] at hl; cases hl
    · have h1 : ltS ⟨#[]⟩ last = false := by
        cases h2 : ltS ⟨#[]⟩ last with
        | false => rfl
        | true => have h3 := ordS.trn h2 hb; rw [ordS.irr] at h3; cases h3
      rw [lt_emp] at h1
      have h2 : last.size = 0 := by simpa using h1
      rw [size_emp h2, ordS.irr] at hb
      cases hb
  · by_cases hji : j < i
    · by_cases hb : best.size = 0
      · rw [h.no hb j y hji hy] at hly; cases hly
      · rcases hg with hg | hg
        · exact absurd hg hb
        · cases h1 : ltS y.key x.key with
          | false => rfl
          | true =>
            have h2 := (h.yes hb).2.2 j y hji hy hly
            rw [ordS.trn h1 hg] at h2
            cases h2
    · obtain rfl : j = i := by omega
      rw [hx] at hy
      rw [← Option.some.inj hy]
      exact ordS.irr _
end
section
variable {X : IX} {all : List En} (hw : X.Wf) (hp : all.Perm X.ents)
include hw hp
theorem ks_all (k : ByteArray) : k ∈ X.ks ↔ ∃ x ∈ all, x.key = k := by
  rw [mem_ks hw]
  constructor
  · intro h
    obtain ⟨x, hx⟩ := List.exists_mem_of_ne_nil _ h
    have h1 := (hw.of_mem k x).1 hx
    exact ⟨x, hp.mem_iff.2 h1.1, h1.2⟩
  · rintro ⟨x, hx, rfl⟩ h
    have h1 := (hw.of_mem x.key x).2 ⟨hp.mem_iff.1 hx, rfl⟩
    rw [h] at h1
    cases h1
theorem ks_size {k : ByteArray} (h : k ∈ X.ks) : k.size ≠ 0 := by
  obtain ⟨x, hx, rfl⟩ := (ks_all hw hp k).1 h
  exact key_ne (hw.valid (hp.mem_iff.1 hx)).1
/-- The last key of the first n; "" if there is none. -/
def lastK (X : IX) (n : Nat) : ByteArray := match n with | 0 => ⟨#[]⟩ | n + 1 => X.ks.getD n ⟨#[]⟩
theorem lastK_lt {n m : Nat} {k : ByteArray} (hn : n ≤ X.ks.length) (hk : X.ks[m]? = some k) : ltS (lastK X n) k = decide (n ≤ m) := by
  have hs := ks_srt hw
  cases n with
  | zero =>
    unfold lastK
    rw [lt_emp, decide_eq_true (ks_size hw hp (List.mem_of_getElem? hk)), decide_eq_true (Nat.zero_le m)]
  | succ n =>
    unfold lastK
    obtain ⟨hm, em⟩ := List.getElem?_eq_some_iff.1 hk
    have hn' : n < X.ks.length := by omega
    simp only [List.getD_eq_getElem?_getD, List.getElem?_eq_getElem hn', Option.getD_some]
    rw [← em]
    rcases Nat.lt_trichotomy n m with h | h | h
    · rw [List.pairwise_iff_getElem.1 hs n m hn' hm h, decide_eq_true (by omega)]
    · subst h
      rw [ordS.irr, decide_eq_false (by omega)]
    · rw [decide_eq_false (by omega)]
      cases h1 : ltS (X.ks[n]'hn') (X.ks[m]'hm) with
      | false => rfl
      | true =>
        have h2 := ordS.trn h1 (List.pairwise_iff_getElem.1 hs m n hm hn' h)
        rw [ordS.irr] at h2
        cases h2
theorem KyI.done {n : Nat} {best : ByteArray} (h : KyI all (lastK X n) best all.length) (hn : n ≤ X.ks.length) (hb : best.size = 0) : n = X.ks.length := by
  rcases Nat.lt_or_ge n X.ks.length with h1 | h1
  · have h2 := List.getElem?_eq_getElem h1
    obtain ⟨x, hx, hk⟩ := (ks_all hw hp _).1 (List.mem_of_getElem? h2)
    obtain ⟨j, hj⟩ := List.mem_iff_getElem?.1 hx
    have h3 := h.no hb j x (List.getElem?_eq_some_iff.1 hj).1 hj
    rw [hk, lastK_lt hw hp hn h2, decide_eq_true (Nat.le_refl n)] at h3
    cases h3
  · omega
theorem KyI.next {n : Nat} {best : ByteArray} (h : KyI all (lastK X n) best all.length) (hn : n ≤ X.ks.length) (hb : best.size ≠ 0) : X.ks[n]? = some best := by
  obtain ⟨⟨x, hx, hk⟩, h1, h2⟩ := h.yes hb
  have hm := (ks_all hw hp best).2 ⟨x, hx, hk⟩
  obtain ⟨m, hm⟩ := List.mem_iff_getElem?.1 hm
  rw [lastK_lt hw hp hn hm] at h1
  have h3 : n ≤ m := of_decide_eq_true h1
  rcases Nat.eq_or_lt_of_le h3 with h4 | h4
  · rw [h4]; exact hm
  · obtain ⟨hml, em⟩ := List.getElem?_eq_some_iff.1 hm
    have hnl : n < X.ks.length := by omega
    have h5 := List.getElem?_eq_getElem hnl
    obtain ⟨y, hy, hky⟩ := (ks_all hw hp _).1 (List.mem_of_getElem? h5)
    obtain ⟨j, hj⟩ := List.mem_iff_getElem?.1 hy
    have h6 := h2 j y (List.getElem?_eq_some_iff.1 hj).1 hj (by rw [hky, lastK_lt hw hp hn h5, decide_eq_true (Nat.le_refl n)])
    rw [hky, ← em, List.pairwise_iff_getElem.1 (ks_srt hw) n m hnl hml h4] at h6
    cases h6
theorem ks_le : X.ks.length ≤ all.length := by
  have h1 := (flatMap_ge X.keys (fun x hx => (hw.k x hx).ne)).1
  rw [hw.v.length_eq] at h1
  rw [hp.length_eq]
  unfold IX.ks IX.ents
  rw [List.length_map]
  exact h1
end
theorem lastK_next {X : IX} {n : Nat} {k : ByteArray} (h : X.ks[n]? = some k) : lastK X (n + 1) = k := by
  unfold lastK
  simp [List.getD_eq_getElem?_getD, h]
theorem ks_take {X : IX} {n : Nat} {k : ByteArray} (h : X.ks[n]? = some k) : X.ks.take (n + 1) = X.ks.take n ++ [k] := by
  rw [List.take_add_one, h]; rfl
end Go.Proofs.YtmdfickejpeofaaGreat

/- drumlinref05's Common and Order: how two keys compare. -/
set_option linter.unusedVariables false
set_option linter.unusedSimpArgs false
namespace Go.Proofs.YtmdfickejpeofaaGreat
open Go.RowKit Go.Shelf
attribute [local go_sem] OvM cell_ovm obj_ovm

theorem bl_at : ∀ (i : Nat) (l m : List UInt8), i ≤ l.length → i ≤ m.length → (∀ j, j < i → l[j]? = m[j]?) → Op.bytesLess l m = Op.bytesLess (l.drop i) (m.drop i)
  | 0, _, _, _, _, _ => rfl
  | i + 1, [], _, h, _, _ => by simp at h
  | i + 1, _ :: _, [], _, h, _ => by simp at h
  | i + 1, a :: l, b :: m, h1, h2, h3 => by
    have e : a = b := by simpa using h3 0 (by omega)
    subst e
    have hr := bl_at i l m (by simpa using h1) (by simpa using h2) (fun j hj => by simpa using h3 (j + 1) (by omega))
    rw [List.drop_succ_cons, List.drop_succ_cons, ← hr]
    simp [Op.bytesLess]
/-- What Common returns. -/
structure ComP (a b : ByteArray) (i : Nat) : Prop where
  l : i ≤ a.size
  r : i ≤ b.size
  e : ∀ j (h1 : j < a.size) (h2 : j < b.size), j < i → a[j]'h1 = b[j]'h2
  n : ∀ (h1 : i < a.size) (h2 : i < b.size), a[i]'h1 ≠ b[i]'h2
theorem ba_at {a : ByteArray} {j : Nat} (h : j < a.size) : a.toList[j]? = some (a[j]'h) := by
  rw [toList_data, List.getElem?_eq_getElem (by rw [← size_data]; exact h)]
  rfl
theorem ba_len (a : ByteArray) : a.toList.length = a.size := by rw [toList_data, size_data]
section
variable {a b : ByteArray} {i : Nat}
theorem ComP.symm (h : ComP a b i) : ComP b a i := ⟨h.r, h.l, fun j h1 h2 hj => (h.e j h2 h1 hj).symm, fun h1 h2 => (h.n h2 h1).symm⟩
theorem ComP.bl (h : ComP a b i) : ltS a b = Op.bytesLess (a.toList.drop i) (b.toList.drop i) :=
  bl_at i _ _ (by rw [ba_len]; exact h.l) (by rw [ba_len]; exact h.r) (fun j hj => by
    have h1 : j < a.size := Nat.lt_of_lt_of_le hj h.l
    have h2 : j < b.size := Nat.lt_of_lt_of_le hj h.r
    rw [ba_at h1, ba_at h2, h.e j h1 h2 hj])
theorem ComP.endL (h : ComP a b i) (h1 : i = a.size) : ltS a b = decide (i < b.size) := by
  rw [h.bl, List.drop_eq_nil_of_le (by rw [ba_len]; omega)]
  by_cases h2 : i < b.size
  · rw [List.drop_eq_getElem_cons (by rw [ba_len]; exact h2), decide_eq_true h2]
    rfl
  · rw [List.drop_eq_nil_of_le (by rw [ba_len]; omega), decide_eq_false h2]
    rfl
theorem ComP.mid (h : ComP a b i) (h1 : i < a.size) (h2 : i < b.size) : ltS a b = decide (a[i]'h1 < b[i]'h2) := by
  have e1 : a.toList[i]'(by rw [ba_len]; exact h1) = a[i]'h1 := by
    have := ba_at h1
    rw [List.getElem?_eq_getElem (by rw [ba_len]; exact h1)] at this
    exact Option.some.inj this
  have e2 : b.toList[i]'(by rw [ba_len]; exact h2) = b[i]'h2 := by
    have := ba_at h2
    rw [List.getElem?_eq_getElem (by rw [ba_len]; exact h2)] at this
    exact Option.some.inj this
  rw [h.bl, List.drop_eq_getElem_cons (l := a.toList) (i := i) (by rw [ba_len]; exact h1), List.drop_eq_getElem_cons (l := b.toList) (i := i) (by rw [ba_len]; exact h2), e1, e2, Op.bytesLess]
  have hn := h.n h1 h2
  have : (a[i]'h1 == b[i]'h2) = false := beq_false_of_ne hn
  rw [this, Bool.false_and, Bool.or_false]
theorem ComP.endR (h : ComP a b i) (h1 : i < a.size) (h2 : i = b.size) : ltS a b = false ∧ ltS b a = true := by
  have h3 : ltS b a = true := by rw [h.symm.endL h2, decide_eq_true h1]
  refine ⟨?_, h3⟩
  cases h4 : ltS a b with
  | false => rfl
  | true => have h5 := ordS.trn h4 h3; rw [ordS.irr] at h5; cases h5
end
/-- What Order says. -/
def ordB (a b : ByteArray) : Int := if ltS a b = true then -1 else if ltS b a = true then 1 else 0
theorem ordB_neg (a b : ByteArray) : decide (ordB a b < 0) = ltS a b := by
  unfold ordB
  cases ltS a b <;> cases ltS b a <;> rfl
theorem ordB_pos (a b : ByteArray) : decide (0 < ordB a b) = ltS b a := by
  unfold ordB
  cases h : ltS a b with
  | true =>
    cases h2 : ltS b a with
    | false => rfl
    | true => have h5 := ordS.trn h h2; rw [ordS.irr] at h5; cases h5
  | false => cases ltS b a <;> rfl
set_option maxRecDepth 40000 in
set_option maxHeartbeats 2000000 in
theorem Common5 (a b : ByteArray) (ha : a.size ≤ 140737488351232) (hb : b.size ≤ 140737488351232) (w : World) : Calls Tryz.prog 178 #[.string a, .string b] w fun e w' => (∃ i : Nat, e = .returned (.int .i64 i) ∧ ComP a b i) ∧ Gr w w' := by
  go_enter Tryz.func178, Tryz.ntmps178
  go_wp2_with fail
  go_loopw [5] (fun t5 wx => ∃ i : Nat, i ≤ a.size ∧ i ≤ b.size ∧ t5 = .int .i64 i ∧ Hid ((∀ j (h1 : j < a.size) (h2 : j < b.size), j < i → a[j]'h1 = b[j]'h2) ∧ Gr w wx)) (fun t5 _ => a.size - (intOf t5).toNat)
  case atStart => exact ⟨0, by omega, by omega, rfl, Lib.hid ⟨fun j h1 h2 h => by omega, Gr.refl w⟩⟩
  case round =>
    obtain ⟨i, hi1, hi2, rfl, HR⟩ := hrel
    have HG := Lib.hid HR.out.2
    by_cases h1 : i < a.size
    · have h1' : (i : Int) < a.size := by omega
      by_cases h2 : i < b.size
      · have h2' : (i : Int) < b.size := by omega
        by_cases he : a[i]'h1 = b[i]'h2
        · have he' : (((a[i]'h1).toNat : Int) == ((b[i]'h2).toNat : Int)) = true := by rw [he]; exact beq_iff_eq.2 rfl
          have HE := Lib.hid he
          clear he
          go_wp2_with fail
          refine wp_region_flo (fun _ => False) [] [] (by kernel_rfl) (by kernel_rfl) (fun _ h => h.elim) ?_
          refine flo_seg 19 rfl ?_
          simp only [List.take_succ_cons, List.take_zero, List.drop_succ_cons, List.drop_zero]
          repeat (go_big_quiet_step (fail))
          refine wpQuiet_nil ?_
          refine flo_nil ?_
          go_wp2_with fail
          go_roundw
          case rel => exact ⟨i + 1, by omega, by omega, by go_num, Lib.hid ⟨fun j q1 q2 hj => by
            by_cases hji : j < i
            · exact HR.out.1 j q1 q2 hji
            · obtain rfl : j = i := by omega
              exact HE.out, HG.out.trans (Gr.refl wr).drew⟩⟩
          case measure => simp [intOf]; omega
        · have he' : (((a[i]'h1).toNat : Int) == ((b[i]'h2).toNat : Int)) = false := beq_false_of_ne (fun h => he (UInt8.toNat_inj.1 (by omega)))
          have HC : Hid (ComP a b i) := Lib.hid ⟨hi1, hi2, HR.out.1, fun _ _ => he⟩
          clear he
          go_wp2_with fail
          refine wp_region_flo (fun _ => False) [] [] (by kernel_rfl) (by kernel_rfl) (fun _ h => h.elim) ?_
          refine flo_seg 19 rfl ?_
          simp only [List.take_succ_cons, List.take_zero, List.drop_succ_cons, List.drop_zero]
          repeat (go_big_quiet_step (fail))
          refine wpQuiet_nil ?_
          refine flo_nil ?_
          go_wp2_with fail
          go_ret
          exact ⟨⟨i, rfl, HC.out⟩, HG.out.trans (Gr.refl wr).drew⟩
      · have h2' : ¬ (i : Int) < b.size := by omega
        have HC : Hid (ComP a b i) := Lib.hid ⟨hi1, hi2, HR.out.1, fun _ q => absurd q h2⟩
        go_wp2_with fail
        refine wp_region_flo (fun _ => False) [] [] (by kernel_rfl) (by kernel_rfl) (fun _ h => h.elim) ?_
        refine flo_seg 19 rfl ?_
        simp only [List.take_succ_cons, List.take_zero, List.drop_succ_cons, List.drop_zero]
        repeat (go_big_quiet_step (fail))
        refine wpQuiet_nil ?_
        refine flo_nil ?_
        go_wp2_with fail
        go_ret
        exact ⟨⟨i, rfl, HC.out⟩, HG.out.trans (Gr.refl wr).drew⟩
    · have h1' : ¬ (i : Int) < a.size := by omega
      have HC : Hid (ComP a b i) := Lib.hid ⟨hi1, hi2, HR.out.1, fun q _ => absurd q h1⟩
      go_wp2_with fail
      refine wp_region_flo (fun _ => False) [] [] (by kernel_rfl) (by kernel_rfl) (fun _ h => h.elim) ?_
      refine flo_seg 19 rfl ?_
      simp only [List.take_succ_cons, List.take_zero, List.drop_succ_cons, List.drop_zero]
      repeat (go_big_quiet_step (fail))
      refine wpQuiet_nil ?_
      refine flo_nil ?_
      go_wp2_with fail
      go_ret
      exact ⟨⟨i, rfl, HC.out⟩, HG.out.trans (Gr.refl wr).drew⟩
set_option maxRecDepth 40000 in
set_option maxHeartbeats 2000000 in
theorem Order5 (a b : ByteArray) (ha : a.size ≤ 140737488351232) (hb : b.size ≤ 140737488351232) (w : World) : Calls Tryz.prog 131 #[.string a, .string b] w fun e w' => e = .returned (.int .i64 (ordB a b)) ∧ Gr w w' := by
  have HZ : Hid (ordB a b = if ltS a b = true then -1 else if ltS b a = true then 1 else 0) := Lib.hid rfl
  generalize ordB a b = z at *
  go_enter Tryz.func131, Tryz.ntmps131
  go_upto_region 2 with (go_at_call 178; refine (Common5 a b ha hb _).mono ?_; rintro e w1 ⟨⟨i, rfl, hc⟩, hg⟩; have HC := Lib.hid hc; have HG := Lib.hid hg; clear hc hg)
  have hi1 := HC.out.l
  have hi2 := HC.out.r
  by_cases h1 : i = a.size
  · have b1 : ((i : Int) == (a.size : Int)) = true := beq_iff_eq.2 (by omega)
    by_cases h2 : i = b.size
    · have b2 : ((i : Int) == (b.size : Int)) = true := beq_iff_eq.2 (by omega)
      have HR : Hid (z = 0) := Lib.hid (by rw [HZ.out, HC.out.endL h1, HC.out.symm.endL h2, decide_eq_false (by omega), decide_eq_false (by omega)]; rfl)
      go_wp2_with fail
      go_ret
      exact ⟨ret_int HR.out.symm, HG.out⟩
    · have b2 : ((i : Int) == (b.size : Int)) = false := beq_false_of_ne (by omega)
      have HR : Hid (z = -1) := Lib.hid (by rw [HZ.out, HC.out.endL h1, decide_eq_true (by omega), if_pos rfl])
      go_wp2_with fail
      refine wp_region_flo (fun _ => False) [] [] (by kernel_rfl) (by kernel_rfl) (fun _ h => h.elim) ?_
      refine flo_seg 19 rfl ?_
      simp only [List.take_succ_cons, List.take_zero, List.drop_succ_cons, List.drop_zero]
      repeat (go_big_quiet_step (fail))
      refine wpQuiet_nil ?_
      refine flo_nil ?_
      go_wp2_with fail
      go_ret
      exact ⟨ret_int HR.out.symm, HG.out.trans (Gr.refl _).drew⟩
  · have b1 : ((i : Int) == (a.size : Int)) = false := beq_false_of_ne (by omega)
    have h1s : i < a.size := by omega
    by_cases h2 : i < b.size
    · have b2 : (i : Int) < b.size := by omega
      by_cases h3 : a[i]'h1s < b[i]'h2
      · have b3 : (((a[i]'h1s).toNat : Int) < ((b[i]'h2).toNat : Int)) := by have := UInt8.lt_iff_toNat_lt.1 h3; omega
        have HR : Hid (z = -1) := Lib.hid (by rw [HZ.out, HC.out.mid h1s h2, decide_eq_true h3, if_pos rfl])
        clear h3
        go_wp2_with fail
        refine wp_region_flo (fun _ => False) [] [] (by kernel_rfl) (by kernel_rfl) (fun _ h => h.elim) ?_
        refine flo_seg 19 rfl ?_
        simp only [List.take_succ_cons, List.take_zero, List.drop_succ_cons, List.drop_zero]
        repeat (go_big_quiet_step (fail))
        refine wpQuiet_nil ?_
        refine flo_nil ?_
        go_wp2_with fail
        go_ret
        exact ⟨ret_int HR.out.symm, HG.out.trans (Gr.refl _).drew⟩
      · have b3 : ¬ (((a[i]'h1s).toNat : Int) < ((b[i]'h2).toNat : Int)) := fun h => h3 (UInt8.lt_iff_toNat_lt.2 (by omega))
        have h4 : b[i]'h2 < a[i]'h1s := UInt8.lt_iff_toNat_lt.2 (by
          have h5 : (a[i]'h1s).toNat ≠ (b[i]'h2).toNat := fun h => HC.out.n h1s h2 (UInt8.toNat_inj.1 h)
          omega)
        have HR : Hid (z = 1) := Lib.hid (by rw [HZ.out, HC.out.mid h1s h2, HC.out.symm.mid h2 h1s, decide_eq_false h3, decide_eq_true h4]; rfl)
        clear h3 h4
        go_wp2_with fail
        refine wp_region_flo (fun _ => False) [] [] (by kernel_rfl) (by kernel_rfl) (fun _ h => h.elim) ?_
        refine flo_seg 19 rfl ?_
        simp only [List.take_succ_cons, List.take_zero, List.drop_succ_cons, List.drop_zero]
        repeat (go_big_quiet_step (fail))
        refine wpQuiet_nil ?_
        refine flo_nil ?_
        go_wp2_with fail
        go_ret
        exact ⟨ret_int HR.out.symm, HG.out.trans (Gr.refl _).drew⟩
    · have b2 : ¬ (i : Int) < b.size := by omega
      have h2e : i = b.size := by omega
      have HR : Hid (z = 1) := Lib.hid (by rw [HZ.out, (HC.out.endR h1s h2e).1, (HC.out.endR h1s h2e).2]; rfl)
      clear h2e
      go_wp2_with fail
      refine wp_region_flo (fun _ => False) [] [] (by kernel_rfl) (by kernel_rfl) (fun _ h => h.elim) ?_
      refine flo_seg 19 rfl ?_
      simp only [List.take_succ_cons, List.take_zero, List.drop_succ_cons, List.drop_zero]
      repeat (go_big_quiet_step (fail))
      refine wpQuiet_nil ?_
      refine flo_nil ?_
      go_wp2_with fail
      go_ret
      exact ⟨ret_int HR.out.symm, HG.out.trans (Gr.refl _).drew⟩
end Go.Proofs.YtmdfickejpeofaaGreat

/- An index has each entry once: what it has of a key, or in a slot, is what it has with that key, in that slot. No walk. -/
set_option linter.unusedVariables false
set_option linter.unusedSimpArgs false
namespace Go.Proofs.YtmdfickejpeofaaGreat

theorem ents_nodup {X : IX} (h : X.Wf) : X.ents.Nodup := by
  refine (h.v.nodup_iff).1 ?_
  refine List.pairwise_flatMap.2 ⟨fun x hx => (h.k x hx).p.imp (fun {a b} hab e => by subst e; rw [ltE_irr] at hab; cases hab), ?_⟩
  refine List.Pairwise.imp_of_mem (fun {x y} hx hy hxy a ha b hb e => ?_) h.k0
  have h1 := (h.k x hx).e a ha
  have h2 := (h.k y hy).e b hb
  rw [← h1, ← h2, e] at hxy
  rw [ordS.irr] at hxy
  cases hxy
theorem of_nodup {X : IX} (h : X.Wf) (k : ByteArray) : (X.of k).Nodup := (h.ofPair k).imp (fun {a b} hab e => by subst e; rw [ltE_irr] at hab; cases hab)
def keyP (k : ByteArray) (e : En) : Bool := decide (e.key = k)
def slotP (s : Int) (e : En) : Bool := decide (e.slot = s)
theorem of_perm {X : IX} (h : X.Wf) (k : ByteArray) : (X.of k).Perm (X.ents.filter (keyP k)) :=
  (List.perm_ext_iff_of_nodup (of_nodup h k) ((ents_nodup h).filter _)).2 (fun e => by rw [h.of_mem, List.mem_filter, keyP, decide_eq_true_iff])
theorem slot_perm {X : IX} (h : X.Wf) (s : Int) : (X.slot s).Perm (X.ents.filter (slotP s)) :=
  (List.perm_ext_iff_of_nodup (slot_nodup (h.slotOk s)) ((ents_nodup h).filter _)).2 (fun e => by rw [h.slot_mem, List.mem_filter, slotP, decide_eq_true_iff])
end Go.Proofs.YtmdfickejpeofaaGreat

/- drumlinref21's Of and Keys in plain Lean: again and again the best of what is left. No walk. -/
set_option linter.unusedVariables false
set_option linter.unusedSimpArgs false
namespace Go.Proofs.YtmdfickejpeofaaGreat

/-- The best of what is left is the head of the order. -/
theorem sel_head {D left : List En} (hp : D.Pairwise (fun a b => ltE a b = true)) (hperm : left.Perm D) {bi : Nat} {x : En} (hx : left[bi]? = some x) (hmin : ∀ y ∈ left, ltE y x = false) : ∃ D', D = x :: D' ∧ (left.eraseIdx bi).Perm D' := by
  obtain ⟨hlt, rfl⟩ := List.getElem?_eq_some_iff.1 hx
  have hxm : left[bi] ∈ left := List.getElem_mem hlt
  cases D with
  | nil => have := hperm.mem_iff.1 hxm; cases this
  | cons y t =>
    have hy : y ∈ left := hperm.mem_iff.2 (List.mem_cons_self ..)
    have e : y = left[bi] := by
      rcases List.mem_cons.1 (hperm.mem_iff.1 hxm) with h | h
      · exact h.symm
      · have h1 := (List.pairwise_cons.1 hp).1 _ h
        rw [hmin y hy] at h1
        cases h1
    subst e
    exact ⟨t, rfl, ((erase_perm hlt).trans hperm).cons_inv⟩
def keyF (k : ByteArray) (o : En) : Bool := decide (o.key = k)
theorem of_left {X : IX} {all : List En} (h : X.Wf) (hp : all.Perm X.ents) (k : ByteArray) : (all.filter (keyF k)).Perm (X.of k) :=
  (hp.filter _).trans (of_perm h k).symm
/-- Where the search for the best stands. -/
def selI (left : List En) (i bi : Nat) : Prop := ∃ x, left[bi]? = some x ∧ ∀ j y, j < i → left[j]? = some y → ltE y x = false
theorem selI_one {left : List En} (h : 0 < left.length) : selI left 1 0 := by
  refine ⟨left[0], List.getElem?_eq_getElem h, fun j y hj hy => ?_⟩
  obtain rfl : j = 0 := by omega
  rw [List.getElem?_eq_getElem h] at hy
  rw [← Option.some.inj hy]
  exact ltE_irr _
theorem selI_no {left : List En} {i bi : Nat} {x y : En} (h : selI left i bi) (hx : left[bi]? = some x) (hy : left[i]? = some y) (hl : ltE y x = false) : selI left (i + 1) bi := by
  obtain ⟨x', hx', h⟩ := h
  rw [hx] at hx'
  obtain rfl := Option.some.inj hx'
  refine ⟨x, hx, fun j z hj hz => ?_⟩
  by_cases hji : j < i
  · exact h j z hji hz
  · obtain rfl : j = i := by omega
    rw [hy] at hz
    rw [← Option.some.inj hz]
    exact hl
theorem selI_yes {left : List En} {i bi : Nat} {x y : En} (h : selI left i bi) (hx : left[bi]? = some x) (hy : left[i]? = some y) (hl : ltE y x = true) : selI left (i + 1) i := by
  obtain ⟨x', hx', h⟩ := h
  rw [hx] at hx'
  obtain rfl := Option.some.inj hx'
  refine ⟨y, hy, fun j z hj hz => ?_⟩
  by_cases hji : j < i
  · cases hc : ltE z y with
    | false => rfl
    | true => rw [← h j z hji hz]; exact (ltE_trn hc hl).symm
  · obtain rfl : j = i := by omega
    rw [hy] at hz
    rw [← Option.some.inj hz]
    exact ltE_irr _
theorem selI_end {left : List En} {bi : Nat} (h : selI left left.length bi) : ∃ x, left[bi]? = some x ∧ ∀ y ∈ left, ltE y x = false := by
  obtain ⟨x, hx, h⟩ := h
  refine ⟨x, hx, fun y hy => ?_⟩
  obtain ⟨j, hj⟩ := List.mem_iff_getElem?.1 hy
  exact h j y (List.getElem?_eq_some_iff.1 hj).1 hj
end Go.Proofs.YtmdfickejpeofaaGreat

/- An entry of a row, read cell by cell. -/
set_option linter.unusedVariables false
set_option linter.unusedSimpArgs false
namespace Go.Proofs.YtmdfickejpeofaaGreat
open Go.RowKit

theorem ent6g {w : World} {g c i : Nat} {l : List En} {x : En} (h : Own w 56 6 (.slice (some ⟨g, 0, none⟩) l.length c) l.length (rowE l)) (hx : l[i]? = some x) :
    g < w.heap.size ∧ w.cell? ⟨g, i * 6, none⟩ = some (.int .i64 x.seq) ∧ w.cell? ⟨g, i * 6 + 1, none⟩ = some (.string x.key) ∧ w.cell? ⟨g, i * 6 + 2, none⟩ = some (.bool x.del) ∧ w.cell? ⟨g, i * 6 + 3, none⟩ = some (.int .i64 x.slot) ∧
    w.cell? ⟨g, i * 6 + 4, none⟩ = some (.int .i64 x.off) ∧ w.cell? ⟨g, i * 6 + 5, none⟩ = some (.int .i64 x.size) := by
  obtain ⟨_, _, hve, _, _, hat⟩ := ownE_at h
  injection hve with g1 g2 g3
  subst g1
  obtain ⟨g', hg, hl, _, hc⟩ := hat i _ hx
  simp only [Option.some.injEq, Addr.mk.injEq, and_true] at hg
  subst hg
  have y0 := hc 0 _ rfl
  simp only [Nat.add_zero] at y0
  exact ⟨hl, y0, hc 1 _ rfl, hc 2 _ rfl, hc 3 _ rfl, hc 4 _ rfl, hc 5 _ rfl⟩
theorem ent6 {w : World} {a : Option Addr} {c i : Nat} {l : List En} {x : En} (h : Own w 56 6 (.slice a l.length c) l.length (rowE l)) (hx : l[i]? = some x) :
    ∃ g, a = some ⟨g, 0, none⟩ ∧ g < w.heap.size ∧ w.cell? ⟨g, i * 6, none⟩ = some (.int .i64 x.seq) ∧ w.cell? ⟨g, i * 6 + 1, none⟩ = some (.string x.key) ∧ w.cell? ⟨g, i * 6 + 2, none⟩ = some (.bool x.del) ∧ w.cell? ⟨g, i * 6 + 3, none⟩ = some (.int .i64 x.slot) ∧
    w.cell? ⟨g, i * 6 + 4, none⟩ = some (.int .i64 x.off) ∧ w.cell? ⟨g, i * 6 + 5, none⟩ = some (.int .i64 x.size) := by
  obtain ⟨_, _, hve, _, _, hat⟩ := ownE_at h
  injection hve with g1 g2 g3
  subst g1
  obtain ⟨g', rfl, _⟩ := hat i _ hx
  exact ⟨g', rfl, ent6g h hx⟩
end Go.Proofs.YtmdfickejpeofaaGreat

/- ledger: the class of an entry, and the numbers of bytes: what is consistent, and the age. -/
set_option linter.unusedVariables false
set_option linter.unusedSimpArgs false
namespace Go.Proofs.YtmdfickejpeofaaGreat
open Go.RowKit
attribute [local go_sem] OvM cell_ovm obj_ovm

structure By where
  total : Int
  live : Int
  tombs : Int
  dead : Int
  last : Int
def byV (b : By) : Value := .agg #[.int .i64 b.total, .int .i64 b.live, .int .i64 b.tombs, .int .i64 b.dead, .int .i64 b.last]
def newE (l : List En) : En := l.headD zE
theorem newV_by (l : List En) : newV l = .tuple #[enV (newE l), .bool (!l.isEmpty)] := by cases l <;> rfl
def classE (X : IX) (e : En) : Nat := if (newE (X.of e.key)).seq = e.seq then (if e.del = true then 1 else 0) else 2
set_option maxRecDepth 40000 in
set_option maxHeartbeats 1000000 in
theorem class_any {w : World} {p : Option Addr} {X : IX} {S : Nat → Prop} (h : IXP w p X S) (e : En) : Calls Tryz.prog 195 #[.pointer p, enV e] w fun e' w' => e' = .returned (.int .i64 (classE X e)) ∧ Gr w w' := by
  have H := Lib.hid h
  have HN := Lib.hid (newV_by (X.of e.key))
  clear h
  obtain ⟨n, hn⟩ : ∃ n, n = newE (X.of e.key) := ⟨_, rfl⟩
  have HC : Hid (classE X e = if n.seq = e.seq then (if e.del = true then 1 else 0) else 2) := Lib.hid (by rw [hn]; rfl)
  rw [← hn] at HN
  clear hn
  simp only [enV] at *
  go_enter Tryz.func195, Tryz.ntmps195
  go_wp2_with fail
  refine (Newest_any (H.out.gr ((Gr.refl w).alloc _)) e.key).mono ?_
  rintro e' w1 ⟨rfl, hg⟩
  rw [HN.out]
  have c3 := (cellsOf (hg.blk (blkNew w _))).1
  have HG := Lib.hid (((Gr.refl w).alloc _).trans hg)
  have hlt := blkLt (hg.blk (blkNew w (.cells #[.int .i64 e.seq, .string e.key, .bool e.del, .int .i64 e.slot, .int .i64 e.off, .int .i64 e.size] 56)))
  clear hg HN
  by_cases hs : n.seq = e.seq
  · have hsb : (n.seq == e.seq) = true := by simp [hs]
    cases hd : e.del with
    | true =>
      rw [hd] at c3
      have HR : Hid (classE X e = 1) := Lib.hid (by rw [HC.out, if_pos hs, if_pos hd])
      clear hs hd
      go_wp2
      go_ret
      exact ⟨ret_int (by rw [HR.out]; rfl), (HG.out.alloc _)⟩
    | false =>
      rw [hd] at c3
      have HR : Hid (classE X e = 0) := Lib.hid (by rw [HC.out, if_pos hs, if_neg (by rw [hd]; simp)])
      clear hs hd
      go_wp2
      go_ret
      exact ⟨ret_int (by rw [HR.out]; rfl), (HG.out.alloc _)⟩
  · have hsb : (n.seq == e.seq) = false := by simp [hs]
    have HR : Hid (classE X e = 2) := Lib.hid (by rw [HC.out, if_neg hs])
    clear hs
    go_wp2
    go_ret
    exact ⟨ret_int (by rw [HR.out]; rfl), (HG.out.alloc _)⟩

/-! ### Numbers of bytes -/
def inBy (n : Int) : Bool := decide (0 ≤ n ∧ n ≤ 262144)
/-- What Check says. -/
def chkBy (b : By) : Int :=
  if inBy b.live = true ∧ inBy b.tombs = true ∧ inBy b.dead = true ∧ inBy b.total = true ∧ b.total = b.live + b.tombs + b.dead ∧ 0 ≤ b.last ∧ b.last ≤ 1099511627776 ∧ (b.last = 0 ↔ b.total = 0) then 0 else 2
end Go.Proofs.YtmdfickejpeofaaGreat

/- ledger.of: the bytes of a slot. -/
set_option linter.unusedVariables false
set_option linter.unusedSimpArgs false
namespace Go.Proofs.YtmdfickejpeofaaGreat
open Go.RowKit Go.Shelf
attribute [local go_sem] OvM cell_ovm obj_ovm
attribute [local go_sem] Oper.semAt_some

structure AccB where
  l : Int
  t : Int
  d : Int
  last : Int
def stepB (X : IX) (a : AccB) (e : En) : AccB :=
  if classE X e = 0 then ⟨a.l + e.size, a.t, a.d, max a.last e.seq⟩ else if classE X e = 1 then ⟨a.l, a.t + e.size, a.d, max a.last e.seq⟩ else ⟨a.l, a.t, a.d + e.size, max a.last e.seq⟩
def accB (X : IX) (l : List En) : AccB := l.foldl (stepB X) ⟨0, 0, 0, 0⟩
theorem accB_snoc (X : IX) (l : List En) (e : En) : accB X (l ++ [e]) = stepB X (accB X l) e := by simp [accB]
def byOf (X : IX) (s : Int) : By := ⟨(accB X (X.slot s)).l + (accB X (X.slot s)).t + (accB X (X.slot s)).d, (accB X (X.slot s)).l, (accB X (X.slot s)).t, (accB X (X.slot s)).d, (accB X (X.slot s)).last⟩
structure AccOk (a : AccB) (n : Int) : Prop where
  l0 : 0 ≤ a.l
  t0 : 0 ≤ a.t
  d0 : 0 ≤ a.d
  s : a.l + a.t + a.d ≤ 8192 * n
  m0 : 0 ≤ a.last
  m1 : a.last ≤ 1099511627776
theorem step_ok {X : IX} {a : AccB} {e : En} {n : Int} (h : AccOk a n) (hv : validE e = true) : AccOk (stepB X a e) (n + 1) := by
  have hv := (valid_iff e).1 hv
  obtain ⟨h1, h2, h3, h4, h5, h6⟩ := h
  unfold stepB
  (repeat' split) <;> exact ⟨by simp only; omega, by simp only; omega, by simp only; omega, by simp only; omega, by simp only; omega, by simp only; omega⟩
theorem acc_ok' (X : IX) : ∀ (l : List En) (a : AccB) (n : Int), AccOk a n → (∀ e ∈ l, validE e = true) → AccOk (l.foldl (stepB X) a) (n + l.length)
  | [], a, n, h, _ => by simpa using h
  | e :: l, a, n, h, hv => by
    have := acc_ok' X l _ (n + 1) (step_ok (X := X) h (hv e (by simp))) (fun x hx => hv x (List.mem_cons_of_mem _ hx))
    simp only [List.foldl_cons, List.length_cons, Int.natCast_add] at *
    rw [show n + ((l.length : Int) + (1 : Nat)) = n + 1 + l.length by omega]
    exact this
theorem acc_ok (X : IX) (l : List En) (h : ∀ e ∈ l, validE e = true) : AccOk (accB X l) l.length := by
  have := acc_ok' X l ⟨0, 0, 0, 0⟩ 0 ⟨by simp, by simp, by simp, by simp, by simp, by simp⟩ h
  simpa [accB] using this
theorem classE_or (X : IX) (e : En) : classE X e = 0 ∨ classE X e = 1 ∨ classE X e = 2 := by unfold classE; (repeat' split) <;> simp
set_option maxRecDepth 40000 in
set_option maxHeartbeats 4000000 in
theorem of_any {w : World} {p : Option Addr} {X : IX} {S : Nat → Prop} (h : IXP w p X S) (s : Int) : Calls Tryz.prog 157 #[.pointer p, .int .i64 s] w fun e w' => e = .returned (byV (byOf X s)) ∧ Gr w w' := by
  have H := Lib.hid h
  have HOK := Lib.hid h.ok
  clear h
  refine calls_of_wp_marks Tryz.func157 rfl ?_
  simp only [Tryz.ntmps157, List.size_toArray, List.length_cons, List.length_nil, Nat.reduceAdd, Nat.reduceSub, Array.replicate_succ, Array.replicate_zero, List.push_toArray, List.append_toArray, List.nil_append, List.cons_append]
  go_wp2_with fail
  obtain ⟨b2, hb2⟩ : ∃ q, q = w.heap.size := ⟨_, rfl⟩
  obtain ⟨w0, hw0⟩ : ∃ y, y = (((w.alloc (.cells #[.pointer p] 35)).alloc (.cells #[.int .i64 0, .int .i64 0, .int .i64 0, .int .i64 0, .int .i64 0] 161)).alloc (.cells #[.int .i64 0, .int .i64 0, .int .i64 0] 234)).alloc (.cells #[.int .i64 0] 2) := ⟨_, rfl⟩
  have HSW : Hid (SW w [blkA (b2 + 1 + 1 + 1) (.cells #[.int .i64 0] 2), blkA (b2 + 1 + 1) (.cells #[.int .i64 0, .int .i64 0, .int .i64 0] 234), blkA (b2 + 1) (.cells #[.int .i64 0, .int .i64 0, .int .i64 0, .int .i64 0, .int .i64 0] 161), blkA b2 (.cells #[.pointer p] 35)] w0) := Lib.hid (by
    have := ((((SW.start w).alloc (.cells #[.pointer p] 35)).alloc (.cells #[.int .i64 0, .int .i64 0, .int .i64 0, .int .i64 0, .int .i64 0] 161)).alloc (.cells #[.int .i64 0, .int .i64 0, .int .i64 0] 234)).alloc (.cells #[.int .i64 0] 2)
    simp only [World.size_alloc] at this
    rw [hw0, hb2]
    exact this)
  rw [← hw0, ← hb2]
  clear hw0 hb2
  refine (Slot_any p s _).mono ?_
  rintro e' w1 ⟨bb, bs, rfl, h1, h2, h3, h4, hg⟩
  have HS1 := Lib.hid (HSW.out.gr hg)
  have HI := Lib.hid (H.out.gr HS1.out.g)
  have HSEQ := Lib.hid (SeqSlotP HI.out s bb bs h1 h2)
  have hA : ∀ q, (q = bb ∨ q = bs ∨ S q) → q < w1.heap.size := fun q hq => by
    have l1 := World.block_lt_of_cell? w1 ⟨bb, 0, none⟩ h1
    have l2 := World.block_lt_of_cell? w1 ⟨bs, 0, none⟩ h2
    rcases hq with rfl | rfl | hq
    · exact l1
    · exact l2
    · exact HI.out.lt q hq
  have HA := Lib.hid hA
  have HZ : Hid (SWz w w1 (fun q => q = bb ∨ q = bs ∨ S q) [blkA (b2 + 1 + 1 + 1) (.cells #[.int .i64 0] 2), blkA (b2 + 1 + 1) (.cells #[.int .i64 0, .int .i64 0, .int .i64 0] 234), blkA (b2 + 1) (.cells #[.int .i64 0, .int .i64 0, .int .i64 0, .int .i64 0, .int .i64 0] 161), blkA b2 (.cells #[.pointer p] 35)] (fun _ => False) w1) := Lib.hid (SWz.start HS1.out (fun B hB k hk ha => by
    have l1 := HSW.out.s.lt hB k hk
    have l2 := HSW.out.n B hB k hk
    rcases ha with rfl | rfl | ha
    · omega
    · omega
    · have := H.out.lt k ha; omega))
  clear h1 h2 h3 h4 hg hA
  go_wp2_with fail
  apply wp_rangeFunc_zx (gf := 143) (lb := #[.pointer (some ⟨bb, 0, none⟩), .pointer (some ⟨bs, 0, none⟩)]) rfl (enters_of Tryz.func143 (by kernel_rfl) rfl) HSEQ.out (Mdh.refl _ w1) HA.out (fun _ => rfl)
    (fun Z pre X' => SWz w w1 (fun q => q = bb ∨ q = bs ∨ S q) [blkA (b2 + 1 + 1 + 1) (.cells #[.int .i64 (accB X pre).last] 2), blkA (b2 + 1 + 1) (.cells #[.int .i64 (accB X pre).l, .int .i64 (accB X pre).t, .int .i64 (accB X pre).d] 234), blkA (b2 + 1) (.cells #[.int .i64 0, .int .i64 0, .int .i64 0, .int .i64 0, .int .i64 0] 161), blkA b2 (.cells #[.pointer p] 35)] Z X')
    (fun _ _ _ => False) (fun _ _ _ => False)
    (SWz.apart HS1.out.g.sz (fun pre => [blkA (b2 + 1 + 1 + 1) (.cells #[.int .i64 (accB X pre).last] 2), blkA (b2 + 1 + 1) (.cells #[.int .i64 (accB X pre).l, .int .i64 (accB X pre).t, .int .i64 (accB X pre).d] 234), blkA (b2 + 1) (.cells #[.int .i64 0, .int .i64 0, .int .i64 0, .int .i64 0, .int .i64 0] 161), blkA b2 (.cells #[.pointer p] 35)])) apart_no apart_no
    HZ.out (fun Z pre X' h => h.frm HS1.out.g) (fun x => .cells #[.int .i64 x.seq, .string x.key, .bool x.del, .int .i64 x.slot, .int .i64 x.off, .int .i64 x.size] 56)
    _ ?assign ?body ?hend ?hret
  case hret => intro _ _ _ _ _ _ _ h; exact h.elim
  case assign =>
    intro l x bx X' K hbx hK
    dsimp only [encE, enV]
    gi_wp2
    rw [← hbx]
    exact hK
  case body =>
    intro l Z pre x bx X' hI hbx hx hzx hzl hlr hsp
    have HIZ := Lib.hid hI
    have HBX := Lib.hid hx
    have hv : validE x = true := ((HOK.out.slotOk s).e x (hsp.subset (by simp))).2
    have HAC := Lib.hid (acc_ok X pre (fun e he => ((HOK.out.slotOk s).e e (hsp.subset (List.mem_append_left _ he))).2))
    have HPL : Hid ((pre.length : Int) ≤ 512) := Lib.hid (by have := hsp.length_le; have := HOK.out.slot_le s; simp at *; omega)
    have HSN := Lib.hid (accB_snoc X pre x)
    have HV2 := Lib.hid ((valid_iff x).1 hv)
    clear hI hx hsp hv
    have hxb : X'.heap[bx]? = _ := HBX.out
    have c7 := (cellsOf hxb).1
    have HXL := Lib.hid (blkLt hxb)
    have c5' := (cellsOf (show X'.heap[b2 + 1 + 1]? = _ from HIZ.out.s.get (i := 1) rfl))
    have c6' := (cellsOf (show X'.heap[b2 + 1 + 1 + 1]? = _ from HIZ.out.s.get (i := 0) rfl))
    have c2' := (cellsOf (show X'.heap[b2]? = _ from HIZ.out.s.get (i := 3) rfl)).1
    have hlt5 := blkLt (show X'.heap[b2 + 1 + 1]? = _ from HIZ.out.s.get (i := 1) rfl)
    have HP5 := Lib.hid (show X'.heap[b2 + 1 + 1]? = _ from HIZ.out.s.get (i := 1) rfl)
    have HP6 := Lib.hid (show X'.heap[b2 + 1 + 1 + 1]? = _ from HIZ.out.s.get (i := 0) rfl)
    have HIX : Hid (IXP X' p X S) := Lib.hid (H.out.gr HIZ.out.s.g)
    generalize accB X pre = a at *
    obtain ⟨a1, a2, a3, a4⟩ := a
    simp only at *
    obtain ⟨o1, o2, o3, o4, o5, o6⟩ := HAC.out
    have o7 := HPL.out
    simp only at o1 o2 o3 o4 o5 o6
    have HV := HV2.out
    obtain ⟨v1, v2, v3, v4, v5, v6⟩ := HV2.out
    clear HV
    have HNE : Hid (bx ≠ b2 + 1 + 1) := Lib.hid (by have := blkLt (show w1.heap[b2 + 1 + 1]? = _ from HS1.out.get (i := 1) rfl); omega)
    gi_wp2_with fail
    rcases classE_or X x with hc | hc | hc
    · have F1 := Lib.hid hc
      have HN : Hid (accB X (pre ++ [x]) = ⟨a1 + x.size, a2, a3, max a4 x.seq⟩) := Lib.hid (by rw [HSN.out]; simp [stepB, hc])
      clear hc
      have n7 := HNE.out
      obtain ⟨c5, f5⟩ := c5'
      obtain ⟨c6, f6⟩ := c6'
      refine wpIn_region_flo (fun _ => trivial) rfl (fun k => k = b2 + 1 + 1) [] [16] (by kernel_rfl) (by kernel_rfl) (fun k hk => by subst hk; exact hlt5) ?_
      refine flo_seg 2 rfl ?_
      simp only [List.take_succ_cons, List.take_zero, List.drop_succ_cons, List.drop_zero]
      repeat (go_big_quiet_step (fail))
      refine wpQuiet_nil ?_
      refine flo_eff rfl rfl rfl rfl (fun K hK => ?_)
      gi_wp2_with ((refine ⟨trivial, ?_⟩; gi_at_call 195; refine (CallsIn.inRound l (callsIn_wide.2 (class_any (HIX.out.gr ((Gr.refl _).drew)) x))).mono ?_; rintro e w9 ⟨rfl, hg9⟩; rw [F1.out]; have HGD := Lib.hid hg9; have HG9 := Lib.hid (((Gr.refl _).drew).trans hg9); have d7 := (cellsOf (HG9.out.blk HBX.out)).1; have d5 := (cellsOf (HG9.out.blk HP5.out)).1; have d6 := (cellsOf (HG9.out.blk HP6.out)).1; have g5 := (cellsOf (HG9.out.blk HP5.out)).2; have g6 := (cellsOf (HG9.out.blk HP6.out)).2; clear hg9))
      refine ⟨by first | exact HGD.out.mdh _ | exact HG9.out.mdh _, ?_⟩
      refine flo_seg 1 rfl ?_
      simp only [List.take_succ_cons, List.take_zero, List.drop_succ_cons, List.drop_zero]
      repeat (go_big_quiet_step (fail))
      refine wpQuiet_nil ?_
      refine flo_eff rfl rfl rfl rfl (fun K hK => ?_)
      gi_wp2
      refine ⟨by (first | (refine Gr.mdh ?_ _; (repeat (first | (with_reducible exact Gr.refl _) | assumption | (with_reducible apply Gr.from_drew) | (with_reducible apply Gr.alloc) | (with_reducible apply Gr.drew) | (with_reducible refine Gr.trans ?_ (by assumption)) | (with_reducible refine Gr.setCell ?_ (by omega) _))); done) | (repeat (first | (with_reducible exact Mdh.refl _ _) | (with_reducible refine Mdh.setCell ?_ (by simp) _) | (with_reducible refine Mdh.setNew ?_ (by simp) _) | (with_reducible apply Mdh.alloc) | (with_reducible apply Mdh.from_drew) | (with_reducible apply Mdh.drew) | (with_reducible refine Mdh.gr ?_ (by assumption))))), ?_⟩
      refine flo_seg 4 rfl ?_
      simp only [List.take_succ_cons, List.take_zero, List.drop_succ_cons, List.drop_zero]
      repeat (go_big_quiet_step (fail))
      refine wpQuiet_nil ?_
      refine flo_eff rfl rfl rfl rfl (fun K hK => ?_)
      gi_wp2
      refine ⟨by (first | (refine Gr.mdh ?_ _; (repeat (first | (with_reducible exact Gr.refl _) | assumption | (with_reducible apply Gr.from_drew) | (with_reducible apply Gr.alloc) | (with_reducible apply Gr.drew) | (with_reducible refine Gr.trans ?_ (by assumption)) | (with_reducible refine Gr.setCell ?_ (by omega) _))); done) | (repeat (first | (with_reducible exact Mdh.refl _ _) | (with_reducible refine Mdh.setCell ?_ (by simp) _) | (with_reducible refine Mdh.setNew ?_ (by simp) _) | (with_reducible apply Mdh.alloc) | (with_reducible apply Mdh.from_drew) | (with_reducible apply Mdh.drew) | (with_reducible refine Mdh.gr ?_ (by assumption))))), ?_⟩
      refine flo_nil ?_
      obtain ⟨X2, hX2⟩ : ∃ y, y = w9.setCell ⟨b2 + 1 + 1, 0, none⟩ (.int .i64 (a1 + x.size)) := ⟨_, rfl⟩
      rw [← hX2]
      have HS2 := Lib.hid (HIZ.out.gr HG9.out)
      have HB2 := Lib.hid (HS2.out.1.box (i := 1) rfl HA.out ((Mdh.refl (fun k => k = b2 + 1 + 1) w9).setCell (p := ⟨b2 + 1 + 1, 0, none⟩) rfl (.int .i64 (a1 + x.size))) (blkSet (j := 0) (u := .int .i64 (a1 + x.size)) (HG9.out.blk HP5.out)))
      have HB3 := Lib.hid HB2.out
      rw [← hX2] at HB3
      have HP62 : Hid (X2.heap[b2 + 1 + 1 + 1]? = _) := Lib.hid (HB3.out.1.s.get (i := 0) rfl)
      have hx2 : X2.heap[bx]? = _ := (show X2.heap[bx]? = w9.heap[bx]? from by rw [hX2]; exact Below.heap_setCell _ _ _ _ HNE.out).trans (HG9.out.blk HBX.out)
      clear hX2 c7 c5 f5 c6 f6 c2' d7 d5 d6 g5 g6
      have c7 := (cellsOf hx2).1
      obtain ⟨c6, f6⟩ := cellsOf HP62.out
      clear hx2
      gi_wp2
      all_goals
        have HB4 := HB3.out.1.box (i := 0) rfl HA.out ((Mdh.refl (fun k => k = b2 + 1 + 1 + 1) X2).setCell (p := ⟨b2 + 1 + 1 + 1, 0, none⟩) rfl (.int .i64 (max a4 x.seq))) (blkSet (j := 0) (u := .int .i64 (max a4 x.seq)) HP62.out)
        have HNo := HN.out
        first
          | (have hm : max a4 x.seq = x.seq := by omega
             rw [hm] at HB4 HNo
             refine ⟨(HS2.out.2.trans HB3.out.2).trans HB4.2, ?_⟩
             dsimp only
             rw [HNo]
             exact HB4.1)
          | (have hm : max a4 x.seq = a4 := by omega
             rw [hm] at HB4 HNo
             refine ⟨(HS2.out.2.trans HB3.out.2).trans HB4.2, ?_⟩
             dsimp only
             rw [HNo]
             exact HB4.1)
    · have F1 := Lib.hid hc
      have HN : Hid (accB X (pre ++ [x]) = ⟨a1, a2 + x.size, a3, max a4 x.seq⟩) := Lib.hid (by rw [HSN.out]; simp [stepB, hc])
      clear hc
      have n7 := HNE.out
      obtain ⟨c5, f5⟩ := c5'
      obtain ⟨c6, f6⟩ := c6'
      refine wpIn_region_flo (fun _ => trivial) rfl (fun k => k = b2 + 1 + 1) [] [16] (by kernel_rfl) (by kernel_rfl) (fun k hk => by subst hk; exact hlt5) ?_
      refine flo_seg 2 rfl ?_
      simp only [List.take_succ_cons, List.take_zero, List.drop_succ_cons, List.drop_zero]
      repeat (go_big_quiet_step (fail))
      refine wpQuiet_nil ?_
      refine flo_eff rfl rfl rfl rfl (fun K hK => ?_)
      gi_wp2_with ((refine ⟨trivial, ?_⟩; gi_at_call 195; refine (CallsIn.inRound l (callsIn_wide.2 (class_any (HIX.out.gr ((Gr.refl _).drew)) x))).mono ?_; rintro e w9 ⟨rfl, hg9⟩; rw [F1.out]; have HGD := Lib.hid hg9; have HG9 := Lib.hid (((Gr.refl _).drew).trans hg9); have d7 := (cellsOf (HG9.out.blk HBX.out)).1; have d5 := (cellsOf (HG9.out.blk HP5.out)).1; have d6 := (cellsOf (HG9.out.blk HP6.out)).1; have g5 := (cellsOf (HG9.out.blk HP5.out)).2; have g6 := (cellsOf (HG9.out.blk HP6.out)).2; clear hg9))
      refine ⟨by first | exact HGD.out.mdh _ | exact HG9.out.mdh _, ?_⟩
      refine flo_seg 1 rfl ?_
      simp only [List.take_succ_cons, List.take_zero, List.drop_succ_cons, List.drop_zero]
      repeat (go_big_quiet_step (fail))
      refine wpQuiet_nil ?_
      refine flo_eff rfl rfl rfl rfl (fun K hK => ?_)
      gi_wp2
      refine ⟨by (first | (refine Gr.mdh ?_ _; (repeat (first | (with_reducible exact Gr.refl _) | assumption | (with_reducible apply Gr.from_drew) | (with_reducible apply Gr.alloc) | (with_reducible apply Gr.drew) | (with_reducible refine Gr.trans ?_ (by assumption)) | (with_reducible refine Gr.setCell ?_ (by omega) _))); done) | (repeat (first | (with_reducible exact Mdh.refl _ _) | (with_reducible refine Mdh.setCell ?_ (by simp) _) | (with_reducible refine Mdh.setNew ?_ (by simp) _) | (with_reducible apply Mdh.alloc) | (with_reducible apply Mdh.from_drew) | (with_reducible apply Mdh.drew) | (with_reducible refine Mdh.gr ?_ (by assumption))))), ?_⟩
      refine flo_seg 4 rfl ?_
      simp only [List.take_succ_cons, List.take_zero, List.drop_succ_cons, List.drop_zero]
      repeat (go_big_quiet_step (fail))
      refine wpQuiet_nil ?_
      refine flo_eff rfl rfl rfl rfl (fun K hK => ?_)
      gi_wp2
      refine ⟨by (first | (refine Gr.mdh ?_ _; (repeat (first | (with_reducible exact Gr.refl _) | assumption | (with_reducible apply Gr.from_drew) | (with_reducible apply Gr.alloc) | (with_reducible apply Gr.drew) | (with_reducible refine Gr.trans ?_ (by assumption)) | (with_reducible refine Gr.setCell ?_ (by omega) _))); done) | (repeat (first | (with_reducible exact Mdh.refl _ _) | (with_reducible refine Mdh.setCell ?_ (by simp) _) | (with_reducible refine Mdh.setNew ?_ (by simp) _) | (with_reducible apply Mdh.alloc) | (with_reducible apply Mdh.from_drew) | (with_reducible apply Mdh.drew) | (with_reducible refine Mdh.gr ?_ (by assumption))))), ?_⟩
      refine flo_nil ?_
      obtain ⟨X2, hX2⟩ : ∃ y, y = w9.setCell ⟨b2 + 1 + 1, 1, none⟩ (.int .i64 (a2 + x.size)) := ⟨_, rfl⟩
      rw [← hX2]
      have HS2 := Lib.hid (HIZ.out.gr HG9.out)
      have HB2 := Lib.hid (HS2.out.1.box (i := 1) rfl HA.out ((Mdh.refl (fun k => k = b2 + 1 + 1) w9).setCell (p := ⟨b2 + 1 + 1, 1, none⟩) rfl (.int .i64 (a2 + x.size))) (blkSet (j := 1) (u := .int .i64 (a2 + x.size)) (HG9.out.blk HP5.out)))
      have HB3 := Lib.hid HB2.out
      rw [← hX2] at HB3
      have HP62 : Hid (X2.heap[b2 + 1 + 1 + 1]? = _) := Lib.hid (HB3.out.1.s.get (i := 0) rfl)
      have hx2 : X2.heap[bx]? = _ := (show X2.heap[bx]? = w9.heap[bx]? from by rw [hX2]; exact Below.heap_setCell _ _ _ _ HNE.out).trans (HG9.out.blk HBX.out)
      clear hX2 c7 c5 f5 c6 f6 c2' d7 d5 d6 g5 g6
      have c7 := (cellsOf hx2).1
      obtain ⟨c6, f6⟩ := cellsOf HP62.out
      clear hx2
      gi_wp2
      all_goals
        have HB4 := HB3.out.1.box (i := 0) rfl HA.out ((Mdh.refl (fun k => k = b2 + 1 + 1 + 1) X2).setCell (p := ⟨b2 + 1 + 1 + 1, 0, none⟩) rfl (.int .i64 (max a4 x.seq))) (blkSet (j := 0) (u := .int .i64 (max a4 x.seq)) HP62.out)
        have HNo := HN.out
        first
          | (have hm : max a4 x.seq = x.seq := by omega
             rw [hm] at HB4 HNo
             refine ⟨(HS2.out.2.trans HB3.out.2).trans HB4.2, ?_⟩
             dsimp only
             rw [HNo]
             exact HB4.1)
          | (have hm : max a4 x.seq = a4 := by omega
             rw [hm] at HB4 HNo
             refine ⟨(HS2.out.2.trans HB3.out.2).trans HB4.2, ?_⟩
             dsimp only
             rw [HNo]
             exact HB4.1)
    · have F1 := Lib.hid hc
      have HN : Hid (accB X (pre ++ [x]) = ⟨a1, a2, a3 + x.size, max a4 x.seq⟩) := Lib.hid (by rw [HSN.out]; simp [stepB, hc])
      clear hc
      have n7 := HNE.out
      obtain ⟨c5, f5⟩ := c5'
      obtain ⟨c6, f6⟩ := c6'
      refine wpIn_region_flo (fun _ => trivial) rfl (fun k => k = b2 + 1 + 1) [] [16] (by kernel_rfl) (by kernel_rfl) (fun k hk => by subst hk; exact hlt5) ?_
      refine flo_seg 2 rfl ?_
      simp only [List.take_succ_cons, List.take_zero, List.drop_succ_cons, List.drop_zero]
      repeat (go_big_quiet_step (fail))
      refine wpQuiet_nil ?_
      refine flo_eff rfl rfl rfl rfl (fun K hK => ?_)
      gi_wp2_with ((refine ⟨trivial, ?_⟩; gi_at_call 195; refine (CallsIn.inRound l (callsIn_wide.2 (class_any (HIX.out.gr ((Gr.refl _).drew)) x))).mono ?_; rintro e w9 ⟨rfl, hg9⟩; rw [F1.out]; have HGD := Lib.hid hg9; have HG9 := Lib.hid (((Gr.refl _).drew).trans hg9); have d7 := (cellsOf (HG9.out.blk HBX.out)).1; have d5 := (cellsOf (HG9.out.blk HP5.out)).1; have d6 := (cellsOf (HG9.out.blk HP6.out)).1; have g5 := (cellsOf (HG9.out.blk HP5.out)).2; have g6 := (cellsOf (HG9.out.blk HP6.out)).2; clear hg9))
      refine ⟨by first | exact HGD.out.mdh _ | exact HG9.out.mdh _, ?_⟩
      refine flo_seg 1 rfl ?_
      simp only [List.take_succ_cons, List.take_zero, List.drop_succ_cons, List.drop_zero]
      repeat (go_big_quiet_step (fail))
      refine wpQuiet_nil ?_
      refine flo_eff rfl rfl rfl rfl (fun K hK => ?_)
      gi_wp2
      refine ⟨by (first | (refine Gr.mdh ?_ _; (repeat (first | (with_reducible exact Gr.refl _) | assumption | (with_reducible apply Gr.from_drew) | (with_reducible apply Gr.alloc) | (with_reducible apply Gr.drew) | (with_reducible refine Gr.trans ?_ (by assumption)) | (with_reducible refine Gr.setCell ?_ (by omega) _))); done) | (repeat (first | (with_reducible exact Mdh.refl _ _) | (with_reducible refine Mdh.setCell ?_ (by simp) _) | (with_reducible refine Mdh.setNew ?_ (by simp) _) | (with_reducible apply Mdh.alloc) | (with_reducible apply Mdh.from_drew) | (with_reducible apply Mdh.drew) | (with_reducible refine Mdh.gr ?_ (by assumption))))), ?_⟩
      refine flo_seg 4 rfl ?_
      simp only [List.take_succ_cons, List.take_zero, List.drop_succ_cons, List.drop_zero]
      repeat (go_big_quiet_step (fail))
      refine wpQuiet_nil ?_
      refine flo_eff rfl rfl rfl rfl (fun K hK => ?_)
      gi_wp2
      refine ⟨by (first | (refine Gr.mdh ?_ _; (repeat (first | (with_reducible exact Gr.refl _) | assumption | (with_reducible apply Gr.from_drew) | (with_reducible apply Gr.alloc) | (with_reducible apply Gr.drew) | (with_reducible refine Gr.trans ?_ (by assumption)) | (with_reducible refine Gr.setCell ?_ (by omega) _))); done) | (repeat (first | (with_reducible exact Mdh.refl _ _) | (with_reducible refine Mdh.setCell ?_ (by simp) _) | (with_reducible refine Mdh.setNew ?_ (by simp) _) | (with_reducible apply Mdh.alloc) | (with_reducible apply Mdh.from_drew) | (with_reducible apply Mdh.drew) | (with_reducible refine Mdh.gr ?_ (by assumption))))), ?_⟩
      refine flo_nil ?_
      obtain ⟨X2, hX2⟩ : ∃ y, y = w9.setCell ⟨b2 + 1 + 1, 2, none⟩ (.int .i64 (a3 + x.size)) := ⟨_, rfl⟩
      rw [← hX2]
      have HS2 := Lib.hid (HIZ.out.gr HG9.out)
      have HB2 := Lib.hid (HS2.out.1.box (i := 1) rfl HA.out ((Mdh.refl (fun k => k = b2 + 1 + 1) w9).setCell (p := ⟨b2 + 1 + 1, 2, none⟩) rfl (.int .i64 (a3 + x.size))) (blkSet (j := 2) (u := .int .i64 (a3 + x.size)) (HG9.out.blk HP5.out)))
      have HB3 := Lib.hid HB2.out
      rw [← hX2] at HB3
      have HP62 : Hid (X2.heap[b2 + 1 + 1 + 1]? = _) := Lib.hid (HB3.out.1.s.get (i := 0) rfl)
      have hx2 : X2.heap[bx]? = _ := (show X2.heap[bx]? = w9.heap[bx]? from by rw [hX2]; exact Below.heap_setCell _ _ _ _ HNE.out).trans (HG9.out.blk HBX.out)
      clear hX2 c7 c5 f5 c6 f6 c2' d7 d5 d6 g5 g6
      have c7 := (cellsOf hx2).1
      obtain ⟨c6, f6⟩ := cellsOf HP62.out
      clear hx2
      gi_wp2
      all_goals
        have HB4 := HB3.out.1.box (i := 0) rfl HA.out ((Mdh.refl (fun k => k = b2 + 1 + 1 + 1) X2).setCell (p := ⟨b2 + 1 + 1 + 1, 0, none⟩) rfl (.int .i64 (max a4 x.seq))) (blkSet (j := 0) (u := .int .i64 (max a4 x.seq)) HP62.out)
        have HNo := HN.out
        first
          | (have hm : max a4 x.seq = x.seq := by omega
             rw [hm] at HB4 HNo
             refine ⟨(HS2.out.2.trans HB3.out.2).trans HB4.2, ?_⟩
             dsimp only
             rw [HNo]
             exact HB4.1)
          | (have hm : max a4 x.seq = a4 := by omega
             rw [hm] at HB4 HNo
             refine ⟨(HS2.out.2.trans HB3.out.2).trans HB4.2, ?_⟩
             dsimp only
             rw [HNo]
             exact HB4.1)
  case hend =>
    intro Z D xs W hD hZD hcase hdef
    obtain ⟨hxs, hI⟩ := hcase.elim (fun h => h) (fun h => h.2.elim)
    have hxs' : xs = X.slot s := hxs
    subst hxs'
    have HIZ := Lib.hid hI
    have HD := Lib.hid (And.intro hD hdef)
    have HAC := Lib.hid (acc_ok X (X.slot s) (fun e he => ((HOK.out.slotOk s).e e he).2))
    have HPL : Hid (((X.slot s).length : Int) ≤ 512) := Lib.hid (by have := HOK.out.slot_le s; omega)
    have HBY : Hid (byOf X s = ⟨(accB X (X.slot s)).l + (accB X (X.slot s)).t + (accB X (X.slot s)).d, (accB X (X.slot s)).l, (accB X (X.slot s)).t, (accB X (X.slot s)).d, (accB X (X.slot s)).last⟩) := Lib.hid rfl
    clear hxs hI hcase hD hdef
    generalize accB X (X.slot s) = a at *
    obtain ⟨a1, a2, a3, a4⟩ := a
    simp only at *
    obtain ⟨o1, o2, o3, o4, o5, o6⟩ := HAC.out
    have o7 := HPL.out
    simp only at o1 o2 o3 o4 o5 o6
    have hb4 : W.heap[b2 + 1]? = _ := HIZ.out.s.get (i := 2) rfl
    have c5 := (cellsOf (show W.heap[b2 + 1 + 1]? = _ from HIZ.out.s.get (i := 1) rfl)).1
    have c6 := (cellsOf (show W.heap[b2 + 1 + 1 + 1]? = _ from HIZ.out.s.get (i := 0) rfl)).1
    obtain ⟨c4, f4⟩ := cellsOf hb4
    have HB4 := Lib.hid hb4
    clear hb4
    (try dsimp only)
    go_wp2_with fail
    obtain ⟨W2, hW2⟩ : ∃ y, y = (((((W.setCell ⟨b2 + 1, 0, none⟩ (.int .i64 (a1 + a2 + a3))).setCell ⟨b2 + 1, 1, none⟩ (.int .i64 a1)).setCell ⟨b2 + 1, 2, none⟩ (.int .i64 a2)).setCell ⟨b2 + 1, 3, none⟩ (.int .i64 a3)).setCell ⟨b2 + 1, 4, none⟩ (.int .i64 a4)) := ⟨_, rfl⟩
    have n4 : D ≠ b2 + 1 := fun e => by have := HIZ.out.z _ (List.mem_cons_of_mem _ (List.mem_cons_of_mem _ (List.mem_cons_self ..))) (b2 + 1) rfl; exact this (e ▸ hZD)
    have hWd : W2.heap[D]? = some (.deferred (some [])) := by rw [hW2]; exact blkSetO (blkSetO (blkSetO (blkSetO (blkSetO HD.out.2 n4) n4) n4) n4) n4
    have hWg : Gr w W2 := by
      have hb := HS1.out.g
      have hn : w.heap.size ≤ b2 + 1 := HSW.out.n _ (List.mem_cons_of_mem _ (List.mem_cons_of_mem _ (List.mem_cons_self ..))) (b2 + 1) rfl
      rw [hW2]
      exact ((((HIZ.out.s.g.setCell (p := ⟨b2 + 1, 0, none⟩) hn _).setCell (p := ⟨b2 + 1, 1, none⟩) hn _).setCell (p := ⟨b2 + 1, 2, none⟩) hn _).setCell (p := ⟨b2 + 1, 3, none⟩) hn _).setCell (p := ⟨b2 + 1, 4, none⟩) hn _
    have hWb : W2.heap[b2 + 1]? = some (.cells #[.int .i64 (a1 + a2 + a3), .int .i64 a1, .int .i64 a2, .int .i64 a3, .int .i64 a4] 161) := by rw [hW2]; exact blkSet (j := 4) (blkSet (j := 3) (blkSet (j := 2) (blkSet (j := 1) (blkSet (j := 0) HB4.out))))
    rw [← hW2]
    have h4' : (W2.putObj D (.deferred none)).heap[b2 + 1]? = _ := (World.putObj_heap_other n4.symm).trans hWb
    obtain ⟨d4, _⟩ := cellsOf h4'
    have hnD : w.heap.size ≤ D := by have := HD.out.1; have := HS1.out.g.sz; omega
    refine retM1 (D := D) (v := byV (byOf X s)) rfl hWd ?_ ⟨rfl, hWg.putObj hnD _⟩
    rw [HBY.out]
    simp [results, Tryz.results157, go_sem, d4, byV]
end Go.Proofs.YtmdfickejpeofaaGreat

/- ledger.Of: the bytes of a slot, or why not. -/
set_option linter.unusedVariables false
set_option linter.unusedSimpArgs false
namespace Go.Proofs.YtmdfickejpeofaaGreat
open Go.RowKit Go.Shelf
attribute [local go_sem] OvM cell_ovm obj_ovm
attribute [local go_sem] Oper.semAt_some

def zBy : By := ⟨0, 0, 0, 0, 0⟩
def ofL (X : IX) (s : Int) : By × Int := if X.slots.length = 0 then (zBy, 1) else if s < 0 ∨ (X.slots.length : Int) ≤ s then (zBy, 3) else (byOf X s, 0)
theorem Gr.cell5 {w w' : World} (g : Gr w w') {b : Nat} (h : w.heap.size ≤ b) (u0 u1 u2 u3 u4 : Value) : Gr w (((((w'.setCell ⟨b, 0, none⟩ u0).setCell ⟨b, 1, none⟩ u1).setCell ⟨b, 2, none⟩ u2).setCell ⟨b, 3, none⟩ u3).setCell ⟨b, 4, none⟩ u4) :=
  ((((g.setCell (p := ⟨b, 0, none⟩) h _).setCell (p := ⟨b, 1, none⟩) h _).setCell (p := ⟨b, 2, none⟩) h _).setCell (p := ⟨b, 3, none⟩) h _).setCell (p := ⟨b, 4, none⟩) h _
theorem blk5 {w : World} {b : Nat} {t : TypeId} {a0 a1 a2 a3 a4 : Value} (h : w.heap[b]? = some (.cells #[a0, a1, a2, a3, a4] t)) (u0 u1 u2 u3 u4 : Value) : (((((w.setCell ⟨b, 0, none⟩ u0).setCell ⟨b, 1, none⟩ u1).setCell ⟨b, 2, none⟩ u2).setCell ⟨b, 3, none⟩ u3).setCell ⟨b, 4, none⟩ u4).heap[b]? = some (.cells #[u0, u1, u2, u3, u4] t) :=
  blkSet (j := 4) (blkSet (j := 3) (blkSet (j := 2) (blkSet (j := 1) (blkSet (j := 0) h))))
set_option maxRecDepth 40000 in
set_option maxHeartbeats 4000000 in
theorem OfL_any {w : World} {p : Option Addr} {X : IX} {S : Nat → Prop} (h : IXP w p X S) (s : Int) : Calls Tryz.prog 114 #[.pointer p, .int .i64 s] w fun e w' => e = .returned (.tuple #[byV (ofL X s).1, .int .i64 (ofL X s).2]) ∧ Gr w w' := by
  have H := Lib.hid h
  obtain ⟨n, hn⟩ : ∃ n : Nat, n = X.slots.length := ⟨_, rfl⟩
  have HSL : Hid (∀ w1, Gr w w1 → Calls Tryz.prog 105 #[.pointer p] w1 fun e w' => e = .returned (.int .i64 n) ∧ w1 = w') := Lib.hid (fun w1 g => by rw [hn]; exact Slots_any (h.gr g))
  have HOF : Hid (ofL X s = if n = 0 then (zBy, 1) else if s < 0 ∨ (n : Int) ≤ s then (zBy, 3) else (byOf X s, 0)) := Lib.hid (by rw [hn]; rfl)
  clear h hn
  refine calls_of_wp_marks Tryz.func114 rfl ?_
  simp only [Tryz.ntmps114, List.size_toArray, List.length_cons, List.length_nil, Nat.reduceAdd, Nat.reduceSub, Array.replicate_succ, Array.replicate_zero, List.push_toArray, List.append_toArray, List.nil_append, List.cons_append]
  have h0 : (w.alloc (.cells #[.int .i64 0, .int .i64 0, .int .i64 0, .int .i64 0, .int .i64 0] 161)).heap[w.heap.size]? = _ := blkNew _ _
  have HB0 := Lib.hid h0
  clear h0
  obtain ⟨b, hb⟩ : ∃ b, b = w.heap.size := ⟨_, rfl⟩
  obtain ⟨w0, hw0⟩ : ∃ y, y = w.alloc (.cells #[.int .i64 0, .int .i64 0, .int .i64 0, .int .i64 0, .int .i64 0] 161) := ⟨_, rfl⟩
  have HG0 : Hid (Gr w w0 ∧ w.heap.size ≤ b) := Lib.hid ⟨by rw [hw0]; exact (Gr.refl _).alloc _, by omega⟩
  rw [← hw0, ← hb] at HB0
  by_cases hz : n = 0
  · subst hz
    go_wp2_with fail
    rw [← hw0, ← hb]
    obtain ⟨c4, f4⟩ := cellsOf HB0.out
    clear hw0 hb
    go_wp2_with (first
      | (go_at_call 105; refine (HSL.out _ HG0.out.1).mono ?_; rintro e w1 ⟨rfl, rfl⟩)
      | (go_at_call 157; refine (of_any (H.out.gr HG0.out.1) s).mono ?_; rintro e w1 ⟨rfl, hg⟩; simp only [byV]; have HG1 := Lib.hid hg; have e4 := (cellsOf (hg.blk HB0.out)).1; have g4 := (cellsOf (hg.blk HB0.out)).2; clear hg)
      | fail)
    have HF : ofL X s = (zBy, 1) := by rw [HOF.out]; rfl
    have hb5 := blk5 HB0.out (.int .i64 (zBy.total)) (.int .i64 (zBy.live)) (.int .i64 (zBy.tombs)) (.int .i64 (zBy.dead)) (.int .i64 (zBy.last))
    obtain ⟨d4, _⟩ := cellsOf hb5
    refine retM0 (v := .tuple #[byV (zBy), .int .i64 1]) ?_ rfl ⟨by rw [HF], Gr.cell5 (HG0.out.1) HG0.out.2 _ _ _ _ _⟩
    (try simp only [zBy] at d4)
    simp [results, Tryz.results114, go_sem, d4, byV, zBy]
  · have hz' : decide ((n : Int) = 0) = false := by simpa using hz
    by_cases hs : s < 0
    · go_wp2_with fail
      rw [← hw0, ← hb]
      obtain ⟨c4, f4⟩ := cellsOf HB0.out
      clear hw0 hb
      go_wp2_with (first
        | (go_at_call 105; refine (HSL.out _ HG0.out.1).mono ?_; rintro e w1 ⟨rfl, rfl⟩)
        | (go_at_call 157; refine (of_any (H.out.gr HG0.out.1) s).mono ?_; rintro e w1 ⟨rfl, hg⟩; simp only [byV]; have HG1 := Lib.hid hg; have e4 := (cellsOf (hg.blk HB0.out)).1; have g4 := (cellsOf (hg.blk HB0.out)).2; clear hg)
        | fail)
      have HF : ofL X s = (zBy, 3) := by rw [HOF.out]; simp [hz, hs]
      have hb5 := blk5 HB0.out (.int .i64 (zBy.total)) (.int .i64 (zBy.live)) (.int .i64 (zBy.tombs)) (.int .i64 (zBy.dead)) (.int .i64 (zBy.last))
      obtain ⟨d4, _⟩ := cellsOf hb5
      refine retM0 (v := .tuple #[byV (zBy), .int .i64 3]) ?_ rfl ⟨by rw [HF], Gr.cell5 (HG0.out.1) HG0.out.2 _ _ _ _ _⟩
      (try simp only [zBy] at d4)
      simp [results, Tryz.results114, go_sem, d4, byV, zBy]
    · by_cases hs2 : (n : Int) ≤ s
      · go_wp2_with fail
        rw [← hw0, ← hb]
        obtain ⟨c4, f4⟩ := cellsOf HB0.out
        clear hw0 hb
        go_wp2_with (first
          | (go_at_call 105; refine (HSL.out _ HG0.out.1).mono ?_; rintro e w1 ⟨rfl, rfl⟩)
          | (go_at_call 157; refine (of_any (H.out.gr HG0.out.1) s).mono ?_; rintro e w1 ⟨rfl, hg⟩; simp only [byV]; have HG1 := Lib.hid hg; have e4 := (cellsOf (hg.blk HB0.out)).1; have g4 := (cellsOf (hg.blk HB0.out)).2; clear hg)
          | fail)
        have HF : ofL X s = (zBy, 3) := by rw [HOF.out]; simp [hz, hs2]
        have hb5 := blk5 HB0.out (.int .i64 (zBy.total)) (.int .i64 (zBy.live)) (.int .i64 (zBy.tombs)) (.int .i64 (zBy.dead)) (.int .i64 (zBy.last))
        obtain ⟨d4, _⟩ := cellsOf hb5
        refine retM0 (v := .tuple #[byV (zBy), .int .i64 3]) ?_ rfl ⟨by rw [HF], Gr.cell5 (HG0.out.1) HG0.out.2 _ _ _ _ _⟩
        (try simp only [zBy] at d4)
        simp [results, Tryz.results114, go_sem, d4, byV, zBy]
      · go_wp2_with fail
        rw [← hw0, ← hb]
        obtain ⟨c4, f4⟩ := cellsOf HB0.out
        clear hw0 hb
        go_wp2_with (first
          | (go_at_call 105; refine (HSL.out _ HG0.out.1).mono ?_; rintro e w1 ⟨rfl, rfl⟩)
          | (go_at_call 157; refine (of_any (H.out.gr HG0.out.1) s).mono ?_; rintro e w1 ⟨rfl, hg⟩; simp only [byV]; have HG1 := Lib.hid hg; have e4 := (cellsOf (hg.blk HB0.out)).1; have g4 := (cellsOf (hg.blk HB0.out)).2; clear hg)
          | fail)
        have HF : ofL X s = (byOf X s, 0) := by rw [HOF.out]; simp [hz, hs, hs2]
        have hb5 := blk5 (HG1.out.blk HB0.out) (.int .i64 ((byOf X s).total)) (.int .i64 ((byOf X s).live)) (.int .i64 ((byOf X s).tombs)) (.int .i64 ((byOf X s).dead)) (.int .i64 ((byOf X s).last))
        obtain ⟨d4, _⟩ := cellsOf hb5
        refine retM0 (v := .tuple #[byV (byOf X s), .int .i64 0]) ?_ rfl ⟨by rw [HF], Gr.cell5 (HG0.out.1.trans HG1.out) HG0.out.2 _ _ _ _ _⟩
        (try simp only [zBy] at d4)
        simp [results, Tryz.results114, go_sem, d4, byV, zBy]
end Go.Proofs.YtmdfickejpeofaaGreat
