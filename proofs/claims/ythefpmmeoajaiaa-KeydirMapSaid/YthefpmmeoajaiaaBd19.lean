/- What the map of an index is, as a sorted list of keys; KeydirDrops in plain Lean. No walk. -/
import Derived.Test.YthefpmmeoajaiaaBd15
import Derived.Test.YthefpmmeoajaiaaBd12
import Derived.Test.YthefpmmeoajaiaaBd10
import Derived.Test.YthefpmmeoajaiaaBd6
set_option linter.unusedVariables false
set_option linter.unusedSimpArgs false
namespace Go.Proofs.Ythefpmmeoajaiaa

section
variable {X : IX}
theorem mem_ks (h : X.Wf) (k : ByteArray) : k ∈ X.ks ↔ X.of k ≠ [] := by
  constructor
  · intro hk
    obtain ⟨x, hx, rfl⟩ := List.mem_map.1 hk
    unfold IX.of
    rw [(look_mem ordS h.k0 x.1 x.2).2 hx]
    exact (h.k x hx).ne
  · intro hk
    unfold IX.of at hk
    cases hl : look ltS X.keys k with
    | none => rw [hl] at hk; exact absurd rfl hk
    | some l => exact List.mem_map.2 ⟨(k, l), (look_mem ordS h.k0 k l).1 hl, rfl⟩
theorem ks_srt (h : X.Wf) : X.ks.Pairwise (fun a b => ltS a b = true) := List.pairwise_map.2 h.k0
theorem findE_ne {k : ByteArray} (h : (findE X k).isSome = true) : X.of k ≠ [] := fun h0 => by
  unfold findE at h
  rw [h0] at h
  cases h
/-- The keys of the map: those of the index that are found. -/
def lvK (X : IX) : List ByteArray := X.ks.filter (fun k => (findE X k).isSome)
def szK (X : IX) (k : ByteArray) : Int := ((findE X k).getD zE).size
theorem lvF_fst (l : List ByteArray) : (lvF X l).map (fun x => x.1) = l.filter (fun k => (findE X k).isSome) ∧ (lvF X l).map (fun x => x.2.size) = (l.filter (fun k => (findE X k).isSome)).map (szK X) := by
  induction l with
  | nil => exact ⟨rfl, rfl⟩
  | cons k l ih =>
    unfold lvF at *
    rw [List.filterMap_cons, List.filter_cons]
    cases hf : findE X k with
    | none => simpa using ih
    | some e =>
      simp only [Option.map_some, Option.isSome_some, if_true, List.map_cons]
      refine ⟨by rw [ih.1], ?_⟩
      rw [ih.2]
      congr 1
      unfold szK
      rw [hf]
      rfl
theorem live_keys : (liveL X).map (fun x => x.1) = lvK X := (lvF_fst X.ks).1
theorem sumF_map (f : En → Int) : ∀ l : List (ByteArray × En), sumF f l = (l.map (fun x => f x.2)).sum := by
  have h : ∀ (l : List (ByteArray × En)) (a : Int), l.foldl (fun a x => a + f x.2) a = a + (l.map (fun x => f x.2)).sum := by
    intro l
    induction l with
    | nil => intro a; simp
    | cons x l ih => intro a; rw [List.foldl_cons, ih, List.map_cons, List.sum_cons]; omega
  intro l
  have := h l 0
  unfold sumF
  omega
theorem live_size : sumF (fun e => e.size) (liveL X) = ((lvK X).map (szK X)).sum := by
  rw [sumF_map, show ((liveL X).map (fun x => x.2.size)) = (lvK X).map (szK X) from (lvF_fst X.ks).2]
theorem lvK_mem (h : X.Wf) (k : ByteArray) : k ∈ lvK X ↔ (findE X k).isSome = true := by
  unfold lvK
  rw [List.mem_filter, mem_ks h]
  exact ⟨fun h => h.2, fun h2 => ⟨findE_ne h2, h2⟩⟩
theorem lvK_srt (h : X.Wf) : (lvK X).Pairwise (fun a b => ltS a b = true) := (ks_srt h).sublist List.filter_sublist
theorem keys_eq {l m : List ByteArray} (hl : l.Pairwise (fun a b => ltS a b = true)) (hm : m.Pairwise (fun a b => ltS a b = true)) (h : ∀ x, x ∈ l ↔ x ∈ m) : l = m :=
  pair_eq (R := fun a b => ltS a b = true) (fun a => by rw [ordS.irr]; decide) (fun a b c h1 h2 => ordS.trn h1 h2) hl hm h
end
/-- Each entry of the slot is shadowed, or has a copy elsewhere. -/
def okD (X : IX) (all : List En) (s : Int) (e : En) : Bool := decide (e.seq < ((X.of e.key).headD zE).seq) || all.any (fun o => !decide (o.slot = s) && decide (o.key = e.key) && decide (o.seq = e.seq))
section
variable {X : IX} {all : List En} {en : Int → Int} {n : Int}
theorem drop_find (h : FG X all en n) {s : Int} (hk : ∀ e ∈ all, e.slot = s → okD X all s e = true) (k : ByteArray) : (findE (dropX X s) k).isSome = (findE X k).isSome ∧ szK (dropX X s) k = szK X k := by
  have hof := drop_of h.wf s k
  have hp := h.wf.ofPair k
  have hall := h.of k
  unfold szK
  cases hl : X.of k with
  | nil =>
    rw [hl, List.filter_nil] at hof
    unfold findE
    rw [hof, hl]
    exact ⟨rfl, rfl⟩
  | cons y t =>
    rw [hl] at hof hp hall
    have hy := (hall y).1 (List.mem_cons_self ..)
    rw [List.filter_cons] at hof
    by_cases hs : y.slot = s
    · rw [if_neg (by simp [hs])] at hof
      have h1 := hk y hy.1 hs
      unfold okD at h1
      rw [hy.2, hl, List.headD_cons, decide_eq_false (Int.lt_irrefl _), Bool.false_or] at h1
      obtain ⟨o, ho, h2⟩ := List.any_eq_true.1 h1
      simp only [Bool.and_eq_true, Bool.not_eq_true', decide_eq_false_iff_not, decide_eq_true_eq] at h2
      have h3 : o ∈ t.filter (fun o => decide (o.slot ≠ s)) := by
        refine List.mem_filter.2 ⟨?_, decide_eq_true h2.1.1⟩
        rcases List.mem_cons.1 ((hall o).2 ⟨ho, h2.1.2⟩) with h4 | h4
        · rw [h4] at h2; exact absurd hs h2.1.1
        · exact h4
      cases hf : t.filter (fun o => decide (o.slot ≠ s)) with
      | nil => rw [hf] at h3; cases h3
      | cons z u =>
        rw [hf] at h3 hof
        have hz : z ∈ t := (List.mem_filter.1 (show z ∈ t.filter (fun o => decide (o.slot ≠ s)) by rw [hf]; exact List.mem_cons_self ..)).1
        have hyz : ltE y z = true := (List.pairwise_cons.1 hp).1 z hz
        have hza := (hall z).1 (List.mem_cons_of_mem _ hz)
        have hpt : (z :: u).Pairwise (fun a b => ltE a b = true) := by rw [← hf]; exact (List.pairwise_cons.1 hp).2.sublist List.filter_sublist
        have hq : z.seq = y.seq := by
          unfold ltE at hyz
          have h5 := of_decide_eq_true hyz
          rcases List.mem_cons.1 h3 with h4 | h4
          · rw [← h4]; exact h2.2
          · have h6 := (List.pairwise_cons.1 hpt).1 o h4
            unfold ltE at h6
            have h7 := of_decide_eq_true h6
            omega
        obtain ⟨c1, c2, c3⟩ := h.cp z hza.1 y hy.1 hq
        unfold findE
        rw [hof, hl]
        simp only
        rw [c2]
        cases y.del
        · exact ⟨rfl, c3⟩
        · exact ⟨rfl, rfl⟩
    · rw [if_pos (by simp [hs])] at hof
      unfold findE
      rw [hof, hl]
      exact ⟨rfl, rfl⟩
theorem drop_live (h : FG X all en n) {s : Int} (hk : ∀ e ∈ all, e.slot = s → okD X all s e = true) : lvK (dropX X s) = lvK X ∧ sumF (fun e => e.size) (liveL (dropX X s)) = sumF (fun e => e.size) (liveL X) := by
  have hw := drop_wf h.wf s
  have e1 : lvK (dropX X s) = lvK X := keys_eq (lvK_srt hw) (lvK_srt h.wf) (fun k => by rw [lvK_mem hw, lvK_mem h.wf, (drop_find h hk k).1])
  refine ⟨e1, ?_⟩
  rw [live_size, live_size, e1]
  congr 1
  exact List.map_congr_left (fun k _ => (drop_find h hk k).2)
end
end Go.Proofs.Ythefpmmeoajaiaa

/- KeydirMap in plain Lean: the list of pairs that the law keeps is the map. No walk. -/
set_option linter.unusedVariables false
set_option linter.unusedSimpArgs false
namespace Go.Proofs.Ythefpmmeoajaiaa

/-- y is one of the newest entries of its key. -/
structure Top (all : List En) (k : ByteArray) (y : En) : Prop where
  m : y ∈ all
  e : y.key = k
  t : ∀ o ∈ all, o.key = k → o.seq ≤ y.seq
section
variable {X X' : IX} {all : List En} {en en' : Int → Int} {n : Int}
theorem head_top (h : FG X all en n) {k : ByteArray} {z : En} {tl : List En} (hl : X.of k = z :: tl) : Top all k z := by
  have hz := (h.of k z).1 (by rw [hl]; exact List.mem_cons_self ..)
  refine ⟨hz.1, hz.2, fun o ho hk => ?_⟩
  have hm := (h.of k o).2 ⟨ho, hk⟩
  rw [hl] at hm
  rcases List.mem_cons.1 hm with h1 | h1
  · rw [h1]; exact Int.le_refl _
  · have hp := h.wf.ofPair k
    rw [hl] at hp
    have h2 := (List.pairwise_cons.1 hp).1 o h1
    unfold ltE at h2
    have := of_decide_eq_true h2
    omega
theorem top_find (h : FG X all en n) {k : ByteArray} {y : En} (t : Top all k y) (s : Int) : (∃ c, findE X k = some c ∧ c.size = s) ↔ (y.del = false ∧ y.size = s) := by
  have hm := (h.of k y).2 ⟨t.m, t.e⟩
  cases hl : X.of k with
  | nil => rw [hl] at hm; cases hm
  | cons z tl =>
    have tz := head_top h hl
    have hq : z.seq = y.seq := by
      have h1 := t.t z tz.m tz.e
      have h2 := tz.t y t.m t.e
      omega
    obtain ⟨_, c2, c3⟩ := h.cp z tz.m y t.m hq
    unfold findE
    rw [hl]
    simp only
    rw [c2]
    cases hd : y.del with
    | true => simp
    | false => simp [c3]
theorem none_find (h : FG X all en n) {k : ByteArray} (hn : ∀ o ∈ all, o.key ≠ k) : findE X k = none := by
  unfold findE
  cases hl : X.of k with
  | nil => rfl
  | cons z tl =>
    have tz := head_top h hl
    exact absurd tz.e (hn z tz.m)
theorem find_ok (h : FG X all en n) {k : ByteArray} {c : En} (hf : findE X k = some c) : c.key = k ∧ c.del = false ∧ c ∈ all := by
  unfold findE at hf
  cases hl : X.of k with
  | nil => rw [hl] at hf; cases hf
  | cons z tl =>
    rw [hl] at hf
    simp only at hf
    have tz := head_top h hl
    split at hf
    · cases hf
    · rename_i hd
      obtain rfl := Option.some.inj hf
      exact ⟨tz.e, by simpa using hd, tz.m⟩
/-- What is found of a key stays, where its newest entries stay newest. -/
theorem keep_find (h : FG X all en n) {e : En} (h' : FG X' (all ++ [e]) en' n) {k : ByteArray} (hk : e.key = k → ∃ x ∈ all, x.key = k ∧ e.seq ≤ x.seq) (s : Int) : (∃ c, findE X' k = some c ∧ c.size = s) ↔ (∃ c, findE X k = some c ∧ c.size = s) := by
  cases hl : X.of k with
  | nil =>
    have hn : ∀ o ∈ all, o.key ≠ k := fun o ho hok => by
      have := (h.of k o).2 ⟨ho, hok⟩
      rw [hl] at this
      cases this
    have hn' : ∀ o ∈ all ++ [e], o.key ≠ k := fun o ho => by
      rcases List.mem_append.1 ho with ho | ho
      · exact hn o ho
      · rw [List.mem_singleton.1 ho]
        intro hek
        obtain ⟨x, hx, hxk, _⟩ := hk hek
        exact hn x hx hxk
    rw [none_find h hn, none_find h' hn']
  | cons z tl =>
    have tz := head_top h hl
    have tz' : Top (all ++ [e]) k z := by
      refine ⟨List.mem_append_left _ tz.m, tz.e, fun o ho hok => ?_⟩
      rcases List.mem_append.1 ho with ho | ho
      · exact tz.t o ho hok
      · rw [List.mem_singleton.1 ho] at hok ⊢
        obtain ⟨x, hx, hxk, hxq⟩ := hk hok
        have := tz.t x hx hxk
        omega
    rw [top_find h tz, top_find h' tz']
end
/-! ### The list of pairs -/
def keyI (k : ByteArray) (p : ByteArray × Int) : Bool := decide (p.1 = k)
def pIdx (l : List (ByteArray × Int)) (k : ByteArray) : Option Nat := l.findIdx? (keyI k)
def wantT (l : List (ByteArray × Int)) (e : En) : List (ByteArray × Int) :=
  match pIdx l e.key with
  | some i => if e.del = true then l.eraseIdx i else l.set i (e.key, e.size)
  | none => if e.del = true then l else l ++ [(e.key, e.size)]
theorem pIdx_some {l : List (ByteArray × Int)} {k : ByteArray} {i : Nat} (h : pIdx l k = some i) : ∃ s, l[i]? = some (k, s) := by
  unfold pIdx at h
  obtain ⟨hi, hp, _⟩ := List.findIdx?_eq_some_iff_getElem.1 h
  refine ⟨l[i].2, ?_⟩
  rw [List.getElem?_eq_getElem hi]
  have := of_decide_eq_true hp
  rw [← this]
theorem pIdx_none {l : List (ByteArray × Int)} {k : ByteArray} (h : pIdx l k = none) : ∀ p ∈ l, p.1 ≠ k := fun p hp => by
  have := List.findIdx?_eq_none_iff.1 h p hp
  exact of_decide_eq_false this
theorem nd_split {l : List (ByteArray × Int)} (h : (l.map (fun p => p.1)).Nodup) {i : Nat} {k : ByteArray} {s : Int} (hi : l[i]? = some (k, s)) : l = l.take i ++ (k, s) :: l.drop (i + 1) ∧ ∀ p ∈ l.take i ++ l.drop (i + 1), p.1 ≠ k := by
  obtain ⟨hlt, he⟩ := List.getElem?_eq_some_iff.1 hi
  have e1 : l = l.take i ++ (k, s) :: l.drop (i + 1) := by
    rw [← he, List.getElem_cons_drop, List.take_append_drop]
  refine ⟨e1, fun p hp hpk => ?_⟩
  rw [e1, List.map_append, List.map_cons] at h
  have h1 := List.nodup_append.1 h
  rcases List.mem_append.1 hp with hp | hp
  · exact h1.2.2 p.1 (List.mem_map.2 ⟨p, hp, rfl⟩) k (List.mem_cons_self ..) hpk
  · exact (List.nodup_cons.1 h1.2.1).1 (List.mem_map.2 ⟨p, hp, hpk⟩)
theorem wantT_mem {l : List (ByteArray × Int)} (h : (l.map (fun p => p.1)).Nodup) (e : En) (k : ByteArray) (s : Int) : (k, s) ∈ wantT l e ↔ (k ≠ e.key ∧ (k, s) ∈ l) ∨ (k = e.key ∧ e.del = false ∧ e.size = s) := by
  unfold wantT
  cases hp : pIdx l e.key with
  | none =>
    have hn := pIdx_none hp
    simp only
    split
    · rename_i hd
      constructor
      · intro hm
        exact .inl ⟨hn _ hm, hm⟩
      · rintro (⟨_, hm⟩ | ⟨_, hd', _⟩)
        · exact hm
        · rw [hd] at hd'; cases hd'
    · rename_i hd
      have hd : e.del = false := by simpa using hd
      rw [List.mem_append, List.mem_singleton]
      constructor
      · rintro (hm | hm)
        · exact .inl ⟨hn _ hm, hm⟩
        · injection hm with h1 h2
          exact .inr ⟨h1, hd, h2.symm⟩
      · rintro (⟨_, hm⟩ | ⟨h1, _, h2⟩)
        · exact .inl hm
        · exact .inr (by rw [h1, h2])
  | some i =>
    obtain ⟨s0, hi⟩ := pIdx_some hp
    obtain ⟨e1, hne⟩ := nd_split h hi
    have hlt := (List.getElem?_eq_some_iff.1 hi).1
    have hmem : (k, s) ∈ l ↔ (k, s) ∈ l.take i ++ l.drop (i + 1) ∨ (k = e.key ∧ s = s0) := by
      rw [List.mem_append]
      conv => lhs; rw [e1]
      rw [List.mem_append, List.mem_cons]
      constructor
      · rintro (h1 | h1 | h1)
        · exact .inl (.inl h1)
        · injection h1 with h2 h3; exact .inr ⟨h2, h3⟩
        · exact .inl (.inr h1)
      · rintro ((h1 | h1) | ⟨h1, h2⟩)
        · exact .inl h1
        · exact .inr (.inr h1)
        · exact .inr (.inl (by rw [h1, h2]))
    simp only
    split
    · rename_i hd
      rw [List.eraseIdx_eq_take_drop_succ]
      constructor
      · intro hm
        exact .inl ⟨hne _ hm, hmem.2 (.inl hm)⟩
      · rintro (⟨hk, hm⟩ | ⟨_, hd', _⟩)
        · exact (hmem.1 hm).resolve_right (fun hh => hk hh.1)
        · rw [hd] at hd'; cases hd'
    · rename_i hd
      have hd : e.del = false := by simpa using hd
      have hset : (k, s) ∈ l.set i (e.key, e.size) ↔ (k, s) ∈ l.take i ++ l.drop (i + 1) ∨ (k = e.key ∧ s = e.size) := by
        rw [List.set_eq_take_append_cons_drop, if_pos hlt, List.mem_append, List.mem_append, List.mem_cons]
        constructor
        · rintro (h1 | h1 | h1)
          · exact .inl (.inl h1)
          · injection h1 with h2 h3; exact .inr ⟨h2, h3⟩
          · exact .inl (.inr h1)
        · rintro ((h1 | h1) | ⟨h1, h2⟩)
          · exact .inl h1
          · exact .inr (.inr h1)
          · exact .inr (.inl (by rw [h1, h2]))
      rw [hset]
      constructor
      · rintro (hm | ⟨h1, h2⟩)
        · exact .inl ⟨hne _ hm, hmem.2 (.inl hm)⟩
        · exact .inr ⟨h1, hd, h2.symm⟩
      · rintro (⟨hk, hm⟩ | ⟨h1, _, h2⟩)
        · exact .inl ((hmem.1 hm).resolve_right (fun hh => hk hh.1))
        · exact .inr ⟨h1, h2.symm⟩
theorem wantT_nd {l : List (ByteArray × Int)} (h : (l.map (fun p => p.1)).Nodup) (e : En) : ((wantT l e).map (fun p => p.1)).Nodup := by
  unfold wantT
  cases hp : pIdx l e.key with
  | none =>
    have hn := pIdx_none hp
    simp only
    split
    · exact h
    · rw [List.map_append, List.map_cons, List.map_nil]
      refine List.nodup_append.2 ⟨h, by simp, fun a ha b hb hab => ?_⟩
      obtain ⟨p, hp1, hp2⟩ := List.mem_map.1 ha
      rw [List.mem_singleton.1 hb] at hab
      exact hn p hp1 (by rw [hp2, hab])
  | some i =>
    obtain ⟨s0, hi⟩ := pIdx_some hp
    simp only
    split
    · exact h.sublist ((List.eraseIdx_sublist l i).map _)
    · have e2 : (l.set i (e.key, e.size)).map (fun p => p.1) = l.map (fun p => p.1) := by
        rw [List.map_set]
        refine List.ext_getElem? (fun j => ?_)
        rw [List.getElem?_set]
        split
        · rename_i hij
          subst hij
          rw [List.getElem?_map, hi]
          have := (List.getElem?_eq_some_iff.1 hi).1
          simp [this]
        · rfl
      rw [e2]
      exact h
theorem wantT_len (l : List (ByteArray × Int)) (e : En) : (wantT l e).length ≤ l.length + 1 := by
  unfold wantT
  cases hp : pIdx l e.key with
  | none => simp only; split <;> simp
  | some i =>
    simp only
    split
    · have := List.length_eraseIdx_le l i; omega
    · simp
/-- The pairs are the map. -/
structure MapI (X : IX) (l : List (ByteArray × Int)) : Prop where
  nd : (l.map (fun p => p.1)).Nodup
  mem : ∀ k s, (k, s) ∈ l ↔ ∃ c, findE X k = some c ∧ c.size = s
section
variable {X X' : IX} {all : List En} {en en' : Int → Int} {n : Int} {l : List (ByteArray × Int)}
theorem MapI.new (m : MapI X l) (h : FG X all en n) {e : En} (h' : FG X' (all ++ [e]) en' n) (hq : ∀ o ∈ all, o.seq < e.seq) : MapI X' (wantT l e) := by
  refine ⟨wantT_nd m.nd e, fun k s => ?_⟩
  rw [wantT_mem m.nd]
  by_cases hk : k = e.key
  · have t : Top (all ++ [e]) k e := ⟨List.mem_append_right _ (List.mem_singleton.2 rfl), hk.symm, fun o ho _ => by
      rcases List.mem_append.1 ho with ho | ho
      · have := hq o ho; omega
      · rw [List.mem_singleton.1 ho]; exact Int.le_refl _⟩
    rw [top_find h' t]
    constructor
    · rintro (⟨h1, _⟩ | ⟨_, h2⟩)
      · exact absurd hk h1
      · exact h2
    · exact fun h2 => .inr ⟨hk, h2⟩
  · rw [keep_find h h' (k := k) (fun he => absurd he.symm hk), ← m.mem]
    constructor
    · rintro (⟨_, h1⟩ | ⟨h1, _⟩)
      · exact h1
      · exact absurd h1 hk
    · exact fun h1 => .inl ⟨hk, h1⟩
theorem MapI.copy (m : MapI X l) (h : FG X all en n) {e : En} (h' : FG X' (all ++ [e]) en' n) (hx : ∃ x ∈ all, x.key = e.key ∧ x.seq = e.seq) : MapI X' l := by
  refine ⟨m.nd, fun k s => ?_⟩
  rw [keep_find h h' (k := k) (fun he => by
    obtain ⟨x, h1, h2, h3⟩ := hx
    exact ⟨x, h1, h2.trans he, by omega⟩), m.mem]
theorem MapI.start (N : Nat) : MapI (ixNew N) [] := by
  refine ⟨List.nodup_nil, fun k s => ⟨fun h => (by cases h), ?_⟩⟩
  rintro ⟨c, h1, _⟩
  unfold findE IX.of ixNew at h1
  simp [look] at h1
theorem MapI.perm (m : MapI X l) (h : X.Wf) : (l.map (fun p => p.1)).Perm (lvK X) := by
  refine (List.perm_ext_iff_of_nodup m.nd ((lvK_srt h).imp (fun {a b} hab e => by subst e; rw [ordS.irr] at hab; cases hab))).2 (fun k => ?_)
  rw [lvK_mem h]
  constructor
  · intro hk
    obtain ⟨p, hp, rfl⟩ := List.mem_map.1 hk
    obtain ⟨c, hc, _⟩ := (m.mem p.1 p.2).1 hp
    rw [hc]
    rfl
  · intro hk
    obtain ⟨c, hc⟩ := Option.isSome_iff_exists.1 hk
    exact List.mem_map.2 ⟨(k, c.size), (m.mem k c.size).2 ⟨c, hc, rfl⟩, rfl⟩
theorem MapI.len (m : MapI X l) (h : X.Wf) : l.length = (liveL X).length := by
  have h1 := (m.perm h).length_eq
  have h2 := congrArg List.length (live_keys (X := X))
  simp only [List.length_map] at h1 h2
  omega
theorem perm_sum {l m : List Int} (h : l.Perm m) : l.sum = m.sum := by
  induction h with
  | nil => rfl
  | cons x _ ih => rw [List.sum_cons, List.sum_cons, ih]
  | swap x y l => rw [List.sum_cons, List.sum_cons, List.sum_cons, List.sum_cons]; omega
  | trans _ _ h1 h2 => rw [h1, h2]
theorem MapI.cost (m : MapI X l) (h : X.Wf) : sumF (fun e => e.size) (liveL X) = (l.map (fun p => p.2)).sum := by
  rw [live_size]
  have h1 := perm_sum ((m.perm h).map (szK X))
  rw [← h1, List.map_map]
  congr 1
  refine List.map_congr_left (fun p hp => ?_)
  obtain ⟨c, hc, hs⟩ := (m.mem p.1 p.2).1 hp
  show szK X p.1 = p.2
  unfold szK
  rw [hc]
  exact hs
theorem MapI.key (m : MapI X l) (h : X.Wf) {k : ByteArray} (hk : k ∈ (liveL X).map (fun x => x.1)) : pIdx l k ≠ none := by
  rw [live_keys] at hk
  intro hn
  have := pIdx_none hn
  have hm := (m.perm h).mem_iff.2 hk
  obtain ⟨p, hp, rfl⟩ := List.mem_map.1 hm
  exact this p hp rfl
end
/-! ### The turns -/
theorem stepM_new {st : MS} {N : Int} {j : Nat} (h : st.Ok N j) (hN : 1 ≤ N) {t : Tn} (ht : t.Ok) (hk : t.kind % 8 < 5) : stepM N st t = ⟨addX st.X (atM st (newM N st t)), st.all ++ [atM st (newM N st t)], st.nx + 1⟩ := by
  obtain ⟨_, hq⟩ := newM_ok h hN ht
  unfold stepM
  rw [if_pos hk]
  unfold addM
  rw [if_neg (fun hd => by
    obtain ⟨o, ho, _, h2⟩ := dupM_iff.1 hd
    exact hq o ho h2)]
  rfl
/-- One turn, with the list of pairs. -/
def stepW (N : Int) (p : MS × List (ByteArray × Int)) (t : Tn) : MS × List (ByteArray × Int) :=
  if t.kind % 8 = 7 then p else (stepM N p.1 t, if t.kind % 8 < 5 then wantT p.2 (atM p.1 (newM N p.1 t)) else p.2)
def foldW (n : Nat) (L : List Tn) : MS × List (ByteArray × Int) := L.foldl (stepW n) (⟨ixNew n, [], 1⟩, [])
theorem foldW_take (n : Nat) {L : List Tn} {j : Nat} {x : Tn} (h : L[j]? = some x) : foldW n (L.take (j + 1)) = stepW n (foldW n (L.take j)) x := by
  rw [List.take_add_one, h]
  simp [foldW]
structure WOk (p : MS × List (ByteArray × Int)) (N : Int) (j : Nat) : Prop where
  s : p.1.Ok N j
  m : MapI p.1.X p.2
  n : p.2.length ≤ j
theorem stepW_ok {p : MS × List (ByteArray × Int)} {N : Int} {j : Nat} (h : WOk p N j) (hj : j < 100) (hN : 1 ≤ N) {t : Tn} (ht : t.Ok) : WOk (stepW N p t) N (j + 1) := by
  unfold stepW
  split
  · exact ⟨MS.later h.s (by omega), h.m, by have := h.n; omega⟩
  · rename_i h7
    have h8 : 0 ≤ t.kind % 8 ∧ t.kind % 8 < 8 := by omega
    have hs := stepM_ok h.s hj hN ht
    refine ⟨hs, ?_, ?_⟩
    · show MapI (stepM N p.1 t).X (if t.kind % 8 < 5 then wantT p.2 (atM p.1 (newM N p.1 t)) else p.2)
      split
      · rename_i h5
        have e := stepM_new h.s hN ht h5
        have hg := hs.g
        rw [e] at hg ⊢
        refine h.m.new h.s.g (en' := endL (p.1.all ++ [atM p.1 (newM N p.1 t)])) hg (fun o ho => ?_)
        have := (h.s.e o ho).2.1
        show o.seq < p.1.nx
        exact this
      · rename_i h5
        have hg := hs.g
        unfold stepM at hg ⊢
        rw [if_neg h5, if_pos (show t.kind % 8 < 7 by omega)] at hg ⊢
        by_cases hne : p.1.all = []
        · rw [if_pos hne]; exact h.m
        · rw [if_neg hne] at hg ⊢
          unfold addM at hg ⊢
          by_cases hd : dupM p.1 (cpM N p.1 t) = true
          · rw [if_pos hd]; exact h.m
          · rw [if_neg hd] at hg ⊢
            refine h.m.copy h.s.g (en' := endL (p.1.all ++ [atM p.1 (cpM N p.1 t)])) hg ?_
            exact ⟨_, cpM_mem hne t.n ht.n.1, rfl, rfl⟩
    · show (if t.kind % 8 < 5 then wantT p.2 (atM p.1 (newM N p.1 t)) else p.2).length ≤ j + 1
      have := h.n
      split
      · have := wantT_len p.2 (atM p.1 (newM N p.1 t)); omega
      · omega
theorem foldW_ok (n : Nat) (h1 : 1 ≤ n) (h2 : n ≤ 32) : ∀ (j : Nat) (L : List Tn), L.length = j → j ≤ 100 → (∀ t ∈ L, t.Ok) → WOk (foldW n L) n j
  | 0, L, hL, _, _ => by
    rw [List.eq_nil_of_length_eq_zero hL]
    exact ⟨foldM_ok n h1 h2 0 [] rfl (by omega) (fun _ h => by cases h), MapI.start n, Nat.le_refl _⟩
  | j + 1, L, hL, hj, ht => by
    have hne : L ≠ [] := fun h => by rw [h] at hL; cases hL
    have e := List.dropLast_concat_getLast hne
    have h3 := foldW_ok n h1 h2 j L.dropLast (by rw [List.length_dropLast]; omega) (by omega) (fun m h => ht m (List.dropLast_subset L h))
    have e2 : foldW n L = stepW n (foldW n L.dropLast) (L.getLast hne) := by
      conv => lhs; rw [← e]
      simp [foldW]
    rw [e2]
    exact stepW_ok h3 (by omega) (by omega) (ht _ (List.getLast_mem hne))
end Go.Proofs.Ythefpmmeoajaiaa

/- A row of pairs of chapter 22 (a key, a size); find. -/
set_option linter.unusedVariables false
set_option linter.unusedSimpArgs false
namespace Go.Proofs.Ythefpmmeoajaiaa
open Go.RowKit Go.Shelf
attribute [local go_sem] OvM cell_ovm obj_ovm

abbrev PrI := ByteArray × Int
def cellsQ (p : PrI) : List Value := [.string p.1, .int .i64 p.2]
def rowQ (l : List PrI) : List Value := l.flatMap cellsQ
theorem rowQ_snoc (l : List PrI) (t : PrI) : rowQ (l ++ [t]) = rowQ l ++ cellsQ t := by simp [rowQ]
theorem rowQ_app (l m : List PrI) : rowQ (l ++ m) = rowQ l ++ rowQ m := by simp [rowQ]
theorem rowQ_cons (t : PrI) (l : List PrI) : rowQ (t :: l) = cellsQ t ++ rowQ l := by simp [rowQ]
theorem rowQ_len (l : List PrI) : (rowQ l).length = l.length * 2 := by
  induction l with
  | nil => rfl
  | cons p l ih => rw [rowQ_cons, List.length_append, ih]; simp [cellsQ]; omega
theorem cellsQ_one (p : PrI) : ∀ u ∈ cellsQ p, u.oneCell' = true := by
  intro u hu
  simp only [cellsQ, List.mem_cons, List.not_mem_nil, or_false] at hu
  rcases hu with rfl | rfl <;> simp [Value.oneCell']
theorem rowQ_one (l : List PrI) : ∀ u ∈ rowQ l, u.oneCell' = true := by
  intro u hu
  obtain ⟨p, _, hp⟩ := List.mem_flatMap.1 hu
  exact cellsQ_one p u hp
theorem rowQ_get (l : List PrI) : ∀ i x, l[i]? = some x → ∀ j u, (cellsQ x)[j]? = some u → (rowQ l)[i * 2 + j]? = some u := by
  induction l with
  | nil => intro i x h; simp at h
  | cons y l ih =>
    intro i x h j u hu
    have hj : j < 2 := by have := (List.getElem?_eq_some_iff.1 hu).1; simpa [cellsQ] using this
    rw [rowQ_cons]
    cases i with
    | zero => simp at h; subst h; rw [List.getElem?_append_left (by simp [cellsQ]; omega)]; simpa using hu
    | succ i =>
      rw [List.getElem?_append_right (by simp [cellsQ]; omega), show (i + 1) * 2 + j - (cellsQ y).length = i * 2 + j by simp [cellsQ]; omega]
      exact ih i x (by simpa using h) j u hu
theorem rowQ_take (l : List PrI) : ∀ i, (rowQ l).take (i * 2) = rowQ (l.take i) := by
  induction l with
  | nil => intro i; simp [rowQ]
  | cons y l ih =>
    intro i
    cases i with
    | zero => simp [rowQ]
    | succ i =>
      rw [rowQ_cons, List.take_succ_cons, rowQ_cons, ← ih i, show (i + 1) * 2 = (cellsQ y).length + i * 2 by simp [cellsQ]; omega, List.take_length_add_append]
theorem rowQ_drop (l : List PrI) : ∀ i, (rowQ l).drop (i * 2) = rowQ (l.drop i) := by
  induction l with
  | nil => intro i; simp [rowQ]
  | cons y l ih =>
    intro i
    cases i with
    | zero => simp
    | succ i =>
      rw [rowQ_cons, List.drop_succ_cons, ← ih i, show (i + 1) * 2 = (cellsQ y).length + i * 2 by simp [cellsQ]; omega, List.drop_length_add_append]
theorem rowQ_set (l : List PrI) : ∀ i k s s', l[i]? = some (k, s) → (rowQ l).set (i * 2 + 1) (.int .i64 s') = rowQ (l.set i (k, s')) := by
  induction l with
  | nil => intro i k s s' h; simp at h
  | cons y l ih =>
    intro i k s s' h
    cases i with
    | zero =>
      simp at h
      subst h
      simp [rowQ, cellsQ]
    | succ i =>
      rw [List.set_cons_succ, rowQ_cons, rowQ_cons, ← ih i k s s' (by simpa using h), show (i + 1) * 2 + 1 = (cellsQ y).length + (i * 2 + 1) by simp [cellsQ]; omega, List.set_append_right _ _ (by omega)]
      congr 2
      omega
theorem infoPair : (Try.prog.info? 67).map (fun i => (i.zero, i.size, i.bytes)) = some (some (.agg #[.string ⟨#[]⟩, .int .i64 0]), 2, 24) := by kernel_rfl
/-- A pair of the row, read. -/
theorem pair2 {w : World} {v : Value} {l : List PrI} (h : Own w 67 2 v l.length (rowQ l)) : ∃ a cap, v = .slice a l.length cap ∧ l.length ≤ cap ∧ cap ≤ maxLen ∧ ∀ i x, l[i]? = some x → ∃ g, a = some ⟨g, 0, none⟩ ∧ g < w.heap.size ∧ v.ownBlock = some g ∧
    w.cell? ⟨g, i * 2, none⟩ = some (.string x.1) ∧ w.cell? ⟨g, i * 2 + 1, none⟩ = some (.int .i64 x.2) := by
  rcases h.2 with ⟨hv, h0⟩ | ⟨g, cap, cur, hv, _, hg, h1, h2, h3, h4⟩
  · have hL : l = [] := List.eq_nil_of_length_eq_zero h0
    subst hL
    exact ⟨none, 0, hv, Nat.le_refl _, by simp [maxLen], fun i x hx => by simp at hx⟩
  · subst hv
    refine ⟨_, cap, rfl, h1, h2, fun i x hx => ?_⟩
    have hc := h.cells (g := g) rfl
    have hadd : ∀ j, (⟨g, 0, none⟩ : Addr).add j = ⟨g, j, none⟩ := fun j => by unfold Addr.add; split <;> simp_all
    have hat : ∀ j u, (cellsQ x)[j]? = some u → w.cell? ⟨g, i * 2 + j, none⟩ = some u := fun j u hu => by
      rw [← hadd]
      exact hc _ _ (rowQ_get l i x hx j u hu)
    exact ⟨g, rfl, World.block_lt_of_cell? w _ (hat 0 _ rfl), rfl, by simpa using hat 0 _ rfl, hat 1 _ rfl⟩
def fndC (l : List PrI) (k : ByteArray) : Int := match pIdx l k with | some i => i | none => -1
theorem pIdx_at {l : List PrI} {k : ByteArray} {i : Nat} {x : PrI} (hx : l[i]? = some x) (hk : x.1 = k) (hn : ∀ j y, j < i → l[j]? = some y → y.1 ≠ k) : pIdx l k = some i := by
  unfold pIdx
  obtain ⟨hlt, rfl⟩ := List.getElem?_eq_some_iff.1 hx
  refine List.findIdx?_eq_some_iff_getElem.2 ⟨hlt, decide_eq_true hk, fun j hj => ?_⟩
  have := hn j _ hj (List.getElem?_eq_getElem (by omega))
  simp only [keyI, decide_eq_true_eq]
  exact this
theorem pIdx_no {l : List PrI} {k : ByteArray} (hn : ∀ (j : Nat) (y : PrI), l[j]? = some y → y.1 ≠ k) : pIdx l k = none := by
  unfold pIdx
  refine List.findIdx?_eq_none_iff.2 (fun y hy => ?_)
  obtain ⟨j, hj⟩ := List.mem_iff_getElem?.1 hy
  exact decide_eq_false (hn j y hj)
set_option maxRecDepth 40000 in
set_option maxHeartbeats 4000000 in
theorem find22 {w : World} {a : Option Addr} {n c : Nat} {l : List PrI} (k : ByteArray) (hn : l.length = n) (h : Own w 67 2 (.slice a n c) n (rowQ l)) :
    Calls Try.prog 25 #[.slice a n c, .string k] w fun e w' => e = .returned (.int .i64 (fndC l k)) ∧ w = w' := by
  subst hn
  obtain ⟨_, _, hve, hc1, hc2, hat⟩ := pair2 h
  injection hve with g1 g2 g3
  subst g1 g3
  have HAT := Lib.hid hat
  have HFC : Hid (fndC l k = match pIdx l k with | some i => (i : Int) | none => -1) := Lib.hid rfl
  obtain ⟨fc, hfc⟩ : ∃ fc, fc = fndC l k := ⟨_, rfl⟩
  rw [← hfc] at HFC ⊢
  unfold maxLen at hc2
  clear h hat hfc
  go_enter Try.func25, Try.ntmps25
  go_wp2_with fail
  go_loopw [5] (fun t5 wx => ∃ i : Nat, i ≤ l.length ∧ t5 = .int .i64 i ∧ Hid (∀ j y, j < i → l[j]? = some y → y.1 ≠ k) ∧ w = wx) (fun t5 _ => l.length - (intOf t5).toNat)
  case atStart => exact ⟨0, by omega, rfl, Lib.hid (fun j y hj => by omega), rfl⟩
  case round =>
    obtain ⟨i, hil, rfl, HJ, rfl⟩ := hrel
    by_cases hli : i < l.length
    · have hli' : (i : Int) < l.length := by omega
      obtain ⟨x, hx⟩ : ∃ x, l[i]? = some x := ⟨_, List.getElem?_eq_getElem hli⟩
      obtain ⟨g0, rfl, hg0, _, y0, y1⟩ := HAT.out i x hx
      have HX := Lib.hid hx
      clear hx
      obtain ⟨x0, x1⟩ := x
      simp only at y0 y1
      by_cases hk : x0 = k
      · have hkb : (x0.toList == k.toList) = true := (str_beq x0 k).trans (decide_eq_true hk)
        have HR : Hid (fc = (i : Int)) := Lib.hid (by rw [HFC.out, pIdx_at HX.out hk HJ.out])
        clear hk
        go_wp2_with fail
        go_ret
        exact ⟨ret_int HR.out.symm, rfl⟩
      · have hkb : (x0.toList == k.toList) = false := (str_beq x0 k).trans (decide_eq_false hk)
        have HJ2 : Hid (∀ j y, j < i + 1 → l[j]? = some y → y.1 ≠ k) := Lib.hid (fun j y hj hy => by
          by_cases hji : j < i
          · exact HJ.out j y hji hy
          · obtain rfl : j = i := by omega
            rw [HX.out] at hy
            rw [← Option.some.inj hy]
            exact hk)
        clear hk
        go_wp2_with fail
        exact ⟨⟨i + 1, by omega, by simp, HJ2, trivial⟩, by simp [intOf]; omega⟩
    · have hli' : ¬ (i : Int) < l.length := by omega
      have HR : Hid (fc = -1) := Lib.hid (by rw [HFC.out, pIdx_no (fun j y hy => HJ.out j y (by have := (List.getElem?_eq_some_iff.1 hy).1; omega) hy)])
      go_wp2_with fail
      go_ret
      exact ⟨ret_int HR.out.symm, rfl⟩
end Go.Proofs.Ythefpmmeoajaiaa
