/- keydir: sum, Count, Cost. -/
import Derived.Test.YtmdfickejpeofaaBd16
import Derived.Test.YtmdfickejpeofaaBd14
import Derived.Test.YtmdfickejpeofaaBd15
import Derived.Test.YtmdfickejpeofaaBd13
import Derived.Test.YtmdfickejpeofaaBd7
set_option linter.unusedVariables false
set_option linter.unusedSimpArgs false
namespace Go.Proofs.Ytmdfickejpeofaa
open Go.RowKit Go.Shelf
attribute [local go_sem] OvM cell_ovm obj_ovm
attribute [local go_sem] Oper.semAt_some

structure NumC (g : Nat) (f : En → Int) : Prop where
  enter : ∀ args w, (callFunc g args).run Try.prog w = .ok (.enter g args) w
  run : ∀ x w, Calls Try.prog g #[enV x] w fun e w' => e = .returned (.int .i64 (f x)) ∧ Gr w w'
  b : ∀ x, validE x = true → 0 ≤ f x ∧ f x ≤ 8192
def sumF (f : En → Int) (l : List (ByteArray × En)) : Int := l.foldl (fun a x => a + f x.2) 0
theorem sumF_snoc (f : En → Int) (l : List (ByteArray × En)) (x : ByteArray × En) : sumF f (l ++ [x]) = sumF f l + f x.2 := by simp [sumF]
theorem sumF_ok' (f : En → Int) : ∀ (l : List (ByteArray × En)) (a : Int), (∀ x ∈ l, 0 ≤ f x.2 ∧ f x.2 ≤ 8192) → a ≤ l.foldl (fun a x => a + f x.2) a ∧ l.foldl (fun a x => a + f x.2) a ≤ a + 8192 * l.length
  | [], a, _ => by simp
  | x :: l, a, h => by
    have h1 := h x (by simp)
    have h2 := sumF_ok' f l (a + f x.2) (fun y hy => h y (List.mem_cons_of_mem _ hy))
    simp only [List.foldl_cons, List.length_cons, Int.natCast_add]
    omega
theorem sumF_ok (f : En → Int) (l : List (ByteArray × En)) (h : ∀ x ∈ l, 0 ≤ f x.2 ∧ f x.2 ≤ 8192) : 0 ≤ sumF f l ∧ sumF f l ≤ 8192 * l.length := by
  have := sumF_ok' f l 0 h
  unfold sumF
  omega
theorem findE_mem {X : IX} {k : ByteArray} {e : En} (h : findE X k = some e) : e ∈ X.of k := by
  unfold findE at h
  split at h
  · cases h
  · rename_i y t hy
    split at h
    · cases h
    · cases h; rw [hy]; simp
theorem live_valid {X : IX} (h : X.Wf) : ∀ x ∈ liveL X, validE x.2 = true := by
  intro x hx
  unfold liveL lvF at hx
  obtain ⟨k, _, hk⟩ := List.mem_filterMap.1 hx
  cases hf : findE X k with
  | none => rw [hf] at hk; cases hk
  | some e =>
    rw [hf] at hk
    simp only [Option.map_some, Option.some.injEq] at hk
    subst hk
    exact (h.valid ((h.of_mem k e).1 (findE_mem hf)).1).1
theorem live_len {X : IX} (h : X.Wf) : (liveL X).length ≤ 16384 := by
  refine Nat.le_trans (List.length_filterMap_le _ _) ?_
  have := h.keys_le
  unfold IX.ks
  simpa using this
def sumR (X : IX) (f : En → Int) : Value := if X.slots = [] then .tuple #[.int .i64 0, .int .i64 1] else .tuple #[.int .i64 (sumF f (liveL X)), .int .i64 0]
end Go.Proofs.Ytmdfickejpeofaa

/- What the map of an index is, as a sorted list of keys; KeydirDrops in plain Lean. No walk. -/
set_option linter.unusedVariables false
set_option linter.unusedSimpArgs false
namespace Go.Proofs.Ytmdfickejpeofaa

section
variable {X : IX}
theorem mem_ks (h : X.Wf) (k : ByteArray) : k ∈ X.ks ↔ X.of k ≠ [] := by
  constructor
  · intro hk
    obtain ⟨x, hx, rfl⟩ := List.mem_map.1 hk
    unfold IX.of
    rw [(look_mem ordS h.k0 x.1 x.2).2 hx]
    exact (h.k x hx).ne
  · intro hk
    unfold IX.of at hk
    cases hl : look ltS X.keys k with
    | none => rw [hl] at hk; exact absurd rfl hk
    | some l => exact List.mem_map.2 ⟨(k, l), (look_mem ordS h.k0 k l).1 hl, rfl⟩
theorem ks_srt (h : X.Wf) : X.ks.Pairwise (fun a b => ltS a b = true) := List.pairwise_map.2 h.k0
theorem findE_ne {k : ByteArray} (h : (findE X k).isSome = true) : X.of k ≠ [] := fun h0 => by
  unfold findE at h
  rw [h0] at h
  cases h
/-- The keys of the map: those of the index that are found. -/
def lvK (X : IX) : List ByteArray := X.ks.filter (fun k => (findE X k).isSome)
def szK (X : IX) (k : ByteArray) : Int := ((findE X k).getD zE).size
theorem lvF_fst (l : List ByteArray) : (lvF X l).map (fun x => x.1) = l.filter (fun k => (findE X k).isSome) ∧ (lvF X l).map (fun x => x.2.size) = (l.filter (fun k => (findE X k).isSome)).map (szK X) := by
  induction l with
  | nil => exact ⟨rfl, rfl⟩
  | cons k l ih =>
    unfold lvF at *
    rw [List.filterMap_cons, List.filter_cons]
    cases hf : findE X k with
    | none => simpa using ih
    | some e =>
      simp only [Option.map_some, Option.isSome_some, if_true, List.map_cons]
      refine ⟨by rw [ih.1], ?_⟩
      rw [ih.2]
      congr 1
      unfold szK
      rw [hf]
      rfl
theorem live_keys : (liveL X).map (fun x => x.1) = lvK X := (lvF_fst X.ks).1
theorem sumF_map (f : En → Int) : ∀ l : List (ByteArray × En), sumF f l = (l.map (fun x => f x.2)).sum := by
  have h : ∀ (l : List (ByteArray × En)) (a : Int), l.foldl (fun a x => a + f x.2) a = a + (l.map (fun x => f x.2)).sum := by
    intro l
    induction l with
    | nil => intro a; simp
    | cons x l ih => intro a; rw [List.foldl_cons, ih, List.map_cons, List.sum_cons]; omega
  intro l
  have := h l 0
  unfold sumF
  omega
theorem live_size : sumF (fun e => e.size) (liveL X) = ((lvK X).map (szK X)).sum := by
  rw [sumF_map, show ((liveL X).map (fun x => x.2.size)) = (lvK X).map (szK X) from (lvF_fst X.ks).2]
theorem lvK_mem (h : X.Wf) (k : ByteArray) : k ∈ lvK X ↔ (findE X k).isSome = true := by
  unfold lvK
  rw [List.mem_filter, mem_ks h]
  exact ⟨fun h => h.2, fun h2 => ⟨findE_ne h2, h2⟩⟩
theorem lvK_srt (h : X.Wf) : (lvK X).Pairwise (fun a b => ltS a b = true) := (ks_srt h).sublist List.filter_sublist
theorem keys_eq {l m : List ByteArray} (hl : l.Pairwise (fun a b => ltS a b = true)) (hm : m.Pairwise (fun a b => ltS a b = true)) (h : ∀ x, x ∈ l ↔ x ∈ m) : l = m :=
  pair_eq (R := fun a b => ltS a b = true) (fun a => by rw [ordS.irr]; decide) (fun a b c h1 h2 => ordS.trn h1 h2) hl hm h
end
/-- Each entry of the slot is shadowed, or has a copy elsewhere. -/
def okD (X : IX) (all : List En) (s : Int) (e : En) : Bool := decide (e.seq < ((X.of e.key).headD zE).seq) || all.any (fun o => !decide (o.slot = s) && decide (o.key = e.key) && decide (o.seq = e.seq))
section
variable {X : IX} {all : List En} {en : Int → Int} {n : Int}
theorem drop_find (h : FG X all en n) {s : Int} (hk : ∀ e ∈ all, e.slot = s → okD X all s e = true) (k : ByteArray) : (findE (dropX X s) k).isSome = (findE X k).isSome ∧ szK (dropX X s) k = szK X k := by
  have hof := drop_of h.wf s k
  have hp := h.wf.ofPair k
  have hall := h.of k
  unfold szK
  cases hl : X.of k with
  | nil =>
    rw [hl, List.filter_nil] at hof
    unfold findE
    rw [hof, hl]
    exact ⟨rfl, rfl⟩
  | cons y t =>
    rw [hl] at hof hp hall
    have hy := (hall y).1 (List.mem_cons_self ..)
    rw [List.filter_cons] at hof
    by_cases hs : y.slot = s
    · rw [if_neg (by simp [hs])] at hof
      have h1 := hk y hy.1 hs
      unfold okD at h1
      rw [hy.2, hl, List.headD_cons, decide_eq_false (Int.lt_irrefl _), Bool.false_or] at h1
      obtain ⟨o, ho, h2⟩ := List.any_eq_true.1 h1
      simp only [Bool.and_eq_true, Bool.not_eq_true', decide_eq_false_iff_not, decide_eq_true_eq] at h2
      have h3 : o ∈ t.filter (fun o => decide (o.slot ≠ s)) := by
        refine List.mem_filter.2 ⟨?_, decide_eq_true h2.1.1⟩
        rcases List.mem_cons.1 ((hall o).2 ⟨ho, h2.1.2⟩) with h4 | h4
        · rw [h4] at h2; exact absurd hs h2.1.1
        · exact h4
      cases hf : t.filter (fun o => decide (o.slot ≠ s)) with
      | nil => rw [hf] at h3; cases h3
      | cons z u =>
        rw [hf] at h3 hof
        have hz : z ∈ t := (List.mem_filter.1 (show z ∈ t.filter (fun o => decide (o.slot ≠ s)) by rw [hf]; exact List.mem_cons_self ..)).1
        have hyz : ltE y z = true := (List.pairwise_cons.1 hp).1 z hz
        have hza := (hall z).1 (List.mem_cons_of_mem _ hz)
        have hpt : (z :: u).Pairwise (fun a b => ltE a b = true) := by rw [← hf]; exact (List.pairwise_cons.1 hp).2.sublist List.filter_sublist
        have hq : z.seq = y.seq := by
          unfold ltE at hyz
          have h5 := of_decide_eq_true hyz
          rcases List.mem_cons.1 h3 with h4 | h4
          · rw [← h4]; exact h2.2
          · have h6 := (List.pairwise_cons.1 hpt).1 o h4
            unfold ltE at h6
            have h7 := of_decide_eq_true h6
            omega
        obtain ⟨c1, c2, c3⟩ := h.cp z hza.1 y hy.1 hq
        unfold findE
        rw [hof, hl]
        simp only
        rw [c2]
        cases y.del
        · exact ⟨rfl, c3⟩
        · exact ⟨rfl, rfl⟩
    · rw [if_pos (by simp [hs])] at hof
      unfold findE
      rw [hof, hl]
      exact ⟨rfl, rfl⟩
theorem drop_live (h : FG X all en n) {s : Int} (hk : ∀ e ∈ all, e.slot = s → okD X all s e = true) : lvK (dropX X s) = lvK X ∧ sumF (fun e => e.size) (liveL (dropX X s)) = sumF (fun e => e.size) (liveL X) := by
  have hw := drop_wf h.wf s
  have e1 : lvK (dropX X s) = lvK X := keys_eq (lvK_srt hw) (lvK_srt h.wf) (fun k => by rw [lvK_mem hw, lvK_mem h.wf, (drop_find h hk k).1])
  refine ⟨e1, ?_⟩
  rw [live_size, live_size, e1]
  congr 1
  exact List.map_congr_left (fun k _ => (drop_find h hk k).2)
end
end Go.Proofs.Ytmdfickejpeofaa

/- The map of an index by its numbers; LivenessKeeps in plain Lean. No walk. -/
set_option linter.unusedVariables false
set_option linter.unusedSimpArgs false
namespace Go.Proofs.Ytmdfickejpeofaa

def livF (X : IX) (l : List ByteArray) : List (ByteArray × Int) := l.filterMap (fun k => (findE X k).map (fun e => (k, e.seq)))
def liveM (X : IX) : List (ByteArray × Int) := livF X X.ks
theorem livF_none {X : IX} {l : List ByteArray} {k : ByteArray} (h : findE X k = none) : livF X (l ++ [k]) = livF X l := by simp [livF, h]
theorem livF_some {X : IX} {l : List ByteArray} {k : ByteArray} {e : En} (h : findE X k = some e) : livF X (l ++ [k]) = livF X l ++ [(k, e.seq)] := by simp [livF, h]
theorem livF_srt {X : IX} {l : List ByteArray} (h : l.Pairwise (fun a b => ltS a b = true)) : Srt ltS (livF X l) := by
  refine List.pairwise_filterMap.2 (h.imp (fun {a b} hab x hx y hy => ?_))
  obtain ⟨e, _, rfl⟩ := Option.map_eq_some_iff.1 hx
  obtain ⟨e', _, rfl⟩ := Option.map_eq_some_iff.1 hy
  exact hab
def seqK (X : IX) (k : ByteArray) : Option Int := (findE X k).map (fun e => e.seq)
theorem livF_map (X : IX) (l : List ByteArray) : livF X l = (l.filter (fun k => (findE X k).isSome)).map (fun k => (k, (seqK X k).getD 0)) := by
  induction l with
  | nil => rfl
  | cons k l ih =>
    unfold livF seqK at *
    rw [List.filterMap_cons, List.filter_cons]
    cases hf : findE X k with
    | none => simpa using ih
    | some e =>
      simp only [Option.map_some, Option.isSome_some, if_true, List.map_cons, hf, Option.getD_some]
      rw [ih]
theorem liveM_eq {X Y : IX} (hX : X.Wf) (hY : Y.Wf) (h : ∀ k, seqK Y k = seqK X k) : liveM Y = liveM X := by
  have hs : ∀ k, (findE Y k).isSome = (findE X k).isSome := fun k => by
    have := congrArg Option.isSome (h k)
    unfold seqK at this
    simpa using this
  have e1 : lvK Y = lvK X := keys_eq (lvK_srt hY) (lvK_srt hX) (fun k => by rw [lvK_mem hY, lvK_mem hX, hs k])
  unfold liveM
  rw [livF_map, livF_map, show Y.ks.filter (fun k => (findE Y k).isSome) = lvK Y from rfl, e1]
  exact List.map_congr_left (fun k _ => by rw [h k])
/-- What is newest of a key, and what is left of it where a slot of no needed entries is gone. -/
theorem drop_seqK {X : IX} (h : X.Wf) {s : Int} (hk : ∀ e ∈ X.slot s, X.needs e = false) (k : ByteArray) : seqK (dropX X s) k = seqK X k := by
  have hof := drop_of h s k
  have hp := h.ofPair k
  have hall := h.of_mem k
  unfold seqK
  cases hl : X.of k with
  | nil =>
    rw [hl, List.filter_nil] at hof
    unfold findE
    rw [hof, hl]
  | cons y t =>
    rw [hl] at hof hp hall
    have hy := (hall y).1 (List.mem_cons_self ..)
    rw [List.filter_cons] at hof
    by_cases hs : y.slot = s
    · rw [if_neg (by simp [hs])] at hof
      have h1 := hk y ((h.slot_mem s y).2 ⟨hy.1, hs⟩)
      unfold IX.needs at h1
      rw [hy.2, hl] at h1
      have hd1 : ∀ z ∈ t, z.seq < y.seq ∨ z.seq = y.seq := fun z hz => by
        have := (List.pairwise_cons.1 hp).1 z hz
        unfold ltE at this
        have := of_decide_eq_true this
        omega
      have n1 : ¬ (y :: t).any (nd1 y) = true := by
        rw [List.any_eq_true]
        rintro ⟨z, hz, h2⟩
        have h3 : y.seq < z.seq := of_decide_eq_true h2
        rcases List.mem_cons.1 hz with rfl | hz
        · omega
        · have := hd1 z hz; omega
      rw [if_neg n1] at h1
      by_cases n2 : (y :: t).any (nd2 y) = true
      · obtain ⟨o, ho, h2⟩ := List.any_eq_true.1 n2
        have h2 : o.seq = y.seq ∧ o.slot ≠ y.slot := of_decide_eq_true h2
        have ht : o ∈ t := by
          rcases List.mem_cons.1 ho with rfl | h4
          · exact absurd rfl h2.2
          · exact h4
        have h3 : o ∈ t.filter (fun o => decide (o.slot ≠ s)) := List.mem_filter.2 ⟨ht, decide_eq_true (fun h => h2.2 (h.trans hs.symm))⟩
        cases hf : t.filter (fun o => decide (o.slot ≠ s)) with
        | nil => rw [hf] at h3; cases h3
        | cons z u =>
          rw [hf] at h3 hof
          have hz : z ∈ t := (List.mem_filter.1 (show z ∈ t.filter (fun o => decide (o.slot ≠ s)) by rw [hf]; exact List.mem_cons_self ..)).1
          have hza := (hall z).1 (List.mem_cons_of_mem _ hz)
          have hpt : (z :: u).Pairwise (fun a b => ltE a b = true) := by rw [← hf]; exact (List.pairwise_cons.1 hp).2.sublist List.filter_sublist
          have hq : z.seq = y.seq := by
            have h5 := hd1 z hz
            rcases List.mem_cons.1 h3 with h4 | h4
            · rw [← h4]; exact h2.1
            · have h6 := (List.pairwise_cons.1 hpt).1 o h4
              unfold ltE at h6
              have h7 := of_decide_eq_true h6
              omega
          have hc := h.c z hza.1 y hy.1 (hza.2.trans hy.2.symm) hq
          unfold findE
          rw [hof, hl]
          simp only
          rw [hc.1]
          cases y.del
          · exact congrArg some hq
          · rfl
      · rw [if_neg n2] at h1
        have hdel : y.del = true := by
          cases hd : y.del
          · rw [hd, if_pos rfl] at h1; cases h1
          · rfl
        rw [hdel, if_neg (by decide)] at h1
        have hnil : t.filter (fun o => decide (o.slot ≠ s)) = [] := by
          refine List.filter_eq_nil_iff.2 (fun z hz hzs => ?_)
          have hzs : z.slot ≠ s := of_decide_eq_true hzs
          have hzy : z.slot ≠ y.slot := fun e => hzs (e.trans hs)
          rcases hd1 z hz with h5 | h5
          · have : (y :: t).any (nd3 y) = true := List.any_eq_true.2 ⟨z, List.mem_cons_of_mem _ hz, decide_eq_true ⟨h5, hzy⟩⟩
            rw [this] at h1
            cases h1
          · exact n2 (List.any_eq_true.2 ⟨z, List.mem_cons_of_mem _ hz, decide_eq_true ⟨h5, hzy⟩⟩)
        rw [hnil] at hof
        unfold findE
        rw [hof, hl]
        simp only
        rw [hdel]
        rfl
    · rw [if_pos (by simp [hs])] at hof
      unfold findE
      rw [hof, hl]
theorem drop_liveM {X : IX} (h : X.Wf) {s : Int} (hk : ∀ e ∈ X.slot s, X.needs e = false) : liveM (dropX X s) = liveM X := liveM_eq h (drop_wf h s) (drop_seqK h hk)
theorem drop_len (X : IX) (s : Int) : (dropX X s).slots.length = X.slots.length := by
  unfold dropX
  split
  · simp
  · rfl
/-- An index of six slots, of which the last has no entries. -/
structure KI (X : IX) (m : List (ByteArray × Int)) : Prop where
  wf : X.Wf
  ln : X.slots.length = 6
  e5 : X.slot 5 = []
  lv : liveM X = m
def redS (X : IX) (s : Int) : Bool := decide (keepC X s = 0 ∧ keepL X s = [])
def freeL (X : IX) (n : Nat) : List Int := ((List.range n).map (fun i : Nat => (i : Int))).filter (redS X)
section
variable {X : IX} {m : List (ByteArray × Int)}
theorem KI.ne (h : KI X m) : X.slots ≠ [] := fun h0 => by have := h.ln; rw [h0] at this; cases this
theorem KI.code (h : KI X m) {s : Nat} (hs : s < 6) : keepC X s = 0 := by
  unfold keepC
  rw [if_neg h.ne, if_neg]
  unfold IX.has
  rw [h.ln]
  simp
  omega
theorem KI.dcode (h : KI X m) {s : Nat} (hs : s < 6) : dropC X s = 0 := by
  have := h.ne
  unfold dropC
  simp [IX.has, h.ln, this]
  omega
theorem KI.red5 (h : KI X m) : redS X 5 = true := decide_eq_true ⟨h.code (s := 5) (by omega), by unfold keepL; rw [h.e5]; rfl⟩
theorem KI.drop (h : KI X m) {s : Int} (hs : redS X s = true) : KI (dropX X s) m := by
  have h1 := (of_decide_eq_true hs).2
  refine ⟨drop_wf h.wf s, by rw [drop_len, h.ln], ?_, ?_⟩
  · rw [drop_slot h.wf]; split
    · rfl
    · exact h.e5
  · rw [drop_liveM h.wf, h.lv]
    intro e he
    cases hn : X.needs e with
    | false => rfl
    | true =>
      have : e ∈ keepL X s := List.mem_filter.2 ⟨he, hn⟩
      rw [h1] at this
      cases this
theorem free_succ (X : IX) (n : Nat) : freeL X (n + 1) = freeL X n ++ (if redS X n = true then [(n : Int)] else []) := by
  unfold freeL
  rw [List.range_succ, List.map_append, List.filter_append]
  simp only [List.map_cons, List.map_nil, List.filter_cons, List.filter_nil]
theorem free_le (X : IX) (n : Nat) : (freeL X n).length ≤ n := by
  unfold freeL
  have := List.length_filter_le (redS X) ((List.range n).map (fun i : Nat => (i : Int)))
  simpa using this
theorem free_red {X : IX} {n : Nat} {s : Int} (h : s ∈ freeL X n) : redS X s = true ∧ 0 ≤ s ∧ s < n := by
  have h1 := List.mem_filter.1 h
  obtain ⟨i, hi, rfl⟩ := List.mem_map.1 h1.1
  have := List.mem_range.1 hi
  exact ⟨h1.2, by omega, by omega⟩
theorem KI.last (h : KI X m) : ∃ l, freeL X 6 = l ++ [5] := by
  refine ⟨freeL X 5, ?_⟩
  rw [free_succ, if_pos]
  · rfl
  · exact h.red5
end
theorem build_KI {st : LS} {j : Nat} (h : st.Ok j) (h5 : ∀ e ∈ st.all, e.slot < 5) : KI st.X (liveM st.X) := by
  refine ⟨h.g.wf, by have := h.g.ln; omega, ?_, rfl⟩
  cases hl : st.X.slot 5 with
  | nil => rfl
  | cons e t =>
    have h1 := (h.g.slot 5 e).1 (by rw [hl]; simp)
    have := h5 e h1.1
    omega
end Go.Proofs.Ytmdfickejpeofaa

/- Both indexes side by side: Drop; blocks beside them that turn or are new. -/
set_option linter.unusedVariables false
set_option linter.unusedSimpArgs false
namespace Go.Proofs.Ytmdfickejpeofaa
open Go.RowKit Go.Shelf
attribute [local go_sem] OvM cell_ovm obj_ovm
attribute [local go_sem] Oper.semAt_some

section
variable {w0 w w' : World} {p q : Option Addr} {X : IX} {all : List En} {R : List Asn}
theorem PX.put {b i : Nat} {o o' : Obj} (h : PX w0 p q X all R w) (hi : R[i]? = some (blkA b o)) (m : Mdh (fun k => k = b) w w') (hb : w'.heap[b]? = some o') : PX w0 p q X all (R.set i (blkA b o')) w' := by
  rcases h with ⟨h1, h2, h3, h4, h5⟩ | ⟨c, rb, S, v, h1, h2, h3, h4⟩
  · exact .inl ⟨h1, h2, h3, h4, h5.at hi m (fun k hk => .inl hk) (B := blkA b o') hb (fun k hk => .inl hk)⟩
  · exact .inr ⟨c, rb, S, v, h1, h2, h3, h4.at (i := i + 3) hi m (fun k hk => .inl hk) (B := blkA b o') hb (fun k hk => .inl hk)⟩
theorem PX.add {b : Nat} {o : Obj} (h : PX w0 p q X all R w) (g : Gr w w') (hb : w'.heap[b]? = some o) (hn : w.heap.size ≤ b) : PX w0 p q X all (blkA b o :: R) w' := by
  rcases h with ⟨h1, h2, h3, h4, h5⟩ | ⟨c, rb, S, v, h1, h2, h3, h4⟩
  · exact .inl ⟨h1, h2, h3, h4, h5.new g (A := blkA b o) hb (fun k hk => by rw [show k = b from hk]; exact hn)⟩
  · refine .inr ⟨c, rb, S, v, h1, h2, h3, ?_⟩
    have h6 := h4.new g (A := blkA b o) hb (fun k hk => by rw [show k = b from hk]; exact hn)
    exact ((h6.pick (i := 3) rfl).pick (i := 3) rfl).pick (i := 3) rfl
theorem PX.sub {R' : List Asn} (h : PX w0 p q X all R w) (hs : R'.Sublist R) : PX w0 p q X all R' w := by
  rcases h with ⟨h1, h2, h3, h4, h5⟩ | ⟨c, rb, S, v, h1, h2, h3, h4⟩
  · exact .inl ⟨h1, h2, h3, h4, h5.sub hs⟩
  · exact .inr ⟨c, rb, S, v, h1, h2, h3, h4.sub (.cons_cons _ (.cons_cons _ (.cons_cons _ hs)))⟩
end
def dcX (X : IX) (s : Int) : Int := if X.slots = [] then 1 else dropC X s
def alD (X : IX) (all : List En) (s : Int) : List En := if X.has s = true then all.filter (nsP s) else all
theorem alD_len (X : IX) (all : List En) (s : Int) : (alD X all s).length ≤ all.length := by
  unfold alD
  split
  · exact List.length_filter_le _ _
  · exact Nat.le_refl _
theorem drop_nil (X : IX) (s : Int) : (dropX X s).slots = [] ↔ X.slots = [] := by
  rw [← List.length_eq_zero_iff, ← List.length_eq_zero_iff, drop_len]
theorem drop_of_nil {s : Int} : dropX ⟨[], []⟩ s = ⟨[], []⟩ := by
  have h : (⟨[], []⟩ : IX).has s = false := by simp [IX.has]
  exact drop_no h
theorem slot_of_nil (s : Int) : (⟨[], []⟩ : IX).slot s = [] := slot_no0 s
theorem RelX.dropA {X : IX} {all : List En} (h : RelX X all) (s : Int) : RelX (dropX X s) (alD X all s) := by
  unfold alD
  cases hh : X.has s with
  | true => rw [if_pos rfl]; exact (h.drop hh).2
  | false => rw [if_neg (by decide), drop_no hh]; exact h
theorem pDrop {w0 w : World} {p q : Option Addr} {X : IX} {all : List En} {R : List Asn} (h : PX w0 p q X all R w) (s : Int) :
    Calls Try.prog 31 #[.pointer p, .int .i64 s] w fun r w' => r = .returned (.tuple #[.int .i64 (X.slot s).length, .int .i64 (dcX X s)]) ∧ PX w0 p q (dropX X s) all R w' ∧ Mdh (fun k => w0.heap.size ≤ k) w w' := by
  rcases h with ⟨rfl, rfl, rfl, rfl, h5⟩ | ⟨b, rb, S, v, rfl, rfl, h3, h4⟩
  · refine (DropN (.inl rfl) s).mono ?_
    rintro r w' ⟨rfl, hg⟩
    exact ⟨by rw [slot_of_nil]; rfl, .inl ⟨rfl, rfl, drop_of_nil, rfl, h5.gr hg⟩, hg.mdh _⟩
  · refine (Drop_any h4.ix s).mono ?_
    rintro r w' ⟨rfl, hp⟩
    obtain ⟨S', h6⟩ := h4.post hp
    obtain ⟨_, _, hm, _⟩ := hp
    refine ⟨by unfold dcX; rw [if_neg h3], .inr ⟨b, rb, S', v, rfl, rfl, fun h0 => h3 ((drop_nil X s).1 h0), ?_⟩, hm.mono (fun k hk => h4.n (ixA b X S) (List.mem_cons_self ..) k hk)⟩
    show SW w0 (ixA b (dropX X s) S' :: blkA rb (rmO (dropX X s).slots.length v) :: rowA 53 6 v all.length (rowE all) :: R) w'
    rw [drop_len]
    exact h6
theorem rDropN (s : Int) (w : World) : Calls Try.prog 32 #[.pointer none, .int .i64 s] w fun r w' => r = .returned (.tuple #[.int .i64 0, .int .i64 1]) ∧ w = w' := by
  go_enter Try.func32, Try.ntmps32
  go_wp2_with (go_at_call 85; refine Calls.mono (rvalid_no _) ?_; rintro e w1 ⟨rfl, rfl⟩)
  go_ret2
  exact ⟨rfl, rfl⟩
theorem rDrop_bad {w : World} {rb : Nat} {N : Int} {v : Value} (h : w.heap[rb]? = some (rmO N v)) (hN : 0 < N) (s : Int) (hs : s < 0 ∨ N ≤ s) :
    Calls Try.prog 32 #[.pointer (some ⟨rb, 0, none⟩), .int .i64 s] w fun r w' => r = .returned (.tuple #[.int .i64 0, .int .i64 3]) ∧ w = w' := by
  have HV := Lib.hid (rvalid h hN)
  have c0 := ((cellsOf h).1 0).trans (show _ = some (Value.int .i64 N) from rfl)
  clear h
  by_cases h0 : s < 0
  · clear hs
    go_enter Try.func32, Try.ntmps32
    go_wp2_with (go_at_call 85; refine Calls.mono HV.out ?_; rintro e w1 ⟨rfl, rfl⟩)
    go_ret2
    exact ⟨rfl, rfl⟩
  · have h1 : N ≤ s := by omega
    clear hs
    go_enter Try.func32, Try.ntmps32
    go_wp2_with (go_at_call 85; refine Calls.mono HV.out ?_; rintro e w1 ⟨rfl, rfl⟩)
    go_ret2
    exact ⟨rfl, rfl⟩
theorem pDropR {w0 w : World} {p q : Option Addr} {X : IX} {all : List En} {R : List Asn} {s : Int} (h : PX w0 p q (dropX X s) all R w) (hr : RelX X all) (hn : all.length ≤ 200) :
    Calls Try.prog 32 #[.pointer q, .int .i64 s] w fun r w' => r = .returned (.tuple #[.int .i64 (X.slot s).length, .int .i64 (dcX X s)]) ∧ PX w0 p q (dropX X s) (alD X all s) R w' := by
  rcases h with ⟨rfl, rfl, h0, rfl, h5⟩ | ⟨b, rb, S, v, rfl, rfl, h3, h4⟩
  · have hs : X.slots = [] := (drop_nil X s).1 (by rw [h0])
    have hX := hr.no hs
    refine (rDropN s w).mono ?_
    rintro r w' ⟨rfl, rfl⟩
    refine ⟨by rw [hX, slot_of_nil]; rfl, .inl ⟨rfl, rfl, h0, ?_, h5⟩⟩
    unfold alD
    split <;> rfl
  · have hs : X.slots ≠ [] := fun h0 => h3 ((drop_nil X s).2 h0)
    have hp := List.length_pos_iff.2 hs
    cases hh : X.has s with
    | false =>
      have hb : s < 0 ∨ (X.slots.length : Int) ≤ s := by
        have h1 : ¬ (0 ≤ s ∧ s < (X.slots.length : Int)) := by simpa [IX.has] using hh
        omega
      have hrm : w.heap[rb]? = some (rmO (X.slots.length : Int) v) := by
        have := h4.get (i := 1) rfl
        rw [← drop_len X s]
        exact this
      refine (rDrop_bad hrm (by omega) s hb).mono ?_
      rintro r w' ⟨rfl, rfl⟩
      refine ⟨?_, .inr ⟨b, rb, S, v, rfl, rfl, h3, ?_⟩⟩
      · rw [slot_out hh]
        unfold dcX dropC
        rw [if_neg hs, hh]
        rfl
      · unfold alD
        rw [hh, if_neg (by decide)]
        exact h4
    | true =>
      obtain ⟨hs0, hs1⟩ : 0 ≤ s ∧ s < (X.slots.length : Int) := by simpa [IX.has] using hh
      have h6 := (h4.pick (i := 1) rfl).pick (i := 2) rfl
      have h7 : SW w0 (rIx rb X.slots.length v all (ixA b (dropX X s) S :: R)) w := by
        have := h6.pick (i := 1) rfl
        rw [← drop_len X s]
        exact this
      have hlen := (hr.drop hh).1
      refine (rDrop h7 s hs0 hs1 hn).mono ?_
      rintro r w' ⟨rfl, v', h8⟩
      refine ⟨?_, .inr ⟨b, rb, S, v', rfl, rfl, h3, ?_⟩⟩
      · have h9 : ((all.length : Int) - ((all.filter (nsP s)).length : Int)) = ((X.slot s).length : Int) := by omega
        rw [h9]
        unfold dcX dropC
        rw [if_neg hs, hh]
        rfl
      · have h9 := h8.pick (i := 2) rfl
        show SW w0 (ixA b (dropX X s) S :: blkA rb (rmO (dropX X s).slots.length v') :: rowA 53 6 v' (alD X all s).length (rowE (alD X all s)) :: R) w'
        unfold alD
        rw [hh, if_pos rfl, drop_len]
        exact h9
theorem pAddS {w0 w : World} {p q : Option Addr} {X : IX} {all : List En} {R : List Asn} (h : PX w0 p q X all R w) (e : En) (hB : En64 e) :
    Calls Try.prog 20 #[.pointer p, enV e] w fun r w' => r = .returned (.int .i64 (addE X e)) ∧ PX w0 p q (addX X e) all R w' ∧ Mdh (fun k => ∀ A ∈ R, ¬ A.S k) w w' := by
  rcases h with ⟨rfl, rfl, rfl, rfl, h5⟩ | ⟨b, rb, S, v, rfl, rfl, h3, h4⟩
  · refine (AddN (.inl rfl) e).mono ?_
    rintro r w' ⟨rfl, hg⟩
    exact ⟨rfl, .inl ⟨rfl, rfl, rfl, rfl, h5.gr hg⟩, hg.mdh _⟩
  · refine (Add_all h4.ix e hB).mono ?_
    rintro r w' ⟨rfl, hp⟩
    obtain ⟨S', h6⟩ := h4.post hp
    obtain ⟨_, _, hm, _⟩ := hp
    refine ⟨rfl, .inr ⟨b, rb, S', v, rfl, rfl, fun h0 => h3 (addX_nil.1 h0), ?_⟩, hm.mono (fun k hk A hA => h4.s.dis A (List.mem_cons_of_mem _ (List.mem_cons_of_mem _ hA)) k hk)⟩
    show SW w0 (ixA b (addX X e) S' :: blkA rb (rmO (addX X e).slots.length v) :: rowA 53 6 v all.length (rowE all) :: R) w'
    rw [addX_slots]
    exact h6
theorem pAddRS {w0 w : World} {p q : Option Addr} {X : IX} {all : List En} {R : List Asn} {e : En} (h : PX w0 p q (addX X e) all R w) (hr : RelX X all) (hk : e.key.size ≤ 10000) (hn : all.length ≤ 200) :
    Calls Try.prog 21 #[.pointer q, enV e] w fun r w' => r = .returned (.int .i64 (addE X e)) ∧ PX w0 p q (addX X e) (alX X all e) R w' ∧ Mdh (fun k => ∀ A ∈ R, ¬ A.S k) w w' := by
  rcases h with ⟨rfl, rfl, h0, rfl, h5⟩ | ⟨b, rb, S, v, rfl, rfl, h3, h4⟩
  · have hs : X.slots = [] := addX_nil.1 (by rw [h0])
    have hE : addE X e = 1 := by rw [hr.no hs, add_nil]
    refine (rAddN e w).mono ?_
    rintro r w' ⟨rfl, hg⟩
    exact ⟨by rw [hE], .inl ⟨rfl, rfl, h0, by unfold alX; rw [if_neg (by rw [hE]; decide)], h5.gr hg⟩, hg.mdh _⟩
  · have hs : X.slots ≠ [] := fun h0 => h3 (addX_nil.2 h0)
    have hp := List.length_pos_iff.2 hs
    have h4' := h4.pick (i := 1) rfl
    have h6 := h4'.pick (i := 2) rfl
    have h7 : SW w0 (rIx rb X.slots.length v all (ixA b (addX X e) S :: R)) w := by
      have := h6.pick (i := 1) rfl
      rw [← addX_slots X e]
      exact this
    have hd : ∀ A ∈ R, ¬ A.S rb := fun A hA => h7.s.dis A (List.mem_cons_of_mem _ (List.mem_cons_of_mem _ hA)) rb rfl
    refine (rAdd e h7 (by omega) hr.rows (by omega) hn).mono ?_
    rintro r w' ⟨rfl, hm, v', h8⟩
    rw [hr.codes hs, hr.lists hs] at *
    refine ⟨rfl, .inr ⟨b, rb, S, v', rfl, rfl, h3, ?_⟩, hm.mono (fun k hk => by rw [hk]; exact hd)⟩
    have h9 := h8.pick (i := 2) rfl
    show SW w0 (ixA b (addX X e) S :: blkA rb (rmO (addX X e).slots.length v') :: rowA 53 6 v' (alX X all e).length (rowE (alX X all e)) :: R) w'
    rw [addX_slots]
    exact h9
end Go.Proofs.Ytmdfickejpeofaa

/- drumlinlaw23.build in plain Lean. No walk. -/
set_option linter.unusedVariables false
set_option linter.unusedSimpArgs false
namespace Go.Proofs.Ytmdfickejpeofaa

def sumE : List En → Int
  | [] => 0
  | e :: l => e.size + sumE l
theorem sumE_app (l m : List En) : sumE (l ++ m) = sumE l + sumE m := by
  induction l with
  | nil => simp [sumE]
  | cons e l ih => simp only [List.cons_append, sumE, ih]; omega
theorem sumE_perm {l m : List En} (h : l.Perm m) : sumE l = sumE m := by
  induction h with
  | nil => rfl
  | cons x _ ih => simp only [sumE, ih]
  | swap x y l => simp only [sumE]; omega
  | trans _ _ h1 h2 => exact h1.trans h2
def inSlot (s : Int) (e : En) : Bool := decide (e.slot = s)
structure Pt where
  key : Int
  slot : Int
  size : Int
  del : Bool
  cp : Bool
structure Pt.Ok (t : Pt) : Prop where
  key : 0 ≤ t.key ∧ t.key ≤ 255
  slot : 0 ≤ t.slot ∧ t.slot ≤ 255
  size : 0 ≤ t.size ∧ t.size ≤ 255
def ptKeys : List ByteArray := [⟨#[97]⟩, ⟨#[98]⟩, ⟨#[99]⟩, ⟨#[100, 100]⟩, ⟨#[101, 48]⟩]
def ptKey (k : Int) : ByteArray := ptKeys.getD (k % 5).toNat ⟨#[97]⟩
theorem ptKey_ok (k : Int) : keyChk (ptKey k) = 0 ∧ 1 ≤ (ptKey k).size ∧ (ptKey k).size ≤ 2 ∧ Low (ptKey k) := by
  have h : k % 5 = 0 ∨ k % 5 = 1 ∨ k % 5 = 2 ∨ k % 5 = 3 ∨ k % 5 = 4 := by omega
  have hl : ∀ x ∈ ptKeys, keyChk x = 0 ∧ 1 ≤ x.size ∧ x.size ≤ 2 ∧ Low x := by
    intro x hx
    simp only [ptKeys, List.mem_cons, List.not_mem_nil, or_false] at hx
    rcases hx with rfl | rfl | rfl | rfl | rfl
    all_goals
      refine ⟨by kernel_rfl, by decide, by decide, ?_⟩
      unfold Low
      decide
  unfold ptKey
  rcases h with h | h | h | h | h <;> rw [h] <;> exact hl _ (by simp [ptKeys])
structure PS where
  X : IX
  all : List En
  us : Int → Int
  nx : Int
def newP (st : PS) (t : Pt) : En := ⟨st.nx, ptKey t.key, t.del, t.slot % 6, st.us (t.slot % 6), 16 + ((ptKey t.key).size : Int) + if t.del = true then 0 else t.size % 100⟩
def headP (st : PS) (t : Pt) : En := (st.X.of (ptKey t.key)).headD zE
def copyP (st : PS) (t : Pt) : En := { newP st t with seq := (headP st t).seq, del := (headP st t).del, size := (headP st t).size }
def hasP (st : PS) (t : Pt) : Bool := (st.X.slot (t.slot % 6)).any (fun y => decide (y.seq = (headP st t).seq) && decide (y.key = ptKey t.key))
def pushP (st : PS) (e : En) (nx : Int) : PS := ⟨addX st.X e, st.all ++ [e], upd st.us e.slot (st.us e.slot + e.size), nx⟩
def isCp (st : PS) (t : Pt) : Bool := t.cp && !(st.X.of (ptKey t.key)).isEmpty
def stepP (st : PS) (t : Pt) : PS := if isCp st t = true then (if hasP st t = true then st else pushP st (copyP st t) st.nx) else pushP st (newP st t) (st.nx + 1)
/-- The entry that add returns. -/
def retPt (st : PS) (t : Pt) : En := if isCp st t = true then (if hasP st t = true then zE else copyP st t) else newP st t
def foldP (L : List Pt) : PS := L.foldl stepP ⟨ixNew 6, [], fun _ => 0, 1⟩
theorem foldP_snoc (L : List Pt) (t : Pt) : foldP (L ++ [t]) = stepP (foldP L) t := by simp [foldP]
structure PS.Ok (st : PS) (j : Nat) : Prop where
  g : FG st.X st.all st.us 6
  n : st.all.length ≤ j
  q0 : 1 ≤ st.nx
  q1 : st.nx ≤ j + 1
  u : ∀ s, 0 ≤ st.us s ∧ st.us s ≤ 118 * j
  t : ∀ s, st.us s = sumE (st.all.filter (inSlot s))
  e : ∀ e ∈ st.all, 1 ≤ e.seq ∧ e.seq < st.nx ∧ Low e.key ∧ e.key.size ≤ 2 ∧ e.size ≤ 117
theorem PS.later {st : PS} {j j' : Nat} (h : st.Ok j) (hj : j ≤ j') : st.Ok j' := ⟨h.g, Nat.le_trans h.n hj, h.q0, by have := h.q1; omega, fun s => by have := h.u s; omega, h.t, h.e⟩
theorem PS.push {st : PS} {j : Nat} {e : En} {nx : Int} (h : st.Ok j) (ho : e.off = st.us e.slot) (g : FG (addX st.X e) (st.all ++ [e]) (upd st.us e.slot (e.off + e.size)) 6) (hn : st.nx ≤ nx) (hn2 : nx ≤ j + 2) (hz : 0 ≤ e.size ∧ e.size ≤ 117) (hq : 1 ≤ e.seq ∧ e.seq < nx) (hk : Low e.key ∧ e.key.size ≤ 2) : (pushP st e nx).Ok (j + 1) := by
  rw [ho] at g
  refine ⟨g, ?_, Int.le_trans h.q0 hn, by show nx ≤ ((j + 1 : Nat) : Int) + 1; omega, fun s => ?_, fun s => ?_, fun o hm => ?_⟩
  · show (st.all ++ [_]).length ≤ j + 1
    have := h.n
    rw [List.length_append]; simp; omega
  · have hs := h.u s
    show 0 ≤ upd st.us e.slot (st.us e.slot + e.size) s ∧ upd st.us e.slot (st.us e.slot + e.size) s ≤ 118 * ((j + 1 : Nat) : Int)
    unfold upd
    split
    · rename_i h1; subst h1; omega
    · omega
  · show upd st.us e.slot (st.us e.slot + e.size) s = sumE ((st.all ++ [e]).filter (inSlot s))
    rw [List.filter_append, sumE_app, ← h.t s]
    by_cases h1 : s = e.slot
    · subst h1
      rw [upd_same, List.filter_cons_of_pos (by simp [inSlot])]
      simp [sumE]
    · rw [upd_other _ _ h1, List.filter_cons_of_neg (by simp [inSlot]; exact fun hh => h1 hh.symm)]
      simp [sumE]
  · rcases List.mem_append.1 hm with hm | hm
    · obtain ⟨h1, h2, h3⟩ := h.e o hm
      exact ⟨h1, by show o.seq < nx; omega, h3⟩
    · rw [List.mem_singleton.1 hm]
      exact ⟨hq.1, hq.2, hk.1, hk.2, hz.2⟩
theorem newP_ok {st : PS} {j : Nat} {t : Pt} (h : st.Ok j) (hj : j ≤ 61) (ht : t.Ok) : addE st.X (newP st t) = 0 ∧ (pushP st (newP st t) (st.nx + 1)).Ok (j + 1) := by
  obtain ⟨k1, k2, k3, k4⟩ := ptKey_ok t.key
  have hu := h.u (t.slot % 6)
  have q0 := h.q0
  have q1 := h.q1
  have hz : 0 ≤ (if t.del = true then 0 else t.size % 100) ∧ (if t.del = true then 0 else t.size % 100) ≤ 99 := by split <;> omega
  have hz2 : (if t.del = true then (0 : Int) else t.size % 100) = 0 ∨ t.del = false := by
    cases t.del
    · exact .inr rfl
    · exact .inl rfl
  have hv : validE (newP st t) = true := (valid_iff _).2 ⟨k1, q0, show st.nx ≤ 1099511627776 by omega, hu.1, by show 16 + ((ptKey t.key).size : Int) ≤ 16 + ((ptKey t.key).size : Int) + _; omega,
    hz2.imp (fun h => (show 16 + ((ptKey t.key).size : Int) + _ = 16 + ((ptKey t.key).size : Int) by omega)) id, by show 16 + ((ptKey t.key).size : Int) + _ ≤ (8192 : Int); omega, by show st.us (t.slot % 6) ≤ 8192 - (16 + ((ptKey t.key).size : Int) + _); omega⟩
  obtain ⟨a, g⟩ := h.g.new (e := newP st t) (fun o ho => by have := (h.e o ho).2.1; show o.seq ≠ st.nx; omega) (show (0 : Int) ≤ t.slot % 6 by omega) (show t.slot % 6 < (6 : Int) by omega) hv (Int.le_refl _)
  exact ⟨a, PS.push h rfl g (by omega) (by omega) ⟨by show (0 : Int) ≤ 16 + ((ptKey t.key).size : Int) + _; omega, by show 16 + ((ptKey t.key).size : Int) + _ ≤ (117 : Int); omega⟩ ⟨q0, by show st.nx < st.nx + 1; omega⟩ ⟨k4, k3⟩⟩
theorem headP_mem {st : PS} {t : Pt} {j : Nat} (h : st.Ok j) (hc : isCp st t = true) : headP st t ∈ st.all ∧ (headP st t).key = ptKey t.key ∧ ∃ r, st.X.of (ptKey t.key) = headP st t :: r := by
  unfold isCp at hc
  unfold headP
  cases hl : st.X.of (ptKey t.key) with
  | nil => rw [hl] at hc; simp at hc
  | cons e r =>
    have h1 := (h.g.of (ptKey t.key) e).1 (by rw [hl]; simp)
    exact ⟨h1.1, h1.2, r, rfl⟩
theorem copyP_ok {st : PS} {j : Nat} {t : Pt} (h : st.Ok j) (hj : j ≤ 61) (hc : isCp st t = true) (hh : hasP st t = false) : addE st.X (copyP st t) = 0 ∧ (pushP st (copyP st t) st.nx).Ok (j + 1) := by
  obtain ⟨m1, m2, _⟩ := headP_mem h hc
  obtain ⟨e1, e2, e3, e4, e5⟩ := h.e _ m1
  have hv0 := h.g.val m1
  obtain ⟨k1, k2, k3, k4⟩ := ptKey_ok t.key
  have hu := h.u (t.slot % 6)
  rw [m2] at hv0
  have he : copyP st t = { headP st t with slot := (copyP st t).slot, off := (copyP st t).off } := En.ext' rfl m2.symm rfl rfl rfl rfl
  have hv : validE (copyP st t) = true := (valid_iff _).2 ⟨k1, hv0.2.1, hv0.2.2.1, hu.1, hv0.2.2.2.2.1, hv0.2.2.2.2.2.1, hv0.2.2.2.2.2.2.1, by show st.us (t.slot % 6) ≤ 8192 - (headP st t).size; omega⟩
  have hd : ¬ ∃ o ∈ st.all, o.slot = (copyP st t).slot ∧ o.seq = (copyP st t).seq := by
    rintro ⟨o, ho, hs, hq⟩
    obtain ⟨q1, _, _⟩ := h.g.cp o ho _ m1 hq
    have := List.any_eq_false.1 hh o ((h.g.slot _ o).2 ⟨ho, hs⟩)
    simp only [Bool.and_eq_true, decide_eq_true_eq] at this
    exact this ⟨hq, by rw [q1, m2]⟩
  obtain ⟨a, g⟩ := h.g.copyYes (e := copyP st t) m1 he (show (0 : Int) ≤ t.slot % 6 by omega) (show t.slot % 6 < (6 : Int) by omega) hv (Int.le_refl _) hd
  exact ⟨a, PS.push h rfl g (Int.le_refl _) (by have := h.q1; omega) ⟨by show 0 ≤ (headP st t).size; omega, e5⟩ ⟨e1, e2⟩ ⟨k4, k3⟩⟩
theorem stepP_ok {st : PS} {j : Nat} {t : Pt} (h : st.Ok j) (hj : j ≤ 61) (ht : t.Ok) : (stepP st t).Ok (j + 1) := by
  unfold stepP
  split
  · rename_i hc
    split
    · exact PS.later h (by omega)
    · rename_i hh
      exact (copyP_ok h hj hc (by simpa using hh)).2
  · exact (newP_ok h hj ht).2
theorem foldP_ok' : ∀ (n : Nat) (L : List Pt), L.length = n → n ≤ 62 → (∀ t ∈ L, t.Ok) → (foldP L).Ok n
  | 0, L, hL, _, _ => by
    rw [List.eq_nil_of_length_eq_zero hL]
    exact ⟨FG.start 6 (by omega) (by omega) _, Nat.le_refl _, Int.le_refl _, Int.le_refl _, fun s => ⟨Int.le_refl _, Int.le_refl _⟩, fun s => rfl, (fun _ h => by cases h)⟩
  | n + 1, L, hL, hn, ht => by
    have hne : L ≠ [] := fun h => by rw [h] at hL; cases hL
    have e := List.dropLast_concat_getLast hne
    have h1 := foldP_ok' n L.dropLast (by rw [List.length_dropLast]; omega) (by omega) (fun m h => ht m (List.dropLast_subset L h))
    rw [← e, foldP_snoc]
    exact stepP_ok h1 (by omega) (ht _ (List.getLast_mem hne))
theorem foldP_ok (L : List Pt) (hn : L.length ≤ 62) (ht : ∀ t ∈ L, t.Ok) : (foldP L).Ok L.length := foldP_ok' _ L rfl hn ht
end Go.Proofs.Ytmdfickejpeofaa

/- ledger.add: the sum of a row; ledger.Sum. -/
set_option linter.unusedVariables false
set_option linter.unusedSimpArgs false
namespace Go.Proofs.Ytmdfickejpeofaa
open Go.RowKit Go.Shelf
attribute [local go_sem] OvM cell_ovm obj_ovm
attribute [local go_sem] Oper.semAt_some

theorem rowBy_cons (x : By) (l : List By) : rowBy (x :: l) = cellsBy x ++ rowBy l := rfl
theorem rowBy_get (l : List By) : ∀ i x, l[i]? = some x → ∀ j u, (cellsBy x)[j]? = some u → (rowBy l)[i * 5 + j]? = some u := by
  induction l with
  | nil => intro i x h; simp at h
  | cons y l ih =>
    intro i x h j u hu
    have hj : j < 5 := by have := (List.getElem?_eq_some_iff.1 hu).1; simpa [cellsBy] using this
    rw [rowBy_cons]
    cases i with
    | zero => simp at h; subst h; rw [List.getElem?_append_left (by simp [cellsBy]; omega)]; simpa using hu
    | succ i =>
      rw [List.getElem?_append_right (by simp [cellsBy]; omega), show (i + 1) * 5 + j - (cellsBy y).length = i * 5 + j by simp [cellsBy]; omega]
      exact ih i x (by simpa using h) j u hu
theorem ownBy_at {w : World} {v : Value} {l : List By} (h : Own w 56 5 v l.length (rowBy l)) : ∃ a cap, v = .slice a l.length cap ∧ l.length ≤ cap ∧ cap ≤ maxLen ∧ ∀ i x, l[i]? = some x → ∃ g, a = some ⟨g, 0, none⟩ ∧
    ∀ j u, (cellsBy x)[j]? = some u → w.cell? ⟨g, i * 5 + j, none⟩ = some u := by
  rcases h.2 with ⟨hv, h0⟩ | ⟨g, cap, cur, hv, _, hg, h1, h2, h3, h4⟩
  · have hL : l = [] := List.eq_nil_of_length_eq_zero h0
    subst hL
    exact ⟨none, 0, hv, Nat.le_refl _, by simp [maxLen], fun i x hx => by simp at hx⟩
  · subst hv
    refine ⟨_, cap, rfl, h1, h2, fun i x hx => ⟨g, rfl, fun j u hu => ?_⟩⟩
    have hc := h.cells (g := g) rfl
    have hadd : ∀ j, (⟨g, 0, none⟩ : Addr).add j = ⟨g, j, none⟩ := fun j => by unfold Addr.add; split <;> simp_all
    rw [← hadd]
    exact hc _ _ (rowBy_get l i x hx j u hu)
def addB (a b : By) : By := ⟨a.total + b.total, a.live + b.live, a.tombs + b.tombs, a.dead + b.dead, max a.last b.last⟩
def addL (l : List By) : By := l.foldl addB zBy
theorem addL_snoc (l : List By) (b : By) : addL (l ++ [b]) = addB (addL l) b := by simp [addL]
/-- No more than M in any field. -/
structure ByLe (b : By) (M : Int) : Prop where
  t : 0 ≤ b.total ∧ b.total ≤ M
  l : 0 ≤ b.live ∧ b.live ≤ M
  m : 0 ≤ b.tombs ∧ b.tombs ≤ M
  d : 0 ≤ b.dead ∧ b.dead ≤ M
  s : 0 ≤ b.last ∧ b.last ≤ 1099511627776
theorem addL_le {l : List By} (h : ∀ b ∈ l, ByLe b 8388608) : ByLe (addL l) (8388608 * l.length) := by
  have : ∀ (l : List By) (a : By) (M : Int), ByLe a M → (∀ b ∈ l, ByLe b 8388608) → ByLe (l.foldl addB a) (M + 8388608 * l.length) := by
    intro l
    induction l with
    | nil => intro a M ha _; simpa using ha
    | cons y l ih =>
      intro a M ha hl
      have hy := hl y (by simp)
      obtain ⟨t1, l1, m1, d1, s1⟩ := ha
      obtain ⟨t2, l2, m2, d2, s2⟩ := hy
      have := ih (addB a y) (M + 8388608) ⟨by simp only [addB]; omega, by simp only [addB]; omega, by simp only [addB]; omega, by simp only [addB]; omega, by simp only [addB]; omega⟩ (fun b hb => hl b (List.mem_cons_of_mem _ hb))
      rw [List.foldl_cons, List.length_cons, show M + 8388608 * ((l.length + 1 : Nat) : Int) = M + 8388608 + 8388608 * l.length by omega]
      exact this
  have := this l zBy 0 ⟨by simp [zBy], by simp [zBy], by simp [zBy], by simp [zBy], by simp [zBy]⟩ h
  simpa [addL] using this
theorem byOf_le {X : IX} (h : X.Wf) (s : Int) : ByLe (byOf X s) 8388608 := by
  have h1 := acc_ok X (X.slot s) (fun e he => ((h.slotOk s).e e he).2)
  have h2 := h.slot_le s
  obtain ⟨o1, o2, o3, o4, o5, o6⟩ := h1
  exact ⟨by simp only [byOf]; omega, by simp only [byOf]; omega, by simp only [byOf]; omega, by simp only [byOf]; omega, by simp only [byOf]; omega⟩
set_option maxRecDepth 40000 in
set_option maxHeartbeats 4000000 in
theorem add_any {w : World} {v : Value} {l : List By} (h : Own w 56 5 v l.length (rowBy l)) (hl : l.length ≤ 32) (hb : ∀ b ∈ l, ByLe b 8388608) : Calls Try.prog 93 #[v] w fun e w' => e = .returned (byV (addL l)) ∧ Gr w w' := by
  obtain ⟨a, cap, rfl, hc1, hc2, hat⟩ := ownBy_at h
  obtain ⟨n, hn⟩ : ∃ n, n = l.length := ⟨_, rfl⟩
  have HAT := Lib.hid hat
  have HB := Lib.hid hb
  have HN := Lib.hid hn
  rw [← hn] at hl hc1 ⊢
  unfold maxLen at hc2
  clear h hat hb hn
  refine calls_of_wp_marks Try.func93 rfl ?_
  simp only [Try.ntmps93, List.size_toArray, List.length_cons, List.length_nil, Nat.reduceAdd, Nat.reduceSub, Array.replicate_succ, Array.replicate_zero, List.push_toArray, List.append_toArray, List.nil_append, List.cons_append]
  go_wp2_with fail
  obtain ⟨b2, hb2⟩ : ∃ q, q = w.heap.size := ⟨_, rfl⟩
  obtain ⟨w0, hw0⟩ : ∃ y, y = (w.alloc (.cells #[.int .i64 0, .int .i64 0, .int .i64 0, .int .i64 0, .int .i64 0] 56)).alloc (.cells #[.int .i64 0, .int .i64 0, .int .i64 0, .int .i64 0, .int .i64 0] 56) := ⟨_, rfl⟩
  have H0 : Hid (w.heap.size ≤ b2 ∧ Gr w w0 ∧ w0.heap[b2]? = some (.cells #[.int .i64 0, .int .i64 0, .int .i64 0, .int .i64 0, .int .i64 0] 56) ∧ w0.heap[b2 + 1]? = some (.cells (cellsBy (addL (l.take 0))).toArray 56)) := Lib.hid (by
    have h1 := blkNew w (.cells #[.int .i64 0, .int .i64 0, .int .i64 0, .int .i64 0, .int .i64 0] 56)
    have h2 := blkNew (w.alloc (.cells #[.int .i64 0, .int .i64 0, .int .i64 0, .int .i64 0, .int .i64 0] 56)) (.cells #[.int .i64 0, .int .i64 0, .int .i64 0, .int .i64 0, .int .i64 0] 56)
    rw [World.size_alloc] at h2
    rw [hw0, hb2]
    exact ⟨Nat.le_refl _, ((Gr.refl w).alloc _).alloc _, ((Gr.refl _).alloc _).blk h1, h2⟩)
  rw [← hw0, ← hb2]
  clear hw0 hb2
  go_loopw [8] (fun t8 wx => ∃ j : Nat, j ≤ n ∧ t8 = .int .i64 j ∧ Hid (Gr w wx ∧ wx.heap[b2]? = some (.cells #[.int .i64 0, .int .i64 0, .int .i64 0, .int .i64 0, .int .i64 0] 56) ∧ wx.heap[b2 + 1]? = some (.cells (cellsBy (addL (l.take j))).toArray 56))) (fun t8 _ => n - (intOf t8).toNat)
  case atStart => exact ⟨0, by omega, rfl, Lib.hid H0.out.2⟩
  case round =>
    obtain ⟨j, hj, rfl, HR⟩ := hrel
    by_cases hlt : j < n
    · have hlt' : (j : Int) < n := by omega
      have hx : l[j]? = some (l[j]'(by have := HN.out; omega)) := List.getElem?_eq_getElem _
      obtain ⟨g, rfl, hc⟩ := HAT.out j _ hx
      have HT : Hid (addL (l.take (j + 1)) = addB (addL (l.take j)) (l[j]'(by have := HN.out; omega))) := Lib.hid (by
        rw [List.take_add_one, hx]; exact addL_snoc _ _)
      have HL1 := Lib.hid (addL_le (l := l.take j) (fun b hb => HB.out b (List.mem_of_mem_take hb)))
      have HL2 := Lib.hid (HB.out _ (List.mem_of_getElem? hx))
      have HLN : Hid ((l.take j).length ≤ 32) := Lib.hid (by rw [List.length_take]; omega)
      obtain ⟨hr1, hr2, hr3⟩ := HR.out
      have d0 := hr1.keep (hc 0 _ rfl)
      have d1 := hr1.keep (hc 1 _ rfl)
      have d2 := hr1.keep (hc 2 _ rfl)
      have d3 := hr1.keep (hc 3 _ rfl)
      have d4 := hr1.keep (hc 4 _ rfl)
      simp only [Nat.add_zero] at d0 d1 d2 d3 d4
      clear hc hx HR
      generalize l[j]'_ = y at *
      generalize hla : addL (l.take j) = z at *
      generalize (l.take j).length = k at *
      clear hla
      obtain ⟨z0, z1, z2, z3, z4⟩ := z
      obtain ⟨y0, y1, y2, y3, y4⟩ := y
      obtain ⟨⟨p0, p0'⟩, ⟨p1, p1'⟩, ⟨p2, p2'⟩, ⟨p3, p3'⟩, p4, p4'⟩ := HL1.out
      obtain ⟨⟨q0, q0'⟩, ⟨q1, q1'⟩, ⟨q2, q2'⟩, ⟨q3, q3'⟩, q4, q4'⟩ := HL2.out
      have hk := HLN.out
      simp only at *
      simp only [cellsBy] at hr3
      obtain ⟨c3, f3⟩ := cellsOf hr3
      have hlt3 := blkLt hr3
      have HR1 := Lib.hid hr1
      have HR2 := Lib.hid hr2
      have HR3 := Lib.hid hr3
      clear hr1 hr2 hr3
      go_wp2_with fail
      have hm : (if z4 < y4 then y4 else z4) = max z4 y4 := by split <;> omega
      rw [hm]
      have hn1 : b2 ≠ b2 + 1 := by omega
      refine ⟨⟨j + 1, by omega, by go_num, Lib.hid ⟨(Gr.cell5 HR1.out (by have := H0.out.1; omega) _ _ _ _ _).alloc _, ((Gr.refl _).alloc _).blk (blkSetO (blkSetO (blkSetO (blkSetO (blkSetO HR2.out hn1) hn1) hn1) hn1) hn1), ((Gr.refl _).alloc _).blk ?_⟩⟩, by simp [intOf]; omega⟩
      rw [HT.out]
      exact blk5 HR3.out _ _ _ _ _
    · have hlt' : ¬ (j : Int) < n := by omega
      have hjn : j = n := by omega
      subst hjn
      have HX : Hid (l.take j = l) := Lib.hid (List.take_of_length_le (by have := HN.out; omega))
      obtain ⟨hr1, hr2, hr3⟩ := HR.out
      rw [HX.out] at hr3
      have HR1 := Lib.hid hr1
      have HR2 := Lib.hid hr2
      generalize hz : addL l = z at *
      obtain ⟨z0, z1, z2, z3, z4⟩ := z
      have HZ := Lib.hid hz
      clear hz
      simp only [cellsBy] at hr3
      obtain ⟨c3, f3⟩ := cellsOf hr3
      obtain ⟨c2, f2⟩ := cellsOf hr2
      clear hr1 hr2 hr3 HR
      go_wp2_with fail
      have hb5 := blk5 HR2.out (.int .i64 z0) (.int .i64 z1) (.int .i64 z2) (.int .i64 z3) (.int .i64 z4)
      obtain ⟨d4, _⟩ := cellsOf hb5
      refine retM0 (v := byV ⟨z0, z1, z2, z3, z4⟩) ?_ rfl ⟨by rw [HZ.out], Gr.cell5 HR1.out H0.out.1 _ _ _ _ _⟩
      simp [results, Try.results93, go_sem, d4, byV]
def sumBy (X : IX) : By × Int := if X.slots.length = 0 then (zBy, 1) else (addL (allL X X.slots.length), 0)
set_option maxRecDepth 40000 in
set_option maxHeartbeats 4000000 in
theorem Sum_any {w : World} {p : Option Addr} {X : IX} {S : Nat → Prop} (h : IXP w p X S) : Calls Try.prog 24 #[.pointer p] w fun e w' => e = .returned (.tuple #[byV (sumBy X).1, .int .i64 (sumBy X).2]) ∧ Gr w w' := by
  have H := Lib.hid h
  have HL : Hid ((allL X X.slots.length).length = X.slots.length) := Lib.hid (by simp [allL])
  have HLE : Hid (∀ b ∈ allL X X.slots.length, ByLe b 8388608) := Lib.hid (fun b hb => by
    simp only [allL, List.mem_map] at hb
    obtain ⟨i, _, rfl⟩ := hb
    exact byOf_le h.ok i)
  have H32 := Lib.hid h.ok.n
  have HS : Hid (sumBy X = (addL (allL X X.slots.length), if X.slots.length = 0 then 1 else 0)) := Lib.hid (by
    unfold sumBy
    split
    · next h0 => rw [h0]; rfl
    · rfl)
  clear h
  refine calls_of_wp_marks Try.func24 rfl ?_
  simp only [Try.ntmps24, List.size_toArray, List.length_cons, List.length_nil, Nat.reduceAdd, Nat.reduceSub, Array.replicate_succ, Array.replicate_zero, List.push_toArray, List.append_toArray, List.nil_append, List.cons_append]
  go_wp2_with fail
  obtain ⟨b, hb⟩ : ∃ q, q = w.heap.size := ⟨_, rfl⟩
  obtain ⟨w0, hw0⟩ : ∃ y, y = w.alloc (.cells #[.int .i64 0, .int .i64 0, .int .i64 0, .int .i64 0, .int .i64 0] 56) := ⟨_, rfl⟩
  have H0 : Hid (w.heap.size ≤ b ∧ Gr w w0 ∧ w0.heap[b]? = some (.cells #[.int .i64 0, .int .i64 0, .int .i64 0, .int .i64 0, .int .i64 0] 56)) := Lib.hid (by
    rw [hw0, hb]
    exact ⟨Nat.le_refl _, (Gr.refl w).alloc _, blkNew w _⟩)
  rw [← hw0, ← hb]
  clear hw0 hb
  refine (All_any (H.out.gr H0.out.2.1)).mono ?_
  rintro e w1 ⟨v, rfl, hrow, hg1⟩
  have HG1 := Lib.hid (H0.out.2.1.trans hg1)
  have HB1 := Lib.hid (hg1.blk H0.out.2.2)
  have HROW := Lib.hid hrow.own
  clear hrow hg1
  generalize hq : (if X.slots.length = 0 then (1 : Int) else 0) = q at *
  generalize hz : addL (allL X X.slots.length) = z at *
  go_wp2_with (go_at_call 93; refine (add_any (l := allL X X.slots.length) (by rw [HL.out]; exact HROW.out) (by rw [HL.out]; exact H32.out) HLE.out).mono ?_; rintro e w2 ⟨rfl, hg2⟩; have HG2 := Lib.hid (HG1.out.trans hg2); have HB2 := Lib.hid (hg2.blk HB1.out); obtain ⟨c2, f2⟩ := cellsOf HB2.out; clear hg2; rw [hz]; obtain ⟨z0, z1, z2, z3, z4⟩ := z; simp only [byV])
  have hb5 := blk5 HB2.out (.int .i64 z0) (.int .i64 z1) (.int .i64 z2) (.int .i64 z3) (.int .i64 z4)
  obtain ⟨d4, _⟩ := cellsOf hb5
  refine retM0 (v := .tuple #[byV ⟨z0, z1, z2, z3, z4⟩, .int .i64 q]) ?_ rfl ⟨by rw [HS.out], Gr.cell5 HG2.out H0.out.1 _ _ _ _ _⟩
  simp [results, Try.results24, go_sem, d4, byV]
end Go.Proofs.Ytmdfickejpeofaa

/- LedgerSums in plain Lean. No walk. -/
set_option linter.unusedVariables false
set_option linter.unusedSimpArgs false
namespace Go.Proofs.Ytmdfickejpeofaa

/-! ### The greatest number -/
structure MaxQ (l : List En) (m : Int) : Prop where
  ge : ∀ e ∈ l, e.seq ≤ m
  z : 0 ≤ m
  at' : m = 0 ∨ ∃ e ∈ l, m = e.seq
theorem MaxQ.uniq {l : List En} {m n : Int} (h : MaxQ l m) (g : MaxQ l n) : m = n := by
  rcases h.at' with h1 | ⟨e, he, h1⟩ <;> rcases g.at' with g1 | ⟨f, hf, g1⟩
  · omega
  · have := h.ge f hf; have := g.z; have := h.z; omega
  · have := g.ge e he; have := h.z; have := g.z; omega
  · have := g.ge e he; have := h.ge f hf; omega
theorem MaxQ.perm {l l' : List En} {m : Int} (h : MaxQ l m) (p : l.Perm l') : MaxQ l' m := ⟨fun e he => h.ge e (p.mem_iff.2 he), h.z, h.at'.imp id (fun ⟨e, he, x⟩ => ⟨e, p.mem_iff.1 he, x⟩)⟩
theorem MaxQ.nil : MaxQ [] 0 := ⟨(fun _ h => by cases h), Int.le_refl _, .inl rfl⟩
theorem MaxQ.app {l l' : List En} {m n : Int} (h : MaxQ l m) (g : MaxQ l' n) : MaxQ (l ++ l') (max m n) := by
  have h0 := h.z
  have g0 := g.z
  refine ⟨fun e he => ?_, by omega, ?_⟩
  · rcases List.mem_append.1 he with he | he
    · have := h.ge e he; omega
    · have := g.ge e he; omega
  · rcases Int.le_total m n with hm | hm
    · rw [show max m n = n by omega]
      exact g.at'.imp id (fun ⟨e, he, x⟩ => ⟨e, List.mem_append_right _ he, x⟩)
    · rw [show max m n = m by omega]
      exact h.at'.imp id (fun ⟨e, he, x⟩ => ⟨e, List.mem_append_left _ he, x⟩)
theorem head_max {X : IX} (h : X.Wf) (k : ByteArray) : MaxQ (X.of k) ((X.of k).headD zE).seq := by
  have hp := h.ofPair k
  cases hl : X.of k with
  | nil => exact MaxQ.nil
  | cons e r =>
    rw [hl] at hp
    have hp := List.pairwise_cons.1 hp
    have hv : 1 ≤ e.seq := by
      have h1 := (h.of_mem k e).1 (by rw [hl]; simp)
      have := (valid_iff e).1 (h.valid h1.1).1
      omega
    refine ⟨fun o ho => ?_, by show 0 ≤ e.seq; omega, .inr ⟨e, by simp, rfl⟩⟩
    show o.seq ≤ e.seq
    rcases List.mem_cons.1 ho with rfl | ho
    · exact Int.le_refl _
    · have := of_decide_eq_true (hp.1 o ho)
      omega
theorem lastF_max {X : IX} (h : X.Wf) : ∀ (n : Nat) (ks : List ByteArray), ks.length = n → MaxQ ((ks.map X.of).flatten) (lastF X ks)
  | 0, ks, hk => by rw [List.eq_nil_of_length_eq_zero hk]; exact MaxQ.nil
  | n + 1, ks, hk => by
    have hne : ks ≠ [] := fun h => by rw [h] at hk; cases hk
    obtain ⟨d, k, rfl⟩ : ∃ d k, ks = d ++ [k] := ⟨_, _, (List.dropLast_concat_getLast hne).symm⟩
    rw [List.length_append] at hk
    have h1 := lastF_max h n d (by simpa using hk)
    have h2 := h1.app (head_max h k)
    rw [← lastF_snoc] at h2
    refine h2.perm ?_
    rw [List.map_append, List.flatten_append]
    simp
theorem of_keys' {X : IX} (h : X.Wf) : ∀ x ∈ X.keys, X.of x.1 = x.2 := fun x hx => by
  unfold IX.of
  rw [(look_mem ordS h.k0 x.1 x.2).2 hx]
  rfl
theorem last_max {X : IX} (h : X.Wf) : MaxQ X.ents X.last := by
  have h1 := lastF_max h _ X.ks rfl
  have e : (X.ks.map X.of).flatten = X.keys.flatMap Prod.snd := by
    unfold IX.ks
    rw [List.map_map, List.flatMap]
    congr 1
    exact List.map_congr_left (fun x hx => of_keys' h x hx)
  rw [e] at h1
  exact h1.perm h.v

/-! ### The bytes of a slot -/
theorem acc_sum (X : IX) : ∀ (l : List En) (a : AccB), (l.foldl (stepB X) a).l + (l.foldl (stepB X) a).t + (l.foldl (stepB X) a).d = a.l + a.t + a.d + sumE l
  | [], a => by simp [sumE]
  | e :: l, a => by
    rw [List.foldl_cons, acc_sum X l]
    have : (stepB X a e).l + (stepB X a e).t + (stepB X a e).d = a.l + a.t + a.d + e.size := by
      unfold stepB
      (repeat' split) <;> simp only <;> omega
    rw [this]
    simp only [sumE]
    omega
theorem acc_max (X : IX) : ∀ (n : Nat) (l : List En), l.length = n → (∀ e ∈ l, 0 ≤ e.seq) → MaxQ l (accB X l).last
  | 0, l, hl, _ => by rw [List.eq_nil_of_length_eq_zero hl]; exact MaxQ.nil
  | n + 1, l, hl, h0 => by
    have hne : l ≠ [] := fun h => by rw [h] at hl; cases hl
    obtain ⟨d, x, rfl⟩ : ∃ d x, l = d ++ [x] := ⟨_, _, (List.dropLast_concat_getLast hne).symm⟩
    rw [List.length_append] at hl
    have h1 := acc_max X n d (by simpa using hl) (fun y hy => h0 y (List.mem_append_left _ hy))
    have h2 : MaxQ [x] x.seq := ⟨fun y hy => by rw [List.mem_singleton.1 hy]; exact Int.le_refl _, h0 x (by simp), .inr ⟨_, by simp, rfl⟩⟩
    have h3 := h1.app h2
    have h4 : (accB X (d ++ [x])).last = max (accB X d).last x.seq := by
      rw [accB_snoc]
      unfold stepB
      (repeat' split) <;> rfl
    rw [h4]
    exact h3
theorem byOf_total (X : IX) (s : Int) : (byOf X s).total = sumE (X.slot s) := by
  have := acc_sum X (X.slot s) ⟨0, 0, 0, 0⟩
  show (accB X (X.slot s)).l + (accB X (X.slot s)).t + (accB X (X.slot s)).d = _
  unfold accB
  rw [this]
  simp
theorem slot_max {X : IX} (h : X.Wf) (s : Int) : MaxQ (X.slot s) (byOf X s).last :=
  acc_max X _ (X.slot s) rfl (fun e he => by have := (valid_iff e).1 ((h.slotOk s).e e he).2; omega)
theorem sumE_pos {X : IX} (h : X.Wf) (s : Int) : 0 ≤ sumE (X.slot s) ∧ (sumE (X.slot s) = 0 → X.slot s = []) := by
  have hv : ∀ e ∈ X.slot s, 16 ≤ e.size := fun e he => by have := (valid_iff e).1 ((h.slotOk s).e e he).2; omega
  generalize X.slot s = l at hv
  have hp : ∀ l : List En, (∀ e ∈ l, 16 ≤ e.size) → 0 ≤ sumE l := by
    intro l
    induction l with
    | nil => intro _; exact Int.le_refl _
    | cons e l ih => intro hh; have := ih (fun x hx => hh x (List.mem_cons_of_mem _ hx)); have := hh e (by simp); show 0 ≤ e.size + sumE l; omega
  refine ⟨hp l hv, fun h0 => ?_⟩
  cases l with
  | nil => rfl
  | cons e l =>
    have := hp l (fun x hx => hv x (List.mem_cons_of_mem _ hx))
    have := hv e (by simp)
    have h0 : e.size + sumE l = 0 := h0
    omega
structure ByOk (b : By) (m : Int) : Prop where
  l : 0 ≤ b.live
  t : 0 ≤ b.tombs
  d : 0 ≤ b.dead
  s : b.total = b.live + b.tombs + b.dead
  m : b.total ≤ m
  q0 : 0 ≤ b.last
  q1 : b.last ≤ 1099511627776
  z : b.last = 0 ↔ b.total = 0
theorem ByOk.chk {b : By} {m : Int} (h : ByOk b m) (hm : m ≤ 262144) : chkBy b = 0 := by
  obtain ⟨h1, h2, h3, h4, h5, h6, h7, h8⟩ := h
  unfold chkBy inBy
  rw [if_pos]
  exact ⟨decide_eq_true ⟨h1, by omega⟩, decide_eq_true ⟨h2, by omega⟩, decide_eq_true ⟨h3, by omega⟩, decide_eq_true ⟨by omega, by omega⟩, h4, h6, h7, h8⟩
theorem ByOk.add {a b : By} {m n : Int} (h : ByOk a m) (g : ByOk b n) : ByOk (addB a b) (m + n) := by
  obtain ⟨h1, h2, h3, h4, h5, h6, h7, h8⟩ := h
  obtain ⟨g1, g2, g3, g4, g5, g6, g7, g8⟩ := g
  refine ⟨by show 0 ≤ a.live + b.live; omega, by show 0 ≤ a.tombs + b.tombs; omega, by show 0 ≤ a.dead + b.dead; omega, by show a.total + b.total = a.live + b.live + (a.tombs + b.tombs) + (a.dead + b.dead); omega, by show a.total + b.total ≤ m + n; omega, by show 0 ≤ max a.last b.last; omega, by show max a.last b.last ≤ 1099511627776; omega, ?_⟩
  show max a.last b.last = 0 ↔ a.total + b.total = 0
  constructor
  · intro hh
    have := h8.1 (by omega)
    have := g8.1 (by omega)
    omega
  · intro hh
    have := h8.2 (by omega)
    have := g8.2 (by omega)
    omega
theorem ByOk.zero : ByOk zBy 0 := ⟨Int.le_refl _, Int.le_refl _, Int.le_refl _, rfl, Int.le_refl _, Int.le_refl _, by decide, by simp [zBy]⟩
theorem byOf_ok {X : IX} (h : X.Wf) (s : Int) : ByOk (byOf X s) (sumE (X.slot s)) := by
  have ha := acc_ok X (X.slot s) (fun e he => ((h.slotOk s).e e he).2)
  have hm := slot_max h s
  have ht := byOf_total X s
  refine ⟨ha.l0, ha.t0, ha.d0, rfl, by rw [ht]; exact Int.le_refl _, ha.m0, ha.m1, ?_⟩
  rw [ht]
  constructor
  · intro h0
    cases hl : X.slot s with
    | nil => rfl
    | cons e r =>
      exfalso
      have h1 : e ∈ X.slot s := by rw [hl]; simp
      have h2 := hm.ge e h1
      have := (valid_iff e).1 ((h.slotOk s).e e h1).2
      omega
  · intro h0
    have h1 := (sumE_pos h s).2 h0
    rw [h1] at hm
    exact hm.uniq MaxQ.nil
theorem allL_ok {X : IX} (h : X.Wf) (m : Int) (hm : ∀ s : Int, sumE (X.slot s) ≤ m) : ∀ n : Nat, ByOk (addL (allL X n)) (m * n)
  | 0 => by simpa [allL, addL] using ByOk.zero
  | n + 1 => by
    rw [allL_succ, addL_snoc]
    have h1 := allL_ok h m hm n
    have h2 := byOf_ok h (n : Int)
    have h3 := h1.add h2
    have h4 := hm (n : Int)
    refine ⟨h3.l, h3.t, h3.d, h3.s, Int.le_trans h3.m ?_, h3.q0, h3.q1, h3.z⟩
    rw [show m * ((n + 1 : Nat) : Int) = m * n + m by rw [Int.natCast_add, Int.mul_add]; simp]
    omega
theorem allL_max {X : IX} (h : X.Wf) : ∀ n : Nat, MaxQ (((List.range n).map (fun (i : Nat) => X.slot i)).flatten) (addL (allL X n)).last
  | 0 => MaxQ.nil
  | n + 1 => by
    rw [allL_succ, addL_snoc]
    have h1 := (allL_max h n).app (slot_max h (n : Int))
    rw [List.range_succ, List.map_append, List.flatten_append]
    have e : ([n].map (fun (i : Nat) => X.slot i)).flatten = X.slot (n : Int) := by simp
    rw [e]
    exact h1
theorem slots_flat (X : IX) : ((List.range X.slots.length).map (fun (i : Nat) => X.slot i)).flatten = X.ents := by
  unfold IX.ents
  congr 1
  refine List.ext_getElem? (fun i => ?_)
  by_cases h : i < X.slots.length
  · have h1 : X.slots[i]? = some (X.slots[i]'h) := List.getElem?_eq_getElem h
    rw [List.getElem?_map, List.getElem?_range h, Option.map_some, slot_at h1, h1]
  · rw [List.getElem?_eq_none (by simpa using h), List.getElem?_eq_none (by omega)]
theorem sum_last {X : IX} (h : X.Wf) : (addL (allL X X.slots.length)).last = X.last := by
  have h1 := allL_max h X.slots.length
  rw [slots_flat] at h1
  exact h1.uniq (last_max h)
/-- Total of a slot is what was appended. -/
theorem tot_us {st : PS} {j : Nat} (h : st.Ok j) (s : Int) : (byOf st.X s).total = st.us s := by
  rw [byOf_total, h.t s]
  refine sumE_perm ((slot_perm h.g.wf s).trans ?_)
  exact (h.g.pm.filter _).symm
end Go.Proofs.Ytmdfickejpeofaa

/- Keys of the reference in plain Lean: the least key that is greater than the last one. No walk. -/
set_option linter.unusedVariables false
set_option linter.unusedSimpArgs false
namespace Go.Proofs.Ytmdfickejpeofaa

theorem key_ne {e : En} (h : validE e = true) : e.key.size ≠ 0 := by
  have h1 := ((valid_iff e).1 h).1
  intro h0
  unfold keyChk at h1
  split at h1 <;> cases h1
theorem lt_emp (k : ByteArray) : ltS ⟨#[]⟩ k = decide (k.size ≠ 0) := by
  have hk : k.toList.length = k.size := by rw [toList_data, size_data]
  have h : (⟨#[]⟩ : ByteArray).toList = [] := by rw [toList_data]
  unfold ltS
  rw [h]
  cases hl : k.toList with
  | nil =>
    rw [hl] at hk
    have h0 : k.size = 0 := hk.symm
    rw [h0]
    rfl
  | cons a l =>
    rw [hl, List.length_cons] at hk
    have h0 : k.size ≠ 0 := by omega
    rw [decide_eq_true h0]
    rfl
theorem size_emp {k : ByteArray} (h : k.size = 0) : k = ⟨#[]⟩ := by
  have h1 : k.toList.length = k.size := by rw [toList_data, size_data]
  refine str_inj ?_
  rw [show (⟨#[]⟩ : ByteArray).toList = [] by rw [toList_data]]
  exact List.eq_nil_of_length_eq_zero (by omega)
/-- What best is behind i entries. -/
structure KyI (all : List En) (last best : ByteArray) (i : Nat) : Prop where
  no : best.size = 0 → ∀ (j : Nat) x, j < i → all[j]? = some x → ltS last x.key = false
  yes : best.size ≠ 0 → (∃ x ∈ all, x.key = best) ∧ ltS last best = true ∧ ∀ (j : Nat) x, j < i → all[j]? = some x → ltS last x.key = true → ltS x.key best = false
section
variable {all : List En} {last best : ByteArray} {i : Nat} {x : En}
theorem KyI.start : KyI all last ⟨#[]⟩ 0 := ⟨fun _ j x h => by omega, fun h => absurd rfl h⟩
theorem KyI.low (h : KyI all last best i) (hx : all[i]? = some x) (hl : ltS last x.key = false) : KyI all last best (i + 1) := by
  refine ⟨fun h0 j y hj hy => ?_, fun h0 => ⟨(h.yes h0).1, (h.yes h0).2.1, fun j y hj hy hly => ?_⟩⟩
  · by_cases hji : j < i
    · exact h.no h0 j y hji hy
    · obtain rfl : j = i := by omega
      rw [hx] at hy
      exact (Option.some.inj hy) ▸ hl
  · by_cases hji : j < i
    · exact (h.yes h0).2.2 j y hji hy hly
    · obtain rfl : j = i := by omega
      rw [hx] at hy
      rw [← Option.some.inj hy, hl] at hly
      cases hly
theorem KyI.keep (h : KyI all last best i) (hx : all[i]? = some x) (hb : best.size ≠ 0) (hg : ltS x.key best = false) : KyI all last best (i + 1) := by
  refine ⟨fun h0 => absurd h0 hb, fun h0 => ⟨(h.yes h0).1, (h.yes h0).2.1, fun j y hj hy hly => ?_⟩⟩
  by_cases hji : j < i
  · exact (h.yes h0).2.2 j y hji hy hly
  · obtain rfl : j = i := by omega
    rw [hx] at hy
    exact (Option.some.inj hy) ▸ hg
theorem KyI.take (h : KyI all last best i) (hx : all[i]? = some x) (hl : ltS last x.key = true) (hg : best.size = 0 ∨ ltS x.key best = true) : KyI all last x.key (i + 1) := by
  have hxm := List.mem_of_getElem? hx
  refine ⟨fun h0 j y hj hy => ?_, fun h0 => ⟨⟨x, hxm, rfl⟩, hl, fun j y hj hy hly => ?_⟩⟩
  · rw [size_emp h0] at hl
    rcases hb : ltS last ⟨#[]⟩ with _ | _
    · rw [hb] at hl; cases hl
    · have h1 : ltS ⟨#[]⟩ last = false := by
        cases h2 : ltS ⟨#[]⟩ last with
        | false => rfl
        | true => have h3 := ordS.trn h2 hb; rw [ordS.irr] at h3; cases h3
      rw [lt_emp] at h1
      have h2 : last.size = 0 := by simpa using h1
      rw [size_emp h2, ordS.irr] at hb
      cases hb
  · by_cases hji : j < i
    · by_cases hb : best.size = 0
      · rw [h.no hb j y hji hy] at hly; cases hly
      · rcases hg with hg | hg
        · exact absurd hg hb
        · cases h1 : ltS y.key x.key with
          | false => rfl
          | true =>
            have h2 := (h.yes hb).2.2 j y hji hy hly
            rw [ordS.trn h1 hg] at h2
            cases h2
    · obtain rfl : j = i := by omega
      rw [hx] at hy
      rw [← Option.some.inj hy]
      exact ordS.irr _
end
section
variable {X : IX} {all : List En} (hw : X.Wf) (hp : all.Perm X.ents)
include hw hp
theorem ks_all (k : ByteArray) : k ∈ X.ks ↔ ∃ x ∈ all, x.key = k := by
  rw [mem_ks hw]
  constructor
  · intro h
    obtain ⟨x, hx⟩ := List.exists_mem_of_ne_nil _ h
    have h1 := (hw.of_mem k x).1 hx
    exact ⟨x, hp.mem_iff.2 h1.1, h1.2⟩
  · rintro ⟨x, hx, rfl⟩ h
    have h1 := (hw.of_mem x.key x).2 ⟨hp.mem_iff.1 hx, rfl⟩
    rw [h] at h1
    cases h1
theorem ks_size {k : ByteArray} (h : k ∈ X.ks) : k.size ≠ 0 := by
  obtain ⟨x, hx, rfl⟩ := (ks_all hw hp k).1 h
  exact key_ne (hw.valid (hp.mem_iff.1 hx)).1
/-- The last key of the first n; "" if there is none. -/
def lastK (X : IX) (n : Nat) : ByteArray := match n with | 0 => ⟨#[]⟩ | n + 1 => X.ks.getD n ⟨#[]⟩
theorem lastK_lt {n m : Nat} {k : ByteArray} (hn : n ≤ X.ks.length) (hk : X.ks[m]? = some k) : ltS (lastK X n) k = decide (n ≤ m) := by
  have hs := ks_srt hw
  cases n with
  | zero =>
    unfold lastK
    rw [lt_emp, decide_eq_true (ks_size hw hp (List.mem_of_getElem? hk)), decide_eq_true (Nat.zero_le m)]
  | succ n =>
    unfold lastK
    obtain ⟨hm, em⟩ := List.getElem?_eq_some_iff.1 hk
    have hn' : n < X.ks.length := by omega
    simp only [List.getD_eq_getElem?_getD, List.getElem?_eq_getElem hn', Option.getD_some]
    rw [← em]
    rcases Nat.lt_trichotomy n m with h | h | h
    · rw [List.pairwise_iff_getElem.1 hs n m hn' hm h, decide_eq_true (by omega)]
    · subst h
      rw [ordS.irr, decide_eq_false (by omega)]
    · rw [decide_eq_false (by omega)]
      cases h1 : ltS (X.ks[n]'hn') (X.ks[m]'hm) with
      | false => rfl
      | true =>
        have h2 := ordS.trn h1 (List.pairwise_iff_getElem.1 hs m n hm hn' h)
        rw [ordS.irr] at h2
        cases h2
theorem KyI.done {n : Nat} {best : ByteArray} (h : KyI all (lastK X n) best all.length) (hn : n ≤ X.ks.length) (hb : best.size = 0) : n = X.ks.length := by
  rcases Nat.lt_or_ge n X.ks.length with h1 | h1
  · have h2 := List.getElem?_eq_getElem h1
    obtain ⟨x, hx, hk⟩ := (ks_all hw hp _).1 (List.mem_of_getElem? h2)
    obtain ⟨j, hj⟩ := List.mem_iff_getElem?.1 hx
    have h3 := h.no hb j x (List.getElem?_eq_some_iff.1 hj).1 hj
    rw [hk, lastK_lt hw hp hn h2, decide_eq_true (Nat.le_refl n)] at h3
    cases h3
  · omega
theorem KyI.next {n : Nat} {best : ByteArray} (h : KyI all (lastK X n) best all.length) (hn : n ≤ X.ks.length) (hb : best.size ≠ 0) : X.ks[n]? = some best := by
  obtain ⟨⟨x, hx, hk⟩, h1, h2⟩ := h.yes hb
  have hm := (ks_all hw hp best).2 ⟨x, hx, hk⟩
  obtain ⟨m, hm⟩ := List.mem_iff_getElem?.1 hm
  rw [lastK_lt hw hp hn hm] at h1
  have h3 : n ≤ m := of_decide_eq_true h1
  rcases Nat.eq_or_lt_of_le h3 with h4 | h4
  · rw [h4]; exact hm
  · obtain ⟨hml, em⟩ := List.getElem?_eq_some_iff.1 hm
    have hnl : n < X.ks.length := by omega
    have h5 := List.getElem?_eq_getElem hnl
    obtain ⟨y, hy, hky⟩ := (ks_all hw hp _).1 (List.mem_of_getElem? h5)
    obtain ⟨j, hj⟩ := List.mem_iff_getElem?.1 hy
    have h6 := h2 j y (List.getElem?_eq_some_iff.1 hj).1 hj (by rw [hky, lastK_lt hw hp hn h5, decide_eq_true (Nat.le_refl n)])
    rw [hky, ← em, List.pairwise_iff_getElem.1 (ks_srt hw) n m hnl hml h4] at h6
    cases h6
theorem ks_le : X.ks.length ≤ all.length := by
  have h1 := (flatMap_ge X.keys (fun x hx => (hw.k x hx).ne)).1
  rw [hw.v.length_eq] at h1
  rw [hp.length_eq]
  unfold IX.ks IX.ents
  rw [List.length_map]
  exact h1
end
theorem lastK_next {X : IX} {n : Nat} {k : ByteArray} (h : X.ks[n]? = some k) : lastK X (n + 1) = k := by
  unfold lastK
  simp [List.getD_eq_getElem?_getD, h]
theorem ks_take {X : IX} {n : Nat} {k : ByteArray} (h : X.ks[n]? = some k) : X.ks.take (n + 1) = X.ks.take n ++ [k] := by
  rw [List.take_add_one, h]; rfl
end Go.Proofs.Ytmdfickejpeofaa
