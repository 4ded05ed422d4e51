/- What the map of an index is, as a sorted list of keys; KeydirDrops in plain Lean. No walk. -/
import Derived.Test.YtmdfickejpeofaaGreatBd18
import Derived.Test.YtmdfickejpeofaaGreatBd19
import Derived.Test.YtmdfickejpeofaaGreatBd17
import Derived.Test.YtmdfickejpeofaaGreatBd14
import Derived.Test.YtmdfickejpeofaaGreatBd2
import Derived.Deep.Slices
import Derived.Deep.Fields
import Derived.ChangeSame
import Derived.ChangeArms
import Derived.OpenShut
import Derived.ShutString
import Derived.ChangeOld
import Derived.Lib.SmallJoins
import Derived.Test.YtmdfickejpeofaaGreatBd6
set_option linter.unusedVariables false
set_option linter.unusedSimpArgs false
namespace Go.Proofs.YtmdfickejpeofaaGreat

section
variable {X : IX}
theorem mem_ks (h : X.Wf) (k : ByteArray) : k ∈ X.ks ↔ X.of k ≠ [] := by
  constructor
  · intro hk
    obtain ⟨x, hx, rfl⟩ := List.mem_map.1 hk
    unfold IX.of
    rw [(look_mem ordS h.k0 x.1 x.2).2 hx]
    exact (h.k x hx).ne
  · intro hk
    unfold IX.of at hk
    cases hl : look ltS X.keys k with
    | none => rw [hl] at hk; exact absurd rfl hk
    | some l => exact List.mem_map.2 ⟨(k, l), (look_mem ordS h.k0 k l).1 hl, rfl⟩
theorem ks_srt (h : X.Wf) : X.ks.Pairwise (fun a b => ltS a b = true) := List.pairwise_map.2 h.k0
theorem findE_ne {k : ByteArray} (h : (findE X k).isSome = true) : X.of k ≠ [] := fun h0 => by
  unfold findE at h
  rw [h0] at h
  cases h
/-- The keys of the map: those of the index that are found. -/
def lvK (X : IX) : List ByteArray := X.ks.filter (fun k => (findE X k).isSome)
def szK (X : IX) (k : ByteArray) : Int := ((findE X k).getD zE).size
theorem lvF_fst (l : List ByteArray) : (lvF X l).map (fun x => x.1) = l.filter (fun k => (findE X k).isSome) ∧ (lvF X l).map (fun x => x.2.size) = (l.filter (fun k => (findE X k).isSome)).map (szK X) := by
  induction l with
  | nil => exact ⟨rfl, rfl⟩
  | cons k l ih =>
    unfold lvF at *
    rw [List.filterMap_cons, List.filter_cons]
    cases hf : findE X k with
    | none => simpa using ih
    | some e =>
      simp only [Option.map_some, Option.isSome_some, if_true, List.map_cons]
      refine ⟨by rw [ih.1], ?_⟩
      rw [ih.2]
      congr 1
      unfold szK
      rw [hf]
      rfl
theorem live_keys : (liveL X).map (fun x => x.1) = lvK X := (lvF_fst X.ks).1
theorem sumF_map (f : En → Int) : ∀ l : List (ByteArray × En), sumF f l = (l.map (fun x => f x.2)).sum := by
  have h : ∀ (l : List (ByteArray × En)) (a : Int), l.foldl (fun a x => a + f x.2) a = a + (l.map (fun x => f x.2)).sum := by
    intro l
    induction l with
    | nil => intro a; simp
    | cons x l ih => intro a; rw [List.foldl_cons, ih, List.map_cons, List.sum_cons]; omega
  intro l
  have := h l 0
  unfold sumF
  omega
theorem live_size : sumF (fun e => e.size) (liveL X) = ((lvK X).map (szK X)).sum := by
  rw [sumF_map, show ((liveL X).map (fun x => x.2.size)) = (lvK X).map (szK X) from (lvF_fst X.ks).2]
theorem lvK_mem (h : X.Wf) (k : ByteArray) : k ∈ lvK X ↔ (findE X k).isSome = true := by
  unfold lvK
  rw [List.mem_filter, mem_ks h]
  exact ⟨fun h => h.2, fun h2 => ⟨findE_ne h2, h2⟩⟩
theorem lvK_srt (h : X.Wf) : (lvK X).Pairwise (fun a b => ltS a b = true) := (ks_srt h).sublist List.filter_sublist
theorem keys_eq {l m : List ByteArray} (hl : l.Pairwise (fun a b => ltS a b = true)) (hm : m.Pairwise (fun a b => ltS a b = true)) (h : ∀ x, x ∈ l ↔ x ∈ m) : l = m :=
  pair_eq (R := fun a b => ltS a b = true) (fun a => by rw [ordS.irr]; decide) (fun a b c h1 h2 => ordS.trn h1 h2) hl hm h
end
/-- Each entry of the slot is shadowed, or has a copy elsewhere. -/
def okD (X : IX) (all : List En) (s : Int) (e : En) : Bool := decide (e.seq < ((X.of e.key).headD zE).seq) || all.any (fun o => !decide (o.slot = s) && decide (o.key = e.key) && decide (o.seq = e.seq))
section
variable {X : IX} {all : List En} {en : Int → Int} {n : Int}
theorem drop_find (h : FG X all en n) {s : Int} (hk : ∀ e ∈ all, e.slot = s → okD X all s e = true) (k : ByteArray) : (findE (dropX X s) k).isSome = (findE X k).isSome ∧ szK (dropX X s) k = szK X k := by
  have hof := drop_of h.wf s k
  have hp := h.wf.ofPair k
  have hall := h.of k
  unfold szK
  cases hl : X.of k with
  | nil =>
    rw [hl, List.filter_nil] at hof
    unfold findE
    rw [hof, hl]
    exact ⟨rfl, rfl⟩
  | cons y t =>
    rw [hl] at hof hp hall
    have hy := (hall y).1 (List.mem_cons_self ..)
    rw [List.filter_cons] at hof
    by_cases hs : y.slot = s
    · rw [if_neg (by simp [hs])] at hof
      have h1 := hk y hy.1 hs
      unfold okD at h1
      rw [hy.2, hl, List.headD_cons, decide_eq_false (Int.lt_irrefl _), Bool.false_or] at h1
      obtain ⟨o, ho, h2⟩ := List.any_eq_true.1 h1
      simp only [Bool.and_eq_true, Bool.not_eq_true', decide_eq_false_iff_not, decide_eq_true_eq] at h2
      have h3 : o ∈ t.filter (fun o => decide (o.slot ≠ s)) := by
        refine List.mem_filter.2 ⟨?_, decide_eq_true h2.1.1⟩
        rcases List.mem_cons.1 ((hall o).2 ⟨ho, h2.1.2⟩) with h4 | h4
        · rw [h4] at h2; exact absurd hs h2.1.1
        · exact h4
      cases hf : t.filter (fun o => decide (o.slot ≠ s)) with
      | nil => rw [hf] at h3; cases h3
      | cons z u =>
        rw [hf] at h3 hof
        have hz : z ∈ t := (List.mem_filter.1 (show z ∈ t.filter (fun o => decide (o.slot ≠ s)) by rw [hf]; exact List.mem_cons_self ..)).1
        have hyz : ltE y z = true := (List.pairwise_cons.1 hp).1 z hz
        have hza := (hall z).1 (List.mem_cons_of_mem _ hz)
        have hpt : (z :: u).Pairwise (fun a b => ltE a b = true) := by rw [← hf]; exact (List.pairwise_cons.1 hp).2.sublist List.filter_sublist
        have hq : z.seq = y.seq := by
          unfold ltE at hyz
          have h5 := of_decide_eq_true hyz
          rcases List.mem_cons.1 h3 with h4 | h4
          · rw [← h4]; exact h2.2
          · have h6 := (List.pairwise_cons.1 hpt).1 o h4
            unfold ltE at h6
            have h7 := of_decide_eq_true h6
            omega
        obtain ⟨c1, c2, c3⟩ := h.cp z hza.1 y hy.1 hq
        unfold findE
        rw [hof, hl]
        simp only
        rw [c2]
        cases y.del
        · exact ⟨rfl, c3⟩
        · exact ⟨rfl, rfl⟩
    · rw [if_pos (by simp [hs])] at hof
      unfold findE
      rw [hof, hl]
      exact ⟨rfl, rfl⟩
theorem drop_live (h : FG X all en n) {s : Int} (hk : ∀ e ∈ all, e.slot = s → okD X all s e = true) : lvK (dropX X s) = lvK X ∧ sumF (fun e => e.size) (liveL (dropX X s)) = sumF (fun e => e.size) (liveL X) := by
  have hw := drop_wf h.wf s
  have e1 : lvK (dropX X s) = lvK X := keys_eq (lvK_srt hw) (lvK_srt h.wf) (fun k => by rw [lvK_mem hw, lvK_mem h.wf, (drop_find h hk k).1])
  refine ⟨e1, ?_⟩
  rw [live_size, live_size, e1]
  congr 1
  exact List.map_congr_left (fun k _ => (drop_find h hk k).2)
end
end Go.Proofs.YtmdfickejpeofaaGreat

/- The map of an index by its numbers; LivenessKeeps in plain Lean. No walk. -/
set_option linter.unusedVariables false
set_option linter.unusedSimpArgs false
namespace Go.Proofs.YtmdfickejpeofaaGreat

def livF (X : IX) (l : List ByteArray) : List (ByteArray × Int) := l.filterMap (fun k => (findE X k).map (fun e => (k, e.seq)))
def liveM (X : IX) : List (ByteArray × Int) := livF X X.ks
theorem livF_none {X : IX} {l : List ByteArray} {k : ByteArray} (h : findE X k = none) : livF X (l ++ [k]) = livF X l := by simp [livF, h]
theorem livF_some {X : IX} {l : List ByteArray} {k : ByteArray} {e : En} (h : findE X k = some e) : livF X (l ++ [k]) = livF X l ++ [(k, e.seq)] := by simp [livF, h]
theorem livF_srt {X : IX} {l : List ByteArray} (h : l.Pairwise (fun a b => ltS a b = true)) : Srt ltS (livF X l) := by
  refine List.pairwise_filterMap.2 (h.imp (fun {a b} hab x hx y hy => ?_))
  obtain ⟨e, _, rfl⟩ := Option.map_eq_some_iff.1 hx
  obtain ⟨e', _, rfl⟩ := Option.map_eq_some_iff.1 hy
  exact hab
def seqK (X : IX) (k : ByteArray) : Option Int := (findE X k).map (fun e => e.seq)
theorem livF_map (X : IX) (l : List ByteArray) : livF X l = (l.filter (fun k => (findE X k).isSome)).map (fun k => (k, (seqK X k).getD 0)) := by
  induction l with
  | nil => rfl
  | cons k l ih =>
    unfold livF seqK at *
    rw [List.filterMap_cons, List.filter_cons]
    cases hf : findE X k with
    | none => simpa using ih
    | some e =>
      simp only [Option.map_some, Option.isSome_some, if_true, List.map_cons, hf, Option.getD_some]
      rw [ih]
theorem liveM_eq {X Y : IX} (hX : X.Wf) (hY : Y.Wf) (h : ∀ k, seqK Y k = seqK X k) : liveM Y = liveM X := by
  have hs : ∀ k, (findE Y k).isSome = (findE X k).isSome := fun k => by
    have := congrArg Option.isSome (h k)
    unfold seqK at this
    simpa using this
  have e1 : lvK Y = lvK X := keys_eq (lvK_srt hY) (lvK_srt hX) (fun k => by rw [lvK_mem hY, lvK_mem hX, hs k])
  unfold liveM
  rw [livF_map, livF_map, show Y.ks.filter (fun k => (findE Y k).isSome) = lvK Y from rfl, e1]
  exact List.map_congr_left (fun k _ => by rw [h k])
/-- What is newest of a key, and what is left of it where a slot of no needed entries is gone. -/
theorem drop_seqK {X : IX} (h : X.Wf) {s : Int} (hk : ∀ e ∈ X.slot s, X.needs e = false) (k : ByteArray) : seqK (dropX X s) k = seqK X k := by
  have hof := drop_of h s k
  have hp := h.ofPair k
  have hall := h.of_mem k
  unfold seqK
  cases hl : X.of k with
  | nil =>
    rw [hl, List.filter_nil] at hof
    unfold findE
    rw [hof, hl]
  | cons y t =>
    rw [hl] at hof hp hall
    have hy := (hall y).1 (List.mem_cons_self ..)
    rw [List.filter_cons] at hof
    by_cases hs : y.slot = s
    · rw [if_neg (by simp [hs])] at hof
      have h1 := hk y ((h.slot_mem s y).2 ⟨hy.1, hs⟩)
      unfold IX.needs at h1
      rw [hy.2, hl] at h1
      have hd1 : ∀ z ∈ t, z.seq < y.seq ∨ z.seq = y.seq := fun z hz => by
        have := (List.pairwise_cons.1 hp).1 z hz
        unfold ltE at this
        have := of_decide_eq_true this
        omega
      have n1 : ¬ (y :: t).any (nd1 y) = true := by
        rw [List.any_eq_true]
        rintro ⟨z, hz, h2⟩
        have h3 : y.seq < z.seq := of_decide_eq_true h2
        rcases List.mem_cons.1 hz with rfl | hz
        · omega
        · have := hd1 z hz; omega
      rw [if_neg n1] at h1
      by_cases n2 : (y :: t).any (nd2 y) = true
      · obtain ⟨o, ho, h2⟩ := List.any_eq_true.1 n2
        have h2 : o.seq = y.seq ∧ o.slot ≠ y.slot := of_decide_eq_true h2
        have ht : o ∈ t := by
          rcases List.mem_cons.1 ho with rfl | h4
          · exact absurd rfl h2.2
          · exact h4
        have h3 : o ∈ t.filter (fun o => decide (o.slot ≠ s)) := List.mem_filter.2 ⟨ht, decide_eq_true (fun h => h2.2 (h.trans hs.symm))⟩
        cases hf : t.filter (fun o => decide (o.slot ≠ s)) with
        | nil => rw [hf] at h3; cases h3
        | cons z u =>
          rw [hf] at h3 hof
          have hz : z ∈ t := (List.mem_filter.1 (show z ∈ t.filter (fun o => decide (o.slot ≠ s)) by rw [hf]; exact List.mem_cons_self ..)).1
          have hza := (hall z).1 (List.mem_cons_of_mem _ hz)
          have hpt : (z :: u).Pairwise (fun a b => ltE a b = true) := by rw [← hf]; exact (List.pairwise_cons.1 hp).2.sublist List.filter_sublist
          have hq : z.seq = y.seq := by
            have h5 := hd1 z hz
            rcases List.mem_cons.1 h3 with h4 | h4
            · rw [← h4]; exact h2.1
            · have h6 := (List.pairwise_cons.1 hpt).1 o h4
              unfold ltE at h6
              have h7 := of_decide_eq_true h6
              omega
          have hc := h.c z hza.1 y hy.1 (hza.2.trans hy.2.symm) hq
          unfold findE
          rw [hof, hl]
          simp only
          rw [hc.1]
          cases y.del
          · exact congrArg some hq
          · rfl
      · rw [if_neg n2] at h1
        have hdel : y.del = true := by
          cases hd : y.del
          · rw [hd, if_pos rfl] at h1; cases h1
          · rfl
        rw [hdel, if_neg (by decide)] at h1
        have hnil : t.filter (fun o => decide (o.slot ≠ s)) = [] := by
          refine List.filter_eq_nil_iff.2 (fun z hz hzs => ?_)
          have hzs : z.slot ≠ s := of_decide_eq_true hzs
          have hzy : z.slot ≠ y.slot := fun e => hzs (e.trans hs)
          rcases hd1 z hz with h5 | h5
          · have : (y :: t).any (nd3 y) = true := List.any_eq_true.2 ⟨z, List.mem_cons_of_mem _ hz, decide_eq_true ⟨h5, hzy⟩⟩
            rw [this] at h1
            cases h1
          · exact n2 (List.any_eq_true.2 ⟨z, List.mem_cons_of_mem _ hz, decide_eq_true ⟨h5, hzy⟩⟩)
        rw [hnil] at hof
        unfold findE
        rw [hof, hl]
        simp only
        rw [hdel]
        rfl
    · rw [if_pos (by simp [hs])] at hof
      unfold findE
      rw [hof, hl]
theorem drop_liveM {X : IX} (h : X.Wf) {s : Int} (hk : ∀ e ∈ X.slot s, X.needs e = false) : liveM (dropX X s) = liveM X := liveM_eq h (drop_wf h s) (drop_seqK h hk)
theorem drop_len (X : IX) (s : Int) : (dropX X s).slots.length = X.slots.length := by
  unfold dropX
  split
  · simp
  · rfl
/-- An index of six slots, of which the last has no entries. -/
structure KI (X : IX) (m : List (ByteArray × Int)) : Prop where
  wf : X.Wf
  ln : X.slots.length = 6
  e5 : X.slot 5 = []
  lv : liveM X = m
def redS (X : IX) (s : Int) : Bool := decide (keepC X s = 0 ∧ keepL X s = [])
def freeL (X : IX) (n : Nat) : List Int := ((List.range n).map (fun i : Nat => (i : Int))).filter (redS X)
section
variable {X : IX} {m : List (ByteArray × Int)}
theorem KI.ne (h : KI X m) : X.slots ≠ [] := fun h0 => by have := h.ln; rw [h0] at this; cases this
theorem KI.code (h : KI X m) {s : Nat} (hs : s < 6) : keepC X s = 0 := by
  unfold keepC
  rw [if_neg h.ne, if_neg]
  unfold IX.has
  rw [h.ln]
  simp
  omega
theorem KI.dcode (h : KI X m) {s : Nat} (hs : s < 6) : dropC X s = 0 := by
  have := h.ne
  unfold dropC
  simp [IX.has, h.ln, this]
  omega
theorem KI.red5 (h : KI X m) : redS X 5 = true := decide_eq_true ⟨h.code (s := 5) (by omega), by unfold keepL; rw [h.e5]; rfl⟩
theorem KI.drop (h : KI X m) {s : Int} (hs : redS X s = true) : KI (dropX X s) m := by
  have h1 := (of_decide_eq_true hs).2
  refine ⟨drop_wf h.wf s, by rw [drop_len, h.ln], ?_, ?_⟩
  · rw [drop_slot h.wf]; split
    · rfl
    · exact h.e5
  · rw [drop_liveM h.wf, h.lv]
    intro e he
    cases hn : X.needs e with
    | false => rfl
    | true =>
      have : e ∈ keepL X s := List.mem_filter.2 ⟨he, hn⟩
      rw [h1] at this
      cases this
theorem free_succ (X : IX) (n : Nat) : freeL X (n + 1) = freeL X n ++ (if redS X n = true then [(n : Int)] else []) := by
  unfold freeL
  rw [List.range_succ, List.map_append, List.filter_append]
  simp only [List.map_cons, List.map_nil, List.filter_cons, List.filter_nil]
theorem free_le (X : IX) (n : Nat) : (freeL X n).length ≤ n := by
  unfold freeL
  have := List.length_filter_le (redS X) ((List.range n).map (fun i : Nat => (i : Int)))
  simpa using this
theorem free_red {X : IX} {n : Nat} {s : Int} (h : s ∈ freeL X n) : redS X s = true ∧ 0 ≤ s ∧ s < n := by
  have h1 := List.mem_filter.1 h
  obtain ⟨i, hi, rfl⟩ := List.mem_map.1 h1.1
  have := List.mem_range.1 hi
  exact ⟨h1.2, by omega, by omega⟩
theorem KI.last (h : KI X m) : ∃ l, freeL X 6 = l ++ [5] := by
  refine ⟨freeL X 5, ?_⟩
  rw [free_succ, if_pos]
  · rfl
  · exact h.red5
end
theorem build_KI {st : LS} {j : Nat} (h : st.Ok j) (h5 : ∀ e ∈ st.all, e.slot < 5) : KI st.X (liveM st.X) := by
  refine ⟨h.g.wf, by have := h.g.ln; omega, ?_, rfl⟩
  cases hl : st.X.slot 5 with
  | nil => rfl
  | cons e t =>
    have h1 := (h.g.slot 5 e).1 (by rw [hl]; simp)
    have := h5 e h1.1
    omega
end Go.Proofs.YtmdfickejpeofaaGreat

/- Both indexes side by side: Drop; blocks beside them that turn or are new. -/
set_option linter.unusedVariables false
set_option linter.unusedSimpArgs false
namespace Go.Proofs.YtmdfickejpeofaaGreat
open Go.RowKit Go.Shelf
attribute [local go_sem] OvM cell_ovm obj_ovm
attribute [local go_sem] Oper.semAt_some

section
variable {w0 w w' : World} {p q : Option Addr} {X : IX} {all : List En} {R : List Asn}
theorem PX.put {b i : Nat} {o o' : Obj} (h : PX w0 p q X all R w) (hi : R[i]? = some (blkA b o)) (m : Mdh (fun k => k = b) w w') (hb : w'.heap[b]? = some o') : PX w0 p q X all (R.set i (blkA b o')) w' := by
  rcases h with ⟨h1, h2, h3, h4, h5⟩ | ⟨c, rb, S, v, h1, h2, h3, h4⟩
  · exact .inl ⟨h1, h2, h3, h4, h5.at hi m (fun k hk => .inl hk) (B := blkA b o') hb (fun k hk => .inl hk)⟩
  · exact .inr ⟨c, rb, S, v, h1, h2, h3, h4.at (i := i + 3) hi m (fun k hk => .inl hk) (B := blkA b o') hb (fun k hk => .inl hk)⟩
theorem PX.add {b : Nat} {o : Obj} (h : PX w0 p q X all R w) (g : Gr w w') (hb : w'.heap[b]? = some o) (hn : w.heap.size ≤ b) : PX w0 p q X all (blkA b o :: R) w' := by
  rcases h with ⟨h1, h2, h3, h4, h5⟩ | ⟨c, rb, S, v, h1, h2, h3, h4⟩
  · exact .inl ⟨h1, h2, h3, h4, h5.new g (A := blkA b o) hb (fun k hk => by rw [show k = b from hk]; exact hn)⟩
  · refine .inr ⟨c, rb, S, v, h1, h2, h3, ?_⟩
    have h6 := h4.new g (A := blkA b o) hb (fun k hk => by rw [show k = b from hk]; exact hn)
    exact ((h6.pick (i := 3) rfl).pick (i := 3) rfl).pick (i := 3) rfl
theorem PX.sub {R' : List Asn} (h : PX w0 p q X all R w) (hs : R'.Sublist R) : PX w0 p q X all R' w := by
  rcases h with ⟨h1, h2, h3, h4, h5⟩ | ⟨c, rb, S, v, h1, h2, h3, h4⟩
  · exact .inl ⟨h1, h2, h3, h4, h5.sub hs⟩
  · exact .inr ⟨c, rb, S, v, h1, h2, h3, h4.sub (.cons_cons _ (.cons_cons _ (.cons_cons _ hs)))⟩
end
def dcX (X : IX) (s : Int) : Int := if X.slots = [] then 1 else dropC X s
def alD (X : IX) (all : List En) (s : Int) : List En := if X.has s = true then all.filter (nsP s) else all
theorem alD_len (X : IX) (all : List En) (s : Int) : (alD X all s).length ≤ all.length := by
  unfold alD
  split
  · exact List.length_filter_le _ _
  · exact Nat.le_refl _
theorem drop_nil (X : IX) (s : Int) : (dropX X s).slots = [] ↔ X.slots = [] := by
  rw [← List.length_eq_zero_iff, ← List.length_eq_zero_iff, drop_len]
theorem drop_of_nil {s : Int} : dropX ⟨[], []⟩ s = ⟨[], []⟩ := by
  have h : (⟨[], []⟩ : IX).has s = false := by simp [IX.has]
  exact drop_no h
theorem slot_of_nil (s : Int) : (⟨[], []⟩ : IX).slot s = [] := slot_no0 s
theorem RelX.dropA {X : IX} {all : List En} (h : RelX X all) (s : Int) : RelX (dropX X s) (alD X all s) := by
  unfold alD
  cases hh : X.has s with
  | true => rw [if_pos rfl]; exact (h.drop hh).2
  | false => rw [if_neg (by decide), drop_no hh]; exact h
theorem pDrop {w0 w : World} {p q : Option Addr} {X : IX} {all : List En} {R : List Asn} (h : PX w0 p q X all R w) (s : Int) :
    Calls Tryz.prog 46 #[.pointer p, .int .i64 s] w fun r w' => r = .returned (.tuple #[.int .i64 (X.slot s).length, .int .i64 (dcX X s)]) ∧ PX w0 p q (dropX X s) all R w' ∧ Mdh (fun k => w0.heap.size ≤ k) w w' := by
  rcases h with ⟨rfl, rfl, rfl, rfl, h5⟩ | ⟨b, rb, S, v, rfl, rfl, h3, h4⟩
  · refine (DropN (.inl rfl) s).mono ?_
    rintro r w' ⟨rfl, hg⟩
    exact ⟨by rw [slot_of_nil]; rfl, .inl ⟨rfl, rfl, drop_of_nil, rfl, h5.gr hg⟩, hg.mdh _⟩
  · refine (Drop_any h4.ix s).mono ?_
    rintro r w' ⟨rfl, hp⟩
    obtain ⟨S', h6⟩ := h4.post hp
    obtain ⟨_, _, hm, _⟩ := hp
    refine ⟨by unfold dcX; rw [if_neg h3], .inr ⟨b, rb, S', v, rfl, rfl, fun h0 => h3 ((drop_nil X s).1 h0), ?_⟩, hm.mono (fun k hk => h4.n (ixA b X S) (List.mem_cons_self ..) k hk)⟩
    show SW w0 (ixA b (dropX X s) S' :: blkA rb (rmO (dropX X s).slots.length v) :: rowA 56 6 v all.length (rowE all) :: R) w'
    rw [drop_len]
    exact h6
theorem rDropN (s : Int) (w : World) : Calls Tryz.prog 47 #[.pointer none, .int .i64 s] w fun r w' => r = .returned (.tuple #[.int .i64 0, .int .i64 1]) ∧ w = w' := by
  go_enter Tryz.func47, Tryz.ntmps47
  go_wp2_with (go_at_call 71; refine Calls.mono (rvalid_no _) ?_; rintro e w1 ⟨rfl, rfl⟩)
  go_ret2
  exact ⟨rfl, rfl⟩
theorem rDrop_bad {w : World} {rb : Nat} {N : Int} {v : Value} (h : w.heap[rb]? = some (rmO N v)) (hN : 0 < N) (s : Int) (hs : s < 0 ∨ N ≤ s) :
    Calls Tryz.prog 47 #[.pointer (some ⟨rb, 0, none⟩), .int .i64 s] w fun r w' => r = .returned (.tuple #[.int .i64 0, .int .i64 3]) ∧ w = w' := by
  have HV := Lib.hid (rvalid h hN)
  have c0 := ((cellsOf h).1 0).trans (show _ = some (Value.int .i64 N) from rfl)
  clear h
  by_cases h0 : s < 0
  · clear hs
    go_enter Tryz.func47, Tryz.ntmps47
    go_wp2_with (go_at_call 71; refine Calls.mono HV.out ?_; rintro e w1 ⟨rfl, rfl⟩)
    go_ret2
    exact ⟨rfl, rfl⟩
  · have h1 : N ≤ s := by omega
    clear hs
    go_enter Tryz.func47, Tryz.ntmps47
    go_wp2_with (go_at_call 71; refine Calls.mono HV.out ?_; rintro e w1 ⟨rfl, rfl⟩)
    go_ret2
    exact ⟨rfl, rfl⟩
theorem pDropR {w0 w : World} {p q : Option Addr} {X : IX} {all : List En} {R : List Asn} {s : Int} (h : PX w0 p q (dropX X s) all R w) (hr : RelX X all) (hn : all.length ≤ 200) :
    Calls Tryz.prog 47 #[.pointer q, .int .i64 s] w fun r w' => r = .returned (.tuple #[.int .i64 (X.slot s).length, .int .i64 (dcX X s)]) ∧ PX w0 p q (dropX X s) (alD X all s) R w' := by
  rcases h with ⟨rfl, rfl, h0, rfl, h5⟩ | ⟨b, rb, S, v, rfl, rfl, h3, h4⟩
  · have hs : X.slots = [] := (drop_nil X s).1 (by rw [h0])
    have hX := hr.no hs
    refine (rDropN s w).mono ?_
    rintro r w' ⟨rfl, rfl⟩
    refine ⟨by rw [hX, slot_of_nil]; rfl, .inl ⟨rfl, rfl, h0, ?_, h5⟩⟩
    unfold alD
    split <;> rfl
  · have hs : X.slots ≠ [] := fun h0 => h3 ((drop_nil X s).2 h0)
    have hp := List.length_pos_iff.2 hs
    cases hh : X.has s with
    | false =>
      have hb : s < 0 ∨ (X.slots.length : Int) ≤ s := by
        have h1 : ¬ (0 ≤ s ∧ s < (X.slots.length : Int)) := by simpa [IX.has] using hh
        omega
      have hrm : w.heap[rb]? = some (rmO (X.slots.length : Int) v) := by
        have := h4.get (i := 1) rfl
        rw [← drop_len X s]
        exact this
      refine (rDrop_bad hrm (by omega) s hb).mono ?_
      rintro r w' ⟨rfl, rfl⟩
      refine ⟨?_, .inr ⟨b, rb, S, v, rfl, rfl, h3, ?_⟩⟩
      · rw [slot_out hh]
        unfold dcX dropC
        rw [if_neg hs, hh]
        rfl
      · unfold alD
        rw [hh, if_neg (by decide)]
        exact h4
    | true =>
      obtain ⟨hs0, hs1⟩ : 0 ≤ s ∧ s < (X.slots.length : Int) := by simpa [IX.has] using hh
      have h6 := (h4.pick (i := 1) rfl).pick (i := 2) rfl
      have h7 : SW w0 (rIx rb X.slots.length v all (ixA b (dropX X s) S :: R)) w := by
        have := h6.pick (i := 1) rfl
        rw [← drop_len X s]
        exact this
      have hlen := (hr.drop hh).1
      refine (rDrop h7 s hs0 hs1 hn).mono ?_
      rintro r w' ⟨rfl, v', h8⟩
      refine ⟨?_, .inr ⟨b, rb, S, v', rfl, rfl, h3, ?_⟩⟩
      · have h9 : ((all.length : Int) - ((all.filter (nsP s)).length : Int)) = ((X.slot s).length : Int) := by omega
        rw [h9]
        unfold dcX dropC
        rw [if_neg hs, hh]
        rfl
      · have h9 := h8.pick (i := 2) rfl
        show SW w0 (ixA b (dropX X s) S :: blkA rb (rmO (dropX X s).slots.length v') :: rowA 56 6 v' (alD X all s).length (rowE (alD X all s)) :: R) w'
        unfold alD
        rw [hh, if_pos rfl, drop_len]
        exact h9
theorem pAddS {w0 w : World} {p q : Option Addr} {X : IX} {all : List En} {R : List Asn} (h : PX w0 p q X all R w) (e : En) (hB : En64 e) :
    Calls Tryz.prog 44 #[.pointer p, enV e] w fun r w' => r = .returned (.int .i64 (addE X e)) ∧ PX w0 p q (addX X e) all R w' ∧ Mdh (fun k => ∀ A ∈ R, ¬ A.S k) w w' := by
  rcases h with ⟨rfl, rfl, rfl, rfl, h5⟩ | ⟨b, rb, S, v, rfl, rfl, h3, h4⟩
  · refine (AddN (.inl rfl) e).mono ?_
    rintro r w' ⟨rfl, hg⟩
    exact ⟨rfl, .inl ⟨rfl, rfl, rfl, rfl, h5.gr hg⟩, hg.mdh _⟩
  · refine (Add_all h4.ix e hB).mono ?_
    rintro r w' ⟨rfl, hp⟩
    obtain ⟨S', h6⟩ := h4.post hp
    obtain ⟨_, _, hm, _⟩ := hp
    refine ⟨rfl, .inr ⟨b, rb, S', v, rfl, rfl, fun h0 => h3 (addX_nil.1 h0), ?_⟩, hm.mono (fun k hk A hA => h4.s.dis A (List.mem_cons_of_mem _ (List.mem_cons_of_mem _ hA)) k hk)⟩
    show SW w0 (ixA b (addX X e) S' :: blkA rb (rmO (addX X e).slots.length v) :: rowA 56 6 v all.length (rowE all) :: R) w'
    rw [addX_slots]
    exact h6
theorem pAddRS {w0 w : World} {p q : Option Addr} {X : IX} {all : List En} {R : List Asn} {e : En} (h : PX w0 p q (addX X e) all R w) (hr : RelX X all) (hk : e.key.size ≤ 10000) (hn : all.length ≤ 200) :
    Calls Tryz.prog 45 #[.pointer q, enV e] w fun r w' => r = .returned (.int .i64 (addE X e)) ∧ PX w0 p q (addX X e) (alX X all e) R w' ∧ Mdh (fun k => ∀ A ∈ R, ¬ A.S k) w w' := by
  rcases h with ⟨rfl, rfl, h0, rfl, h5⟩ | ⟨b, rb, S, v, rfl, rfl, h3, h4⟩
  · have hs : X.slots = [] := addX_nil.1 (by rw [h0])
    have hE : addE X e = 1 := by rw [hr.no hs, add_nil]
    refine (rAddN e w).mono ?_
    rintro r w' ⟨rfl, hg⟩
    exact ⟨by rw [hE], .inl ⟨rfl, rfl, h0, by unfold alX; rw [if_neg (by rw [hE]; decide)], h5.gr hg⟩, hg.mdh _⟩
  · have hs : X.slots ≠ [] := fun h0 => h3 (addX_nil.2 h0)
    have hp := List.length_pos_iff.2 hs
    have h4' := h4.pick (i := 1) rfl
    have h6 := h4'.pick (i := 2) rfl
    have h7 : SW w0 (rIx rb X.slots.length v all (ixA b (addX X e) S :: R)) w := by
      have := h6.pick (i := 1) rfl
      rw [← addX_slots X e]
      exact this
    have hd : ∀ A ∈ R, ¬ A.S rb := fun A hA => h7.s.dis A (List.mem_cons_of_mem _ (List.mem_cons_of_mem _ hA)) rb rfl
    refine (rAdd e h7 (by omega) hr.rows (by omega) hn).mono ?_
    rintro r w' ⟨rfl, hm, v', h8⟩
    rw [hr.codes hs, hr.lists hs] at *
    refine ⟨rfl, .inr ⟨b, rb, S, v', rfl, rfl, h3, ?_⟩, hm.mono (fun k hk => by rw [hk]; exact hd)⟩
    have h9 := h8.pick (i := 2) rfl
    show SW w0 (ixA b (addX X e) S :: blkA rb (rmO (addX X e).slots.length v') :: rowA 56 6 v' (alX X all e).length (rowE (alX X all e)) :: R) w'
    rw [addX_slots]
    exact h9
end Go.Proofs.YtmdfickejpeofaaGreat

/- drumlinref28's cursor. -/
set_option linter.unusedVariables false
set_option linter.unusedSimpArgs false
namespace Go.Proofs.YtmdfickejpeofaaGreat
open Go.RowKit Go.Shelf
attribute [local go_sem] OvM cell_ovm obj_ovm
attribute [local go_sem] Oper.semAt_some

def rcO (c : Cu) : Obj := .cells #[.bool true, .bool c.has, .int .i64 c.slot, .int .i64 c.off] 142
theorem rcC {w : World} {b : Nat} {c : Cu} (h : w.heap[b]? = some (rcO c)) : w.cell? ⟨b, 0, none⟩ = some (.bool true) ∧ w.cell? ⟨b, 1, none⟩ = some (.bool c.has) ∧ w.cell? ⟨b, 2, none⟩ = some (.int .i64 c.slot) ∧ w.cell? ⟨b, 3, none⟩ = some (.int .i64 c.off) ∧ ∀ j, w.frozen? ⟨b, j, none⟩ = false := by
  obtain ⟨h1, h2⟩ := cellsOf h
  exact ⟨(h1 0).trans rfl, (h1 1).trans rfl, (h1 2).trans rfl, (h1 3).trans rfl, h2⟩
theorem rc3 {w : World} {b : Nat} {c c' : Cu} (h : w.heap[b]? = some (rcO c)) : (((w.setCell ⟨b, 1, none⟩ (.bool c'.has)).setCell ⟨b, 2, none⟩ (.int .i64 c'.slot)).setCell ⟨b, 3, none⟩ (.int .i64 c'.off)).heap[b]? = some (rcO c') :=
  blkSet (j := 3) (blkSet (j := 2) (blkSet (j := 1) h))
theorem rcM {w : World} {b : Nat} (x y z : Value) : Mdh (fun k => k = b) w (((w.setCell ⟨b, 1, none⟩ x).setCell ⟨b, 2, none⟩ y).setCell ⟨b, 3, none⟩ z) :=
  (((Mdh.refl (fun k => k = b) w).setCell (p := ⟨b, 1, none⟩) rfl _).setCell (p := ⟨b, 2, none⟩) rfl _).setCell (p := ⟨b, 3, none⟩) rfl _
set_option maxRecDepth 40000 in
theorem rcValid {w : World} {b : Nat} {c : Cu} (h : w.heap[b]? = some (rcO c)) : Calls Tryz.prog 87 #[.pointer (some ⟨b, 0, none⟩)] w fun e w' => e = .returned (.bool true) ∧ w = w' := by
  obtain ⟨c0, c1, c2, c3, _⟩ := rcC h
  clear h
  go_enter Tryz.func87, Tryz.ntmps87
  go_wp2
  go_ret
  exact ⟨rfl, rfl⟩
set_option maxRecDepth 40000 in
theorem rcNew (w : World) : Calls Tryz.prog 35 #[] w fun e w' => e = .returned (.pointer (some ⟨w.heap.size, 0, none⟩)) ∧ w' = w.alloc (rcO ⟨false, 0, 0⟩) := by
  go_enter Tryz.func35, Tryz.ntmps35
  go_wp2
  go_ret
  exact ⟨rfl, rfl⟩
set_option maxRecDepth 40000 in
theorem rcStop {w : World} {b : Nat} {c : Cu} (h : w.heap[b]? = some (rcO c)) : Calls Tryz.prog 41 #[.pointer (some ⟨b, 0, none⟩)] w fun e w' => e = .returned (.tuple #[]) ∧ w'.heap[b]? = some (rcO ⟨false, 0, 0⟩) ∧ Mdh (fun k => k = b) w w' := by
  have H := Lib.hid h
  obtain ⟨c0, c1, c2, c3, cf⟩ := rcC h
  clear h
  go_enter Tryz.func41, Tryz.ntmps41
  go_wp2_with (go_at_call 87; refine (rcValid H.out).mono ?_; rintro e w1 ⟨rfl, rfl⟩)
  go_end0
  exact ⟨rfl, rc3 (c' := ⟨false, 0, 0⟩) H.out, rcM _ _ _⟩
set_option maxRecDepth 40000 in
theorem rcSlot {w : World} {b : Nat} {c : Cu} (h : w.heap[b]? = some (rcO c)) : Calls Tryz.prog 51 #[.pointer (some ⟨b, 0, none⟩)] w fun e w' => e = .returned (.tuple #[.int .i64 c.slot, .bool c.has]) ∧ Gr w w' := by
  have H := Lib.hid h
  obtain ⟨c0, c1, c2, c3, cf⟩ := rcC h
  clear h
  go_enter Tryz.func51, Tryz.ntmps51
  go_wp2_with (go_at_call 87; refine (rcValid H.out).mono ?_; rintro e w1 ⟨rfl, rfl⟩)
  refine wp_region_flo (fun _ => False) [] [] (by kernel_rfl) (by kernel_rfl) (fun _ h => h.elim) ?_
  refine flo_seg 10 rfl ?_
  simp only [List.take_succ_cons, List.take_zero, List.drop_succ_cons, List.drop_zero]
  repeat (go_big_quiet_step (fail))
  refine wpQuiet_nil ?_
  refine flo_nil ?_
  go_wp2
  go_ret2
  exact ⟨rfl, by (repeat (first | (with_reducible exact Gr.refl _) | assumption | (with_reducible apply Gr.from_drew) | (with_reducible apply Gr.alloc) | (with_reducible apply Gr.drew) | (with_reducible refine Gr.trans ?_ (by assumption)) | (with_reducible refine Gr.setCell ?_ (by omega) _)))⟩
set_option maxRecDepth 40000 in
theorem rcOffset {w : World} {b : Nat} {c : Cu} (h : w.heap[b]? = some (rcO c)) : Calls Tryz.prog 53 #[.pointer (some ⟨b, 0, none⟩)] w fun e w' => e = .returned (.int .i64 c.off) ∧ w = w' := by
  have H := Lib.hid h
  obtain ⟨c0, c1, c2, c3, cf⟩ := rcC h
  clear h
  go_enter Tryz.func53, Tryz.ntmps53
  go_wp2_with (go_at_call 87; refine (rcValid H.out).mono ?_; rintro e w1 ⟨rfl, rfl⟩)
  go_ret
  exact ⟨rfl, rfl⟩
set_option maxRecDepth 40000 in
theorem rcCopy {w : World} {b : Nat} {c : Cu} (h : w.heap[b]? = some (rcO c)) : Calls Tryz.prog 43 #[.pointer (some ⟨b, 0, none⟩)] w fun e w' => ∃ b', e = .returned (.pointer (some ⟨b', 0, none⟩)) ∧ w.heap.size ≤ b' ∧ w'.heap[b']? = some (rcO c) ∧ Gr w w' := by
  have H := Lib.hid h
  obtain ⟨c0, c1, c2, c3, cf⟩ := rcC h
  clear h
  go_enter Tryz.func43, Tryz.ntmps43
  go_wp2_with (go_at_call 87; refine (rcValid H.out).mono ?_; rintro e w1 ⟨rfl, rfl⟩)
  refine wp_region_flo (fun _ => False) [] [] (by kernel_rfl) (by kernel_rfl) (fun _ h => h.elim) ?_
  refine flo_seg 13 rfl ?_
  simp only [List.take_succ_cons, List.take_zero, List.drop_succ_cons, List.drop_zero]
  repeat (go_big_quiet_step (fail))
  refine wpQuiet_nil ?_
  refine flo_eff rfl rfl rfl rfl (fun K hK => ?_)
  go_wp2
  refine ⟨by (first | (refine Gr.mdh ?_ _; (repeat (first | (with_reducible exact Gr.refl _) | assumption | (with_reducible apply Gr.from_drew) | (with_reducible apply Gr.alloc) | (with_reducible apply Gr.drew) | (with_reducible refine Gr.trans ?_ (by assumption)) | (with_reducible refine Gr.setCell ?_ (by omega) _))); done) | (repeat (first | (with_reducible exact Mdh.refl _ _) | (with_reducible refine Mdh.setCell ?_ (by simp) _) | (with_reducible refine Mdh.setNew ?_ (by simp) _) | (with_reducible apply Mdh.alloc) | (with_reducible apply Mdh.from_drew) | (with_reducible apply Mdh.drew) | (with_reducible refine Mdh.gr ?_ (by assumption))))), ?_⟩
  refine flo_seg 1 rfl ?_
  simp only [List.take_succ_cons, List.take_zero, List.drop_succ_cons, List.drop_zero]
  repeat (go_big_quiet_step (fail))
  refine wpQuiet_nil ?_
  refine flo_nil ?_
  go_wp2
  go_ret
  exact ⟨_, rfl, Nat.le_refl _, blkNew _ _, by (repeat (first | (with_reducible exact Gr.refl _) | assumption | (with_reducible apply Gr.from_drew) | (with_reducible apply Gr.alloc) | (with_reducible apply Gr.drew) | (with_reducible refine Gr.trans ?_ (by assumption)) | (with_reducible refine Gr.setCell ?_ (by omega) _)))⟩
set_option maxRecDepth 40000 in
theorem rcStart {w : World} {b : Nat} {c : Cu} (h : w.heap[b]? = some (rcO c)) (s : Int) : Calls Tryz.prog 37 #[.pointer (some ⟨b, 0, none⟩), .int .i64 s] w fun e w' => e = .returned (.int .i64 (startC c s)) ∧ w'.heap[b]? = some (rcO (startX c s)) ∧ Mdh (fun k => k = b) w w' := by
  have H := Lib.hid h
  obtain ⟨c0, c1, c2, c3, cf⟩ := rcC h
  clear h
  go_enter Tryz.func37, Tryz.ntmps37
  by_cases hs : s < 0 ∨ 32 ≤ s
  · have HC : Hid (startC c s = 3 ∧ startX c s = c) := Lib.hid ⟨if_pos hs, by unfold startX startC; rw [if_pos hs, if_neg (by decide)]⟩
    rcases hs with hs | hs
    · go_wp2_with (go_at_call 87; refine (rcValid H.out).mono ?_; rintro e w1 ⟨rfl, rfl⟩)
      go_ret
      exact ⟨by rw [HC.out.1] <;> rfl, by rw [HC.out.2]; exact H.out, Mdh.refl _ _⟩
    · have hs0 : ¬ s < 0 := by omega
      go_wp2_with (go_at_call 87; refine (rcValid H.out).mono ?_; rintro e w1 ⟨rfl, rfl⟩)
      go_ret
      exact ⟨by rw [HC.out.1] <;> rfl, by rw [HC.out.2]; exact H.out, Mdh.refl _ _⟩
  · have hs0 : ¬ s < 0 := by omega
    have hs1 : ¬ 32 ≤ s := by omega
    obtain ⟨ch, cs, co⟩ := c
    cases ch with
    | true =>
      have HC : Hid (startC ⟨true, cs, co⟩ s = 6 ∧ startX ⟨true, cs, co⟩ s = ⟨true, cs, co⟩) := Lib.hid (by
        have h1 : startC ⟨true, cs, co⟩ s = 6 := by unfold startC; rw [if_neg hs, if_pos rfl]
        exact ⟨h1, by unfold startX; rw [h1, if_neg (by decide)]⟩)
      clear hs
      go_wp2_with (go_at_call 87; refine (rcValid H.out).mono ?_; rintro e w1 ⟨rfl, rfl⟩)
      go_ret
      exact ⟨by rw [HC.out.1] <;> rfl, by rw [HC.out.2]; exact H.out, Mdh.refl _ _⟩
    | false =>
      have HC : Hid (startC ⟨false, cs, co⟩ s = 0 ∧ startX ⟨false, cs, co⟩ s = ⟨true, s, 0⟩) := Lib.hid (by
        have h1 : startC ⟨false, cs, co⟩ s = 0 := by unfold startC; rw [if_neg hs, if_neg (by simp)]
        exact ⟨h1, by unfold startX; rw [h1, if_pos rfl]⟩)
      clear hs
      go_wp2_with (go_at_call 87; refine (rcValid H.out).mono ?_; rintro e w1 ⟨rfl, rfl⟩)
      go_ret
      exact ⟨by rw [HC.out.1] <;> rfl, by rw [HC.out.2]; exact rc3 (c' := ⟨true, s, 0⟩) H.out, rcM _ _ _⟩
end Go.Proofs.YtmdfickejpeofaaGreat

/- drumlinref28's Peek and Advance over a reference index. Printed by rcp.py. -/
set_option linter.unusedVariables false
set_option linter.unusedSimpArgs false
namespace Go.Proofs.YtmdfickejpeofaaGreat
open Go.RowKit Go.Shelf
attribute [local go_sem] OvM cell_ovm obj_ovm
attribute [local go_sem] Oper.semAt_some

theorem find_at28 {p : En → Bool} : ∀ (L : List En) (i : Nat) (x : En), L[i]? = some x → (∀ (j : Nat) y, j < i → L[j]? = some y → p y = false) → p x = true → L.find? p = some x
  | [], i, x, h, _, _ => by simp at h
  | y :: L, 0, x, h, _, hp => by
    simp at h
    subst h
    rw [List.find?_cons_of_pos hp]
  | y :: L, i + 1, x, h, hn, hp => by
    rw [List.find?_cons_of_neg (by rw [hn 0 y (by omega) rfl]; decide)]
    exact find_at28 L i x (by simpa using h) (fun j z hj hz => hn (j + 1) z (by omega) (by simpa using hz)) hp
theorem find_no28 {p : En → Bool} {L : List En} (h : ∀ (j : Nat) y, j < L.length → L[j]? = some y → p y = false) : L.find? p = none := by
  rw [List.find?_eq_none]
  intro x hx
  obtain ⟨j, hj⟩ := List.mem_iff_getElem?.1 hx
  rw [h j x (List.getElem?_eq_some_iff.1 hj).1 hj]
  decide
theorem peekV_no {X : IX} {c : Cu} {n : Int} (h1 : peekC X c = n) (h2 : n ≠ 0 ∨ peekE X c = none) : peekV X c = .tuple #[.agg #[.int .i64 0, .string ⟨#[]⟩, .bool false, .int .i64 0, .int .i64 0, .int .i64 0], .bool false, .bool false, .int .i64 n] := by
  have h3 : peekO X c = none := by
    unfold peekO
    rcases h2 with h2 | h2
    · rw [if_neg (by rw [h1]; exact h2)]
    · rw [h2]; split <;> rfl
  unfold peekV
  rw [h3, h1]
  rfl
theorem peekV_is {X : IX} {c : Cu} {e : En} (h1 : peekC X c = 0) (h2 : peekE X c = some e) : peekV X c = .tuple #[.agg #[.int .i64 e.seq, .string e.key, .bool e.del, .int .i64 e.slot, .int .i64 e.off, .int .i64 e.size], .bool (X.needs e), .bool true, .int .i64 0] := by
  have h3 : peekO X c = some e := by unfold peekO; rw [if_pos h1, h2]
  unfold peekV
  rw [h3]
  rfl
set_option maxRecDepth 40000 in
set_option maxHeartbeats 4000000 in
theorem rcPeek {w : World} {cb : Nat} {c : Cu} {p : Option Addr} {X : IX} (hc : w.heap[cb]? = some (rcO c)) (h : RP w p X) : Calls Tryz.prog 49 #[.pointer (some ⟨cb, 0, none⟩), .pointer p] w fun e w' => e = .returned (peekV X c) ∧ Gr w w' := by
  obtain ⟨w0, hw0⟩ : ∃ y, y = w.alloc (.cells #[.int .i64 0, .string ⟨#[]⟩, .bool false, .int .i64 0, .int .i64 0, .int .i64 0] 56) := ⟨_, rfl⟩
  obtain ⟨b4, hb4⟩ : ∃ q, q = w.heap.size := ⟨_, rfl⟩
  have HG0 : Hid (Gr w w0) := Lib.hid (by rw [hw0]; exact (Gr.refl w).alloc _)
  have HX0 : Hid (w0.heap[b4]? = some (.cells #[.int .i64 0, .string ⟨#[]⟩, .bool false, .int .i64 0, .int .i64 0, .int .i64 0] 56)) := Lib.hid (by rw [hw0, hb4]; exact blkNew _ _)
  have HBW : Hid (w.heap.size ≤ b4) := Lib.hid (Nat.le_of_eq hb4.symm)
  have nb : b4 ≠ cb := by
    have := blkLt hc
    omega
  have HC := Lib.hid (fun W (g : Gr w W) => g.blk hc)
  have HRP := Lib.hid h
  have HVC := Lib.hid (fun W (g : Gr w W) => rcValid (g.blk hc))
  have HCP := Lib.hid (fun W (g : Gr w W) => rpCopy (h.gr g))
  have HSL := Lib.hid (fun W (g : Gr w W) => rpSlots (h.gr g))
  have HST : Hid (∀ s W, Gr w W → Calls Tryz.prog 110 #[.pointer p, .int .i64 s] W (fun e w' => ∃ v, e = .returned v ∧ Nw W w' 56 6 v (X.slot s).length (rowE (X.slot s)) ∧ Gr W w')) := Lib.hid (fun s W g => rpSlot (h.gr g) s)
  have HND := Lib.hid (fun e W (g : Gr w W) => rNeeded (h.gr g) e)
  have HNI := Lib.hid (fun h0 s e he => needed_in h.ok h0 (s := s) (e := e) he)
  have HLE := Lib.hid (fun s => h.ok.slot_le s)
  have HPC : Hid (peekC X c = if X.slots = [] then 1 else if c.has = false then 7 else if (X.slots.length : Int) ≤ c.slot then 3 else 0) := Lib.hid rfl
  have HPE : Hid (peekE X c = (X.slot c.slot).find? (atCu c)) := Lib.hid rfl
  have HPN := Lib.hid (fun n h1 h2 => peekV_no (X := X) (c := c) (n := n) h1 h2)
  have HPI := Lib.hid (fun e h1 h2 => peekV_is (X := X) (c := c) (e := e) h1 h2)
  have HAT : Hid (∀ e : En, atCu c e = decide (c.off ≤ e.off)) := Lib.hid (fun e => rfl)
  generalize peekV X c = V at *
  generalize peekC X c = pc at *
  generalize peekE X c = pe at *
  generalize atCu c = aC at *
  clear h hc
  obtain ⟨ch, cs, co⟩ := c
  simp only at HPC HPE HAT
  by_cases h0 : X.slots = []
  · have HV1 := Lib.hid (HPN.out 1 (by rw [HPC.out, if_pos h0]) (.inl (by decide)))
    go_enter Tryz.func49, Tryz.ntmps49
    go_upto_region 1 with fail
    rw [← hw0, ← hb4]
    clear hw0 hb4
    go_upto_region 2 with (first
      | (go_at_call 87; refine Calls.mono (HVC.out _ HG0.out) ?_; rintro r w1 ⟨rfl, rfl⟩)
      | (go_at_call 109; refine Calls.mono (HCP.out _ HG0.out) ?_; rintro r w1 ⟨⟨q, rfl, hq⟩, hg⟩; have hq0 := hq.2 h0; clear hq; subst hq0; have HG1 := Lib.hid (HG0.out.trans hg); have HX1 := Lib.hid (hg.blk HX0.out); clear hg)
      | fail)
    obtain ⟨d4, f4⟩ := cellsOf HX1.out
    repeat (first | go_values | go_skip | go_guarded | go_step | go_upon)
    have hb6 := blk6 (y0 := .int .i64 0) (y1 := .string ⟨#[]⟩) (y2 := .bool false) (y3 := .int .i64 0) (y4 := .int .i64 0) (y5 := .int .i64 0) HX1.out
    obtain ⟨d6, _⟩ := cellsOf hb6
    refine bodyPost_ret (v := V) ?_ rfl ⟨rfl, HG1.out.cell6 HBW.out _ _ _ _ _ _⟩
    simp [results, Tryz.results49, go_sem, d6, HV1.out]
  · have HNE := Lib.hid h0
    cases ch with
    | false =>
      have HV1 := Lib.hid (HPN.out 7 (by rw [HPC.out, if_neg h0, if_pos rfl]) (.inl (by decide)))
      go_enter Tryz.func49, Tryz.ntmps49
      go_upto_region 1 with fail
      rw [← hw0, ← hb4]
      clear hw0 hb4
      go_upto_region 3 with (first
        | (go_at_call 87; refine Calls.mono (HVC.out _ HG0.out) ?_; rintro r w1 ⟨rfl, rfl⟩)
        | (go_at_call 109; refine Calls.mono (HCP.out _ HG0.out) ?_; rintro r w1 ⟨⟨q, rfl, hq⟩, hg⟩; (obtain ⟨q', rfl⟩ : ∃ q', q = some q' := by (cases q with | none => exact absurd (hq.1 rfl) h0 | some q' => exact ⟨q', rfl⟩)); clear hq; have HG1 := Lib.hid (HG0.out.trans hg); have HX1 := Lib.hid (hg.blk HX0.out); clear hg)
        | fail)
      clear h0
      obtain ⟨d4, f4⟩ := cellsOf HX1.out
      obtain ⟨_, c1, _, _, _⟩ := rcC (HC.out _ HG1.out)
      simp only at c1
      go_upto_region 4 with fail
      repeat (first | go_values | go_skip | go_guarded | go_step | go_upon)
      have hb6 := blk6 (y0 := .int .i64 0) (y1 := .string ⟨#[]⟩) (y2 := .bool false) (y3 := .int .i64 0) (y4 := .int .i64 0) (y5 := .int .i64 0) HX1.out
      obtain ⟨d6, _⟩ := cellsOf hb6
      refine bodyPost_ret (v := V) ?_ rfl ⟨rfl, HG1.out.cell6 HBW.out _ _ _ _ _ _⟩
      simp [results, Tryz.results49, go_sem, d6, HV1.out]
    | true =>
      have HPC1 : Hid (pc = if (X.slots.length : Int) ≤ cs then 3 else 0) := Lib.hid (by rw [HPC.out, if_neg h0, if_neg (by decide)])
      have HSS := Lib.hid (fun W (g : Gr w W) => HSL.out W g)
      have hq5 : True := trivial
      by_cases hs : (X.slots.length : Int) ≤ cs
      · have HV1 := Lib.hid (HPN.out 3 (by rw [HPC1.out, if_pos hs]) (.inl (by decide)))
        go_enter Tryz.func49, Tryz.ntmps49
        go_upto_region 1 with fail
        rw [← hw0, ← hb4]
        clear hw0 hb4
        go_upto_region 3 with (first
          | (go_at_call 87; refine Calls.mono (HVC.out _ HG0.out) ?_; rintro r w1 ⟨rfl, rfl⟩)
          | (go_at_call 109; refine Calls.mono (HCP.out _ HG0.out) ?_; rintro r w1 ⟨⟨q, rfl, hq⟩, hg⟩; (obtain ⟨q', rfl⟩ : ∃ q', q = some q' := by (cases q with | none => exact absurd (hq.1 rfl) h0 | some q' => exact ⟨q', rfl⟩)); clear hq; have HG1 := Lib.hid (HG0.out.trans hg); have HX1 := Lib.hid (hg.blk HX0.out); clear hg)
          | fail)
        clear h0
        obtain ⟨d4, f4⟩ := cellsOf HX1.out
        obtain ⟨_, c1, c2, _, _⟩ := rcC (HC.out _ HG1.out)
        simp only at c1 c2
        go_upto_region 5 with fail
        refine wp_region_flo (fun _ => False) [] [] (by kernel_rfl) (by kernel_rfl) (fun _ h => h.elim) ?_
        refine flo_seg 5 rfl ?_
        simp only [List.take_succ_cons, List.take_zero, List.drop_succ_cons, List.drop_zero]
        repeat (go_big_quiet_step (fail))
        refine wpQuiet_nil ?_
        refine flo_eff rfl rfl rfl rfl (fun K hK => ?_)
        go_wp2_with ((go_at_call 59; refine Calls.mono (HSL.out _ (HG1.out.trans (Gr.refl _).drew)) ?_; rintro r w5 ⟨rfl, rfl⟩))
        refine ⟨by exact Mdh.refl _ _, ?_⟩
        refine flo_seg 1 rfl ?_
        simp only [List.take_succ_cons, List.take_zero, List.drop_succ_cons, List.drop_zero]
        repeat (go_big_quiet_step (fail))
        refine wpQuiet_nil ?_
        refine flo_nil ?_
        go_upto_region 6 with fail
        repeat (first | go_values | go_skip | go_guarded | go_step | go_upon)
        have hb6 := blk6 (y0 := .int .i64 0) (y1 := .string ⟨#[]⟩) (y2 := .bool false) (y3 := .int .i64 0) (y4 := .int .i64 0) (y5 := .int .i64 0) HX1.out
        obtain ⟨d6, _⟩ := cellsOf hb6
        refine bodyPost_ret (v := V) ?_ rfl ⟨rfl, HG1.out.cell6 HBW.out _ _ _ _ _ _ |>.drew⟩
        simp [results, Tryz.results49, go_sem, d6, HV1.out]
      · have HP0 : Hid (pc = 0) := Lib.hid (by rw [HPC1.out, if_neg hs])
        go_enter Tryz.func49, Tryz.ntmps49
        go_upto_region 1 with fail
        rw [← hw0, ← hb4]
        clear hw0 hb4
        go_upto_region 3 with (first
          | (go_at_call 87; refine Calls.mono (HVC.out _ HG0.out) ?_; rintro r w1 ⟨rfl, rfl⟩)
          | (go_at_call 109; refine Calls.mono (HCP.out _ HG0.out) ?_; rintro r w1 ⟨⟨q, rfl, hq⟩, hg⟩; (obtain ⟨q', rfl⟩ : ∃ q', q = some q' := by (cases q with | none => exact absurd (hq.1 rfl) h0 | some q' => exact ⟨q', rfl⟩)); clear hq; have HG1 := Lib.hid (HG0.out.trans hg); have HX1 := Lib.hid (hg.blk HX0.out); clear hg)
          | fail)
        clear h0
        obtain ⟨_, c1, c2, _, _⟩ := rcC (HC.out _ HG1.out)
        simp only at c1 c2
        go_upto_region 5 with fail
        refine wp_region_flo (fun _ => False) [] [] (by kernel_rfl) (by kernel_rfl) (fun _ h => h.elim) ?_
        refine flo_seg 5 rfl ?_
        simp only [List.take_succ_cons, List.take_zero, List.drop_succ_cons, List.drop_zero]
        repeat (go_big_quiet_step (fail))
        refine wpQuiet_nil ?_
        refine flo_eff rfl rfl rfl rfl (fun K hK => ?_)
        go_wp2_with ((go_at_call 59; refine Calls.mono (HSL.out _ (HG1.out.trans (Gr.refl _).drew)) ?_; rintro r w5 ⟨rfl, rfl⟩))
        refine ⟨by exact Mdh.refl _ _, ?_⟩
        refine flo_seg 1 rfl ?_
        simp only [List.take_succ_cons, List.take_zero, List.drop_succ_cons, List.drop_zero]
        repeat (go_big_quiet_step (fail))
        refine wpQuiet_nil ?_
        refine flo_nil ?_
        have HG1d := Lib.hid (HG1.out.trans (Gr.refl w1).drew)
        have HX1d : Hid (w1.drew.heap[b4]? = some (.cells #[.int .i64 0, .string ⟨#[]⟩, .bool false, .int .i64 0, .int .i64 0, .int .i64 0] 56)) := Lib.hid HX1.out
        have hle := HLE.out cs
        have HSTC := Lib.hid (HST.out cs)
        have HNIC := Lib.hid (HNI.out HNE.out cs)
        generalize X.slot cs = L at *
        generalize X.slots.length = n at *
        go_wp2_with fail
        refine Calls.mono (HSTC.out _ HG1d.out) ?_
        rintro r w6 ⟨v, rfl, hn, hg⟩
        obtain ⟨av, cv, rfl, _, hcv, _⟩ := ownE_at hn.own
        unfold maxLen at hcv
        have HN6 := Lib.hid hn
        have HG6 := Lib.hid (HG1d.out.trans hg)
        have HX6 := Lib.hid (hg.blk HX1d.out)
        clear hn hg c1 c2
        go_wp2_with fail
        go_loopw [9] (fun t9 wx => ∃ i : Nat, i ≤ L.length ∧ t9 = .int .i64 i ∧ Hid ((∀ (j : Nat) y, j < i → L[j]? = some y → aC y = false) ∧ Gr w6 wx)) (fun t9 _ => L.length - (intOf t9).toNat)
        case atStart => exact ⟨0, by omega, by go_num, Lib.hid ⟨fun j y h => by omega, Gr.refl _⟩⟩
        case round =>
          obtain ⟨i, hil, rfl, HR⟩ := hrel
          obtain ⟨_, c1, c2, c3, _⟩ := rcC (HC.out _ (HG6.out.trans HR.out.2))
          simp only at c1 c2 c3
          by_cases hlt : i < L.length
          · have hlt' : (i : Int) < L.length := by omega
            obtain ⟨x, hx⟩ : ∃ x, L[i]? = some x := ⟨_, List.getElem?_eq_getElem hlt⟩
            obtain ⟨g0, hg0e, hg0, y0, y1, y2, y3, y4, y5⟩ := ent6 (HN6.out.own.gr HR.out.2) hx
            by_cases hof : co ≤ x.off
            · have d1 : decide (co ≤ x.off) = true := decide_eq_true hof
              have HV1 := Lib.hid (HPI.out x HP0.out (by rw [HPE.out]; exact find_at28 L i x hx HR.out.1 (by rw [HAT.out]; exact d1)))
              have hnd := HND.out x
              rw [HNIC.out x (List.mem_of_getElem? hx)] at hnd
              have HNV := Lib.hid hnd
              have HEY := Lib.hid (fun W (g : Gr wr W) => ent6g (g := g0) (by have := (HN6.out.own.gr HR.out.2).gr g; rw [hg0e] at this; exact this) hx)
              generalize X.needs x = nx at *
              clear hnd hx
              obtain ⟨x0, x1, x2, x3, x4, x5⟩ := x
              simp only [enV] at HNV
              simp only at y0 y1 y2 y3 y4 y5 hof d1 HV1 HEY
              subst hg0e
              have HG7 := Lib.hid (HG6.out.trans HR.out.2)
              have HX7 := Lib.hid (HR.out.2.blk HX6.out)
              go_wp2_with fail
              refine wp_region_flo (fun _ => False) [] [] (by kernel_rfl) (by kernel_rfl) (fun _ h => h.elim) ?_
              refine flo_seg 10 rfl ?_
              simp only [List.take_succ_cons, List.take_zero, List.drop_succ_cons, List.drop_zero]
              repeat (go_big_quiet_step (fail))
              refine wpQuiet_nil ?_
              refine flo_nil ?_
              go_wp2_with fail
              refine Calls.mono (HNV.out _ (HG7.out.trans (Gr.refl wr).drew)) ?_
              rintro r w8 ⟨rfl, hg⟩
              have HG8 := Lib.hid ((HG7.out.trans (Gr.refl wr).drew).trans hg)
              have HX8 := Lib.hid (((Gr.refl wr).drew.trans hg).blk HX7.out)
              obtain ⟨_, t0, t1, t2, t3, t4, t5⟩ := HEY.out _ ((Gr.refl wr).drew.trans hg)
              clear hg y0 y1 y2 y3 y4 y5 c1 c2 c3
              have hne : g0 ≠ b4 := fun e => by
                have h1 := HN6.out.new g0 rfl
                have h2 := blkLt HX1d.out
                omega
              have hne' : b4 ≠ g0 := fun e => hne e.symm
              obtain ⟨d4, f4⟩ := cellsOf HX8.out
              go_upto_region 13 with fail
              repeat (first | go_values | go_skip | go_guarded | go_step | go_upon)
              have hb6 := blk6 (y0 := .int .i64 x0) (y1 := .string x1) (y2 := .bool x2) (y3 := .int .i64 x3) (y4 := .int .i64 x4) (y5 := .int .i64 x5) HX8.out
              obtain ⟨d6, _⟩ := cellsOf hb6
              refine bodyPost_ret (v := V) ?_ rfl ⟨rfl, HG8.out.cell6 HBW.out _ _ _ _ _ _⟩
              simp [results, Tryz.results49, go_sem, d6, HV1.out]
            · have d1 : decide (co ≤ x.off) = false := decide_eq_false hof
              have HAF : Hid (aC x = false) := Lib.hid (by rw [HAT.out]; exact d1)
              have HXI := Lib.hid hx
              clear hx
              obtain ⟨x0, x1, x2, x3, x4, x5⟩ := x
              simp only at y0 y1 y2 y3 y4 y5 hof d1
              subst hg0e
              go_wp2_with fail
              refine wp_region_flo (fun _ => False) [] [] (by kernel_rfl) (by kernel_rfl) (fun _ h => h.elim) ?_
              refine flo_seg 10 rfl ?_
              simp only [List.take_succ_cons, List.take_zero, List.drop_succ_cons, List.drop_zero]
              repeat (go_big_quiet_step (fail))
              refine wpQuiet_nil ?_
              refine flo_nil ?_
              go_wp2_with fail
              go_roundw
              case rel => exact ⟨i + 1, by omega, by go_num, Lib.hid ⟨fun j y hj hy => by
                by_cases hji : j < i
                · exact HR.out.1 j y hji hy
                · obtain rfl : j = i := by omega
                  rw [HXI.out] at hy
                  exact (Option.some.inj hy) ▸ HAF.out, HR.out.2.trans (Gr.refl _).drew⟩⟩
              case measure => simp [intOf]; omega
          · have hlt' : ¬ (i : Int) < L.length := by omega
            have hie : i = L.length := by omega
            have HV1 := Lib.hid (HPN.out 0 HP0.out (.inr (by rw [HPE.out]; exact find_no28 (by rw [← hie]; exact HR.out.1))))
            have HG7 := Lib.hid (HG6.out.trans HR.out.2)
            have HX7 := Lib.hid (HR.out.2.blk HX6.out)
            clear hie
            obtain ⟨d4, f4⟩ := cellsOf HX7.out
            go_upto_region 14 with fail
            repeat (first | go_values | go_skip | go_guarded | go_step | go_upon)
            have hb6 := blk6 (y0 := .int .i64 0) (y1 := .string ⟨#[]⟩) (y2 := .bool false) (y3 := .int .i64 0) (y4 := .int .i64 0) (y5 := .int .i64 0) HX7.out
            obtain ⟨d6, _⟩ := cellsOf hb6
            refine bodyPost_ret (v := V) ?_ rfl ⟨rfl, HG7.out.cell6 HBW.out _ _ _ _ _ _⟩
            simp [results, Tryz.results49, go_sem, d6, HV1.out]
set_option maxRecDepth 40000 in
set_option maxHeartbeats 4000000 in
theorem rcAdvance {w : World} {cb : Nat} {c : Cu} {p : Option Addr} {X : IX} (hc : w.heap[cb]? = some (rcO c)) (h : RP w p X) : Calls Tryz.prog 39 #[.pointer (some ⟨cb, 0, none⟩), .pointer p] w fun e w' => e = .returned (.int .i64 (advC X c)) ∧ w'.heap[cb]? = some (rcO (advX X c)) ∧ Mdh (fun k => k = cb) w w' := by
  have H := Lib.hid hc
  have HPK := Lib.hid (rcPeek hc h)
  have HAC : Hid (advC X c = if peekC X c ≠ 0 then peekC X c else match peekE X c with | none => 5 | some _ => 0) := Lib.hid rfl
  have HAX : Hid (advX X c = match peekO X c with | none => c | some e => ⟨c.has, c.slot, e.off + e.size⟩) := Lib.hid rfl
  have HB := Lib.hid (fun e he => peekO_b h.ok (c := c) (e := e) he)
  by_cases h0 : peekC X c = 0
  · cases he : peekE X c with
    | none =>
      have hpo : peekO X c = none := by unfold peekO; rw [if_pos h0, he]
      have HV := peekV_no h0 (.inr he)
      rw [HV] at HPK
      have HC : Hid (advC X c = 5 ∧ advX X c = c) := Lib.hid ⟨by rw [HAC.out, if_neg (by rw [h0]; simp), he], by rw [HAX.out, hpo]⟩
      clear h0 he hpo HV hc h
      go_enter Tryz.func39, Tryz.ntmps39
      go_wp2_with fail
      refine Calls.mono HPK.out ?_
      rintro r w2 ⟨rfl, hg⟩
      have HG := Lib.hid hg
      clear hg
      go_wp2_with fail
      go_ret
      exact ⟨by rw [HC.out.1] <;> rfl, by rw [HC.out.2]; exact (HG.out.alloc _).blk H.out, (HG.out.alloc _).mdh _⟩
    | some e =>
      have hpo : peekO X c = some e := by unfold peekO; rw [if_pos h0, he]
      obtain ⟨_, hb1, hb2, hb3, _⟩ := HB.out e hpo
      have HV := peekV_is h0 he
      rw [HV] at HPK
      have HC : Hid (advC X c = 0 ∧ advX X c = ⟨c.has, c.slot, e.off + e.size⟩) := Lib.hid ⟨by rw [HAC.out, if_neg (by rw [h0]; simp), he], by rw [HAX.out, hpo]⟩
      clear h0 he hpo HV hc h HB
      obtain ⟨x0, x1, x2, x3, x4, x5⟩ := e
      simp only at hb1 hb2 hb3 HPK HC
      generalize X.needs ⟨x0, x1, x2, x3, x4, x5⟩ = nx at *
      go_enter Tryz.func39, Tryz.ntmps39
      go_wp2_with fail
      refine Calls.mono HPK.out ?_
      rintro r w2 ⟨rfl, hg⟩
      have HG := Lib.hid hg
      clear hg
      go_upto_region 2 with fail
      obtain ⟨b5, hb5⟩ : ∃ q, q = w2.heap.size := ⟨_, rfl⟩
      obtain ⟨w5, hw5⟩ : ∃ y, y = w2.alloc (.cells #[.int .i64 x0, .string x1, .bool x2, .int .i64 x3, .int .i64 x4, .int .i64 x5] 56) := ⟨_, rfl⟩
      have HX5 : Hid (w5.heap[b5]? = some (.cells #[.int .i64 x0, .string x1, .bool x2, .int .i64 x3, .int .i64 x4, .int .i64 x5] 56)) := Lib.hid (by rw [hw5, hb5]; exact blkNew _ _)
      have HG5 : Hid (Gr w w5) := Lib.hid (by rw [hw5]; exact HG.out.alloc _)
      rw [← hb5, ← hw5]
      clear hb5 hw5
      have d5 := (cellsOf HX5.out).1
      obtain ⟨c0, c1, c2, c3, cf⟩ := rcC (HG5.out.blk H.out)
      go_wp2_with fail
      go_ret
      refine ⟨by rw [HC.out.1] <;> rfl, ?_, (HG5.out.mdh (fun k => k = cb)).setCell (p := ⟨cb, 3, none⟩) rfl _⟩
      rw [HC.out.2]
      exact blkSet (j := 3) (HG5.out.blk H.out)
  · have HV := peekV_no (X := X) (c := c) (n := peekC X c) rfl (.inl h0)
    rw [HV] at HPK
    have hpo : peekO X c = none := by unfold peekO; rw [if_neg h0]
    have HC : Hid (advC X c = peekC X c ∧ advX X c = c) := Lib.hid ⟨by rw [HAC.out, if_pos h0], by rw [HAX.out, hpo]⟩
    clear HV hpo hc h HB HAC HAX
    generalize advC X c = ac at *
    generalize advX X c = ax at *
    generalize peekC X c = pc at *
    have hpb : (pc != 0) = true := by simp [h0]
    go_enter Tryz.func39, Tryz.ntmps39
    go_wp2_with fail
    refine Calls.mono HPK.out ?_
    rintro r w2 ⟨rfl, hg⟩
    have HG := Lib.hid hg
    clear hg
    go_wp2_with fail
    go_ret
    exact ⟨by rw [HC.out.1] <;> rfl, by rw [HC.out.2]; exact (HG.out.alloc _).blk H.out, (HG.out.alloc _).mdh _⟩
end Go.Proofs.YtmdfickejpeofaaGreat

/- For rows: slices of structs, and bytes. -/
set_option linter.unusedVariables false
set_option linter.unusedSimpArgs false
namespace Go.Proofs.YtmdfickejpeofaaGreat
open Go.ChangeShapes Go.WideShapes Go.Deep
section
variable {H : Type} {enc : TypeId × Value → H} {P : Program} {w : World} {base : Nat} {spare : Nat → Bool} {held : Bool}
theorem open_slice_fields {t e : TypeId} {fs : Array Field} {fuel : Nat} {cs : List Value} {x : DataW H × List MemPlace} (ht : P.underlying t = some (.slice e)) (he : P.underlying e = some (.struct fs))
    (hone : oneCellFields P fs = true) (hC : P.cellsOf e = fs.size) (h : DataW.trod enc P w base spare held fuel t cs = some x) :
    (cs = [.slice none 0 0] ∧ x = (.nil, [])) ∨
    ∃ (a : Addr) (len cap m : Nat) (D : Nat → DataW H) (Pl : Nat → List MemPlace), cs = [.slice (some a) len cap] ∧ base ≤ a.block ∧ len ≤ cap ∧ cap ≤ maxLen ∧ m = (if spare a.block then cap else len) ∧
      x = (.slice ((List.range len).map D) ((List.range (m - len)).map fun j => D (len + j)), MemPlace.row a (m * fs.size) ++ (List.range m).flatMap Pl) ∧
      ∀ i, i < m → ∃ (ys : List (DataW H × List MemPlace)) (n : Nat), D i = .agg (ys.map (·.1)) ∧ Pl i = ys.flatMap (·.2) ∧ ys.length = fs.size ∧
        ∀ (j : Nat) (f : Field), fs[j]? = some f → ∃ (v : Value) (y : DataW H × List MemPlace), w.cell? (a.add (i * fs.size + j)) = some v ∧ ys[j]? = some y ∧ DataW.trod enc P w base spare held n f.type [v] = some y := by
  rcases open_slice ht h with h0 | ⟨a, len, cap, m, n, D, Pl, hcs, hb, hl, hm, hmm, hx, hi⟩
  · exact .inl h0
  · refine .inr ⟨a, len, cap, m, D, Pl, hcs, hb, hl, hm, hmm, by rw [hC] at hx; exact hx, fun i him => ?_⟩
    obtain ⟨cs', hc, ht'⟩ := hi i him
    rw [hC] at hc
    obtain ⟨ys, n', hn', hy, hlen, hyl, hf⟩ := DataW.trod_struct he ht'
    obtain ⟨_, hcl, hat⟩ := World.cells?_some hc
    simp only [Prod.mk.injEq] at hy
    refine ⟨ys, n', hy.1, hy.2, hyl, fun j f hj => ?_⟩
    obtain ⟨ho, hk⟩ := hone_of hone j f hj
    have hjl : j < fs.size := (Array.getElem?_eq_some_iff.1 hj).1
    have hcell := hat j hjl
    have hv : cs'[j]? = some (cs'[j]'(by omega)) := List.getElem?_eq_getElem (by omega)
    have h1 := hf j f hj
    rw [ho, hk] at h1
    have hone' : (cs'.drop j).take 1 = [cs'[j]'(by omega)] := by
      rw [List.drop_eq_getElem_cons (by omega)]
      rfl
    rw [hone'] at h1
    have hys : ys[j]? = some (ys[j]'(by omega)) := List.getElem?_eq_getElem (by omega)
    refine ⟨_, _, ?_, hys, h1.trans hys⟩
    rw [← Go.Deep.add_add, hcell, hv]
end

open Go.RowKit
theorem list_of {α : Type} (len : Nat) (d : α) (R : Nat → α → Prop) (h : ∀ i, i < len → ∃ x, R i x) : ∃ l : List α, l.length = len ∧ ∀ i, i < l.length → R i (l[i]?.getD d) := by
  classical
  refine ⟨(List.range len).map (fun i => if hi : i < len then Classical.choose (h i hi) else d), by simp, fun i hi => ?_⟩
  have hi' : i < len := by simpa using hi
  simp only [List.getElem?_map, List.getElem?_range hi', Option.map_some, Option.getD_some, dif_pos hi']
  exact Classical.choose_spec (h i hi')
theorem u8_of {a : Int} (h : (Lit.int .u8 a).wf = true) : ∃ c : UInt8, a = (c.toNat : Int) := by
  have h' : (decide (IntKind.u8.min ≤ a) && decide (a ≤ IntKind.u8.max)) = true := h
  have : 0 ≤ a ∧ a ≤ 255 := by simpa [IntKind.min, IntKind.max, IntKind.signed, IntKind.bits] using h'
  refine ⟨UInt8.ofNat a.toNat, ?_⟩
  rw [UInt8.toNat_ofNat_of_lt' (by have : UInt8.size = 256 := rfl; omega)]
  omega
theorem at_add {w : World} {a : Addr} {k : Nat} {v : Value} (h : w.cell? (a.add k) = some v) (hs : a.spot = none) : a.block < w.heap.size ∧ w.cell? ⟨a.block, a.off + k, none⟩ = some v := by
  have e : a.add k = ⟨a.block, a.off + k, none⟩ := by
    unfold Addr.add
    obtain ⟨b, o, s⟩ := a
    split
    · simp_all
    · rfl
  rw [e] at h
  refine ⟨?_, h⟩
  unfold World.cell? at h
  refine Classical.byContradiction fun hc => ?_
  rw [Array.getElem?_eq_none (by simpa using hc)] at h
  cases h
theorem spot_add {w : World} {a : Addr} {v : Value} (h : w.cell? (a.add 0) = some v) : a.spot = none := by
  simpa [Addr.add] using World.cell?_spot h
end Go.Proofs.YtmdfickejpeofaaGreat

/- Rows of entries. -/
set_option linter.unusedVariables false
set_option linter.unusedSimpArgs false
namespace Go.Proofs.YtmdfickejpeofaaGreat
open Go.ChangeShapes Go.WideShapes Go.Deep Go.RowKit
theorem i64e {a : Int} (h : (Lit.int .i64 a).wf = true) : -9223372036854775808 ≤ a ∧ a ≤ 9223372036854775807 := by
  simp only [Lit.wf, Bool.and_eq_true, decide_eq_true_eq] at h
  exact h
/-- The entries of a list lie at a. -/
def EntAt (w : World) (a : Option Addr) (l : List En) : Prop :=
  ∀ i x, l[i]? = some x → ∃ b off, a = some ⟨b, off, none⟩ ∧ b < w.heap.size ∧ w.cell? ⟨b, off + i * 6, none⟩ = some (.int .i64 x.seq) ∧ w.cell? ⟨b, off + i * 6 + 1, none⟩ = some (.string x.key) ∧ w.cell? ⟨b, off + i * 6 + 2, none⟩ = some (.bool x.del) ∧ w.cell? ⟨b, off + i * 6 + 3, none⟩ = some (.int .i64 x.slot) ∧ w.cell? ⟨b, off + i * 6 + 4, none⟩ = some (.int .i64 x.off) ∧ w.cell? ⟨b, off + i * 6 + 5, none⟩ = some (.int .i64 x.size) ∧ -9223372036854775808 ≤ x.size ∧ x.size ≤ 9223372036854775807
theorem open_entries {H : Type} {enc : TypeId × Value → H} {w : World} {base : Nat} {spare : Nat → Bool} {held : Bool} {fuel : Nat} {a : Option Addr} {len cap : Nat} {x : DataW H × List MemPlace}
    (h : DataW.trod enc Tryz.prog w base spare held fuel 37 (Value.slice a len cap).cells.toList = some x) : len ≤ cap ∧ cap ≤ maxLen ∧ ∃ l : List En, l.length = len ∧ EntAt w a l := by
  rcases open_slice_fields Tryz.underlying37 Tryz.underlying56 (by kernel_rfl) (show Tryz.prog.cellsOf 56 = 6 by kernel_rfl) h with ⟨hcs, _⟩ | ⟨a', l, c, m, D, Pl, hcs, _, hl, hm, hmm, _, hi⟩
  · simp [Value.cells] at hcs
    obtain ⟨rfl, rfl, rfl⟩ := hcs
    exact ⟨by omega, by simp [maxLen], [], rfl, fun i x hx => by simp at hx⟩
  · simp [Value.cells] at hcs
    obtain ⟨rfl, rfl, rfl⟩ := hcs
    refine ⟨hl, hm, ?_⟩
    by_cases h0 : 0 < len
    · have hml : len ≤ m := by rw [hmm]; split <;> omega
      have hsp : a'.spot = none := by
        obtain ⟨ys, n, _, _, _, hf⟩ := hi 0 (by omega)
        obtain ⟨v, y, hc, _, _⟩ := hf 0 _ rfl
        exact spot_add (by simpa using hc)
      obtain ⟨l, hl1, hl2⟩ := list_of len (⟨0, ⟨#[]⟩, false, 0, 0, 0⟩ : En) (fun i t => w.cell? ⟨a'.block, a'.off + i * 6, none⟩ = some (.int .i64 t.seq) ∧ w.cell? ⟨a'.block, a'.off + i * 6 + 1, none⟩ = some (.string t.key) ∧ w.cell? ⟨a'.block, a'.off + i * 6 + 2, none⟩ = some (.bool t.del) ∧ w.cell? ⟨a'.block, a'.off + i * 6 + 3, none⟩ = some (.int .i64 t.slot) ∧ w.cell? ⟨a'.block, a'.off + i * 6 + 4, none⟩ = some (.int .i64 t.off) ∧ w.cell? ⟨a'.block, a'.off + i * 6 + 5, none⟩ = some (.int .i64 t.size) ∧ a'.block < w.heap.size ∧ -9223372036854775808 ≤ t.size ∧ t.size ≤ 9223372036854775807) (fun i hil => by
        obtain ⟨ys, n, _, _, _, hf⟩ := hi i (by omega)
        obtain ⟨v0, y0, c0, _, t0⟩ := hf 0 _ rfl
        obtain ⟨v1, y1, c1, _, t1⟩ := hf 1 _ rfl
        obtain ⟨v2, y2, c2, _, t2⟩ := hf 2 _ rfl
        obtain ⟨v3, y3, c3, _, t3⟩ := hf 3 _ rfl
        obtain ⟨v4, y4, c4, _, t4⟩ := hf 4 _ rfl
        obtain ⟨v5, y5, c5, _, t5⟩ := hf 5 _ rfl
        obtain ⟨x0, e0, _, w0⟩ := DataW.trod_int Tryz.underlying2 t0
        obtain ⟨x1, e1, _⟩ := DataW.trod_string Tryz.underlying9 t1
        obtain ⟨x2, e2, _⟩ := DataW.trod_bool Tryz.underlying4 t2
        obtain ⟨x3, e3, _, w3⟩ := DataW.trod_int Tryz.underlying3 t3
        obtain ⟨x4, e4, _, w4⟩ := DataW.trod_int Tryz.underlying3 t4
        obtain ⟨x5, e5, _, w5⟩ := DataW.trod_int Tryz.underlying3 t5
        obtain rfl := List.cons.inj e0 |>.1
        obtain rfl := List.cons.inj e1 |>.1
        obtain rfl := List.cons.inj e2 |>.1
        obtain rfl := List.cons.inj e3 |>.1
        obtain rfl := List.cons.inj e4 |>.1
        obtain rfl := List.cons.inj e5 |>.1
        obtain ⟨hb, d0⟩ := at_add c0 hsp
        exact ⟨⟨x0, x1, x2, x3, x4, x5⟩, d0, (at_add c1 hsp).2, (at_add c2 hsp).2, (at_add c3 hsp).2, (at_add c4 hsp).2, (at_add c5 hsp).2, hb, i64e w5⟩)
      refine ⟨l, hl1, fun i x hx => ?_⟩
      obtain ⟨hlt, rfl⟩ := List.getElem?_eq_some_iff.1 hx
      obtain ⟨c0, c1, c2, c3, c4, c5, hb, h4⟩ := hl2 i (by omega)
      rw [hx] at c0 c1 c2 c3 c4 c5 h4
      exact ⟨_, _, by obtain ⟨b, o, s⟩ := a'; simp_all, hb, c0, c1, c2, c3, c4, c5, h4⟩
    · obtain rfl : len = 0 := by omega
      exact ⟨[], rfl, fun i x hx => by simp at hx⟩
end Go.Proofs.YtmdfickejpeofaaGreat

/- An entry among the cells of a row of steps. -/
set_option linter.unusedVariables false
set_option linter.unusedSimpArgs false
namespace Go.Proofs.YtmdfickejpeofaaGreat
open Go.ChangeShapes Go.WideShapes Go.Deep Go.RowKit
section
variable {H : Type} {enc : TypeId × Value → H} {w : World} {base : Nat} {spare : Nat → Bool} {held : Bool} {n : Nat}
theorem one_int {t : TypeId} (ht : Tryz.prog.underlying t = some (.int .i64)) {c : Value} {y : DataW H × List MemPlace} (h : DataW.trod enc Tryz.prog w base spare held n t [c] = some y) : ∃ a : Int, c = .int .i64 a ∧ -9223372036854775808 ≤ a ∧ a ≤ 9223372036854775807 := by
  obtain ⟨x0, e0, _, w0⟩ := DataW.trod_int ht h
  obtain rfl := List.cons.inj e0 |>.1
  exact ⟨x0, rfl, i64e w0⟩
theorem en_of {cs : List Value} {y : DataW H × List MemPlace} (hl : cs.length = 6) (h : DataW.trod enc Tryz.prog w base spare held n 56 cs = some y) : ∃ x : En, cs = enC x ∧ -9223372036854775808 ≤ x.size ∧ x.size ≤ 9223372036854775807 := by
  obtain ⟨c0, c1, c2, c3, c4, c5, rfl⟩ : ∃ c0 c1 c2 c3 c4 c5, cs = [c0, c1, c2, c3, c4, c5] := by
    match cs, hl with
    | [c0, c1, c2, c3, c4, c5], _ => exact ⟨c0, c1, c2, c3, c4, c5, rfl⟩
  obtain ⟨ys, m, _, _, _, hyl, hf⟩ := DataW.trod_struct Tryz.underlying56 h
  obtain ⟨y0, y1, y2, y3, y4, y5, rfl⟩ : ∃ y0 y1 y2 y3 y4 y5, ys = [y0, y1, y2, y3, y4, y5] := by
    match ys, hyl with
    | [y0, y1, y2, y3, y4, y5], _ => exact ⟨y0, y1, y2, y3, y4, y5, rfl⟩
  have h0 : DataW.trod enc Tryz.prog w base spare held m 2 (([c0, c1, c2, c3, c4, c5].drop 0).take (Tryz.prog.cellsOf 2)) = some y0 := hf 0 _ rfl
  rw [show Tryz.prog.cellsOf 2 = 1 by kernel_rfl] at h0
  have h1 : DataW.trod enc Tryz.prog w base spare held m 9 (([c0, c1, c2, c3, c4, c5].drop 1).take (Tryz.prog.cellsOf 9)) = some y1 := hf 1 _ rfl
  rw [show Tryz.prog.cellsOf 9 = 1 by kernel_rfl] at h1
  have h2 : DataW.trod enc Tryz.prog w base spare held m 4 (([c0, c1, c2, c3, c4, c5].drop 2).take (Tryz.prog.cellsOf 4)) = some y2 := hf 2 _ rfl
  rw [show Tryz.prog.cellsOf 4 = 1 by kernel_rfl] at h2
  have h3 : DataW.trod enc Tryz.prog w base spare held m 3 (([c0, c1, c2, c3, c4, c5].drop 3).take (Tryz.prog.cellsOf 3)) = some y3 := hf 3 _ rfl
  rw [show Tryz.prog.cellsOf 3 = 1 by kernel_rfl] at h3
  have h4 : DataW.trod enc Tryz.prog w base spare held m 3 (([c0, c1, c2, c3, c4, c5].drop 4).take (Tryz.prog.cellsOf 3)) = some y4 := hf 4 _ rfl
  rw [show Tryz.prog.cellsOf 3 = 1 by kernel_rfl] at h4
  have h5 : DataW.trod enc Tryz.prog w base spare held m 3 (([c0, c1, c2, c3, c4, c5].drop 5).take (Tryz.prog.cellsOf 3)) = some y5 := hf 5 _ rfl
  rw [show Tryz.prog.cellsOf 3 = 1 by kernel_rfl] at h5
  obtain ⟨a0, rfl, _, _⟩ := one_int Tryz.underlying2 (show DataW.trod enc Tryz.prog w base spare held m 2 [c0] = some y0 from h0)
  obtain ⟨a1, e1, _⟩ := DataW.trod_string Tryz.underlying9 (show DataW.trod enc Tryz.prog w base spare held m 9 [c1] = some y1 from h1)
  obtain ⟨a2, e2, _⟩ := DataW.trod_bool Tryz.underlying4 (show DataW.trod enc Tryz.prog w base spare held m 4 [c2] = some y2 from h2)
  obtain ⟨a3, rfl, _, _⟩ := one_int Tryz.underlying3 (show DataW.trod enc Tryz.prog w base spare held m 3 [c3] = some y3 from h3)
  obtain ⟨a4, rfl, _, _⟩ := one_int Tryz.underlying3 (show DataW.trod enc Tryz.prog w base spare held m 3 [c4] = some y4 from h4)
  obtain ⟨a5, rfl, b1, b2⟩ := one_int Tryz.underlying3 (show DataW.trod enc Tryz.prog w base spare held m 3 [c5] = some y5 from h5)
  obtain rfl := List.cons.inj e1 |>.1
  obtain rfl := List.cons.inj e2 |>.1
  exact ⟨⟨a0, a1, a2, a3, a4, a5⟩, rfl, b1, b2⟩
end
end Go.Proofs.YtmdfickejpeofaaGreat
