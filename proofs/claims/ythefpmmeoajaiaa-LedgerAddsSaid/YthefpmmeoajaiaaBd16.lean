/- LedgerSums in plain Lean. No walk. -/
import Derived.Test.YthefpmmeoajaiaaBd11
import Derived.Test.YthefpmmeoajaiaaBd15
import Derived.Test.YthefpmmeoajaiaaBd7
import Derived.Test.YthefpmmeoajaiaaBd12
import Derived.Test.YthefpmmeoajaiaaBd9
set_option linter.unusedVariables false
set_option linter.unusedSimpArgs false
namespace Go.Proofs.Ythefpmmeoajaiaa

/-! ### The greatest number -/
structure MaxQ (l : List En) (m : Int) : Prop where
  ge : ∀ e ∈ l, e.seq ≤ m
  z : 0 ≤ m
  at' : m = 0 ∨ ∃ e ∈ l, m = e.seq
theorem MaxQ.uniq {l : List En} {m n : Int} (h : MaxQ l m) (g : MaxQ l n) : m = n := by
  rcases h.at' with h1 | ⟨e, he, h1⟩ <;> rcases g.at' with g1 | ⟨f, hf, g1⟩
  · omega
  · have := h.ge f hf; have := g.z; have := h.z; omega
  · have := g.ge e he; have := h.z; have := g.z; omega
  · have := g.ge e he; have := h.ge f hf; omega
theorem MaxQ.perm {l l' : List En} {m : Int} (h : MaxQ l m) (p : l.Perm l') : MaxQ l' m := ⟨fun e he => h.ge e (p.mem_iff.2 he), h.z, h.at'.imp id (fun ⟨e, he, x⟩ => ⟨e, p.mem_iff.1 he, x⟩)⟩
theorem MaxQ.nil : MaxQ [] 0 := ⟨(fun _ h => by cases h), Int.le_refl _, .inl rfl⟩
theorem MaxQ.app {l l' : List En} {m n : Int} (h : MaxQ l m) (g : MaxQ l' n) : MaxQ (l ++ l') (max m n) := by
  have h0 := h.z
  have g0 := g.z
  refine ⟨fun e he => ?_, by omega, ?_⟩
  · rcases List.mem_append.1 he with he | he
    · have := h.ge e he; omega
    · have := g.ge e he; omega
  · rcases Int.le_total m n with hm | hm
    · rw [show max m n = n by omega]
      exact g.at'.imp id (fun ⟨e, he, x⟩ => ⟨e, List.mem_append_right _ he, x⟩)
    · rw [show max m n = m by omega]
      exact h.at'.imp id (fun ⟨e, he, x⟩ => ⟨e, List.mem_append_left _ he, x⟩)
theorem head_max {X : IX} (h : X.Wf) (k : ByteArray) : MaxQ (X.of k) ((X.of k).headD zE).seq := by
  have hp := h.ofPair k
  cases hl : X.of k with
  | nil => exact MaxQ.nil
  | cons e r =>
    rw [hl] at hp
    have hp := List.pairwise_cons.1 hp
    have hv : 1 ≤ e.seq := by
      have h1 := (h.of_mem k e).1 (by rw [hl]; simp)
      have := (valid_iff e).1 (h.valid h1.1).1
      omega
    refine ⟨fun o ho => ?_, by show 0 ≤ e.seq; omega, .inr ⟨e, by simp, rfl⟩⟩
    show o.seq ≤ e.seq
    rcases List.mem_cons.1 ho with rfl | ho
    · exact Int.le_refl _
    · have := of_decide_eq_true (hp.1 o ho)
      omega
theorem lastF_max {X : IX} (h : X.Wf) : ∀ (n : Nat) (ks : List ByteArray), ks.length = n → MaxQ ((ks.map X.of).flatten) (lastF X ks)
  | 0, ks, hk => by rw [List.eq_nil_of_length_eq_zero hk]; exact MaxQ.nil
  | n + 1, ks, hk => by
    have hne : ks ≠ [] := fun h => by rw [h] at hk; cases hk
    obtain ⟨d, k, rfl⟩ : ∃ d k, ks = d ++ [k] := ⟨_, _, (List.dropLast_concat_getLast hne).symm⟩
    rw [List.length_append] at hk
    have h1 := lastF_max h n d (by simpa using hk)
    have h2 := h1.app (head_max h k)
    rw [← lastF_snoc] at h2
    refine h2.perm ?_
    rw [List.map_append, List.flatten_append]
    simp
theorem of_keys' {X : IX} (h : X.Wf) : ∀ x ∈ X.keys, X.of x.1 = x.2 := fun x hx => by
  unfold IX.of
  rw [(look_mem ordS h.k0 x.1 x.2).2 hx]
  rfl
theorem last_max {X : IX} (h : X.Wf) : MaxQ X.ents X.last := by
  have h1 := lastF_max h _ X.ks rfl
  have e : (X.ks.map X.of).flatten = X.keys.flatMap Prod.snd := by
    unfold IX.ks
    rw [List.map_map, List.flatMap]
    congr 1
    exact List.map_congr_left (fun x hx => of_keys' h x hx)
  rw [e] at h1
  exact h1.perm h.v

/-! ### The bytes of a slot -/
theorem acc_sum (X : IX) : ∀ (l : List En) (a : AccB), (l.foldl (stepB X) a).l + (l.foldl (stepB X) a).t + (l.foldl (stepB X) a).d = a.l + a.t + a.d + sumE l
  | [], a => by simp [sumE]
  | e :: l, a => by
    rw [List.foldl_cons, acc_sum X l]
    have : (stepB X a e).l + (stepB X a e).t + (stepB X a e).d = a.l + a.t + a.d + e.size := by
      unfold stepB
      (repeat' split) <;> simp only <;> omega
    rw [this]
    simp only [sumE]
    omega
theorem acc_max (X : IX) : ∀ (n : Nat) (l : List En), l.length = n → (∀ e ∈ l, 0 ≤ e.seq) → MaxQ l (accB X l).last
  | 0, l, hl, _ => by rw [List.eq_nil_of_length_eq_zero hl]; exact MaxQ.nil
  | n + 1, l, hl, h0 => by
    have hne : l ≠ [] := fun h => by rw [h] at hl; cases hl
    obtain ⟨d, x, rfl⟩ : ∃ d x, l = d ++ [x] := ⟨_, _, (List.dropLast_concat_getLast hne).symm⟩
    rw [List.length_append] at hl
    have h1 := acc_max X n d (by simpa using hl) (fun y hy => h0 y (List.mem_append_left _ hy))
    have h2 : MaxQ [x] x.seq := ⟨fun y hy => by rw [List.mem_singleton.1 hy]; exact Int.le_refl _, h0 x (by simp), .inr ⟨_, by simp, rfl⟩⟩
    have h3 := h1.app h2
    have h4 : (accB X (d ++ [x])).last = max (accB X d).last x.seq := by
      rw [accB_snoc]
      unfold stepB
      (repeat' split) <;> rfl
    rw [h4]
    exact h3
theorem byOf_total (X : IX) (s : Int) : (byOf X s).total = sumE (X.slot s) := by
  have := acc_sum X (X.slot s) ⟨0, 0, 0, 0⟩
  show (accB X (X.slot s)).l + (accB X (X.slot s)).t + (accB X (X.slot s)).d = _
  unfold accB
  rw [this]
  simp
theorem slot_max {X : IX} (h : X.Wf) (s : Int) : MaxQ (X.slot s) (byOf X s).last :=
  acc_max X _ (X.slot s) rfl (fun e he => by have := (valid_iff e).1 ((h.slotOk s).e e he).2; omega)
theorem sumE_pos {X : IX} (h : X.Wf) (s : Int) : 0 ≤ sumE (X.slot s) ∧ (sumE (X.slot s) = 0 → X.slot s = []) := by
  have hv : ∀ e ∈ X.slot s, 16 ≤ e.size := fun e he => by have := (valid_iff e).1 ((h.slotOk s).e e he).2; omega
  generalize X.slot s = l at hv
  have hp : ∀ l : List En, (∀ e ∈ l, 16 ≤ e.size) → 0 ≤ sumE l := by
    intro l
    induction l with
    | nil => intro _; exact Int.le_refl _
    | cons e l ih => intro hh; have := ih (fun x hx => hh x (List.mem_cons_of_mem _ hx)); have := hh e (by simp); show 0 ≤ e.size + sumE l; omega
  refine ⟨hp l hv, fun h0 => ?_⟩
  cases l with
  | nil => rfl
  | cons e l =>
    have := hp l (fun x hx => hv x (List.mem_cons_of_mem _ hx))
    have := hv e (by simp)
    have h0 : e.size + sumE l = 0 := h0
    omega
structure ByOk (b : By) (m : Int) : Prop where
  l : 0 ≤ b.live
  t : 0 ≤ b.tombs
  d : 0 ≤ b.dead
  s : b.total = b.live + b.tombs + b.dead
  m : b.total ≤ m
  q0 : 0 ≤ b.last
  q1 : b.last ≤ 1099511627776
  z : b.last = 0 ↔ b.total = 0
theorem ByOk.chk {b : By} {m : Int} (h : ByOk b m) (hm : m ≤ 262144) : chkBy b = 0 := by
  obtain ⟨h1, h2, h3, h4, h5, h6, h7, h8⟩ := h
  unfold chkBy inBy
  rw [if_pos]
  exact ⟨decide_eq_true ⟨h1, by omega⟩, decide_eq_true ⟨h2, by omega⟩, decide_eq_true ⟨h3, by omega⟩, decide_eq_true ⟨by omega, by omega⟩, h4, h6, h7, h8⟩
theorem ByOk.add {a b : By} {m n : Int} (h : ByOk a m) (g : ByOk b n) : ByOk (addB a b) (m + n) := by
  obtain ⟨h1, h2, h3, h4, h5, h6, h7, h8⟩ := h
  obtain ⟨g1, g2, g3, g4, g5, g6, g7, g8⟩ := g
  refine ⟨by show 0 ≤ a.live + b.live; omega, by show 0 ≤ a.tombs + b.tombs; omega, by show 0 ≤ a.dead + b.dead; omega, by show a.total + b.total = a.live + b.live + (a.tombs + b.tombs) + (a.dead + b.dead); omega, by show a.total + b.total ≤ m + n; omega, by show 0 ≤ max a.last b.last; omega, by show max a.last b.last ≤ 1099511627776; omega, ?_⟩
  show max a.last b.last = 0 ↔ a.total + b.total = 0
  constructor
  · intro hh
    have := h8.1 (by omega)
    have := g8.1 (by omega)
    omega
  · intro hh
    have := h8.2 (by omega)
    have := g8.2 (by omega)
    omega
theorem ByOk.zero : ByOk zBy 0 := ⟨Int.le_refl _, Int.le_refl _, Int.le_refl _, rfl, Int.le_refl _, Int.le_refl _, by decide, by simp [zBy]⟩
theorem byOf_ok {X : IX} (h : X.Wf) (s : Int) : ByOk (byOf X s) (sumE (X.slot s)) := by
  have ha := acc_ok X (X.slot s) (fun e he => ((h.slotOk s).e e he).2)
  have hm := slot_max h s
  have ht := byOf_total X s
  refine ⟨ha.l0, ha.t0, ha.d0, rfl, by rw [ht]; exact Int.le_refl _, ha.m0, ha.m1, ?_⟩
  rw [ht]
  constructor
  · intro h0
    cases hl : X.slot s with
    | nil => rfl
    | cons e r =>
      exfalso
      have h1 : e ∈ X.slot s := by rw [hl]; simp
      have h2 := hm.ge e h1
      have := (valid_iff e).1 ((h.slotOk s).e e h1).2
      omega
  · intro h0
    have h1 := (sumE_pos h s).2 h0
    rw [h1] at hm
    exact hm.uniq MaxQ.nil
theorem allL_ok {X : IX} (h : X.Wf) (m : Int) (hm : ∀ s : Int, sumE (X.slot s) ≤ m) : ∀ n : Nat, ByOk (addL (allL X n)) (m * n)
  | 0 => by simpa [allL, addL] using ByOk.zero
  | n + 1 => by
    rw [allL_succ, addL_snoc]
    have h1 := allL_ok h m hm n
    have h2 := byOf_ok h (n : Int)
    have h3 := h1.add h2
    have h4 := hm (n : Int)
    refine ⟨h3.l, h3.t, h3.d, h3.s, Int.le_trans h3.m ?_, h3.q0, h3.q1, h3.z⟩
    rw [show m * ((n + 1 : Nat) : Int) = m * n + m by rw [Int.natCast_add, Int.mul_add]; simp]
    omega
theorem allL_max {X : IX} (h : X.Wf) : ∀ n : Nat, MaxQ (((List.range n).map (fun (i : Nat) => X.slot i)).flatten) (addL (allL X n)).last
  | 0 => MaxQ.nil
  | n + 1 => by
    rw [allL_succ, addL_snoc]
    have h1 := (allL_max h n).app (slot_max h (n : Int))
    rw [List.range_succ, List.map_append, List.flatten_append]
    have e : ([n].map (fun (i : Nat) => X.slot i)).flatten = X.slot (n : Int) := by simp
    rw [e]
    exact h1
theorem slots_flat (X : IX) : ((List.range X.slots.length).map (fun (i : Nat) => X.slot i)).flatten = X.ents := by
  unfold IX.ents
  congr 1
  refine List.ext_getElem? (fun i => ?_)
  by_cases h : i < X.slots.length
  · have h1 : X.slots[i]? = some (X.slots[i]'h) := List.getElem?_eq_getElem h
    rw [List.getElem?_map, List.getElem?_range h, Option.map_some, slot_at h1, h1]
  · rw [List.getElem?_eq_none (by simpa using h), List.getElem?_eq_none (by omega)]
theorem sum_last {X : IX} (h : X.Wf) : (addL (allL X X.slots.length)).last = X.last := by
  have h1 := allL_max h X.slots.length
  rw [slots_flat] at h1
  exact h1.uniq (last_max h)
/-- Total of a slot is what was appended. -/
theorem tot_us {st : PS} {j : Nat} (h : st.Ok j) (s : Int) : (byOf st.X s).total = st.us s := by
  rw [byOf_total, h.t s]
  refine sumE_perm ((slot_perm h.g.wf s).trans ?_)
  exact (h.g.pm.filter _).symm
end Go.Proofs.Ythefpmmeoajaiaa

/- LedgerDrops in plain Lean. No walk. -/
set_option linter.unusedVariables false
set_option linter.unusedSimpArgs false
namespace Go.Proofs.Ythefpmmeoajaiaa

def isNew (X : IX) (e : En) : Bool := decide ((newE (X.of e.key)).seq = e.seq)
theorem acc_lt (X : IX) : ∀ (l : List En) (a : AccB), (l.foldl (stepB X) a).l + (l.foldl (stepB X) a).t = a.l + a.t + sumE (l.filter (isNew X))
  | [], a => by simp [sumE]
  | e :: l, a => by
    rw [List.foldl_cons, acc_lt X l]
    have : (stepB X a e).l + (stepB X a e).t = a.l + a.t + if isNew X e = true then e.size else 0 := by
      unfold stepB classE isNew
      by_cases h : (newE (X.of e.key)).seq = e.seq
      · rw [if_pos h, decide_eq_true h, if_pos rfl]
        cases e.del <;> simp <;> omega
      · rw [if_neg h, decide_eq_false h]
        simp
    rw [this, List.filter_cons]
    split <;> (try simp only [sumE]) <;> omega
theorem byOf_lt (X : IX) (s : Int) : (byOf X s).live + (byOf X s).tombs = sumE ((X.slot s).filter (isNew X)) := by
  have := acc_lt X (X.slot s) ⟨0, 0, 0, 0⟩
  show (accB X (X.slot s)).l + (accB X (X.slot s)).t = _
  unfold accB
  rw [this]
  simp
theorem sumE_mono : ∀ (l : List En) (p q : En → Bool), (∀ e ∈ l, 0 ≤ e.size) → (∀ e ∈ l, p e = true → q e = true) → sumE (l.filter p) ≤ sumE (l.filter q)
  | [], _, _, _, _ => Int.le_refl _
  | e :: l, p, q, h0, h => by
    have h1 := sumE_mono l p q (fun x hx => h0 x (List.mem_cons_of_mem _ hx)) (fun x hx => h x (List.mem_cons_of_mem _ hx))
    have h2 := h0 e (by simp)
    have h3 := h e (by simp)
    rw [List.filter_cons, List.filter_cons]
    cases hp : p e
    · cases hq : q e <;> simp [sumE] <;> omega
    · rw [h3 hp]
      simp [sumE]
      omega
/-- An entry whose number is the greatest of its key stays so where entries of another slot go. -/
theorem new_stays {X : IX} (h : X.Wf) (k : Int) {e : En} (he : e ∈ X.ents) (hk : e.slot ≠ k) (hn : isNew X e = true) : isNew (dropX X k) e = true := by
  have hw := drop_wf h k
  have hm : ∀ o, o ∈ (dropX X k).ents → o ∈ X.ents := fun o ho => by
    have hv := (hw.valid ho).2
    have h1 := (hw.slot_mem o.slot o).2 ⟨ho, rfl⟩
    rw [drop_slot h] at h1
    split at h1
    · cases h1
    · exact ((h.slot_mem _ o).1 h1).1
  have hin : e ∈ (dropX X k).ents := by
    have h1 : e ∈ (dropX X k).slot e.slot := by
      rw [drop_slot h, if_neg hk]
      exact (h.slot_mem _ e).2 ⟨he, rfl⟩
    exact ((hw.slot_mem _ e).1 h1).1
  have h1 := of_decide_eq_true hn
  refine decide_eq_true ?_
  have g1 := head_max h e.key
  have g2 := head_max hw e.key
  have a1 := g2.ge e ((hw.of_mem _ e).2 ⟨hin, rfl⟩)
  show (((dropX X k).of e.key).headD zE).seq = e.seq
  have a2 : (((dropX X k).of e.key).headD zE).seq ≤ ((X.of e.key).headD zE).seq := by
    rcases g2.at' with h2 | ⟨o, ho, h2⟩
    · rw [h2]; exact g1.z
    · rw [h2]
      have h3 := (hw.of_mem _ o).1 ho
      exact g1.ge o ((h.of_mem _ o).2 ⟨hm o h3.1, h3.2⟩)
  have a3 : ((X.of e.key).headD zE).seq = e.seq := h1
  omega
theorem drop_by {X : IX} (h : X.Wf) (k i : Int) (hik : i ≠ k) : (byOf (dropX X k) i).total = (byOf X i).total ∧ (byOf (dropX X k) i).last = (byOf X i).last ∧ (byOf X i).live + (byOf X i).tombs ≤ (byOf (dropX X k) i).live + (byOf (dropX X k) i).tombs := by
  have hs : (dropX X k).slot i = X.slot i := by rw [drop_slot h, if_neg hik]
  refine ⟨by rw [byOf_total, byOf_total, hs], ?_, ?_⟩
  · have h1 := slot_max (drop_wf h k) i
    rw [hs] at h1
    exact h1.uniq (slot_max h i)
  · rw [byOf_lt, byOf_lt, hs]
    refine sumE_mono _ _ _ (fun e he => ?_) (fun e he hn => ?_)
    · have := (valid_iff e).1 ((h.slotOk i).e e he).2
      omega
    · have h1 := (h.slot_mem i e).1 he
      exact new_stays h k h1.1 (by rw [h1.2]; exact hik) hn
theorem drop_zero {X : IX} (h : X.Wf) (k : Int) : byOf (dropX X k) k = zBy := by
  have hs : (dropX X k).slot k = [] := by rw [drop_slot h, if_pos rfl]
  unfold byOf accB
  rw [hs]
  rfl
end Go.Proofs.Ythefpmmeoajaiaa

/- ledger.Check and Age, and the reference's. -/
set_option linter.unusedVariables false
set_option linter.unusedSimpArgs false
namespace Go.Proofs.Ythefpmmeoajaiaa
open Go.RowKit
attribute [local go_sem] OvM cell_ovm obj_ovm

theorem inBy_yes {n : Int} (h : inBy n = true) : 0 ≤ n ∧ n ≤ 262144 := by simpa [inBy] using h
theorem chk_0 {b : By} (h1 : inBy b.live = true) (h2 : inBy b.tombs = true) (h3 : inBy b.dead = true) (h4 : inBy b.total = true) (h5 : b.total = b.live + b.tombs + b.dead) (h6 : 0 ≤ b.last) (h7 : b.last ≤ 1099511627776) (h8 : b.last = 0 ↔ b.total = 0) : chkBy b = 0 := if_pos ⟨h1, h2, h3, h4, h5, h6, h7, h8⟩
theorem chk_2 {b : By} (h : ¬ (inBy b.live = true ∧ inBy b.tombs = true ∧ inBy b.dead = true ∧ inBy b.total = true ∧ b.total = b.live + b.tombs + b.dead ∧ 0 ≤ b.last ∧ b.last ≤ 1099511627776 ∧ (b.last = 0 ↔ b.total = 0))) : chkBy b = 2 := if_neg h
set_option maxRecDepth 40000 in
set_option maxHeartbeats 2000000 in
theorem Check_by (b : By) (w : World) : Calls Try.prog 119 #[byV b] w fun e w' => e = .returned (.int .i64 (chkBy b)) ∧ Gr w w' := by
  obtain ⟨l, hl⟩ : ∃ l : List Int, l = [b.live, b.tombs, b.dead, b.total] := ⟨_, rfl⟩
  have HL := Lib.hid hl
  clear hl
  simp only [byV]
  go_enter Try.func119, Try.ntmps119
  go_wp2_with fail
  obtain ⟨w1, hw1⟩ : ∃ y, y = (w.alloc (.cells #[.int .i64 b.total, .int .i64 b.live, .int .i64 b.tombs, .int .i64 b.dead, .int .i64 b.last] 37)).alloc (.cells #[.int .i64 b.live, .int .i64 b.tombs, .int .i64 b.dead, .int .i64 b.total] 3) := ⟨_, rfl⟩
  obtain ⟨b1, hb1⟩ : ∃ q, q = w.heap.size := ⟨_, rfl⟩
  have HW : Hid (Gr w w1 ∧ w1.heap[b1]? = some (.cells #[.int .i64 b.total, .int .i64 b.live, .int .i64 b.tombs, .int .i64 b.dead, .int .i64 b.last] 37) ∧ ∀ k v, l[k]? = some v → w1.cell? ⟨b1 + 1, k, none⟩ = some (.int .i64 v)) := Lib.hid (by
    have h2 : w1.heap[b1 + 1]? = some (.cells (l.map (Value.int .i64)).toArray 3) := by
      rw [hw1, hb1, HL.out]
      have := blkNew (w.alloc (.cells #[.int .i64 b.total, .int .i64 b.live, .int .i64 b.tombs, .int .i64 b.dead, .int .i64 b.last] 37)) (.cells #[.int .i64 b.live, .int .i64 b.tombs, .int .i64 b.dead, .int .i64 b.total] 3)
      rwa [World.size_alloc] at this
    refine ⟨by rw [hw1]; exact ((Gr.refl w).alloc _).alloc _, by rw [hw1, hb1]; exact blkOld (blkNew w _), fun k v hk => ?_⟩
    rw [(cellsOf h2).1]
    simp [hk])
  have HN : Hid (l.length = 4) := Lib.hid (by rw [HL.out]; rfl)
  rw [← hw1, ← hb1]
  clear hw1 hb1
  go_loop [15] (fun t15 => ∃ k : Nat, k ≤ 4 ∧ t15 = .int .i64 k ∧ Hid (∀ j v, j < k → l[j]? = some v → inBy v = true)) (fun t15 => 4 - (intOf t15).toNat)
  case atStart => exact ⟨0, by omega, rfl, Lib.hid (fun j v h => by omega)⟩
  case round =>
    obtain ⟨k, hk, rfl, HK⟩ := hrel
    by_cases hlt : k < 4
    · have hlt' : (k : Int) < 4 := by omega
      obtain ⟨v, hv⟩ : ∃ v, l[k]? = some v := ⟨_, List.getElem?_eq_getElem (by rw [HN.out]; exact hlt)⟩
      have hc := HW.out.2.2 k v hv
      have HV := Lib.hid hv
      clear hv
      by_cases hin : 0 ≤ v ∧ v ≤ 262144
      · have hI : Hid (inBy v = true) := Lib.hid (by simpa [inBy] using hin)
        obtain ⟨h1, h2⟩ := hin
        go_wp2
        go_round
        case rel => exact ⟨k + 1, by omega, by go_num, Lib.hid (fun j u hj hu => by
          rcases Nat.lt_or_ge j k with h | h
          · exact HK.out j u h hu
          · obtain rfl : j = k := by omega
            rw [HV.out] at hu
            rw [← Option.some.inj hu]; exact hI.out)⟩
        case measure => simp [intOf]; omega
      · have hI : Hid (inBy v = false) := Lib.hid (by simpa [inBy] using hin)
        have HR : Hid (chkBy b = 2) := Lib.hid (chk_2 (fun h => by
          have h0 := HV.out
          have h1 := hI.out
          rw [HL.out] at h0
          obtain ⟨a1, a2, a3, a4, _⟩ := h
          match k, hlt, h0 with
          | 0, _, h0 => simp at h0; rw [h0] at a1; rw [a1] at h1; cases h1
          | 1, _, h0 => simp at h0; rw [h0] at a2; rw [a2] at h1; cases h1
          | 2, _, h0 => simp at h0; rw [h0] at a3; rw [a3] at h1; cases h1
          | 3, _, h0 => simp at h0; rw [h0] at a4; rw [a4] at h1; cases h1))
        by_cases h1 : v < 0
        · clear hin
          go_wp2
          go_ret
          exact ⟨ret_int HR.out.symm, HW.out.1⟩
        · have h2 : 262144 < v := by omega
          clear hin
          go_wp2
          go_ret
          exact ⟨ret_int HR.out.symm, HW.out.1⟩
    · have hlt' : ¬ (k : Int) < 4 := by omega
      have hk4 : k = 4 := by omega
      have a1 : inBy b.live = true := HK.out 0 _ (by omega) (by rw [HL.out]; rfl)
      have a2 : inBy b.tombs = true := HK.out 1 _ (by omega) (by rw [HL.out]; rfl)
      have a3 : inBy b.dead = true := HK.out 2 _ (by omega) (by rw [HL.out]; rfl)
      have a4 : inBy b.total = true := HK.out 3 _ (by omega) (by rw [HL.out]; rfl)
      have HA := Lib.hid (And.intro a1 (And.intro a2 (And.intro a3 a4)))
      obtain ⟨p1, q1⟩ := inBy_yes a1
      obtain ⟨p2, q2⟩ := inBy_yes a2
      obtain ⟨p3, q3⟩ := inBy_yes a3
      obtain ⟨p4, q4⟩ := inBy_yes a4
      have cb := (cellsOf HW.out.2.1).1
      have HG := Lib.hid HW.out.1
      clear a1 a2 a3 a4 hk4 HK hk HL HW
      obtain ⟨t, l, m, d, s⟩ := b
      simp only at *
      by_cases t1 : t = l + m + d
      · subst t1
        by_cases t2 : s < 0
        · have HR : Hid (chkBy ⟨l + m + d, l, m, d, s⟩ = 2) := Lib.hid (chk_2 (fun h => by have h5 := h.2.2.2.2.1; have h6 := h.2.2.2.2.2.1; have h7 := h.2.2.2.2.2.2.1; have h8 := h.2.2.2.2.2.2.2; simp only at h5 h6 h7; first | omega | exact absurd (h8.1 rfl) t5 | (simp only at h8; omega)))
          go_wp2
          go_ret
          exact ⟨ret_int HR.out.symm, HG.out⟩
        · by_cases t3 : 1099511627776 < s
          · have HR : Hid (chkBy ⟨l + m + d, l, m, d, s⟩ = 2) := Lib.hid (chk_2 (fun h => by have h5 := h.2.2.2.2.1; have h6 := h.2.2.2.2.2.1; have h7 := h.2.2.2.2.2.2.1; have h8 := h.2.2.2.2.2.2.2; simp only at h5 h6 h7; first | omega | exact absurd (h8.1 rfl) t5 | (simp only at h8; omega)))
            go_wp2
            go_ret
            exact ⟨ret_int HR.out.symm, HG.out⟩
          · by_cases t4 : s = 0
            · subst t4
              by_cases t5 : l + m + d = 0
              · obtain rfl : l = 0 := by omega
                obtain rfl : m = 0 := by omega
                obtain rfl : d = 0 := by omega
                have HR : Hid (chkBy ⟨0 + 0 + 0, 0, 0, 0, 0⟩ = 0) := Lib.hid (chk_0 HA.out.1 HA.out.2.1 HA.out.2.2.1 HA.out.2.2.2 rfl (by simp) (by simp) (by simp))
                go_wp2
                go_ret
                exact ⟨ret_int HR.out.symm, HG.out⟩
              · have HR : Hid (chkBy ⟨l + m + d, l, m, d, 0⟩ = 2) := Lib.hid (chk_2 (fun h => by have h5 := h.2.2.2.2.1; have h6 := h.2.2.2.2.2.1; have h7 := h.2.2.2.2.2.2.1; have h8 := h.2.2.2.2.2.2.2; simp only at h5 h6 h7; first | omega | exact absurd (h8.1 rfl) t5 | (simp only at h8; omega)))
                have e1 : (l + m + d == 0) = false := by simp [t5]
                go_wp2
                go_ret
                exact ⟨ret_int HR.out.symm, HG.out⟩
            · by_cases t5 : l + m + d = 0
              · obtain rfl : l = 0 := by omega
                obtain rfl : m = 0 := by omega
                obtain rfl : d = 0 := by omega
                have HR : Hid (chkBy ⟨0 + 0 + 0, 0, 0, 0, s⟩ = 2) := Lib.hid (chk_2 (fun h => by have h5 := h.2.2.2.2.1; have h6 := h.2.2.2.2.2.1; have h7 := h.2.2.2.2.2.2.1; have h8 := h.2.2.2.2.2.2.2; simp only at h5 h6 h7; first | omega | exact absurd (h8.1 rfl) t5 | (simp only at h8; omega)))
                have e1 : (s == 0) = false := by simp [t4]
                go_wp2
                go_ret
                exact ⟨ret_int HR.out.symm, HG.out⟩
              · have HR : Hid (chkBy ⟨l + m + d, l, m, d, s⟩ = 0) := Lib.hid (chk_0 HA.out.1 HA.out.2.1 HA.out.2.2.1 HA.out.2.2.2 rfl (by simp only; omega) (by simp only; omega) (by simp only; omega))
                have e1 : (s == 0) = false := by simp [t4]
                have e2 : (l + m + d == 0) = false := by simp [t5]
                go_wp2
                go_ret
                exact ⟨ret_int HR.out.symm, HG.out⟩
      · have HR : Hid (chkBy ⟨t, l, m, d, s⟩ = 2) := Lib.hid (chk_2 (fun h => by have h5 := h.2.2.2.2.1; have h6 := h.2.2.2.2.2.1; have h7 := h.2.2.2.2.2.2.1; have h8 := h.2.2.2.2.2.2.2; simp only at h5 h6 h7; first | omega | exact absurd (h8.1 rfl) t5 | (simp only at h8; omega)))
        have e1 : (t == l + m + d) = false := by simp [t1]
        go_wp2
        go_ret
        exact ⟨ret_int HR.out.symm, HG.out⟩
/-- The age: how much older than the next number. -/
def ageBy (b : By) (n : Int) : Value := if chkBy b = 0 ∧ b.last ≤ n ∧ n ≤ 1099511627777 then .tuple #[.int .i64 (n - b.last), .int .i64 0] else .tuple #[.int .i64 0, .int .i64 2]
theorem age_yes {b : By} {n : Int} (h1 : chkBy b = 0) (h2 : b.last ≤ n) (h3 : n ≤ 1099511627777) : ageBy b n = .tuple #[.int .i64 (n - b.last), .int .i64 0] := if_pos ⟨h1, h2, h3⟩
theorem age_no {b : By} {n : Int} (h : ¬ (chkBy b = 0 ∧ b.last ≤ n ∧ n ≤ 1099511627777)) : ageBy b n = .tuple #[.int .i64 0, .int .i64 2] := if_neg h
theorem chk_or (b : By) : (chkBy b = 0 ∧ 0 ≤ b.last ∧ b.last ≤ 1099511627776) ∨ chkBy b = 2 := by
  unfold chkBy
  split
  · rename_i h; exact .inl ⟨rfl, h.2.2.2.2.2.1, h.2.2.2.2.2.2.1⟩
  · exact .inr rfl
set_option maxRecDepth 40000 in
set_option maxHeartbeats 2000000 in
theorem Age_by (b : By) (n : Int) (w : World) : Calls Try.prog 71 #[byV b, .int .i64 n] w fun e w' => e = .returned (ageBy b n) ∧ Gr w w' := by
  have c0 := (cellsOf (blkNew w (.cells #[.int .i64 b.total, .int .i64 b.live, .int .i64 b.tombs, .int .i64 b.dead, .int .i64 b.last] 37))).1
  have hlt : w.heap.size < (w.alloc (.cells #[.int .i64 b.total, .int .i64 b.live, .int .i64 b.tombs, .int .i64 b.dead, .int .i64 b.last] 37)).heap.size := by simp
  rcases chk_or b with ⟨hc, hl0, hl1⟩ | hc
  · by_cases h1 : n < b.last
    · have HR := Lib.hid (age_no (b := b) (n := n) (fun h => by omega))
      have HC := Lib.hid hc
      clear hc
      simp only [byV]
      go_enter Try.func71, Try.ntmps71
      go_wp2_with fail
      refine (Check_by b _).mono ?_
      rintro e w1 ⟨rfl, hg⟩
      rw [HC.out]
      have d0 := hg.cell
      have HG := Lib.hid (((Gr.refl w).alloc _).trans hg)
      clear hg
      go_wp2
      go_ret2
      exact ⟨by rw [HR.out]; rfl, HG.out⟩
    · by_cases h2 : 1099511627777 < n
      · have HR := Lib.hid (age_no (b := b) (n := n) (fun h => by omega))
        have HC := Lib.hid hc
        clear hc
        simp only [byV]
        go_enter Try.func71, Try.ntmps71
        go_wp2_with fail
        refine (Check_by b _).mono ?_
        rintro e w1 ⟨rfl, hg⟩
        rw [HC.out]
        have d0 := hg.cell
        have HG := Lib.hid (((Gr.refl w).alloc _).trans hg)
        clear hg
        go_wp2
        go_ret2
        exact ⟨by rw [HR.out]; rfl, HG.out⟩
      · have HR := Lib.hid (age_yes (b := b) (n := n) hc (by omega) (by omega))
        have HC := Lib.hid hc
        clear hc
        simp only [byV]
        go_enter Try.func71, Try.ntmps71
        go_wp2_with fail
        refine (Check_by b _).mono ?_
        rintro e w1 ⟨rfl, hg⟩
        rw [HC.out]
        have d0 := hg.cell
        have HG := Lib.hid (((Gr.refl w).alloc _).trans hg)
        clear hg
        go_wp2
        go_ret2
        exact ⟨by rw [HR.out]; rfl, HG.out⟩
  · have HR := Lib.hid (age_no (b := b) (n := n) (fun h => by omega))
    have HC := Lib.hid hc
    clear hc
    simp only [byV]
    go_enter Try.func71, Try.ntmps71
    go_wp2_with fail
    refine (Check_by b _).mono ?_
    rintro e w1 ⟨rfl, hg⟩
    rw [HC.out]
    have d0 := hg.cell
    have HG := Lib.hid (((Gr.refl w).alloc _).trans hg)
    clear hg
    go_wp2
    go_ret2
    exact ⟨by rw [HR.out]; rfl, HG.out⟩
end Go.Proofs.Ythefpmmeoajaiaa

/- drumlinlaw23: the example in plain Lean. -/
set_option linter.unusedVariables false
set_option linter.unusedSimpArgs false
namespace Go.Proofs.Ythefpmmeoajaiaa
open Go.RowKit Go.Shelf
attribute [local go_sem] OvM cell_ovm obj_ovm
attribute [local go_sem] Oper.semAt_some

def lgE1 : En := ⟨1, ⟨#[97]⟩, false, 0, 0, 20⟩
def lgE2 : En := ⟨4, ⟨#[98]⟩, true, 0, 20, 17⟩
def lgE3 : En := ⟨2, ⟨#[98]⟩, false, 1, 0, 30⟩
def lgE4 : En := ⟨3, ⟨#[97]⟩, false, 1, 30, 40⟩
def lgE5 : En := ⟨3, ⟨#[97]⟩, false, 2, 0, 40⟩
def lgX1 : IX := addX (ixNew 3) lgE1
def lgX2 : IX := addX lgX1 lgE2
def lgX3 : IX := addX lgX2 lgE3
def lgX4 : IX := addX lgX3 lgE4
def lgX5 : IX := addX lgX4 lgE5
theorem lg_a1 : addE (ixNew 3) lgE1 = 0 := by kernel_rfl
theorem lg_a2 : addE lgX1 lgE2 = 0 := by kernel_rfl
theorem lg_a3 : addE lgX2 lgE3 = 0 := by kernel_rfl
theorem lg_a4 : addE lgX3 lgE4 = 0 := by kernel_rfl
theorem lg_a5 : addE lgX4 lgE5 = 0 := by kernel_rfl
theorem lg_o0 : ofL lgX4 0 = (⟨37, 0, 17, 20, 4⟩, 0) := by kernel_rfl
theorem lg_o1 : ofL lgX4 1 = (⟨70, 40, 0, 30, 3⟩, 0) := by kernel_rfl
theorem lg_o3 : ofL lgX4 3 = (zBy, 3) := by kernel_rfl
theorem lg_s : sumBy lgX4 = (⟨107, 40, 17, 50, 4⟩, 0) := by kernel_rfl
theorem lg_o2 : ofL lgX5 2 = (⟨40, 40, 0, 0, 3⟩, 0) := by kernel_rfl
theorem lg_s5 : sumBy lgX5 = (⟨147, 80, 17, 50, 4⟩, 0) := by kernel_rfl
def lgL : List En := [lgE1, lgE2, lgE3, lgE4]
def lgSt : Nat → IX | 0 => ixNew 3 | 1 => lgX1 | 2 => lgX2 | 3 => lgX3 | _ => lgX4
theorem low_one {k : ByteArray} {c : UInt8} (h : k = ⟨#[c]⟩) (hc : c.toNat < 128) : Low k := by
  subst h
  intro j hj
  have h1 : j < 1 := hj
  have h0 : j = 0 := by omega
  subst h0
  exact hc
theorem lg_step : ∀ j x, lgL[j]? = some x → addE (lgSt j) x = 0 ∧ addX (lgSt j) x = lgSt (j + 1) ∧ Low x.key ∧ En64 x := by
  intro j x h
  match j, h with
  | 0, h => cases h; exact ⟨lg_a1, rfl, low_one rfl (by decide), by unfold En64; decide⟩
  | 1, h => cases h; exact ⟨lg_a2, rfl, low_one rfl (by decide), by unfold En64; decide⟩
  | 2, h => cases h; exact ⟨lg_a3, rfl, low_one rfl (by decide), by unfold En64; decide⟩
  | 3, h => cases h; exact ⟨lg_a4, rfl, low_one rfl (by decide), by unfold En64; decide⟩
  | _ + 4, h => cases h
/-- An index made since w. -/
structure IXW (w W : World) (b : Nat) (X : IX) (S : Nat → Prop) : Prop where
  ix : IXR W b X S
  g : Gr w W
  n : ∀ k, S k → w.heap.size ≤ k
theorem IXW.gr {w W W' : World} {b : Nat} {X : IX} {S : Nat → Prop} (h : IXW w W b X S) (g : Gr W W') : IXW w W' b X S := ⟨h.ix.gr g, h.g.trans g, h.n⟩
theorem IXW.post {w W W' : World} {b : Nat} {X X' : IX} {S : Nat → Prop} (h : IXW w W b X S) (p : IXPost b X' S W W') : ∃ S', IXW w W' b X' S' ∧ Mdh S W W' ∧ ∀ k, S' k → S k ∨ W.heap.size ≤ k := by
  obtain ⟨S', h1, h2, h3⟩ := p
  exact ⟨S', ⟨h1, h.g.md h2 h.n, fun k hk => (h3 k hk).elim (h.n k) (fun h4 => Nat.le_trans h.g.sz h4)⟩, h2, h3⟩
set_option maxRecDepth 40000 in
set_option maxHeartbeats 4000000 in
theorem lg_example (w : World) : Calls Try.prog 69 #[] w fun e w' => ∃ b S, e = .returned (.pointer (some ⟨b, 0, none⟩)) ∧ IXW w w' b lgX4 S := by
  have HST := Lib.hid lg_step
  go_enter Try.func69, Try.ntmps69
  go_wp2_with fail
  refine (New_any 3 w (by decide) (by decide)).mono ?_
  rintro e w1 ⟨b, S, rfl, h1, h2, h3⟩
  have H1 : Hid (IXW w w1 b (lgSt 0) S) := Lib.hid ⟨h1, h3, h2⟩
  have HLT : Hid (∀ k, S k → k < w1.heap.size) := Lib.hid (fun k hk => h1.lt k hk)
  clear h1 h2 h3
  go_wp2_with fail
  obtain ⟨g, hg⟩ : ∃ q, q = w1.heap.size := ⟨_, rfl⟩
  obtain ⟨w2, hw2⟩ : ∃ y, y = w1.alloc (.cells #[.int .i64 1, .string { data := #[97] }, .bool false, .int .i64 0, .int .i64 0, .int .i64 20, .int .i64 4, .string { data := #[98] }, .bool true, .int .i64 0, .int .i64 20, .int .i64 17, .int .i64 2, .string { data := #[98] }, .bool false, .int .i64 1, .int .i64 0, .int .i64 30, .int .i64 3, .string { data := #[97] }, .bool false, .int .i64 1, .int .i64 30, .int .i64 40] 43) := ⟨_, rfl⟩
  have H2 : Hid (IXW w w2 b (lgSt 0) S ∧ w2.heap[g]? = some (.cells (rowE lgL).toArray 43) ∧ ¬ S g) := Lib.hid ⟨by rw [hw2]; exact H1.out.gr ((Gr.refl _).alloc _), by rw [hw2, hg]; exact blkNew _ _, fun h => by have := HLT.out _ h; omega⟩
  rw [← hw2, ← hg]
  clear hw2 hg
  go_loopw [17] (fun t17 wx => ∃ (j : Nat) (S : Nat → Prop), j ≤ 4 ∧ t17 = .int .i64 j ∧ Hid (IXW w wx b (lgSt j) S ∧ wx.heap[g]? = some (.cells (rowE lgL).toArray 43) ∧ ¬ S g)) (fun t17 _ => 4 - (intOf t17).toNat)
  case atStart => exact ⟨0, S, by omega, rfl, H2⟩
  case round =>
    obtain ⟨j, S, hj, rfl, HR⟩ := hrel
    by_cases hlt : j < 4
    · have hlt' : (j : Int) < 4 := by omega
      have hx : lgL[j]? = some (lgL[j]'(show j < 4 from hlt)) := List.getElem?_eq_getElem _
      obtain ⟨x, hxx⟩ : ∃ y, lgL[j]? = some y := ⟨_, hx⟩
      have HX := Lib.hid (HST.out j x hxx)
      have cc := (cellsOf HR.out.2.1).1
      have hr : ∀ c u, (enC x)[c]? = some u → wr.cell? ⟨g, j * 6 + c, none⟩ = some u := fun c u hu => (cc _).trans (by rw [List.getElem?_toArray]; exact rowE_get lgL j x hxx c u hu)
      have d0 := hr 0 _ rfl
      have d1 := hr 1 _ rfl
      have d2 := hr 2 _ rfl
      have d3 := hr 3 _ rfl
      have d4 := hr 4 _ rfl
      have d5 := hr 5 _ rfl
      simp only [Nat.add_zero] at d0 d1 d2 d3 d4 d5
      clear hr cc hxx hx
      generalize hst : lgSt (j + 1) = Y1 at HX
      have HY := Lib.hid hst
      clear hst
      go_wp2_with (go_at_call 56; refine (Add_any (HR.out.1.ix.gr ((Gr.refl _).alloc _)) x HX.out.2.2.1 HX.out.2.2.2).mono ?_; rintro e w3 ⟨rfl, hp⟩; rw [HX.out.1]; have HP := Lib.hid hp; clear hp)
      obtain ⟨S', hI, hm, hs⟩ := (HR.out.1.gr ((Gr.refl _).alloc _)).post HP.out
      refine ⟨⟨j + 1, S', by omega, by go_num, Lib.hid ⟨by rw [HY.out, ← HX.out.2.1]; exact hI, hm.blk (((Gr.refl _).alloc _).blk HR.out.2.1) HR.out.2.2, fun h => (hs g h).elim HR.out.2.2 (fun h4 => by have := blkLt HR.out.2.1; rw [World.size_alloc] at h4; omega)⟩⟩, by simp [intOf]; omega⟩
    · have hlt' : ¬ (j : Int) < 4 := by omega
      have hj4 : j = 4 := by omega
      subst hj4
      go_wp2
      go_ret
      exact ⟨b, rfl, S, HR.out.1⟩
end Go.Proofs.Ythefpmmeoajaiaa

/- drumlinlaw23: works. -/
set_option linter.unusedVariables false
set_option linter.unusedSimpArgs false
namespace Go.Proofs.Ythefpmmeoajaiaa
open Go.RowKit Go.Shelf
attribute [local go_sem] OvM cell_ovm obj_ovm
attribute [local go_sem] Oper.semAt_some

theorem IXW.p {w W : World} {b : Nat} {X : IX} {S : Nat → Prop} (h : IXW w W b X S) : IXP W (some ⟨b, 0, none⟩) X S := .inl ⟨b, rfl, h.ix⟩
theorem lg_low5 : Low lgE5.key := low_one rfl (by decide)
theorem lg_64 : En64 lgE5 := by unfold En64; decide
theorem lg_g5 : ageBy ⟨70, 40, 0, 30, 3⟩ 5 = .tuple #[.int .i64 2, .int .i64 0] := by kernel_rfl
theorem lg_g2 : ageBy ⟨70, 40, 0, 30, 3⟩ 2 = .tuple #[.int .i64 0, .int .i64 2] := by kernel_rfl
set_option maxRecDepth 40000 in
set_option maxHeartbeats 4000000 in
theorem lg_works (w : World) : Calls Try.prog 21 #[] w fun e w' => e = .returned (.bool true) ∧ Gr w w' := by
  go_enter Try.func21, Try.ntmps21
  go_wp2_with fail
  refine (lg_example w).mono ?_
  rintro e w1 ⟨b, S, rfl, h1⟩
  have H1 := Lib.hid h1
  clear h1
  go_wp2_with fail
  refine (OfL_any H1.out.p 0).mono ?_
  rintro e w2 ⟨rfl, hg2⟩
  rw [lg_o0]
  simp only [byV]
  have H2 := Lib.hid (H1.out.gr hg2)
  clear hg2
  go_wp2_with fail
  refine (OfL_any (H2.out.gr ((Gr.refl _).alloc _)).p 1).mono ?_
  rintro e w3 ⟨rfl, hg3⟩
  rw [lg_o1]
  simp only [byV]
  have H3 := Lib.hid ((H2.out.gr ((Gr.refl _).alloc _)).gr hg3)
  obtain ⟨b2, hb2⟩ : ∃ q, q = w2.heap.size := ⟨_, rfl⟩
  have HB2 : Hid (w3.heap[b2]? = some (.cells #[.int .i64 37, .int .i64 0, .int .i64 17, .int .i64 20, .int .i64 4] 37)) := Lib.hid (by rw [hb2]; exact hg3.blk (blkNew w2 _))
  rw [← hb2]
  clear hg3 hb2
  go_wp2_with fail
  refine (OfL_any (H3.out.gr ((Gr.refl _).alloc _)).p 3).mono ?_
  rintro e w4 ⟨rfl, hg4⟩
  rw [lg_o3]
  simp only [byV, zBy]
  have H4 := Lib.hid ((H3.out.gr ((Gr.refl _).alloc _)).gr hg4)
  obtain ⟨b3, hb3⟩ : ∃ q, q = w3.heap.size := ⟨_, rfl⟩
  have HB3 : Hid (w4.heap[b2]? = some (.cells #[.int .i64 37, .int .i64 0, .int .i64 17, .int .i64 20, .int .i64 4] 37) ∧ w4.heap[b3]? = some (.cells #[.int .i64 70, .int .i64 40, .int .i64 0, .int .i64 30, .int .i64 3] 37)) := Lib.hid ⟨hg4.blk (((Gr.refl _).alloc _).blk HB2.out), by rw [hb3]; exact hg4.blk (blkNew w3 _)⟩
  rw [← hb3]
  clear hg4 hb3
  go_wp2_with fail
  refine (Sum_any (H4.out.gr ((Gr.refl _).alloc _)).p).mono ?_
  rintro e w5 ⟨rfl, hg5⟩
  rw [lg_s]
  simp only [byV]
  have H5 := Lib.hid ((H4.out.gr ((Gr.refl _).alloc _)).gr hg5)
  obtain ⟨c2, _⟩ := cellsOf (hg5.blk (((Gr.refl _).alloc _).blk HB3.out.1))
  obtain ⟨c3, _⟩ := cellsOf (hg5.blk (((Gr.refl _).alloc _).blk HB3.out.2))
  have HB5 := Lib.hid (And.intro (hg5.blk (((Gr.refl _).alloc _).blk HB3.out.1)) (hg5.blk (((Gr.refl _).alloc _).blk HB3.out.2)))
  have l2 := blkLt HB5.out.1
  have l3 := blkLt HB5.out.2
  clear hg5
  go_wp2_with fail
  have H5' := Lib.hid (H5.out.gr ((Gr.refl _).alloc (.cells #[.int .i64 107, .int .i64 40, .int .i64 17, .int .i64 50, .int .i64 4] 37)))
  obtain ⟨b8, hb8⟩ : ∃ q, q = w5.heap.size := ⟨_, rfl⟩
  have HB5' : Hid ((w5.alloc (.cells #[.int .i64 107, .int .i64 40, .int .i64 17, .int .i64 50, .int .i64 4] 37)).heap[b8]? = some (.cells #[.int .i64 107, .int .i64 40, .int .i64 17, .int .i64 50, .int .i64 4] 37) ∧ (w5.alloc (.cells #[.int .i64 107, .int .i64 40, .int .i64 17, .int .i64 50, .int .i64 4] 37)).heap[b3]? = some (.cells #[.int .i64 70, .int .i64 40, .int .i64 0, .int .i64 30, .int .i64 3] 37)) := Lib.hid ⟨by rw [hb8]; exact blkNew w5 _, ((Gr.refl _).alloc _).blk HB5.out.2⟩
  have HN8 : Hid (¬ S b8 ∧ w.heap.size ≤ b8) := Lib.hid ⟨fun h => by have := H5.out.ix.lt _ h; omega, by have := H5.out.g.sz; omega⟩
  rw [← hb8]
  clear hb8 c2 c3 l2 l3
  generalize w5.alloc (.cells #[.int .i64 107, .int .i64 40, .int .i64 17, .int .i64 50, .int .i64 4] 37) = w5' at *
  refine (Age_by ⟨70, 40, 0, 30, 3⟩ 5 _).mono ?_
  rintro e w6 ⟨rfl, hg6⟩
  rw [lg_g5]
  have H6 := Lib.hid (H5'.out.gr hg6)
  have HB6 := Lib.hid (And.intro (hg6.blk HB5'.out.1) (hg6.blk HB5'.out.2))
  obtain ⟨c3, _⟩ := cellsOf HB6.out.2
  have l3 := blkLt HB6.out.2
  clear hg6
  go_wp2_with fail
  refine (Age_by ⟨70, 40, 0, 30, 3⟩ 2 _).mono ?_
  rintro e w7 ⟨rfl, hg7⟩
  rw [lg_g2]
  have H7 := Lib.hid (H6.out.gr hg7)
  have HB7 := Lib.hid (hg7.blk HB6.out.1)
  clear hg7 c3 l3
  go_wp2_with (go_at_call 56; refine (Add_any H7.out.ix lgE5 lg_low5 lg_64).mono ?_; rintro e w8 ⟨rfl, hp⟩; rw [lg_a5]; have HP := Lib.hid hp; clear hp)
  obtain ⟨S8, hI8, hm8, hs8⟩ := H7.out.post HP.out
  have H8 : Hid (IXW w w8 b lgX5 S8) := Lib.hid hI8
  have HB8 := Lib.hid (hm8.blk HB7.out HN8.out.1)
  clear hI8 hm8 hs8
  refine (OfL_any H8.out.p 2).mono ?_
  rintro e w9 ⟨rfl, hg9⟩
  rw [lg_o2]
  simp only [byV]
  have H9 := Lib.hid (H8.out.gr hg9)
  have HB9 := Lib.hid (hg9.blk HB8.out)
  clear hg9
  go_wp2_with fail
  refine (Sum_any (H9.out.gr ((Gr.refl _).alloc _)).p).mono ?_
  rintro e w10 ⟨rfl, hg10⟩
  rw [lg_s5]
  simp only [byV]
  have H10 := Lib.hid ((H9.out.gr ((Gr.refl _).alloc _)).gr hg10)
  obtain ⟨b11, hb11⟩ : ∃ q, q = w9.heap.size := ⟨_, rfl⟩
  have HB11 : Hid (w10.heap[b11]? = some (.cells #[.int .i64 40, .int .i64 40, .int .i64 0, .int .i64 0, .int .i64 3] 37)) := Lib.hid (by rw [hb11]; exact hg10.blk (blkNew w9 _))
  have HB10 := Lib.hid (hg10.blk (((Gr.refl _).alloc _).blk HB9.out))
  have hne : b11 ≠ b8 := by have := blkLt HB9.out; omega
  rw [← hb11]
  obtain ⟨c11, _⟩ := cellsOf HB11.out
  obtain ⟨c8, f8⟩ := cellsOf HB10.out
  clear hg10 hb11
  go_wp2_with fail
  go_ret
  exact ⟨rfl, Gr.cell5 H10.out.g HN8.out.2 _ _ _ _ _⟩
end Go.Proofs.Ythefpmmeoajaiaa

/- LedgerSums. -/
set_option linter.unusedVariables false
set_option linter.unusedSimpArgs false
namespace Go.Proofs.Ythefpmmeoajaiaa
open Go.RowKit Go.Shelf
attribute [local go_sem] OvM cell_ovm obj_ovm
attribute [local go_sem] Oper.semAt_some

abbrev boxB (b : By) : Obj := .cells #[.int .i64 b.total, .int .i64 b.live, .int .i64 b.tombs, .int .i64 b.dead, .int .i64 b.last] 37
set_option maxRecDepth 40000 in
theorem neqB_same (b : By) (w : World) : (binOp .neq 37 (.agg #[.int .i64 b.total, .int .i64 b.live, .int .i64 b.tombs, .int .i64 b.dead, .int .i64 b.last]) (.agg #[.int .i64 b.total, .int .i64 b.live, .int .i64 b.tombs, .int .i64 b.dead, .int .i64 b.last])).run Try.prog w = .ok (.bool false) w := by
  rw [run_neq_struct]
  have h : (Op.equalIn 10000 37 (.agg #[.int .i64 b.total, .int .i64 b.live, .int .i64 b.tombs, .int .i64 b.dead, .int .i64 b.last]) (.agg #[.int .i64 b.total, .int .i64 b.live, .int .i64 b.tombs, .int .i64 b.dead, .int .i64 b.last])).run Try.prog w = .ok true w := by
    simp [go_sem]
  rw [h]
  rfl
set_option maxRecDepth 40000 in
theorem eqlB_same (b : By) (w : World) : (binOp .eql 37 (.agg #[.int .i64 b.total, .int .i64 b.live, .int .i64 b.tombs, .int .i64 b.dead, .int .i64 b.last]) (.agg #[.int .i64 b.total, .int .i64 b.live, .int .i64 b.tombs, .int .i64 b.dead, .int .i64 b.last])).run Try.prog w = .ok (.bool true) w := by
  rw [run_eql_struct]
  have h : (Op.equalIn 10000 37 (.agg #[.int .i64 b.total, .int .i64 b.live, .int .i64 b.tombs, .int .i64 b.dead, .int .i64 b.last]) (.agg #[.int .i64 b.total, .int .i64 b.live, .int .i64 b.tombs, .int .i64 b.dead, .int .i64 b.last])).run Try.prog w = .ok true w := by
    simp [go_sem]
  rw [h]
  rfl
/-- What a builder of chapter 23 leaves, for its laws. -/
structure St23 (st : PS) : Prop where
  ok : st.Ok 61
  n : st.X.slots.length = 6
  ne : st.X.slots ≠ []
  wf : st.X.Wf
  us : ∀ s, 0 ≤ st.us s ∧ st.us s ≤ 7198
  tot : ∀ s, (byOf st.X s).total = st.us s
  by' : ∀ s, ByOk (byOf st.X s) 7198
theorem PS.st {st : PS} {j : Nat} (h : st.Ok j) (hj : j ≤ 61) : St23 st := by
  have h1 := PS.later h hj
  have hn : st.X.slots.length = 6 := by have := h.g.ln; omega
  have hu : ∀ s, 0 ≤ st.us s ∧ st.us s ≤ 7198 := fun s => by have := h1.u s; omega
  refine ⟨h1, hn, h.g.ne, h.g.wf, hu, tot_us h, fun s => ?_⟩
  have hb := byOf_ok h.g.wf s
  have ht := tot_us h s
  have hs := hu s
  exact ⟨hb.l, hb.t, hb.d, hb.s, by omega, hb.q0, hb.q1, hb.z⟩
theorem St23.sumE {st : PS} (h : St23 st) (s : Int) : sumE (st.X.slot s) ≤ 7198 := by
  rw [← byOf_total, h.tot]
  exact (h.us s).2
theorem St23.sum {st : PS} (h : St23 st) (n : Nat) : ByOk (addL (allL st.X n)) (7198 * n) := allL_ok h.wf 7198 h.sumE n
theorem St23.sumBy {st : PS} (h : St23 st) : sumBy st.X = (addL (allL st.X 6), 0) := by
  unfold Go.Proofs.Ythefpmmeoajaiaa.sumBy
  rw [if_neg (by rw [h.n]; decide), h.n]
theorem St23.of {st : PS} (h : St23 st) {s : Int} (h0 : 0 ≤ s) (h1 : s < 6) : ofL st.X s = (byOf st.X s, 0) := by
  unfold ofL
  rw [if_neg (by rw [h.n]; decide), if_neg (by rw [h.n]; omega)]
theorem allL_get (X : IX) {n j : Nat} (h : j < n) : (allL X n)[j]? = some (byOf X (j : Int)) := by
  unfold allL
  rw [List.getElem?_map, List.getElem?_range h]
  rfl
theorem allL_len (X : IX) (n : Nat) : (allL X n).length = n := by simp [allL]
end Go.Proofs.Ythefpmmeoajaiaa

/- LedgerAdds in plain Lean. No walk. -/
set_option linter.unusedVariables false
set_option linter.unusedSimpArgs false
namespace Go.Proofs.Ythefpmmeoajaiaa

theorem sumE_split (p q : En → Bool) : ∀ l : List En, sumE (l.filter p) = sumE (l.filter (fun e => p e && q e)) + sumE (l.filter (fun e => p e && !q e))
  | [] => rfl
  | e :: l => by
    have h := sumE_split p q l
    rw [List.filter_cons, List.filter_cons, List.filter_cons]
    cases p e <;> cases q e <;> simp [sumE] <;> omega
theorem filter_same {p q : En → Bool} {l : List En} (h : ∀ e ∈ l, p e = q e) : l.filter p = l.filter q := by
  induction l with
  | nil => rfl
  | cons e l ih =>
    rw [List.filter_cons, List.filter_cons, h e (by simp), ih (fun x hx => h x (List.mem_cons_of_mem _ hx))]
section
variable {X : IX} {e : En}
theorem add_mem (h : X.Wf) (a : AddOk X e) (o : En) : o ∈ (addX X e).ents ↔ o = e ∨ o ∈ X.ents := by
  rw [(add_ents h a).mem_iff]; simp
theorem ltE_pair {l m : List En} (hl : l.Pairwise (fun a b => ltE a b = true)) (hm : m.Pairwise (fun a b => ltE a b = true)) (h : ∀ x, x ∈ l ↔ x ∈ m) : l = m :=
  pair_eq (R := fun a b => ltE a b = true) (fun a => by rw [ltE_irr]; decide) (fun a b c h1 h2 => ltE_trn h1 h2) hl hm h
theorem of_other (h : X.Wf) (a : AddOk X e) {k : ByteArray} (hk : k ≠ e.key) : (addX X e).of k = X.of k := by
  have hw := add_wf h a
  refine ltE_pair (hw.ofPair k) (h.ofPair k) (fun o => ?_)
  rw [hw.of_mem, h.of_mem, add_mem h a]
  constructor
  · rintro ⟨rfl | h1, h2⟩
    · exact absurd h2.symm hk
    · exact ⟨h1, h2⟩
  · exact fun ⟨h1, h2⟩ => ⟨.inr h1, h2⟩
theorem of_same (h : X.Wf) (a : AddOk X e) (hq : ∀ o ∈ X.ents, o.seq < e.seq) : (addX X e).of e.key = e :: X.of e.key := by
  have hw := add_wf h a
  refine ltE_pair (hw.ofPair _) (List.pairwise_cons.2 ⟨fun o ho => ?_, h.ofPair _⟩) (fun o => ?_)
  · have h1 := (h.of_mem _ o).1 ho
    have := hq o h1.1
    unfold ltE
    exact decide_eq_true (.inl this)
  · rw [hw.of_mem, add_mem h a, List.mem_cons, h.of_mem]
    constructor
    · rintro ⟨rfl | h1, h2⟩
      · exact .inl rfl
      · exact .inr ⟨h1, h2⟩
    · rintro (rfl | ⟨h1, h2⟩)
      · exact ⟨.inl rfl, rfl⟩
      · exact ⟨.inr h1, h2⟩
theorem slot_other (h : X.Wf) (a : AddOk X e) {s : Int} (hs : s ≠ e.slot) : (addX X e).slot s = X.slot s := by
  have hw := add_wf h a
  refine pair_eq (R := fun a b => a.off + a.size ≤ b.off ∧ a.off < b.off) (fun a h => by omega) (fun a b c h1 h2 => by omega) (slot_lt (hw.slotOk s)) (slot_lt (h.slotOk s)) (fun o => ?_)
  rw [hw.slot_mem, h.slot_mem, add_mem h a]
  constructor
  · rintro ⟨rfl | h1, h2⟩
    · exact absurd h2.symm hs
    · exact ⟨h1, h2⟩
  · exact fun ⟨h1, h2⟩ => ⟨.inr h1, h2⟩
theorem class_other (h : X.Wf) (a : AddOk X e) {o : En} (hk : o.key ≠ e.key) : classE (addX X e) o = classE X o := by
  unfold classE
  rw [of_other h a hk]
/-- A slot without entries of the key stays. -/
theorem by_other (h : X.Wf) (a : AddOk X e) {s : Int} (hs : s ≠ e.slot) (hk : ∀ o ∈ X.slot s, o.key ≠ e.key) : byOf (addX X e) s = byOf X s := by
  have hc : ∀ (l : List En) (b : AccB), (∀ o ∈ l, o.key ≠ e.key) → l.foldl (stepB (addX X e)) b = l.foldl (stepB X) b := by
    intro l
    induction l with
    | nil => intro b _; rfl
    | cons o l ih =>
      intro b ho
      rw [List.foldl_cons, List.foldl_cons, ih _ (fun x hx => ho x (List.mem_cons_of_mem _ hx))]
      congr 1
      unfold stepB
      rw [class_other h a (ho o (by simp))]
  have : accB (addX X e) ((addX X e).slot s) = accB X (X.slot s) := by
    rw [slot_other h a hs]
    exact hc _ _ hk
  unfold byOf
  rw [this]
theorem isNew_other (h : X.Wf) (a : AddOk X e) (hq : ∀ o ∈ X.ents, o.seq < e.seq) {o : En} (ho : o ∈ X.ents) : isNew (addX X e) o = (isNew X o && !decide (o.key = e.key)) := by
  unfold isNew newE
  by_cases hk : o.key = e.key
  · rw [hk, of_same h a hq, decide_eq_true rfl]
    simp only [Bool.not_true, Bool.and_false]
    refine decide_eq_false (fun hh => ?_)
    have := hq o ho
    have hh : e.seq = o.seq := hh
    omega
  · rw [of_other h a hk, decide_eq_false hk]
    simp
theorem isNew_self (h : X.Wf) (a : AddOk X e) (hq : ∀ o ∈ X.ents, o.seq < e.seq) : isNew (addX X e) e = true := by
  unfold isNew newE
  rw [of_same h a hq]
  exact decide_eq_true rfl
end
theorem allL_lt (X : IX) : ∀ n : Nat, (addL (allL X n)).live + (addL (allL X n)).tombs = sumE ((((List.range n).map (fun (i : Nat) => X.slot i)).flatten).filter (isNew X))
  | 0 => rfl
  | n + 1 => by
    have h1 := allL_lt X n
    have g1 := byOf_lt X (n : Int)
    rw [allL_succ, addL_snoc, List.range_succ, List.map_append, List.flatten_append, List.filter_append, sumE_app]
    have e : ([n].map (fun (i : Nat) => X.slot i)).flatten = X.slot (n : Int) := by simp
    rw [e]
    show (addL (allL X n)).live + (byOf X n).live + ((addL (allL X n)).tombs + (byOf X n).tombs) = _
    omega
theorem allL_tot (X : IX) : ∀ n : Nat, (addL (allL X n)).total = sumE (((List.range n).map (fun (i : Nat) => X.slot i)).flatten)
  | 0 => rfl
  | n + 1 => by
    have h1 := allL_tot X n
    have g1 := byOf_total X (n : Int)
    rw [allL_succ, addL_snoc, List.range_succ, List.map_append, List.flatten_append, sumE_app]
    have e : ([n].map (fun (i : Nat) => X.slot i)).flatten = X.slot (n : Int) := by simp
    rw [e]
    show (addL (allL X n)).total + (byOf X n).total = _
    omega
/-- The bytes that die: those of the entries of the key whose number was the greatest. -/
def deadK (X : IX) (k : ByteArray) (pre : List En) : Int := sumE (pre.filter (fun o => decide (o.seq = ((X.of k).headD zE).seq)))
theorem add_sum {X : IX} {e : En} (h : X.Wf) (a : AddOk X e) (hq : ∀ o ∈ X.ents, o.seq < e.seq) {m m' : Int} (b : ByOk (addL (allL X X.slots.length)) m) (b' : ByOk (addL (allL (addX X e) (addX X e).slots.length)) m') :
    (addL (allL (addX X e) (addX X e).slots.length)).dead = (addL (allL X X.slots.length)).dead + deadK X e.key (X.of e.key) ∧ (addL (allL (addX X e) (addX X e).slots.length)).total = (addL (allL X X.slots.length)).total + e.size ∧ (addL (allL (addX X e) (addX X e).slots.length)).last = e.seq := by
  have hw := add_wf h a
  have l1 := allL_lt X X.slots.length
  have l2 := allL_lt (addX X e) (addX X e).slots.length
  have t1 := allL_tot X X.slots.length
  have t2 := allL_tot (addX X e) (addX X e).slots.length
  rw [slots_flat] at l1 l2 t1 t2
  have hp := add_ents h a
  have e1 : sumE (addX X e).ents = e.size + sumE X.ents := by rw [sumE_perm hp]; rfl
  have e2 : sumE ((addX X e).ents.filter (isNew (addX X e))) = e.size + sumE (X.ents.filter (fun o => isNew X o && !decide (o.key = e.key))) := by
    rw [sumE_perm (hp.filter _), List.filter_cons, isNew_self h a hq, if_pos rfl, filter_same (fun o ho => isNew_other h a hq ho)]
    rfl
  have e3 := sumE_split (isNew X) (fun o => decide (o.key = e.key)) X.ents
  have e4 : sumE (X.ents.filter (fun o => isNew X o && decide (o.key = e.key))) = deadK X e.key (X.of e.key) := by
    unfold deadK
    rw [← sumE_perm ((of_perm h e.key).symm.filter _), List.filter_filter]
    congr 1
    refine filter_same (fun o _ => ?_)
    unfold isNew newE keyP
    by_cases hk : o.key = e.key
    · rw [hk]
      simp only [decide_true, Bool.and_true]
      exact decide_eq_decide.2 ⟨fun h => h.symm, fun h => h.symm⟩
    · simp [hk]
  have s1 := b.s
  have s2 := b'.s
  refine ⟨by omega, by omega, ?_⟩
  rw [sum_last hw]
  refine (last_max hw).uniq ⟨fun o ho => ?_, ?_, .inr ⟨e, (add_mem h a e).2 (.inl rfl), rfl⟩⟩
  · rcases (add_mem h a o).1 ho with rfl | ho
    · exact Int.le_refl _
    · exact Int.le_of_lt (hq o ho)
  · have := (valid_iff e).1 a.valid
    omega
end Go.Proofs.Ythefpmmeoajaiaa

/- LedgerAdds in plain Lean: what one more put changes. No walk. -/
set_option linter.unusedVariables false
set_option linter.unusedSimpArgs false
namespace Go.Proofs.Ythefpmmeoajaiaa

structure Ad23 (X X2 : IX) (e : En) : Prop where
  n2 : X2.slots.length = 6
  tot : ∀ s : Int, (byOf X2 s).total = (byOf X s).total + if s = e.slot then e.size else 0
  same : ∀ s : Int, s ≠ e.slot → (X.of e.key).any (fun o => decide (o.slot = s)) = false → byOf X2 s = byOf X s
  dead : (addL (allL X2 6)).dead = (addL (allL X 6)).dead + deadK X e.key (X.of e.key)
  total : (addL (allL X2 6)).total = (addL (allL X 6)).total + e.size
  last : (addL (allL X2 6)).last = e.seq
theorem ad23 {st : PS} {j : Nat} {t : Pt} (h : st.Ok j) (hj : j ≤ 60) (ht : t.Ok) (hc : t.cp = false) : stepP st t = pushP st (newP st t) (st.nx + 1) ∧ retP st t = newP st t ∧ Ad23 st.X (stepP st t).X (newP st t) := by
  have hcp : isCp st t = false := by unfold isCp; rw [hc]; rfl
  have e1 : stepP st t = pushP st (newP st t) (st.nx + 1) := by unfold stepP; rw [if_neg (by rw [hcp]; decide)]
  have e2 : retP st t = newP st t := by unfold retP; rw [if_neg (by rw [hcp]; decide)]
  obtain ⟨ha, hk⟩ := newP_ok h (by omega) ht
  have a := add_ok ha
  have hq : ∀ o ∈ st.X.ents, o.seq < (newP st t).seq := fun o ho => (h.e o ((h.g.mem o).2 ho)).2.1
  have s1 := PS.st h (by omega)
  have s2 := PS.st hk (by omega)
  refine ⟨e1, e2, ?_⟩
  rw [e1]
  have n2 : (addX st.X (newP st t)).slots.length = 6 := s2.n
  have b2 : ByOk (addL (allL (addX st.X (newP st t)) 6)) (7198 * 6) := s2.sum 6
  have hsum := add_sum h.g.wf a hq (m := 7198 * 6) (m' := 7198 * 6) (by rw [s1.n]; exact s1.sum 6) (by rw [n2]; exact b2)
  rw [n2, s1.n] at hsum
  refine ⟨n2, fun s => ?_, fun s hs hh => ?_, hsum.1, hsum.2.1, hsum.2.2⟩
  · have t1 := tot_us h s
    have t2 := tot_us hk s
    rw [t1]
    refine t2.trans ?_
    show upd st.us (newP st t).slot (st.us (newP st t).slot + (newP st t).size) s = _
    unfold upd
    by_cases hs : s = (newP st t).slot
    · rw [if_pos hs, if_pos hs, hs]
    · rw [if_neg hs, if_neg hs]; omega
  · refine by_other h.g.wf a hs (fun o ho hk' => ?_)
    have h1 := (h.g.slot s o).1 ho
    have h2 := (h.g.of (newP st t).key o).2 ⟨h1.1, hk'⟩
    have h3 := List.any_eq_false.1 hh o h2
    exact h3 (decide_eq_true h1.2)
end Go.Proofs.Ythefpmmeoajaiaa

/- LedgerNewest in plain Lean. No walk. -/
set_option linter.unusedVariables false
set_option linter.unusedSimpArgs false
namespace Go.Proofs.Ythefpmmeoajaiaa

def liveP (X : IX) (e : En) : Bool := isNew X e && !e.del
def tombP (X : IX) (e : En) : Bool := isNew X e && e.del
theorem acc_live (X : IX) : ∀ (l : List En) (a : AccB), (l.foldl (stepB X) a).l = a.l + sumE (l.filter (liveP X)) ∧ (l.foldl (stepB X) a).t = a.t + sumE (l.filter (tombP X))
  | [], a => by simp [sumE]
  | e :: l, a => by
    rw [List.foldl_cons]
    obtain ⟨h1, h2⟩ := acc_live X l (stepB X a e)
    rw [h1, h2]
    have : (stepB X a e).l = a.l + (if liveP X e = true then e.size else 0) ∧ (stepB X a e).t = a.t + if tombP X e = true then e.size else 0 := by
      unfold stepB classE liveP tombP isNew
      by_cases h : (newE (X.of e.key)).seq = e.seq
      · rw [if_pos h, decide_eq_true h]
        cases e.del <;> simp
      · rw [if_neg h, decide_eq_false h]
        simp
    rw [this.1, this.2, List.filter_cons, List.filter_cons]
    constructor
    · split <;> (try simp only [sumE]) <;> omega
    · split <;> (try simp only [sumE]) <;> omega
theorem byOf_live (X : IX) (s : Int) : (byOf X s).live = sumE ((X.slot s).filter (liveP X)) ∧ (byOf X s).tombs = sumE ((X.slot s).filter (tombP X)) := by
  obtain ⟨h1, h2⟩ := acc_live X (X.slot s) ⟨0, 0, 0, 0⟩
  refine ⟨?_, ?_⟩
  · show (accB X (X.slot s)).l = _
    unfold accB
    rw [h1]; simp
  · show (accB X (X.slot s)).t = _
    unfold accB
    rw [h2]; simp
theorem allL_live (X : IX) : ∀ n : Nat, (addL (allL X n)).live = sumE ((((List.range n).map (fun (i : Nat) => X.slot i)).flatten).filter (liveP X)) ∧ (addL (allL X n)).tombs = sumE ((((List.range n).map (fun (i : Nat) => X.slot i)).flatten).filter (tombP X))
  | 0 => ⟨rfl, rfl⟩
  | n + 1 => by
    obtain ⟨h1, h2⟩ := allL_live X n
    obtain ⟨g1, g2⟩ := byOf_live X (n : Int)
    rw [allL_succ, addL_snoc, List.range_succ, List.map_append, List.flatten_append, List.filter_append, List.filter_append, sumE_app, sumE_app]
    have e : ([n].map (fun (i : Nat) => X.slot i)).flatten = X.slot (n : Int) := by simp
    rw [e]
    exact ⟨by show (addL (allL X n)).live + (byOf X n).live = _; rw [h1, g1], by show (addL (allL X n)).tombs + (byOf X n).tombs = _; rw [h2, g2]⟩
def headE (X : IX) (k : ByteArray) : En := (X.of k).headD zE
def livK (X : IX) (ks : List ByteArray) : Int := sumE ((ks.map (headE X)).filter (fun e => !e.del))
def tomK (X : IX) (ks : List ByteArray) : Int := sumE ((ks.map (headE X)).filter (fun e => e.del))
theorem livK_snoc (X : IX) (ks : List ByteArray) (k : ByteArray) : livK X (ks ++ [k]) = livK X ks + (if (headE X k).del = true then 0 else (headE X k).size) ∧ tomK X (ks ++ [k]) = tomK X ks + if (headE X k).del = true then (headE X k).size else 0 := by
  unfold livK tomK
  rw [List.map_append, List.filter_append, List.filter_append, sumE_app, sumE_app]
  simp only [List.map_cons, List.map_nil, List.filter_cons, List.filter_nil]
  cases (headE X k).del <;> simp [sumE]
/-- No two entries have one number. -/
def Uniq (X : IX) : Prop := ∀ a ∈ X.ents, ∀ b ∈ X.ents, a.seq = b.seq → a = b
theorem of_filter {X : IX} (h : X.Wf) (hu : Uniq X) {k : ByteArray} (hk : X.of k ≠ []) (p : En → Bool) : (X.of k).filter (fun e => isNew X e && p e) = if p (headE X k) = true then [headE X k] else [] := by
  have hm := fun e => h.of_mem k e
  unfold headE
  cases hl : X.of k with
  | nil => exact absurd hl hk
  | cons e r =>
    rw [hl] at hm
    have hp := List.pairwise_cons.1 (hl ▸ h.ofPair k)
    have he := (hm e).1 (by simp)
    have hne : isNew X e = true := by
      unfold isNew newE
      rw [he.2, hl]
      exact decide_eq_true rfl
    have hr : ∀ o ∈ r, isNew X o = false := fun o ho => by
      have h1 := (hm o).1 (by simp [ho])
      unfold isNew newE
      rw [h1.2, hl]
      refine decide_eq_false (fun hh => ?_)
      have h2 := hu e he.1 o h1.1 hh
      have h3 := hp.1 o ho
      rw [h2, ltE_irr] at h3
      cases h3
    rw [List.filter_cons, hne, Bool.true_and]
    have hz : r.filter (fun e => isNew X e && p e) = [] := List.filter_eq_nil_iff.2 (fun o ho => by rw [hr o ho]; simp)
    rw [hz]
    rfl
theorem keys_filter {X : IX} (h : X.Wf) (hu : Uniq X) (p : En → Bool) : ∀ ks : List ByteArray, (∀ k ∈ ks, X.of k ≠ []) → ((ks.map X.of).flatten).filter (fun e => isNew X e && p e) = (ks.map (headE X)).filter p
  | [], _ => rfl
  | k :: ks, hk => by
    rw [List.map_cons, List.flatten_cons, List.filter_append, keys_filter h hu p ks (fun x hx => hk x (List.mem_cons_of_mem _ hx)), of_filter h hu (hk k (by simp)), List.map_cons, List.filter_cons]
    split <;> rfl
theorem ks_ne' {X : IX} (h : X.Wf) : ∀ k ∈ X.ks, X.of k ≠ [] := fun k hk => by
  obtain ⟨x, hx, rfl⟩ := List.mem_map.1 hk
  rw [of_keys' h x hx]
  exact (h.k x hx).ne
theorem keys_flat {X : IX} (h : X.Wf) : ((X.ks.map X.of).flatten).Perm X.ents := by
  have e : (X.ks.map X.of).flatten = X.keys.flatMap Prod.snd := by
    unfold IX.ks
    rw [List.map_map, List.flatMap]
    congr 1
    exact List.map_congr_left (fun x hx => of_keys' h x hx)
  rw [e]
  exact h.v
theorem sum_live {X : IX} (h : X.Wf) (hu : Uniq X) : (addL (allL X X.slots.length)).live = livK X X.ks ∧ (addL (allL X X.slots.length)).tombs = tomK X X.ks := by
  obtain ⟨h1, h2⟩ := allL_live X X.slots.length
  rw [slots_flat] at h1 h2
  rw [h1, h2]
  constructor
  · rw [← sumE_perm ((keys_flat h).filter _)]
    unfold livK
    rw [← keys_filter h hu (fun e => !e.del) X.ks (ks_ne' h)]
    rfl
  · rw [← sumE_perm ((keys_flat h).filter _)]
    unfold tomK
    rw [← keys_filter h hu (fun e => e.del) X.ks (ks_ne' h)]
    rfl
/-- Without copies the numbers grow. -/
theorem foldP_grow : ∀ (n : Nat) (L : List Pt), L.length = n → n ≤ 62 → (∀ t ∈ L, t.Ok ∧ t.cp = false) → (foldP L).all.Pairwise (fun a b => a.seq < b.seq)
  | 0, L, hL, _, _ => by
    rw [List.eq_nil_of_length_eq_zero hL]
    exact List.Pairwise.nil
  | n + 1, L, hL, hn, ht => by
    have hne : L ≠ [] := fun h => by rw [h] at hL; cases hL
    obtain ⟨d, t, rfl⟩ : ∃ d t, L = d ++ [t] := ⟨_, _, (List.dropLast_concat_getLast hne).symm⟩
    rw [List.length_append] at hL
    have hd : d.length = n := by simpa using hL
    have h1 := foldP_grow n d hd (by omega) (fun m hm => ht m (List.mem_append_left _ hm))
    have h2 := foldP_ok d (by omega) (fun m hm => (ht m (List.mem_append_left _ hm)).1)
    rw [foldP_snoc]
    have hc : isCp (foldP d) t = false := by unfold isCp; rw [(ht t (by simp)).2]; rfl
    unfold stepP
    rw [if_neg (by rw [hc]; decide)]
    show ((foldP d).all ++ [_]).Pairwise _
    refine List.pairwise_append.2 ⟨h1, List.pairwise_singleton _ _, fun x hx y hy => ?_⟩
    rw [List.mem_singleton.1 hy]
    exact (h2.e x hx).2.1
theorem grow_uniq {st : PS} {j : Nat} (h : st.Ok j) (hp : st.all.Pairwise (fun a b => a.seq < b.seq)) : Uniq st.X := fun a ha b hb hab => by
  obtain ⟨i, hi, ei⟩ := List.mem_iff_getElem.1 ((h.g.mem a).2 ha)
  obtain ⟨k, hk, ek⟩ := List.mem_iff_getElem.1 ((h.g.mem b).2 hb)
  rcases Nat.lt_trichotomy i k with h1 | h1 | h1
  · have := List.pairwise_iff_getElem.1 hp i k hi hk h1
    rw [ei, ek] at this; omega
  · subst h1; rw [← ei, ek]
  · have := List.pairwise_iff_getElem.1 hp k i hk hi h1
    rw [ei, ek] at this; omega
end Go.Proofs.Ythefpmmeoajaiaa

/- LedgerNewest: the row it builds from, and the bounds; plain. -/
set_option linter.unusedVariables false
set_option linter.unusedSimpArgs false
namespace Go.Proofs.Ythefpmmeoajaiaa
open Go.RowKit Go.Shelf

def noC (t : Pt) : Pt := { t with cp := false }
def cellsP (t : Pt) : List Value := [.int .u8 t.key, .int .u8 t.slot, .int .u8 t.size, .bool t.del, .bool t.cp]
def rowP (l : List Pt) : List Value := l.flatMap cellsP
theorem rowP_snoc (l : List Pt) (t : Pt) : rowP (l ++ [t]) = rowP l ++ cellsP t := by simp [rowP]
theorem rowP_cons (t : Pt) (l : List Pt) : rowP (t :: l) = cellsP t ++ rowP l := by simp [rowP]
theorem rowP_get (l : List Pt) : ∀ i x, l[i]? = some x → ∀ j u, (cellsP x)[j]? = some u → (rowP l)[i * 5 + j]? = some u := by
  induction l with
  | nil => intro i x h; simp at h
  | cons y l ih =>
    intro i x h j u hu
    have hj : j < 5 := by have := (List.getElem?_eq_some_iff.1 hu).1; simpa [cellsP] using this
    rw [rowP_cons]
    cases i with
    | zero => simp at h; subst h; rw [List.getElem?_append_left (by simp [cellsP]; omega)]; simpa using hu
    | succ i =>
      rw [List.getElem?_append_right (by simp [cellsP]; omega), show (i + 1) * 5 + j - (cellsP y).length = i * 5 + j by simp [cellsP]; omega]
      exact ih i x (by simpa using h) j u hu
theorem noC_ok {t : Pt} (h : t.Ok) : (noC t).Ok := ⟨h.key, h.slot, h.size⟩
theorem rowP_take {L : List Pt} {j : Nat} {x : Pt} (hx : L[j]? = some x) : rowP ((L.take (j + 1)).map noC) = rowP ((L.take j).map noC) ++ cellsP (noC x) := by
  rw [List.take_add_one, hx]
  simp [rowP]
theorem own_putAt {w : World} {e : TypeId} {v : Value} {l : List Pt} (h : Own w e 5 v l.length (rowP l)) (hok : ∀ t ∈ l, t.Ok) : ∃ a cap, v = .slice a l.length cap ∧ l.length ≤ cap ∧ cap ≤ maxLen ∧ PutAt w a l := by
  rcases h.2 with ⟨hv, h0⟩ | ⟨g, cap, cur, hv, _, hg, h1, h2, h3, h4⟩
  · have hL : l = [] := List.eq_nil_of_length_eq_zero h0
    subst hL
    exact ⟨none, 0, hv, Nat.le_refl _, by simp [maxLen], fun i x hx => by simp at hx⟩
  · subst hv
    refine ⟨_, cap, rfl, h1, h2, fun i x hx => ?_⟩
    have hc := h.cells (g := g) rfl
    have hadd : ∀ j, (⟨g, 0, none⟩ : Addr).add j = ⟨g, j, none⟩ := fun j => by unfold Addr.add; split <;> simp_all
    have hat : ∀ j u, (cellsP x)[j]? = some u → w.cell? ⟨g, i * 5 + j, none⟩ = some u := fun j u hu => by
      rw [← hadd]
      exact hc _ _ (rowP_get l i x hx j u hu)
    refine ⟨g, 0, rfl, World.block_lt_of_cell? w _ (hat 0 _ rfl), ?_, ?_, ?_, ?_, ?_, hok x (List.mem_of_getElem? hx)⟩
    · rw [Nat.zero_add]; exact hat 0 _ rfl
    · rw [Nat.zero_add]; exact hat 1 _ rfl
    · rw [Nat.zero_add]; exact hat 2 _ rfl
    · rw [Nat.zero_add]; exact hat 3 _ rfl
    · rw [Nat.zero_add]; exact hat 4 _ rfl
theorem sumE_bound : ∀ l : List En, (∀ e ∈ l, 0 ≤ e.size ∧ e.size ≤ 8192) → 0 ≤ sumE l ∧ sumE l ≤ 8192 * l.length
  | [], _ => by simp [sumE]
  | e :: l, h => by
    have h1 := sumE_bound l (fun x hx => h x (List.mem_cons_of_mem _ hx))
    have h2 := h e (by simp)
    simp only [sumE, List.length_cons]
    omega
theorem head_valid {X : IX} (h : X.Wf) {k : ByteArray} (hk : X.of k ≠ []) : 0 ≤ (headE X k).size ∧ (headE X k).size ≤ 8192 := by
  unfold headE
  cases hl : X.of k with
  | nil => exact absurd hl hk
  | cons e r =>
    have he := (h.of_mem k e).1 (by rw [hl]; simp)
    have hv := (valid_iff e).1 (h.valid he.1).1
    show 0 ≤ e.size ∧ e.size ≤ 8192
    omega
theorem liv_bound {X : IX} (h : X.Wf) {ks : List ByteArray} (hk : ks <+: X.ks) : (0 ≤ livK X ks ∧ livK X ks ≤ 8192 * ks.length) ∧ (0 ≤ tomK X ks ∧ tomK X ks ≤ 8192 * ks.length) := by
  have hv : ∀ e ∈ ks.map (headE X), 0 ≤ e.size ∧ e.size ≤ 8192 := fun e he => by
    obtain ⟨k, hk', rfl⟩ := List.mem_map.1 he
    exact head_valid h (ks_ne' h k (hk.subset hk'))
  have hl : ∀ p : En → Bool, ((ks.map (headE X)).filter p).length ≤ ks.length := fun p => by
    have := List.length_filter_le p (ks.map (headE X))
    rwa [List.length_map] at this
  have h1 := sumE_bound ((ks.map (headE X)).filter (fun e => !e.del)) (fun e he => hv e (List.mem_filter.1 he).1)
  have h2 := sumE_bound ((ks.map (headE X)).filter (fun e => e.del)) (fun e he => hv e (List.mem_filter.1 he).1)
  have g1 := hl (fun e => !e.del)
  have g2 := hl (fun e => e.del)
  unfold livK tomK
  omega
theorem newV_head {X : IX} {k : ByteArray} (hk : X.of k ≠ []) : newV (X.of k) = .tuple #[enV (headE X k), .bool true] := by
  unfold headE
  cases hl : X.of k with
  | nil => exact absurd hl hk
  | cons e r => rfl
/-- What LedgerNewest wants of the built index. -/
structure Nw23 (st : PS) : Prop where
  s3 : St23 st
  uq : Uniq st.X
  kl : st.X.ks.length ≤ 60
theorem nw23 {L : List Pt} (hL : L.length ≤ 60) (h : ∀ t ∈ L, t.Ok) : Nw23 (foldP (L.map noC)) := by
  have hl : (L.map noC).length = L.length := List.length_map ..
  have h0 : ∀ t ∈ L.map noC, t.Ok ∧ t.cp = false := fun t ht => by
    obtain ⟨x, hx, rfl⟩ := List.mem_map.1 ht
    exact ⟨noC_ok (h x hx), rfl⟩
  have h1 := foldP_ok (L.map noC) (by omega) (fun t ht => (h0 t ht).1)
  have h2 := foldP_grow _ (L.map noC) rfl (by omega) h0
  refine ⟨PS.st h1 (by omega), grow_uniq h1 h2, ?_⟩
  have h3 := ks_len h1.g.wf
  have h4 := h1.g.pm.length_eq
  have h5 := h1.n
  omega
end Go.Proofs.Ythefpmmeoajaiaa

/- LedgerNewest. -/
set_option linter.unusedVariables false
set_option linter.unusedSimpArgs false
namespace Go.Proofs.Ythefpmmeoajaiaa
open Go.RowKit Go.Shelf
attribute [local go_sem] OvM cell_ovm obj_ovm
attribute [local go_sem] Oper.semAt_some

theorem infoP : (Try.prog.info? 24).map (fun i => (i.zero, i.size, i.bytes)) = some (some (.agg #[.int .u8 0, .int .u8 0, .int .u8 0, .bool false, .bool false]), 5, 5) := by kernel_rfl
abbrev nwR (b6 : Nat) (X : IX) (pre : List ByteArray) : List Asn := [blkA (b6 + 1 + 1 + 1) (.cells #[.int .i64 pre.length] 3), blkA (b6 + 1 + 1) (.cells #[.int .i64 (tomK X pre)] 3), blkA (b6 + 1) (.cells #[.int .i64 (livK X pre)] 3)]
end Go.Proofs.Ythefpmmeoajaiaa

/- LedgerDrops. -/
set_option linter.unusedVariables false
set_option linter.unusedSimpArgs false
namespace Go.Proofs.Ythefpmmeoajaiaa
open Go.RowKit Go.Shelf
attribute [local go_sem] OvM cell_ovm obj_ovm
attribute [local go_sem] Oper.semAt_some

theorem allL_cells {w : World} {v : Value} {X : IX} {n : Nat} (h : Own w 37 5 v n (rowBy (allL X n))) : ∃ a cap, v = .slice a n cap ∧ n ≤ cap ∧ cap ≤ maxLen ∧ ∀ j : Nat, j < n → ∃ g, a = some ⟨g, 0, none⟩ ∧ ∀ i u, (cellsBy (byOf X (j : Int)))[i]? = some u → w.cell? ⟨g, j * 5 + i, none⟩ = some u := by
  have h1 : Own w 37 5 v (allL X n).length (rowBy (allL X n)) := by rw [allL_len]; exact h
  obtain ⟨a, cap, hv, hc, hm, hat⟩ := ownBy_at h1
  rw [allL_len] at hv hc
  exact ⟨a, cap, hv, hc, hm, fun j hj => hat j _ (allL_get X hj)⟩
end Go.Proofs.Ythefpmmeoajaiaa

/- A choice of things that lie side by side, in any order. No program in sight. -/
set_option linter.unusedVariables false
set_option linter.unusedSimpArgs false
namespace Go.Proofs.Ythefpmmeoajaiaa
open Go.RowKit
theorem SW.sel {w0 w : World} {R R' : List Asn} (h : SW w0 R w) (is : List Nat) (hd : is.Nodup) (he : is.map (fun i => R[i]?) = R'.map some) : SW w0 R' w := by
  have hm : ∀ A ∈ R', A ∈ R := fun A hA => by
    have h1 : some A ∈ R'.map some := List.mem_map.2 ⟨A, hA, rfl⟩
    rw [← he] at h1
    obtain ⟨i, _, h2⟩ := List.mem_map.1 h1
    exact List.mem_of_getElem? h2
  have hp : (R'.map some).Pairwise (fun a b => ∀ A B, a = some A → b = some B → Dis A B) := by
    rw [← he]
    exact List.pairwise_map.2 (hd.imp (fun {i j} hij A B ha hb => h.get_ne ha hb hij))
  exact ⟨h.g, ⟨fun A hA => h.s.1 A (hm A hA), (List.pairwise_map.1 hp).imp (fun {A B} hab => hab A B rfl rfl)⟩, fun A hA => h.n A (hm A hA)⟩
/-- What a callee has laid beside what the caller held. -/
theorem SW.both {w w0 w1 : World} {R R2 : List Asn} (h : SW w R w0) (h2 : SW w0 R2 w1) : SW w (R2 ++ R) w1 := by
  have hr := h.s.gr h2.g
  refine ⟨h.g.trans h2.g, ⟨fun A hA => (List.mem_append.1 hA).elim (h2.s.1 A) (hr.1 A), List.pairwise_append.2 ⟨h2.s.2, h.s.2, fun A hA B hB k ka kb => ?_⟩⟩, fun A hA k hk => (List.mem_append.1 hA).elim (fun e => Nat.le_trans h.g.sz (h2.n A e k hk)) (fun e => h.n A e k hk)⟩
  have h3 := h2.n A hA k ka
  have h4 := h.s.lt hB k kb
  omega
/-- A block that lies apart from all of them. -/
theorem SW.addD {w0 W : World} {R : List Asn} {D : Nat} {o : Obj} (h : SW w0 R W) (hd : W.heap[D]? = some o) (hn : ∀ B ∈ R, ∀ k, B.S k → k ≠ D) (h0 : w0.heap.size ≤ D) : SW w0 (blkA D o :: R) W :=
  ⟨h.g, ⟨fun A hA => (List.mem_cons.1 hA).elim (fun e => by rw [e]; exact hd) (h.s.1 A), List.pairwise_cons.2 ⟨fun B hB k ka kb => hn B hB k kb ka, h.s.2⟩⟩, fun A hA k hk => (List.mem_cons.1 hA).elim (fun e => by rw [e] at hk; rw [show k = D from hk]; exact h0) (fun e => h.n A e k hk)⟩
end Go.Proofs.Ythefpmmeoajaiaa
