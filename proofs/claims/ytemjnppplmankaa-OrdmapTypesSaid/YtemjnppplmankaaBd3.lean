/-
  An append to a row of the call's own: the new row lies in the old one's block, or in a new block. No program in sight.
-/
import Derived.Test.YtemjnppplmankaaBd2
import Derived.ArgAppend
import Derived.Laws.CopyRow
import Derived.Laws.IdiomCopy
import Derived.Lib.AppendZeros
import Derived.Lib.AppendZerosOnto
import Derived.Lib.Overlaps
import Derived.Laws.Externs
import Derived.Test.YtemjnppplmankaaRows
import Derived.BigQuiet
import Derived.Deep.QuietTactic
import Derived.Deep.DeepMust
import Derived.WalkKit
import Derived.Lib.Hide
set_option linter.unusedVariables false
set_option linter.unusedSimpArgs false
namespace Go.Proofs.Ytemjnppplmankaa
open Go.RowKit

/-- A slice that owns n elements of e: nil, or it starts at the head of a block. (base 0: which block it is, its value tells.) -/
abbrev Own (w : World) (e : TypeId) (size : Nat) (v : Value) (n : Nat) (xs : List Value) : Prop := w.ownsRow 0 e size v n xs

theorem Own.lift {w : World} {base : Nat} {e : TypeId} {size : Nat} {v : Value} {n : Nat} {xs : List Value} (h : w.ownsRow base e size v n xs) : Own w e size v n xs := by
  obtain ⟨h1, h2⟩ := h
  refine ⟨h1, ?_⟩
  rcases h2 with h2 | ⟨g, cap, cur, hv, _, r⟩
  · exact .inl h2
  · exact .inr ⟨g, cap, cur, hv, Nat.zero_le _, r⟩
theorem Own.gr {w w' : World} {e : TypeId} {size : Nat} {v : Value} {n : Nat} {xs : List Value} (h : Own w e size v n xs) (g : Gr w w') : Own w' e size v n xs := ownsRow_gr h g
theorem Own.mdh {S : Nat → Prop} {w w' : World} {e : TypeId} {size : Nat} {v : Value} {n : Nat} {xs : List Value} (h : Own w e size v n xs) (g : Mdh S w w') (hs : ∀ k, v.ownBlock = some k → ¬ S k) : Own w' e size v n xs := by
  obtain ⟨h1, h2⟩ := h
  refine ⟨h1, ?_⟩
  rcases h2 with h2 | ⟨b, cap, cur, rfl, hb, hh, r⟩
  · exact .inl h2
  · exact .inr ⟨b, cap, cur, rfl, hb, g.blk hh (hs b rfl), r⟩
theorem Own.lt {w : World} {e : TypeId} {size : Nat} {v : Value} {n : Nat} {xs : List Value} (h : Own w e size v n xs) {k : Nat} (hk : v.ownBlock = some k) : k < w.heap.size := (World.ownsRow.lt h k hk).2
/-- A store into one cell of the row. -/
theorem Own.set {w : World} {e : TypeId} {size g n cap : Nat} {xs : List Value} (h : Own w e size (.slice (some ⟨g, 0, none⟩) n cap) n xs) {j : Nat} (hj : j < xs.length) (u : Value) : Own (w.setCell ⟨g, j, none⟩ u) e size (.slice (some ⟨g, 0, none⟩) n cap) n (xs.set j u) := by
  obtain ⟨h1, h2⟩ := h
  refine ⟨by simpa using h1, ?_⟩
  rcases h2 with ⟨h2, _⟩ | ⟨b, cap', cur, hv, hb, hh, hn, hm, hs, ht⟩
  · cases h2
  · simp only [Value.slice.injEq, Option.some.injEq, Addr.mk.injEq, and_true, true_and] at hv
    obtain ⟨rfl, rfl⟩ := hv
    refine .inr ⟨g, cap, _, rfl, Nat.zero_le _, blkSet hh, hn, hm, by simpa using hs, ?_⟩
    rw [Array.toList_setIfInBounds, ← ht, List.take_set]
theorem Own.other {w : World} {e : TypeId} {size : Nat} {v : Value} {n : Nat} {xs : List Value} (h : Own w e size v n xs) {p : Addr} (hp : v.ownBlock ≠ some p.block) (u : Value) : Own (w.setCell p u) e size v n xs := by
  obtain ⟨h1, h2⟩ := h
  refine ⟨h1, ?_⟩
  rcases h2 with h2 | ⟨b, cap, cur, rfl, hb, hh, r⟩
  · exact .inl h2
  · exact .inr ⟨b, cap, cur, rfl, hb, blkSetO hh (fun e => hp (by simp [Value.ownBlock, e])), r⟩
/-- The first of it. -/
theorem Own.take {w : World} {e : TypeId} {size g n cap : Nat} {xs : List Value} (h : Own w e size (.slice (some ⟨g, 0, none⟩) n cap) n xs) {m : Nat} (hm : m ≤ n) : Own w e size (.slice (some ⟨g, 0, none⟩) m cap) m (xs.take (m * size)) := by
  obtain ⟨h1, h2⟩ := h
  have hle : m * size ≤ n * size := Nat.mul_le_mul_right _ hm
  refine ⟨by rw [List.length_take, h1]; omega, ?_⟩
  rcases h2 with ⟨h2, _⟩ | ⟨b, cap', cur, hv, hb, hh, hn, hmm, hs, ht⟩
  · cases h2
  · simp only [Value.slice.injEq, Option.some.injEq, Addr.mk.injEq, and_true, true_and] at hv
    obtain ⟨rfl, rfl⟩ := hv
    exact .inr ⟨g, cap, cur, rfl, Nat.zero_le _, hh, by omega, hmm, hs, by rw [← ht, List.take_take]; congr 1; omega⟩

section
variable {P : Program} (w : World)
/-- **THE APPEND**: of at least one element, to a row of the call's own. -/
theorem run_app (t ty e : TypeId) (i : TypeInfo) (z : Value) (size bytes : Nat) (ht : P.underlying t = some (.slice e)) (hi : P.info? e = some i) (hz : i.zero = some z)
    (hsize : i.size = size) (hby : i.bytes = bytes) (hzs : z.cells.size = size) (hsz : 0 < size)
    (v : Value) (n : Nat) (xs : List Value) (hown : Own w e size v n xs)
    (a : Addr) (m c : Nat) (news : List Value) (hl : news.length = m * size) (hnews : ∀ j u, news[j]? = some u → w.cell? (a.add j) = some u) (h1 : ∀ u ∈ news, u.oneCell' = true)
    (hm : 0 < m) (h63 : n + m ≤ maxLen) (hbytes : (n + m) * bytes ≤ 140737488355328) :
    ∃ g cap w', (Builtin.append_ #[t, t] ty #[v, .slice (some a) m c]).run P w = .ok (.slice (some ⟨g, 0, none⟩) (n + m) cap) w' ∧ Own w' e size (.slice (some ⟨g, 0, none⟩) (n + m) cap) (n + m) (xs ++ news) ∧
      (v.ownBlock = some g ∨ w.heap.size ≤ g) ∧ w.grownBy w' v.ownBlock := by
  have fin : ∀ {v' : Value} {w' : World} {xs' : List Value}, w'.ownsRow w.heap.size e size v' (n + m) xs' → ∃ g cap, v' = .slice (some ⟨g, 0, none⟩) (n + m) cap ∧ w.heap.size ≤ g := by
    intro v' w' xs' h
    rcases h.2 with ⟨_, h0⟩ | ⟨g, cap, cur, hv, hb, _⟩
    · omega
    · exact ⟨g, cap, hv, hb⟩
  rcases hown.2 with ⟨rfl, rfl⟩ | ⟨g, cap, cur, rfl, hbg, hg, hnc, hcm, hcs, htake⟩
  · obtain rfl : xs = [] := List.eq_nil_of_length_eq_zero (by simpa using hown.1)
    obtain ⟨v', w', hr, r1, r2, _⟩ := run_append_own (P := P) w w.heap.size t ty e i z size bytes ht hi hz hsize hby hzs hsz (.slice none 0 0) 0 [] (World.ownsRow_nil w _ e size) a m c news hl hnews h1 h63 hbytes (Nat.le_refl _)
    obtain ⟨g, cap, rfl, hb⟩ := fin r1
    exact ⟨g, cap, w', hr, Own.lift r1, .inr hb, r2⟩
  · by_cases hroom : n + m ≤ cap
    · obtain ⟨w', hr, r1, r2⟩ := run_append_fits (P := P) w 0 t ty e i size ht hi hsize g n cap xs hown a m c news hl hnews h1 hroom
      exact ⟨g, cap, w', hr, r1, .inl rfl, r2⟩
    · obtain ⟨v', w', hr, r1, r2⟩ := run_append_arg_grows (P := P) w t ty e i z size bytes ht hi hz hsize hby hzs hsz ⟨g, 0, none⟩ n cap xs hown.1 (hown.cells rfl) a m c news hl hnews (by omega) h63 hbytes
      obtain ⟨g', cap', rfl, hb⟩ := fin r1
      exact ⟨g', cap', w', hr, Own.lift r1, .inr hb, ⟨r2.os, r2.tape, r2.output, r2.size, fun k hk _ => r2.block k hk (by simp)⟩⟩

theorem wp_app {o : Oper} {a : Act} {K : Act → World → Prop} {Q : Exit → Act → World → Prop} (s x : Operand) (t : TypeId)
    (ho : o.op = .call { callee := .builtin .append, args := #[s, x], argTypes := #[t, t] })
    (e : TypeId) (i : TypeInfo) (z : Value) (size bytes : Nat) (ht : P.underlying t = some (.slice e)) (hi : P.info? e = some i) (hz : i.zero = some z)
    (hsize : i.size = size) (hby : i.bytes = bytes) (hzs : z.cells.size = size) (hsz : 0 < size)
    (v : Value) (n : Nat) (xs : List Value) (hs : a.eval s = v) (hown : Own w e size v n xs)
    (ad : Addr) (m c : Nat) (news : List Value) (hx : a.eval x = .slice (some ad) m c) (hl : news.length = m * size) (hnews : ∀ j u, news[j]? = some u → w.cell? (ad.add j) = some u) (h1 : ∀ u ∈ news, u.oneCell' = true)
    (hm : 0 < m) (h63 : n + m ≤ maxLen) (hbytes : (n + m) * bytes ≤ 140737488355328)
    (h : ∀ g cap w', Own w' e size (.slice (some ⟨g, 0, none⟩) (n + m) cap) (n + m) (xs ++ news) → (v.ownBlock = some g ∨ w.heap.size ≤ g) → w.grownBy w' v.ownBlock → K (a.put o.dst (.slice (some ⟨g, 0, none⟩) (n + m) cap)) w') : o.wp P a w K Q := by
  obtain ⟨g, cap, w', hr, h2, h3, h4⟩ := run_app (P := P) w t o.type e i z size bytes ht hi hz hsize hby hzs hsz v n xs hown ad m c news hl hnews h1 hm h63 hbytes
  unfold Oper.wp execOp
  simp only [ho, resolve, invoke, builtin, Sem.run_bind, Sem.run_pure, Result.andThen_ok, List.map_toArray, List.map_cons, List.map_nil, hs, hx, hr]
  exact h g cap w' h2 h3 h4

theorem wpList_app {ops : Array Oper} {rest : List Oper} {o : Oper} {a : Act} {Q : Exit → Act → World → Prop} (hgd : o.guard = none) (s x : Operand) (t : TypeId)
    (ho : o.op = .call { callee := .builtin .append, args := #[s, x], argTypes := #[t, t] })
    (e : TypeId) (i : TypeInfo) (z : Value) (size bytes : Nat) (ht : P.underlying t = some (.slice e)) (hi : P.info? e = some i) (hz : i.zero = some z)
    (hsize : i.size = size) (hby : i.bytes = bytes) (hzs : z.cells.size = size) (hsz : 0 < size)
    (v : Value) (n : Nat) (xs : List Value) (hs : a.eval s = v) (hown : Own w e size v n xs)
    (ad : Addr) (m c : Nat) (news : List Value) (hx : a.eval x = .slice (some ad) m c) (hl : news.length = m * size) (hnews : ∀ j u, news[j]? = some u → w.cell? (ad.add j) = some u) (h1 : ∀ u ∈ news, u.oneCell' = true)
    (hm : 0 < m) (h63 : n + m ≤ maxLen) (hbytes : (n + m) * bytes ≤ 140737488355328)
    (h : ∀ g cap w', Own w' e size (.slice (some ⟨g, 0, none⟩) (n + m) cap) (n + m) (xs ++ news) → (v.ownBlock = some g ∨ w.heap.size ≤ g) → w.grownBy w' v.ownBlock → wpList P ops Q rest (a.put o.dst (.slice (some ⟨g, 0, none⟩) (n + m) cap)) w') : wpList P ops Q (o :: rest) a w :=
  wpList_plain hgd fun _ hK => wp_app w s x t ho e i z size bytes ht hi hz hsize hby hzs hsz v n xs hs hown ad m c news hx hl hnews h1 hm h63 hbytes fun g cap w' h2 h3 h4 => hK _ _ (h g cap w' h2 h3 h4)

theorem wpIn_app {F : Fence} {f : Nat} {o : Oper} {a : Act} {K : Act → World → Prop} {Q : Exit → Act → World → Prop} (s x : Operand) (t : TypeId)
    (ho : o.op = .call { callee := .builtin .append, args := #[s, x], argTypes := #[t, t] })
    (e : TypeId) (i : TypeInfo) (z : Value) (size bytes : Nat) (ht : P.underlying t = some (.slice e)) (hi : P.info? e = some i) (hz : i.zero = some z)
    (hsize : i.size = size) (hby : i.bytes = bytes) (hzs : z.cells.size = size) (hsz : 0 < size)
    (v : Value) (n : Nat) (xs : List Value) (hs : a.eval s = v) (hown : Own w e size v n xs)
    (ad : Addr) (m c : Nat) (news : List Value) (hx : a.eval x = .slice (some ad) m c) (hl : news.length = m * size) (hnews : ∀ j u, news[j]? = some u → w.cell? (ad.add j) = some u) (h1 : ∀ u ∈ news, u.oneCell' = true)
    (hm : 0 < m) (h63 : n + m ≤ maxLen) (hbytes : (n + m) * bytes ≤ 140737488355328)
    (h : ∀ g cap w', Own w' e size (.slice (some ⟨g, 0, none⟩) (n + m) cap) (n + m) (xs ++ news) → (v.ownBlock = some g ∨ w.heap.size ≤ g) → w.grownBy w' v.ownBlock → K (a.put o.dst (.slice (some ⟨g, 0, none⟩) (n + m) cap)) w') : o.wpIn F f P a w K Q := by
  obtain ⟨g, cap, w', hr, h2, h3, h4⟩ := run_app (P := P) w t o.type e i z size bytes ht hi hz hsize hby hzs hsz v n xs hown ad m c news hl hnews h1 hm h63 hbytes
  unfold Oper.wpIn
  refine ⟨?_, ?_⟩
  · simp [Oper.about, ho, resolve, Target.leads, Sem.run_pure]
  · rw [Oper.semAt_plain F _ _ (by rw [ho]; intro c hc'; cases hc')]
    simp only [execOp, ho, resolve, invoke, builtin, Sem.run_bind, Sem.run_pure, Result.andThen_ok, List.map_toArray, List.map_cons, List.map_nil, hs, hx, hr]
    exact h g cap w' h2 h3 h4

theorem wpListIn_app {F : Fence} {f : Nat} {ops : Array Oper} {rest : List Oper} {o : Oper} {a : Act} {Q : Exit → Act → World → Prop} (hgd : o.guard = none) (s x : Operand) (t : TypeId)
    (ho : o.op = .call { callee := .builtin .append, args := #[s, x], argTypes := #[t, t] })
    (e : TypeId) (i : TypeInfo) (z : Value) (size bytes : Nat) (ht : P.underlying t = some (.slice e)) (hi : P.info? e = some i) (hz : i.zero = some z)
    (hsize : i.size = size) (hby : i.bytes = bytes) (hzs : z.cells.size = size) (hsz : 0 < size)
    (v : Value) (n : Nat) (xs : List Value) (hs : a.eval s = v) (hown : Own w e size v n xs)
    (ad : Addr) (m c : Nat) (news : List Value) (hx : a.eval x = .slice (some ad) m c) (hl : news.length = m * size) (hnews : ∀ j u, news[j]? = some u → w.cell? (ad.add j) = some u) (h1 : ∀ u ∈ news, u.oneCell' = true)
    (hm : 0 < m) (h63 : n + m ≤ maxLen) (hbytes : (n + m) * bytes ≤ 140737488355328)
    (h : ∀ g cap w', Own w' e size (.slice (some ⟨g, 0, none⟩) (n + m) cap) (n + m) (xs ++ news) → (v.ownBlock = some g ∨ w.heap.size ≤ g) → w.grownBy w' v.ownBlock → wpListIn F f P ops Q rest (a.put o.dst (.slice (some ⟨g, 0, none⟩) (n + m) cap)) w') : wpListIn F f P ops Q (o :: rest) a w :=
  wpListIn_plain hgd fun _ hK => wpIn_app w s x t ho e i z size bytes ht hi hz hsize hby hzs hsz v n xs hs hown ad m c news hx hl hnews h1 hm h63 hbytes fun g cap w' h2 h3 h4 => hK _ _ (h g cap w' h2 h3 h4)
end

/-! ### A row of cells, by a function -/
def updV {β : Type} (f : Nat → β) (i : Nat) (x : β) : Nat → β := fun j => if j = i then x else f j
structure CRow (w : World) (t : TypeId) (g n : Nat) (f : Nat → Value) : Prop where
  blk : ∃ cs : Array Value, w.heap[g]? = some (.cells cs t) ∧ n ≤ cs.size ∧ ∀ i, i < n → cs[i]? = some (f i)
section
variable {w w' : World} {t : TypeId} {g n : Nat} {f : Nat → Value}
theorem CRow.lt (r : CRow w t g n f) : g < w.heap.size := let ⟨_, h, _⟩ := r.blk; blkLt h
theorem CRow.cell (r : CRow w t g n f) (i : Nat) (hi : i < n) : w.cell? ⟨g, i, none⟩ = some (f i) := by
  obtain ⟨cs, h, _, hc⟩ := r.blk
  rw [(cellsOf h).1]; exact hc i hi
theorem CRow.fr (r : CRow w t g n f) (i : Nat) : w.frozen? ⟨g, i, none⟩ = false := by
  obtain ⟨cs, h, _⟩ := r.blk
  exact (cellsOf h).2 i
theorem CRow.set (r : CRow w t g n f) {i : Nat} (hi : i < n) (v : Value) : CRow (w.setCell ⟨g, i, none⟩ v) t g n (updV f i v) := by
  obtain ⟨cs, h, hs, hc⟩ := r.blk
  refine ⟨_, blkSet h, by simpa using hs, fun j hj => ?_⟩
  unfold updV
  by_cases e : j = i
  · subst e; rw [Array.getElem?_setIfInBounds_self_of_lt (by omega), if_pos rfl]
  · rw [Array.getElem?_setIfInBounds_ne (by omega), if_neg e]; exact hc j hj
theorem CRow.other (r : CRow w t g n f) {p : Addr} (hp : g ≠ p.block) (u : Value) : CRow (w.setCell p u) t g n f := by
  obtain ⟨cs, h, q⟩ := r.blk
  exact ⟨cs, blkSetO h hp, q⟩
theorem CRow.gr (r : CRow w t g n f) (k : Gr w w') : CRow w' t g n f := by
  obtain ⟨cs, h, q⟩ := r.blk
  exact ⟨cs, k.blk h, q⟩
theorem CRow.mdh {S : Nat → Prop} (r : CRow w t g n f) (k : Mdh S w w') (hs : ¬ S g) : CRow w' t g n f := by
  obtain ⟨cs, h, q⟩ := r.blk
  exact ⟨cs, k.blk h hs, q⟩
theorem CRow.congr {f' : Nat → Value} (r : CRow w t g n f) (e : ∀ i, i < n → f' i = f i) : CRow w t g n f' := by
  obtain ⟨cs, h, hs, hc⟩ := r.blk
  exact ⟨cs, h, hs, fun i hi => by rw [e i hi]; exact hc i hi⟩
theorem CRow.ofOwn {cap : Nat} {xs : List Value} (o : Own w t 1 (.slice (some ⟨g, 0, none⟩) n cap) n xs) (hf : ∀ i, i < n → xs[i]? = some (f i)) : CRow w t g n f := by
  rcases o.2 with ⟨h0, _⟩ | ⟨g', cap', cur, hv, _, hb, le, most, hs, ht⟩
  · cases h0
  · simp only [Value.slice.injEq, Option.some.injEq, Addr.mk.injEq, and_true, true_and] at hv
    obtain ⟨rfl, rfl⟩ := hv
    refine ⟨cur, hb, by omega, fun i hi => ?_⟩
    have := hf i hi
    rw [← ht, List.getElem?_take_of_lt (by omega)] at this
    simpa using this
end
theorem made_get (v : Value) (n i : Nat) (hi : i < n) : (madeCells #[v] (n * 1)).toList[i]? = some v := by
  simp [madeCells, hi, Nat.mod_one]
end Go.Proofs.Ytemjnppplmankaa

/-
  Rows of elements of several cells: copy, clear, an append of zeros, an element laid in, an element taken out. No program in sight.
-/
set_option linter.unusedVariables false
set_option linter.unusedSimpArgs false
namespace Go.Proofs.Ytemjnppplmankaa
open Go.RowKit Go.Lib

/-! ### Lists -/
theorem seg_take {α : Type} (cur mid : List α) (o : Nat) (ho : o ≤ cur.length) : (cur.take o ++ mid ++ cur.drop (o + mid.length)).take (o + mid.length) = cur.take o ++ mid := by
  rw [List.take_left']
  rw [List.length_append, List.length_take]
  omega
theorem seg_len {α : Type} (cur mid : List α) (o : Nat) (ho : o + mid.length ≤ cur.length) : (cur.take o ++ mid ++ cur.drop (o + mid.length)).length = cur.length := by
  simp only [List.length_append, List.length_take, List.length_drop]
  omega
/-- An element laid in where there is room. -/
theorem laid_in {α : Type} (cur xs ys : List α) (a b k : Nat) (hx : cur.take (a + b) = xs) (hab : a + k + b ≤ cur.length) (hy : ys.length = k) (cur1 cur2 : List α)
    (h1 : cur1 = cur.take (a + k) ++ xs.drop a ++ cur.drop (a + k + (xs.drop a).length)) (h2 : cur2 = cur1.take a ++ ys ++ cur1.drop (a + ys.length)) :
    cur2.take (a + k + b) = xs.take a ++ ys ++ xs.drop a ∧ cur2.length = cur.length := by
  have hxl : xs.length = a + b := by rw [← hx, List.length_take]; omega
  have hdl : (xs.drop a).length = b := by rw [List.length_drop]; omega
  have l1 : cur1.length = cur.length := by rw [h1]; exact seg_len _ _ _ (by omega)
  have t1 : cur1.take a = xs.take a := by
    rw [h1, ← hx, List.append_assoc, List.take_append_of_le_length (by rw [List.length_take]; omega), List.take_take, List.take_take]
    congr 1
    omega
  have d1 : cur1.drop (a + k) = xs.drop a ++ cur.drop (a + k + b) := by
    rw [h1, hdl, List.append_assoc, List.drop_left']
    rw [List.length_take]; omega
  constructor
  · rw [h2, hy, t1, d1, ← List.append_assoc, List.take_left']
    simp only [List.length_append, List.length_take, hdl, hy]
    omega
  · rw [h2, seg_len _ _ _ (by omega), l1]
/-- An element laid into a new row. -/
theorem laid_new {α : Type} (xs ys zs : List α) (a b k : Nat) (hxl : xs.length = a + b) (hz : k + b ≤ zs.length) (hy : ys.length = k) (cur cur1 cur2 : List α)
    (h0 : cur = xs.take a ++ zs) (h1 : cur1 = cur.take a ++ ys ++ cur.drop (a + ys.length)) (h2 : cur2 = cur1.take (a + k) ++ xs.drop a ++ cur1.drop (a + k + (xs.drop a).length)) :
    cur2.take (a + k + b) = xs.take a ++ ys ++ xs.drop a ∧ cur2.length = cur.length := by
  have hdl : (xs.drop a).length = b := by rw [List.length_drop]; omega
  have htl : (xs.take a).length = a := by rw [List.length_take]; omega
  have lc : cur.length = a + zs.length := by rw [h0, List.length_append, htl]
  have l1 : cur1.length = cur.length := by rw [h1]; exact seg_len _ _ _ (by omega)
  have t0 : cur.take a = xs.take a := by rw [h0, List.take_left' htl]
  have t1 : cur1.take (a + k) = xs.take a ++ ys := by
    rw [h1, hy, t0, List.take_left']
    rw [List.length_append, htl, hy]
  constructor
  · rw [h2, t1, hdl, List.take_left']
    simp only [List.length_append, htl, hy, hdl]
  · rw [h2, seg_len _ _ _ (by omega), l1]

section
variable {P : Program}
/-! ### copy -/
theorem run_copyK (w : World) (dT sT ty elem : TypeId) (K g o dLen dCap : Nat) (a : Addr) (sLen sCap : Nat) (cur : Array Value) (t : TypeId) (cs : List Value)
    (hu : P.underlying dT = some (.slice elem)) (hs : (P.info? elem).map (·.size) = some K)
    (hg : w.heap[g]? = some (.cells cur t (0, 0))) (hn : cs.length = Nat.min sLen dLen * K)
    (hsrc : ∀ j v, cs[j]? = some v → w.cell? (a.add j) = some v) (hfit : o + cs.length ≤ cur.size) (h1 : ∀ v ∈ cs, v.oneCell' = true) :
    (Builtin.copy_ #[dT, sT] ty #[.slice (some ⟨g, o, none⟩) dLen dCap, .slice (some a) sLen sCap]).run P w =
      .ok (.int .i64 ((Nat.min sLen dLen : Nat) : Int)) (w.setRow g (cur.toList.take o ++ cs ++ cur.toList.drop (o + cs.length)).toArray) := by
  have hl := run_loadCells_list (P := P) w a cs hsrc
  have hst := run_storeCells_at P g o t cs 0 cur w hg (by simpa using hfit) h1
  cases hq : P.info? elem with
  | none => simp [hq] at hs
  | some i =>
    have hi : i.size = K := by simpa [hq] using hs
    simp [Builtin.copy_, run_underlying hu, Builtin.lenOf, Builtin.firstCells, sizeOf, typeInfo, hq, hi, ← hn, hl, hst, goInt]
theorem wp_copyK (w : World) {o : Oper} {a : Act} {K : Act → World → Prop} {Q : Exit → Act → World → Prop} (d s : Operand) (t t' : TypeId)
    (ho : o.op = .call { callee := .builtin .copy, args := #[d, s], argTypes := #[t, t'] }) (v u : Value) (hd : a.eval d = v) (hs : a.eval s = u) {v' : Value} {w' : World}
    (hr : (Builtin.copy_ #[t, t'] o.type #[v, u]).run P w = .ok v' w') (h : K (a.put o.dst v') w') : o.wp P a w K Q := by
  unfold Oper.wp execOp
  simp only [ho, resolve, invoke, builtin, Sem.run_bind, Sem.run_pure, Result.andThen_ok, List.map_toArray, List.map_cons, List.map_nil, hd, hs, hr]
  exact h
theorem wpList_copyK (w : World) {ops : Array Oper} {rest : List Oper} {o : Oper} {a : Act} {Q : Exit → Act → World → Prop} (hgd : o.guard = none) (d s : Operand) (t t' : TypeId)
    (ho : o.op = .call { callee := .builtin .copy, args := #[d, s], argTypes := #[t, t'] }) (v u : Value) (hd : a.eval d = v) (hs : a.eval s = u) {v' : Value} {w' : World}
    (hr : (Builtin.copy_ #[t, t'] o.type #[v, u]).run P w = .ok v' w') (h : wpList P ops Q rest (a.put o.dst v') w') : wpList P ops Q (o :: rest) a w :=
  wpList_plain hgd fun _ hK => wp_copyK w d s t t' ho v u hd hs hr (hK _ _ h)

theorem wp_app_eq {w : World} {t tn ty : TypeId} {vs vx v' : Value} {w' : World} (hr : (Builtin.append_ #[t, tn] ty #[vs, vx]).run P w = .ok v' w')
    {o : Oper} {a : Act} {K : Act → World → Prop} {Q : Exit → Act → World → Prop} (s x : Operand)
    (ho : o.op = .call { callee := .builtin .append, args := #[s, x], argTypes := #[t, tn] }) (hty : o.type = ty) (hs : a.eval s = vs) (hx : a.eval x = vx) (h : K (a.put o.dst v') w') : o.wp P a w K Q :=
  Lib.wp_append_run w s x t tn ho vs vx hs hx v' w' (by rw [hty]; exact hr) h
theorem wp_clear_eq {w : World} {t ty : TypeId} {vs v' : Value} {w' : World} (hr : (Builtin.clear_ #[t] ty #[vs]).run P w = .ok v' w')
    {o : Oper} {a : Act} {K : Act → World → Prop} {Q : Exit → Act → World → Prop} (s : Operand)
    (ho : o.op = .call { callee := .builtin .clear, args := #[s], argTypes := #[t] }) (hty : o.type = ty) (hs : a.eval s = vs) (h : K (a.put o.dst v') w') : o.wp P a w K Q := by
  unfold Oper.wp execOp
  simp only [ho, resolve, invoke, builtin, Sem.run_bind, Sem.run_pure, Result.andThen_ok, List.map_toArray, List.map_cons, List.map_nil, hs, hty, hr]
  exact h
theorem wpList_clear_eq {w : World} {t ty : TypeId} {vs v' : Value} {w' : World} (hr : (Builtin.clear_ #[t] ty #[vs]).run P w = .ok v' w')
    {ops : Array Oper} {rest : List Oper} {o : Oper} {a : Act} {Q : Exit → Act → World → Prop} (hgd : o.guard = none) (s : Operand)
    (ho : o.op = .call { callee := .builtin .clear, args := #[s], argTypes := #[t] }) (hty : o.type = ty) (hs : a.eval s = vs) (h : wpList P ops Q rest (a.put o.dst v') w') : wpList P ops Q (o :: rest) a w :=
  wpList_plain hgd fun _ hK => wp_clear_eq hr s ho hty hs (hK _ _ h)

end

section
variable {P : Program} (w : World)
/-- Of the second operand's type it counts alone that it is a slice's. -/
theorem append_types {t tn e e2 : TypeId} (ht : P.underlying t = some (.slice e)) (htn : P.underlying tn = some (.slice e2)) (ty : TypeId) (a : Option Addr) (n c : Nat) (y : Value) : (Builtin.append_ #[t, tn] ty #[.slice a n c, y]).run P w = (Builtin.append_ #[t, t] ty #[.slice a n c, y]).run P w := by
  simp [Builtin.append_, run_underlying ht, run_underlying htn]
theorem wp_app2 {o : Oper} {a : Act} {K : Act → World → Prop} {Q : Exit → Act → World → Prop} (s x : Operand) (t tn : TypeId)
    (ho : o.op = .call { callee := .builtin .append, args := #[s, x], argTypes := #[t, tn] })
    (e : TypeId) {e2 : TypeId} (htn : P.underlying tn = some (.slice e2)) (i : TypeInfo) (z : Value) (size bytes : Nat) (ht : P.underlying t = some (.slice e)) (hi : P.info? e = some i) (hz : i.zero = some z)
    (hsize : i.size = size) (hby : i.bytes = bytes) (hzs : z.cells.size = size) (hsz : 0 < size)
    (v : Value) (n : Nat) (xs : List Value) (hs : a.eval s = v) (hown : Own w e size v n xs)
    (ad : Addr) (m c : Nat) (news : List Value) (hx : a.eval x = .slice (some ad) m c) (hl : news.length = m * size) (hnews : ∀ j u, news[j]? = some u → w.cell? (ad.add j) = some u) (h1 : ∀ u ∈ news, u.oneCell' = true)
    (hm : 0 < m) (h63 : n + m ≤ maxLen) (hbytes : (n + m) * bytes ≤ 140737488355328)
    (h : ∀ g cap w', Own w' e size (.slice (some ⟨g, 0, none⟩) (n + m) cap) (n + m) (xs ++ news) → (v.ownBlock = some g ∨ w.heap.size ≤ g) → w.grownBy w' v.ownBlock → K (a.put o.dst (.slice (some ⟨g, 0, none⟩) (n + m) cap)) w') : o.wp P a w K Q := by
  obtain ⟨g, cap, w', hr, h2, h3, h4⟩ := run_app (P := P) w t o.type e i z size bytes ht hi hz hsize hby hzs hsz v n xs hown ad m c news hl hnews h1 hm h63 hbytes
  have hv : ∃ a n c, v = .slice a n c := by
    rcases hown.2 with ⟨h, _⟩ | ⟨g, cap, cur, h, _⟩
    · exact ⟨_, _, _, h⟩
    · exact ⟨_, _, _, h⟩
  obtain ⟨a1, n1, c1, rfl⟩ := hv
  rw [← append_types w ht htn] at hr
  exact wp_app_eq hr s x ho rfl hs hx (h g cap w' h2 h3 h4)
theorem wpList_app2 {ops : Array Oper} {rest : List Oper} {o : Oper} {a : Act} {Q : Exit → Act → World → Prop} (hgd : o.guard = none) (s x : Operand) (t tn : TypeId)
    (ho : o.op = .call { callee := .builtin .append, args := #[s, x], argTypes := #[t, tn] })
    (e : TypeId) {e2 : TypeId} (htn : P.underlying tn = some (.slice e2)) (i : TypeInfo) (z : Value) (size bytes : Nat) (ht : P.underlying t = some (.slice e)) (hi : P.info? e = some i) (hz : i.zero = some z)
    (hsize : i.size = size) (hby : i.bytes = bytes) (hzs : z.cells.size = size) (hsz : 0 < size)
    (v : Value) (n : Nat) (xs : List Value) (hs : a.eval s = v) (hown : Own w e size v n xs)
    (ad : Addr) (m c : Nat) (news : List Value) (hx : a.eval x = .slice (some ad) m c) (hl : news.length = m * size) (hnews : ∀ j u, news[j]? = some u → w.cell? (ad.add j) = some u) (h1 : ∀ u ∈ news, u.oneCell' = true)
    (hm : 0 < m) (h63 : n + m ≤ maxLen) (hbytes : (n + m) * bytes ≤ 140737488355328)
    (h : ∀ g cap w', Own w' e size (.slice (some ⟨g, 0, none⟩) (n + m) cap) (n + m) (xs ++ news) → (v.ownBlock = some g ∨ w.heap.size ≤ g) → w.grownBy w' v.ownBlock → wpList P ops Q rest (a.put o.dst (.slice (some ⟨g, 0, none⟩) (n + m) cap)) w') : wpList P ops Q (o :: rest) a w :=
  wpList_plain hgd fun _ hK => wp_app2 w s x t tn ho e htn i z size bytes ht hi hz hsize hby hzs hsz v n xs hs hown ad m c news hx hl hnews h1 hm h63 hbytes fun g cap w' h2 h3 h4 => hK _ _ (h g cap w' h2 h3 h4)
end
section
variable {P : Program}
/-! ### clear -/
theorem zeroCells_len (zs : Array Value) (n : Nat) : (Builtin.zeroCells zs n).toList.length = n * zs.size := by simp [Builtin.zeroCells, Nat.mul_comm]
theorem zeroCells_one (zs : Array Value) (n : Nat) (h : ∀ v ∈ zs.toList, v.oneCell' = true) : ∀ v ∈ (Builtin.zeroCells zs n).toList, v.oneCell' = true := by
  intro v hv
  obtain ⟨i, hi, rfl⟩ := List.mem_iff_getElem.1 hv
  rw [zeroCells_len] at hi
  have hp : 0 < zs.size := by
    rcases Nat.eq_zero_or_pos zs.size with h0 | h0
    · rw [h0] at hi; omega
    · exact h0
  have hlt : i % zs.size < zs.size := Nat.mod_lt _ hp
  have e : (Builtin.zeroCells zs n).toList[i] = zs[i % zs.size] := by
    simp [Builtin.zeroCells, hlt]
  rw [e]
  exact h _ (by simp)
theorem run_clearK (w : World) (t e ty : TypeId) (z : Value) (K : Nat) (ht : P.underlying t = some (.slice e)) (hv : ∀ w, (zeroValue e).run P w = .ok z w) (hz : z.cells.size = K) (h1 : ∀ v ∈ z.cells.toList, v.oneCell' = true)
    (g o n c : Nat) (hn : 0 < n) (cur : Array Value) (tt : TypeId) (hg : w.heap[g]? = some (.cells cur tt (0, 0))) (hfit : o + n * K ≤ cur.size) :
    (Builtin.clear_ #[t] ty #[.slice (some ⟨g, o, none⟩) n c]).run P w = .ok (.tuple #[]) (w.setRow g (cur.toList.take o ++ (Builtin.zeroCells z.cells n).toList ++ cur.toList.drop (o + n * K)).toArray) := by
  have hl := zeroCells_len z.cells n
  rw [hz] at hl
  have hst := run_storeCells_at P g o tt (Builtin.zeroCells z.cells n).toList 0 cur w hg (by rw [hl]; simpa using hfit) (zeroCells_one _ _ h1)
  rw [hl] at hst
  simp only [Nat.add_zero] at hst
  obtain ⟨m, rfl⟩ : ∃ m, n = m + 1 := ⟨n - 1, by omega⟩
  simp [Builtin.clear_, run_underlying ht, hv, hst]
end

/-! ### A row's block, written as a whole -/
theorem setRow_mdh {S : Nat → Prop} {w w' : World} (h : Mdh S w w') {g : Nat} (hg : S g ∨ w.heap.size ≤ g) (cs : Array Value) : Mdh S w (w'.setRow g cs) := by
  have hk : ∀ k, k ≠ g → (w'.setRow g cs).heap[k]? = w'.heap[k]? := fun k hk => by
    unfold World.setRow
    simp [Array.getElem?_modify, hk.symm]
  refine ⟨by unfold World.setRow; simpa using h.size, fun k hk' hn => ?_, ?_, ?_, ?_⟩
  · rw [hk k (fun e => by subst e; rcases hg with h1 | h1; exact hn h1; omega)]
    exact h.blocks k hk' hn
  · exact h.os
  · exact h.tape
  · exact h.output
theorem Own.parts {w : World} {e : TypeId} {K g n cap : Nat} {xs : List Value} (h : Own w e K (.slice (some ⟨g, 0, none⟩) n cap) n xs) :
    ∃ cur : Array Value, w.heap[g]? = some (.cells cur e (0, 0)) ∧ n ≤ cap ∧ cap ≤ maxLen ∧ cur.size = cap * K ∧ cur.toList.take (n * K) = xs := by
  rcases h.2 with ⟨h0, _⟩ | ⟨g', cap', cur, hv, _, hg, h1, h2, h3, h4⟩
  · cases h0
  · simp only [Value.slice.injEq, Option.some.injEq, Addr.mk.injEq, and_true, true_and] at hv
    obtain ⟨rfl, rfl⟩ := hv
    exact ⟨cur, hg, h1, h2, h3, h4⟩
theorem Own.ofParts {w : World} {e : TypeId} {K g n cap : Nat} {xs : List Value} {cur : Array Value} (hg : w.heap[g]? = some (.cells cur e (0, 0))) (h1 : n ≤ cap) (h2 : cap ≤ maxLen) (h3 : cur.size = cap * K) (h4 : cur.toList.take (n * K) = xs) :
    Own w e K (.slice (some ⟨g, 0, none⟩) n cap) n xs := by
  refine ⟨?_, .inr ⟨g, cap, cur, rfl, Nat.zero_le _, hg, h1, h2, h3, h4⟩⟩
  rw [← h4, List.length_take]
  have := Nat.mul_le_mul_right K h1
  simp only [Array.length_toList]
  omega
theorem setRow_at {w : World} {g : Nat} {cur cs : Array Value} {t : TypeId} (hg : w.heap[g]? = some (.cells cur t (0, 0))) : (w.setRow g cs).heap[g]? = some (.cells cs t (0, 0)) := setRow_heap w g cur cs t _ hg
theorem setRow_ne {w : World} {g k : Nat} (cs : Array Value) (h : k ≠ g) : (w.setRow g cs).heap[k]? = w.heap[k]? := by
  unfold World.setRow
  simp [Array.getElem?_modify, h.symm]
/-- What an element laid into a row comes to. -/
def InsPost (K : Nat) (t : TypeId) (v : Value) (n i : Nat) (xs ys : List Value) (w : World) (e : Ending) (w' : World) : Prop :=
  ∃ g cap, e = .returned (.slice (some ⟨g, 0, none⟩) (n + 1) cap) ∧ Own w' t K (.slice (some ⟨g, 0, none⟩) (n + 1) cap) (n + 1) (xs.take (i * K) ++ ys ++ xs.drop (i * K)) ∧ (v.ownBlock = some g ∨ w.heap.size ≤ g) ∧ Mdh (fun k => v.ownBlock = some k) w w'
end Go.Proofs.Ytemjnppplmankaa

/- Contract of slices.Insert of one element, at drumlin/ordmap.item[int, string]. Written from YIns.base by inst.py. -/
set_option linter.unusedVariables false
set_option linter.unusedSimpArgs false
namespace Go.Proofs.Ytemjnppplmankaa
open Go.RowKit
attribute [local go_sem] OvM cell_ovm obj_ovm

theorem infoItis : (Try.prog.info? 94).map (fun i => (i.zero, i.size, i.bytes)) = some (some (.agg #[.int .i64 0, .string ⟨#[]⟩]), 2, 24) := by kernel_rfl
theorem sizeItis (w : World) : (Go.sizeOf 94).run Try.prog w = .ok 2 w := by kernel_rfl
theorem ovlItis (w : World) (g vb o lb cb : Nat) (cur ys : Array Value) (hg : w.heap[g]? = some (.cells cur 94 (0, 0))) (hv : w.heap[vb]? = some (.cells ys 94 (0, 0))) (hne : vb ≠ g) (hs : cur.size ≠ 0) :
    (callFunc 59 #[.slice (some ⟨vb, 0, none⟩) 1 1, .slice (some ⟨g, o, none⟩) lb cb]).run Try.prog w = .ok (.value (.bool false)) w := by
  rw [run_callFunc_extern Try.func59 (by kernel_rfl) (by kernel_rfl) (by kernel_rfl) (e := Extern.SlicesOverlaps.overlaps #[88, 88] #[4]) (by kernel_rfl),
    Lib.run_overlaps_apart w 88 4 94 Try.underlying88 2 sizeItis ⟨vb, 0, none⟩ ⟨g, o, none⟩ 1 1 lb cb hne 94 94 ys.size cur.size (by simp [World.shape?, hv]) (by simp [World.shape?, hg]) hs ((cellsOf hv).2 _) ((cellsOf hv).2 _)]
  rfl

set_option maxRecDepth 40000 in
set_option maxHeartbeats 4000000 in
theorem Insert_shiftis (g n cap i : Nat) (xs ys : List Value) (vb : Nat) (w : World) (hown : Own w 94 2 (.slice (some ⟨g, 0, none⟩) n cap) n xs) (h1 : ∀ u ∈ xs, u.oneCell' = true) (hi : i < n) (hroom : n + 1 ≤ cap)
    (hvb : w.heap[vb]? = some (.cells ys.toArray 94 (0, 0))) (hy : ys.length = 2) (hy1 : ∀ u ∈ ys, u.oneCell' = true) (hne : vb ≠ g) :
    Calls Try.prog 42 #[.slice (some ⟨g, 0, none⟩) n cap, .int .i64 i, .slice (some ⟨vb, 0, none⟩) 1 1] w (InsPost 2 94 (.slice (some ⟨g, 0, none⟩) n cap) n i xs ys w) := by
  obtain ⟨cur, hg, hnc, hcm, hcs, htk⟩ := hown.parts
  have hsz : (Try.prog.info? 94).map (·.size) = some 2 := by kernel_rfl
  have hx : xs.length = n * 2 := hown.1
  have hb2 : ¬ cap = i + 1 := by omega
  have hb4 : ¬ cap = i := by omega
  have hin : i ≤ n := by omega
  have hi1 : (i : Int) + 1 ≤ (n : Int) + 1 := by omega
  have hieq : ¬ (i : Int) = n := by omega
  have hroom' : ¬ (cap : Int) < (n : Int) + 1 := by omega
  unfold maxLen at hcm
  have hsrc : ∀ (w1 : World), w1.heap[g]? = some (.cells cur 94 (0, 0)) → ∀ j v, (xs.drop (i * 2))[j]? = some v → w1.cell? ((⟨g, i * 2, none⟩ : Addr).add j) = some v := fun w1 hw1 j v hj => by
    rw [show (⟨g, i * 2, none⟩ : Addr).add j = ⟨g, i * 2 + j, none⟩ by unfold Addr.add; split <;> simp_all, (cellsOf hw1).1]
    rw [List.getElem?_drop, ← htk, List.getElem?_take] at hj
    split at hj
    · simpa using hj
    · cases hj
  have HCUR : Hid (cur.size = cap * 2 ∧ cur.toList.take (n * 2) = xs ∧ xs.length = n * 2) := Lib.hid ⟨hcs, htk, hx⟩
  have hdl : (xs.drop (i * 2)).length = (n - i) * 2 := by rw [List.length_drop, hx]; omega
  have hcp1 := fun (w1 : World) (hw1 : w1.heap[g]? = some (.cells cur 94 (0, 0))) dc sc => run_copyK (P := Try.prog) w1 88 88 3 94 2 g ((i + 1) * 2) (n - i) dc ⟨g, i * 2, none⟩ (n + 1 - i) sc cur 94 (xs.drop (i * 2)) Try.underlying88 hsz hw1
    (by rw [hdl, show Nat.min (n + 1 - i) (n - i) = n - i by simp only [Nat.min_def]; split <;> omega]) (hsrc w1 hw1) (by rw [hdl, hcs]; omega) (fun v hv => h1 v (List.mem_of_mem_drop hv))
  obtain ⟨cur1, hc1⟩ : ∃ cur1, cur1 = (cur.toList.take ((i + 1) * 2) ++ xs.drop (i * 2) ++ cur.toList.drop ((i + 1) * 2 + (xs.drop (i * 2)).length)).toArray := ⟨_, rfl⟩
  rw [← hc1] at hcp1
  have hs1 : cur1.size = cur.size := by
    have := seg_len cur.toList (xs.drop (i * 2)) ((i + 1) * 2) (by rw [hdl, Array.length_toList, hcs]; omega)
    rw [hc1]; simpa using this
  have hcp2 := fun (w1 : World) (hw1 : w1.heap[g]? = some (.cells cur1 94 (0, 0))) (hw2 : w1.heap[vb]? = some (.cells ys.toArray 94 (0, 0))) dc => run_copyK (P := Try.prog) w1 88 88 3 94 2 g (i * 2) (n + 1 - i) dc ⟨vb, 0, none⟩ 1 1 cur1 94 ys Try.underlying88 hsz hw1
    (by rw [hy, show Nat.min 1 (n + 1 - i) = 1 by simp only [Nat.min_def]; split <;> omega]) (fun j v hj => by rw [show (⟨vb, 0, none⟩ : Addr).add j = ⟨vb, j, none⟩ by unfold Addr.add; split <;> simp_all, (cellsOf hw2).1]; simpa using hj) (by rw [hy, hs1, hcs]; omega) hy1
  have hov := fun (w1 : World) (hw1 : w1.heap[g]? = some (.cells cur 94 (0, 0))) (hw2 : w1.heap[vb]? = some (.cells ys.toArray 94 (0, 0))) o lb cb => ovlItis w1 g vb o lb cb cur ys.toArray hw1 hw2 hne (by rw [hcs]; omega)
  have HC1 := Lib.hid hc1
  have HP1 := Lib.hid hcp1
  have HP2 := Lib.hid hcp2
  have hov1 := fun o lb cb => hov w hg hvb o lb cb
  clear hcp1 hcp2 hov hsrc hcs htk hx hdl hc1 hs1 hown
  go_enter Try.func42, Try.ntmps42
  go_wp2_with (simp only [hov1])
  refine wp_region_flo (fun k => k = g) [] [] (by kernel_rfl) (by kernel_rfl) (fun k hk => by subst hk; exact blkLt hg) ?_
  refine flo_seg 8 rfl ?_
  simp only [List.take_succ_cons, List.take_zero, List.drop_succ_cons, List.drop_zero]
  repeat (go_big_quiet_step (fail))
  refine wpQuiet_nil ?_
  refine flo_eff rfl rfl rfl rfl (fun K hK => ?_)
  refine wp_copyK _ (.tmp 73) (.tmp 76) 88 88 rfl (.slice (some ⟨g, (i + 1) * 2, none⟩) (n - i) (cap - (i + 1))) (.slice (some ⟨g, i * 2, none⟩) (n + 1 - i) (cap - i)) rfl rfl (HP1.out w.drew hg _ _) ?_; (have HG1 := Lib.hid (setRow_at (w := w.drew) (cs := cur1) hg)); (have HV1 := Lib.hid ((setRow_ne (w := w.drew) cur1 hne).trans hvb)); (have HM1 := Lib.hid (setRow_mdh (S := fun k => k = g) (Mdh.refl _ w.drew) (g := g) (.inl rfl) cur1)); go_wp2; refine ⟨HM1.out.mono (fun q hq => by simpa using hq), ?_⟩
  refine flo_nil ?_
  go_wp2_with (refine wpList_copyK _ rfl (.tmp 80) (.tmp 81) 88 88 rfl (.slice (some ⟨g, i * 2, none⟩) (n + 1 - i) (cap - i)) (.slice (some ⟨vb, 0, none⟩) 1 1) rfl rfl (HP2.out _ HG1.out HV1.out _) ?_)
  go_ret
  obtain ⟨hcs, htk, hx⟩ := HCUR.out
  have hL := laid_in cur.toList xs ys (i * 2) ((n - i) * 2) 2 (by rw [show i * 2 + (n - i) * 2 = n * 2 by omega]; exact htk) (by rw [Array.length_toList, hcs]; omega) hy cur1.toList (cur1.toList.take (i * 2) ++ ys ++ cur1.toList.drop (i * 2 + ys.length))
    (by rw [HC1.out, show i * 2 + 2 = (i + 1) * 2 by omega]) rfl
  refine ⟨g, cap, rfl, Own.ofParts (setRow_at HG1.out) hroom (by unfold maxLen; omega) ?_ ?_, .inl rfl, ?_⟩
  · have := hL.2
    simpa [hcs, hy] using this
  · have := hL.1
    rw [show i * 2 + 2 + (n - i) * 2 = (n + 1) * 2 by omega] at this
    simpa [hy] using this
  · exact setRow_mdh (S := fun k => (Value.slice (some ⟨g, 0, none⟩) n cap).ownBlock = some k) (setRow_mdh (S := fun k => (Value.slice (some ⟨g, 0, none⟩) n cap).ownBlock = some k) ((Mdh.refl _ w).drew) (g := g) (.inl rfl) cur1) (g := g) (.inl rfl) _

set_option maxRecDepth 40000 in
set_option maxHeartbeats 4000000 in
theorem Insert_endis (v : Value) (n : Nat) (xs ys : List Value) (vb : Nat) (w : World) (hown : Own w 94 2 v n xs) (hn : n ≤ 1000000)
    (hvb : w.heap[vb]? = some (.cells ys.toArray 94 (0, 0))) (hy : ys.length = 2) (hy1 : ∀ u ∈ ys, u.oneCell' = true) :
    Calls Try.prog 42 #[v, .int .i64 n, .slice (some ⟨vb, 0, none⟩) 1 1] w (InsPost 2 94 v n n xs ys w) := by
  obtain ⟨i0, hi0, hz0, hz1, hz2⟩ := info_parts infoItis
  have hx : xs.length = n * 2 := hown.1
  have HN : Hid (∀ j u, ys[j]? = some u → w.cell? ((⟨vb, 0, none⟩ : Addr).add j) = some u) := Lib.hid (fun j u hj => by
    rw [show (⟨vb, 0, none⟩ : Addr).add j = ⟨vb, j, none⟩ by unfold Addr.add; split <;> simp_all, (cellsOf hvb).1]; simpa using hj)
  have HO := Lib.hid hown
  have HX : Hid (xs.take (n * 2) ++ ys ++ xs.drop (n * 2) = xs ++ ys) := Lib.hid (by rw [List.take_of_length_le (by omega), List.drop_of_length_le (by omega), List.append_nil])
  rcases hown.2 with ⟨rfl, rfl⟩ | ⟨g, cap, cur, rfl, _, _, hnc, hcm, _⟩
  · clear hown hx
    go_enter Try.func42, Try.ntmps42
    go_wp2_with (at_builtin; go_must (refine wpList_app _ rfl (.tmp 23) (.tmp 24) 88 rfl 94 i0 _ 2 24 Try.underlying88 hi0 hz0 hz1 hz2 rfl (by decide) (.slice none 0 0) 0 xs rfl HO.out ⟨vb, 0, none⟩ 1 1 ys rfl hy HN.out hy1 (by decide) (by simp only [maxLen]; omega) (by omega) ?_); intro g2 cap2 w2 ho2 hwh hgr; have HO2 := Lib.hid ho2; have HW2 := Lib.hid hwh; have HG2 := Lib.hid hgr; clear ho2 hwh hgr)
    all_goals
      go_ret
      refine ⟨g2, cap2, rfl, by rw [HX.out]; exact HO2.out, HW2.out, Mdh.grown (Mdh.refl _ w) HG2.out (fun r hr => hr)⟩
  · clear hown hx
    unfold maxLen at hcm
    go_enter Try.func42, Try.ntmps42
    go_wp2_with (at_builtin; go_must (refine wpList_app _ rfl (.tmp 23) (.tmp 24) 88 rfl 94 i0 _ 2 24 Try.underlying88 hi0 hz0 hz1 hz2 rfl (by decide) (.slice (some ⟨g, 0, none⟩) n cap) n xs rfl HO.out ⟨vb, 0, none⟩ 1 1 ys rfl hy HN.out hy1 (by decide) (by simp only [maxLen]; omega) (by omega) ?_); intro g2 cap2 w2 ho2 hwh hgr; have HO2 := Lib.hid ho2; have HW2 := Lib.hid hwh; have HG2 := Lib.hid hgr; clear ho2 hwh hgr)
    all_goals
      go_ret
      refine ⟨g2, cap2, rfl, by rw [HX.out]; exact HO2.out, HW2.out, Mdh.grown (Mdh.refl _ w) HG2.out (fun r hr => hr)⟩

set_option maxRecDepth 40000 in
set_option maxHeartbeats 4000000 in
theorem Insert_growis (g n cap i : Nat) (xs ys : List Value) (vb : Nat) (w : World) (hown : Own w 94 2 (.slice (some ⟨g, 0, none⟩) n cap) n xs) (h1 : ∀ u ∈ xs, u.oneCell' = true) (hi : i < n) (hroom : cap < n + 1) (hn : n ≤ 1000000)
    (hvb : w.heap[vb]? = some (.cells ys.toArray 94 (0, 0))) (hy : ys.length = 2) (hy1 : ∀ u ∈ ys, u.oneCell' = true) :
    Calls Try.prog 42 #[.slice (some ⟨g, 0, none⟩) n cap, .int .i64 i, .slice (some ⟨vb, 0, none⟩) 1 1] w (InsPost 2 94 (.slice (some ⟨g, 0, none⟩) n cap) n i xs ys w) := by
  obtain ⟨i0, hi0, hz0, hz1, hz2⟩ := info_parts infoItis
  obtain ⟨cur, hg, hnc, hcm, hcs, htk⟩ := hown.parts
  have hsz : (Try.prog.info? 94).map (·.size) = some 2 := by kernel_rfl
  have hx : xs.length = n * 2 := hown.1
  have hcell := hown.cells rfl
  have hci : ¬ cap = i := by omega
  have hin : i ≤ n := by omega
  have hieq : ¬ (i : Int) = n := by omega
  have hroom' : (cap : Int) < (n : Int) + 1 := by omega
  have hkk : (n : Int) + 1 - (i : Int) = ((n + 1 - i : Nat) : Int) := by omega
  have hik : i + (n + 1 - i) = n + 1 := by omega
  have hgw := blkLt hg
  have hvw := blkLt hvb
  have hadd : ∀ b j : Nat, (⟨b, 0, none⟩ : Addr).add j = ⟨b, j, none⟩ := fun b j => by unfold Addr.add; split <;> simp_all
  have hold : (Builtin.firstCells i0.size i (.slice (some ⟨g, 0, none⟩) i cap)).run Try.prog w.drew = .ok (xs.take (i * 2)).toArray w.drew := by
    rw [hz1]
    exact run_firstCells_some w.drew 2 i ⟨g, 0, none⟩ i cap (xs.take (i * 2)) (by rw [List.length_take]; omega) (fun j v hj => by
      rw [List.getElem?_take] at hj
      split at hj
      · exact hcell j v hj
      · cases hj)
  have hrz : ∀ ty, (Builtin.append_ #[88, 3] ty #[.slice (some ⟨g, 0, none⟩) i cap, .int .i64 ((n : Int) + 1 - (i : Int))]).run Try.prog w =
      .ok (.slice (some ⟨w.heap.size, 0, none⟩) (n + 1) (grownCap w (n + 1) cap 94)) (w.drew.alloc (.cells ((xs.take (i * 2)).toArray ++ Builtin.zeroCells (Value.agg #[.int .i64 0, .string ⟨#[]⟩]).cells (n + 1 - i) ++ Builtin.zeroCells (Value.agg #[.int .i64 0, .string ⟨#[]⟩]).cells (grownCap w (n + 1) cap 94 - (n + 1))) 94)) := fun ty => by
    have h := Lib.run_append_grow_zeros w 88 3 ty 94 i0 _ .i64 .i64 Try.underlying88 Try.underlying3 hi0 hz0 (some ⟨g, 0, none⟩) i cap (xs.take (i * 2)) hold (n + 1 - i) (by omega) (by omega) (by omega) (by omega) (by rw [hz2]; omega) (by rw [hz2, hik]; exact growslice_fits hroom (by omega))
    rw [hik] at h
    rw [hkk]
    exact h
  obtain ⟨G, hG⟩ : ∃ G, G = grownCap w (n + 1) cap 94 := ⟨_, rfl⟩
  obtain ⟨ROW, hROW⟩ : ∃ ROW : Array Value, ROW = (xs.take (i * 2)).toArray ++ Builtin.zeroCells (Value.agg #[.int .i64 0, .string ⟨#[]⟩]).cells (n + 1 - i) ++ Builtin.zeroCells (Value.agg #[.int .i64 0, .string ⟨#[]⟩]).cells (G - (n + 1)) := ⟨_, rfl⟩
  rw [← hG] at hrz
  rw [← hROW] at hrz
  have hGn : n + 1 ≤ G := by rw [hG]; exact grownCap_ge w _ _ _
  have hG63 : G ≤ maxLen := by rw [hG]; exact grownCap_le_maxLen w _ _ _ (by unfold maxLen; omega)
  obtain ⟨ZS, hZS, hROWl⟩ : ∃ ZS : List Value, ZS.length = (G - i) * 2 ∧ ROW.toList = xs.take (i * 2) ++ ZS := by
    refine ⟨(Builtin.zeroCells (Value.agg #[.int .i64 0, .string ⟨#[]⟩]).cells (n + 1 - i)).toList ++ (Builtin.zeroCells (Value.agg #[.int .i64 0, .string ⟨#[]⟩]).cells (G - (n + 1))).toList, ?_, ?_⟩
    · rw [List.length_append, zeroCells_len, zeroCells_len, show (Value.agg #[.int .i64 0, .string ⟨#[]⟩]).cells.size = 2 from rfl]; omega
    · rw [hROW]; simp
  have hRs : ROW.size = G * 2 := by
    rw [← Array.length_toList, hROWl, List.length_append, hZS, List.length_take]; omega
  have hdl : (xs.drop (i * 2)).length = (n - i) * 2 := by rw [List.length_drop, hx]; omega
  obtain ⟨cur1, hc1⟩ : ∃ cur1, cur1 = (ROW.toList.take (i * 2) ++ ys ++ ROW.toList.drop (i * 2 + ys.length)).toArray := ⟨_, rfl⟩
  have hs1 : cur1.size = G * 2 := by
    have := seg_len ROW.toList ys (i * 2) (by rw [hy, Array.length_toList, hRs]; omega)
    rw [hc1, ← hRs]; simpa using this
  have hcp1 := fun (w1 : World) (hw1 : w1.heap[w.heap.size]? = some (.cells ROW 94 (0, 0))) (hw2 : w1.heap[vb]? = some (.cells ys.toArray 94 (0, 0))) dc => run_copyK (P := Try.prog) w1 88 88 3 94 2 w.heap.size (i * 2) (n + 1 - i) dc ⟨vb, 0, none⟩ 1 1 ROW 94 ys Try.underlying88 hsz hw1
    (by rw [hy, show Nat.min 1 (n + 1 - i) = 1 by simp only [Nat.min_def]; split <;> omega]) (fun j v hj => by rw [hadd, (cellsOf hw2).1]; simpa using hj) (by rw [hy, hRs]; omega) hy1
  rw [← hc1] at hcp1
  have hcp2 := fun (w1 : World) (hw1 : w1.heap[w.heap.size]? = some (.cells cur1 94 (0, 0))) (hw2 : w1.heap[g]? = some (.cells cur 94 (0, 0))) dc sc => run_copyK (P := Try.prog) w1 88 88 3 94 2 w.heap.size ((i + 1) * 2) (n - i) dc ⟨g, i * 2, none⟩ (n - i) sc cur1 94 (xs.drop (i * 2)) Try.underlying88 hsz hw1
    (by rw [hdl, show Nat.min (n - i) (n - i) = n - i by simp only [Nat.min_def]; split <;> omega]) (fun j v hj => by
      rw [show (⟨g, i * 2, none⟩ : Addr).add j = ⟨g, i * 2 + j, none⟩ by unfold Addr.add; split <;> simp_all, (cellsOf hw2).1]
      rw [List.getElem?_drop, ← htk, List.getElem?_take] at hj
      split at hj
      · simpa using hj
      · cases hj) (by rw [hdl, hs1]; omega) (fun v hv => h1 v (List.mem_of_mem_drop hv))
  obtain ⟨cur2, hc2⟩ : ∃ cur2, cur2 = (cur1.toList.take ((i + 1) * 2) ++ xs.drop (i * 2) ++ cur1.toList.drop ((i + 1) * 2 + (xs.drop (i * 2)).length)).toArray := ⟨_, rfl⟩
  rw [← hc2] at hcp2
  have HL : Hid (_) := Lib.hid (laid_new xs ys ZS (i * 2) ((n - i) * 2) 2 (by omega) (by omega) hy ROW.toList cur1.toList cur2.toList hROWl (by rw [hc1]) (by rw [hc2, show i * 2 + 2 = (i + 1) * 2 by omega]))
  have HRZ := Lib.hid hrz
  have HP1 := Lib.hid hcp1
  have HP2 := Lib.hid hcp2
  have HS := Lib.hid (And.intro hRs (And.intro hdl hs1))
  have hG1 : ¬ G = i := by omega
  have hG2 : ¬ G = i + 1 := by omega
  have hG3 : (i : Int) + 1 ≤ (n : Int) + 1 := by omega
  have hG4 : (n : Int) + 1 ≤ G := by omega
  unfold maxLen at hcm hG63
  clear hrz hcp1 hcp2 hold hROW hROWl hc1 hRs hdl hs1 hcs htk hx hcell hown hc2 hkk hik hz0 hi0 hz1 hz2 hG hZS
  go_enter Try.func42, Try.ntmps42
  go_wp2_with (first
    | (at_builtin; refine Lib.wpList_append_run _ rfl _ _ _ _ rfl _ _ rfl rfl _ _ (HRZ.out _) ?_)
    | (refine wpList_copyK _ rfl (.tmp 43) (.tmp 44) 88 88 rfl (.slice (some ⟨w.heap.size, i * 2, none⟩) (n + 1 - i) (G - i)) (.slice (some ⟨vb, 0, none⟩) 1 1) rfl rfl (HP1.out _ (blkNew w.drew _) (blkOld (w := w.drew) hvb) _) ?_))
  have hga : ((w.drew.alloc (.cells ROW 94)).setRow w.heap.size cur1).heap[w.heap.size]? = some (.cells cur1 94 (0, 0)) := setRow_at (w := w.drew.alloc (.cells ROW 94)) (cs := cur1) (blkNew w.drew _)
  have hgb : ((w.drew.alloc (.cells ROW 94)).setRow w.heap.size cur1).heap[g]? = some (.cells cur 94 (0, 0)) := (setRow_ne _ (by omega)).trans (blkOld (w := w.drew) hg)
  have HM : Hid (Mdh (fun k => (Value.slice (some ⟨g, 0, none⟩) n cap).ownBlock = some k) w ((w.drew.alloc (.cells ROW 94)).setRow w.heap.size cur1)) := Lib.hid (setRow_mdh (((Mdh.refl _ w).drew).alloc _) (.inr (Nat.le_refl _)) _)
  generalize (w.drew.alloc (.cells ROW 94)).setRow w.heap.size cur1 = W1 at *
  have HGA := Lib.hid hga
  have HGB := Lib.hid hgb
  clear hgb hgw hvw
  go_simp
  refine wp_region_flo (fun k => k = w.heap.size) [] [] (by kernel_rfl) (by kernel_rfl) (fun k hk => by subst hk; exact blkLt hga) ?_
  refine flo_seg 8 rfl ?_
  simp only [List.take_succ_cons, List.take_zero, List.drop_succ_cons, List.drop_zero]
  repeat (go_big_quiet_step (fail))
  refine wpQuiet_nil ?_
  refine flo_eff rfl rfl rfl rfl (fun K hK => ?_)
  refine wp_copyK _ (.tmp 50) (.tmp 53) 88 88 rfl (.slice (some ⟨w.heap.size, (i + 1) * 2, none⟩) (n - i) (G - (i + 1))) (.slice (some ⟨g, i * 2, none⟩) (n - i) (cap - i)) rfl rfl (HP2.out W1.drew HGA.out HGB.out _ _) ?_; (have HG1 := Lib.hid (setRow_at (w := W1.drew) (cs := cur2) HGA.out)); (have HM1 := Lib.hid (setRow_mdh (S := fun k => k = w.heap.size) (Mdh.refl _ W1.drew) (g := w.heap.size) (.inl rfl) cur2)); go_wp2; refine ⟨HM1.out.mono (fun q hq => by simpa using hq), ?_⟩
  refine flo_nil ?_
  go_wp2
  go_ret
  obtain ⟨hRs, hdl, hs1⟩ := HS.out
  have hL := HL.out
  rw [show i * 2 + 2 = (i + 1) * 2 by omega, show (i + 1) * 2 + (n - i) * 2 = (n + 1) * 2 by omega] at hL
  refine ⟨w.heap.size, G, rfl, Own.ofParts HG1.out (by omega) (by unfold maxLen; omega) ?_ (by simpa using hL.1), .inr (Nat.le_refl _), ?_⟩
  · have := hL.2
    simp only [Array.length_toList] at this
    rw [this, hRs]
  · exact setRow_mdh HM.out.drew (.inr (Nat.le_refl _)) _

/-- One element laid into a row of the call's own. -/
theorem Insertis (v : Value) (n i : Nat) (xs ys : List Value) (vb : Nat) (w : World) (hown : Own w 94 2 v n xs) (h1 : ∀ u ∈ xs, u.oneCell' = true) (hi : i ≤ n) (hn : n ≤ 1000000)
    (hvb : w.heap[vb]? = some (.cells ys.toArray 94 (0, 0))) (hy : ys.length = 2) (hy1 : ∀ u ∈ ys, u.oneCell' = true) (hne : v.ownBlock ≠ some vb) :
    Calls Try.prog 42 #[v, .int .i64 i, .slice (some ⟨vb, 0, none⟩) 1 1] w (InsPost 2 94 v n i xs ys w) := by
  by_cases hin : i = n
  · subst hin
    exact Insert_endis v i xs ys vb w hown hn hvb hy hy1
  · rcases hown.2 with ⟨rfl, rfl⟩ | ⟨g, cap, cur, rfl, _⟩
    · omega
    · by_cases hr : n + 1 ≤ cap
      · exact Insert_shiftis g n cap i xs ys vb w hown h1 (by omega) hr hvb hy hy1 (fun e => hne (by rw [e]; rfl))
      · exact Insert_growis g n cap i xs ys vb w hown h1 (by omega) (by omega) hn hvb hy hy1
end Go.Proofs.Ytemjnppplmankaa

/- Contract of slices.Delete of one element, at drumlin/ordmap.item[int, string]. Written from YDel.base by inst.py. -/
set_option linter.unusedVariables false
set_option linter.unusedSimpArgs false
namespace Go.Proofs.Ytemjnppplmankaa
open Go.RowKit
attribute [local go_sem] OvM cell_ovm obj_ovm

def DelPostis (g n cap i : Nat) (xs : List Value) (w : World) (e : Ending) (w' : World) : Prop :=
  e = .returned (.slice (some ⟨g, 0, none⟩) (n - 1) cap) ∧ Own w' 94 2 (.slice (some ⟨g, 0, none⟩) (n - 1) cap) (n - 1) (xs.take (i * 2) ++ xs.drop ((i + 1) * 2)) ∧ Mdh (fun k => k = g) w w'
theorem zeroItis (w : World) : (zeroValue 94).run Try.prog w = .ok (.agg #[.int .i64 0, .string ⟨#[]⟩]) w := by kernel_rfl

set_option maxRecDepth 40000 in
set_option maxHeartbeats 4000000 in
theorem Deleteis (g n cap i : Nat) (xs : List Value) (w : World) (hown : Own w 94 2 (.slice (some ⟨g, 0, none⟩) n cap) n xs) (h1 : ∀ u ∈ xs, u.oneCell' = true) (hi : i < n) :
    Calls Try.prog 51 #[.slice (some ⟨g, 0, none⟩) n cap, .int .i64 i, .int .i64 ((i + 1 : Nat) : Int)] w (DelPostis g n cap i xs w) := by
  obtain ⟨i0, hi0, hz0, hz1, hz2⟩ := info_parts infoItis
  obtain ⟨cur, hg, hnc, hcm, hcs, htk⟩ := hown.parts
  have hx : xs.length = n * 2 := hown.1
  have hcell := hown.cells rfl
  have hc1 : ¬ cap = i := by omega
  obtain ⟨J, hJ⟩ : ∃ J : Nat, J = i + 1 := ⟨_, rfl⟩
  have hJn : J ≤ n := by omega
  have hadd : ∀ b o j : Nat, (⟨b, o, none⟩ : Addr).add j = ⟨b, o + j, none⟩ := fun b o j => by unfold Addr.add; split <;> simp_all
  have hdl : (xs.drop (J * 2)).length = (n - J) * 2 := by rw [List.length_drop, hx]; omega
  obtain ⟨ad, had⟩ : ∃ ad : Addr, ad = if cap = J then ⟨g, 0, none⟩ else ⟨g, J * 2, none⟩ := ⟨_, rfl⟩
  obtain ⟨w2, hr, ho, hgr⟩ := run_append_fits (P := Try.prog) w.drew 0 88 88 94 i0 2 Try.underlying88 hi0 hz1 g i cap (xs.take (i * 2)) ((hown.gr (Gr.drew (Gr.refl w))).take (by omega)) ad (n - J) (cap - J) (xs.drop (J * 2)) hdl
    (fun j v hj => by
      rw [List.getElem?_drop] at hj
      have hlt := (List.getElem?_eq_some_iff.1 hj).1
      have := hcell _ _ hj
      rw [hadd, Nat.zero_add] at this
      rw [had, if_neg (by omega), hadd]
      exact this) (fun v hv => h1 v (List.mem_of_mem_drop hv)) (by omega)
  have hlen : i + (n - J) = n - 1 := by omega
  rw [hlen] at hr ho
  obtain ⟨cur2, hg2, hnc2, hcm2, hcs2, htk2⟩ := Own.parts (Own.lift ho)
  have hM : Mdh (fun k => k = g) w w2 := Mdh.grown ((Mdh.refl _ w).drew) hgr (fun r hr => by simpa using hr.symm)
  have hcl := run_clearK (P := Try.prog) w2 88 94 0 (.agg #[.int .i64 0, .string ⟨#[]⟩]) 2 Try.underlying88 zeroItis rfl (by decide) g ((n - 1) * 2) 1 (cap - (n - 1)) (by omega) cur2 94 hg2 (by rw [hcs2]; omega)
  obtain ⟨cur3, hc3d⟩ : ∃ cur3, cur3 = (cur2.toList.take ((n - 1) * 2) ++ (Builtin.zeroCells (Value.agg #[.int .i64 0, .string ⟨#[]⟩]).cells 1).toList ++ cur2.toList.drop ((n - 1) * 2 + 1 * 2)).toArray := ⟨_, rfl⟩
  rw [← hc3d] at hcl
  have hs3 : cur3.size = cap * 2 := by
    have := seg_len cur2.toList (Builtin.zeroCells (Value.agg #[.int .i64 0, .string ⟨#[]⟩]).cells 1).toList ((n - 1) * 2) (by rw [zeroCells_len, Array.length_toList, hcs2, show (Value.agg #[.int .i64 0, .string ⟨#[]⟩]).cells.size = 2 from rfl]; omega)
    rw [zeroCells_len, show (Value.agg #[.int .i64 0, .string ⟨#[]⟩]).cells.size = 2 from rfl] at this
    rw [hc3d, ← hcs2]
    exact List.size_toArray.trans (this.trans Array.length_toList)
  have ht3 : cur3.toList.take ((n - 1) * 2) = xs.take (i * 2) ++ xs.drop (J * 2) := by
    rw [hc3d]
    show List.take _ (_ ++ _ ++ _) = _
    rw [List.append_assoc, List.take_append_of_le_length (by rw [List.length_take, Array.length_toList, hcs2]; omega), List.take_take, Nat.min_self, htk2]
  have HT3 := Lib.hid (And.intro hs3 ht3)
  have HR := Lib.hid hr
  have HM0 : Hid (Mdh (fun k => k = g) w.drew w2) := Lib.hid (Mdh.grown (Mdh.refl _ w.drew) hgr (fun r hr => by simpa using hr.symm))
  have HCL : Hid ((Builtin.clear_ #[88] 0 #[.slice (some ⟨g, (n - 1) * 2, none⟩) (n - (n - 1)) (cap - (n - 1))]).run Try.prog w2 = .ok (.tuple #[]) (w2.setRow g cur3)) := Lib.hid (by rw [show n - (n - 1) = 1 by omega]; exact hcl)
  have HF := Lib.hid (And.intro hg2 (And.intro hcs2 (And.intro htk2 hM)))
  rw [← hJ]
  unfold maxLen at hcm
  have hn1 : ((n - 1 : Nat) : Int) ≤ n := by omega
  have hc3 : ¬ cap = n - 1 := by omega
  have hJ' : ¬ (i : Int) = (J : Int) := by omega
  have hiJ : (i : Int) ≤ J := by omega
  have hJn' : (J : Int) ≤ n := by omega
  have hJ2 : i < J := by omega
  have HJ := Lib.hid hJ
  clear hs3 ht3 hc3d hJ hi hr hcl hg2 hnc2 hcm2 hcs2 htk2 hM ho hgr hcell hdl hx htk hcs hown hadd
  by_cases hJc : cap = J
  all_goals
    first
      | (rw [if_pos hJc] at had; subst hJc; rw [Nat.sub_self, Nat.sub_eq_zero_of_le hnc] at HR)
      | rw [if_neg hJc] at had
    subst had
    go_enter Try.func51, Try.ntmps51
    go_wp2
    refine wp_region_flo (fun k => k = g) [] [] (by kernel_rfl) (by kernel_rfl) (fun k hk => by subst hk; exact blkLt hg) ?_
    refine flo_seg 6 rfl ?_
    simp only [List.take_succ_cons, List.take_zero, List.drop_succ_cons, List.drop_zero]
    repeat (go_big_quiet_step (fail))
    refine wpQuiet_nil ?_
    refine flo_eff rfl rfl rfl rfl (fun K hK => ?_)
    refine wp_app_eq HR.out (.tmp 22) (.tmp 25) rfl rfl rfl rfl ?_; (have HM1 : Hid (Mdh (fun k => k = g) w.drew w2) := Lib.hid HM0.out); go_wp2; refine ⟨HM1.out.mono (fun q hq => by simpa using hq), ?_⟩
    refine flo_seg 1 rfl ?_
    simp only [List.take_succ_cons, List.take_zero, List.drop_succ_cons, List.drop_zero]
    repeat (go_big_quiet_step (fail))
    refine wpQuiet_nil ?_
    refine flo_nil ?_
    go_wp2_with (refine wpList_clear_eq HCL.out rfl (.tmp 31) rfl rfl rfl ?_)
    go_ret
    obtain ⟨hg2, hcs2, htk2, hM⟩ := HF.out
    exact ⟨rfl, Own.ofParts (setRow_at hg2) (by omega) (by unfold maxLen; omega) HT3.out.1 (by rw [HT3.out.2, HJ.out]), setRow_mdh hM (.inl rfl) _⟩
end Go.Proofs.Ytemjnppplmankaa
