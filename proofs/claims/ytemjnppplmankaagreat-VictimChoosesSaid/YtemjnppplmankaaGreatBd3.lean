/-
  An append to a row of the call's own: the new row lies in the old one's block, or in a new block. No program in sight.
-/
import Derived.Test.YtemjnppplmankaaGreatBd2
import Derived.ArgAppend
import Derived.Laws.CopyRow
import Derived.Laws.IdiomCopy
import Derived.Lib.AppendZeros
import Derived.Lib.AppendZerosOnto
import Derived.Lib.Overlaps
import Derived.Laws.Externs
import Derived.Test.YtemjnppplmankaaGreatRows
import Derived.Laws.Strings
import Derived.Laws.Cover1
set_option linter.unusedVariables false
set_option linter.unusedSimpArgs false
namespace Go.Proofs.YtemjnppplmankaaGreat
open Go.RowKit

/-- A slice that owns n elements of e: nil, or it starts at the head of a block. (base 0: which block it is, its value tells.) -/
abbrev Own (w : World) (e : TypeId) (size : Nat) (v : Value) (n : Nat) (xs : List Value) : Prop := w.ownsRow 0 e size v n xs

theorem Own.lift {w : World} {base : Nat} {e : TypeId} {size : Nat} {v : Value} {n : Nat} {xs : List Value} (h : w.ownsRow base e size v n xs) : Own w e size v n xs := by
  obtain ⟨h1, h2⟩ := h
  refine ⟨h1, ?_⟩
  rcases h2 with h2 | ⟨g, cap, cur, hv, _, r⟩
  · exact .inl h2
  · exact .inr ⟨g, cap, cur, hv, Nat.zero_le _, r⟩
theorem Own.gr {w w' : World} {e : TypeId} {size : Nat} {v : Value} {n : Nat} {xs : List Value} (h : Own w e size v n xs) (g : Gr w w') : Own w' e size v n xs := ownsRow_gr h g
theorem Own.mdh {S : Nat → Prop} {w w' : World} {e : TypeId} {size : Nat} {v : Value} {n : Nat} {xs : List Value} (h : Own w e size v n xs) (g : Mdh S w w') (hs : ∀ k, v.ownBlock = some k → ¬ S k) : Own w' e size v n xs := by
  obtain ⟨h1, h2⟩ := h
  refine ⟨h1, ?_⟩
  rcases h2 with h2 | ⟨b, cap, cur, rfl, hb, hh, r⟩
  · exact .inl h2
  · exact .inr ⟨b, cap, cur, rfl, hb, g.blk hh (hs b rfl), r⟩
theorem Own.lt {w : World} {e : TypeId} {size : Nat} {v : Value} {n : Nat} {xs : List Value} (h : Own w e size v n xs) {k : Nat} (hk : v.ownBlock = some k) : k < w.heap.size := (World.ownsRow.lt h k hk).2
/-- A store into one cell of the row. -/
theorem Own.set {w : World} {e : TypeId} {size g n cap : Nat} {xs : List Value} (h : Own w e size (.slice (some ⟨g, 0, none⟩) n cap) n xs) {j : Nat} (hj : j < xs.length) (u : Value) : Own (w.setCell ⟨g, j, none⟩ u) e size (.slice (some ⟨g, 0, none⟩) n cap) n (xs.set j u) := by
  obtain ⟨h1, h2⟩ := h
  refine ⟨by simpa using h1, ?_⟩
  rcases h2 with ⟨h2, _⟩ | ⟨b, cap', cur, hv, hb, hh, hn, hm, hs, ht⟩
  · cases h2
  · simp only [Value.slice.injEq, Option.some.injEq, Addr.mk.injEq, and_true, true_and] at hv
    obtain ⟨rfl, rfl⟩ := hv
    refine .inr ⟨g, cap, _, rfl, Nat.zero_le _, blkSet hh, hn, hm, by simpa using hs, ?_⟩
    rw [Array.toList_setIfInBounds, ← ht, List.take_set]
theorem Own.other {w : World} {e : TypeId} {size : Nat} {v : Value} {n : Nat} {xs : List Value} (h : Own w e size v n xs) {p : Addr} (hp : v.ownBlock ≠ some p.block) (u : Value) : Own (w.setCell p u) e size v n xs := by
  obtain ⟨h1, h2⟩ := h
  refine ⟨h1, ?_⟩
  rcases h2 with h2 | ⟨b, cap, cur, rfl, hb, hh, r⟩
  · exact .inl h2
  · exact .inr ⟨b, cap, cur, rfl, hb, blkSetO hh (fun e => hp (by simp [Value.ownBlock, e])), r⟩
/-- The first of it. -/
theorem Own.take {w : World} {e : TypeId} {size g n cap : Nat} {xs : List Value} (h : Own w e size (.slice (some ⟨g, 0, none⟩) n cap) n xs) {m : Nat} (hm : m ≤ n) : Own w e size (.slice (some ⟨g, 0, none⟩) m cap) m (xs.take (m * size)) := by
  obtain ⟨h1, h2⟩ := h
  have hle : m * size ≤ n * size := Nat.mul_le_mul_right _ hm
  refine ⟨by rw [List.length_take, h1]; omega, ?_⟩
  rcases h2 with ⟨h2, _⟩ | ⟨b, cap', cur, hv, hb, hh, hn, hmm, hs, ht⟩
  · cases h2
  · simp only [Value.slice.injEq, Option.some.injEq, Addr.mk.injEq, and_true, true_and] at hv
    obtain ⟨rfl, rfl⟩ := hv
    exact .inr ⟨g, cap, cur, rfl, Nat.zero_le _, hh, by omega, hmm, hs, by rw [← ht, List.take_take]; congr 1; omega⟩

section
variable {P : Program} (w : World)
/-- **THE APPEND**: of at least one element, to a row of the call's own. -/
theorem run_app (t ty e : TypeId) (i : TypeInfo) (z : Value) (size bytes : Nat) (ht : P.underlying t = some (.slice e)) (hi : P.info? e = some i) (hz : i.zero = some z)
    (hsize : i.size = size) (hby : i.bytes = bytes) (hzs : z.cells.size = size) (hsz : 0 < size)
    (v : Value) (n : Nat) (xs : List Value) (hown : Own w e size v n xs)
    (a : Addr) (m c : Nat) (news : List Value) (hl : news.length = m * size) (hnews : ∀ j u, news[j]? = some u → w.cell? (a.add j) = some u) (h1 : ∀ u ∈ news, u.oneCell' = true)
    (hm : 0 < m) (h63 : n + m ≤ maxLen) (hbytes : (n + m) * bytes ≤ 140737488355328) :
    ∃ g cap w', (Builtin.append_ #[t, t] ty #[v, .slice (some a) m c]).run P w = .ok (.slice (some ⟨g, 0, none⟩) (n + m) cap) w' ∧ Own w' e size (.slice (some ⟨g, 0, none⟩) (n + m) cap) (n + m) (xs ++ news) ∧
      (v.ownBlock = some g ∨ w.heap.size ≤ g) ∧ w.grownBy w' v.ownBlock := by
  have fin : ∀ {v' : Value} {w' : World} {xs' : List Value}, w'.ownsRow w.heap.size e size v' (n + m) xs' → ∃ g cap, v' = .slice (some ⟨g, 0, none⟩) (n + m) cap ∧ w.heap.size ≤ g := by
    intro v' w' xs' h
    rcases h.2 with ⟨_, h0⟩ | ⟨g, cap, cur, hv, hb, _⟩
    · omega
    · exact ⟨g, cap, hv, hb⟩
  rcases hown.2 with ⟨rfl, rfl⟩ | ⟨g, cap, cur, rfl, hbg, hg, hnc, hcm, hcs, htake⟩
  · obtain rfl : xs = [] := List.eq_nil_of_length_eq_zero (by simpa using hown.1)
    obtain ⟨v', w', hr, r1, r2, _⟩ := run_append_own (P := P) w w.heap.size t ty e i z size bytes ht hi hz hsize hby hzs hsz (.slice none 0 0) 0 [] (World.ownsRow_nil w _ e size) a m c news hl hnews h1 h63 hbytes (Nat.le_refl _)
    obtain ⟨g, cap, rfl, hb⟩ := fin r1
    exact ⟨g, cap, w', hr, Own.lift r1, .inr hb, r2⟩
  · by_cases hroom : n + m ≤ cap
    · obtain ⟨w', hr, r1, r2⟩ := run_append_fits (P := P) w 0 t ty e i size ht hi hsize g n cap xs hown a m c news hl hnews h1 hroom
      exact ⟨g, cap, w', hr, r1, .inl rfl, r2⟩
    · obtain ⟨v', w', hr, r1, r2⟩ := run_append_arg_grows (P := P) w t ty e i z size bytes ht hi hz hsize hby hzs hsz ⟨g, 0, none⟩ n cap xs hown.1 (hown.cells rfl) a m c news hl hnews (by omega) h63 hbytes
      obtain ⟨g', cap', rfl, hb⟩ := fin r1
      exact ⟨g', cap', w', hr, Own.lift r1, .inr hb, ⟨r2.os, r2.tape, r2.output, r2.size, fun k hk _ => r2.block k hk (by simp)⟩⟩

theorem wp_app {o : Oper} {a : Act} {K : Act → World → Prop} {Q : Exit → Act → World → Prop} (s x : Operand) (t : TypeId)
    (ho : o.op = .call { callee := .builtin .append, args := #[s, x], argTypes := #[t, t] })
    (e : TypeId) (i : TypeInfo) (z : Value) (size bytes : Nat) (ht : P.underlying t = some (.slice e)) (hi : P.info? e = some i) (hz : i.zero = some z)
    (hsize : i.size = size) (hby : i.bytes = bytes) (hzs : z.cells.size = size) (hsz : 0 < size)
    (v : Value) (n : Nat) (xs : List Value) (hs : a.eval s = v) (hown : Own w e size v n xs)
    (ad : Addr) (m c : Nat) (news : List Value) (hx : a.eval x = .slice (some ad) m c) (hl : news.length = m * size) (hnews : ∀ j u, news[j]? = some u → w.cell? (ad.add j) = some u) (h1 : ∀ u ∈ news, u.oneCell' = true)
    (hm : 0 < m) (h63 : n + m ≤ maxLen) (hbytes : (n + m) * bytes ≤ 140737488355328)
    (h : ∀ g cap w', Own w' e size (.slice (some ⟨g, 0, none⟩) (n + m) cap) (n + m) (xs ++ news) → (v.ownBlock = some g ∨ w.heap.size ≤ g) → w.grownBy w' v.ownBlock → K (a.put o.dst (.slice (some ⟨g, 0, none⟩) (n + m) cap)) w') : o.wp P a w K Q := by
  obtain ⟨g, cap, w', hr, h2, h3, h4⟩ := run_app (P := P) w t o.type e i z size bytes ht hi hz hsize hby hzs hsz v n xs hown ad m c news hl hnews h1 hm h63 hbytes
  unfold Oper.wp execOp
  simp only [ho, resolve, invoke, builtin, Sem.run_bind, Sem.run_pure, Result.andThen_ok, List.map_toArray, List.map_cons, List.map_nil, hs, hx, hr]
  exact h g cap w' h2 h3 h4

theorem wpList_app {ops : Array Oper} {rest : List Oper} {o : Oper} {a : Act} {Q : Exit → Act → World → Prop} (hgd : o.guard = none) (s x : Operand) (t : TypeId)
    (ho : o.op = .call { callee := .builtin .append, args := #[s, x], argTypes := #[t, t] })
    (e : TypeId) (i : TypeInfo) (z : Value) (size bytes : Nat) (ht : P.underlying t = some (.slice e)) (hi : P.info? e = some i) (hz : i.zero = some z)
    (hsize : i.size = size) (hby : i.bytes = bytes) (hzs : z.cells.size = size) (hsz : 0 < size)
    (v : Value) (n : Nat) (xs : List Value) (hs : a.eval s = v) (hown : Own w e size v n xs)
    (ad : Addr) (m c : Nat) (news : List Value) (hx : a.eval x = .slice (some ad) m c) (hl : news.length = m * size) (hnews : ∀ j u, news[j]? = some u → w.cell? (ad.add j) = some u) (h1 : ∀ u ∈ news, u.oneCell' = true)
    (hm : 0 < m) (h63 : n + m ≤ maxLen) (hbytes : (n + m) * bytes ≤ 140737488355328)
    (h : ∀ g cap w', Own w' e size (.slice (some ⟨g, 0, none⟩) (n + m) cap) (n + m) (xs ++ news) → (v.ownBlock = some g ∨ w.heap.size ≤ g) → w.grownBy w' v.ownBlock → wpList P ops Q rest (a.put o.dst (.slice (some ⟨g, 0, none⟩) (n + m) cap)) w') : wpList P ops Q (o :: rest) a w :=
  wpList_plain hgd fun _ hK => wp_app w s x t ho e i z size bytes ht hi hz hsize hby hzs hsz v n xs hs hown ad m c news hx hl hnews h1 hm h63 hbytes fun g cap w' h2 h3 h4 => hK _ _ (h g cap w' h2 h3 h4)

theorem wpIn_app {F : Fence} {f : Nat} {o : Oper} {a : Act} {K : Act → World → Prop} {Q : Exit → Act → World → Prop} (s x : Operand) (t : TypeId)
    (ho : o.op = .call { callee := .builtin .append, args := #[s, x], argTypes := #[t, t] })
    (e : TypeId) (i : TypeInfo) (z : Value) (size bytes : Nat) (ht : P.underlying t = some (.slice e)) (hi : P.info? e = some i) (hz : i.zero = some z)
    (hsize : i.size = size) (hby : i.bytes = bytes) (hzs : z.cells.size = size) (hsz : 0 < size)
    (v : Value) (n : Nat) (xs : List Value) (hs : a.eval s = v) (hown : Own w e size v n xs)
    (ad : Addr) (m c : Nat) (news : List Value) (hx : a.eval x = .slice (some ad) m c) (hl : news.length = m * size) (hnews : ∀ j u, news[j]? = some u → w.cell? (ad.add j) = some u) (h1 : ∀ u ∈ news, u.oneCell' = true)
    (hm : 0 < m) (h63 : n + m ≤ maxLen) (hbytes : (n + m) * bytes ≤ 140737488355328)
    (h : ∀ g cap w', Own w' e size (.slice (some ⟨g, 0, none⟩) (n + m) cap) (n + m) (xs ++ news) → (v.ownBlock = some g ∨ w.heap.size ≤ g) → w.grownBy w' v.ownBlock → K (a.put o.dst (.slice (some ⟨g, 0, none⟩) (n + m) cap)) w') : o.wpIn F f P a w K Q := by
  obtain ⟨g, cap, w', hr, h2, h3, h4⟩ := run_app (P := P) w t o.type e i z size bytes ht hi hz hsize hby hzs hsz v n xs hown ad m c news hl hnews h1 hm h63 hbytes
  unfold Oper.wpIn
  refine ⟨?_, ?_⟩
  · simp [Oper.about, ho, resolve, Target.leads, Sem.run_pure]
  · rw [Oper.semAt_plain F _ _ (by rw [ho]; intro c hc'; cases hc')]
    simp only [execOp, ho, resolve, invoke, builtin, Sem.run_bind, Sem.run_pure, Result.andThen_ok, List.map_toArray, List.map_cons, List.map_nil, hs, hx, hr]
    exact h g cap w' h2 h3 h4

theorem wpListIn_app {F : Fence} {f : Nat} {ops : Array Oper} {rest : List Oper} {o : Oper} {a : Act} {Q : Exit → Act → World → Prop} (hgd : o.guard = none) (s x : Operand) (t : TypeId)
    (ho : o.op = .call { callee := .builtin .append, args := #[s, x], argTypes := #[t, t] })
    (e : TypeId) (i : TypeInfo) (z : Value) (size bytes : Nat) (ht : P.underlying t = some (.slice e)) (hi : P.info? e = some i) (hz : i.zero = some z)
    (hsize : i.size = size) (hby : i.bytes = bytes) (hzs : z.cells.size = size) (hsz : 0 < size)
    (v : Value) (n : Nat) (xs : List Value) (hs : a.eval s = v) (hown : Own w e size v n xs)
    (ad : Addr) (m c : Nat) (news : List Value) (hx : a.eval x = .slice (some ad) m c) (hl : news.length = m * size) (hnews : ∀ j u, news[j]? = some u → w.cell? (ad.add j) = some u) (h1 : ∀ u ∈ news, u.oneCell' = true)
    (hm : 0 < m) (h63 : n + m ≤ maxLen) (hbytes : (n + m) * bytes ≤ 140737488355328)
    (h : ∀ g cap w', Own w' e size (.slice (some ⟨g, 0, none⟩) (n + m) cap) (n + m) (xs ++ news) → (v.ownBlock = some g ∨ w.heap.size ≤ g) → w.grownBy w' v.ownBlock → wpListIn F f P ops Q rest (a.put o.dst (.slice (some ⟨g, 0, none⟩) (n + m) cap)) w') : wpListIn F f P ops Q (o :: rest) a w :=
  wpListIn_plain hgd fun _ hK => wpIn_app w s x t ho e i z size bytes ht hi hz hsize hby hzs hsz v n xs hs hown ad m c news hx hl hnews h1 hm h63 hbytes fun g cap w' h2 h3 h4 => hK _ _ (h g cap w' h2 h3 h4)
end

/-! ### A row of cells, by a function -/
def updV {β : Type} (f : Nat → β) (i : Nat) (x : β) : Nat → β := fun j => if j = i then x else f j
structure CRow (w : World) (t : TypeId) (g n : Nat) (f : Nat → Value) : Prop where
  blk : ∃ cs : Array Value, w.heap[g]? = some (.cells cs t) ∧ n ≤ cs.size ∧ ∀ i, i < n → cs[i]? = some (f i)
section
variable {w w' : World} {t : TypeId} {g n : Nat} {f : Nat → Value}
theorem CRow.lt (r : CRow w t g n f) : g < w.heap.size := let ⟨_, h, _⟩ := r.blk; blkLt h
theorem CRow.cell (r : CRow w t g n f) (i : Nat) (hi : i < n) : w.cell? ⟨g, i, none⟩ = some (f i) := by
  obtain ⟨cs, h, _, hc⟩ := r.blk
  rw [(cellsOf h).1]; exact hc i hi
theorem CRow.fr (r : CRow w t g n f) (i : Nat) : w.frozen? ⟨g, i, none⟩ = false := by
  obtain ⟨cs, h, _⟩ := r.blk
  exact (cellsOf h).2 i
theorem CRow.set (r : CRow w t g n f) {i : Nat} (hi : i < n) (v : Value) : CRow (w.setCell ⟨g, i, none⟩ v) t g n (updV f i v) := by
  obtain ⟨cs, h, hs, hc⟩ := r.blk
  refine ⟨_, blkSet h, by simpa using hs, fun j hj => ?_⟩
  unfold updV
  by_cases e : j = i
  · subst e; rw [Array.getElem?_setIfInBounds_self_of_lt (by omega), if_pos rfl]
  · rw [Array.getElem?_setIfInBounds_ne (by omega), if_neg e]; exact hc j hj
theorem CRow.other (r : CRow w t g n f) {p : Addr} (hp : g ≠ p.block) (u : Value) : CRow (w.setCell p u) t g n f := by
  obtain ⟨cs, h, q⟩ := r.blk
  exact ⟨cs, blkSetO h hp, q⟩
theorem CRow.gr (r : CRow w t g n f) (k : Gr w w') : CRow w' t g n f := by
  obtain ⟨cs, h, q⟩ := r.blk
  exact ⟨cs, k.blk h, q⟩
theorem CRow.mdh {S : Nat → Prop} (r : CRow w t g n f) (k : Mdh S w w') (hs : ¬ S g) : CRow w' t g n f := by
  obtain ⟨cs, h, q⟩ := r.blk
  exact ⟨cs, k.blk h hs, q⟩
theorem CRow.congr {f' : Nat → Value} (r : CRow w t g n f) (e : ∀ i, i < n → f' i = f i) : CRow w t g n f' := by
  obtain ⟨cs, h, hs, hc⟩ := r.blk
  exact ⟨cs, h, hs, fun i hi => by rw [e i hi]; exact hc i hi⟩
theorem CRow.ofOwn {cap : Nat} {xs : List Value} (o : Own w t 1 (.slice (some ⟨g, 0, none⟩) n cap) n xs) (hf : ∀ i, i < n → xs[i]? = some (f i)) : CRow w t g n f := by
  rcases o.2 with ⟨h0, _⟩ | ⟨g', cap', cur, hv, _, hb, le, most, hs, ht⟩
  · cases h0
  · simp only [Value.slice.injEq, Option.some.injEq, Addr.mk.injEq, and_true, true_and] at hv
    obtain ⟨rfl, rfl⟩ := hv
    refine ⟨cur, hb, by omega, fun i hi => ?_⟩
    have := hf i hi
    rw [← ht, List.getElem?_take_of_lt (by omega)] at this
    simpa using this
end
theorem made_get (v : Value) (n i : Nat) (hi : i < n) : (madeCells #[v] (n * 1)).toList[i]? = some v := by
  simp [madeCells, hi, Nat.mod_one]
end Go.Proofs.YtemjnppplmankaaGreat

/-
  Rows of elements of several cells: copy, clear, an append of zeros, an element laid in, an element taken out. No program in sight.
-/
set_option linter.unusedVariables false
set_option linter.unusedSimpArgs false
namespace Go.Proofs.YtemjnppplmankaaGreat
open Go.RowKit Go.Lib

/-! ### Lists -/
theorem seg_take {α : Type} (cur mid : List α) (o : Nat) (ho : o ≤ cur.length) : (cur.take o ++ mid ++ cur.drop (o + mid.length)).take (o + mid.length) = cur.take o ++ mid := by
  rw [List.take_left']
  rw [List.length_append, List.length_take]
  omega
theorem seg_len {α : Type} (cur mid : List α) (o : Nat) (ho : o + mid.length ≤ cur.length) : (cur.take o ++ mid ++ cur.drop (o + mid.length)).length = cur.length := by
  simp only [List.length_append, List.length_take, List.length_drop]
  omega
/-- An element laid in where there is room. -/
theorem laid_in {α : Type} (cur xs ys : List α) (a b k : Nat) (hx : cur.take (a + b) = xs) (hab : a + k + b ≤ cur.length) (hy : ys.length = k) (cur1 cur2 : List α)
    (h1 : cur1 = cur.take (a + k) ++ xs.drop a ++ cur.drop (a + k + (xs.drop a).length)) (h2 : cur2 = cur1.take a ++ ys ++ cur1.drop (a + ys.length)) :
    cur2.take (a + k + b) = xs.take a ++ ys ++ xs.drop a ∧ cur2.length = cur.length := by
  have hxl : xs.length = a + b := by rw [← hx, List.length_take]; omega
  have hdl : (xs.drop a).length = b := by rw [List.length_drop]; omega
  have l1 : cur1.length = cur.length := by rw [h1]; exact seg_len _ _ _ (by omega)
  have t1 : cur1.take a = xs.take a := by
    rw [h1, ← hx, List.append_assoc, List.take_append_of_le_length (by rw [List.length_take]; omega), List.take_take, List.take_take]
    congr 1
    omega
  have d1 : cur1.drop (a + k) = xs.drop a ++ cur.drop (a + k + b) := by
    rw [h1, hdl, List.append_assoc, List.drop_left']
    rw [List.length_take]; omega
  constructor
  · rw [h2, hy, t1, d1, ← List.append_assoc, List.take_left']
    simp only [List.length_append, List.length_take, hdl, hy]
    omega
  · rw [h2, seg_len _ _ _ (by omega), l1]
/-- An element laid into a new row. -/
theorem laid_new {α : Type} (xs ys zs : List α) (a b k : Nat) (hxl : xs.length = a + b) (hz : k + b ≤ zs.length) (hy : ys.length = k) (cur cur1 cur2 : List α)
    (h0 : cur = xs.take a ++ zs) (h1 : cur1 = cur.take a ++ ys ++ cur.drop (a + ys.length)) (h2 : cur2 = cur1.take (a + k) ++ xs.drop a ++ cur1.drop (a + k + (xs.drop a).length)) :
    cur2.take (a + k + b) = xs.take a ++ ys ++ xs.drop a ∧ cur2.length = cur.length := by
  have hdl : (xs.drop a).length = b := by rw [List.length_drop]; omega
  have htl : (xs.take a).length = a := by rw [List.length_take]; omega
  have lc : cur.length = a + zs.length := by rw [h0, List.length_append, htl]
  have l1 : cur1.length = cur.length := by rw [h1]; exact seg_len _ _ _ (by omega)
  have t0 : cur.take a = xs.take a := by rw [h0, List.take_left' htl]
  have t1 : cur1.take (a + k) = xs.take a ++ ys := by
    rw [h1, hy, t0, List.take_left']
    rw [List.length_append, htl, hy]
  constructor
  · rw [h2, t1, hdl, List.take_left']
    simp only [List.length_append, htl, hy, hdl]
  · rw [h2, seg_len _ _ _ (by omega), l1]

section
variable {P : Program}
/-! ### copy -/
theorem run_copyK (w : World) (dT sT ty elem : TypeId) (K g o dLen dCap : Nat) (a : Addr) (sLen sCap : Nat) (cur : Array Value) (t : TypeId) (cs : List Value)
    (hu : P.underlying dT = some (.slice elem)) (hs : (P.info? elem).map (·.size) = some K)
    (hg : w.heap[g]? = some (.cells cur t (0, 0))) (hn : cs.length = Nat.min sLen dLen * K)
    (hsrc : ∀ j v, cs[j]? = some v → w.cell? (a.add j) = some v) (hfit : o + cs.length ≤ cur.size) (h1 : ∀ v ∈ cs, v.oneCell' = true) :
    (Builtin.copy_ #[dT, sT] ty #[.slice (some ⟨g, o, none⟩) dLen dCap, .slice (some a) sLen sCap]).run P w =
      .ok (.int .i64 ((Nat.min sLen dLen : Nat) : Int)) (w.setRow g (cur.toList.take o ++ cs ++ cur.toList.drop (o + cs.length)).toArray) := by
  have hl := run_loadCells_list (P := P) w a cs hsrc
  have hst := run_storeCells_at P g o t cs 0 cur w hg (by simpa using hfit) h1
  cases hq : P.info? elem with
  | none => simp [hq] at hs
  | some i =>
    have hi : i.size = K := by simpa [hq] using hs
    simp [Builtin.copy_, run_underlying hu, Builtin.lenOf, Builtin.firstCells, sizeOf, typeInfo, hq, hi, ← hn, hl, hst, goInt]
theorem wp_copyK (w : World) {o : Oper} {a : Act} {K : Act → World → Prop} {Q : Exit → Act → World → Prop} (d s : Operand) (t t' : TypeId)
    (ho : o.op = .call { callee := .builtin .copy, args := #[d, s], argTypes := #[t, t'] }) (v u : Value) (hd : a.eval d = v) (hs : a.eval s = u) {v' : Value} {w' : World}
    (hr : (Builtin.copy_ #[t, t'] o.type #[v, u]).run P w = .ok v' w') (h : K (a.put o.dst v') w') : o.wp P a w K Q := by
  unfold Oper.wp execOp
  simp only [ho, resolve, invoke, builtin, Sem.run_bind, Sem.run_pure, Result.andThen_ok, List.map_toArray, List.map_cons, List.map_nil, hd, hs, hr]
  exact h
theorem wpList_copyK (w : World) {ops : Array Oper} {rest : List Oper} {o : Oper} {a : Act} {Q : Exit → Act → World → Prop} (hgd : o.guard = none) (d s : Operand) (t t' : TypeId)
    (ho : o.op = .call { callee := .builtin .copy, args := #[d, s], argTypes := #[t, t'] }) (v u : Value) (hd : a.eval d = v) (hs : a.eval s = u) {v' : Value} {w' : World}
    (hr : (Builtin.copy_ #[t, t'] o.type #[v, u]).run P w = .ok v' w') (h : wpList P ops Q rest (a.put o.dst v') w') : wpList P ops Q (o :: rest) a w :=
  wpList_plain hgd fun _ hK => wp_copyK w d s t t' ho v u hd hs hr (hK _ _ h)

theorem wp_app_eq {w : World} {t tn ty : TypeId} {vs vx v' : Value} {w' : World} (hr : (Builtin.append_ #[t, tn] ty #[vs, vx]).run P w = .ok v' w')
    {o : Oper} {a : Act} {K : Act → World → Prop} {Q : Exit → Act → World → Prop} (s x : Operand)
    (ho : o.op = .call { callee := .builtin .append, args := #[s, x], argTypes := #[t, tn] }) (hty : o.type = ty) (hs : a.eval s = vs) (hx : a.eval x = vx) (h : K (a.put o.dst v') w') : o.wp P a w K Q :=
  Lib.wp_append_run w s x t tn ho vs vx hs hx v' w' (by rw [hty]; exact hr) h
theorem wp_clear_eq {w : World} {t ty : TypeId} {vs v' : Value} {w' : World} (hr : (Builtin.clear_ #[t] ty #[vs]).run P w = .ok v' w')
    {o : Oper} {a : Act} {K : Act → World → Prop} {Q : Exit → Act → World → Prop} (s : Operand)
    (ho : o.op = .call { callee := .builtin .clear, args := #[s], argTypes := #[t] }) (hty : o.type = ty) (hs : a.eval s = vs) (h : K (a.put o.dst v') w') : o.wp P a w K Q := by
  unfold Oper.wp execOp
  simp only [ho, resolve, invoke, builtin, Sem.run_bind, Sem.run_pure, Result.andThen_ok, List.map_toArray, List.map_cons, List.map_nil, hs, hty, hr]
  exact h
theorem wpList_clear_eq {w : World} {t ty : TypeId} {vs v' : Value} {w' : World} (hr : (Builtin.clear_ #[t] ty #[vs]).run P w = .ok v' w')
    {ops : Array Oper} {rest : List Oper} {o : Oper} {a : Act} {Q : Exit → Act → World → Prop} (hgd : o.guard = none) (s : Operand)
    (ho : o.op = .call { callee := .builtin .clear, args := #[s], argTypes := #[t] }) (hty : o.type = ty) (hs : a.eval s = vs) (h : wpList P ops Q rest (a.put o.dst v') w') : wpList P ops Q (o :: rest) a w :=
  wpList_plain hgd fun _ hK => wp_clear_eq hr s ho hty hs (hK _ _ h)

end

section
variable {P : Program} (w : World)
/-- Of the second operand's type it counts alone that it is a slice's. -/
theorem append_types {t tn e e2 : TypeId} (ht : P.underlying t = some (.slice e)) (htn : P.underlying tn = some (.slice e2)) (ty : TypeId) (a : Option Addr) (n c : Nat) (y : Value) : (Builtin.append_ #[t, tn] ty #[.slice a n c, y]).run P w = (Builtin.append_ #[t, t] ty #[.slice a n c, y]).run P w := by
  simp [Builtin.append_, run_underlying ht, run_underlying htn]
theorem wp_app2 {o : Oper} {a : Act} {K : Act → World → Prop} {Q : Exit → Act → World → Prop} (s x : Operand) (t tn : TypeId)
    (ho : o.op = .call { callee := .builtin .append, args := #[s, x], argTypes := #[t, tn] })
    (e : TypeId) {e2 : TypeId} (htn : P.underlying tn = some (.slice e2)) (i : TypeInfo) (z : Value) (size bytes : Nat) (ht : P.underlying t = some (.slice e)) (hi : P.info? e = some i) (hz : i.zero = some z)
    (hsize : i.size = size) (hby : i.bytes = bytes) (hzs : z.cells.size = size) (hsz : 0 < size)
    (v : Value) (n : Nat) (xs : List Value) (hs : a.eval s = v) (hown : Own w e size v n xs)
    (ad : Addr) (m c : Nat) (news : List Value) (hx : a.eval x = .slice (some ad) m c) (hl : news.length = m * size) (hnews : ∀ j u, news[j]? = some u → w.cell? (ad.add j) = some u) (h1 : ∀ u ∈ news, u.oneCell' = true)
    (hm : 0 < m) (h63 : n + m ≤ maxLen) (hbytes : (n + m) * bytes ≤ 140737488355328)
    (h : ∀ g cap w', Own w' e size (.slice (some ⟨g, 0, none⟩) (n + m) cap) (n + m) (xs ++ news) → (v.ownBlock = some g ∨ w.heap.size ≤ g) → w.grownBy w' v.ownBlock → K (a.put o.dst (.slice (some ⟨g, 0, none⟩) (n + m) cap)) w') : o.wp P a w K Q := by
  obtain ⟨g, cap, w', hr, h2, h3, h4⟩ := run_app (P := P) w t o.type e i z size bytes ht hi hz hsize hby hzs hsz v n xs hown ad m c news hl hnews h1 hm h63 hbytes
  have hv : ∃ a n c, v = .slice a n c := by
    rcases hown.2 with ⟨h, _⟩ | ⟨g, cap, cur, h, _⟩
    · exact ⟨_, _, _, h⟩
    · exact ⟨_, _, _, h⟩
  obtain ⟨a1, n1, c1, rfl⟩ := hv
  rw [← append_types w ht htn] at hr
  exact wp_app_eq hr s x ho rfl hs hx (h g cap w' h2 h3 h4)
theorem wpList_app2 {ops : Array Oper} {rest : List Oper} {o : Oper} {a : Act} {Q : Exit → Act → World → Prop} (hgd : o.guard = none) (s x : Operand) (t tn : TypeId)
    (ho : o.op = .call { callee := .builtin .append, args := #[s, x], argTypes := #[t, tn] })
    (e : TypeId) {e2 : TypeId} (htn : P.underlying tn = some (.slice e2)) (i : TypeInfo) (z : Value) (size bytes : Nat) (ht : P.underlying t = some (.slice e)) (hi : P.info? e = some i) (hz : i.zero = some z)
    (hsize : i.size = size) (hby : i.bytes = bytes) (hzs : z.cells.size = size) (hsz : 0 < size)
    (v : Value) (n : Nat) (xs : List Value) (hs : a.eval s = v) (hown : Own w e size v n xs)
    (ad : Addr) (m c : Nat) (news : List Value) (hx : a.eval x = .slice (some ad) m c) (hl : news.length = m * size) (hnews : ∀ j u, news[j]? = some u → w.cell? (ad.add j) = some u) (h1 : ∀ u ∈ news, u.oneCell' = true)
    (hm : 0 < m) (h63 : n + m ≤ maxLen) (hbytes : (n + m) * bytes ≤ 140737488355328)
    (h : ∀ g cap w', Own w' e size (.slice (some ⟨g, 0, none⟩) (n + m) cap) (n + m) (xs ++ news) → (v.ownBlock = some g ∨ w.heap.size ≤ g) → w.grownBy w' v.ownBlock → wpList P ops Q rest (a.put o.dst (.slice (some ⟨g, 0, none⟩) (n + m) cap)) w') : wpList P ops Q (o :: rest) a w :=
  wpList_plain hgd fun _ hK => wp_app2 w s x t tn ho e htn i z size bytes ht hi hz hsize hby hzs hsz v n xs hs hown ad m c news hx hl hnews h1 hm h63 hbytes fun g cap w' h2 h3 h4 => hK _ _ (h g cap w' h2 h3 h4)
end
section
variable {P : Program}
/-! ### clear -/
theorem zeroCells_len (zs : Array Value) (n : Nat) : (Builtin.zeroCells zs n).toList.length = n * zs.size := by simp [Builtin.zeroCells, Nat.mul_comm]
theorem zeroCells_one (zs : Array Value) (n : Nat) (h : ∀ v ∈ zs.toList, v.oneCell' = true) : ∀ v ∈ (Builtin.zeroCells zs n).toList, v.oneCell' = true := by
  intro v hv
  obtain ⟨i, hi, rfl⟩ := List.mem_iff_getElem.1 hv
  rw [zeroCells_len] at hi
  have hp : 0 < zs.size := by
    rcases Nat.eq_zero_or_pos zs.size with h0 | h0
    · rw [h0] at hi; omega
    · exact h0
  have hlt : i % zs.size < zs.size := Nat.mod_lt _ hp
  have e : (Builtin.zeroCells zs n).toList[i] = zs[i % zs.size] := by
    simp [Builtin.zeroCells, hlt]
  rw [e]
  exact h _ (by simp)
theorem run_clearK (w : World) (t e ty : TypeId) (z : Value) (K : Nat) (ht : P.underlying t = some (.slice e)) (hv : ∀ w, (zeroValue e).run P w = .ok z w) (hz : z.cells.size = K) (h1 : ∀ v ∈ z.cells.toList, v.oneCell' = true)
    (g o n c : Nat) (hn : 0 < n) (cur : Array Value) (tt : TypeId) (hg : w.heap[g]? = some (.cells cur tt (0, 0))) (hfit : o + n * K ≤ cur.size) :
    (Builtin.clear_ #[t] ty #[.slice (some ⟨g, o, none⟩) n c]).run P w = .ok (.tuple #[]) (w.setRow g (cur.toList.take o ++ (Builtin.zeroCells z.cells n).toList ++ cur.toList.drop (o + n * K)).toArray) := by
  have hl := zeroCells_len z.cells n
  rw [hz] at hl
  have hst := run_storeCells_at P g o tt (Builtin.zeroCells z.cells n).toList 0 cur w hg (by rw [hl]; simpa using hfit) (zeroCells_one _ _ h1)
  rw [hl] at hst
  simp only [Nat.add_zero] at hst
  obtain ⟨m, rfl⟩ : ∃ m, n = m + 1 := ⟨n - 1, by omega⟩
  simp [Builtin.clear_, run_underlying ht, hv, hst]
end

/-! ### A row's block, written as a whole -/
theorem setRow_mdh {S : Nat → Prop} {w w' : World} (h : Mdh S w w') {g : Nat} (hg : S g ∨ w.heap.size ≤ g) (cs : Array Value) : Mdh S w (w'.setRow g cs) := by
  have hk : ∀ k, k ≠ g → (w'.setRow g cs).heap[k]? = w'.heap[k]? := fun k hk => by
    unfold World.setRow
    simp [Array.getElem?_modify, hk.symm]
  refine ⟨by unfold World.setRow; simpa using h.size, fun k hk' hn => ?_, ?_, ?_, ?_⟩
  · rw [hk k (fun e => by subst e; rcases hg with h1 | h1; exact hn h1; omega)]
    exact h.blocks k hk' hn
  · exact h.os
  · exact h.tape
  · exact h.output
theorem Own.parts {w : World} {e : TypeId} {K g n cap : Nat} {xs : List Value} (h : Own w e K (.slice (some ⟨g, 0, none⟩) n cap) n xs) :
    ∃ cur : Array Value, w.heap[g]? = some (.cells cur e (0, 0)) ∧ n ≤ cap ∧ cap ≤ maxLen ∧ cur.size = cap * K ∧ cur.toList.take (n * K) = xs := by
  rcases h.2 with ⟨h0, _⟩ | ⟨g', cap', cur, hv, _, hg, h1, h2, h3, h4⟩
  · cases h0
  · simp only [Value.slice.injEq, Option.some.injEq, Addr.mk.injEq, and_true, true_and] at hv
    obtain ⟨rfl, rfl⟩ := hv
    exact ⟨cur, hg, h1, h2, h3, h4⟩
theorem Own.ofParts {w : World} {e : TypeId} {K g n cap : Nat} {xs : List Value} {cur : Array Value} (hg : w.heap[g]? = some (.cells cur e (0, 0))) (h1 : n ≤ cap) (h2 : cap ≤ maxLen) (h3 : cur.size = cap * K) (h4 : cur.toList.take (n * K) = xs) :
    Own w e K (.slice (some ⟨g, 0, none⟩) n cap) n xs := by
  refine ⟨?_, .inr ⟨g, cap, cur, rfl, Nat.zero_le _, hg, h1, h2, h3, h4⟩⟩
  rw [← h4, List.length_take]
  have := Nat.mul_le_mul_right K h1
  simp only [Array.length_toList]
  omega
theorem setRow_at {w : World} {g : Nat} {cur cs : Array Value} {t : TypeId} (hg : w.heap[g]? = some (.cells cur t (0, 0))) : (w.setRow g cs).heap[g]? = some (.cells cs t (0, 0)) := setRow_heap w g cur cs t _ hg
theorem setRow_ne {w : World} {g k : Nat} (cs : Array Value) (h : k ≠ g) : (w.setRow g cs).heap[k]? = w.heap[k]? := by
  unfold World.setRow
  simp [Array.getElem?_modify, h.symm]
/-- What an element laid into a row comes to. -/
def InsPost (K : Nat) (t : TypeId) (v : Value) (n i : Nat) (xs ys : List Value) (w : World) (e : Ending) (w' : World) : Prop :=
  ∃ g cap, e = .returned (.slice (some ⟨g, 0, none⟩) (n + 1) cap) ∧ Own w' t K (.slice (some ⟨g, 0, none⟩) (n + 1) cap) (n + 1) (xs.take (i * K) ++ ys ++ xs.drop (i * K)) ∧ (v.ownBlock = some g ∨ w.heap.size ≤ g) ∧ Mdh (fun k => v.ownBlock = some k) w w'
end Go.Proofs.YtemjnppplmankaaGreat

/- Things that lie in blocks of their own, side by side: a thing is a footprint with what is said of the world; a list of things lies in a world where each holds and no two share a block. No program in sight. -/
set_option linter.unusedVariables false
set_option linter.unusedSimpArgs false
namespace Go.Proofs.YtemjnppplmankaaGreat
open Go.RowKit

theorem erase_perm {α : Type} {R : List α} {i : Nat} (h : i < R.length) : (R[i] :: R.eraseIdx i).Perm R := by
  induction R generalizing i with
  | nil => simp at h
  | cons y R ih =>
    cases i with
    | zero => exact List.Perm.refl _
    | succ i => exact (List.Perm.swap _ _ _).trans ((ih (by simpa using h)).cons y)
theorem erase_set {α : Type} (R : List α) (i : Nat) (b : α) : (R.set i b).eraseIdx i = R.eraseIdx i := by
  induction R generalizing i with
  | nil => rfl
  | cons y R ih =>
    cases i with
    | zero => rfl
    | succ i => simp [ih]
/-- A thing: the blocks that it takes, and what it says. -/
structure Asn where
  S : Nat → Prop
  P : World → Prop
  fr : ∀ {w w' : World} {T : Nat → Prop}, P w → Mdh T w w' → (∀ k, S k → ¬ T k) → P w'
  lt : ∀ {w : World}, P w → ∀ k, S k → k < w.heap.size
def Dis (A B : Asn) : Prop := ∀ k, A.S k → ¬ B.S k
theorem Dis.symm {A B : Asn} (h : Dis A B) : Dis B A := fun k hb ha => h k ha hb
/-- They lie side by side. -/
def Sep (R : List Asn) (w : World) : Prop := (∀ A ∈ R, A.P w) ∧ R.Pairwise Dis
section
variable {R R' : List Asn} {A B : Asn} {w w' : World}
theorem Sep.nil (w : World) : Sep [] w := ⟨(fun _ h => by cases h), List.Pairwise.nil⟩
theorem Sep.get (h : Sep R w) (hA : A ∈ R) : A.P w := h.1 A hA
theorem Sep.head (h : Sep (A :: R) w) : A.P w := h.1 A (by simp)
theorem Sep.tail (h : Sep (A :: R) w) : Sep R w := ⟨fun B hB => h.1 B (List.mem_cons_of_mem _ hB), (List.pairwise_cons.1 h.2).2⟩
theorem Sep.dis (h : Sep (A :: R) w) : ∀ B ∈ R, Dis A B := (List.pairwise_cons.1 h.2).1
theorem Sep.perm (h : Sep R w) (p : R.Perm R') : Sep R' w := ⟨fun A hA => h.1 A (p.mem_iff.2 hA), (p.pairwise_iff (fun {a b} hab => hab.symm)).1 h.2⟩
theorem Sep.sub (h : Sep R w) (p : R'.Sublist R) : Sep R' w := ⟨fun A hA => h.1 A (p.subset hA), h.2.sublist p⟩
/-- Where none of their blocks turns. -/
theorem Sep.mdh {T : Nat → Prop} (h : Sep R w) (m : Mdh T w w') (ht : ∀ A ∈ R, ∀ k, A.S k → ¬ T k) : Sep R w' := ⟨fun A hA => A.fr (h.1 A hA) m (ht A hA), h.2⟩
theorem Sep.gr (h : Sep R w) (g : Gr w w') : Sep R w' := h.mdh (g.mdh fun _ => False) (fun _ _ _ _ h => h)
theorem Sep.lt (h : Sep R w) (hA : A ∈ R) : ∀ k, A.S k → k < w.heap.size := A.lt (h.1 A hA)
/-- One more, in new blocks. -/
theorem Sep.new (h : Sep R w) (g : Gr w w') (hA : A.P w') (hn : ∀ k, A.S k → w.heap.size ≤ k) : Sep (A :: R) w' :=
  ⟨fun B hB => (List.mem_cons.1 hB).elim (fun e => e ▸ hA) (fun e => (h.gr g).1 B e), List.pairwise_cons.2 ⟨fun B hB k ka kb => by have := h.lt hB k kb; have := hn k ka; omega, h.2⟩⟩
/-- One of them turns, within its own blocks and new ones. -/
theorem Sep.step {T : Nat → Prop} (h : Sep (A :: R) w) (m : Mdh T w w') (hT : ∀ k, T k → A.S k ∨ w.heap.size ≤ k) (hB : B.P w') (hS : ∀ k, B.S k → A.S k ∨ w.heap.size ≤ k) : Sep (B :: R) w' := by
  have hd := h.dis
  refine ⟨fun C hC => ?_, List.pairwise_cons.2 ⟨fun C hC k kb kc => ?_, (List.pairwise_cons.1 h.2).2⟩⟩
  · rcases List.mem_cons.1 hC with rfl | hC
    · exact hB
    · refine C.fr (h.1 C (List.mem_cons_of_mem _ hC)) m (fun k hk ht => ?_)
      rcases hT k ht with ha | hn
      · exact hd C hC k ha hk
      · have := h.lt (List.mem_cons_of_mem _ hC) k hk; omega
  · rcases hS k kb with ha | hn
    · exact hd C hC k ha kc
    · have := h.lt (List.mem_cons_of_mem _ hC) k kc; omega
/-- Several of them turn, within their blocks and new ones. -/
theorem Sep.steps {As Bs : List Asn} {T : Nat → Prop} (h : Sep (As ++ R) w) (m : Mdh T w w') (hT : ∀ k, T k → (∃ A ∈ As, A.S k) ∨ w.heap.size ≤ k) (hB : Sep Bs w') (hS : ∀ B ∈ Bs, ∀ k, B.S k → (∃ A ∈ As, A.S k) ∨ w.heap.size ≤ k) : Sep (Bs ++ R) w' := by
  have hd := List.pairwise_append.1 h.2
  refine ⟨fun C hC => ?_, List.pairwise_append.2 ⟨hB.2, hd.2.1, fun B hB C hC k kb kc => ?_⟩⟩
  · rcases List.mem_append.1 hC with hC | hC
    · exact hB.1 C hC
    · refine C.fr (h.1 C (List.mem_append_right _ hC)) m (fun k hk ht => ?_)
      rcases hT k ht with ⟨A, hA, ha⟩ | hn
      · exact hd.2.2 A hA C hC k ha hk
      · have := h.lt (List.mem_append_right _ hC) k hk; omega
  · rcases hS B hB k kb with ⟨A, hA, ha⟩ | hn
    · exact hd.2.2 A hA C hC k ha kc
    · have := h.lt (List.mem_append_right _ hC) k kc; omega
theorem Sep.append {Q : List Asn} (h : Sep R w) (g : Sep Q w) (hd : ∀ A ∈ R, ∀ B ∈ Q, Dis A B) : Sep (R ++ Q) w :=
  ⟨fun A hA => (List.mem_append.1 hA).elim (h.1 A) (g.1 A), List.pairwise_append.2 ⟨h.2, g.2, hd⟩⟩
theorem Sep.left {Q : List Asn} (h : Sep (R ++ Q) w) : Sep R w := h.sub (List.sublist_append_left _ _)
theorem Sep.right {Q : List Asn} (h : Sep (R ++ Q) w) : Sep Q w := h.sub (List.sublist_append_right _ _)
/-- The i-th to the front. -/
theorem Sep.pick (h : Sep R w) {i : Nat} (hi : R[i]? = some A) : Sep (A :: R.eraseIdx i) w := by
  obtain ⟨hlt, rfl⟩ := List.getElem?_eq_some_iff.1 hi
  exact h.perm (erase_perm hlt).symm
theorem Sep.unpick {i : Nat} (hi : i < R.length) (h : Sep (B :: R.eraseIdx i) w) : Sep (R.set i B) w :=
  h.perm (by
    have h1 : i < (R.set i B).length := by simpa using hi
    have := erase_perm h1
    rwa [List.getElem_set_self, erase_set] at this)
end

/-! ### Some things -/
/-- A block that is known whole. -/
def blkA (b : Nat) (o : Obj) : Asn := ⟨fun k => k = b, fun w => w.heap[b]? = some o, fun h m hs => m.blk h (hs b rfl), fun h k hk => by subst hk; exact blkLt h⟩
/-- A row of the owner's own. -/
def rowA (t : TypeId) (K : Nat) (v : Value) (n : Nat) (xs : List Value) : Asn := ⟨fun k => v.ownBlock = some k, fun w => Own w t K v n xs, fun h m hs => h.mdh m hs, fun h k hk => h.lt hk⟩

/-- What lies side by side in blocks that are new since w0. -/
structure SW (w0 : World) (R : List Asn) (w : World) : Prop where
  g : Gr w0 w
  s : Sep R w
  n : ∀ A ∈ R, ∀ k, A.S k → w0.heap.size ≤ k
section
variable {w0 w w' : World} {R R' : List Asn} {A B : Asn}
theorem SW.start (w : World) : SW w [] w := ⟨Gr.refl w, Sep.nil w, (fun _ h => by cases h)⟩
theorem SW.gr (h : SW w0 R w) (g : Gr w w') : SW w0 R w' := ⟨h.g.trans g, h.s.gr g, h.n⟩
theorem SW.new (h : SW w0 R w) (g : Gr w w') (hA : A.P w') (hn : ∀ k, A.S k → w.heap.size ≤ k) : SW w0 (A :: R) w' :=
  ⟨h.g.trans g, h.s.new g hA hn, fun B hB => (List.mem_cons.1 hB).elim (fun e k hk => Nat.le_trans h.g.sz (hn k (e ▸ hk))) (h.n B)⟩
theorem SW.alloc (h : SW w0 R w) (o : Obj) : SW w0 (blkA w.heap.size o :: R) (w.alloc o) := h.new ((Gr.refl w).alloc o) (blkNew w o) (fun k hk => by rw [show k = w.heap.size from hk]; exact Nat.le_refl _)
theorem SW.perm (h : SW w0 R w) (p : R.Perm R') : SW w0 R' w := ⟨h.g, h.s.perm p, fun A hA => h.n A (p.mem_iff.2 hA)⟩
theorem SW.sub (h : SW w0 R w) (p : R'.Sublist R) : SW w0 R' w := ⟨h.g, h.s.sub p, fun A hA => h.n A (p.subset hA)⟩
theorem SW.step {T : Nat → Prop} (h : SW w0 (A :: R) w) (m : Mdh T w w') (hT : ∀ k, T k → A.S k ∨ w.heap.size ≤ k) (hB : B.P w') (hS : ∀ k, B.S k → A.S k ∨ w.heap.size ≤ k) : SW w0 (B :: R) w' := by
  have hz := h.g.sz
  have nA := h.n A (by simp)
  refine ⟨h.g.md m (fun k hk => (hT k hk).elim (nA k) (fun y => by omega)), h.s.step m hT hB hS, fun C hC k hk => ?_⟩
  rcases List.mem_cons.1 hC with rfl | hC
  · exact (hS k hk).elim (nA k) (fun y => by omega)
  · exact h.n C (List.mem_cons_of_mem _ hC) k hk
theorem SW.pick (h : SW w0 R w) {i : Nat} (hi : R[i]? = some A) : SW w0 (A :: R.eraseIdx i) w := by
  obtain ⟨hlt, rfl⟩ := List.getElem?_eq_some_iff.1 hi
  exact h.perm (erase_perm hlt).symm
theorem SW.unpick {i : Nat} (hi : i < R.length) (h : SW w0 (B :: R.eraseIdx i) w) : SW w0 (R.set i B) w :=
  h.perm (by
    have h1 : i < (R.set i B).length := by simpa using hi
    have := erase_perm h1
    rwa [List.getElem_set_self, erase_set] at this)
/-- The i-th turns. -/
theorem SW.at {i : Nat} {T : Nat → Prop} (h : SW w0 R w) (hi : R[i]? = some A) (m : Mdh T w w') (hT : ∀ k, T k → A.S k ∨ w.heap.size ≤ k) (hB : B.P w') (hS : ∀ k, B.S k → A.S k ∨ w.heap.size ≤ k) : SW w0 (R.set i B) w' :=
  SW.unpick (List.getElem?_eq_some_iff.1 hi).1 ((h.pick hi).step m hT hB hS)
theorem SW.get (h : SW w0 R w) {i : Nat} (hi : R[i]? = some A) : A.P w := h.s.1 A (List.mem_of_getElem? hi)
theorem SW.get_ne (h : SW w0 R w) {i j : Nat} (hi : R[i]? = some A) (hj : R[j]? = some B) (hij : i ≠ j) : Dis A B := by
  obtain ⟨h1, rfl⟩ := List.getElem?_eq_some_iff.1 hi
  obtain ⟨h2, rfl⟩ := List.getElem?_eq_some_iff.1 hj
  rcases Nat.lt_or_gt_of_ne hij with h3 | h3
  · exact List.pairwise_iff_getElem.1 h.s.2 i j h1 h2 h3
  · exact (List.pairwise_iff_getElem.1 h.s.2 j i h2 h1 h3).symm
/-- The i-th box is stored into. -/
theorem SW.box {i b : Nat} {t : TypeId} {u : Value} (h : SW w0 R w) (hi : R[i]? = some (blkA b (.cells #[u] t))) (v : Value) : SW w0 (R.set i (blkA b (.cells #[v] t))) (w.setCell ⟨b, 0, none⟩ v) := by
  have hb : w.heap[b]? = some (.cells #[u] t) := h.get hi
  exact h.at hi ((Mdh.refl (fun k => k = b) w).setCell (p := ⟨b, 0, none⟩) rfl v) (fun k hk => .inl hk) (blk1 hb) (fun k hk => .inl hk)
end
end Go.Proofs.YtemjnppplmankaaGreat

/- The plain law of a sorted list of keys with values. No program in sight. -/
set_option linter.unusedVariables false
set_option linter.unusedSimpArgs false
namespace Go.Proofs.YtemjnppplmankaaGreat

structure KOrd {κ : Type} (lt : κ → κ → Bool) : Prop where
  irr : ∀ a, lt a a = false
  trn : ∀ {a b c}, lt a b = true → lt b c = true → lt a c = true
  tri : ∀ {a b}, lt a b = false → lt b a = false → a = b
section
variable {κ ν : Type} {lt : κ → κ → Bool}
def Srt (lt : κ → κ → Bool) (L : List (κ × ν)) : Prop := L.Pairwise (fun x y => lt x.1 y.1 = true)
/-- How many keys are less. -/
def rk (lt : κ → κ → Bool) : List (κ × ν) → κ → Nat
  | [], _ => 0
  | x :: L, k => if lt x.1 k = true then rk lt L k + 1 else 0
theorem rk_le (L : List (κ × ν)) (k : κ) : rk lt L k ≤ L.length := by
  induction L with
  | nil => exact Nat.le_refl _
  | cons x L ih => simp only [rk, List.length_cons]; split <;> omega
theorem rk_lo (L : List (κ × ν)) (k : κ) : ∀ j x, j < rk lt L k → L[j]? = some x → lt x.1 k = true := by
  induction L with
  | nil => intro j x h; simp [rk] at h
  | cons y L ih =>
    intro j x h hx
    simp only [rk] at h
    split at h
    · cases j with
      | zero => simp at hx; subst hx; assumption
      | succ j => exact ih j x (by omega) (by simpa using hx)
    · omega
theorem rk_hi (o : KOrd lt) {L : List (κ × ν)} (s : Srt lt L) (k : κ) : ∀ j x, rk lt L k ≤ j → L[j]? = some x → lt x.1 k = false := by
  induction L with
  | nil => intro j x _ hx; simp at hx
  | cons y L ih =>
    intro j x h hx
    obtain ⟨s1, s2⟩ := List.pairwise_cons.1 s
    simp only [rk] at h
    split at h
    · cases j with
      | zero => omega
      | succ j => exact ih s2 j x (by omega) (by simpa using hx)
    · rename_i hy
      cases j with
      | zero => simp at hx; subst hx; simpa using hy
      | succ j =>
        have hm : x ∈ L := List.mem_of_getElem? (by simpa using hx)
        cases e : lt x.1 k with
        | false => rfl
        | true => exact absurd (o.trn (s1 x hm) e) hy
theorem rk_uniq (o : KOrd lt) {L : List (κ × ν)} (s : Srt lt L) (k : κ) (r : Nat) (hr : r ≤ L.length) (h1 : ∀ j x, j < r → L[j]? = some x → lt x.1 k = true) (h2 : ∀ j x, r ≤ j → L[j]? = some x → lt x.1 k = false) : r = rk lt L k := by
  have hl := rk_le (lt := lt) L k
  rcases Nat.lt_trichotomy r (rk lt L k) with h | h | h
  · have e := rk_lo (lt := lt) L k r _ h (List.getElem?_eq_getElem (show r < L.length by omega))
    rw [h2 r _ (Nat.le_refl _) (List.getElem?_eq_getElem (show r < L.length by omega))] at e
    cases e
  · exact h
  · have e := rk_hi o s k (rk lt L k) _ (Nat.le_refl _) (List.getElem?_eq_getElem (show rk lt L k < L.length by omega))
    rw [h1 _ _ h (List.getElem?_eq_getElem (show rk lt L k < L.length by omega))] at e
    cases e

theorem rk_lt {L : List (κ × ν)} (k : κ) : ∀ x ∈ L.take (rk lt L k), lt x.1 k = true := by
  intro x hx
  obtain ⟨j, hj, e⟩ := List.mem_take_iff_getElem.1 hx
  exact rk_lo L k j x (by omega) (by rw [List.getElem?_eq_getElem (by omega), e])
theorem mono_lo (o : KOrd lt) {L : List (κ × ν)} (s : Srt lt L) {k : κ} {m : Nat} {x : κ × ν} (hx : L[m]? = some x) (h : lt x.1 k = true) : ∀ j y, j < m + 1 → L[j]? = some y → lt y.1 k = true := by
  intro j y hj hy
  obtain ⟨hm, em⟩ := List.getElem?_eq_some_iff.1 hx
  obtain ⟨hjl, ej⟩ := List.getElem?_eq_some_iff.1 hy
  rcases Nat.eq_or_lt_of_le (show j ≤ m by omega) with e | e
  · subst e; rw [hx] at hy; rw [← Option.some.inj hy]; exact h
  · have := List.pairwise_iff_getElem.1 s j m hjl hm e
    rw [em, ej] at this
    exact o.trn this h
theorem mono_hi (o : KOrd lt) {L : List (κ × ν)} (s : Srt lt L) {k : κ} {m : Nat} {x : κ × ν} (hx : L[m]? = some x) (h : lt x.1 k = false) : ∀ j y, m ≤ j → L[j]? = some y → lt y.1 k = false := by
  intro j y hj hy
  cases e : lt y.1 k with
  | false => rfl
  | true =>
    have := mono_lo o s hy e m x (by omega) hx
    rw [h] at this
    cases this
theorem up_hi (o : KOrd lt) {L : List (κ × ν)} (s : Srt lt L) {k : κ} {m : Nat} {x : κ × ν} (hx : L[m]? = some x) (h : lt k x.1 = true) : ∀ j y, m ≤ j → L[j]? = some y → lt k y.1 = true := by
  intro j y hj hy
  obtain ⟨hm, em⟩ := List.getElem?_eq_some_iff.1 hx
  obtain ⟨hjl, ej⟩ := List.getElem?_eq_some_iff.1 hy
  rcases Nat.eq_or_lt_of_le hj with e | e
  · subst e; rw [hx] at hy; rw [← Option.some.inj hy]; exact h
  · have := List.pairwise_iff_getElem.1 s m j hm hjl e
    rw [em, ej] at this
    exact o.trn h this
theorem up_lo (o : KOrd lt) {L : List (κ × ν)} (s : Srt lt L) {k : κ} {m : Nat} {x : κ × ν} (hx : L[m]? = some x) (h : lt k x.1 = false) : ∀ j y, j < m + 1 → L[j]? = some y → lt k y.1 = false := by
  intro j y hj hy
  cases e : lt k y.1 with
  | false => rfl
  | true =>
    have := up_hi o s hy e m x (by omega) hx
    rw [h] at this
    cases this
variable [DecidableEq κ]
/-- The value of a key. -/
def look (lt : κ → κ → Bool) (L : List (κ × ν)) (k : κ) : Option ν := match L[rk lt L k]? with
  | some x => if x.1 = k then some x.2 else none
  | none => none
theorem look_some {L : List (κ × ν)} {k : κ} {v : ν} (h : look lt L k = some v) : L[rk lt L k]? = some (k, v) := by
  unfold look at h
  split at h
  · rename_i x hx
    split at h
    · rename_i e
      obtain rfl := Option.some.inj h
      rw [hx, ← e]
    · cases h
  · cases h
theorem look_mem (o : KOrd lt) {L : List (κ × ν)} (s : Srt lt L) (k : κ) (v : ν) : look lt L k = some v ↔ (k, v) ∈ L := by
  constructor
  · intro h
    exact List.mem_of_getElem? (look_some h)
  · intro h
    obtain ⟨i, hi, e⟩ := List.mem_iff_getElem.1 h
    have he : L[i]? = some (k, v) := by rw [List.getElem?_eq_getElem hi, e]
    have hr : i = rk lt L k := by
      refine rk_uniq o s k i (by omega) (fun j x hj hx => ?_) (fun j x hj hx => ?_)
      · have hjl := (List.getElem?_eq_some_iff.1 hx).1
        have := List.pairwise_iff_getElem.1 s j i hjl hi hj
        rw [e] at this
        rw [← (List.getElem?_eq_some_iff.1 hx).2]
        exact this
      · rcases Nat.eq_or_lt_of_le hj with hj | hj
        · subst hj; rw [he] at hx; rw [← Option.some.inj hx]; exact o.irr k
        · have hjl := (List.getElem?_eq_some_iff.1 hx).1
          have h1 := List.pairwise_iff_getElem.1 s i j hi hjl hj
          rw [e, (List.getElem?_eq_some_iff.1 hx).2] at h1
          cases e2 : lt x.1 k with
          | false => rfl
          | true => have := o.trn h1 e2; rw [o.irr] at this; cases this
    unfold look
    rw [← hr, he]
    simp
theorem look_none (o : KOrd lt) {L : List (κ × ν)} (s : Srt lt L) (k : κ) : look lt L k = none ↔ ∀ v, (k, v) ∉ L := by
  constructor
  · intro h v hm
    rw [(look_mem o s k v).2 hm] at h
    cases h
  · intro h
    cases e : look lt L k with
    | none => rfl
    | some v => exact absurd ((look_mem o s k v).1 e) (h v)

/-- How many keys are not greater. -/
def up (lt : κ → κ → Bool) (L : List (κ × ν)) (k : κ) : Nat := rk lt L k + if look lt L k = none then 0 else 1
theorem up_uniq (o : KOrd lt) {L : List (κ × ν)} (s : Srt lt L) (k : κ) (r : Nat) (hr : r ≤ L.length) (h1 : ∀ j x, j < r → L[j]? = some x → lt k x.1 = false) (h2 : ∀ j x, r ≤ j → L[j]? = some x → lt k x.1 = true) : r = up lt L k := by
  unfold up
  cases h : look lt L k with
  | none =>
    have hn := (look_none o s k).1 h
    simp only [if_true, Nat.add_zero]
    refine rk_uniq o s k r hr (fun j x hj hx => ?_) (fun j x hj hx => ?_)
    · cases e : lt x.1 k with
      | true => rfl
      | false => exact absurd (by rw [← o.tri e (h1 j x hj hx)]; exact List.mem_of_getElem? hx) (hn x.2)
    · cases e : lt x.1 k with
      | false => rfl
      | true => have := o.trn e (h2 j x hj hx); rw [o.irr] at this; cases this
  | some u =>
    have hg := look_some h
    obtain ⟨hlt, he⟩ := List.getElem?_eq_some_iff.1 hg
    rw [if_neg (by simp)]
    rcases Nat.lt_trichotomy r (rk lt L k + 1) with h3 | h3 | h3
    · have := h2 (rk lt L k) _ (by omega) hg
      rw [o.irr] at this; cases this
    · exact h3
    · have hl : rk lt L k + 1 < L.length := by omega
      have := List.pairwise_iff_getElem.1 s (rk lt L k) (rk lt L k + 1) hlt hl (by omega)
      rw [he] at this
      rw [h1 (rk lt L k + 1) _ h3 (List.getElem?_eq_getElem hl)] at this
      cases this
def putL (lt : κ → κ → Bool) (L : List (κ × ν)) (k : κ) (v : ν) : List (κ × ν) := match look lt L k with
  | some _ => L.set (rk lt L k) (k, v)
  | none => L.take (rk lt L k) ++ [(k, v)] ++ L.drop (rk lt L k)
def delL (lt : κ → κ → Bool) (L : List (κ × ν)) (k : κ) : List (κ × ν) := match look lt L k with
  | some _ => L.take (rk lt L k) ++ L.drop (rk lt L k + 1)
  | none => L
/-- What stands behind an absent key's place is greater. -/
theorem rk_gt (o : KOrd lt) {L : List (κ × ν)} (s : Srt lt L) (k : κ) (h : look lt L k = none) : ∀ x ∈ L.drop (rk lt L k), lt k x.1 = true := by
  intro x hx
  obtain ⟨j, hj, e⟩ := List.mem_iff_getElem.1 hx
  have hx' : L[rk lt L k + j]? = some x := by
    rw [← List.getElem?_drop, List.getElem?_eq_getElem hj, e]
  have h1 := rk_hi o s k _ x (by omega) hx'
  cases e2 : lt k x.1 with
  | true => rfl
  | false =>
    have e3 : x.1 = k := o.tri h1 e2
    exact absurd (by rw [← e3]; exact List.mem_of_getElem? hx') ((look_none o s k).1 h x.2)
theorem put_srt (o : KOrd lt) {L : List (κ × ν)} (s : Srt lt L) (k : κ) (v : ν) : Srt lt (putL lt L k v) := by
  unfold putL
  cases h : look lt L k with
  | none =>
    show Srt lt (L.take _ ++ [(k, v)] ++ L.drop _)
    have sp : Srt lt (L.take (rk lt L k) ++ L.drop (rk lt L k)) := by rw [List.take_append_drop]; exact s
    obtain ⟨s1, s2, s3⟩ := List.pairwise_append.1 sp
    unfold Srt
    rw [List.append_assoc]
    refine List.pairwise_append.2 ⟨s1, ?_, ?_⟩
    · exact List.pairwise_cons.2 ⟨fun x hx => rk_gt o s k h x hx, s2⟩
    · intro x hx y hy
      rcases List.mem_append.1 hy with hy | hy
      · rw [List.mem_singleton.1 hy]; exact rk_lt k x hx
      · exact s3 x hx y hy
  | some u =>
    have hg := look_some h
    have hlt := (List.getElem?_eq_some_iff.1 hg).1
    have he := (List.getElem?_eq_some_iff.1 hg).2
    show Srt lt (L.set _ _)
    refine List.pairwise_iff_getElem.2 fun i j hi hj hij => ?_
    simp only [List.length_set] at hi hj
    have := List.pairwise_iff_getElem.1 s i j hi hj hij
    simp only [List.getElem_set]
    split
    · rename_i e
      have ne : ¬ rk lt L k = j := by omega
      rw [if_neg ne]
      subst e
      rw [he] at this
      exact this
    · split
      · rename_i e
        subst e
        rw [he] at this
        exact this
      · exact this
theorem put_mem (o : KOrd lt) {L : List (κ × ν)} (s : Srt lt L) (k : κ) (v : ν) (x : κ × ν) : x ∈ putL lt L k v ↔ x = (k, v) ∨ (x ∈ L ∧ x.1 ≠ k) := by
  unfold putL
  cases h : look lt L k with
  | none =>
    show x ∈ L.take _ ++ [(k, v)] ++ L.drop _ ↔ _
    have hn := (look_none o s k).1 h
    have e : x ∈ L ↔ x ∈ L.take (rk lt L k) ∨ x ∈ L.drop (rk lt L k) := by rw [← List.mem_append, List.take_append_drop]
    simp only [List.mem_append, List.mem_singleton]
    constructor
    · rintro ((h1 | h1) | h1)
      · exact .inr ⟨e.2 (.inl h1), fun h2 => hn x.2 (by rw [← h2]; exact e.2 (.inl h1))⟩
      · exact .inl h1
      · exact .inr ⟨e.2 (.inr h1), fun h2 => hn x.2 (by rw [← h2]; exact e.2 (.inr h1))⟩
    · rintro (h1 | ⟨h1, _⟩)
      · exact .inl (.inr h1)
      · rcases e.1 h1 with h2 | h2
        · exact .inl (.inl h2)
        · exact .inr h2
  | some u =>
    have hg := look_some h
    obtain ⟨hlt, he⟩ := List.getElem?_eq_some_iff.1 hg
    show x ∈ L.set _ _ ↔ _
    constructor
    · intro hx
      obtain ⟨i, hi, e⟩ := List.mem_iff_getElem.1 hx
      rw [List.getElem_set] at e
      split at e
      · exact .inl e.symm
      · rename_i hne
        rw [List.length_set] at hi
        refine .inr ⟨by rw [← e]; exact List.getElem_mem _, fun h2 => hne ?_⟩
        have hxi : L[i]? = some (k, x.2) := by rw [List.getElem?_eq_getElem hi, e, ← h2]
        have := (look_mem o s k x.2).2 (List.mem_of_getElem? hxi)
        rcases Nat.lt_trichotomy i (rk lt L k) with hij | hij | hij
        · have hp := List.pairwise_iff_getElem.1 s i _ hi hlt hij
          rw [he, e, h2, o.irr] at hp
          cases hp
        · exact hij.symm
        · have hp := List.pairwise_iff_getElem.1 s _ i hlt hi hij
          rw [he, e, h2, o.irr] at hp
          cases hp
    · rintro (rfl | ⟨h1, h2⟩)
      · exact List.mem_iff_getElem.2 ⟨rk lt L k, by rw [List.length_set]; exact hlt, by rw [List.getElem_set]; simp⟩
      · obtain ⟨i, hi, e⟩ := List.mem_iff_getElem.1 h1
        have hne : ¬ rk lt L k = i := fun h3 => by subst h3; rw [he] at e; rw [← e] at h2; exact h2 rfl
        exact List.mem_iff_getElem.2 ⟨i, by rw [List.length_set]; exact hi, by rw [List.getElem_set, if_neg hne]; exact e⟩
theorem put_look (o : KOrd lt) {L : List (κ × ν)} (s : Srt lt L) (k : κ) (v : ν) (k' : κ) : look lt (putL lt L k v) k' = if k' = k then some v else look lt L k' := by
  split
  · rename_i e
    rw [look_mem o (put_srt o s k v), put_mem o s]
    exact .inl (by rw [e])
  · rename_i e
    cases h : look lt L k' with
    | some u =>
      rw [look_mem o (put_srt o s k v), put_mem o s]
      exact .inr ⟨(look_mem o s k' u).1 h, e⟩
    | none =>
      rw [look_none o (put_srt o s k v)]
      intro u hu
      rcases (put_mem o s k v _).1 hu with h1 | ⟨h1, _⟩
      · exact e (congrArg Prod.fst h1)
      · exact (look_none o s k').1 h u h1
theorem del_srt {L : List (κ × ν)} (s : Srt lt L) (k : κ) : Srt lt (delL lt L k) := by
  unfold delL
  cases h : look lt L k with
  | none => exact s
  | some u =>
    show Srt lt (L.take _ ++ L.drop _)
    have sp : Srt lt (L.take (rk lt L k) ++ L.drop (rk lt L k)) := by rw [List.take_append_drop]; exact s
    obtain ⟨s1, s2, s3⟩ := List.pairwise_append.1 sp
    have hd : L.drop (rk lt L k + 1) = (L.drop (rk lt L k)).drop 1 := by rw [List.drop_drop]
    refine List.pairwise_append.2 ⟨s1, ?_, fun x hx y hy => s3 x hx y ?_⟩
    · rw [hd]; exact s2.sublist (List.drop_sublist _ _)
    · rw [hd] at hy; exact List.mem_of_mem_drop hy
theorem del_mem (o : KOrd lt) {L : List (κ × ν)} (s : Srt lt L) (k : κ) (x : κ × ν) : x ∈ delL lt L k ↔ x ∈ L ∧ x.1 ≠ k := by
  unfold delL
  cases h : look lt L k with
  | none =>
    have hn := (look_none o s k).1 h
    exact ⟨fun hx => ⟨hx, fun h2 => hn x.2 (by rw [← h2]; exact hx)⟩, fun hx => hx.1⟩
  | some u =>
    have hg := look_some h
    obtain ⟨hlt, he⟩ := List.getElem?_eq_some_iff.1 hg
    show x ∈ L.take _ ++ L.drop _ ↔ _
    have eL : L = L.take (rk lt L k) ++ (k, u) :: L.drop (rk lt L k + 1) := by
      have := List.drop_eq_getElem_cons hlt
      rw [he] at this
      rw [← this, List.take_append_drop]
    have sp : Srt lt (L.take (rk lt L k) ++ (k, u) :: L.drop (rk lt L k + 1)) := by rw [← eL]; exact s
    obtain ⟨_, s2, s3⟩ := List.pairwise_append.1 sp
    have s4 := (List.pairwise_cons.1 s2).1
    have emem : x ∈ L ↔ x ∈ L.take (rk lt L k) ∨ x = (k, u) ∨ x ∈ L.drop (rk lt L k + 1) := by
      rw [← List.mem_cons, ← List.mem_append, ← eL]
    rw [List.mem_append]
    constructor
    · rintro (h1 | h1)
      · refine ⟨emem.2 (.inl h1), fun h2 => ?_⟩
        have := s3 x h1 (k, u) (by simp)
        rw [h2, o.irr] at this; cases this
      · refine ⟨emem.2 (.inr (.inr h1)), fun h2 => ?_⟩
        have := s4 x h1
        rw [h2, o.irr] at this; cases this
    · rintro ⟨h1, h2⟩
      rcases emem.1 h1 with h3 | h3 | h3
      · exact .inl h3
      · rw [h3] at h2; exact absurd rfl h2
      · exact .inr h3
theorem del_look (o : KOrd lt) {L : List (κ × ν)} (s : Srt lt L) (k k' : κ) : look lt (delL lt L k) k' = if k' = k then none else look lt L k' := by
  split
  · rename_i e
    rw [look_none o (del_srt s k)]
    intro u hu
    exact ((del_mem o s k _).1 hu).2 e
  · rename_i e
    cases h : look lt L k' with
    | some u =>
      rw [look_mem o (del_srt s k), del_mem o s]
      exact ⟨(look_mem o s k' u).1 h, e⟩
    | none =>
      rw [look_none o (del_srt s k)]
      intro u hu
      exact (look_none o s k').1 h u ((del_mem o s k _).1 hu).1
theorem put_length {L : List (κ × ν)} (k : κ) (v : ν) : (putL lt L k v).length = if look lt L k = none then L.length + 1 else L.length := by
  have := rk_le (lt := lt) L k
  unfold putL
  cases h : look lt L k with
  | none => simp; omega
  | some u => simp
theorem del_length {L : List (κ × ν)} (k : κ) : (delL lt L k).length = if look lt L k = none then L.length else L.length - 1 := by
  unfold delL
  cases h : look lt L k with
  | none => simp
  | some u =>
    have hg := look_some h
    obtain ⟨hlt, _⟩ := List.getElem?_eq_some_iff.1 hg
    simp
    omega
end
theorem ret_bool {a b : Bool} (h : a = b) : Ending.returned (.bool a) = .returned (.bool b) := by rw [h]
theorem ret_int {k : IntKind} {a b : Int} (h : a = b) : Ending.returned (.int k a) = .returned (.int k b) := by rw [h]
def ltZ (a b : Int) : Bool := decide (a < b)
theorem ordZ : KOrd ltZ := ⟨fun a => by simp [ltZ], fun {a b c} h1 h2 => by simp [ltZ] at *; omega, fun {a b} h1 h2 => by simp [ltZ] at *; omega⟩
/-- What stands at an index. -/
def atO (α : Type) (L : List α) (i : Int) : Option α := if 0 ≤ i then L[i.toNat]? else none
end Go.Proofs.YtemjnppplmankaaGreat

/- The order of strings. No program in sight. -/
set_option linter.unusedVariables false
set_option linter.unusedSimpArgs false
namespace Go.Proofs.YtemjnppplmankaaGreat
theorem bl_irr : ∀ x : List UInt8, Op.bytesLess x x = false
  | [] => rfl
  | a :: x => by simp [Op.bytesLess, bl_irr x]
theorem bl_trn : ∀ x y z : List UInt8, Op.bytesLess x y = true → Op.bytesLess y z = true → Op.bytesLess x z = true
  | _, _, [], _, h => by simp [Op.bytesLess] at h
  | _, [], _ :: _, h, _ => by simp [Op.bytesLess] at h
  | [], _ :: _, _ :: _, _, _ => rfl
  | a :: x, b :: y, c :: z, h1, h2 => by
    simp only [Op.bytesLess, Bool.or_eq_true, Bool.and_eq_true, decide_eq_true_eq, beq_iff_eq] at *
    rcases h1 with h1 | ⟨rfl, h1⟩ <;> rcases h2 with h2 | ⟨rfl, h2⟩
    · exact .inl (UInt8.lt_trans h1 h2)
    · exact .inl h1
    · exact .inl h2
    · exact .inr ⟨rfl, bl_trn x y z h1 h2⟩
theorem bl_tri : ∀ x y : List UInt8, Op.bytesLess x y = false → Op.bytesLess y x = false → x = y
  | [], [], _, _ => rfl
  | [], _ :: _, h, _ => by simp [Op.bytesLess] at h
  | _ :: _, [], _, h => by simp [Op.bytesLess] at h
  | a :: x, b :: y, h1, h2 => by
    simp only [Op.bytesLess, Bool.or_eq_false_iff, Bool.and_eq_false_imp, decide_eq_false_iff_not, beq_iff_eq] at *
    have e : a = b := by
      have h3 := h1.1
      have h4 := h2.1
      simp only [UInt8.not_lt] at h3 h4
      exact UInt8.le_antisymm h4 h3
    subst e
    rw [bl_tri x y (h1.2 rfl) (h2.2 rfl)]
theorem str_inj {a b : ByteArray} (h : a.toList = b.toList) : a = b := by
  rw [ByteArray.toList_eq, ByteArray.toList_eq] at h
  exact ByteArray.ext (Array.ext' h)
theorem str_beq (a b : ByteArray) : (a.toList == b.toList) = decide (a = b) := by
  by_cases e : a = b
  · subst e; simp
  · rw [decide_eq_false e]
    exact beq_false_of_ne (fun h => e (str_inj h))
theorem bl_gt (a b : List UInt8) : (!Op.bytesLess a b && !a == b) = Op.bytesLess b a := by
  cases h1 : Op.bytesLess a b with
  | true =>
    cases h2 : Op.bytesLess b a with
    | false => rfl
    | true => have := bl_trn _ _ _ h1 h2; rw [bl_irr] at this; cases this
  | false =>
    cases h2 : Op.bytesLess b a with
    | true =>
      have hne : a ≠ b := fun e => by subst e; rw [bl_irr] at h2; cases h2
      simp [hne]
    | false =>
      obtain rfl := bl_tri _ _ h1 h2
      simp
def ltS (a b : ByteArray) : Bool := Op.bytesLess a.toList b.toList
theorem ordS : KOrd ltS := ⟨fun a => bl_irr _, fun {a b c} h1 h2 => bl_trn _ _ _ h1 h2, fun {a b} h1 h2 => str_inj (bl_tri _ _ h1 h2)⟩
end Go.Proofs.YtemjnppplmankaaGreat
