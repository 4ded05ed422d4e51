/-
  Rows of elements of several cells: copy, clear, an append of zeros, an element laid in, an element taken out. No program in sight.
-/
import Derived.Test.YtiidkehcfoajeaaApp
import Derived.Laws.CopyRow
import Derived.Laws.IdiomCopy
import Derived.Lib.AppendZeros
import Derived.Lib.AppendZerosOnto
import Derived.Lib.Overlaps
import Derived.Laws.Externs
set_option linter.unusedVariables false
set_option linter.unusedSimpArgs false
namespace Go.Proofs.Ytiidkehcfoajeaa
open Go.RowKit Go.Lib

/-! ### Lists -/
theorem seg_take {α : Type} (cur mid : List α) (o : Nat) (ho : o ≤ cur.length) : (cur.take o ++ mid ++ cur.drop (o + mid.length)).take (o + mid.length) = cur.take o ++ mid := by
  rw [List.take_left']
  rw [List.length_append, List.length_take]
  omega
theorem seg_len {α : Type} (cur mid : List α) (o : Nat) (ho : o + mid.length ≤ cur.length) : (cur.take o ++ mid ++ cur.drop (o + mid.length)).length = cur.length := by
  simp only [List.length_append, List.length_take, List.length_drop]
  omega
/-- An element laid in where there is room. -/
theorem laid_in {α : Type} (cur xs ys : List α) (a b k : Nat) (hx : cur.take (a + b) = xs) (hab : a + k + b ≤ cur.length) (hy : ys.length = k) (cur1 cur2 : List α)
    (h1 : cur1 = cur.take (a + k) ++ xs.drop a ++ cur.drop (a + k + (xs.drop a).length)) (h2 : cur2 = cur1.take a ++ ys ++ cur1.drop (a + ys.length)) :
    cur2.take (a + k + b) = xs.take a ++ ys ++ xs.drop a ∧ cur2.length = cur.length := by
  have hxl : xs.length = a + b := by rw [← hx, List.length_take]; omega
  have hdl : (xs.drop a).length = b := by rw [List.length_drop]; omega
  have l1 : cur1.length = cur.length := by rw [h1]; exact seg_len _ _ _ (by omega)
  have t1 : cur1.take a = xs.take a := by
    rw [h1, ← hx, List.append_assoc, List.take_append_of_le_length (by rw [List.length_take]; omega), List.take_take, List.take_take]
    congr 1
    omega
  have d1 : cur1.drop (a + k) = xs.drop a ++ cur.drop (a + k + b) := by
    rw [h1, hdl, List.append_assoc, List.drop_left']
    rw [List.length_take]; omega
  constructor
  · rw [h2, hy, t1, d1, ← List.append_assoc, List.take_left']
    simp only [List.length_append, List.length_take, hdl, hy]
    omega
  · rw [h2, seg_len _ _ _ (by omega), l1]
/-- An element laid into a new row. -/
theorem laid_new {α : Type} (xs ys zs : List α) (a b k : Nat) (hxl : xs.length = a + b) (hz : k + b ≤ zs.length) (hy : ys.length = k) (cur cur1 cur2 : List α)
    (h0 : cur = xs.take a ++ zs) (h1 : cur1 = cur.take a ++ ys ++ cur.drop (a + ys.length)) (h2 : cur2 = cur1.take (a + k) ++ xs.drop a ++ cur1.drop (a + k + (xs.drop a).length)) :
    cur2.take (a + k + b) = xs.take a ++ ys ++ xs.drop a ∧ cur2.length = cur.length := by
  have hdl : (xs.drop a).length = b := by rw [List.length_drop]; omega
  have htl : (xs.take a).length = a := by rw [List.length_take]; omega
  have lc : cur.length = a + zs.length := by rw [h0, List.length_append, htl]
  have l1 : cur1.length = cur.length := by rw [h1]; exact seg_len _ _ _ (by omega)
  have t0 : cur.take a = xs.take a := by rw [h0, List.take_left' htl]
  have t1 : cur1.take (a + k) = xs.take a ++ ys := by
    rw [h1, hy, t0, List.take_left']
    rw [List.length_append, htl, hy]
  constructor
  · rw [h2, t1, hdl, List.take_left']
    simp only [List.length_append, htl, hy, hdl]
  · rw [h2, seg_len _ _ _ (by omega), l1]

section
variable {P : Program}
/-! ### copy -/
theorem run_copyK (w : World) (dT sT ty elem : TypeId) (K g o dLen dCap : Nat) (a : Addr) (sLen sCap : Nat) (cur : Array Value) (t : TypeId) (cs : List Value)
    (hu : P.underlying dT = some (.slice elem)) (hs : (P.info? elem).map (·.size) = some K)
    (hg : w.heap[g]? = some (.cells cur t (0, 0))) (hn : cs.length = Nat.min sLen dLen * K)
    (hsrc : ∀ j v, cs[j]? = some v → w.cell? (a.add j) = some v) (hfit : o + cs.length ≤ cur.size) (h1 : ∀ v ∈ cs, v.oneCell' = true) :
    (Builtin.copy_ #[dT, sT] ty #[.slice (some ⟨g, o, none⟩) dLen dCap, .slice (some a) sLen sCap]).run P w =
      .ok (.int .i64 ((Nat.min sLen dLen : Nat) : Int)) (w.setRow g (cur.toList.take o ++ cs ++ cur.toList.drop (o + cs.length)).toArray) := by
  have hl := run_loadCells_list (P := P) w a cs hsrc
  have hst := run_storeCells_at P g o t cs 0 cur w hg (by simpa using hfit) h1
  cases hq : P.info? elem with
  | none => simp [hq] at hs
  | some i =>
    have hi : i.size = K := by simpa [hq] using hs
    simp [Builtin.copy_, run_underlying hu, Builtin.lenOf, Builtin.firstCells, sizeOf, typeInfo, hq, hi, ← hn, hl, hst, goInt]
theorem wp_copyK (w : World) {o : Oper} {a : Act} {K : Act → World → Prop} {Q : Exit → Act → World → Prop} (d s : Operand) (t t' : TypeId)
    (ho : o.op = .call { callee := .builtin .copy, args := #[d, s], argTypes := #[t, t'] }) (v u : Value) (hd : a.eval d = v) (hs : a.eval s = u) {v' : Value} {w' : World}
    (hr : (Builtin.copy_ #[t, t'] o.type #[v, u]).run P w = .ok v' w') (h : K (a.put o.dst v') w') : o.wp P a w K Q := by
  unfold Oper.wp execOp
  simp only [ho, resolve, invoke, builtin, Sem.run_bind, Sem.run_pure, Result.andThen_ok, List.map_toArray, List.map_cons, List.map_nil, hd, hs, hr]
  exact h
theorem wpList_copyK (w : World) {ops : Array Oper} {rest : List Oper} {o : Oper} {a : Act} {Q : Exit → Act → World → Prop} (hgd : o.guard = none) (d s : Operand) (t t' : TypeId)
    (ho : o.op = .call { callee := .builtin .copy, args := #[d, s], argTypes := #[t, t'] }) (v u : Value) (hd : a.eval d = v) (hs : a.eval s = u) {v' : Value} {w' : World}
    (hr : (Builtin.copy_ #[t, t'] o.type #[v, u]).run P w = .ok v' w') (h : wpList P ops Q rest (a.put o.dst v') w') : wpList P ops Q (o :: rest) a w :=
  wpList_plain hgd fun _ hK => wp_copyK w d s t t' ho v u hd hs hr (hK _ _ h)

theorem wp_app_eq {w : World} {t tn ty : TypeId} {vs vx v' : Value} {w' : World} (hr : (Builtin.append_ #[t, tn] ty #[vs, vx]).run P w = .ok v' w')
    {o : Oper} {a : Act} {K : Act → World → Prop} {Q : Exit → Act → World → Prop} (s x : Operand)
    (ho : o.op = .call { callee := .builtin .append, args := #[s, x], argTypes := #[t, tn] }) (hty : o.type = ty) (hs : a.eval s = vs) (hx : a.eval x = vx) (h : K (a.put o.dst v') w') : o.wp P a w K Q :=
  Lib.wp_append_run w s x t tn ho vs vx hs hx v' w' (by rw [hty]; exact hr) h
theorem wp_clear_eq {w : World} {t ty : TypeId} {vs v' : Value} {w' : World} (hr : (Builtin.clear_ #[t] ty #[vs]).run P w = .ok v' w')
    {o : Oper} {a : Act} {K : Act → World → Prop} {Q : Exit → Act → World → Prop} (s : Operand)
    (ho : o.op = .call { callee := .builtin .clear, args := #[s], argTypes := #[t] }) (hty : o.type = ty) (hs : a.eval s = vs) (h : K (a.put o.dst v') w') : o.wp P a w K Q := by
  unfold Oper.wp execOp
  simp only [ho, resolve, invoke, builtin, Sem.run_bind, Sem.run_pure, Result.andThen_ok, List.map_toArray, List.map_cons, List.map_nil, hs, hty, hr]
  exact h
theorem wpList_clear_eq {w : World} {t ty : TypeId} {vs v' : Value} {w' : World} (hr : (Builtin.clear_ #[t] ty #[vs]).run P w = .ok v' w')
    {ops : Array Oper} {rest : List Oper} {o : Oper} {a : Act} {Q : Exit → Act → World → Prop} (hgd : o.guard = none) (s : Operand)
    (ho : o.op = .call { callee := .builtin .clear, args := #[s], argTypes := #[t] }) (hty : o.type = ty) (hs : a.eval s = vs) (h : wpList P ops Q rest (a.put o.dst v') w') : wpList P ops Q (o :: rest) a w :=
  wpList_plain hgd fun _ hK => wp_clear_eq hr s ho hty hs (hK _ _ h)

end

section
variable {P : Program} (w : World)
/-- Of the second operand's type it counts alone that it is a slice's. -/
theorem append_types {t tn e e2 : TypeId} (ht : P.underlying t = some (.slice e)) (htn : P.underlying tn = some (.slice e2)) (ty : TypeId) (a : Option Addr) (n c : Nat) (y : Value) : (Builtin.append_ #[t, tn] ty #[.slice a n c, y]).run P w = (Builtin.append_ #[t, t] ty #[.slice a n c, y]).run P w := by
  simp [Builtin.append_, run_underlying ht, run_underlying htn]
theorem wp_app2 {o : Oper} {a : Act} {K : Act → World → Prop} {Q : Exit → Act → World → Prop} (s x : Operand) (t tn : TypeId)
    (ho : o.op = .call { callee := .builtin .append, args := #[s, x], argTypes := #[t, tn] })
    (e : TypeId) {e2 : TypeId} (htn : P.underlying tn = some (.slice e2)) (i : TypeInfo) (z : Value) (size bytes : Nat) (ht : P.underlying t = some (.slice e)) (hi : P.info? e = some i) (hz : i.zero = some z)
    (hsize : i.size = size) (hby : i.bytes = bytes) (hzs : z.cells.size = size) (hsz : 0 < size)
    (v : Value) (n : Nat) (xs : List Value) (hs : a.eval s = v) (hown : Own w e size v n xs)
    (ad : Addr) (m c : Nat) (news : List Value) (hx : a.eval x = .slice (some ad) m c) (hl : news.length = m * size) (hnews : ∀ j u, news[j]? = some u → w.cell? (ad.add j) = some u) (h1 : ∀ u ∈ news, u.oneCell' = true)
    (hm : 0 < m) (h63 : n + m ≤ maxLen) (hbytes : (n + m) * bytes ≤ 140737488355328)
    (h : ∀ g cap w', Own w' e size (.slice (some ⟨g, 0, none⟩) (n + m) cap) (n + m) (xs ++ news) → (v.ownBlock = some g ∨ w.heap.size ≤ g) → w.grownBy w' v.ownBlock → K (a.put o.dst (.slice (some ⟨g, 0, none⟩) (n + m) cap)) w') : o.wp P a w K Q := by
  obtain ⟨g, cap, w', hr, h2, h3, h4⟩ := run_app (P := P) w t o.type e i z size bytes ht hi hz hsize hby hzs hsz v n xs hown ad m c news hl hnews h1 hm h63 hbytes
  have hv : ∃ a n c, v = .slice a n c := by
    rcases hown.2 with ⟨h, _⟩ | ⟨g, cap, cur, h, _⟩
    · exact ⟨_, _, _, h⟩
    · exact ⟨_, _, _, h⟩
  obtain ⟨a1, n1, c1, rfl⟩ := hv
  rw [← append_types w ht htn] at hr
  exact wp_app_eq hr s x ho rfl hs hx (h g cap w' h2 h3 h4)
theorem wpList_app2 {ops : Array Oper} {rest : List Oper} {o : Oper} {a : Act} {Q : Exit → Act → World → Prop} (hgd : o.guard = none) (s x : Operand) (t tn : TypeId)
    (ho : o.op = .call { callee := .builtin .append, args := #[s, x], argTypes := #[t, tn] })
    (e : TypeId) {e2 : TypeId} (htn : P.underlying tn = some (.slice e2)) (i : TypeInfo) (z : Value) (size bytes : Nat) (ht : P.underlying t = some (.slice e)) (hi : P.info? e = some i) (hz : i.zero = some z)
    (hsize : i.size = size) (hby : i.bytes = bytes) (hzs : z.cells.size = size) (hsz : 0 < size)
    (v : Value) (n : Nat) (xs : List Value) (hs : a.eval s = v) (hown : Own w e size v n xs)
    (ad : Addr) (m c : Nat) (news : List Value) (hx : a.eval x = .slice (some ad) m c) (hl : news.length = m * size) (hnews : ∀ j u, news[j]? = some u → w.cell? (ad.add j) = some u) (h1 : ∀ u ∈ news, u.oneCell' = true)
    (hm : 0 < m) (h63 : n + m ≤ maxLen) (hbytes : (n + m) * bytes ≤ 140737488355328)
    (h : ∀ g cap w', Own w' e size (.slice (some ⟨g, 0, none⟩) (n + m) cap) (n + m) (xs ++ news) → (v.ownBlock = some g ∨ w.heap.size ≤ g) → w.grownBy w' v.ownBlock → wpList P ops Q rest (a.put o.dst (.slice (some ⟨g, 0, none⟩) (n + m) cap)) w') : wpList P ops Q (o :: rest) a w :=
  wpList_plain hgd fun _ hK => wp_app2 w s x t tn ho e htn i z size bytes ht hi hz hsize hby hzs hsz v n xs hs hown ad m c news hx hl hnews h1 hm h63 hbytes fun g cap w' h2 h3 h4 => hK _ _ (h g cap w' h2 h3 h4)
end
section
variable {P : Program}
/-! ### clear -/
theorem zeroCells_len (zs : Array Value) (n : Nat) : (Builtin.zeroCells zs n).toList.length = n * zs.size := by simp [Builtin.zeroCells, Nat.mul_comm]
theorem zeroCells_one (zs : Array Value) (n : Nat) (h : ∀ v ∈ zs.toList, v.oneCell' = true) : ∀ v ∈ (Builtin.zeroCells zs n).toList, v.oneCell' = true := by
  intro v hv
  obtain ⟨i, hi, rfl⟩ := List.mem_iff_getElem.1 hv
  rw [zeroCells_len] at hi
  have hp : 0 < zs.size := by
    rcases Nat.eq_zero_or_pos zs.size with h0 | h0
    · rw [h0] at hi; omega
    · exact h0
  have hlt : i % zs.size < zs.size := Nat.mod_lt _ hp
  have e : (Builtin.zeroCells zs n).toList[i] = zs[i % zs.size] := by
    simp [Builtin.zeroCells, hlt]
  rw [e]
  exact h _ (by simp)
theorem run_clearK (w : World) (t e ty : TypeId) (z : Value) (K : Nat) (ht : P.underlying t = some (.slice e)) (hv : ∀ w, (zeroValue e).run P w = .ok z w) (hz : z.cells.size = K) (h1 : ∀ v ∈ z.cells.toList, v.oneCell' = true)
    (g o n c : Nat) (hn : 0 < n) (cur : Array Value) (tt : TypeId) (hg : w.heap[g]? = some (.cells cur tt (0, 0))) (hfit : o + n * K ≤ cur.size) :
    (Builtin.clear_ #[t] ty #[.slice (some ⟨g, o, none⟩) n c]).run P w = .ok (.tuple #[]) (w.setRow g (cur.toList.take o ++ (Builtin.zeroCells z.cells n).toList ++ cur.toList.drop (o + n * K)).toArray) := by
  have hl := zeroCells_len z.cells n
  rw [hz] at hl
  have hst := run_storeCells_at P g o tt (Builtin.zeroCells z.cells n).toList 0 cur w hg (by rw [hl]; simpa using hfit) (zeroCells_one _ _ h1)
  rw [hl] at hst
  simp only [Nat.add_zero] at hst
  obtain ⟨m, rfl⟩ : ∃ m, n = m + 1 := ⟨n - 1, by omega⟩
  simp [Builtin.clear_, run_underlying ht, hv, hst]
end

/-! ### A row's block, written as a whole -/
theorem setRow_mdh {S : Nat → Prop} {w w' : World} (h : Mdh S w w') {g : Nat} (hg : S g ∨ w.heap.size ≤ g) (cs : Array Value) : Mdh S w (w'.setRow g cs) := by
  have hk : ∀ k, k ≠ g → (w'.setRow g cs).heap[k]? = w'.heap[k]? := fun k hk => by
    unfold World.setRow
    simp [Array.getElem?_modify, hk.symm]
  refine ⟨by unfold World.setRow; simpa using h.size, fun k hk' hn => ?_, ?_, ?_, ?_⟩
  · rw [hk k (fun e => by subst e; rcases hg with h1 | h1; exact hn h1; omega)]
    exact h.blocks k hk' hn
  · exact h.os
  · exact h.tape
  · exact h.output
theorem Own.parts {w : World} {e : TypeId} {K g n cap : Nat} {xs : List Value} (h : Own w e K (.slice (some ⟨g, 0, none⟩) n cap) n xs) :
    ∃ cur : Array Value, w.heap[g]? = some (.cells cur e (0, 0)) ∧ n ≤ cap ∧ cap ≤ maxLen ∧ cur.size = cap * K ∧ cur.toList.take (n * K) = xs := by
  rcases h.2 with ⟨h0, _⟩ | ⟨g', cap', cur, hv, _, hg, h1, h2, h3, h4⟩
  · cases h0
  · simp only [Value.slice.injEq, Option.some.injEq, Addr.mk.injEq, and_true, true_and] at hv
    obtain ⟨rfl, rfl⟩ := hv
    exact ⟨cur, hg, h1, h2, h3, h4⟩
theorem Own.ofParts {w : World} {e : TypeId} {K g n cap : Nat} {xs : List Value} {cur : Array Value} (hg : w.heap[g]? = some (.cells cur e (0, 0))) (h1 : n ≤ cap) (h2 : cap ≤ maxLen) (h3 : cur.size = cap * K) (h4 : cur.toList.take (n * K) = xs) :
    Own w e K (.slice (some ⟨g, 0, none⟩) n cap) n xs := by
  refine ⟨?_, .inr ⟨g, cap, cur, rfl, Nat.zero_le _, hg, h1, h2, h3, h4⟩⟩
  rw [← h4, List.length_take]
  have := Nat.mul_le_mul_right K h1
  simp only [Array.length_toList]
  omega
theorem setRow_at {w : World} {g : Nat} {cur cs : Array Value} {t : TypeId} (hg : w.heap[g]? = some (.cells cur t (0, 0))) : (w.setRow g cs).heap[g]? = some (.cells cs t (0, 0)) := setRow_heap w g cur cs t _ hg
theorem setRow_ne {w : World} {g k : Nat} (cs : Array Value) (h : k ≠ g) : (w.setRow g cs).heap[k]? = w.heap[k]? := by
  unfold World.setRow
  simp [Array.getElem?_modify, h.symm]
/-- What an element laid into a row comes to. -/
def InsPost (K : Nat) (t : TypeId) (v : Value) (n i : Nat) (xs ys : List Value) (w : World) (e : Ending) (w' : World) : Prop :=
  ∃ g cap, e = .returned (.slice (some ⟨g, 0, none⟩) (n + 1) cap) ∧ Own w' t K (.slice (some ⟨g, 0, none⟩) (n + 1) cap) (n + 1) (xs.take (i * K) ++ ys ++ xs.drop (i * K)) ∧ (v.ownBlock = some g ∨ w.heap.size ≤ g) ∧ Mdh (fun k => v.ownBlock = some k) w w'
end Go.Proofs.Ytiidkehcfoajeaa
