/- An append of however many elements to a row of the call's own; what a slice of a row is made of. No program in sight. -/
import Derived.Test.YtiidkehcfoajeaaIns
set_option linter.unusedVariables false
set_option linter.unusedSimpArgs false
namespace Go.Proofs.Ytiidkehcfoajeaa
open Go.RowKit

/-- What is appended: m elements; they lie at xa, where there are any. -/
def SrcAt (w : World) (size : Nat) (xa : Option Addr) (m : Nat) (news : List Value) : Prop :=
  news.length = m * size ∧ (∀ u ∈ news, u.oneCell' = true) ∧ (m = 0 ∨ ∃ ad, xa = some ad ∧ ∀ j u, news[j]? = some u → w.cell? (ad.add j) = some u)
/-- What an append leaves. -/
def AppV (w : World) (e : TypeId) (size : Nat) (v : Value) (n : Nat) (xs : List Value) (v' : Value) (w' : World) : Prop :=
  Own w' e size v' n xs ∧ (∀ g, v'.ownBlock = some g → v.ownBlock = some g ∨ w.heap.size ≤ g) ∧ w.grownBy w' v.ownBlock
theorem addr_add (b o j : Nat) : (⟨b, o, none⟩ : Addr).add j = ⟨b, o + j, none⟩ := by unfold Addr.add; split <;> simp_all
theorem keepAdd {w w' : World} {S : Nat → Prop} (m : Mdh S w w') {b o j : Nat} {u : Value} (h : w.cell? ((⟨b, o, none⟩ : Addr).add j) = some u) (hs : ¬ S b) : w'.cell? ((⟨b, o, none⟩ : Addr).add j) = some u := by
  rw [addr_add] at h ⊢
  exact m.keep h hs
theorem SrcAt.gr {w w' : World} {K m : Nat} {xa : Option Addr} {news : List Value} (h : SrcAt w K xa m news) (g : Gr w w') : SrcAt w' K xa m news :=
  ⟨h.1, h.2.1, h.2.2.imp id (fun ⟨ad, e, hc⟩ => ⟨ad, e, fun j u hj => (World.cell?_of_block (Below.block g _ (World.block_lt_of_cell? w _ (hc j u hj)))).trans (hc j u hj)⟩)⟩
theorem SrcAt.mdh {w w' : World} {S : Nat → Prop} {K m : Nat} {xa : Option Addr} {news : List Value} (h : SrcAt w K xa m news) (g : Mdh S w w') (hs : ∀ ad, xa = some ad → ¬ S ad.block) : SrcAt w' K xa m news :=
  ⟨h.1, h.2.1, h.2.2.imp id (fun ⟨ad, e, hc⟩ => ⟨ad, e, fun j u hj => by
    have h0 : (ad.add j).block = ad.block := by unfold Addr.add; split <;> rfl
    have h1 := World.block_lt_of_cell? w _ (hc j u hj)
    exact (World.cell?_of_block (g.blocks _ h1 (by rw [h0]; exact hs ad e))).trans (hc j u hj)⟩)⟩
/-- A whole row, as a source. -/
theorem src_all {w : World} {e : TypeId} {K n cap : Nat} {a : Option Addr} {xs : List Value} (h : Own w e K (.slice a n cap) n xs) (h1 : ∀ u ∈ xs, u.oneCell' = true) : SrcAt w K a n xs := by
  refine ⟨h.1, h1, ?_⟩
  rcases h.2 with ⟨_, h0⟩ | ⟨g, cap', cur, hv, _⟩
  · exact .inl h0
  · simp only [Value.slice.injEq] at hv
    obtain ⟨rfl, _, _⟩ := hv
    exact .inr ⟨_, rfl, h.cells rfl⟩
/-- Its first elements. -/
theorem src_take {w : World} {e : TypeId} {K n cap i : Nat} {a : Option Addr} {xs : List Value} (h : Own w e K (.slice a n cap) n xs) (h1 : ∀ u ∈ xs, u.oneCell' = true) (hi : i ≤ n) : SrcAt w K a i (xs.take (i * K)) := by
  have hl := h.1
  have hm := Nat.mul_le_mul_right K hi
  refine ⟨by rw [List.length_take]; omega, fun u hu => h1 u (List.mem_of_mem_take hu), ?_⟩
  rcases (src_all h h1).2.2 with h0 | ⟨ad, rfl, hc⟩
  · exact .inl (by omega)
  · exact .inr ⟨ad, rfl, fun j u hj => hc j u (by
      rw [List.getElem?_take] at hj
      split at hj
      · exact hj
      · cases hj)⟩
/-- Its last ones. -/
theorem src_drop {w : World} {e : TypeId} {K n cap i : Nat} {a : Option Addr} {xs : List Value} (h : Own w e K (.slice a n cap) n xs) (h1 : ∀ u ∈ xs, u.oneCell' = true) (hi : i ≤ n) (xa : Option Addr) (hxa : ∀ g, a = some ⟨g, 0, none⟩ → i < n → xa = some ⟨g, i * K, none⟩) : SrcAt w K xa (n - i) (xs.drop (i * K)) := by
  have hl := h.1
  refine ⟨by rw [List.length_drop, hl, Nat.sub_mul], fun u hu => h1 u (List.mem_of_mem_drop hu), ?_⟩
  by_cases e0 : i = n
  · exact .inl (by omega)
  · rcases h.2 with ⟨_, h0⟩ | ⟨g, cap', cur, hv, _⟩
    · omega
    · simp only [Value.slice.injEq] at hv
      obtain ⟨rfl, _, _⟩ := hv
      refine .inr ⟨_, hxa g rfl (by omega), fun j u hj => ?_⟩
      rw [List.getElem?_drop] at hj
      have := h.cells (g := g) rfl _ u hj
      rw [addr_add] at this ⊢
      rwa [Nat.zero_add] at this
section
variable {P : Program} (w : World)
theorem run_app_none (t ty e : TypeId) (i : TypeInfo) (size : Nat) (ht : P.underlying t = some (.slice e)) (hi : P.info? e = some i) (_hsize : i.size = size)
    (v : Value) (n : Nat) (xs : List Value) (hown : Own w e size v n xs) (xa : Option Addr) (c : Nat) : (Builtin.append_ #[t, t] ty #[v, .slice xa 0 c]).run P w = .ok v w := by
  rcases hown.2 with ⟨rfl, rfl⟩ | ⟨g, cap, cur, rfl, _, _, hnc, _⟩
  · cases xa <;> simp [Builtin.append_, run_underlying ht, sizeOf, typeInfo, hi, Builtin.firstCells, Builtin.lenOf, loadCells, loadCellsFrom]
  · cases xa <;> simp [Builtin.append_, run_underlying ht, sizeOf, typeInfo, hi, Builtin.firstCells, Builtin.lenOf, storeCells, loadCells, loadCellsFrom, hnc]
theorem run_appv (t ty e : TypeId) (i : TypeInfo) (z : Value) (size bytes : Nat) (ht : P.underlying t = some (.slice e)) (hi : P.info? e = some i) (hz : i.zero = some z)
    (hsize : i.size = size) (hby : i.bytes = bytes) (hzs : z.cells.size = size) (hsz : 0 < size)
    (v : Value) (n : Nat) (xs : List Value) (hown : Own w e size v n xs) (xa : Option Addr) (m c : Nat) (news : List Value) (hsrc : SrcAt w size xa m news) (h63 : n + m ≤ maxLen) (hbytes : (n + m) * bytes ≤ 140737488355328) :
    ∃ v' w', (Builtin.append_ #[t, t] ty #[v, .slice xa m c]).run P w = .ok v' w' ∧ AppV w e size v (n + m) (xs ++ news) v' w' := by
  obtain ⟨hl, h1, hs⟩ := hsrc
  by_cases hm : m = 0
  · subst hm
    obtain rfl : news = [] := List.eq_nil_of_length_eq_zero (by omega)
    exact ⟨v, w, run_app_none w t ty e i size ht hi hsize v n xs hown xa c, by simpa using hown, fun g hg => .inl hg, ⟨rfl, rfl, rfl, Nat.le_refl _, fun _ _ _ => rfl⟩⟩
  · obtain ⟨ad, rfl, hc⟩ := hs.resolve_left hm
    obtain ⟨g, cap, w', hr, h2, h3, h4⟩ := run_app w t ty e i z size bytes ht hi hz hsize hby hzs hsz v n xs hown ad m c news hl hc h1 (by omega) h63 hbytes
    exact ⟨_, w', hr, h2, fun k hk => (by simpa [Value.ownBlock] using hk : g = k) ▸ h3, h4⟩
theorem wp_appv {o : Oper} {a : Act} {K : Act → World → Prop} {Q : Exit → Act → World → Prop} (s x : Operand) (t : TypeId)
    (ho : o.op = .call { callee := .builtin .append, args := #[s, x], argTypes := #[t, t] })
    (e : TypeId) (i : TypeInfo) (z : Value) (size bytes : Nat) (ht : P.underlying t = some (.slice e)) (hi : P.info? e = some i) (hz : i.zero = some z)
    (hsize : i.size = size) (hby : i.bytes = bytes) (hzs : z.cells.size = size) (hsz : 0 < size)
    (v : Value) (n : Nat) (xs : List Value) (hs : a.eval s = v) (hown : Own w e size v n xs)
    (xa : Option Addr) (m c : Nat) (news : List Value) (hx : a.eval x = .slice xa m c) (hsrc : SrcAt w size xa m news) (h63 : n + m ≤ maxLen) (hbytes : (n + m) * bytes ≤ 140737488355328)
    (h : ∀ v' w', AppV w e size v (n + m) (xs ++ news) v' w' → K (a.put o.dst v') w') : o.wp P a w K Q := by
  obtain ⟨v', w', hr, h2⟩ := run_appv (P := P) w t o.type e i z size bytes ht hi hz hsize hby hzs hsz v n xs hown xa m c news hsrc h63 hbytes
  unfold Oper.wp execOp
  simp only [ho, resolve, invoke, builtin, Sem.run_bind, Sem.run_pure, Result.andThen_ok, List.map_toArray, List.map_cons, List.map_nil, hs, hx, hr]
  exact h v' w' h2
theorem wpList_appv {ops : Array Oper} {rest : List Oper} {o : Oper} {a : Act} {Q : Exit → Act → World → Prop} (hgd : o.guard = none) (s x : Operand) (t : TypeId)
    (ho : o.op = .call { callee := .builtin .append, args := #[s, x], argTypes := #[t, t] })
    (e : TypeId) (i : TypeInfo) (z : Value) (size bytes : Nat) (ht : P.underlying t = some (.slice e)) (hi : P.info? e = some i) (hz : i.zero = some z)
    (hsize : i.size = size) (hby : i.bytes = bytes) (hzs : z.cells.size = size) (hsz : 0 < size)
    (v : Value) (n : Nat) (xs : List Value) (hs : a.eval s = v) (hown : Own w e size v n xs)
    (xa : Option Addr) (m c : Nat) (news : List Value) (hx : a.eval x = .slice xa m c) (hsrc : SrcAt w size xa m news) (h63 : n + m ≤ maxLen) (hbytes : (n + m) * bytes ≤ 140737488355328)
    (h : ∀ v' w', AppV w e size v (n + m) (xs ++ news) v' w' → wpList P ops Q rest (a.put o.dst v') w') : wpList P ops Q (o :: rest) a w :=
  wpList_plain hgd fun _ hK => wp_appv w s x t ho e i z size bytes ht hi hz hsize hby hzs hsz v n xs hs hown xa m c news hx hsrc h63 hbytes fun v' w' h2 => hK _ _ (h v' w' h2)
theorem wpIn_appv {F : Fence} {f : Nat} {o : Oper} {a : Act} {K : Act → World → Prop} {Q : Exit → Act → World → Prop} (s x : Operand) (t : TypeId)
    (ho : o.op = .call { callee := .builtin .append, args := #[s, x], argTypes := #[t, t] })
    (e : TypeId) (i : TypeInfo) (z : Value) (size bytes : Nat) (ht : P.underlying t = some (.slice e)) (hi : P.info? e = some i) (hz : i.zero = some z)
    (hsize : i.size = size) (hby : i.bytes = bytes) (hzs : z.cells.size = size) (hsz : 0 < size)
    (v : Value) (n : Nat) (xs : List Value) (hs : a.eval s = v) (hown : Own w e size v n xs)
    (xa : Option Addr) (m c : Nat) (news : List Value) (hx : a.eval x = .slice xa m c) (hsrc : SrcAt w size xa m news) (h63 : n + m ≤ maxLen) (hbytes : (n + m) * bytes ≤ 140737488355328)
    (h : ∀ v' w', AppV w e size v (n + m) (xs ++ news) v' w' → K (a.put o.dst v') w') : o.wpIn F f P a w K Q := by
  obtain ⟨v', w', hr, h2⟩ := run_appv (P := P) w t o.type e i z size bytes ht hi hz hsize hby hzs hsz v n xs hown xa m c news hsrc h63 hbytes
  unfold Oper.wpIn
  refine ⟨?_, ?_⟩
  · simp [Oper.about, ho, resolve, Target.leads, Sem.run_pure]
  · rw [Oper.semAt_plain F _ _ (by rw [ho]; intro c hc'; cases hc')]
    simp only [execOp, ho, resolve, invoke, builtin, Sem.run_bind, Sem.run_pure, Result.andThen_ok, List.map_toArray, List.map_cons, List.map_nil, hs, hx, hr]
    exact h v' w' h2
theorem wpListIn_appv {F : Fence} {f : Nat} {ops : Array Oper} {rest : List Oper} {o : Oper} {a : Act} {Q : Exit → Act → World → Prop} (hgd : o.guard = none) (s x : Operand) (t : TypeId)
    (ho : o.op = .call { callee := .builtin .append, args := #[s, x], argTypes := #[t, t] })
    (e : TypeId) (i : TypeInfo) (z : Value) (size bytes : Nat) (ht : P.underlying t = some (.slice e)) (hi : P.info? e = some i) (hz : i.zero = some z)
    (hsize : i.size = size) (hby : i.bytes = bytes) (hzs : z.cells.size = size) (hsz : 0 < size)
    (v : Value) (n : Nat) (xs : List Value) (hs : a.eval s = v) (hown : Own w e size v n xs)
    (xa : Option Addr) (m c : Nat) (news : List Value) (hx : a.eval x = .slice xa m c) (hsrc : SrcAt w size xa m news) (h63 : n + m ≤ maxLen) (hbytes : (n + m) * bytes ≤ 140737488355328)
    (h : ∀ v' w', AppV w e size v (n + m) (xs ++ news) v' w' → wpListIn F f P ops Q rest (a.put o.dst v') w') : wpListIn F f P ops Q (o :: rest) a w :=
  wpListIn_plain hgd fun _ hK => wpIn_appv w s x t ho e i z size bytes ht hi hz hsize hby hzs hsz v n xs hs hown xa m c news hx hsrc h63 hbytes fun v' w' h2 => hK _ _ (h v' w' h2)
end
/-- Slices of a row of the call's own, whatever its value looks like. -/
theorem slice_take {P : Program} {w : World} {t e : TypeId} {i0 : TypeInfo} (ht : P.underlying t = some (.slice e)) (hi : P.info? e = some i0) {K : Nat} (hs : i0.size = K) {v : Value} {n : Nat} {xs : List Value} (h : Own w e K v n xs) (h1 : ∀ u ∈ xs, u.oneCell' = true) {i : Nat} (hin : i ≤ n) :
    ∃ xa c, (∀ w', (Instr.slice t v none (some (.int .i64 (i : Int))) none).run P w' = .ok (.slice xa i c) w') ∧ SrcAt w K xa i (xs.take (i * K)) ∧ ∀ ad, xa = some ad → v.ownBlock = some ad.block := by
  have he : P.elem t = e := by simp [Program.elem, ht]
  have ht' : P.underlying t = some (.slice (P.elem t)) := by rw [he]; exact ht
  have hz : ∀ w', (sizeOf (P.elem t)).run P w' = .ok K w' := fun w' => by rw [he]; simp [sizeOf, typeInfo, hi, hs]
  rcases h.2 with ⟨rfl, h0⟩ | ⟨g, cap, cur, rfl, _, _, hnc, _⟩
  · obtain rfl : i = 0 := by omega
    refine ⟨none, 0, fun w' => ?_, by simpa using (show SrcAt w K none 0 [] from ⟨by simp, by simp, .inl rfl⟩), fun ad e => by cases e⟩
    rw [run_slice_h w' t none 0 0 ht' .i64 _ (by omega) (by simp), hz]
    simp [Result.andThen, sliced]
  · refine ⟨some ⟨g, 0, none⟩, cap, fun w' => ?_, src_take h h1 hin, fun ad e => by obtain rfl := Option.some.inj e; rfl⟩
    rw [run_slice_h w' t _ n cap ht' .i64 _ (by omega) (by omega), hz]
    simp [Result.andThen, sliced, addr_add]
theorem slice_drop {P : Program} {w : World} {t e : TypeId} {i0 : TypeInfo} (ht : P.underlying t = some (.slice e)) (hi : P.info? e = some i0) {K : Nat} (hs : i0.size = K) {v : Value} {n : Nat} {xs : List Value} (h : Own w e K v n xs) (h1 : ∀ u ∈ xs, u.oneCell' = true) {i : Nat} (hin : i ≤ n) :
    ∃ xa c, (∀ w', (Instr.slice t v (some (.int .i64 (i : Int))) none none).run P w' = .ok (.slice xa (n - i) c) w') ∧ SrcAt w K xa (n - i) (xs.drop (i * K)) ∧ ∀ ad, xa = some ad → v.ownBlock = some ad.block := by
  have he : P.elem t = e := by simp [Program.elem, ht]
  have ht' : P.underlying t = some (.slice (P.elem t)) := by rw [he]; exact ht
  have hz : ∀ w', (sizeOf (P.elem t)).run P w' = .ok K w' := fun w' => by rw [he]; simp [sizeOf, typeInfo, hi, hs]
  rcases h.2 with ⟨rfl, h0⟩ | ⟨g, cap, cur, rfl, _, _, hnc, _⟩
  · obtain rfl : i = 0 := by omega
    have hx : xs = [] := List.eq_nil_of_length_eq_zero (by rw [h.1, h0]; simp)
    refine ⟨none, 0, fun w' => ?_, by subst h0 hx; simpa using (show SrcAt w K none 0 [] from ⟨by simp, by simp, .inl rfl⟩), fun ad e => by cases e⟩
    subst h0
    rw [run_slice_l w' t none 0 0 ht' .i64 _ (by omega) (by simp), hz]
    simp [Result.andThen, sliced]
  · refine ⟨if cap = i then some ⟨g, 0, none⟩ else some ⟨g, i * K, none⟩, cap - i, fun w' => ?_, src_drop h h1 hin _ (fun g' hg' hlt => ?_), fun ad e => ?_⟩
    · rw [run_slice_l w' t _ n cap ht' .i64 _ (by omega) (by omega), hz]
      simp [Result.andThen, sliced, addr_add]
    · obtain rfl : g = g' := by simpa using hg'
      rw [if_neg (by omega)]
    · split at e <;> (obtain rfl := Option.some.inj e; rfl)
theorem src_new (w : World) (x : Value) (t : TypeId) (hx : x.oneCell' = true) : SrcAt (w.alloc (.cells #[x] t)) 1 (some ⟨w.heap.size, 0, none⟩) 1 [x] := by
  refine ⟨rfl, fun u hu => by obtain rfl := List.mem_singleton.1 hu; exact hx, .inr ⟨_, rfl, fun j u hj => ?_⟩⟩
  match j with
  | 0 => simp at hj; subst hj; simp [go_sem, Addr.add]
  | j + 1 => simp at hj
theorem src_newK (w : World) (cs : List Value) (t : TypeId) (K : Nat) (hK : cs.length = K) (hx : ∀ u ∈ cs, u.oneCell' = true) : SrcAt (w.alloc (.cells cs.toArray t)) K (some ⟨w.heap.size, 0, none⟩) 1 cs := by
  refine ⟨by omega, hx, .inr ⟨_, rfl, fun j u hj => ?_⟩⟩
  rw [addr_add, Nat.zero_add, (cellsOf (blkNew w (.cells cs.toArray t))).1 j]
  simpa using hj
theorem own_ne {w : World} {e t : TypeId} {K n b : Nat} {v : Value} {xs : List Value} {cs : Array Value} (h : Own w e K v n xs) (hb : w.heap[b]? = some (.cells cs t)) (hte : t ≠ e) : v.ownBlock ≠ some b := by
  rcases h.2 with ⟨rfl, _⟩ | ⟨g, cap, cur, rfl, _, hg, _⟩
  · intro h; cases h
  · intro h
    obtain rfl : g = b := by simpa [Value.ownBlock] using h
    rw [hg] at hb
    simp only [Option.some.injEq, Obj.cells.injEq] at hb
    exact hte hb.2.1.symm
theorem own_ne2 {w : World} {e e' : TypeId} {K K' n n' : Nat} {v v' : Value} {xs xs' : List Value} (h : Own w e K v n xs) (h' : Own w e' K' v' n' xs') (hte : e ≠ e') : ∀ g, v.ownBlock = some g → v'.ownBlock ≠ some g := by
  intro g hg
  rcases h.2 with ⟨rfl, _⟩ | ⟨g1, cap, cur, rfl, _, hc, _⟩
  · cases hg
  · obtain rfl : g1 = g := Option.some.inj hg
    exact own_ne h' hc hte
theorem own_blk {w : World} {e : TypeId} {K n g : Nat} {v : Value} {xs : List Value} (h : Own w e K v n xs) (hg : v.ownBlock = some g) : ∃ cs, w.heap[g]? = some (.cells cs e) := by
  rcases h.2 with ⟨rfl, _⟩ | ⟨g1, cap, cur, rfl, _, hc, _⟩
  · cases hg
  · obtain rfl : g1 = g := Option.some.inj hg
    exact ⟨cur, hc⟩
theorem ownB {b n c q : Nat} (h : Value.ownBlock (.slice (some ⟨b, 0, none⟩) n c) = some q) : q = b := (Option.some.inj h).symm
/-- A row whose block is new since w0. -/
structure Nw (w0 w : World) (e : TypeId) (K : Nat) (v : Value) (n : Nat) (xs : List Value) : Prop where
  own : Own w e K v n xs
  new : ∀ q, v.ownBlock = some q → w0.heap.size ≤ q
theorem Nw.gr {w0 w w' : World} {e : TypeId} {K n : Nat} {v : Value} {xs : List Value} (h : Nw w0 w e K v n xs) (g : Gr w w') : Nw w0 w' e K v n xs := ⟨h.own.gr g, h.new⟩
theorem Nw.mdh {S : Nat → Prop} {w0 w w' : World} {e : TypeId} {K n : Nat} {v : Value} {xs : List Value} (h : Nw w0 w e K v n xs) (m : Mdh S w w') (hs : ∀ q, v.ownBlock = some q → ¬ S q) : Nw w0 w' e K v n xs := ⟨h.own.mdh m hs, h.new⟩
theorem Nw.made {w0 w : World} {e : TypeId} {K : Nat} (hz : w0.heap.size ≤ w.heap.size) : Nw w0 (w.alloc (.cells #[] e)) e K (.slice (some ⟨w.heap.size, 0, none⟩) 0 0) 0 [] :=
  ⟨Own.ofParts (blkNew w _) (Nat.le_refl _) (by simp [maxLen]) (by simp) (by simp), fun q hq => (by simpa [Value.ownBlock] using hq : w.heap.size = q) ▸ hz⟩
/-- What an append to such a row leaves. -/
theorem AppV.nw {w0 w w' : World} {e : TypeId} {K n m : Nat} {v v' : Value} {xs ys : List Value} (h : AppV w e K v n xs v' w') (hv : Nw w0 w e K v m ys) (hz : w0.heap.size ≤ w.heap.size) : Nw w0 w' e K v' n xs :=
  ⟨h.1, fun q hq => (h.2.1 q hq).elim (hv.new q) (Nat.le_trans hz)⟩
theorem AppV.gw {w0 w w' : World} {e : TypeId} {K n m : Nat} {v v' : Value} {xs ys : List Value} (h : AppV w e K v n xs v' w') (hv : Nw w0 w e K v m ys) (g : Gr w0 w) : Gr w0 w' :=
  g.md ((Mdh.refl _ w).grown h.2.2 (fun _ hr => hr)) hv.new
theorem AppV.mw {S : Nat → Prop} {w0 w w' : World} {e : TypeId} {K n m : Nat} {v v' : Value} {xs ys : List Value} (h : AppV w e K v n xs v' w') (hv : Nw w0 w e K v m ys) (g : Mdh S w0 w) : Mdh S w0 w' :=
  g.then ((Mdh.refl _ w).grown h.2.2 (fun _ hr => hr)) (fun q hq => .inr (hv.new q hq))
theorem AppV.val {w w' : World} {e : TypeId} {K n : Nat} {v v' : Value} {xs : List Value} (h : AppV w e K v n xs v' w') : ∃ a c, v' = .slice a n c := by
  rcases h.1.2 with ⟨rfl, rfl⟩ | ⟨g, cap, cur, rfl, _⟩
  · exact ⟨none, 0, rfl⟩
  · exact ⟨_, cap, rfl⟩
theorem AppV.mdh {w w' : World} {e : TypeId} {size n : Nat} {v v' : Value} {xs : List Value} (h : AppV w e size v n xs v' w') {S : Nat → Prop} (hS : ∀ g, v.ownBlock = some g → S g) : Mdh S w w' :=
  (Mdh.refl _ w).grown h.2.2 hS
end Go.Proofs.Ytiidkehcfoajeaa
