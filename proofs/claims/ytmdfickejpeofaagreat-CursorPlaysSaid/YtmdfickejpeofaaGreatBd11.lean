/- An append of however many elements to a row of the call's own; what a slice of a row is made of. No program in sight. -/
import Derived.Test.YtmdfickejpeofaaGreatBd3
import Derived.Test.YtmdfickejpeofaaGreatBd2
set_option linter.unusedVariables false
set_option linter.unusedSimpArgs false
namespace Go.Proofs.YtmdfickejpeofaaGreat
open Go.RowKit

/-- What is appended: m elements; they lie at xa, where there are any. -/
def SrcAt (w : World) (size : Nat) (xa : Option Addr) (m : Nat) (news : List Value) : Prop :=
  news.length = m * size ∧ (∀ u ∈ news, u.oneCell' = true) ∧ (m = 0 ∨ ∃ ad, xa = some ad ∧ ∀ j u, news[j]? = some u → w.cell? (ad.add j) = some u)
/-- What an append leaves. -/
def AppV (w : World) (e : TypeId) (size : Nat) (v : Value) (n : Nat) (xs : List Value) (v' : Value) (w' : World) : Prop :=
  Own w' e size v' n xs ∧ (∀ g, v'.ownBlock = some g → v.ownBlock = some g ∨ w.heap.size ≤ g) ∧ w.grownBy w' v.ownBlock
theorem addr_add (b o j : Nat) : (⟨b, o, none⟩ : Addr).add j = ⟨b, o + j, none⟩ := by unfold Addr.add; split <;> simp_all
theorem keepAdd {w w' : World} {S : Nat → Prop} (m : Mdh S w w') {b o j : Nat} {u : Value} (h : w.cell? ((⟨b, o, none⟩ : Addr).add j) = some u) (hs : ¬ S b) : w'.cell? ((⟨b, o, none⟩ : Addr).add j) = some u := by
  rw [addr_add] at h ⊢
  exact m.keep h hs
theorem SrcAt.gr {w w' : World} {K m : Nat} {xa : Option Addr} {news : List Value} (h : SrcAt w K xa m news) (g : Gr w w') : SrcAt w' K xa m news :=
  ⟨h.1, h.2.1, h.2.2.imp id (fun ⟨ad, e, hc⟩ => ⟨ad, e, fun j u hj => (World.cell?_of_block (Below.block g _ (World.block_lt_of_cell? w _ (hc j u hj)))).trans (hc j u hj)⟩)⟩
theorem SrcAt.mdh {w w' : World} {S : Nat → Prop} {K m : Nat} {xa : Option Addr} {news : List Value} (h : SrcAt w K xa m news) (g : Mdh S w w') (hs : ∀ ad, xa = some ad → ¬ S ad.block) : SrcAt w' K xa m news :=
  ⟨h.1, h.2.1, h.2.2.imp id (fun ⟨ad, e, hc⟩ => ⟨ad, e, fun j u hj => by
    have h0 : (ad.add j).block = ad.block := by unfold Addr.add; split <;> rfl
    have h1 := World.block_lt_of_cell? w _ (hc j u hj)
    exact (World.cell?_of_block (g.blocks _ h1 (by rw [h0]; exact hs ad e))).trans (hc j u hj)⟩)⟩
/-- A whole row, as a source. -/
theorem src_all {w : World} {e : TypeId} {K n cap : Nat} {a : Option Addr} {xs : List Value} (h : Own w e K (.slice a n cap) n xs) (h1 : ∀ u ∈ xs, u.oneCell' = true) : SrcAt w K a n xs := by
  refine ⟨h.1, h1, ?_⟩
  rcases h.2 with ⟨_, h0⟩ | ⟨g, cap', cur, hv, _⟩
  · exact .inl h0
  · simp only [Value.slice.injEq] at hv
    obtain ⟨rfl, _, _⟩ := hv
    exact .inr ⟨_, rfl, h.cells rfl⟩
/-- Its first elements. -/
theorem src_take {w : World} {e : TypeId} {K n cap i : Nat} {a : Option Addr} {xs : List Value} (h : Own w e K (.slice a n cap) n xs) (h1 : ∀ u ∈ xs, u.oneCell' = true) (hi : i ≤ n) : SrcAt w K a i (xs.take (i * K)) := by
  have hl := h.1
  have hm := Nat.mul_le_mul_right K hi
  refine ⟨by rw [List.length_take]; omega, fun u hu => h1 u (List.mem_of_mem_take hu), ?_⟩
  rcases (src_all h h1).2.2 with h0 | ⟨ad, rfl, hc⟩
  · exact .inl (by omega)
  · exact .inr ⟨ad, rfl, fun j u hj => hc j u (by
      rw [List.getElem?_take] at hj
      split at hj
      · exact hj
      · cases hj)⟩
/-- Its last ones. -/
theorem src_drop {w : World} {e : TypeId} {K n cap i : Nat} {a : Option Addr} {xs : List Value} (h : Own w e K (.slice a n cap) n xs) (h1 : ∀ u ∈ xs, u.oneCell' = true) (hi : i ≤ n) (xa : Option Addr) (hxa : ∀ g, a = some ⟨g, 0, none⟩ → i < n → xa = some ⟨g, i * K, none⟩) : SrcAt w K xa (n - i) (xs.drop (i * K)) := by
  have hl := h.1
  refine ⟨by rw [List.length_drop, hl, Nat.sub_mul], fun u hu => h1 u (List.mem_of_mem_drop hu), ?_⟩
  by_cases e0 : i = n
  · exact .inl (by omega)
  · rcases h.2 with ⟨_, h0⟩ | ⟨g, cap', cur, hv, _⟩
    · omega
    · simp only [Value.slice.injEq] at hv
      obtain ⟨rfl, _, _⟩ := hv
      refine .inr ⟨_, hxa g rfl (by omega), fun j u hj => ?_⟩
      rw [List.getElem?_drop] at hj
      have := h.cells (g := g) rfl _ u hj
      rw [addr_add] at this ⊢
      rwa [Nat.zero_add] at this
section
variable {P : Program} (w : World)
theorem run_app_none (t ty e : TypeId) (i : TypeInfo) (size : Nat) (ht : P.underlying t = some (.slice e)) (hi : P.info? e = some i) (_hsize : i.size = size)
    (v : Value) (n : Nat) (xs : List Value) (hown : Own w e size v n xs) (xa : Option Addr) (c : Nat) : (Builtin.append_ #[t, t] ty #[v, .slice xa 0 c]).run P w = .ok v w := by
  rcases hown.2 with ⟨rfl, rfl⟩ | ⟨g, cap, cur, rfl, _, _, hnc, _⟩
  · cases xa <;> simp [Builtin.append_, run_underlying ht, sizeOf, typeInfo, hi, Builtin.firstCells, Builtin.lenOf, loadCells, loadCellsFrom]
  · cases xa <;> simp [Builtin.append_, run_underlying ht, sizeOf, typeInfo, hi, Builtin.firstCells, Builtin.lenOf, storeCells, loadCells, loadCellsFrom, hnc]
theorem run_appv (t ty e : TypeId) (i : TypeInfo) (z : Value) (size bytes : Nat) (ht : P.underlying t = some (.slice e)) (hi : P.info? e = some i) (hz : i.zero = some z)
    (hsize : i.size = size) (hby : i.bytes = bytes) (hzs : z.cells.size = size) (hsz : 0 < size)
    (v : Value) (n : Nat) (xs : List Value) (hown : Own w e size v n xs) (xa : Option Addr) (m c : Nat) (news : List Value) (hsrc : SrcAt w size xa m news) (h63 : n + m ≤ maxLen) (hbytes : (n + m) * bytes ≤ 140737488355328) :
    ∃ v' w', (Builtin.append_ #[t, t] ty #[v, .slice xa m c]).run P w = .ok v' w' ∧ AppV w e size v (n + m) (xs ++ news) v' w' := by
  obtain ⟨hl, h1, hs⟩ := hsrc
  by_cases hm : m = 0
  · subst hm
    obtain rfl : news = [] := List.eq_nil_of_length_eq_zero (by omega)
    exact ⟨v, w, run_app_none w t ty e i size ht hi hsize v n xs hown xa c, by simpa using hown, fun g hg => .inl hg, ⟨rfl, rfl, rfl, Nat.le_refl _, fun _ _ _ => rfl⟩⟩
  · obtain ⟨ad, rfl, hc⟩ := hs.resolve_left hm
    obtain ⟨g, cap, w', hr, h2, h3, h4⟩ := run_app w t ty e i z size bytes ht hi hz hsize hby hzs hsz v n xs hown ad m c news hl hc h1 (by omega) h63 hbytes
    exact ⟨_, w', hr, h2, fun k hk => (by simpa [Value.ownBlock] using hk : g = k) ▸ h3, h4⟩
theorem wp_appv {o : Oper} {a : Act} {K : Act → World → Prop} {Q : Exit → Act → World → Prop} (s x : Operand) (t : TypeId)
    (ho : o.op = .call { callee := .builtin .append, args := #[s, x], argTypes := #[t, t] })
    (e : TypeId) (i : TypeInfo) (z : Value) (size bytes : Nat) (ht : P.underlying t = some (.slice e)) (hi : P.info? e = some i) (hz : i.zero = some z)
    (hsize : i.size = size) (hby : i.bytes = bytes) (hzs : z.cells.size = size) (hsz : 0 < size)
    (v : Value) (n : Nat) (xs : List Value) (hs : a.eval s = v) (hown : Own w e size v n xs)
    (xa : Option Addr) (m c : Nat) (news : List Value) (hx : a.eval x = .slice xa m c) (hsrc : SrcAt w size xa m news) (h63 : n + m ≤ maxLen) (hbytes : (n + m) * bytes ≤ 140737488355328)
    (h : ∀ v' w', AppV w e size v (n + m) (xs ++ news) v' w' → K (a.put o.dst v') w') : o.wp P a w K Q := by
  obtain ⟨v', w', hr, h2⟩ := run_appv (P := P) w t o.type e i z size bytes ht hi hz hsize hby hzs hsz v n xs hown xa m c news hsrc h63 hbytes
  unfold Oper.wp execOp
  simp only [ho, resolve, invoke, builtin, Sem.run_bind, Sem.run_pure, Result.andThen_ok, List.map_toArray, List.map_cons, List.map_nil, hs, hx, hr]
  exact h v' w' h2
theorem wpList_appv {ops : Array Oper} {rest : List Oper} {o : Oper} {a : Act} {Q : Exit → Act → World → Prop} (hgd : o.guard = none) (s x : Operand) (t : TypeId)
    (ho : o.op = .call { callee := .builtin .append, args := #[s, x], argTypes := #[t, t] })
    (e : TypeId) (i : TypeInfo) (z : Value) (size bytes : Nat) (ht : P.underlying t = some (.slice e)) (hi : P.info? e = some i) (hz : i.zero = some z)
    (hsize : i.size = size) (hby : i.bytes = bytes) (hzs : z.cells.size = size) (hsz : 0 < size)
    (v : Value) (n : Nat) (xs : List Value) (hs : a.eval s = v) (hown : Own w e size v n xs)
    (xa : Option Addr) (m c : Nat) (news : List Value) (hx : a.eval x = .slice xa m c) (hsrc : SrcAt w size xa m news) (h63 : n + m ≤ maxLen) (hbytes : (n + m) * bytes ≤ 140737488355328)
    (h : ∀ v' w', AppV w e size v (n + m) (xs ++ news) v' w' → wpList P ops Q rest (a.put o.dst v') w') : wpList P ops Q (o :: rest) a w :=
  wpList_plain hgd fun _ hK => wp_appv w s x t ho e i z size bytes ht hi hz hsize hby hzs hsz v n xs hs hown xa m c news hx hsrc h63 hbytes fun v' w' h2 => hK _ _ (h v' w' h2)
theorem wpIn_appv {F : Fence} {f : Nat} {o : Oper} {a : Act} {K : Act → World → Prop} {Q : Exit → Act → World → Prop} (s x : Operand) (t : TypeId)
    (ho : o.op = .call { callee := .builtin .append, args := #[s, x], argTypes := #[t, t] })
    (e : TypeId) (i : TypeInfo) (z : Value) (size bytes : Nat) (ht : P.underlying t = some (.slice e)) (hi : P.info? e = some i) (hz : i.zero = some z)
    (hsize : i.size = size) (hby : i.bytes = bytes) (hzs : z.cells.size = size) (hsz : 0 < size)
    (v : Value) (n : Nat) (xs : List Value) (hs : a.eval s = v) (hown : Own w e size v n xs)
    (xa : Option Addr) (m c : Nat) (news : List Value) (hx : a.eval x = .slice xa m c) (hsrc : SrcAt w size xa m news) (h63 : n + m ≤ maxLen) (hbytes : (n + m) * bytes ≤ 140737488355328)
    (h : ∀ v' w', AppV w e size v (n + m) (xs ++ news) v' w' → K (a.put o.dst v') w') : o.wpIn F f P a w K Q := by
  obtain ⟨v', w', hr, h2⟩ := run_appv (P := P) w t o.type e i z size bytes ht hi hz hsize hby hzs hsz v n xs hown xa m c news hsrc h63 hbytes
  unfold Oper.wpIn
  refine ⟨?_, ?_⟩
  · simp [Oper.about, ho, resolve, Target.leads, Sem.run_pure]
  · rw [Oper.semAt_plain F _ _ (by rw [ho]; intro c hc'; cases hc')]
    simp only [execOp, ho, resolve, invoke, builtin, Sem.run_bind, Sem.run_pure, Result.andThen_ok, List.map_toArray, List.map_cons, List.map_nil, hs, hx, hr]
    exact h v' w' h2
theorem wpListIn_appv {F : Fence} {f : Nat} {ops : Array Oper} {rest : List Oper} {o : Oper} {a : Act} {Q : Exit → Act → World → Prop} (hgd : o.guard = none) (s x : Operand) (t : TypeId)
    (ho : o.op = .call { callee := .builtin .append, args := #[s, x], argTypes := #[t, t] })
    (e : TypeId) (i : TypeInfo) (z : Value) (size bytes : Nat) (ht : P.underlying t = some (.slice e)) (hi : P.info? e = some i) (hz : i.zero = some z)
    (hsize : i.size = size) (hby : i.bytes = bytes) (hzs : z.cells.size = size) (hsz : 0 < size)
    (v : Value) (n : Nat) (xs : List Value) (hs : a.eval s = v) (hown : Own w e size v n xs)
    (xa : Option Addr) (m c : Nat) (news : List Value) (hx : a.eval x = .slice xa m c) (hsrc : SrcAt w size xa m news) (h63 : n + m ≤ maxLen) (hbytes : (n + m) * bytes ≤ 140737488355328)
    (h : ∀ v' w', AppV w e size v (n + m) (xs ++ news) v' w' → wpListIn F f P ops Q rest (a.put o.dst v') w') : wpListIn F f P ops Q (o :: rest) a w :=
  wpListIn_plain hgd fun _ hK => wpIn_appv w s x t ho e i z size bytes ht hi hz hsize hby hzs hsz v n xs hs hown xa m c news hx hsrc h63 hbytes fun v' w' h2 => hK _ _ (h v' w' h2)
end
/-- Slices of a row of the call's own, whatever its value looks like. -/
theorem slice_take {P : Program} {w : World} {t e : TypeId} {i0 : TypeInfo} (ht : P.underlying t = some (.slice e)) (hi : P.info? e = some i0) {K : Nat} (hs : i0.size = K) {v : Value} {n : Nat} {xs : List Value} (h : Own w e K v n xs) (h1 : ∀ u ∈ xs, u.oneCell' = true) {i : Nat} (hin : i ≤ n) :
    ∃ xa c, (∀ w', (Instr.slice t v none (some (.int .i64 (i : Int))) none).run P w' = .ok (.slice xa i c) w') ∧ SrcAt w K xa i (xs.take (i * K)) ∧ ∀ ad, xa = some ad → v.ownBlock = some ad.block := by
  have he : P.elem t = e := by simp [Program.elem, ht]
  have ht' : P.underlying t = some (.slice (P.elem t)) := by rw [he]; exact ht
  have hz : ∀ w', (sizeOf (P.elem t)).run P w' = .ok K w' := fun w' => by rw [he]; simp [sizeOf, typeInfo, hi, hs]
  rcases h.2 with ⟨rfl, h0⟩ | ⟨g, cap, cur, rfl, _, _, hnc, _⟩
  · obtain rfl : i = 0 := by omega
    refine ⟨none, 0, fun w' => ?_, by simpa using (show SrcAt w K none 0 [] from ⟨by simp, by simp, .inl rfl⟩), fun ad e => by cases e⟩
    rw [run_slice_h w' t none 0 0 ht' .i64 _ (by omega) (by simp), hz]
    simp [Result.andThen, sliced]
  · refine ⟨some ⟨g, 0, none⟩, cap, fun w' => ?_, src_take h h1 hin, fun ad e => by obtain rfl := Option.some.inj e; rfl⟩
    rw [run_slice_h w' t _ n cap ht' .i64 _ (by omega) (by omega), hz]
    simp [Result.andThen, sliced, addr_add]
theorem slice_drop {P : Program} {w : World} {t e : TypeId} {i0 : TypeInfo} (ht : P.underlying t = some (.slice e)) (hi : P.info? e = some i0) {K : Nat} (hs : i0.size = K) {v : Value} {n : Nat} {xs : List Value} (h : Own w e K v n xs) (h1 : ∀ u ∈ xs, u.oneCell' = true) {i : Nat} (hin : i ≤ n) :
    ∃ xa c, (∀ w', (Instr.slice t v (some (.int .i64 (i : Int))) none none).run P w' = .ok (.slice xa (n - i) c) w') ∧ SrcAt w K xa (n - i) (xs.drop (i * K)) ∧ ∀ ad, xa = some ad → v.ownBlock = some ad.block := by
  have he : P.elem t = e := by simp [Program.elem, ht]
  have ht' : P.underlying t = some (.slice (P.elem t)) := by rw [he]; exact ht
  have hz : ∀ w', (sizeOf (P.elem t)).run P w' = .ok K w' := fun w' => by rw [he]; simp [sizeOf, typeInfo, hi, hs]
  rcases h.2 with ⟨rfl, h0⟩ | ⟨g, cap, cur, rfl, _, _, hnc, _⟩
  · obtain rfl : i = 0 := by omega
    have hx : xs = [] := List.eq_nil_of_length_eq_zero (by rw [h.1, h0]; simp)
    refine ⟨none, 0, fun w' => ?_, by subst h0 hx; simpa using (show SrcAt w K none 0 [] from ⟨by simp, by simp, .inl rfl⟩), fun ad e => by cases e⟩
    subst h0
    rw [run_slice_l w' t none 0 0 ht' .i64 _ (by omega) (by simp), hz]
    simp [Result.andThen, sliced]
  · refine ⟨if cap = i then some ⟨g, 0, none⟩ else some ⟨g, i * K, none⟩, cap - i, fun w' => ?_, src_drop h h1 hin _ (fun g' hg' hlt => ?_), fun ad e => ?_⟩
    · rw [run_slice_l w' t _ n cap ht' .i64 _ (by omega) (by omega), hz]
      simp [Result.andThen, sliced, addr_add]
    · obtain rfl : g = g' := by simpa using hg'
      rw [if_neg (by omega)]
    · split at e <;> (obtain rfl := Option.some.inj e; rfl)
theorem src_new (w : World) (x : Value) (t : TypeId) (hx : x.oneCell' = true) : SrcAt (w.alloc (.cells #[x] t)) 1 (some ⟨w.heap.size, 0, none⟩) 1 [x] := by
  refine ⟨rfl, fun u hu => by obtain rfl := List.mem_singleton.1 hu; exact hx, .inr ⟨_, rfl, fun j u hj => ?_⟩⟩
  match j with
  | 0 => simp at hj; subst hj; simp [go_sem, Addr.add]
  | j + 1 => simp at hj
theorem src_newK (w : World) (cs : List Value) (t : TypeId) (K : Nat) (hK : cs.length = K) (hx : ∀ u ∈ cs, u.oneCell' = true) : SrcAt (w.alloc (.cells cs.toArray t)) K (some ⟨w.heap.size, 0, none⟩) 1 cs := by
  refine ⟨by omega, hx, .inr ⟨_, rfl, fun j u hj => ?_⟩⟩
  rw [addr_add, Nat.zero_add, (cellsOf (blkNew w (.cells cs.toArray t))).1 j]
  simpa using hj
theorem own_ne {w : World} {e t : TypeId} {K n b : Nat} {v : Value} {xs : List Value} {cs : Array Value} (h : Own w e K v n xs) (hb : w.heap[b]? = some (.cells cs t)) (hte : t ≠ e) : v.ownBlock ≠ some b := by
  rcases h.2 with ⟨rfl, _⟩ | ⟨g, cap, cur, rfl, _, hg, _⟩
  · intro h; cases h
  · intro h
    obtain rfl : g = b := by simpa [Value.ownBlock] using h
    rw [hg] at hb
    simp only [Option.some.injEq, Obj.cells.injEq] at hb
    exact hte hb.2.1.symm
theorem own_ne2 {w : World} {e e' : TypeId} {K K' n n' : Nat} {v v' : Value} {xs xs' : List Value} (h : Own w e K v n xs) (h' : Own w e' K' v' n' xs') (hte : e ≠ e') : ∀ g, v.ownBlock = some g → v'.ownBlock ≠ some g := by
  intro g hg
  rcases h.2 with ⟨rfl, _⟩ | ⟨g1, cap, cur, rfl, _, hc, _⟩
  · cases hg
  · obtain rfl : g1 = g := Option.some.inj hg
    exact own_ne h' hc hte
theorem own_blk {w : World} {e : TypeId} {K n g : Nat} {v : Value} {xs : List Value} (h : Own w e K v n xs) (hg : v.ownBlock = some g) : ∃ cs, w.heap[g]? = some (.cells cs e) := by
  rcases h.2 with ⟨rfl, _⟩ | ⟨g1, cap, cur, rfl, _, hc, _⟩
  · cases hg
  · obtain rfl : g1 = g := Option.some.inj hg
    exact ⟨cur, hc⟩
theorem ownB {b n c q : Nat} (h : Value.ownBlock (.slice (some ⟨b, 0, none⟩) n c) = some q) : q = b := (Option.some.inj h).symm
/-- A row whose block is new since w0. -/
structure Nw (w0 w : World) (e : TypeId) (K : Nat) (v : Value) (n : Nat) (xs : List Value) : Prop where
  own : Own w e K v n xs
  new : ∀ q, v.ownBlock = some q → w0.heap.size ≤ q
theorem Nw.gr {w0 w w' : World} {e : TypeId} {K n : Nat} {v : Value} {xs : List Value} (h : Nw w0 w e K v n xs) (g : Gr w w') : Nw w0 w' e K v n xs := ⟨h.own.gr g, h.new⟩
theorem Nw.mdh {S : Nat → Prop} {w0 w w' : World} {e : TypeId} {K n : Nat} {v : Value} {xs : List Value} (h : Nw w0 w e K v n xs) (m : Mdh S w w') (hs : ∀ q, v.ownBlock = some q → ¬ S q) : Nw w0 w' e K v n xs := ⟨h.own.mdh m hs, h.new⟩
theorem Nw.made {w0 w : World} {e : TypeId} {K : Nat} (hz : w0.heap.size ≤ w.heap.size) : Nw w0 (w.alloc (.cells #[] e)) e K (.slice (some ⟨w.heap.size, 0, none⟩) 0 0) 0 [] :=
  ⟨Own.ofParts (blkNew w _) (Nat.le_refl _) (by simp [maxLen]) (by simp) (by simp), fun q hq => (by simpa [Value.ownBlock] using hq : w.heap.size = q) ▸ hz⟩
/-- What an append to such a row leaves. -/
theorem AppV.nw {w0 w w' : World} {e : TypeId} {K n m : Nat} {v v' : Value} {xs ys : List Value} (h : AppV w e K v n xs v' w') (hv : Nw w0 w e K v m ys) (hz : w0.heap.size ≤ w.heap.size) : Nw w0 w' e K v' n xs :=
  ⟨h.1, fun q hq => (h.2.1 q hq).elim (hv.new q) (Nat.le_trans hz)⟩
theorem AppV.gw {w0 w w' : World} {e : TypeId} {K n m : Nat} {v v' : Value} {xs ys : List Value} (h : AppV w e K v n xs v' w') (hv : Nw w0 w e K v m ys) (g : Gr w0 w) : Gr w0 w' :=
  g.md ((Mdh.refl _ w).grown h.2.2 (fun _ hr => hr)) hv.new
theorem AppV.mw {S : Nat → Prop} {w0 w w' : World} {e : TypeId} {K n m : Nat} {v v' : Value} {xs ys : List Value} (h : AppV w e K v n xs v' w') (hv : Nw w0 w e K v m ys) (g : Mdh S w0 w) : Mdh S w0 w' :=
  g.then ((Mdh.refl _ w).grown h.2.2 (fun _ hr => hr)) (fun q hq => .inr (hv.new q hq))
theorem AppV.val {w w' : World} {e : TypeId} {K n : Nat} {v v' : Value} {xs : List Value} (h : AppV w e K v n xs v' w') : ∃ a c, v' = .slice a n c := by
  rcases h.1.2 with ⟨rfl, rfl⟩ | ⟨g, cap, cur, rfl, _⟩
  · exact ⟨none, 0, rfl⟩
  · exact ⟨_, cap, rfl⟩
theorem AppV.mdh {w w' : World} {e : TypeId} {size n : Nat} {v v' : Value} {xs : List Value} (h : AppV w e size v n xs v' w') {S : Nat → Prop} (hS : ∀ g, v.ownBlock = some g → S g) : Mdh S w w' :=
  (Mdh.refl _ w).grown h.2.2 hS
end Go.Proofs.YtmdfickejpeofaaGreat

/-
  A region that draws its order, of which the last operations each wait for all ahead of them: the first ones are walked as a
  region that draws, the last ones one by one. No program in sight.
-/
set_option linter.unusedVariables false
set_option linter.unusedSimpArgs false
namespace Go.Proofs.YtmdfickejpeofaaGreat
open Go.RowKit

/-- In a list of operations: each waits for earlier ones alone; from the k-th on each waits for all ahead of it; no guards. -/
def tailB (l : List Oper) (k : Nat) : Bool :=
  l.all (fun o => o.guard.isNone) &&
  (List.range l.length).all (fun i => ((l[i]?).map fun o => o.after.all fun e => !Region.binds .any e || decide (e.on < i)).getD true) &&
  (List.range l.length).all (fun i => decide (i < k) || (List.range i).all fun j => reachB l.toArray 6 j i)

def listedAt (n i : Nat) : Array Bool := ((List.range n).map fun j => decide (j < i)).toArray
theorem listedAt_get (n i j : Nat) (d : Bool) (hj : j < n) : (listedAt n i).getD j d = decide (j < i) := by
  simp [listedAt, hj]
theorem listedAt_out (n i j : Nat) (d : Bool) (hj : n ≤ j) : (listedAt n i).getD j d = d := by
  simp [listedAt, Nat.not_lt.2 hj]
theorem listedAt_set (n i : Nat) (_hi : i < n) : (listedAt n i).setIfInBounds i true = listedAt n (i + 1) := by
  apply Array.ext
  · simp [listedAt]
  · intro j h1 h2
    simp only [listedAt, Array.size_setIfInBounds, List.size_toArray, List.length_map, List.length_range] at h1 h2
    simp [listedAt, Array.getElem_setIfInBounds, h2]
    by_cases h : i = j <;> simp [h] <;> omega

theorem wanted_none {o : Oper} (h : o.guard = none) (f : Nat → Option Bool) : Region.wanted o f = true := by simp [Region.wanted, h]

/-- What is left is what the first operations leave it to. -/
def thenQ (Q : Exit → Act → World → Prop) (T : Act → World → Prop) : Exit → Act → World → Prop
  | .normal, a, w => T a w
  | e, a, w => Q e a w

section
variable {P : Program} {l : List Oper} {k : Nat} {Q : Exit → Act → World → Prop}
theorem tail_parts (h : tailB l k = true) : (∀ o ∈ l, o.guard = none) ∧ (∀ i o, l[i]? = some o → ∀ e ∈ o.after, Region.binds .any e = true → e.on < i) ∧ ∀ i o, l[i]? = some o → k ≤ i → ∀ j < i, reachB l.toArray 6 j i = true := by
  simp only [tailB, Bool.and_eq_true, List.all_eq_true, List.mem_range] at h
  obtain ⟨⟨h1, h2⟩, h3⟩ := h
  refine ⟨fun o ho => by simpa using h1 o ho, fun i o ho e he hb => ?_, fun i o ho hk j hj => ?_⟩
  · have := h2 i (List.getElem?_eq_some_iff.1 ho).1
    simp only [ho, Option.map_some, Option.getD_some, Array.all_eq_true'] at this
    have := this e he
    simp only [hb, Bool.not_true, Bool.false_or, decide_eq_true_eq] at this
    exact this
  · have := h3 i (List.getElem?_eq_some_iff.1 ho).1
    simp only [Bool.or_eq_true, decide_eq_true_eq, Nat.not_lt.2 hk, false_or, List.all_eq_true, List.mem_range] at this
    exact this j hj

theorem listedAt_closed (h : tailB l k = true) (i : Nat) (hi : i < l.length) : Closed l.toArray (listedAt l.length i) := by
  obtain ⟨_, h2, _⟩ := tail_parts h
  intro j o ho hl e he hb
  have ho' : l[j]? = some o := by simpa using ho
  have hj := (List.getElem?_eq_some_iff.1 ho').1
  have := h2 j o ho' e he hb
  rw [listedAt_get _ _ _ _ hj] at hl
  rw [listedAt_get _ _ _ _ (by omega)]
  simp at hl ⊢
  omega
theorem ready_at (h : tailB l k = true) {i : Nat} (hk : k ≤ i) (hi : i < l.length) : ∀ j, j ∈ Region.ready .any l.toArray (listedAt l.length i) ↔ j = i := by
  obtain ⟨_, h2, h3⟩ := tail_parts h
  intro j
  rw [mem_ready]
  constructor
  · rintro ⟨hun, o, ho, hall⟩
    have ho' : l[j]? = some o := by simpa using ho
    have hj := (List.getElem?_eq_some_iff.1 ho').1
    rw [listedAt_get _ _ _ _ hj] at hun
    have hij : i ≤ j := by simpa using hun
    rcases Nat.lt_or_ge i j with hlt | hge
    · have := reach_listed (listedAt_closed h i hi) 6 i j o ho hall (h3 j o ho' (by omega) i hlt)
      rw [listedAt_get _ _ _ _ hi] at this
      simp at this
    · omega
  · rintro rfl
    refine ⟨by rw [listedAt_get _ _ _ _ hi]; simp, l[j], by simp [hi], fun e he hb => ?_⟩
    have := h2 j l[j] (List.getElem?_eq_getElem hi) e he hb
    rw [listedAt_get _ _ _ _ (by omega)]
    simpa using this
theorem ready_end (n : Nat) (ops : Array Oper) (hn : ops.size = n) : Region.ready .any ops (listedAt n n) = [] := by
  refine List.eq_nil_iff_forall_not_mem.2 fun i hi => ?_
  obtain ⟨h0, o, ho, _⟩ := mem_ready.1 hi
  have := (Array.getElem?_eq_some_iff.1 ho).1
  rw [listedAt_get _ _ _ _ (by omega)] at h0
  simp at h0
  omega
theorem least {p : Nat → Prop} : ∀ N, (∃ i, i < N ∧ p i) → ∃ i, i < N ∧ p i ∧ ∀ j < i, ¬ p j := by
  intro N
  induction N with
  | zero => rintro ⟨i, h, _⟩; omega
  | succ N ih =>
    rintro ⟨i, hi, hp⟩
    by_cases h : ∃ i, i < N ∧ p i
    · obtain ⟨j, h1, h2⟩ := ih h
      exact ⟨j, by omega, h2⟩
    · refine ⟨i, hi, hp, fun j hj hpj => h ⟨j, by omega, hpj⟩⟩

/-- How the list of those that are done goes on. -/
def ext (listed : Array Bool) (n : Nat) : Array Bool := listed ++ Array.replicate n false
theorem ext_lt {listed : Array Bool} {n j : Nat} {d : Bool} (h : j < listed.size) : (ext listed n).getD j d = listed.getD j d := by
  simp [ext, Array.getD_eq_getD_getElem?, Array.getElem?_append_left h]
theorem ext_ge {listed : Array Bool} {n j : Nat} {d : Bool} (h : listed.size ≤ j) (h2 : j < listed.size + n) : (ext listed n).getD j d = false := by
  have : (Array.replicate n false)[j - listed.size]? = some false := by rw [Array.getElem?_eq_getElem (by simp; omega)]; simp
  simp [ext, Array.getD_eq_getD_getElem?, Array.getElem?_append_right h, this]
theorem ext_set {listed : Array Bool} {n i : Nat} (h : i < listed.size) : (ext listed n).setIfInBounds i true = ext (listed.setIfInBounds i true) n := by
  simp [ext, Array.setIfInBounds_append_left, h]
theorem ext_full {listed : Array Bool} {n m : Nat} (hs : listed.size = m) (h : ∀ i < m, listed.getD i true = true) : ext listed n = listedAt (m + n) m := by
  apply Array.ext
  · simp [ext, listedAt, hs]
  · intro j h1 h2
    have e1 : (ext listed n).getD j true = (listedAt (m + n) m).getD j true := by
      have hj : j < m + n := by simpa [listedAt] using h2
      rw [listedAt_get _ _ _ _ hj]
      by_cases hjm : j < m
      · rw [ext_lt (by omega), h j hjm]; simp [hjm]
      · rw [ext_ge (by omega) (by omega)]; simp [hjm]
    simpa [Array.getD_eq_getD_getElem?, Array.getElem?_eq_getElem h1, Array.getElem?_eq_getElem h2] using e1
end

section
variable {F : Fence} {n : Nat} {P : Program} {l : List Oper} {k : Nat} {Q : Exit → Act → World → Prop}
theorem wpIn_thenQ {o : Oper} {a : Act} {w : World} {K K' : Act → World → Prop} {T : Act → World → Prop} (hk : ∀ a w, K a w → K' a w) (h : o.wpIn F n P a w K (thenQ Q T)) : o.wpIn F n P a w K' Q := by
  have h := Oper.wpIn_mono hk h
  unfold Oper.wpIn at h ⊢
  refine ⟨h.1, ?_⟩
  have h := h.2
  generalize (o.semAt F.round a.eval).run P w = r at h ⊢
  cases r with
  | ok x w' => cases x <;> exact h
  | halt x w' => cases x <;> exact h
theorem anyIn_tail (h : tailB l k = true) : ∀ m i a w, i + m = l.length → k ≤ i → wpListIn F n P l.toArray Q (l.drop i) a w → wpAnyIn F n P .any l.toArray Q m (listedAt l.length i) a w := by
  obtain ⟨h1, _, _⟩ := tail_parts h
  intro m
  induction m with
  | zero =>
    intro i a w hi _ hw
    obtain rfl : i = l.length := by omega
    rw [List.drop_length] at hw
    exact ⟨ready_end _ _ (by simp), hw⟩
  | succ m ih =>
    intro i a w hi hk hw
    have hlt : i < l.length := by omega
    have hr := ready_at h hk hlt
    rw [List.drop_eq_getElem_cons hlt] at hw
    simp only [wpListIn, wanted_none (h1 _ (List.getElem_mem hlt)), if_true] at hw
    refine ⟨fun h0 => absurd ((hr i).2 rfl) (by simp [h0]), fun j hj => ?_⟩
    obtain rfl := (hr j).1 hj
    unfold wpOpIn
    simp only [List.getElem?_toArray, List.getElem?_eq_getElem hlt, wanted_none (h1 _ (List.getElem_mem hlt)), if_true]
    refine Oper.wpIn_mono (fun a' w' hw' => ?_) hw
    rw [listedAt_set _ _ hlt]
    exact ih (j + 1) a' w' (by omega) (by omega) hw'
theorem anyIn_cut (l1 l2 : List Oper) (h : tailB (l1 ++ l2) l1.length = true) : ∀ m (listed : Array Bool) (a : Act) (w : World), listed.size = l1.length → (∀ j, j < l1.length → listed.getD j true = false → 0 < m) →
    wpAnyIn F n P .any l1.toArray (thenQ Q (wpListIn F n P (l1 ++ l2).toArray Q l2)) m listed a w →
    (∃ L : List Nat, L.length = m ∧ L.Nodup ∧ ∀ j, j ∈ L ↔ j < l1.length ∧ listed.getD j true = false) → Closed (l1 ++ l2).toArray (ext listed l2.length) → wpAnyIn F n P .any (l1 ++ l2).toArray Q (m + l2.length) (ext listed l2.length) a w := by
  obtain ⟨h1, h2, h3⟩ := tail_parts h
  intro m
  induction m with
  | zero =>
    intro listed a w hsz hun hw _ _
    have hall : ∀ i < l1.length, listed.getD i true = true := fun i hi => by
      cases hc : listed.getD i true with
      | true => rfl
      | false => exact absurd (hun i hi hc) (by omega)
    rw [ext_full hsz hall, ← List.length_append]
    refine anyIn_tail h _ _ _ _ (by simp) (Nat.le_refl _) ?_
    rw [List.drop_left]
    exact hw.2
  | succ m ih =>
    rintro listed a w hsz _ hw ⟨L, hL, hnd, hmem⟩ hcl
    have hsub : ∀ i ∈ Region.ready .any (l1 ++ l2).toArray (ext listed l2.length), i < l1.length ∧ i ∈ Region.ready .any l1.toArray listed := by
      intro i hi
      obtain ⟨hun, o, ho, hall⟩ := mem_ready.1 hi
      have ho' : (l1 ++ l2)[i]? = some o := by simpa using ho
      have hlt : i < l1.length := by
        rcases Nat.lt_or_ge i l1.length with hlt | hge
        · exact hlt
        · exfalso
          obtain ⟨j, hj⟩ : ∃ j, j ∈ L := by
            cases L with
            | nil => simp at hL
            | cons x L => exact ⟨x, List.mem_cons_self⟩
          obtain ⟨j1, j2⟩ := (hmem j).1 hj
          have := reach_listed hcl 6 j i o ho hall (h3 i o ho' hge j (by omega))
          rw [ext_lt (by omega)] at this
          rw [Array.getD_eq_getD_getElem?, Array.getElem?_eq_getElem (by omega)] at this j2
          simp_all
      refine ⟨hlt, mem_ready.2 ⟨by rw [ext_lt (by omega)] at hun; exact hun, o, by rw [List.getElem?_append_left hlt] at ho'; simpa using ho', fun e he hb => ?_⟩⟩
      have := hall e he hb
      rwa [ext_lt (by have := h2 i o ho' e he hb; omega)] at this
    rw [show m + 1 + l2.length = (m + l2.length) + 1 by omega]
    refine ⟨fun h0 => ?_, fun i hi => ?_⟩
    · exfalso
      obtain ⟨i, hi, hp, hlo⟩ := least (p := fun j => listed.getD j true = false) l1.length (by
        cases L with
        | nil => simp at hL
        | cons x L => exact ⟨x, (hmem x).1 List.mem_cons_self⟩)
      have : i ∈ Region.ready .any (l1 ++ l2).toArray (ext listed l2.length) := by
        have hil : (l1 ++ l2)[i]? = some l1[i] := by rw [List.getElem?_append_left hi, List.getElem?_eq_getElem hi]
        refine mem_ready.2 ⟨by rw [ext_lt (by omega)]; exact hp, l1[i], by simpa using hil, fun e he hb => ?_⟩
        have he' := h2 i _ hil e he hb
        rw [ext_lt (by omega)]
        have := hlo _ he'
        rw [Array.getD_eq_getD_getElem?, Array.getElem?_eq_getElem (by omega)] at this ⊢
        simpa using this
      rw [h0] at this
      cases this
    · obtain ⟨hlt, hi1⟩ := hsub i hi
      have hw := hw.2 i hi1
      unfold wpOpIn at hw ⊢
      have hil : (l1 ++ l2)[i]? = some l1[i] := by rw [List.getElem?_append_left hlt, List.getElem?_eq_getElem hlt]
      have hg := h1 l1[i] (List.mem_append_left _ (List.getElem_mem hlt))
      simp only [List.getElem?_toArray, hil, wanted_none hg, if_true]
      simp only [List.getElem?_toArray, List.getElem?_eq_getElem hlt, wanted_none hg, if_true] at hw
      refine wpIn_thenQ (fun a' w' hk => ?_) hw
      rw [ext_set (by omega)]
      have hiL : i ∈ L := (hmem i).2 ⟨hlt, (mem_ready.1 hi1).1⟩
      have hset : ∀ j, (listed.setIfInBounds i true).getD j true = if j = i then true else listed.getD j true := fun j => by
        simp only [Array.getD_eq_getD_getElem?, Array.getElem?_setIfInBounds]
        by_cases hij : i = j
        · subst hij; simp [hsz, hlt]
        · simp [hij, Ne.symm hij]
      have hset' : ∀ j, ((ext listed l2.length).setIfInBounds i true).getD j false = if j = i then true else (ext listed l2.length).getD j false := fun j => by
        have hsx : i < (ext listed l2.length).size := by simp [ext]; omega
        simp only [Array.getD_eq_getD_getElem?, Array.getElem?_setIfInBounds]
        by_cases hij : i = j
        · subst hij; simp [hsx]
        · simp [hij, Ne.symm hij]
      refine ih _ a' w' (by simpa using hsz) (fun j hj hc => ?_) hk ⟨L.erase i, by rw [List.length_erase_of_mem hiL, hL]; rfl, hnd.erase i, fun j => ?_⟩ (fun j o ho hl e he hb => ?_)
      · rw [hset] at hc
        split at hc
        · cases hc
        · rename_i hne
          have : j ∈ L.erase i := (List.mem_erase_of_ne hne).2 ((hmem j).2 ⟨hj, hc⟩)
          have := List.length_pos_of_mem this
          rw [List.length_erase_of_mem hiL, hL] at this
          omega
      · rw [hnd.mem_erase_iff, hmem, hset]
        constructor
        · rintro ⟨hne, hj, hc⟩; exact ⟨hj, by simp [hne, hc]⟩
        · rintro ⟨hj, hc⟩
          split at hc
          · cases hc
          · rename_i hne; exact ⟨hne, hj, hc⟩
      · rw [← ext_set (by omega), hset'] at hl ⊢
        have hall : ∀ e ∈ o.after, Region.binds .any e = true → (ext listed l2.length).getD e.on false = true := by
          by_cases hji : j = i
          · subst hji
            obtain ⟨_, o', ho', hall⟩ := mem_ready.1 hi
            obtain rfl := Option.some.inj (ho.symm.trans ho')
            exact hall
          · rw [if_neg hji] at hl
            exact fun e he hb => hcl j o ho hl e he hb
        split
        · rfl
        · exact hall e he hb
/-- **A REGION THAT DRAWS, WITH FLOATS, whose last operations come one by one.** -/
theorem wpIn_region_flt (k : Nat) (hF : ∀ f, F.fn f) (hD : F.depth = none) (S : Nat → Prop) (fl loud : List Tmp) {id : Nat} {a : Act} {w : World} (hm : P.follows .mixedOrders = true) (ht : tailB l k = true) (hk : k ≤ l.length) (hB : floB (l.take k).toArray fl loud = true) (hS : ∀ k, S k → k < w.heap.size)
    (h : floL P (l.take k).toArray S w fl loud (fun o a w K => o.wpIn F n P a w K NoEx) (wpListIn F n P l.toArray Q (l.drop k)) (l.take k) (fun _ => False) a w.drew) : (Code.region id l.toArray true).wpIn F n P Q a w := by
  have hlen : (l.take k).length = k := by rw [List.length_take]; omega
  have ht' : tailB (l.take k ++ l.drop k) (l.take k).length = true := by rw [List.take_append_drop, hlen]; exact ht
  refine wpIn_region_any hm ?_
  have hw1 : wpAnyIn F n P .any (l.take k).toArray (thenQ Q (wpListIn F n P l.toArray Q (l.drop k))) k (Array.replicate k false) a w.drew := by
    refine flo_anyIn (S := S) (w0 := w) (Q := wpListIn F n P l.toArray Q (l.drop k)) hF hD hB hS (fun _ _ _ h => h) _ (List.range' 0 k) _ (fun _ => False) a _ (by simp) ?_ (fun i => ?_) ?_ (by simp [hlen]) ⟨Nat.le_refl _, fun _ _ _ => rfl, rfl, rfl, rfl⟩ (fun _ h => h.elim) ?_
    · rw [← List.range_eq_range']; exact List.pairwise_lt_range
    · rw [← List.range_eq_range', List.mem_range]
      constructor
      · intro hi; exact ⟨by simp only [List.size_toArray, hlen]; exact hi, by simp [hi]⟩
      · intro hi; simpa [hlen] using hi.1
    · intro i o ho hl
      exfalso
      rcases Nat.lt_or_ge i k with h' | h'
      · simp [h'] at hl
      · simp [Nat.not_lt.2 h'] at hl
    · have := floI_of_L (P := P) (ops := (l.take k).toArray) (S := S) (w0 := w) (fl := fl) (loud := loud) (W := fun o a w K => o.wpIn F n P a w K NoEx) (Q := wpListIn F n P l.toArray Q (l.drop k)) (l.take k) 0 (by simp)
      rw [hlen] at this
      rw [this]; exact h
  have := anyIn_cut (Q := Q) (l.take k) (l.drop k) ht' k (Array.replicate k false) a w.drew (by simp [hlen]) (fun j hj _ => by rw [hlen] at hj; omega) (by rw [List.take_append_drop]; exact hw1)
    ⟨List.range k, by simp, List.nodup_range, fun j => by
      rw [List.mem_range, hlen]
      constructor
      · intro hj; exact ⟨hj, by simp [hj]⟩
      · intro hj; exact hj.1⟩ (fun j o _ hl => by
        exfalso
        rcases Nat.lt_or_ge j (k + (l.drop k).length) with hj | hj
        · have : (ext (Array.replicate k false) (l.drop k).length)[j]? = some false := by
            rw [ext, Array.replicate_append_replicate, Array.getElem?_eq_getElem (by simpa using hj)]; simp
          rw [Array.getD_eq_getD_getElem?, this] at hl; cases hl
        · have : (ext (Array.replicate k false) (l.drop k).length)[j]? = none := by
            rw [ext, Array.replicate_append_replicate]; exact Array.getElem?_eq_none (by simpa using hj)
          rw [Array.getD_eq_getD_getElem?, this] at hl; cases hl)
  rw [List.take_append_drop] at this
  have e : k + (l.drop k).length = l.toArray.size := by simp; omega
  rw [e] at this
  have e2 : ext (Array.replicate k false) (l.drop k).length = Array.replicate l.toArray.size false := by
    rw [ext, Array.replicate_append_replicate, e]
  rw [e2] at this
  exact this
end

/-! ### The plain walk -/
section
variable {P : Program} {l : List Oper} {k : Nat} {Q : Exit → Act → World → Prop}
theorem wp_thenQ {o : Oper} {a : Act} {w : World} {K K' : Act → World → Prop} {T : Act → World → Prop} (hk : ∀ a w, K a w → K' a w) (h : o.wp P a w K (thenQ Q T)) : o.wp P a w K' Q := by
  have h := Oper.wp_mono hk h
  unfold Oper.wp at h ⊢
  generalize (execOp a.eval o).run P w = r at h ⊢
  cases r with
  | ok x w' => cases x <;> exact h
  | halt x w' => cases x <;> exact h
theorem any_tail (h : tailB l k = true) : ∀ m i a w, i + m = l.length → k ≤ i → wpList P l.toArray Q (l.drop i) a w → wpAny P .any l.toArray Q m (listedAt l.length i) a w := by
  obtain ⟨h1, _, _⟩ := tail_parts h
  intro m
  induction m with
  | zero =>
    intro i a w hi _ hw
    obtain rfl : i = l.length := by omega
    rw [List.drop_length] at hw
    exact ⟨ready_end _ _ (by simp), hw⟩
  | succ m ih =>
    intro i a w hi hk hw
    have hlt : i < l.length := by omega
    have hr := ready_at h hk hlt
    rw [List.drop_eq_getElem_cons hlt] at hw
    simp only [wpList, wanted_none (h1 _ (List.getElem_mem hlt)), if_true] at hw
    refine ⟨fun h0 => absurd ((hr i).2 rfl) (by simp [h0]), fun j hj => ?_⟩
    obtain rfl := (hr j).1 hj
    unfold wpOp
    simp only [List.getElem?_toArray, List.getElem?_eq_getElem hlt, wanted_none (h1 _ (List.getElem_mem hlt)), if_true]
    refine hw.imp (Oper.wp_mono fun a' w' hw' => ?_) id
    rw [listedAt_set _ _ hlt]
    exact ih (j + 1) a' w' (by omega) (by omega) hw'
theorem any_cut (l1 l2 : List Oper) (h : tailB (l1 ++ l2) l1.length = true) : ∀ m (listed : Array Bool) (a : Act) (w : World), listed.size = l1.length → (∀ j, j < l1.length → listed.getD j true = false → 0 < m) →
    wpAny P .any l1.toArray (thenQ Q (wpList P (l1 ++ l2).toArray Q l2)) m listed a w →
    (∃ L : List Nat, L.length = m ∧ L.Nodup ∧ ∀ j, j ∈ L ↔ j < l1.length ∧ listed.getD j true = false) → Closed (l1 ++ l2).toArray (ext listed l2.length) → wpAny P .any (l1 ++ l2).toArray Q (m + l2.length) (ext listed l2.length) a w := by
  obtain ⟨h1, h2, h3⟩ := tail_parts h
  intro m
  induction m with
  | zero =>
    intro listed a w hsz hun hw _ _
    have hall : ∀ i < l1.length, listed.getD i true = true := fun i hi => by
      cases hc : listed.getD i true with
      | true => rfl
      | false => exact absurd (hun i hi hc) (by omega)
    rw [ext_full hsz hall, ← List.length_append]
    refine any_tail h _ _ _ _ (by simp) (Nat.le_refl _) ?_
    rw [List.drop_left]
    exact hw.2
  | succ m ih =>
    rintro listed a w hsz _ hw ⟨L, hL, hnd, hmem⟩ hcl
    have hsub : ∀ i ∈ Region.ready .any (l1 ++ l2).toArray (ext listed l2.length), i < l1.length ∧ i ∈ Region.ready .any l1.toArray listed := by
      intro i hi
      obtain ⟨hun, o, ho, hall⟩ := mem_ready.1 hi
      have ho' : (l1 ++ l2)[i]? = some o := by simpa using ho
      have hlt : i < l1.length := by
        rcases Nat.lt_or_ge i l1.length with hlt | hge
        · exact hlt
        · exfalso
          obtain ⟨j, hj⟩ : ∃ j, j ∈ L := by
            cases L with
            | nil => simp at hL
            | cons x L => exact ⟨x, List.mem_cons_self⟩
          obtain ⟨j1, j2⟩ := (hmem j).1 hj
          have := reach_listed hcl 6 j i o ho hall (h3 i o ho' hge j (by omega))
          rw [ext_lt (by omega)] at this
          rw [Array.getD_eq_getD_getElem?, Array.getElem?_eq_getElem (by omega)] at this j2
          simp_all
      refine ⟨hlt, mem_ready.2 ⟨by rw [ext_lt (by omega)] at hun; exact hun, o, by rw [List.getElem?_append_left hlt] at ho'; simpa using ho', fun e he hb => ?_⟩⟩
      have := hall e he hb
      rwa [ext_lt (by have := h2 i o ho' e he hb; omega)] at this
    rw [show m + 1 + l2.length = (m + l2.length) + 1 by omega]
    refine ⟨fun h0 => ?_, fun i hi => ?_⟩
    · exfalso
      obtain ⟨i, hi, hp, hlo⟩ := least (p := fun j => listed.getD j true = false) l1.length (by
        cases L with
        | nil => simp at hL
        | cons x L => exact ⟨x, (hmem x).1 List.mem_cons_self⟩)
      have : i ∈ Region.ready .any (l1 ++ l2).toArray (ext listed l2.length) := by
        have hil : (l1 ++ l2)[i]? = some l1[i] := by rw [List.getElem?_append_left hi, List.getElem?_eq_getElem hi]
        refine mem_ready.2 ⟨by rw [ext_lt (by omega)]; exact hp, l1[i], by simpa using hil, fun e he hb => ?_⟩
        have he' := h2 i _ hil e he hb
        rw [ext_lt (by omega)]
        have := hlo _ he'
        rw [Array.getD_eq_getD_getElem?, Array.getElem?_eq_getElem (by omega)] at this ⊢
        simpa using this
      rw [h0] at this
      cases this
    · obtain ⟨hlt, hi1⟩ := hsub i hi
      have hw := hw.2 i hi1
      unfold wpOp at hw ⊢
      have hil : (l1 ++ l2)[i]? = some l1[i] := by rw [List.getElem?_append_left hlt, List.getElem?_eq_getElem hlt]
      have hg := h1 l1[i] (List.mem_append_left _ (List.getElem_mem hlt))
      simp only [List.getElem?_toArray, hil, wanted_none hg, if_true]
      simp only [List.getElem?_toArray, List.getElem?_eq_getElem hlt, wanted_none hg, if_true] at hw
      refine hw.imp (wp_thenQ fun a' w' hk => ?_) id
      rw [ext_set (by omega)]
      have hiL : i ∈ L := (hmem i).2 ⟨hlt, (mem_ready.1 hi1).1⟩
      have hset : ∀ j, (listed.setIfInBounds i true).getD j true = if j = i then true else listed.getD j true := fun j => by
        simp only [Array.getD_eq_getD_getElem?, Array.getElem?_setIfInBounds]
        by_cases hij : i = j
        · subst hij; simp [hsz, hlt]
        · simp [hij, Ne.symm hij]
      have hset' : ∀ j, ((ext listed l2.length).setIfInBounds i true).getD j false = if j = i then true else (ext listed l2.length).getD j false := fun j => by
        have hsx : i < (ext listed l2.length).size := by simp [ext]; omega
        simp only [Array.getD_eq_getD_getElem?, Array.getElem?_setIfInBounds]
        by_cases hij : i = j
        · subst hij; simp [hsx]
        · simp [hij, Ne.symm hij]
      refine ih _ a' w' (by simpa using hsz) (fun j hj hc => ?_) hk ⟨L.erase i, by rw [List.length_erase_of_mem hiL, hL]; rfl, hnd.erase i, fun j => ?_⟩ (fun j o ho hl e he hb => ?_)
      · rw [hset] at hc
        split at hc
        · cases hc
        · rename_i hne
          have : j ∈ L.erase i := (List.mem_erase_of_ne hne).2 ((hmem j).2 ⟨hj, hc⟩)
          have := List.length_pos_of_mem this
          rw [List.length_erase_of_mem hiL, hL] at this
          omega
      · rw [hnd.mem_erase_iff, hmem, hset]
        constructor
        · rintro ⟨hne, hj, hc⟩; exact ⟨hj, by simp [hne, hc]⟩
        · rintro ⟨hj, hc⟩
          split at hc
          · cases hc
          · rename_i hne; exact ⟨hne, hj, hc⟩
      · rw [← ext_set (by omega), hset'] at hl ⊢
        have hall : ∀ e ∈ o.after, Region.binds .any e = true → (ext listed l2.length).getD e.on false = true := by
          by_cases hji : j = i
          · subst hji
            obtain ⟨_, o', ho', hall⟩ := mem_ready.1 hi
            obtain rfl := Option.some.inj (ho.symm.trans ho')
            exact hall
          · rw [if_neg hji] at hl
            exact fun e he hb => hcl j o ho hl e he hb
        split
        · rfl
        · exact hall e he hb
/-- **A REGION THAT DRAWS, WITH FLOATS, whose last operations come one by one.** -/
theorem wp_region_flt (k : Nat) (S : Nat → Prop) (fl loud : List Tmp) {id : Nat} {a : Act} {w : World} (hm : P.follows .mixedOrders = true) (ht : tailB l k = true) (hk : k ≤ l.length) (hB : floB (l.take k).toArray fl loud = true) (hS : ∀ k, S k → k < w.heap.size)
    (h : floL P (l.take k).toArray S w fl loud (fun o a w K => o.wp P a w K NoEx) (wpList P l.toArray Q (l.drop k)) (l.take k) (fun _ => False) a w.drew) : (Code.region id l.toArray true).wp P Q a w := by
  have hlen : (l.take k).length = k := by rw [List.length_take]; omega
  have ht' : tailB (l.take k ++ l.drop k) (l.take k).length = true := by rw [List.take_append_drop, hlen]; exact ht
  refine wp_region_any hm ?_
  have hw1 : wpAny P .any (l.take k).toArray (thenQ Q (wpList P l.toArray Q (l.drop k))) k (Array.replicate k false) a w.drew := by
    refine flo_any (S := S) (w0 := w) (Q := wpList P l.toArray Q (l.drop k)) hB hS (fun _ _ _ h => h) _ (List.range' 0 k) _ (fun _ => False) a _ (by simp) ?_ (fun i => ?_) ?_ (by simp [hlen]) ⟨Nat.le_refl _, fun _ _ _ => rfl, rfl, rfl, rfl⟩ (fun _ h => h.elim) ?_
    · rw [← List.range_eq_range']; exact List.pairwise_lt_range
    · rw [← List.range_eq_range', List.mem_range]
      constructor
      · intro hi; exact ⟨by simp only [List.size_toArray, hlen]; exact hi, by simp [hi]⟩
      · intro hi; simpa [hlen] using hi.1
    · intro i o ho hl
      exfalso
      rcases Nat.lt_or_ge i k with h' | h'
      · simp [h'] at hl
      · simp [Nat.not_lt.2 h'] at hl
    · have := floI_of_L (P := P) (ops := (l.take k).toArray) (S := S) (w0 := w) (fl := fl) (loud := loud) (W := fun o a w K => o.wp P a w K NoEx) (Q := wpList P l.toArray Q (l.drop k)) (l.take k) 0 (by simp)
      rw [hlen] at this
      rw [this]; exact h
  have := any_cut (Q := Q) (l.take k) (l.drop k) ht' k (Array.replicate k false) a w.drew (by simp [hlen]) (fun j hj _ => by rw [hlen] at hj; omega) (by rw [List.take_append_drop]; exact hw1)
    ⟨List.range k, by simp, List.nodup_range, fun j => by
      rw [List.mem_range, hlen]
      constructor
      · intro hj; exact ⟨hj, by simp [hj]⟩
      · intro hj; exact hj.1⟩ (fun j o _ hl => by
        exfalso
        rcases Nat.lt_or_ge j (k + (l.drop k).length) with hj | hj
        · have : (ext (Array.replicate k false) (l.drop k).length)[j]? = some false := by
            rw [ext, Array.replicate_append_replicate, Array.getElem?_eq_getElem (by simpa using hj)]; simp
          rw [Array.getD_eq_getD_getElem?, this] at hl; cases hl
        · have : (ext (Array.replicate k false) (l.drop k).length)[j]? = none := by
            rw [ext, Array.replicate_append_replicate]; exact Array.getElem?_eq_none (by simpa using hj)
          rw [Array.getD_eq_getD_getElem?, this] at hl; cases hl)
  rw [List.take_append_drop] at this
  have e : k + (l.drop k).length = l.toArray.size := by simp; omega
  rw [e] at this
  have e2 : ext (Array.replicate k false) (l.drop k).length = Array.replicate l.toArray.size false := by
    rw [ext, Array.replicate_append_replicate, e]
  rw [e2] at this
  exact this
end
end Go.Proofs.YtmdfickejpeofaaGreat
