/- How a queue of pqueue lies in memory: its struct of 1026 cells, and the row of its heap. No program in sight. -/
import Derived.Test.YthialloenkbpnaaPqA
import Derived.Test.YthialloenkbpnaaApp
set_option linter.unusedVariables false
set_option linter.unusedSimpArgs false
namespace Go.Proofs.Ythialloenkbpnaa
open Go.RowKit

/-- An id's error. -/
def chkQ (n : Nat) (id : Int) : Int := if n = 0 then 1 else if id < 0 ∨ (n : Int) ≤ id then 3 else 0
/-- The blocks of a queue. -/
def QS (b g : Nat) : Nat → Prop := fun k => k = b ∨ k = g
theorem news2 (w1 : World) (x y : Value) (t : TypeId) : ∀ j u, [x, y][j]? = some u → (w1.alloc (.cells #[x, y] t)).cell? ((⟨w1.heap.size, 0, none⟩ : Addr).add j) = some u := by
  intro j u hj
  match j with
  | 0 => simp at hj; subst hj; simp [go_sem, Addr.add]
  | 1 => simp at hj; subst hj; simp [go_sem, Addr.add]
  | j + 2 => simp at hj
/-- The struct: the size, the heap, the places. -/
structure QB (w : World) (t : TypeId) (b n : Nat) (hv : Value) (pl : Nat → Nat) : Prop where
  blk : ∃ cs : Array Value, w.heap[b]? = some (.cells cs t) ∧ cs.size = 1026 ∧ cs[0]? = some (.int .i64 n) ∧ cs[1]? = some hv ∧ ∀ i, i < 1024 → cs[i + 2]? = some (.int .i64 (pl i))
section
variable {w : World} {t : TypeId} {b n : Nat} {hv : Value} {pl : Nat → Nat}
theorem QB.lt (q : QB w t b n hv pl) : b < w.heap.size := let ⟨_, h, _⟩ := q.blk; blkLt h
theorem QB.c0 (q : QB w t b n hv pl) : w.cell? ⟨b, 0, none⟩ = some (.int .i64 n) := by
  obtain ⟨cs, h, _, h0, _⟩ := q.blk
  rw [(cellsOf h).1]; exact h0
theorem QB.c1 (q : QB w t b n hv pl) : w.cell? ⟨b, 1, none⟩ = some hv := by
  obtain ⟨cs, h, _, _, h0, _⟩ := q.blk
  rw [(cellsOf h).1]; exact h0
theorem QB.cp (q : QB w t b n hv pl) (i : Nat) (hi : i < 1024) : w.cell? ⟨b, 2 + i, none⟩ = some (.int .i64 (pl i)) := by
  obtain ⟨cs, h, _, _, _, h0⟩ := q.blk
  rw [(cellsOf h).1, Nat.add_comm]; exact h0 i hi
theorem QB.fr (q : QB w t b n hv pl) (j : Nat) : w.frozen? ⟨b, j, none⟩ = false := by
  obtain ⟨cs, h, _⟩ := q.blk
  exact (cellsOf h).2 j
theorem QB.setHv (q : QB w t b n hv pl) (u : Value) : QB (w.setCell ⟨b, 1, none⟩ u) t b n u pl := by
  obtain ⟨cs, h, hs, h0, h1, h2⟩ := q.blk
  refine ⟨_, blkSet h, by simpa using hs, ?_, ?_, fun i hi => ?_⟩
  · rw [Array.getElem?_setIfInBounds_ne (by omega)]; exact h0
  · rw [Array.getElem?_setIfInBounds_self_of_lt (by omega)]
  · rw [Array.getElem?_setIfInBounds_ne (by omega)]; exact h2 i hi
theorem QB.setPl (q : QB w t b n hv pl) {i : Nat} (hi : i < 1024) (v : Nat) : QB (w.setCell ⟨b, 2 + i, none⟩ (.int .i64 v)) t b n hv (upd pl i v) := by
  obtain ⟨cs, h, hs, h0, h1, h2⟩ := q.blk
  refine ⟨_, blkSet h, by simpa using hs, ?_, ?_, fun j hj => ?_⟩
  · rw [Array.getElem?_setIfInBounds_ne (by omega)]; exact h0
  · rw [Array.getElem?_setIfInBounds_ne (by omega)]; exact h1
  · unfold upd
    by_cases e : j = i
    · subst e; rw [Nat.add_comm 2 j, Array.getElem?_setIfInBounds_self_of_lt (by omega), if_pos rfl]
    · rw [Array.getElem?_setIfInBounds_ne (by omega), if_neg e]; exact h2 j hj
theorem QB.setPl' (q : QB w t b n hv pl) {i : Nat} (hi : i < 1024) (v : Nat) {z : Int} (hz : z = (v : Int)) : QB (w.setCell ⟨b, 2 + i, none⟩ (.int .i64 z)) t b n hv (upd pl i v) := by subst hz; exact q.setPl hi v
theorem QB.other (q : QB w t b n hv pl) {p : Addr} (hp : b ≠ p.block) (u : Value) : QB (w.setCell p u) t b n hv pl := by
  obtain ⟨cs, h, r⟩ := q.blk
  exact ⟨cs, blkSetO h hp, r⟩
theorem QB.gr {w' : World} (q : QB w t b n hv pl) (g : Gr w w') : QB w' t b n hv pl := by
  obtain ⟨cs, h, r⟩ := q.blk
  exact ⟨cs, g.blk h, r⟩
theorem QB.mdh {S : Nat → Prop} {w' : World} (q : QB w t b n hv pl) (g : Mdh S w w') (hs : ¬ S b) : QB w' t b n hv pl := by
  obtain ⟨cs, h, r⟩ := q.blk
  exact ⟨cs, g.blk h hs, r⟩
theorem QB.grown {w' : World} {row : Option Nat} (q : QB w t b n hv pl) (g : w.grownBy w' row) (hs : some b ≠ row) : QB w' t b n hv pl := by
  obtain ⟨cs, h, r⟩ := q.blk
  exact ⟨cs, (g.block b (blkLt h) hs).trans h, r⟩
end

/-- The row of the heap, where it is not nil. -/
structure RG {α : Type} (w : World) (t : TypeId) (enc : α → Value) (len cap g : Nat) (h : Nat → Nat × α) : Prop where
  le : len ≤ cap
  most : cap ≤ maxLen
  blk : ∃ cur : Array Value, w.heap[g]? = some (.cells cur t) ∧ cur.size = cap * 2 ∧ ∀ j, j < len → cur[j * 2]? = some (.int .i64 (h j).1) ∧ cur[j * 2 + 1]? = some (enc (h j).2)
section
variable {α : Type} {w : World} {t : TypeId} {enc : α → Value} {len cap g : Nat} {h : Nat → Nat × α}
theorem RG.lt (r : RG w t enc len cap g h) : g < w.heap.size := let ⟨_, hb, _⟩ := r.blk; blkLt hb
theorem RG.c0 (r : RG w t enc len cap g h) (j : Nat) (hj : j < len) : w.cell? ⟨g, j * 2, none⟩ = some (.int .i64 (h j).1) := by
  obtain ⟨cur, hb, _, hc⟩ := r.blk
  rw [(cellsOf hb).1]; exact (hc j hj).1
theorem RG.c1 (r : RG w t enc len cap g h) (j : Nat) (hj : j < len) : w.cell? ⟨g, j * 2 + 1, none⟩ = some (enc (h j).2) := by
  obtain ⟨cur, hb, _, hc⟩ := r.blk
  rw [(cellsOf hb).1]; exact (hc j hj).2
theorem RG.fr (r : RG w t enc len cap g h) (j : Nat) : w.frozen? ⟨g, j, none⟩ = false := by
  obtain ⟨cur, hb, _⟩ := r.blk
  exact (cellsOf hb).2 j
theorem RG.set (r : RG w t enc len cap g h) {i : Nat} (hi : i < len) (x : Nat × α) : RG ((w.setCell ⟨g, i * 2, none⟩ (.int .i64 x.1)).setCell ⟨g, i * 2 + 1, none⟩ (enc x.2)) t enc len cap g (upd h i x) := by
  obtain ⟨le, most, cur, hb, hs, hc⟩ := r
  refine ⟨le, most, _, blkSet (blkSet hb), by simpa using hs, fun j hj => ?_⟩
  have : i * 2 + 1 < cap * 2 := by omega
  unfold upd
  by_cases e : j = i
  · subst e
    rw [if_pos rfl]
    refine ⟨?_, ?_⟩
    · rw [Array.getElem?_setIfInBounds_ne (by omega), Array.getElem?_setIfInBounds_self_of_lt (by omega)]
    · rw [Array.getElem?_setIfInBounds_self_of_lt (by simp; omega)]
  · rw [if_neg e]
    refine ⟨?_, ?_⟩
    · rw [Array.getElem?_setIfInBounds_ne (by omega), Array.getElem?_setIfInBounds_ne (by omega)]; exact (hc j hj).1
    · rw [Array.getElem?_setIfInBounds_ne (by omega), Array.getElem?_setIfInBounds_ne (by omega)]; exact (hc j hj).2
theorem RG.set1 (r : RG w t enc len cap g h) {i : Nat} (hi : i < len) (x : α) : RG (w.setCell ⟨g, i * 2 + 1, none⟩ (enc x)) t enc len cap g (upd h i ((h i).1, x)) := by
  obtain ⟨le, most, cur, hb, hs, hc⟩ := r
  refine ⟨le, most, _, blkSet hb, by simpa using hs, fun j hj => ?_⟩
  have : i * 2 + 1 < cap * 2 := by omega
  unfold upd
  by_cases e : j = i
  · subst e
    rw [if_pos rfl]
    refine ⟨?_, ?_⟩
    · rw [Array.getElem?_setIfInBounds_ne (by omega)]; exact (hc j hj).1
    · rw [Array.getElem?_setIfInBounds_self_of_lt (by omega)]
  · rw [if_neg e]
    refine ⟨?_, ?_⟩
    · rw [Array.getElem?_setIfInBounds_ne (by omega)]; exact (hc j hj).1
    · rw [Array.getElem?_setIfInBounds_ne (by omega)]; exact (hc j hj).2
theorem RG.other (r : RG w t enc len cap g h) {p : Addr} (hp : g ≠ p.block) (u : Value) : RG (w.setCell p u) t enc len cap g h := by
  obtain ⟨le, most, cur, hb, q⟩ := r
  exact ⟨le, most, cur, blkSetO hb hp, q⟩
theorem RG.gr {w' : World} (r : RG w t enc len cap g h) (k : Gr w w') : RG w' t enc len cap g h := by
  obtain ⟨le, most, cur, hb, q⟩ := r
  exact ⟨le, most, cur, k.blk hb, q⟩
theorem RG.mdh {S : Nat → Prop} {w' : World} (r : RG w t enc len cap g h) (k : Mdh S w w') (hs : ¬ S g) : RG w' t enc len cap g h := by
  obtain ⟨le, most, cur, hb, q⟩ := r
  exact ⟨le, most, cur, k.blk hb hs, q⟩
theorem RG.less {len' : Nat} (r : RG w t enc len cap g h) (hl : len' ≤ len) : RG w t enc len' cap g h := by
  obtain ⟨le, most, cur, hb, hs, hc⟩ := r
  exact ⟨by omega, most, cur, hb, hs, fun j hj => hc j (by omega)⟩
theorem RG.congr {h' : Nat → Nat × α} (r : RG w t enc len cap g h) (e : ∀ j, j < len → h' j = h j) : RG w t enc len cap g h' := by
  obtain ⟨le, most, cur, hb, hs, hc⟩ := r
  exact ⟨le, most, cur, hb, hs, fun j hj => by rw [e j hj]; exact hc j hj⟩

/-- The cells of the first n entries. -/
def rowL (enc : α → Value) (h : Nat → Nat × α) : Nat → List Value
  | 0 => []
  | n + 1 => rowL enc h n ++ [.int .i64 (h n).1, enc (h n).2]
theorem rowL_length (enc : α → Value) (h : Nat → Nat × α) : ∀ n, (rowL enc h n).length = n * 2
  | 0 => rfl
  | n + 1 => by simp [rowL, rowL_length enc h n]; omega
theorem rowL_get (enc : α → Value) (h : Nat → Nat × α) : ∀ n j, j < n → (rowL enc h n)[j * 2]? = some (.int .i64 (h j).1) ∧ (rowL enc h n)[j * 2 + 1]? = some (enc (h j).2)
  | 0, j, hj => by omega
  | n + 1, j, hj => by
    have hl := rowL_length enc h n
    rw [rowL]
    by_cases e : j = n
    · subst e
      rw [List.getElem?_append_right (by omega), List.getElem?_append_right (by omega), hl]
      simp
    · have := rowL_get enc h n j (by omega)
      rw [List.getElem?_append_left (by omega), List.getElem?_append_left (by omega)]
      exact this
theorem rowL_congr (enc : α → Value) {h h' : Nat → Nat × α} : ∀ n, (∀ j, j < n → h' j = h j) → rowL enc h' n = rowL enc h n
  | 0, _ => rfl
  | n + 1, e => by rw [rowL, rowL, rowL_congr enc n (fun j hj => e j (by omega)), e n (by omega)]
theorem rowL_push (enc : α → Value) (h : Nat → Nat × α) (n : Nat) (x : Nat × α) : rowL enc (upd h n x) (n + 1) = rowL enc h n ++ [.int .i64 x.1, enc x.2] := by
  rw [rowL, rowL_congr enc (h := h) n (fun j hj => upd_ne _ _ _ (by omega)), upd_same]
theorem rowL_one (enc : α → Value) (henc : ∀ x, (enc x).oneCell' = true) (h : Nat → Nat × α) : ∀ n, ∀ u ∈ rowL enc h n, u.oneCell' = true
  | 0, u, hu => by cases hu
  | n + 1, u, hu => by
    rw [rowL, List.mem_append] at hu
    rcases hu with hu | hu
    · exact rowL_one enc henc h n u hu
    · simp only [List.mem_cons, List.not_mem_nil, or_false] at hu
      rcases hu with rfl | rfl
      · rfl
      · exact henc _
theorem RG.own (r : RG w t enc len cap g h) : Own w t 2 (.slice (some ⟨g, 0, none⟩) len cap) len (rowL enc h len) := by
  obtain ⟨le, most, cur, hb, hs, hc⟩ := r
  refine ⟨rowL_length _ _ _, .inr ⟨g, cap, cur, rfl, Nat.zero_le _, hb, le, most, hs, ?_⟩⟩
  apply List.ext_getElem?
  intro k
  by_cases hk : k < len * 2
  · rw [List.getElem?_take_of_lt hk]
    have hj : k / 2 < len := by omega
    obtain ⟨c0, c1⟩ := hc _ hj
    obtain ⟨l0, l1⟩ := rowL_get enc h len _ hj
    rcases (show k = k / 2 * 2 ∨ k = k / 2 * 2 + 1 by omega) with e | e
    · rw [e, l0, ← c0]; simp
    · rw [e, l1, ← c1]; simp
  · rw [List.getElem?_eq_none (by simp; omega), List.getElem?_eq_none (by rw [rowL_length]; omega)]
theorem RG.ofOwn (o : Own w t 2 (.slice (some ⟨g, 0, none⟩) len cap) len (rowL enc h len)) : RG w t enc len cap g h := by
  rcases o.2 with ⟨h0, _⟩ | ⟨g', cap', cur, hv, _, hb, le, most, hs, ht⟩
  · cases h0
  · simp only [Value.slice.injEq, Option.some.injEq, Addr.mk.injEq, and_true, true_and] at hv
    obtain ⟨rfl, rfl⟩ := hv
    refine ⟨le, most, cur, hb, hs, fun j hj => ?_⟩
    obtain ⟨l0, l1⟩ := rowL_get enc h len j hj
    rw [← ht, List.getElem?_take_of_lt (by omega)] at l0 l1
    exact ⟨by simpa using l0, by simpa using l1⟩
end
end Go.Proofs.Ythialloenkbpnaa
