/- A Go map from integers to integers, as a sorted list of pairs. -/
import Derived.Test.YtbhkigjmjmfbgaaOmqii
import Derived.Maps.RangeWalk
import Derived.Maps.OwnIn
import Derived.Sort.MapsRangeIn
set_option linter.unusedVariables false
set_option linter.unusedSimpArgs false
namespace Go.Proofs.Ytbhkigjmjmfbgaa
open Go.RowKit Go.Maps

abbrev ki (x : Int) : Lit := .int .i64 x
abbrev DU := DataW Unit
/-- The datum reads as the list. -/
structure RD (D : DU) (L : List Itii) : Prop where
  tidy : Maps.Tidy D
  has : ∀ k : Int, Maps.has D (ki k) = (look ltZ L k).isSome
  at0 : ∀ k : Int, D.atKey (ki k) (.lit (ki 0)) = .lit (ki ((look ltZ L k).getD 0))
  sz : Maps.size D = L.length
  srt : Srt ltZ L
theorem RD.nil : RD (.map []) [] := ⟨Maps.tidy_empty, fun _ => rfl, fun _ => rfl, rfl, List.Pairwise.nil⟩
theorem ki_ne {a b : Int} (h : a ≠ b) : ki a ≠ ki b := fun e => h (by injection e)
theorem isk (k : Int) : WideAt.IsKeyLit (ki k) := trivial
theorem RD.put {D : DU} {L : List Itii} (h : RD D L) (k v : Int) : RD (D.put (ki k) (.lit (ki v))) (putL ltZ L k v) := by
  refine ⟨h.tidy.put (isk k) _, fun k' => ?_, fun k' => ?_, ?_, put_srt ordZ h.srt k v⟩
  · rw [put_look ordZ h.srt]
    by_cases e : k' = k
    · subst e; rw [if_pos rfl]; exact Maps.has_put_same h.tidy.isMap (isk _) _
    · rw [if_neg e, ← h.has]; exact Maps.has_put_other (ki_ne e) _
  · rw [put_look ordZ h.srt]
    by_cases e : k' = k
    · subst e; rw [if_pos rfl]; exact Maps.atKey_put_same h.tidy.isMap (isk _) _ _
    · rw [if_neg e, ← h.at0]; exact Maps.atKey_put_other (ki_ne e) _ _
  · rw [Maps.size_put h.tidy, put_length, h.has, h.sz]
    cases look ltZ L k <;> simp
theorem RD.del {D : DU} {L : List Itii} (h : RD D L) (k : Int) : RD (D.del (ki k)) (delL ltZ L k) := by
  refine ⟨h.tidy.del _, fun k' => ?_, fun k' => ?_, ?_, del_srt h.srt k⟩
  · rw [del_look ordZ h.srt]
    by_cases e : k' = k
    · subst e; rw [if_pos rfl]; exact Maps.has_del_same
    · rw [if_neg e, ← h.has]; exact Maps.has_del_other (ki_ne e)
  · rw [del_look ordZ h.srt]
    by_cases e : k' = k
    · subst e; rw [if_pos rfl]; exact Maps.atKey_del_same _
    · rw [if_neg e, ← h.at0]; exact Maps.atKey_del_other (ki_ne e) _
  · have := Maps.size_del h.tidy (k := ki k)
    rw [h.has, h.sz] at this
    rw [del_length]
    cases e : look ltZ L k with
    | none => rw [e] at this; simpa using this
    | some u => rw [e] at this; simp at this ⊢; omega
/-- What stands at a key that is there. -/
theorem RD.val {D : DU} {L : List Itii} (h : RD D L) {k c : Int} (hat : ∀ zd, D.atKey (ki k) zd = .lit (ki c)) : look ltZ L k = some c := by
  have h1 := Maps.has_true_of_atKey hat
  have h2 := h.at0 k
  rw [hat] at h2
  rw [h.has] at h1
  obtain ⟨u, hu⟩ := Option.isSome_iff_exists.1 h1
  rw [hu] at h2 ⊢
  injection h2 with h3
  injection h3 with _ h4
  rw [h4]
  rfl

theorem lawI : Keyed Try.prog 3 := int_keyed Try.underlying3
theorem zeroI (w : World) : (zeroValue 3).run Try.prog w = .ok (.int .i64 0) w := by kernel_rfl
/-- Block b is a map of at most n entries, the pairs of L. -/
def GM (w : World) (b n : Nat) (L : List Itii) : Prop := ∃ D : DU, w.ownsMap Try.prog 3 (plainElem Try.prog 3) b n D ∧ RD D L
section
variable {w w' : World} {b n : Nat} {L : List Itii}
theorem GM.mdh {F : Nat → Prop} (h : GM w b n L) (m : Mdh F w w') (hb : ¬ F b) : GM w' b n L := by
  obtain ⟨D, ⟨es, clock, h1, h2⟩, h3⟩ := h
  exact ⟨D, ⟨es, clock, m.blk h1 hb, h2⟩, h3⟩
theorem GM.gr (h : GM w b n L) (g : Gr w w') : GM w' b n L := h.mdh (g.mdh (fun _ => False)) (fun h => h)
theorem GM.made (w : World) : GM (w.alloc (.map #[] 0)) w.heap.size 0 [] := ⟨_, World.ownsMap_made _ _ _ _, RD.nil⟩
theorem GM.mono (h : GM w b n L) {n' : Nat} (hn : n ≤ n') : GM w b n' L := let ⟨D, h1, h2⟩ := h; ⟨D, h1.mono hn, h2⟩
theorem GM.lt (h : GM w b n L) : b < w.heap.size := let ⟨_, h1, _⟩ := h; h1.lt
theorem GM.ne (h : GM w b n L) {c : Nat} {cs : Array Value} {t : TypeId} (hc : w.heap[c]? = some (.cells cs t)) : b ≠ c := by
  obtain ⟨D, ⟨es, clock, h1, _⟩, _⟩ := h
  rintro rfl
  rw [h1] at hc; cases hc
theorem GM.nown (h : GM w b n L) {e : TypeId} {K m : Nat} {v : Value} {xs : List Value} (ho : Own w e K v m xs) : v.ownBlock ≠ some b := fun hb => by
  obtain ⟨cs, hc⟩ := own_blk ho hb
  exact h.ne hc rfl
theorem GM.len_le (h : GM w b n L) : L.length ≤ n := by
  obtain ⟨D, h1, h2⟩ := h
  rw [← h2.sz]; exact h1.size_le
end
theorem md_of_grown {w w' : World} {b : Nat} (h : w.grownBy w' (some b)) : Mdh (fun q => q = b) w w' := (Mdh.refl _ w).grown h (fun r hr => (Option.some.inj hr).symm)

section
variable {ops : Array Oper} {rest : List Oper} {o : Oper} {a : Act} {Q : Exit → Act → World → Prop} {F : Fence} {f : Nat} (w : World)
theorem wpList_gm_look (hg : o.guard = none) (m x : Operand) (hop : o.op = Op.lookup 24 m x true) (b n : Nat) (L : List Itii) (hm : a.eval m = .map (some b)) (h : GM w b n L) (k : Int) (hx : a.eval x = .int .i64 k) (hk : (Lit.int .i64 k).wf = true)
    (hK : wpList Try.prog ops Q rest (a.put o.dst (.tuple #[.int .i64 ((look ltZ L k).getD 0), .bool (look ltZ L k).isSome])) w) : wpList Try.prog ops Q (o :: rest) a w := by
  obtain ⟨D, h1, h2⟩ := h
  refine wpList_lookup_own_ok_int w hg m x 24 hop 3 3 .i64 lawI Try.underlying24 Try.underlying3 (zeroI w) b n D hm h1 _ (ki k) hx (keyOf_int_mk Try.underlying3 hk) ?_
  intro c hat _
  rw [h2.at0] at hat
  injection hat with hat
  injection hat with _ hat
  subst hat
  rw [h2.has]
  exact hK
theorem wpListIn_gm_look (hg : o.guard = none) (m x : Operand) (hop : o.op = Op.lookup 24 m x true) (b n : Nat) (L : List Itii) (hm : a.eval m = .map (some b)) (h : GM w b n L) (k : Int) (hx : a.eval x = .int .i64 k) (hk : (Lit.int .i64 k).wf = true)
    (hK : wpListIn F f Try.prog ops Q rest (a.put o.dst (.tuple #[.int .i64 ((look ltZ L k).getD 0), .bool (look ltZ L k).isSome])) w) : wpListIn F f Try.prog ops Q (o :: rest) a w := by
  obtain ⟨D, h1, h2⟩ := h
  refine wpListIn_lookup_own_ok_int w hg m x 24 hop 3 3 .i64 lawI Try.underlying24 Try.underlying3 (zeroI w) b n D hm h1 _ (ki k) hx (keyOf_int_mk Try.underlying3 hk) ?_
  intro c hat _
  rw [h2.at0] at hat
  injection hat with hat
  injection hat with _ hat
  subst hat
  rw [h2.has]
  exact hK
theorem wpList_gm_at (hg : o.guard = none) (m x : Operand) (hop : o.op = Op.lookup 24 m x false) (b n : Nat) (L : List Itii) (hm : a.eval m = .map (some b)) (h : GM w b n L) (k : Int) (hx : a.eval x = .int .i64 k) (hk : (Lit.int .i64 k).wf = true)
    (hK : wpList Try.prog ops Q rest (a.put o.dst (.int .i64 ((look ltZ L k).getD 0))) w) : wpList Try.prog ops Q (o :: rest) a w := by
  obtain ⟨D, h1, h2⟩ := h
  refine wpList_lookup_own_int w hg m x 24 hop 3 3 .i64 lawI Try.underlying24 Try.underlying3 (zeroI w) b n D hm h1 _ (ki k) hx (keyOf_int_mk Try.underlying3 hk) ?_
  intro c hat _
  rw [h2.at0] at hat
  injection hat with hat
  injection hat with _ hat
  subst hat
  exact hK
theorem wpListIn_gm_at (hg : o.guard = none) (m x : Operand) (hop : o.op = Op.lookup 24 m x false) (b n : Nat) (L : List Itii) (hm : a.eval m = .map (some b)) (h : GM w b n L) (k : Int) (hx : a.eval x = .int .i64 k) (hk : (Lit.int .i64 k).wf = true)
    (hK : wpListIn F f Try.prog ops Q rest (a.put o.dst (.int .i64 ((look ltZ L k).getD 0))) w) : wpListIn F f Try.prog ops Q (o :: rest) a w := by
  obtain ⟨D, h1, h2⟩ := h
  refine wpListIn_lookup_own_int w hg m x 24 hop 3 3 .i64 lawI Try.underlying24 Try.underlying3 (zeroI w) b n D hm h1 _ (ki k) hx (keyOf_int_mk Try.underlying3 hk) ?_
  intro c hat _
  rw [h2.at0] at hat
  injection hat with hat
  injection hat with _ hat
  subst hat
  exact hK
theorem wpList_gm_set (hg : o.guard = none) (m x v : Operand) (hop : o.op = Op.mapUpdate 24 m x v) (b n : Nat) (L : List Itii) (hm : a.eval m = .map (some b)) (h : GM w b n L) (hn : n ≤ 1000000) (k u : Int) (hx : a.eval x = .int .i64 k) (hv : a.eval v = .int .i64 u) (hk : (Lit.int .i64 k).wf = true) (hu : (Lit.int .i64 u).wf = true)
    (hK : ∀ w', GM w' b (n + 1) (putL ltZ L k u) → Mdh (fun q => q = b) w w' → wpList Try.prog ops Q rest (a.put o.dst undef) w') : wpList Try.prog ops Q (o :: rest) a w := by
  obtain ⟨D, h1, h2⟩ := h
  refine wpList_mapUpdate_own w hg m x v 24 hop 3 3 lawI Try.underlying24 (plainElem Try.prog 3) b n D hm h1 (by unfold maxLen; omega) _ _ (ki k) hx hv (keyOf_int_mk Try.underlying3 hk) _ [] (plainElem_int Try.underlying3 hu) ?_
  intro w' h3 h4
  exact hK w' ⟨_, h3, h2.put k u⟩ (md_of_grown h4)
theorem wpListIn_gm_set (hg : o.guard = none) (m x v : Operand) (hop : o.op = Op.mapUpdate 24 m x v) (b n : Nat) (L : List Itii) (hm : a.eval m = .map (some b)) (h : GM w b n L) (hn : n ≤ 1000000) (k u : Int) (hx : a.eval x = .int .i64 k) (hv : a.eval v = .int .i64 u) (hk : (Lit.int .i64 k).wf = true) (hu : (Lit.int .i64 u).wf = true)
    (hK : ∀ w', GM w' b (n + 1) (putL ltZ L k u) → Mdh (fun q => q = b) w w' → wpListIn F f Try.prog ops Q rest (a.put o.dst undef) w') : wpListIn F f Try.prog ops Q (o :: rest) a w := by
  obtain ⟨D, h1, h2⟩ := h
  refine wpListIn_mapUpdate_own w hg m x v 24 hop 3 3 lawI Try.underlying24 (plainElem Try.prog 3) b n D hm h1 (by unfold maxLen; omega) _ _ (ki k) hx hv (keyOf_int_mk Try.underlying3 hk) _ [] (plainElem_int Try.underlying3 hu) ?_
  intro w' h3 h4
  exact hK w' ⟨_, h3, h2.put k u⟩ (md_of_grown h4)
theorem wpList_gm_del (hg : o.guard = none) (m x : Operand) (hop : o.op = Op.call { callee := Callee.builtin Builtin.delete, args := #[m, x], argTypes := #[24, 3] }) (b n : Nat) (L : List Itii) (hm : a.eval m = .map (some b)) (h : GM w b n L) (k : Int) (hx : a.eval x = .int .i64 k) (hk : (Lit.int .i64 k).wf = true)
    (hK : ∀ w', GM w' b n (delL ltZ L k) → Mdh (fun q => q = b) w w' → wpList Try.prog ops Q rest (a.put o.dst (.tuple #[])) w') : wpList Try.prog ops Q (o :: rest) a w := by
  obtain ⟨D, h1, h2⟩ := h
  refine wpList_delete_own w hg m x 24 3 hop 3 lawI Try.underlying24 (plainElem Try.prog 3) b n D hm h1 _ (ki k) hx (keyOf_int_mk Try.underlying3 hk) ?_
  intro w' h3 h4
  exact hK w' ⟨_, h3, h2.del k⟩ (md_of_grown h4.grown)
theorem wpListIn_gm_del (hg : o.guard = none) (m x : Operand) (hop : o.op = Op.call { callee := Callee.builtin Builtin.delete, args := #[m, x], argTypes := #[24, 3] }) (b n : Nat) (L : List Itii) (hm : a.eval m = .map (some b)) (h : GM w b n L) (k : Int) (hx : a.eval x = .int .i64 k) (hk : (Lit.int .i64 k).wf = true)
    (hK : ∀ w', GM w' b n (delL ltZ L k) → Mdh (fun q => q = b) w w' → wpListIn F f Try.prog ops Q rest (a.put o.dst (.tuple #[])) w') : wpListIn F f Try.prog ops Q (o :: rest) a w := by
  obtain ⟨D, h1, h2⟩ := h
  refine wpListIn_delete_own w hg m x 24 3 hop 3 lawI Try.underlying24 (plainElem Try.prog 3) b n D hm h1 _ (ki k) hx (keyOf_int_mk Try.underlying3 hk) ?_
  intro w' h3 h4
  exact hK w' ⟨_, h3, h2.del k⟩ (md_of_grown h4.grown)
theorem wpList_gm_len (hg : o.guard = none) (m : Operand) (hop : o.op = Op.call { callee := Callee.builtin Builtin.len, args := #[m], argTypes := #[24] }) (b n : Nat) (L : List Itii) (hm : a.eval m = .map (some b)) (h : GM w b n L)
    (hK : wpList Try.prog ops Q rest (a.put o.dst (.int .i64 L.length)) w) : wpList Try.prog ops Q (o :: rest) a w := by
  obtain ⟨D, h1, h2⟩ := h
  refine wpList_len_own w hg m 24 hop 3 3 Try.underlying24 (plainElem Try.prog 3) b n D hm h1 ?_
  rw [h2.sz]
  exact hK
theorem wpListIn_gm_len (hg : o.guard = none) (m : Operand) (hop : o.op = Op.call { callee := Callee.builtin Builtin.len, args := #[m], argTypes := #[24] }) (b n : Nat) (L : List Itii) (hm : a.eval m = .map (some b)) (h : GM w b n L)
    (hK : wpListIn F f Try.prog ops Q rest (a.put o.dst (.int .i64 L.length)) w) : wpListIn F f Try.prog ops Q (o :: rest) a w := by
  obtain ⟨D, h1, h2⟩ := h
  refine wpListIn_len_own w hg m 24 hop 3 3 Try.underlying24 (plainElem Try.prog 3) b n D hm h1 ?_
  rw [h2.sz]
  exact hK
end
theorem gm_len_run {w : World} {b n : Nat} {L : List Itii} (h : GM w b n L) (ty : TypeId) : (Builtin.len_ #[24] ty #[.map (some b)]).run Try.prog w = .ok (.int .i64 L.length) w := by
  obtain ⟨D, h1, h2⟩ := h
  rw [h1.len Try.underlying24, h2.sz]
end Go.Proofs.Ytbhkigjmjmfbgaa
