/- OrdmapTypes: a Go map from bytes to pairs as a sorted list; the things that lie side by side; Len and yieldsTwo at these types. -/
import Derived.Test.YtemjnppplmankaaBd7
import Derived.Test.YtemjnppplmankaaBd5
import Derived.Maps.RangeWalk
import Derived.Maps.OwnIn
import Derived.Laws.StructEq
import Derived.Laws.BytesArg
import Derived.RangeFuncCalls
import Derived.Deep.CutRange
import Derived.Test.YtemjnppplmankaaBd6
import Derived.ChangeSlices
set_option linter.unusedVariables false
set_option linter.unusedSimpArgs false
namespace Go.Proofs.Ytemjnppplmankaa
open Go.RowKit Go.Maps
attribute [local go_sem] OvM cell_ovm obj_ovm

abbrev Pr := Int × ByteArray
abbrev kb (x : Int) : Lit := .int .u8 x
abbrev DP := DataW Pr
/-- How a pair among a map's elements reads. -/
def prE : Value → Option (DP × List MemPlace)
  | .agg ⟨[.int .i64 a, .string s]⟩ => some (.held (a, s), [])
  | _ => none
theorem prE_mk (p : Pr) : prE (.agg #[.int .i64 p.1, .string p.2]) = some (.held p, []) := rfl
theorem prE_inv {v : Value} {z : DP × List MemPlace} (h : prE v = some z) : ∃ p : Pr, v = .agg #[.int .i64 p.1, .string p.2] ∧ z = (.held p, []) := by
  unfold prE at h
  split at h
  · injection h with h
    exact ⟨_, rfl, h.symm⟩
  · cases h
def noPr : Pr := (0, ⟨#[]⟩)
/-- The datum reads as the list. -/
structure RB (D : DP) (L : List Itbp) : Prop where
  tidy : Maps.Tidy D
  has : ∀ k : Int, Maps.has D (kb k) = (look ltZ L k).isSome
  at0 : ∀ k : Int, D.atKey (kb k) (.held noPr) = .held ((look ltZ L k).getD noPr)
  sz : Maps.size D = L.length
  srt : Srt ltZ L
theorem RB.nil : RB (.map []) [] := ⟨Maps.tidy_empty, fun _ => rfl, fun _ => rfl, rfl, List.Pairwise.nil⟩
theorem kb_ne {a b : Int} (h : a ≠ b) : kb a ≠ kb b := fun e => h (by injection e)
theorem iskb (k : Int) : WideAt.IsKeyLit (kb k) := trivial
theorem RB.put {D : DP} {L : List Itbp} (h : RB D L) (k : Int) (v : Pr) : RB (D.put (kb k) (.held v)) (putL ltZ L k v) := by
  refine ⟨h.tidy.put (iskb k) _, fun k' => ?_, fun k' => ?_, ?_, put_srt ordZ h.srt k v⟩
  · rw [put_look ordZ h.srt]
    by_cases e : k' = k
    · subst e; rw [if_pos rfl]; exact Maps.has_put_same h.tidy.isMap (iskb _) _
    · rw [if_neg e, ← h.has]; exact Maps.has_put_other (kb_ne e) _
  · rw [put_look ordZ h.srt]
    by_cases e : k' = k
    · subst e; rw [if_pos rfl]; exact Maps.atKey_put_same h.tidy.isMap (iskb _) _ _
    · rw [if_neg e, ← h.at0]; exact Maps.atKey_put_other (kb_ne e) _ _
  · rw [Maps.size_put h.tidy, put_length, h.has, h.sz]
    cases look ltZ L k <;> simp
theorem lawB : Keyed Try.prog 5 := int_keyed Try.underlying5
theorem zeroP (w : World) : (zeroValue 26).run Try.prog w = .ok (.agg #[.int .i64 0, .string ⟨#[]⟩]) w := by kernel_rfl
/-- Block b is a map of at most n entries, the pairs of L. -/
def GB (w : World) (b n : Nat) (L : List Itbp) : Prop := ∃ D : DP, w.ownsMap Try.prog 5 prE b n D ∧ RB D L
section
variable {w w' : World} {b n : Nat} {L : List Itbp}
theorem GB.mdh {F : Nat → Prop} (h : GB w b n L) (m : Mdh F w w') (hb : ¬ F b) : GB w' b n L := by
  obtain ⟨D, ⟨es, clock, h1, h2⟩, h3⟩ := h
  exact ⟨D, ⟨es, clock, m.blk h1 hb, h2⟩, h3⟩
theorem GB.gr (h : GB w b n L) (g : Gr w w') : GB w' b n L := h.mdh (g.mdh (fun _ => False)) (fun h => h)
theorem GB.made (w : World) : GB (w.alloc (.map #[] 0)) w.heap.size 0 [] := ⟨_, World.ownsMap_made _ _ _ _, RB.nil⟩
theorem GB.lt (h : GB w b n L) : b < w.heap.size := let ⟨_, h1, _⟩ := h; h1.lt
theorem GB.len_le (h : GB w b n L) : L.length ≤ n := by
  obtain ⟨D, ⟨es, clock, h1, F, h2, h3⟩, h4⟩ := h
  rw [← h4.sz, h3]
  show (((es.toList.map (WideElems.rg Try.prog 5 prE)).foldr DataW.insert []).length) ≤ n
  rw [length_sorted]
  simpa using h2
end
theorem md_of_grownB {w w' : World} {b : Nat} (h : w.grownBy w' (some b)) : Mdh (fun q => q = b) w w' := (Mdh.refl _ w).grown h (fun r hr => (Option.some.inj hr).symm)
set_option maxRecDepth 40000 in
theorem gb_at_run {w : World} {b n : Nat} {L : List Itbp} (h : GB w b n L) (k : Int) (hk : (Lit.int .u8 k).wf = true) : (Instr.lookup 30 (.map (some b)) (.int .u8 k) false).run Try.prog w = .ok (lookVbp L k) w := by
  obtain ⟨D, h1, h2⟩ := h
  obtain ⟨v, ps, hrun, hv⟩ := h1.lookup lawB Try.underlying30 (zeroP w) (prE_mk noPr) (keyOf_int_mk Try.underlying5 hk)
  rw [h2.at0] at hv
  obtain ⟨p, rfl, hp⟩ := prE_inv hv
  injection hp with hp _
  injection hp with hp
  rw [hrun, ← hp]
  unfold lookVbp
  cases look ltZ L k <;> rfl
theorem wpList_gb_set {ops : Array Oper} {rest : List Oper} {o : Oper} {a : Act} {Q : Exit → Act → World → Prop} (w : World) (hg : o.guard = none) (m x v : Operand) (hop : o.op = Op.mapUpdate 30 m x v) (b n : Nat) (L : List Itbp) (hm : a.eval m = .map (some b)) (h : GB w b n L) (hn : n ≤ 1000000) (k : Int) (u : Pr) (hx : a.eval x = .int .u8 k) (hv : a.eval v = .agg #[.int .i64 u.1, .string u.2]) (hk : (Lit.int .u8 k).wf = true)
    (hK : ∀ w', GB w' b (n + 1) (putL ltZ L k u) → Mdh (fun q => q = b) w w' → wpList Try.prog ops Q rest (a.put o.dst undef) w') : wpList Try.prog ops Q (o :: rest) a w := by
  obtain ⟨D, h1, h2⟩ := h
  refine wpList_mapUpdate_own w hg m x v 30 hop 5 26 lawB Try.underlying30 prE b n D hm h1 (by unfold maxLen; omega) _ _ (kb k) hx hv (keyOf_int_mk Try.underlying5 hk) _ [] (prE_mk u) ?_
  intro w' h3 h4
  exact hK w' ⟨_, h3, h2.put k u⟩ (md_of_grownB h4)
theorem gb_len_run {w : World} {b n : Nat} {L : List Itbp} (h : GB w b n L) (ty : TypeId) : (Builtin.len_ #[30] ty #[.map (some b)]).run Try.prog w = .ok (.int .i64 L.length) w := by
  obtain ⟨D, h1, h2⟩ := h
  rw [h1.len Try.underlying30, h2.sz]
set_option maxRecDepth 40000 in
theorem neqP_run (a : Int) (s : ByteArray) (w : World) : (binOp .neq 26 (.agg #[.int .i64 a, .string s]) (.agg #[.int .i64 a, .string s])).run Try.prog w = .ok (.bool false) w := by
  rw [run_neq_struct]
  have h : (Op.equalIn 10000 26 (.agg #[.int .i64 a, .string s]) (.agg #[.int .i64 a, .string s])).run Try.prog w = .ok true w := by
    simp [go_sem]
  rw [h]
  rfl
theorem neqLook_run (L : List Itbp) (k : Int) (w : World) : (binOp .neq 26 (lookVbp L k) (lookVbp L k)).run Try.prog w = .ok (.bool false) w := by
  unfold lookVbp
  cases look ltZ L k <;> exact neqP_run _ _ _

/-! ### Side by side -/
def omA (b : Nat) (v : Value) (L : List Itbp) : Asn := ⟨fun k => k = b ∨ v.ownBlock = some k, fun w => OMbp w b v L, fun h m hs => h.mdh m hs, fun h k hk => hk.elim (fun e => e ▸ blkLt h.blk) (fun e => h.own.lt e)⟩
def oiA (b : Nat) (v : Value) (L : List Itbi) : Asn := ⟨fun k => k = b ∨ v.ownBlock = some k, fun w => OMbi w b v L, fun h m hs => h.mdh m hs, fun h k hk => hk.elim (fun e => e ▸ blkLt h.blk) (fun e => h.own.lt e)⟩
def gbA (b n : Nat) (L : List Itbp) : Asn := ⟨fun k => k = b, fun w => GB w b n L, fun h m hs => h.mdh m (hs b rfl), fun h k hk => by subst hk; exact h.lt⟩
/-- The pointers of L2 lead to the numbers of L1. -/
def PT (L1 : List Itbp) (L2 : List Itbi) (w : World) : Prop := (∀ k, (look ltZ L1 k).isSome = (look ltZ L2 k).isSome) ∧ ∀ k u, look ltZ L1 k = some u → ∃ q, look ltZ L2 k = some (some ⟨q, 0, none⟩) ∧ w.heap[q]? = some (.cells #[.int .i64 u.1] 3)
def ptA (L1 : List Itbp) (L2 : List Itbi) : Asn := ⟨fun q => ∃ k, look ltZ L2 k = some (some ⟨q, 0, none⟩), fun w => PT L1 L2 w,
  fun {w w' T} h m hs => ⟨h.1, fun k u hu => by
    obtain ⟨q, h1, h2⟩ := h.2 k u hu
    exact ⟨q, h1, m.blk h2 (hs q ⟨k, h1⟩)⟩⟩,
  fun {w} h q hq => by
    obtain ⟨k, hk⟩ := hq
    have h1 := h.1 k
    rw [hk] at h1
    obtain ⟨u, hu⟩ := Option.isSome_iff_exists.1 h1
    obtain ⟨q', h2, h3⟩ := h.2 k u hu
    rw [hk] at h2
    simp only [Option.some.injEq, Addr.mk.injEq, and_true] at h2
    subst h2
    exact blkLt h3⟩
theorem PT.put {w : World} {L1 : List Itbp} {L2 : List Itbi} (s1 : Srt ltZ L1) (s2 : Srt ltZ L2) (h : PT L1 L2 w) (k : Int) (u : Pr) (q : Nat) (hq : w.heap[q]? = some (.cells #[.int .i64 u.1] 3)) : PT (putL ltZ L1 k u) (putL ltZ L2 k (some ⟨q, 0, none⟩)) w := by
  refine ⟨fun k' => ?_, fun k' u' hu' => ?_⟩
  · rw [put_look ordZ s1, put_look ordZ s2]
    split
    · rfl
    · exact h.1 k'
  · rw [put_look ordZ s1] at hu'
    rw [put_look ordZ s2]
    by_cases e : k' = k
    · rw [if_pos e] at hu' ⊢
      injection hu' with hu'
      subst hu'
      exact ⟨q, rfl, hq⟩
    · rw [if_neg e] at hu' ⊢
      exact h.2 k' u' hu'
/-- Two things become one. -/
theorem SW.join {w0 w : World} {A B C : Asn} {R : List Asn} (h : SW w0 (A :: B :: R) w) (hC : C.P w) (hS : ∀ k, C.S k → A.S k ∨ B.S k) : SW w0 (C :: R) w := by
  have hp := h.s.2
  have h1 := List.pairwise_cons.1 hp
  have h2 := List.pairwise_cons.1 h1.2
  refine ⟨h.g, ⟨fun D hD => ?_, List.pairwise_cons.2 ⟨fun D hD k hk hd => ?_, h2.2⟩⟩, fun D hD k hk => ?_⟩
  · rcases List.mem_cons.1 hD with rfl | hD
    · exact hC
    · exact h.s.1 D (by simp [hD])
  · rcases hS k hk with ha | hb
    · exact h1.1 D (by simp [hD]) k ha hd
    · exact h2.1 D hD k hb hd
  · rcases List.mem_cons.1 hD with rfl | hD
    · exact (hS k hk).elim (h.n A (by simp) k) (h.n B (by simp) k)
    · exact h.n D (by simp [hD]) k hk
theorem look_len {L1 : List Itbp} {L2 : List Itbi} (h : ∀ k, (look ltZ L1 k).isSome = (look ltZ L2 k).isSome) (hl : L1.length = L2.length) (k : Int) (u : Pr) (p : Option Addr) : (putL ltZ L1 k u).length = (putL ltZ L2 k p).length := by
  rw [put_length, put_length, hl]
  have := h k
  cases h1 : look ltZ L1 k <;> cases h2 : look ltZ L2 k <;> simp_all

/-! ### Len, yieldsTwo -/
theorem Lenbp (p : Option Addr) (v : Value) (L : List Itbp) (w : World) (h : VWbp w p v L) :
    Calls Try.prog 11 #[.pointer p] w fun e w' => e = .returned (.int .i64 L.length) ∧ w = w' := by
  obtain ⟨a, cap, rfl, hnc, hcm, hat⟩ := h.at
  have H := Lib.hid h
  clear h hat
  go_enter Try.func11, Try.ntmps11
  go_wp2_with (go_at_call 21; refine (itemsbp p _ L _ H.out).mono ?_; rintro e w1 ⟨rfl, rfl⟩)
  go_ret
  exact ⟨rfl, rfl⟩
theorem Lenbi (p : Option Addr) (v : Value) (L : List Itbi) (w : World) (h : VWbi w p v L) :
    Calls Try.prog 12 #[.pointer p] w fun e w' => e = .returned (.int .i64 L.length) ∧ w = w' := by
  obtain ⟨a, cap, rfl, hnc, hcm, hat⟩ := h.at
  have H := Lib.hid h
  clear h hat
  go_enter Try.func12, Try.ntmps12
  go_wp2_with (go_at_call 22; refine (itemsbi p _ L _ H.out).mono ?_; rintro e w1 ⟨rfl, rfl⟩)
  go_ret
  exact ⟨rfl, rfl⟩
theorem yieldsTwobp (fn : Nat) (caps : Array Value) (w : World) : Calls Try.prog 8 #[.func (.func fn) #[] caps] w fun e w' => e = .returned (.func (.func fn) #[] caps) ∧ w = w' := by
  have k1 : ∀ w : World, (binOp .eql 36 (.func (.func fn) #[] caps) .nilFunc).run Try.prog w = .ok (.bool false) w := fun w => by kernel_rfl
  go_enter Try.func8, Try.ntmps8
  go_wp2
  go_ret
  exact ⟨rfl, rfl⟩
end Go.Proofs.Ytemjnppplmankaa

/- OrdmapTypes answers true. -/
set_option linter.unusedVariables false
set_option linter.unusedSimpArgs false
namespace Go.Proofs.Ytemjnppplmankaa
open Go.RowKit Go.Shelf Go.Maps
attribute [local go_sem] OvM cell_ovm obj_ovm
attribute [local go_sem] Oper.semAt_some
/-- Bytes lie at a. -/
def ByA (w : World) (a : Option Addr) (l : List Int) : Prop :=
  ∀ i x, l[i]? = some x → ∃ b off, a = some ⟨b, off, none⟩ ∧ b < w.heap.size ∧ w.cell? ⟨b, off + i, none⟩ = some (.int .u8 x) ∧ 0 ≤ x ∧ x ≤ 255
theorem ByA.gr {w w' : World} {a : Option Addr} {l : List Int} (h : ByA w a l) (g : Gr w w') : ByA w' a l := fun i x hx => by
  obtain ⟨b, off, e, h1, h2, h3⟩ := h i x hx
  exact ⟨b, off, e, Nat.lt_of_lt_of_le h1 g.sz, g.keep h2, h3⟩
/-- What lies in the loop. -/
def tyL (br b1 b2 bw b4 b5 : Nat) (v1 v2 : Value) (L1 : List Itbp) (L2 : List Itbi) (j : Nat) : List Asn :=
  [omA b1 v1 L1, oiA b2 v2 L2, gbA bw j L1, ptA L1 L2, blkA b4 (.cells #[.pointer (some ⟨b2, 0, none⟩)] 27), blkA b5 (.cells #[.map (some bw)] 30), blkA br (.cells #[.bool false] 4)]
theorem SW.omS {w0 w w' : World} {R : List Asn} {i b : Nat} {v : Value} {L L' : List Itbp} (h : SW w0 R w) (hi : R[i]? = some (omA b v L)) (hp : OMPostbp b v L' w w') : ∃ v', SW w0 (R.set i (omA b v' L')) w' := by
  obtain ⟨v', h1, h2, h3⟩ := hp
  exact ⟨v', h.at (B := omA b v' L') hi h3 (fun k hk => .inl hk) h1 (fun k hk => hk.elim (fun e => .inl (.inl e)) (fun e => (h2 k e).imp .inr id))⟩
theorem SW.oiS {w0 w w' : World} {R : List Asn} {i b : Nat} {v : Value} {L L' : List Itbi} (h : SW w0 R w) (hi : R[i]? = some (oiA b v L)) (hp : OMPostbi b v L' w w') : ∃ v', SW w0 (R.set i (oiA b v' L')) w' := by
  obtain ⟨v', h1, h2, h3⟩ := hp
  exact ⟨v', h.at (B := oiA b v' L') hi h3 (fun k hk => .inl hk) h1 (fun k hk => hk.elim (fun e => .inl (.inl e)) (fun e => (h2 k e).imp .inr id))⟩
theorem lookV_none {L : List Itbp} {k : Int} (h : look ltZ L k = none) : lookVbp L k = .agg #[.int .i64 0, .string ⟨#[]⟩] ∧ hasBbp L k = false := ⟨by unfold lookVbp; rw [h], by unfold hasBbp; rw [h]; rfl⟩
theorem lookV_some {L : List Itbp} {k : Int} {u : Pr} (h : look ltZ L k = some u) : lookVbp L k = .agg #[.int .i64 u.1, .string u.2] ∧ hasBbp L k = true := ⟨by unfold lookVbp; rw [h], by unfold hasBbp; rw [h]; rfl⟩
theorem lookI_none {L : List Itbi} {k : Int} (h : look ltZ L k = none) : lookVbi L k = .pointer none ∧ hasBbi L k = false := ⟨by unfold lookVbi; rw [h], by unfold hasBbi; rw [h]; rfl⟩
theorem lookI_some {L : List Itbi} {k : Int} {u : Option Addr} (h : look ltZ L k = some u) : lookVbi L k = .pointer u ∧ hasBbi L k = true := ⟨by unfold lookVbi; rw [h], by unfold hasBbi; rw [h]; rfl⟩
theorem SW.tyR {w0 w : World} {br b1 b2 bw b4 b5 q j : Nat} {v1 v2 : Value} {L1 L1' : List Itbp} {L2 L2' : List Itbi} {k : Int} {u : Pr} {A B : Asn} (s1 : Srt ltZ L1) (s2 : Srt ltZ L2)
    (h : SW w0 (A :: blkA q (.cells #[.int .i64 u.1] 3) :: B :: [omA b1 v1 L1', oiA b2 v2 L2', gbA bw j L1', ptA L1 L2, blkA b4 (.cells #[.pointer (some ⟨b2, 0, none⟩)] 27), blkA b5 (.cells #[.map (some bw)] 30), blkA br (.cells #[.bool false] 4)]) w)
    (e1 : L1' = putL ltZ L1 k u) (e2 : L2' = putL ltZ L2 k (some ⟨q, 0, none⟩)) : SW w0 (tyL br b1 b2 bw b4 b5 v1 v2 L1' L2' j) w := by
  have h1 := h.pick (i := 6) rfl
  have hq : w.heap[q]? = some (.cells #[.int .i64 u.1] 3) := h.get (i := 1) rfl
  have hp : PT L1 L2 w := h.get (i := 6) rfl
  have h2 : SW w0 (blkA q (.cells #[.int .i64 u.1] 3) :: ptA L1 L2 :: ([A, B] ++ [omA b1 v1 L1', oiA b2 v2 L2', gbA bw j L1', blkA b4 (.cells #[.pointer (some ⟨b2, 0, none⟩)] 27), blkA b5 (.cells #[.map (some bw)] 30), blkA br (.cells #[.bool false] 4)])) w := SW.pick (i := 2) h1 rfl
  have h3 := SW.join (C := ptA L1' L2') h2 (by subst e1 e2; exact hp.put s1 s2 k u q hq) (by
    rintro k' ⟨κ, hκ⟩
    rw [e2, put_look ordZ s2] at hκ
    split at hκ
    · simp only [Option.some.injEq, Addr.mk.injEq, and_true] at hκ
      exact .inl hκ.symm
    · exact .inr ⟨κ, hκ⟩)
  have h4 := h3.sub ((List.sublist_append_right [A, B] _).cons_cons _)
  exact h4.perm (List.perm_middle (l₁ := [_, _, _]) (l₂ := [_, _, _])).symm
def lastP (pre : List Itbp) : Int := (pre.getLast?.map (·.1)).getD (-1)
theorem lastP_snoc (pre : List Itbp) (x : Itbp) : lastP (pre ++ [x]) = x.1 := by unfold lastP; simp
theorem lastP_lt {L pre : List Itbp} {x : Itbp} (hs : Srt ltZ L) (hp : pre ++ [x] <+: L) (hb : ∀ e ∈ L, 0 ≤ e.1 ∧ e.1 ≤ 255) : lastP pre < x.1 ∧ -1 ≤ lastP pre ∧ lastP pre ≤ 255 := by
  have hs' : Srt ltZ (pre ++ [x]) := hs.sublist hp.sublist
  have hx := hb x (hp.subset (by simp))
  rcases List.eq_nil_or_concat pre with rfl | ⟨ini, y, rfl⟩
  · exact ⟨by show (-1 : Int) < _; omega, by show (-1 : Int) ≤ -1; omega, by show (-1 : Int) ≤ 255; omega⟩
  · rw [List.concat_eq_append] at hs' hp ⊢
    rw [lastP_snoc]
    have h := (List.pairwise_append.1 hs').2.2 y (by simp) x (by simp)
    have hy := hb y (hp.subset (by simp))
    simp [ltZ] at h
    exact ⟨h, by omega, by omega⟩
theorem strOf_nil : strOfNums [] = ⟨#[]⟩ := rfl
set_option maxRecDepth 100000 in
set_option maxHeartbeats 16000000 in
theorem Types_any (a : Option Addr) (len cap : Nat) (l : List Int) (w : World) (hl : l.length = len) (hle : len ≤ cap) (hcap : cap ≤ maxLen) (hs : ByA w a l) :
    Calls Try.prog 3 #[.slice a len cap] w fun e w' => e = .returned (.bool true) ∧ Gr w w' := by
  have hmm := @run_makeMap Try.prog
  refine calls_of_wp_marks Try.func3 rfl ?_
  simp only [Try.ntmps3, List.size_toArray, List.length_cons, List.length_nil, Nat.reduceAdd, Nat.reduceSub, Array.replicate_succ, Array.replicate_zero, List.push_toArray, List.append_toArray, List.nil_append, List.cons_append]
  obtain ⟨wa, hwa⟩ : ∃ wa, wa = w.alloc (.cells #[.bool false] 4) := ⟨_, rfl⟩
  obtain ⟨br, hbr⟩ : ∃ b, b = w.heap.size := ⟨_, rfl⟩
  have HSA : Hid (SW w [blkA br (.cells #[.bool false] 4)] wa) := Lib.hid (by rw [hwa, hbr]; exact (SW.start w).alloc _)
  have HWA : Hid (wa = w.alloc (.cells #[.bool false] 4) ∧ br = w.heap.size) := Lib.hid ⟨hwa, hbr⟩
  clear hwa hbr
  have HS := Lib.hid hs
  have HL := Lib.hid hl
  unfold maxLen at hcap
  have HCAP := Lib.hid (And.intro hle hcap)
  clear hs hl hle hcap
  go_wp2_with fail
  rw [← HWA.out.1, ← HWA.out.2]
  refine (NewObp wa).mono ?_
  rintro e w1 ⟨rfl, hom1, hg1⟩
  obtain ⟨b1, hb1⟩ : ∃ b, b = wa.heap.size := ⟨_, rfl⟩
  rw [← hb1] at hom1 ⊢
  have HS1 : Hid (SW w [omA b1 (.slice none 0 0) [], blkA br (.cells #[.bool false] 4)] w1) := Lib.hid (HSA.out.new hg1 (A := omA b1 (.slice none 0 0) []) hom1 (fun k hk => hk.elim (fun e => by omega) (fun e => by cases e)))
  clear hom1 hg1 hb1 HSA
  go_wp2_with fail
  refine (NewObi w1).mono ?_
  rintro e w2 ⟨rfl, hom2, hg2⟩
  obtain ⟨b2, hb2⟩ : ∃ b, b = w1.heap.size := ⟨_, rfl⟩
  rw [← hb2] at hom2 ⊢
  have HS2 : Hid (SW w [oiA b2 (.slice none 0 0) [], omA b1 (.slice none 0 0) [], blkA br (.cells #[.bool false] 4)] w2) := Lib.hid (HS1.out.new hg2 (A := oiA b2 (.slice none 0 0) []) hom2 (fun k hk => hk.elim (fun e => by omega) (fun e => by cases e)))
  clear hom2 hg2 hb2 HS1
  obtain ⟨n, hn⟩ : ∃ n : Nat, n = min len 100 := ⟨_, rfl⟩
  have HN : Hid (n ≤ 100 ∧ n ≤ len ∧ n ≤ cap) := Lib.hid ⟨by omega, by omega, by have := HCAP.out; omega⟩
  obtain ⟨b4, hb4⟩ : ∃ q, q = w2.heap.size := ⟨_, rfl⟩
  obtain ⟨w3, hw3⟩ : ∃ y, y = ((w2.alloc (.cells #[.pointer (some ⟨b2, 0, none⟩)] 27)).alloc (.map #[] 0)).alloc (.cells #[.map (some (b4 + 1))] 30) := ⟨_, rfl⟩
  have HS3 : Hid (SW w (tyL br b1 b2 (b4 + 1) b4 (b4 + 1 + 1) (.slice none 0 0) (.slice none 0 0) [] [] 0) w3) := Lib.hid (by
    have h1 := HS2.out.alloc (.cells #[.pointer (some ⟨b2, 0, none⟩)] 27)
    have h2 := h1.new ((Gr.refl _).alloc (.map #[] 0)) (A := gbA (b4 + 1) 0 []) (by
      have := GB.made (w2.alloc (.cells #[.pointer (some ⟨b2, 0, none⟩)] 27))
      rw [World.size_alloc, ← hb4] at this
      exact this) (fun k hk => by rw [show k = b4 + 1 from hk, World.size_alloc]; omega)
    have h3 := h2.alloc (.cells #[.map (some (b4 + 1))] 30)
    have h4 := h3.new (Gr.refl _) (A := ptA [] []) ⟨fun _ => rfl, fun k u hu => by cases hu⟩ (fun k hk => by obtain ⟨_, hk⟩ := hk; cases hk)
    rw [World.size_alloc, World.size_alloc, ← hb4] at h4
    rw [hw3]
    refine h4.perm ?_
    -- pt, b5, gb, b4, oi, om, br
    refine List.Perm.trans (l₂ := [omA b1 (.slice none 0 0) [], ptA [] [], blkA (b4 + 1 + 1) (.cells #[.map (some (b4 + 1))] 30), gbA (b4 + 1) 0 [], blkA b4 (.cells #[.pointer (some ⟨b2, 0, none⟩)] 27), oiA b2 (.slice none 0 0) [], blkA br (.cells #[.bool false] 4)]) ?_ ?_
    · exact (List.perm_middle (a := omA b1 (.slice none 0 0) []) (l₁ := [_, _, _, _, _]) (l₂ := [_]))
    refine List.Perm.cons _ ?_
    refine List.Perm.trans (List.perm_middle (a := oiA b2 (.slice none 0 0) []) (l₁ := [_, _, _, _]) (l₂ := [_])) (List.Perm.cons _ ?_)
    refine List.Perm.trans (List.perm_middle (a := gbA (b4 + 1) 0 []) (l₁ := [_, _]) (l₂ := [_, _])) (List.Perm.cons _ (List.Perm.cons _ (List.Perm.swap _ _ _))))
  have HB4 := Lib.hid hb4
  have HW3 := Lib.hid hw3
  clear hw3 hb4 HS2
  go_upto_region 3 with fail
  rw [← HB4.out, ← HW3.out]
  go_cut [28, 29, 30] from 24 to 30 (fun t28 t29 t30 wx => t28 = .slice a n cap ∧ t29 = .int .i64 n ∧ t30 = .int .i64 0 ∧ wx = w3)
  case first =>
    obtain ⟨h1, h2⟩ := HCAP.out
    by_cases h100 : (100 : Int) < len
    · have h5 : n = 100 := by omega
      clear hn
      subst h5
      have h3 : (100 : Int) ≤ cap := by omega
      go_wp2
      go_meet
      exact ⟨rfl, rfl, rfl, rfl⟩
    · have h5 : n = len := by omega
      clear hn
      subst h5
      have h3 : (n : Int) ≤ cap := by omega
      go_wp2
      go_meet
      exact ⟨rfl, rfl, rfl, rfl⟩
  case rest =>
    obtain ⟨rfl, rfl, rfl, rfl⟩ := hcut
    clear hn
    go_wp2_with fail
    go_loopw [30] (fun t30 wx => ∃ (j : Nat) (v1 v2 : Value) (L1 : List Itbp) (L2 : List Itbi), j ≤ n ∧ t30 = .int .i64 j ∧ Hid (SW w (tyL br b1 b2 (b4 + 1) b4 (b4 + 1 + 1) v1 v2 L1 L2 j) wx ∧ L1.length = L2.length ∧ ∀ e ∈ L1, 0 ≤ e.1 ∧ e.1 ≤ 255)) (fun t30 _ => n - (intOf t30).toNat)
    case atStart => exact ⟨0, _, _, [], [], by omega, rfl, Lib.hid ⟨HS3.out, rfl, fun e he => by cases he⟩⟩
    case round =>
      obtain ⟨j, v1, v2, L1, L2, hj, rfl, HR⟩ := hrel
      clear HS3 HW3
      by_cases hlt : j < n
      · have hlt' : (j : Int) < n := by omega
        obtain ⟨hn1, hn2, hn3⟩ := HN.out
        obtain ⟨x, hx⟩ : ∃ x, l[j]? = some x := ⟨_, List.getElem?_eq_getElem (by have := HL.out; omega)⟩
        obtain ⟨bs, off, rfl, hbs, c0, hx0, hx1⟩ := HS.out j x hx
        have d0 := HR.out.1.g.keep c0
        have hcv : (convert 22 9 (.slice (some ⟨bs, off, none⟩) j cap)).run Try.prog wr = .ok (.string (strOfNums (l.take j))) wr :=
          run_convert_bytes_arg (P := Try.prog) (w := wr) 22 5 Try.underlying22 Try.underlying5 bs off j cap (l.take j) (by rw [List.length_take]; have := HL.out; omega) (by
            intro i hi
            obtain ⟨y, hy⟩ : ∃ y, l[i]? = some y := ⟨_, List.getElem?_eq_getElem (by have := HL.out; omega)⟩
            obtain ⟨bs', off', e, hbs', c0', _⟩ := HS.out i y hy
            simp only [Option.some.injEq, Addr.mk.injEq, and_true] at e
            obtain ⟨rfl, rfl⟩ := e
            rw [List.getD_eq_getElem?_getD, List.getElem?_take, if_pos hi, hy]
            exact HR.out.1.g.keep c0') 9 Try.underlying9
        generalize strOfNums (l.take j) = s at *
        clear hx c0 hbs
        obtain ⟨bx, hbx⟩ : ∃ q, q = wr.heap.size := ⟨_, rfl⟩
        obtain ⟨w4, hw4⟩ : ∃ y, y = (wr.alloc (.cells #[.int .i64 j, .string s] 26)).alloc (.cells #[.int .i64 j] 3) := ⟨_, rfl⟩
        have H4 : Hid (SW w (blkA (bx + 1) (.cells #[.int .i64 j] 3) :: blkA bx (.cells #[.int .i64 j, .string s] 26) :: tyL br b1 b2 (b4 + 1) b4 (b4 + 1 + 1) v1 v2 L1 L2 j) w4 ∧ L1.length = L2.length) := Lib.hid (by
          refine ⟨?_, HR.out.2.1⟩
          have h1 := (HR.out.1.alloc (.cells #[.int .i64 j, .string s] 26)).alloc (.cells #[.int .i64 j] 3)
          rw [World.size_alloc, ← hbx] at h1
          rw [hw4]
          exact h1)
        have HW4 := Lib.hid (And.intro hbx hw4)
        clear hbx hw4
        have hL1 : L1.length ≤ j := GB.len_le (show GB wr (b4 + 1) j L1 from HR.out.1.get (i := 2) rfl)
        have hPT : PT L1 L2 w4 := H4.out.1.get (i := 5) rfl
        have hpt1 := hPT.1 x
        have hpt2 := hPT.2 x
        have hL2 : L2.length ≤ 100000 := by have := H4.out.2; omega
        clear hPT
        have HSR : Hid (Srt ltZ L1 ∧ Srt ltZ L2) := Lib.hid ⟨(show OMbp w4 b1 v1 L1 from H4.out.1.get (i := 2) rfl).srt, (show OMbi w4 b2 v2 L2 from H4.out.1.get (i := 3) rfl).srt⟩
        have HSR2 : Hid (∀ k, (look ltZ L1 k).isSome = (look ltZ L2 k).isSome) := Lib.hid (show PT L1 L2 w4 from H4.out.1.get (i := 5) rfl).1
        cases hlk : look ltZ L1 x with
        | none =>
          have hlk2 : look ltZ L2 x = none := by rw [hlk] at hpt1; cases h : look ltZ L2 x <;> simp_all
          have HF := Lib.hid (And.intro (lookV_none hlk) (lookI_none hlk2))
          clear hpt1 hpt2 hlk hlk2
          go_wp2_with fail
          rw [← HW4.out.1, ← HW4.out.2]
          refine (Setbp b1 v1 L1 x (j, s) w4 (H4.out.1.get (i := 2) rfl) (by omega)).mono ?_
          rintro e w5 ⟨rfl, hp⟩
          obtain ⟨v1', hS5⟩ := H4.out.1.omS (i := 2) rfl hp
          obtain ⟨b10, hb10⟩ : ∃ q, q = w5.heap.size := ⟨_, rfl⟩
          obtain ⟨w6, hw6⟩ : ∃ y, y = w5.alloc (.cells #[.int .i64 0, .string ⟨#[]⟩] 26) := ⟨_, rfl⟩
          have H6 : Hid (SW w (blkA b10 (.cells #[.int .i64 0, .string ⟨#[]⟩] 26) :: blkA (bx + 1) (.cells #[.int .i64 j] 3) :: blkA bx (.cells #[.int .i64 j, .string s] 26) :: [omA b1 v1' (putL ltZ L1 x (j, s)), oiA b2 v2 L2, gbA (b4 + 1) j L1, ptA L1 L2, blkA b4 (.cells #[.pointer (some ⟨b2, 0, none⟩)] 27), blkA (b4 + 1 + 1) (.cells #[.map (some (b4 + 1))] 30), blkA br (.cells #[.bool false] 4)]) w6) := Lib.hid (by
            have h1 := hS5.alloc (.cells #[.int .i64 0, .string ⟨#[]⟩] 26)
            rw [← hb10] at h1
            rw [hw6]
            exact h1)
          have HW6 := Lib.hid (And.intro hb10 hw6)
          rw [HF.out.1.1, HF.out.1.2]
          clear hp hS5 hb10 hw6
          go_upto_region 9 with fail
          rw [← HW6.out.1, ← HW6.out.2]
          have c4 := (box1 (H6.out.get (i := 7) rfl)).1
          go_wp2_with fail
          refine (Setbi b2 v2 L2 x (some ⟨bx + 1, 0, none⟩) w6 (H6.out.get (i := 4) rfl) (by omega)).mono ?_
          rintro e w7 ⟨rfl, hp⟩
          obtain ⟨v2', hS7⟩ := H6.out.oiS (i := 4) rfl hp
          have H7 := Lib.hid hS7
          have c5 := (box1 (hS7.get (i := 8) rfl)).1
          obtain ⟨c10a, c10b, _⟩ := pr_same (hS7.get (i := 0) rfl)
          obtain ⟨cxa, cxb, _⟩ := pr_same (hS7.get (i := 2) rfl)
          have hlk := fun g => gb_at_run (b := b4 + 1) (n := j) (L := L1) (w := ovm (fun _ => False) w7 g) (GB.mdh (show GB w7 (b4 + 1) j L1 from hS7.get (i := 5) rfl) (ovm_md _ w7 g) (fun h => h)) x (WalkArith.wf_u8 ⟨hx0, hx1⟩)
          rw [HF.out.1.1] at hlk
          have hnq := neqP_run 0 ⟨#[]⟩
          rw [HF.out.2.1, HF.out.2.2]
          clear hp hS7
          go_wp2_with fail
          refine wp_region_flo (fun _ => False) [] [] (by kernel_rfl) (by kernel_rfl) (fun _ h => h.elim) ?_
          refine flo_seg 33 rfl ?_
          simp only [List.take_succ_cons, List.take_zero, List.drop_succ_cons, List.drop_zero]
          repeat (go_big_quiet_step (fail))
          refine wpQuiet_nil ?_
          refine flo_nil ?_
          obtain ⟨w8, hw8⟩ : ∃ y, y = w7.drew := ⟨_, rfl⟩
          have hS8 := H7.out.gr (Gr.refl w7).drew
          rw [← hw8] at hS8
          have H8 := Lib.hid hS8
          rw [← hw8]
          have c5 := (box1 (hS8.get (i := 8) rfl)).1
          obtain ⟨cxa, cxb, _⟩ := pr_same (hS8.get (i := 2) rfl)
          clear hw8 hS8 hlk hnq c10a c10b H7 H6 H4 HW4 HW6
          go_wp2_with (first
            | (at_mapUpdate; refine wpList_gb_set _ rfl (.tmp 90) (.tmp 91) (.tmp 92) rfl (b4 + 1) j L1 rfl (H8.out.get (i := 5) rfl) (by omega) x (j, s) rfl rfl (WalkArith.wf_u8 ⟨hx0, hx1⟩) ?_; intro w9 hgb9 hmd9; have H9 := Lib.hid (And.intro hgb9 hmd9); clear hgb9 hmd9)
            | fail)
          have HS9 := Lib.hid (SW.tyR (k := x) (u := ((j : Int), s)) (HSR.out.1) (HSR.out.2) (H8.out.at (i := 5) (B := gbA (b4 + 1) (j + 1) (putL ltZ L1 x (j, s))) rfl H9.out.2 (fun k hk => .inl hk) H9.out.1 (fun k hk => .inl hk)) rfl rfl)
          go_roundw
          case rel => exact ⟨j + 1, v1', v2', _, _, by omega, by go_num, Lib.hid ⟨HS9.out, look_len HSR2.out HR.out.2.1 x _ _, fun e he => ((put_mem ordZ HSR.out.1 x _ e).1 he).elim (fun h => by subst h; exact ⟨hx0, hx1⟩) (fun h => HR.out.2.2 e h.1)⟩⟩
          case measure => simp [intOf]; omega
        | some u =>
          obtain ⟨o1, o2⟩ := u
          obtain ⟨q, hq, _⟩ := hpt2 _ hlk
          have HF := Lib.hid (And.intro (lookV_some hlk) (lookI_some hq))
          have HLK := Lib.hid (And.intro hlk hq)
          clear hpt1 hpt2 hlk hq
          go_wp2_with fail
          rw [← HW4.out.1, ← HW4.out.2]
          refine (Setbp b1 v1 L1 x (j, s) w4 (H4.out.1.get (i := 2) rfl) (by omega)).mono ?_
          rintro e w5 ⟨rfl, hp⟩
          obtain ⟨v1', hS5⟩ := H4.out.1.omS (i := 2) rfl hp
          obtain ⟨b10, hb10⟩ : ∃ q, q = w5.heap.size := ⟨_, rfl⟩
          obtain ⟨w6, hw6⟩ : ∃ y, y = w5.alloc (.cells #[.int .i64 o1, .string o2] 26) := ⟨_, rfl⟩
          have H6 : Hid (SW w (blkA b10 (.cells #[.int .i64 o1, .string o2] 26) :: blkA (bx + 1) (.cells #[.int .i64 j] 3) :: blkA bx (.cells #[.int .i64 j, .string s] 26) :: [omA b1 v1' (putL ltZ L1 x (j, s)), oiA b2 v2 L2, gbA (b4 + 1) j L1, ptA L1 L2, blkA b4 (.cells #[.pointer (some ⟨b2, 0, none⟩)] 27), blkA (b4 + 1 + 1) (.cells #[.map (some (b4 + 1))] 30), blkA br (.cells #[.bool false] 4)]) w6) := Lib.hid (by
            have h1 := hS5.alloc (.cells #[.int .i64 o1, .string o2] 26)
            rw [← hb10] at h1
            rw [hw6]
            exact h1)
          have HW6 := Lib.hid (And.intro hb10 hw6)
          rw [HF.out.1.1, HF.out.1.2]
          clear hp hS5 hb10 hw6
          go_upto_region 9 with fail
          rw [← HW6.out.1, ← HW6.out.2]
          have c4 := (box1 (H6.out.get (i := 7) rfl)).1
          go_wp2_with fail
          refine (Setbi b2 v2 L2 x (some ⟨bx + 1, 0, none⟩) w6 (H6.out.get (i := 4) rfl) (by omega)).mono ?_
          rintro e w7 ⟨rfl, hp⟩
          obtain ⟨v2', hS7⟩ := H6.out.oiS (i := 4) rfl hp
          have H7 := Lib.hid hS7
          have c5 := (box1 (hS7.get (i := 8) rfl)).1
          obtain ⟨c10a, c10b, _⟩ := pr_same (hS7.get (i := 0) rfl)
          obtain ⟨cxa, cxb, _⟩ := pr_same (hS7.get (i := 2) rfl)
          have hlk := fun g => gb_at_run (b := b4 + 1) (n := j) (L := L1) (w := ovm (fun _ => False) w7 g) (GB.mdh (show GB w7 (b4 + 1) j L1 from hS7.get (i := 5) rfl) (ovm_md _ w7 g) (fun h => h)) x (WalkArith.wf_u8 ⟨hx0, hx1⟩)
          rw [HF.out.1.1] at hlk
          have hnq := neqP_run o1 o2
          rw [HF.out.2.1, HF.out.2.2]
          have cq : w7.cell? ⟨q, 0, none⟩ = some (.int .i64 o1) := by
            obtain ⟨q', h1, h2⟩ := (show PT L1 L2 w7 from hS7.get (i := 6) rfl).2 x (o1, o2) HLK.out.1
            rw [HLK.out.2] at h1
            simp only [Option.some.injEq, Addr.mk.injEq, and_true] at h1
            subst h1
            exact (box1 h2).1
          clear hp hS7
          go_wp2_with fail
          refine wp_region_flo (fun _ => False) [] [] (by kernel_rfl) (by kernel_rfl) (fun _ h => h.elim) ?_
          refine flo_seg 33 rfl ?_
          simp only [List.take_succ_cons, List.take_zero, List.drop_succ_cons, List.drop_zero]
          repeat (go_big_quiet_step (fail))
          refine wpQuiet_nil ?_
          refine flo_nil ?_
          obtain ⟨w8, hw8⟩ : ∃ y, y = w7.drew := ⟨_, rfl⟩
          have hS8 := H7.out.gr (Gr.refl w7).drew
          rw [← hw8] at hS8
          have H8 := Lib.hid hS8
          rw [← hw8]
          have c5 := (box1 (hS8.get (i := 8) rfl)).1
          obtain ⟨cxa, cxb, _⟩ := pr_same (hS8.get (i := 2) rfl)
          clear hw8 hS8 hlk hnq c10a c10b cq H7 H6 H4 HW4 HW6
          go_wp2_with (first
            | (at_mapUpdate; refine wpList_gb_set _ rfl (.tmp 90) (.tmp 91) (.tmp 92) rfl (b4 + 1) j L1 rfl (H8.out.get (i := 5) rfl) (by omega) x (j, s) rfl rfl (WalkArith.wf_u8 ⟨hx0, hx1⟩) ?_; intro w9 hgb9 hmd9; have H9 := Lib.hid (And.intro hgb9 hmd9); clear hgb9 hmd9)
            | fail)
          have HS9 := Lib.hid (SW.tyR (k := x) (u := ((j : Int), s)) (HSR.out.1) (HSR.out.2) (H8.out.at (i := 5) (B := gbA (b4 + 1) (j + 1) (putL ltZ L1 x (j, s))) rfl H9.out.2 (fun k hk => .inl hk) H9.out.1 (fun k hk => .inl hk)) rfl rfl)
          go_roundw
          case rel => exact ⟨j + 1, v1', v2', _, _, by omega, by go_num, Lib.hid ⟨HS9.out, look_len HSR2.out HR.out.2.1 x _ _, fun e he => ((put_mem ordZ HSR.out.1 x _ e).1 he).elim (fun h => by subst h; exact ⟨hx0, hx1⟩) (fun h => HR.out.2.2 e h.1)⟩⟩
          case measure => simp [intOf]; omega
      · obtain rfl : j = n := by omega
        have hL1 : L1.length ≤ j := GB.len_le (show GB wr (b4 + 1) j L1 from HR.out.1.get (i := 2) rfl)
        have HLE : Hid (L1.length ≤ 100) := Lib.hid (by have := HN.out; omega)
        clear hL1 hlt
        go_wp2_with fail
        obtain ⟨b16, hb16⟩ : ∃ q, q = wr.heap.size := ⟨_, rfl⟩
        obtain ⟨w4, hw4⟩ : ∃ y, y = wr.alloc (.cells #[.int .i64 (-1)] 3) := ⟨_, rfl⟩
        have H4 : Hid (SW wr [blkA b16 (.cells #[.int .i64 (-1)] 3)] w4) := Lib.hid (by
          rw [hw4, hb16]; exact (SW.start wr).alloc _)
        rw [← hw4, ← hb16]
        have HB16 : Hid (wr.heap.size ≤ b16) := Lib.hid (by omega)
        clear hw4 hb16
        refine (AllObp _ _).mono ?_
        rintro e w5 ⟨bb, rfl, hbb, hlb, hg5⟩
        have H5 := Lib.hid (H4.out.gr hg5)
        have HBB : Hid (w5.cell? ⟨bb, 0, none⟩ = some (.pointer (some ⟨b1, 0, none⟩)) ∧ b16 < bb ∧ wr.heap.size ≤ bb) := Lib.hid ⟨hbb, by have := blkLt (H4.out.get (i := 0) rfl); omega, by have := H4.out.g.sz; omega⟩
        clear hbb hlb hg5 H4
        go_wp2_with fail
        refine (yieldsTwobp _ _ _).mono ?_
        rintro e w6 ⟨rfl, rfl⟩
        have HOM : Hid (OMbp wr b1 v1 L1) := Lib.hid (HR.out.1.get (i := 0) rfl)
        have hA : ∀ k, (k = bb ∨ OMB (some ⟨b1, 0, none⟩) v1 k) → k = bb ∨ k < wr.heap.size := by
          rintro k (rfl | h)
          · exact .inl rfl
          · exact .inr (VWbp.lt (.inl ⟨b1, rfl, HOM.out⟩) k h)
        have HA : Hid (∀ k, (k = bb ∨ OMB (some ⟨b1, 0, none⟩) v1 k) → k < w5.heap.size) := Lib.hid (fun k hk => by
          have h5 := H5.out.g.sz
          have h9 := World.block_lt_of_cell? w5 ⟨bb, 0, none⟩ HBB.out.1
          simp only at h9
          rcases hA k hk with rfl | h <;> omega)
        have HZ : Hid (SWz wr w5 (fun k => k = bb ∨ OMB (some ⟨b1, 0, none⟩) v1 k) [blkA b16 (.cells #[.int .i64 (lastP [])] 3)] (fun _ => False) w5) := Lib.hid (SWz.start H5.out (fun B hB k hk hk' => by
          simp only [List.mem_singleton] at hB
          subst hB
          obtain rfl : k = b16 := hk
          have h1 := HBB.out.2.1
          have h2 := HB16.out
          rcases hA _ hk' with h | h <;> omega))
        have HSEQ := Lib.hid (SeqAbp (some ⟨b1, 0, none⟩) v1 L1 (by have := HLE.out; omega) bb w5 (.inl ⟨b1, rfl, HOM.out.gr H5.out.g⟩) HBB.out.1)
        clear hA
        go_wp2_with fail
        apply wp_rangeFunc_zx (gf := 19) (lb := #[.pointer (some ⟨bb, 0, none⟩)]) rfl (enters_of Try.func19 (by kernel_rfl) rfl) HSEQ.out (Mdh.refl _ w5) HA.out (fun _ => rfl)
          (fun Z pre X => SWz wr w5 (fun k => k = bb ∨ OMB (some ⟨b1, 0, none⟩) v1 k) [blkA b16 (.cells #[.int .i64 (lastP pre)] 3)] Z X)
          (fun _ _ _ => False) (fun _ _ _ => False)
          (SWz.apart H5.out.g.sz (fun pre => [blkA b16 (.cells #[.int .i64 (lastP pre)] 3)])) apart_no apart_no
          HZ.out (fun Z pre X' h => h.frm H5.out.g) (fun x => .cells #[.int .i64 x.2.1, .string x.2.2] 26)
          _ ?assign ?body ?hend ?hret
        case hret => intro _ _ _ _ _ _ _ h; exact h.elim
        case assign =>
          intro l x bx X' K hbx hK
          dsimp only [encObp]
          gi_wp2
          rw [← hbx]
          exact hK
        case body =>
          intro l Z pre x bx X hI hbx hx hzx hzl hlr hsp
          obtain ⟨x1, x2, x3⟩ := x
          have HI := Lib.hid hI
          have HX := Lib.hid hx
          have hxb := hx
          obtain ⟨q1, q2, _⟩ := pr_same hxb
          have HMEM : Hid (look ltZ L1 x1 = some (x2, x3)) := Lib.hid ((look_mem ordZ HOM.out.srt x1 (x2, x3)).2 (hsp.subset (by simp)))
          obtain ⟨r1, r2, r3⟩ := lastP_lt HOM.out.srt hsp HR.out.2.2
          have hkb := HR.out.2.2 (x1, x2, x3) (hsp.subset (by simp))
          simp only at r1 hkb
          obtain ⟨hx0, hx1⟩ := hkb
          have HSN := Lib.hid (lastP_snoc pre (x1, x2, x3))
          have HG := Lib.hid hI.s.g
          have HP : Hid (PT L1 L2 X) := Lib.hid ((HR.out.1.gr hI.s.g).get (i := 3) rfl)
          obtain ⟨q, hq, hcq⟩ := HP.out.2 x1 (x2, x3) HMEM.out
          have cq := (box1 hcq).1
          have HV1 := Lib.hid (And.intro (lookV_some HMEM.out) (lookI_some hq))
          have HOI : Hid (OMbi X b2 v2 L2) := Lib.hid ((HR.out.1.gr hI.s.g).get (i := 1) rfl)
          have HGB : Hid (GB X (b4 + 1) j L1) := Lib.hid ((HR.out.1.gr hI.s.g).get (i := 2) rfl)
          have c4 := (box1 ((HR.out.1.gr hI.s.g).get (i := 4) rfl)).1
          have c5 := (box1 ((HR.out.1.gr hI.s.g).get (i := 5) rfl)).1
          have hb16 : X.heap[b16]? = some (.cells #[.int .i64 (lastP pre)] 3) := hI.s.get (i := 0) rfl
          obtain ⟨c16, f16⟩ := box1 hb16
          have HB16' := Lib.hid hb16
          have hL2 : L2.length ≤ 1000000 := by have := HR.out.2.1; have := HLE.out; omega
          generalize lastP pre = la at *
          have hle : ¬ x1 ≤ la := by omega
          have hled : decide (x1 ≤ la) = false := decide_eq_false hle
          clear hI hx hxb hq hcq hb16 hsp hzx hzl hlr
          gi_wp2_with (first
            | (refine ⟨trivial, ?_⟩; gi_at_call 10; refine (CallsIn.inRound l (callsIn_wide.2 (Getbi (some ⟨b2, 0, none⟩) v2 L2 x1 X (.inl ⟨b2, rfl, HOI.out⟩) hL2))).mono ?_; rintro e w9 ⟨rfl, hg9⟩; rw [HV1.out.2.1, HV1.out.2.2]; have HG9 := Lib.hid hg9; have e16 := hg9.keep c16; have g16 := (box1 (hg9.blk HB16'.out)).2; have e5 := hg9.keep c5; have eq := hg9.keep cq; have p1 := hg9.keep q1; have p2 := hg9.keep q2; have hlk := fun g => gb_at_run (b := b4 + 1) (n := j) (L := L1) (w := ovm (fun _ => False) w9 g) (GB.mdh (HGB.out.gr hg9) (ovm_md _ w9 g) (fun h => h)) x1 (WalkArith.wf_u8 ⟨hx0, hx1⟩); rw [HV1.out.1.1] at hlk; have hnq := neqP_run x2 x3; clear hg9 c16 f16 c5 cq q1 q2)
            | fail)
          refine wpIn_region_flo (fun _ => trivial) rfl (fun _ => False) [] [] (by kernel_rfl) (by kernel_rfl) (fun _ h => h.elim) ?_
          refine flo_seg 27 rfl ?_
          simp only [List.take_succ_cons, List.take_zero, List.drop_succ_cons, List.drop_zero]
          repeat (go_big_quiet_step (fail))
          refine wpQuiet_nil ?_
          refine flo_nil ?_
          gi_wp2_with fail
          have h2 := HI.out.gr HG9.out
          have h3 := h2.1.box (i := 0) rfl HA.out (((Mdh.refl (fun k => k = b16) w9).setCell (p := ⟨b16, 0, none⟩) rfl (.int .i64 x1)).drew) ((Gr.refl _).drew.blk (blk1 (u := .int .i64 x1) (HG9.out.blk HB16'.out)))
          refine ⟨h2.2.trans h3.2, ?_⟩
          dsimp only
          rw [HSN.out]
          exact h3.1
        case hend =>
          intro Z D xs X hD hZD hcase hdef
          obtain ⟨hxs, hI⟩ := hcase.elim (fun h => h) (fun h => h.2.elim)
          have hxs' : xs = L1 := hxs
          subst hxs'
          have HE := Lib.hid (And.intro hI.s.g (And.intro hD hdef))
          have HRX := Lib.hid (HR.out.1.gr hI.s.g)
          have c4 := (box1 (HRX.out.get (i := 4) rfl)).1
          have c5 := (box1 (HRX.out.get (i := 5) rfl)).1
          have hbr := HRX.out.get (i := 6) rfl
          have cbr := (box1 hbr).1
          have fbr := (box1 hbr).2
          have lbr := blkLt hbr
          have HLL := Lib.hid HR.out.2.1
          have n4 : ¬ b4 = br := HRX.out.get_ne (i := 4) (j := 6) rfl rfl (by decide) b4 rfl
          have n5 : ¬ b4 + 1 + 1 = br := HRX.out.get_ne (i := 5) (j := 6) rfl rfl (by decide) (b4 + 1 + 1) rfl
          have nw : ¬ b4 + 1 = br := HRX.out.get_ne (i := 2) (j := 6) rfl rfl (by decide) (b4 + 1) rfl
          have hml : ∀ g ty, (Builtin.len_ #[30] ty #[.map (some (b4 + 1))]).run Try.prog (ovm (fun q => q = br) X g) = .ok (.int .i64 xs.length) (ovm (fun q => q = br) X g) := fun g ty => gb_len_run (n := j) (GB.mdh (show GB X (b4 + 1) j xs from HRX.out.get (i := 2) rfl) (ovm_md _ X g) nw) ty
          clear hI hcase hdef hD hZD hxs
          dsimp only
          go_upto_region 22 with fail
          have HBR := Lib.hid ((Gr.refl X).drew.blk hbr)
          clear hbr
          have HG := Gr.refl X.drew
          refine wp_region_flo (fun q => q = br) [] [] (by kernel_rfl) (by kernel_rfl) (fun q hq => hq ▸ lbr) ?_
          refine flo_seg 1 rfl ?_
          simp only [List.take_succ_cons, List.take_zero, List.drop_succ_cons, List.drop_zero]
          repeat (go_big_quiet_step (fail))
          refine wpQuiet_nil ?_
          refine flo_eff rfl rfl rfl rfl (fun K hK => ?_)
          go_wp2_with ((go_at_call 11; refine (Lenbp _ v1 xs _ (.inl ⟨b1, rfl, (show OMbp X b1 v1 xs from HRX.out.get (i := 0) rfl).gr (by (repeat (first | (with_reducible exact Gr.refl _) | assumption | (with_reducible apply Gr.from_drew) | (with_reducible apply Gr.alloc) | (with_reducible apply Gr.drew) | (with_reducible refine Gr.trans ?_ (by assumption)) | (with_reducible refine Gr.setCell ?_ (by omega) _))))⟩)).mono ?_; rintro e wz ⟨rfl, rfl⟩))
          refine ⟨by (first | (refine Gr.mdh ?_ _; (repeat (first | (with_reducible exact Gr.refl _) | assumption | (with_reducible apply Gr.from_drew) | (with_reducible apply Gr.alloc) | (with_reducible apply Gr.drew) | (with_reducible refine Gr.trans ?_ (by assumption)) | (with_reducible refine Gr.setCell ?_ (by omega) _))); done) | (repeat (first | (with_reducible exact Mdh.refl _ _) | (with_reducible refine Mdh.setCell ?_ (by simp) _) | (with_reducible refine Mdh.setNew ?_ (by simp) _) | (with_reducible apply Mdh.alloc) | (with_reducible apply Mdh.from_drew) | (with_reducible apply Mdh.drew) | (with_reducible refine Mdh.gr ?_ (by assumption))))), ?_⟩
          refine flo_seg 5 rfl ?_
          simp only [List.take_succ_cons, List.take_zero, List.drop_succ_cons, List.drop_zero]
          repeat (go_big_quiet_step (fail))
          refine wpQuiet_nil ?_
          refine flo_eff rfl rfl rfl rfl (fun K hK => ?_)
          go_wp2_with ((go_at_call 12; refine (Lenbi _ v2 L2 _ (.inl ⟨b2, rfl, (show OMbi X b2 v2 L2 from HRX.out.get (i := 1) rfl).gr (by (repeat (first | (with_reducible exact Gr.refl _) | assumption | (with_reducible apply Gr.from_drew) | (with_reducible apply Gr.alloc) | (with_reducible apply Gr.drew) | (with_reducible refine Gr.trans ?_ (by assumption)) | (with_reducible refine Gr.setCell ?_ (by omega) _))))⟩)).mono ?_; rintro e wz ⟨rfl, rfl⟩; rw [← HLL.out]))
          refine ⟨by (first | (refine Gr.mdh ?_ _; (repeat (first | (with_reducible exact Gr.refl _) | assumption | (with_reducible apply Gr.from_drew) | (with_reducible apply Gr.alloc) | (with_reducible apply Gr.drew) | (with_reducible refine Gr.trans ?_ (by assumption)) | (with_reducible refine Gr.setCell ?_ (by omega) _))); done) | (repeat (first | (with_reducible exact Mdh.refl _ _) | (with_reducible refine Mdh.setCell ?_ (by simp) _) | (with_reducible refine Mdh.setNew ?_ (by simp) _) | (with_reducible apply Mdh.alloc) | (with_reducible apply Mdh.from_drew) | (with_reducible apply Mdh.drew) | (with_reducible refine Mdh.gr ?_ (by assumption))))), ?_⟩
          refine flo_seg 5 rfl ?_
          simp only [List.take_succ_cons, List.take_zero, List.drop_succ_cons, List.drop_zero]
          repeat (go_big_quiet_step (fail))
          refine wpQuiet_nil ?_
          refine flo_eff rfl rfl rfl rfl (fun K hK => ?_)
          go_wp2_with ((go_at_call 13; refine (works_any _).mono ?_; rintro e wz ⟨rfl, hgz⟩; have hbz := hgz.blk HBR.out; have HGZ := Lib.hid hgz; have HBZ := Lib.hid hbz; obtain ⟨cbz, fbz⟩ := box1 hbz; clear hbz))
          refine ⟨by (first | (refine Gr.mdh ?_ _; (repeat (first | (with_reducible exact Gr.refl _) | assumption | (with_reducible apply Gr.from_drew) | (with_reducible apply Gr.alloc) | (with_reducible apply Gr.drew) | (with_reducible refine Gr.trans ?_ (by assumption)) | (with_reducible refine Gr.setCell ?_ (by omega) _))); done) | (repeat (first | (with_reducible exact Mdh.refl _ _) | (with_reducible refine Mdh.setCell ?_ (by simp) _) | (with_reducible refine Mdh.setNew ?_ (by simp) _) | (with_reducible apply Mdh.alloc) | (with_reducible apply Mdh.from_drew) | (with_reducible apply Mdh.drew) | (with_reducible refine Mdh.gr ?_ (by assumption))))), ?_⟩
          refine flo_seg 1 rfl ?_
          simp only [List.take_succ_cons, List.take_zero, List.drop_succ_cons, List.drop_zero]
          repeat (go_big_quiet_step (fail))
          refine wpQuiet_nil ?_
          refine flo_eff rfl rfl rfl rfl (fun K hK => ?_)
          go_wp2
          refine ⟨by (first | (refine Gr.mdh ?_ _; (repeat (first | (with_reducible exact Gr.refl _) | assumption | (with_reducible apply Gr.from_drew) | (with_reducible apply Gr.alloc) | (with_reducible apply Gr.drew) | (with_reducible refine Gr.trans ?_ (by assumption)) | (with_reducible refine Gr.setCell ?_ (by omega) _))); done) | (repeat (first | (with_reducible exact Mdh.refl _ _) | (with_reducible refine Mdh.setCell ?_ (by simp) _) | (with_reducible refine Mdh.setNew ?_ (by simp) _) | (with_reducible apply Mdh.alloc) | (with_reducible apply Mdh.from_drew) | (with_reducible apply Mdh.drew) | (with_reducible refine Mdh.gr ?_ (by assumption))))), ?_⟩
          refine flo_nil ?_
          go_wp2_with fail
          have e1 := HE.out.2.1
          have hlD := blkLt HE.out.2.2
          have e2 := H5.out.g.sz
          have e3 : br < wr.heap.size := blkLt (HR.out.1.get (i := 6) rfl)
          have n0 : D ≠ br := by omega
          have e6 : w.heap.size ≤ br := HR.out.1.n (blkA br (.cells #[.bool false] 4)) (by simp [tyL]) br rfl
          have e7 := HR.out.1.g.sz
          have gz : Gr X wz := (Gr.refl X).drew.trans HGZ.out
          refine retM1 (D := D) (v := .bool true) rfl (blkSetO (gz.blk HE.out.2.2) n0) ?_ ⟨rfl, ?_⟩
          · have h6 := blkSet (j := 0) (u := .bool true) HBZ.out
            have h6' : ((wz.setCell ⟨br, 0, none⟩ (.bool true)).putObj D (.deferred none)).heap[br]? = some (.cells #[.bool true] 4) :=
              (World.putObj_heap_other n0.symm).trans (by simpa using h6)
            have := (box1 h6').1
            simp [results, Try.results3, go_sem, this]
          · exact ((((HR.out.1.g.trans HE.out.1).trans gz)).setCell (by simp; omega) _).putObj (by omega) _
end Go.Proofs.Ytemjnppplmankaa

/- A row of bytes that lies somewhere. -/
set_option linter.unusedVariables false
set_option linter.unusedSimpArgs false
namespace Go.Proofs.Ytemjnppplmankaa
open Go.ChangeShapes Go.WideShapes Go.Deep Go.RowKit
theorem u8_bd {a : Int} (h : (Lit.int .u8 a).wf = true) : 0 ≤ a ∧ a ≤ 255 := by
  have h' : (decide (IntKind.u8.min ≤ a) && decide (a ≤ IntKind.u8.max)) = true := h
  simpa [IntKind.min, IntKind.max, IntKind.signed, IntKind.bits] using h'
theorem open_byts {H : Type} {enc : TypeId × Value → H} {w : World} {base : Nat} {spare : Nat → Bool} {held : Bool} {fuel : Nat} {a : Option Addr} {len cap : Nat} {x : DataW H × List MemPlace}
    (h : DataW.trod enc Try.prog w base spare held fuel 22 (Value.slice a len cap).cells.toList = some x) : len ≤ cap ∧ cap ≤ maxLen ∧ ∃ l : List Int, l.length = len ∧ ByA w a l := by
  rcases open_ints Try.underlying22 Try.underlying5 (by kernel_rfl) h with ⟨hcs, _⟩ | ⟨a', l, c, zs, hcs, _, hl, hm, hz, _, hcell, hwz⟩
  · simp [Value.cells] at hcs
    obtain ⟨rfl, rfl, rfl⟩ := hcs
    exact ⟨by omega, by simp [maxLen], [], rfl, fun i x hx => by simp at hx⟩
  · simp [Value.cells] at hcs
    obtain ⟨rfl, rfl, rfl⟩ := hcs
    have hlz : len ≤ zs.length := by rw [hz]; split <;> omega
    refine ⟨hl, hm, zs.take len, by rw [List.length_take]; omega, fun i x hx => ?_⟩
    have hi : i < len := by
      have := (List.getElem?_eq_some_iff.1 hx).1
      rw [List.length_take] at this
      omega
    rw [List.getElem?_take, if_pos hi] at hx
    have hc := hcell i (by omega)
    rw [List.getD_eq_getElem?_getD, hx, Option.getD_some] at hc
    have hsp : a'.spot = none := spot_add (hcell 0 (by omega))
    obtain ⟨hb, d0⟩ := at_add hc hsp
    have hw := hwz x (List.mem_of_getElem? hx)
    obtain ⟨x0, x1⟩ := u8_bd hw
    exact ⟨_, _, by obtain ⟨b, o, s⟩ := a'; simp_all, hb, d0, x0, x1⟩
end Go.Proofs.Ytemjnppplmankaa
