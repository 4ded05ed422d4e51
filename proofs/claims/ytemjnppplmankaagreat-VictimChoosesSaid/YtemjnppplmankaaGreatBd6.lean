/- An index in memory: the struct, its map from keys to rows of entries, and a row of entries for each slot; no two share a block. -/
import Derived.Test.YtemjnppplmankaaGreatBd3
import Derived.Test.YtemjnppplmankaaGreatBd4
import Derived.Test.YtemjnppplmankaaGreatBd5
import Derived.Test.YtemjnppplmankaaGreatBd2
import Derived.WalkKit
import Derived.WalkSpells
import Derived.WalkLawsBesides
import Derived.Lib.Hide
import Derived.BigQuiet
import Derived.Deep.QuietTactic
import Derived.Deep.DeepMust
import Derived.Lib.Bytealg
import Derived.Laws.RangeString
import Derived.Laws.RangeAny
import Derived.Laws.Externs
import Derived.Shelf.Abstract
import Derived.Shelf.RegionOpen
import Derived.OwnWalkIn
import Derived.TacticsInMore
import Derived.LoopIn
import Derived.Sort.LoopGhostIn
import Derived.RangeFuncCalls
set_option linter.unusedVariables false
set_option linter.unusedSimpArgs false
namespace Go.Proofs.YtemjnppplmankaaGreat
open Go.RowKit

abbrev Sl := Option Addr × Nat × Nat
def slV (s : Sl) : Value := .slice s.1 s.2.1 s.2.2
def enC (e : En) : List Value := [.int .i64 e.seq, .string e.key, .bool e.del, .int .i64 e.slot, .int .i64 e.off, .int .i64 e.size]
def enV (e : En) : Value := .agg #[.int .i64 e.seq, .string e.key, .bool e.del, .int .i64 e.slot, .int .i64 e.off, .int .i64 e.size]
def rowE (l : List En) : List Value := l.flatMap enC
theorem rowE_cons (x : En) (l : List En) : rowE (x :: l) = enC x ++ rowE l := rfl
theorem rowE_app (l m : List En) : rowE (l ++ m) = rowE l ++ rowE m := by simp [rowE]
theorem rowE_len (l : List En) : (rowE l).length = l.length * 6 := by
  induction l with
  | nil => rfl
  | cons x l ih => rw [rowE_cons, List.length_append, ih]; simp [enC]; omega
theorem rowE_one (l : List En) : ∀ u ∈ rowE l, u.oneCell' = true := by
  intro u hu
  simp only [rowE, List.mem_flatMap] at hu
  obtain ⟨x, _, hx⟩ := hu
  simp only [enC, List.mem_cons, List.not_mem_nil, or_false] at hx
  rcases hx with rfl | rfl | rfl | rfl | rfl | rfl <;> rfl
theorem rowE_take (l : List En) (i : Nat) : (rowE l).take (i * 6) = rowE (l.take i) := by
  induction l generalizing i with
  | nil => simp [rowE]
  | cons y l ih =>
    cases i with
    | zero => simp [rowE]
    | succ i =>
      rw [rowE_cons, show (i + 1) * 6 = 6 + i * 6 by omega, List.take_succ_cons, rowE_cons, ← ih i]
      exact List.take_length_add_append (l₁ := enC y) (l₂ := rowE l) (i * 6)
theorem rowE_drop (l : List En) (i : Nat) : (rowE l).drop (i * 6) = rowE (l.drop i) := by
  induction l generalizing i with
  | nil => simp [rowE]
  | cons y l ih =>
    cases i with
    | zero => simp [rowE]
    | succ i =>
      rw [rowE_cons, show (i + 1) * 6 = 6 + i * 6 by omega, List.drop_succ_cons, ← ih i]
      exact List.drop_length_add_append (l₁ := enC y) (l₂ := rowE l) (i * 6)
theorem rowE_get (l : List En) : ∀ i x, l[i]? = some x → ∀ j u, (enC x)[j]? = some u → (rowE l)[i * 6 + j]? = some u := by
  induction l with
  | nil => intro i x h; simp at h
  | cons y l ih =>
    intro i x h j u hu
    have hj : j < 6 := by have := (List.getElem?_eq_some_iff.1 hu).1; simpa [enC] using this
    rw [rowE_cons]
    cases i with
    | zero => simp at h; subst h; rw [List.getElem?_append_left (by simp [enC]; omega)]; simpa using hu
    | succ i =>
      rw [List.getElem?_append_right (by simp [enC]; omega), show (i + 1) * 6 + j - (enC y).length = i * 6 + j by simp [enC]; omega]
      exact ih i x (by simpa using h) j u hu
/-- The cells of an entry in a row. -/
theorem ownE_at {w : World} {v : Value} {l : List En} (h : Own w 89 6 v l.length (rowE l)) : ∃ a cap, v = .slice a l.length cap ∧ l.length ≤ cap ∧ cap ≤ maxLen ∧ ∀ i x, l[i]? = some x → ∃ g, a = some ⟨g, 0, none⟩ ∧ g < w.heap.size ∧ v.ownBlock = some g ∧
    ∀ j u, (enC x)[j]? = some u → w.cell? ⟨g, i * 6 + j, none⟩ = some u := by
  rcases h.2 with ⟨hv, h0⟩ | ⟨g, cap, cur, hv, _, hg, h1, h2, h3, h4⟩
  · have hL : l = [] := List.eq_nil_of_length_eq_zero h0
    subst hL
    exact ⟨none, 0, hv, Nat.le_refl _, by simp [maxLen], fun i x hx => by simp at hx⟩
  · subst hv
    refine ⟨_, cap, rfl, h1, h2, fun i x hx => ⟨g, rfl, blkLt hg, rfl, fun j u hu => ?_⟩⟩
    have hc := h.cells (g := g) rfl
    have hadd : ∀ j, (⟨g, 0, none⟩ : Addr).add j = ⟨g, j, none⟩ := fun j => by unfold Addr.add; split <;> simp_all
    rw [← hadd]
    exact hc _ _ (rowE_get l i x hx j u hu)
def omA (bm : Nat) (v : Value) (KL : List (ByteArray × Sl)) : Asn :=
  ⟨fun k => k = bm ∨ v.ownBlock = some k, fun w => OMsl w bm v KL, fun h m hs => h.mdh m hs, fun {w} h k hk => hk.elim (fun e => e ▸ blkLt h.blk) (fun e => h.own.lt e)⟩
abbrev enA (s : Sl) (l : List En) : Asn := rowA 89 6 (slV s) l.length (rowE l)
def keyRows (KL : List (ByteArray × Sl)) (ks : List (ByteArray × List En)) : List Asn := List.zipWith (fun a b => enA a.2 b.2) KL ks
def slotRows (SL : List Sl) (ls : List (List En)) : List Asn := List.zipWith enA SL ls
/-- Where the parts of an index lie. -/
structure Lay where
  bm : Nat
  v : Value
  sv : Value
  KL : List (ByteArray × Sl)
  SL : List Sl
def Lay.hd (Y : Lay) (b n : Nat) : List Asn := [blkA b (.cells #[.pointer (some ⟨Y.bm, 0, none⟩), Y.sv] 84), omA Y.bm Y.v Y.KL, rowA 85 1 Y.sv n (Y.SL.map slV)]
def Lay.list (Y : Lay) (b : Nat) (X : IX) : List Asn := Y.hd b X.slots.length ++ (keyRows Y.KL X.keys ++ slotRows Y.SL X.slots)
structure Lay.Fit (Y : Lay) (X : IX) : Prop where
  k : Y.KL.map Prod.fst = X.keys.map Prod.fst
  s : Y.SL.length = X.slots.length
/-- An index that was made lies in block b, in the blocks S. -/
structure IXR (w : World) (b : Nat) (X : IX) (S : Nat → Prop) : Prop where
  ok : X.Wf
  pos : X.slots ≠ []
  ex : ∃ Y : Lay, Sep (Y.list b X) w ∧ Y.Fit X ∧ ∀ k, S k ↔ ∃ A ∈ Y.list b X, A.S k
section
variable {w w' : World} {b : Nat} {X : IX} {S : Nat → Prop}
theorem IXR.mdh {T : Nat → Prop} (h : IXR w b X S) (m : Mdh T w w') (hs : ∀ k, S k → ¬ T k) : IXR w' b X S := by
  obtain ⟨h1, h2, Y, h3, h4, h5⟩ := h
  exact ⟨h1, h2, Y, h3.mdh m (fun A hA k hk => hs k ((h5 k).2 ⟨A, hA, hk⟩)), h4, h5⟩
theorem IXR.gr (h : IXR w b X S) (g : Gr w w') : IXR w' b X S := h.mdh (g.mdh fun _ => False) (fun _ _ h => h)
theorem IXR.lt (h : IXR w b X S) : ∀ k, S k → k < w.heap.size := fun k hk => by
  obtain ⟨_, _, Y, h3, _, h5⟩ := h
  obtain ⟨A, hA, hk⟩ := (h5 k).1 hk
  exact h3.lt hA k hk
theorem IXR.self (h : IXR w b X S) : S b := by
  obtain ⟨_, _, Y, h3, _, h5⟩ := h
  exact (h5 b).2 ⟨_, by simp [Lay.list, Lay.hd]; exact .inl rfl, rfl⟩
end
/-- An index as a thing. -/
def ixA (b : Nat) (X : IX) (S : Nat → Prop) : Asn := ⟨S, fun w => IXR w b X S, fun h m hs => h.mdh m hs, fun h => h.lt⟩

/-! ### The parts, found -/
theorem rk_keys {α β : Type} (lt : ByteArray → ByteArray → Bool) (k : ByteArray) : ∀ (L : List (ByteArray × α)) (M : List (ByteArray × β)), L.map Prod.fst = M.map Prod.fst → rk lt L k = rk lt M k
  | [], [], _ => rfl
  | [], _ :: _, h => by simp at h
  | _ :: _, [], h => by simp at h
  | x :: L, y :: M, h => by
    simp only [List.map_cons, List.cons.injEq] at h
    have ih := rk_keys lt k L M h.2
    unfold rk
    rw [h.1, ih]
theorem keys_at {α β : Type} {L : List (ByteArray × α)} {M : List (ByteArray × β)} (h : L.map Prod.fst = M.map Prod.fst) (i : Nat) : (L[i]?).map Prod.fst = (M[i]?).map Prod.fst := by
  have := congrArg (fun l => l[i]?) h
  simpa using this
theorem zip_at {α β γ : Type} (f : α → β → γ) {L : List α} {M : List β} {i : Nat} {a : α} {b : β} (ha : L[i]? = some a) (hb : M[i]? = some b) : (List.zipWith f L M)[i]? = some (f a b) := by
  rw [List.getElem?_zipWith, ha, hb]
section
variable {w : World} {b : Nat} {X : IX} {S : Nat → Prop} {Y : Lay}
theorem Lay.blk (h : Sep (Y.list b X) w) : w.heap[b]? = some (.cells #[.pointer (some ⟨Y.bm, 0, none⟩), Y.sv] 84) := h.get (A := blkA b _) (by simp [Lay.list, Lay.hd])
theorem Lay.om (h : Sep (Y.list b X) w) : OMsl w Y.bm Y.v Y.KL := h.get (A := omA Y.bm Y.v Y.KL) (by simp [Lay.list, Lay.hd])
theorem Lay.srow (h : Sep (Y.list b X) w) : Own w 85 1 Y.sv X.slots.length (Y.SL.map slV) := h.get (A := rowA 85 1 Y.sv X.slots.length (Y.SL.map slV)) (by simp [Lay.list, Lay.hd])
theorem Lay.slot_mem {i : Nat} {s : Sl} {l : List En} (hs : Y.SL[i]? = some s) (hl : X.slots[i]? = some l) : enA s l ∈ Y.list b X :=
  List.mem_append_right _ (List.mem_append_right _ (List.mem_of_getElem? (zip_at enA hs hl)))
theorem Lay.key_mem {i : Nat} {s : ByteArray × Sl} {l : ByteArray × List En} (hs : Y.KL[i]? = some s) (hl : X.keys[i]? = some l) : enA s.2 l.2 ∈ Y.list b X :=
  List.mem_append_right _ (List.mem_append_left _ (List.mem_of_getElem? (zip_at (fun (a : ByteArray × Sl) (b : ByteArray × List En) => enA a.2 b.2) hs hl)))
theorem Lay.Fit.key (f : Y.Fit X) {i : Nat} {l : ByteArray × List En} (hl : X.keys[i]? = some l) : ∃ s, Y.KL[i]? = some (l.1, s) := by
  have := keys_at f.k i
  rw [hl] at this
  cases h : Y.KL[i]? with
  | none => rw [h] at this; cases this
  | some x => rw [h] at this; obtain ⟨x1, x2⟩ := x; exact ⟨x2, by rw [← Option.some.inj this]⟩
theorem Lay.Fit.rkE (f : Y.Fit X) (k : ByteArray) : rk ltS Y.KL k = rk ltS X.keys k := rk_keys _ _ _ _ f.k
theorem Lay.Fit.lookE (f : Y.Fit X) (k : ByteArray) : (look ltS Y.KL k = none ∧ look ltS X.keys k = none) ∨ ∃ s l, look ltS Y.KL k = some s ∧ look ltS X.keys k = some l ∧ Y.KL[rk ltS X.keys k]? = some (k, s) ∧ X.keys[rk ltS X.keys k]? = some (k, l) := by
  have hr := f.rkE k
  cases hl : look ltS X.keys k with
  | some l =>
    have h1 := look_some hl
    obtain ⟨s, hs⟩ := f.key h1
    refine .inr ⟨s, l, ?_, rfl, hs, h1⟩
    unfold look
    rw [hr, hs]
    simp
  | none =>
    refine .inl ⟨?_, rfl⟩
    unfold look at hl ⊢
    rw [hr]
    have := keys_at f.k (rk ltS X.keys k)
    cases h : Y.KL[rk ltS X.keys k]? with
    | none => rfl
    | some x =>
      rw [h] at this
      cases h' : X.keys[rk ltS X.keys k]? with
      | none => rw [h'] at this; cases this
      | some y =>
        rw [h'] at this hl
        have e : x.1 = y.1 := Option.some.inj this
        simp only at hl ⊢
        rw [e]
        split at hl
        · cases hl
        · rename_i hne; rw [if_neg hne]
end
theorem nilRow (w : World) (t : TypeId) (K : Nat) : Own w t K (.slice none 0 0) 0 [] := ⟨by simp, .inl ⟨rfl, rfl⟩⟩
/-- What the map has for a key is the row of its entries. -/
theorem Lay.ofE {w : World} {b : Nat} {X : IX} {Y : Lay} (h : Sep (Y.list b X) w) (f : Y.Fit X) (k : ByteArray) :
    ∃ s : Sl, lookVsl Y.KL k = slV s ∧ Own w 89 6 (slV s) (X.of k).length (rowE (X.of k)) ∧ (X.of k ≠ [] → enA s (X.of k) ∈ Y.list b X) ∧ hasBsl Y.KL k = (look ltS X.keys k).isSome := by
  rcases f.lookE k with ⟨h1, h2⟩ | ⟨s, l, h1, h2, h3, h4⟩
  · refine ⟨(none, 0, 0), by unfold lookVsl; rw [h1]; rfl, ?_, ?_, by unfold hasBsl; rw [h1, h2]; rfl⟩
    · unfold IX.of; rw [h2]; exact nilRow w _ _
    · unfold IX.of; rw [h2]; intro h0; exact absurd rfl h0
  · refine ⟨s, by unfold lookVsl; rw [h1]; rfl, ?_, fun _ => ?_, by unfold hasBsl; rw [h1, h2]; rfl⟩
    · unfold IX.of; rw [h2]; exact h.get (Lay.key_mem h3 h4)
    · unfold IX.of; rw [h2]; exact Lay.key_mem h3 h4
/-- The row of a slot. -/
theorem Lay.slotE {w : World} {b : Nat} {X : IX} {Y : Lay} (h : Sep (Y.list b X) w) (f : Y.Fit X) {s : Int} (hs : X.has s = true) :
    ∃ (i : Nat) (sl : Sl) (g cap : Nat), s = i ∧ i < X.slots.length ∧ Y.SL[i]? = some sl ∧ X.slots[i]? = some (X.slot s) ∧ Y.sv = .slice (some ⟨g, 0, none⟩) X.slots.length cap ∧ X.slots.length ≤ cap ∧ cap ≤ maxLen ∧ w.cell? ⟨g, i, none⟩ = some (slV sl) ∧ Own w 89 6 (slV sl) (X.slot s).length (rowE (X.slot s)) ∧ enA sl (X.slot s) ∈ Y.list b X := by
  obtain ⟨i, rfl, hi⟩ := has_at hs
  have hlt := (List.getElem?_eq_some_iff.1 hi).1
  have hlt2 : i < Y.SL.length := by rw [f.s]; exact hlt
  have hsl : Y.SL[i]? = some (Y.SL[i]'hlt2) := List.getElem?_eq_getElem hlt2
  rcases (Lay.srow h).2 with ⟨_, h0⟩ | ⟨g, cap, cur, hv, _, hg, h1, h2, h3, h4⟩
  · omega
  · have hadd : ∀ j, (⟨g, 0, none⟩ : Addr).add j = ⟨g, j, none⟩ := fun j => by unfold Addr.add; split <;> simp_all
    have hc := (Lay.srow h).cells (g := g) (by rw [hv]; rfl)
    refine ⟨i, _, g, cap, rfl, hlt, hsl, hi, hv, h1, h2, ?_, h.get (Lay.slot_mem hsl hi), Lay.slot_mem hsl hi⟩
    rw [← hadd]
    exact hc i _ (by rw [List.getElem?_map, hsl]; rfl)
end Go.Proofs.YtemjnppplmankaaGreat

/- Contracts of cmp.Compare, cmp.Or, and of how two entries of a key compare. -/
set_option linter.unusedVariables false
set_option linter.unusedSimpArgs false
namespace Go.Proofs.YtemjnppplmankaaGreat
open Go.RowKit
def cmpZ (x y : Int) : Int := if x < y then -1 else if y < x then 1 else 0
theorem isNaN_int (x : Int) (w : World) : Calls Tryz.prog 106 #[.int .i64 x] w fun e w' => e = .returned (.bool false) ∧ w = w' := by
  go_enter Tryz.func106, Tryz.ntmps106
  go_wp2
  go_ret
  exact ⟨rfl, rfl⟩
theorem Compare_int (x y : Int) (w : World) : Calls Tryz.prog 65 #[.int .i64 x, .int .i64 y] w fun e w' => e = .returned (.int .i64 (cmpZ x y)) ∧ w = w' := by
  go_enter Tryz.func65, Tryz.ntmps65
  go_wp2_with (go_at_call 106; refine (isNaN_int _ _).mono ?_; rintro e w' ⟨rfl, rfl⟩)
  all_goals
    go_ret
    exact ⟨ret_int (by unfold cmpZ; (repeat' split) <;> omega), rfl⟩
theorem isNaN_int64 (x : Int) (w : World) : Calls Tryz.prog 133 #[.int .i64 x] w fun e w' => e = .returned (.bool false) ∧ w = w' := by
  go_enter Tryz.func133, Tryz.ntmps133
  go_wp2
  go_ret
  exact ⟨rfl, rfl⟩
theorem Compare_int64 (x y : Int) (w : World) : Calls Tryz.prog 110 #[.int .i64 x, .int .i64 y] w fun e w' => e = .returned (.int .i64 (cmpZ x y)) ∧ w = w' := by
  go_enter Tryz.func110, Tryz.ntmps110
  go_wp2_with (go_at_call 133; refine (isNaN_int64 _ _).mono ?_; rintro e w' ⟨rfl, rfl⟩)
  all_goals
    go_ret
    exact ⟨ret_int (by unfold cmpZ; (repeat' split) <;> omega), rfl⟩

def orL : List Int → Int
  | [] => 0
  | x :: l => if x ≠ 0 then x else orL l
theorem orL2_neg (x y : Int) : orL [x, y] < 0 ↔ (x < 0 ∨ x = 0 ∧ y < 0) := by
  simp only [orL]
  by_cases hx : x = 0
  · subst hx
    by_cases hy : y = 0
    · subst hy; simp
    · simp [hy]
  · simp [hx]
theorem cmpZ_neg (x y : Int) : cmpZ x y < 0 ↔ x < y := by
  unfold cmpZ
  (repeat' split) <;> omega
theorem cmpZ_zero (x y : Int) : cmpZ x y = 0 ↔ x = y := by
  unfold cmpZ
  (repeat' split) <;> omega
theorem orL_stop (l : List Int) (k : Nat) (h : k < l.length) (h0 : l[k]?.getD 0 ≠ 0) : orL (l.drop k) = l[k]?.getD 0 := by
  rw [List.getElem?_eq_getElem h, Option.getD_some] at *
  rw [List.drop_eq_getElem_cons h]
  exact if_pos h0
theorem orL_next (l : List Int) (k : Nat) (h : k < l.length) (h0 : l[k]?.getD 0 = 0) : orL (l.drop k) = orL (l.drop (k + 1)) := by
  rw [List.getElem?_eq_getElem h, Option.getD_some] at h0
  rw [List.drop_eq_getElem_cons h]
  exact if_neg (by simpa using h0)
theorem Or_int (b off len cap : Nat) (l : List Int) (w : World) (hl : l.length = len) (hm : len ≤ 1000)
    (hc : ∀ i, i < len → w.cell? ⟨b, off + i, none⟩ = some (.int .i64 (l[i]?.getD 0))) :
    Calls Tryz.prog 109 #[.slice (some ⟨b, off, none⟩) len cap] w fun e w' => e = .returned (.int .i64 (orL l)) ∧ w = w' := by
  have HL := Lib.hid hl
  clear hl
  have HC := Lib.hid hc
  clear hc
  go_enter Tryz.func109, Tryz.ntmps109
  go_wp2
  go_loop [5, 8] (fun v i => ∃ k : Nat, k ≤ len ∧ i = .int .i64 k ∧ Hid (orL l = orL (l.drop k))) (fun _ i => len - (intOf i).toNat)
  case atStart => exact ⟨0, by omega, rfl, Lib.hid rfl⟩
  case round =>
    obtain ⟨k, hk, rfl, ho⟩ := hrel
    by_cases hlt : k < len
    · have hcell := HC.out k hlt
      by_cases h0 : l[k]?.getD 0 = 0
      · have hn := Lib.hid (orL_next l k (by rw [HL.out]; exact hlt) h0)
        go_wp2
        go_round
        case rel => exact ⟨k + 1, by omega, by go_num, ho.out.trans hn.out⟩
        case measure => simp [intOf]; omega
      · have hn := Lib.hid (orL_stop l k (by rw [HL.out]; exact hlt) h0)
        go_wp2
        go_ret
        exact ⟨ret_int (by rw [ho.out, hn.out]), rfl⟩
    · go_wp2
      go_ret
      exact ⟨ret_int (by rw [ho.out, List.drop_of_length_le (by rw [HL.out]; omega)]; rfl), rfl⟩
theorem Or_two (b : Nat) (x y : Int) (w : World) (h0 : w.cell? ⟨b, 0, none⟩ = some (.int .i64 x)) (h1 : w.cell? ⟨b, 1, none⟩ = some (.int .i64 y)) :
    Calls Tryz.prog 109 #[.slice (some ⟨b, 0, none⟩) 2 2] w fun e w' => e = .returned (.int .i64 (orL [x, y])) ∧ w = w' := by
  refine Or_int b 0 2 2 [x, y] w rfl (by decide) fun i hi => ?_
  match i, hi with
  | 0, _ => simpa using h0
  | 1, _ => simpa using h1
end Go.Proofs.YtemjnppplmankaaGreat

/- The small functions of index: made, has, how entries compare, keys, valid. -/
set_option linter.unusedVariables false
set_option linter.unusedSimpArgs false
namespace Go.Proofs.YtemjnppplmankaaGreat
open Go.RowKit
attribute [local go_sem] OvM cell_ovm obj_ovm

theorem IXR.cells {w : World} {b : Nat} {X : IX} {S : Nat → Prop} (h : IXR w b X S) : ∃ bm g cap, w.cell? ⟨b, 0, none⟩ = some (.pointer (some ⟨bm, 0, none⟩)) ∧ w.cell? ⟨b, 1, none⟩ = some (.slice (some ⟨g, 0, none⟩) X.slots.length cap) ∧ X.slots.length ≤ cap ∧ cap ≤ maxLen ∧ 0 < X.slots.length := by
  obtain ⟨h1, h2, Y, h3, h4, h5⟩ := h
  have hb := Lay.blk h3
  have hp : 0 < X.slots.length := List.length_pos_iff.2 h2
  rcases (Lay.srow h3).2 with ⟨_, h0⟩ | ⟨g, cap, cur, hv, _, hg, c1, c2, c3, c4⟩
  · omega
  · rw [hv] at hb
    exact ⟨Y.bm, g, cap, ((cellsOf hb).1 0).trans rfl, ((cellsOf hb).1 1).trans rfl, c1, c2, hp⟩
/-- A pointer to no index that was made. -/
def IXN (w : World) (p : Option Addr) : Prop := p = none ∨ ∃ b, p = some ⟨b, 0, none⟩ ∧ w.heap[b]? = some (.cells #[.pointer none, .slice none 0 0] 84)
theorem IXN.gr {w w' : World} {p : Option Addr} (h : IXN w p) (g : Gr w w') : IXN w' p := h.imp (fun h => h) (fun ⟨b, e, h⟩ => ⟨b, e, g.blk h⟩)

set_option maxRecDepth 40000 in
theorem made_yes {w : World} {b : Nat} {X : IX} {S : Nat → Prop} (h : IXR w b X S) : Calls Tryz.prog 34 #[.pointer (some ⟨b, 0, none⟩)] w fun e w' => e = .returned (.bool true) ∧ w = w' := by
  obtain ⟨bm, g, cap, c0, c1, c2, c3, c4⟩ := h.cells
  have c5 : (0 : Int) < X.slots.length := by omega
  generalize X.slots.length = n at *
  clear h
  go_enter Tryz.func34, Tryz.ntmps34
  go_wp2
  go_ret
  exact ⟨rfl, rfl⟩
set_option maxRecDepth 40000 in
theorem made_no {w : World} {p : Option Addr} (h : IXN w p) : Calls Tryz.prog 34 #[.pointer p] w fun e w' => e = .returned (.bool false) ∧ w = w' := by
  rcases h with rfl | ⟨b, rfl, h⟩
  · go_enter Tryz.func34, Tryz.ntmps34
    go_wp2
    go_ret
    exact ⟨rfl, rfl⟩
  · have c1 := ((cellsOf h).1 1).trans (show _ = some (Value.slice none 0 0) from rfl)
    clear h
    go_enter Tryz.func34, Tryz.ntmps34
    go_wp2
    go_ret
    exact ⟨rfl, rfl⟩
set_option maxRecDepth 40000 in
theorem has_yes {w : World} {b : Nat} {X : IX} {S : Nat → Prop} (h : IXR w b X S) (s : Int) : Calls Tryz.prog 59 #[.pointer (some ⟨b, 0, none⟩), .int .i64 s] w fun e w' => e = .returned (.bool (X.has s)) ∧ w = w' := by
  obtain ⟨bm, g, cap, c0, c1, c2, c3, c4⟩ := h.cells
  have H := Lib.hid h
  have HB := Lib.hid (show X.has s = decide (0 ≤ s ∧ s < X.slots.length) from rfl)
  rw [HB.out]
  clear h
  go_enter Tryz.func59, Tryz.ntmps59
  go_wp2_with (go_at_call 34; refine (made_yes H.out).mono ?_; rintro e w1 ⟨rfl, rfl⟩)
  all_goals
    go_ret
    exact ⟨ret_bool (by first | (simp_all; done) | (simp_all; omega)), rfl⟩
set_option maxRecDepth 40000 in
theorem has_no {w : World} {p : Option Addr} (h : IXN w p) (s : Int) : Calls Tryz.prog 59 #[.pointer p, .int .i64 s] w fun e w' => e = .returned (.bool false) ∧ w = w' := by
  have H := Lib.hid h
  clear h
  go_enter Tryz.func59, Tryz.ntmps59
  go_wp2_with (go_at_call 34; refine (made_no H.out).mono ?_; rintro e w1 ⟨rfl, rfl⟩)
  go_ret
  exact ⟨rfl, rfl⟩

/-! ### How entries compare -/
def newerZ (a b : En) : Int := orL [cmpZ b.seq a.seq, cmpZ a.slot b.slot]
theorem newer_neg (a b : En) : newerZ a b < 0 ↔ ltE a b = true := by
  unfold newerZ ltE
  rw [orL2_neg, cmpZ_neg, cmpZ_neg, cmpZ_zero]
  simp
  omega
set_option maxRecDepth 40000 in
theorem newer_any (a b : En) (w : World) : Calls Tryz.prog 68 #[enV a, enV b] w fun e w' => e = .returned (.int .i64 (newerZ a b)) ∧ Gr w w' := by
  have HN := Lib.hid (show newerZ a b = orL [cmpZ b.seq a.seq, cmpZ a.slot b.slot] from rfl)
  rw [HN.out]
  obtain ⟨a1, a2, a3, a4, a5, a6⟩ := a
  obtain ⟨b1, b2, b3, b4, b5, b6⟩ := b
  simp only [enV]
  go_enter Tryz.func68, Tryz.ntmps68
  go_wp2_with fail
  have HG := Gr.refl ((w.alloc (.cells #[.int .i64 a1, .string a2, .bool a3, .int .i64 a4, .int .i64 a5, .int .i64 a6] 89)).alloc (.cells #[.int .i64 b1, .string b2, .bool b3, .int .i64 b4, .int .i64 b5, .int .i64 b6] 89)).drew
  refine wp_region_flo (fun _ => False) [] [] (by kernel_rfl) (by kernel_rfl) (fun _ h => h.elim) ?_
  refine flo_seg 4 rfl ?_
  simp only [List.take_succ_cons, List.take_zero, List.drop_succ_cons, List.drop_zero]
  repeat (go_big_quiet_step (fail))
  refine wpQuiet_nil ?_
  refine flo_eff rfl rfl rfl rfl (fun K hK => ?_)
  go_wp2_with ((go_at_call 110; refine (Compare_int64 _ _ _).mono ?_; rintro e w1 ⟨rfl, rfl⟩))
  refine ⟨by (first | (refine Gr.mdh ?_ _; (repeat (first | (with_reducible exact Gr.refl _) | assumption | (with_reducible apply Gr.from_drew) | (with_reducible apply Gr.alloc) | (with_reducible apply Gr.drew) | (with_reducible refine Gr.trans ?_ (by assumption)) | (with_reducible refine Gr.setCell ?_ (by omega) _))); done) | (repeat (first | (with_reducible exact Mdh.refl _ _) | (with_reducible refine Mdh.setCell ?_ (by simp) _) | (with_reducible refine Mdh.setNew ?_ (by simp) _) | (with_reducible apply Mdh.alloc) | (with_reducible apply Mdh.from_drew) | (with_reducible apply Mdh.drew) | (with_reducible refine Mdh.gr ?_ (by assumption))))), ?_⟩
  refine flo_seg 4 rfl ?_
  simp only [List.take_succ_cons, List.take_zero, List.drop_succ_cons, List.drop_zero]
  repeat (go_big_quiet_step (fail))
  refine wpQuiet_nil ?_
  refine flo_eff rfl rfl rfl rfl (fun K hK => ?_)
  go_wp2_with ((go_at_call 65; refine (Compare_int _ _ _).mono ?_; rintro e w1 ⟨rfl, rfl⟩))
  refine ⟨by (first | (refine Gr.mdh ?_ _; (repeat (first | (with_reducible exact Gr.refl _) | assumption | (with_reducible apply Gr.from_drew) | (with_reducible apply Gr.alloc) | (with_reducible apply Gr.drew) | (with_reducible refine Gr.trans ?_ (by assumption)) | (with_reducible refine Gr.setCell ?_ (by omega) _))); done) | (repeat (first | (with_reducible exact Mdh.refl _ _) | (with_reducible refine Mdh.setCell ?_ (by simp) _) | (with_reducible refine Mdh.setNew ?_ (by simp) _) | (with_reducible apply Mdh.alloc) | (with_reducible apply Mdh.from_drew) | (with_reducible apply Mdh.drew) | (with_reducible refine Mdh.gr ?_ (by assumption))))), ?_⟩
  refine flo_eff rfl rfl rfl rfl (fun K hK => ?_)
  go_wp2
  refine ⟨by (first | (refine Gr.mdh ?_ _; (repeat (first | (with_reducible exact Gr.refl _) | assumption | (with_reducible apply Gr.from_drew) | (with_reducible apply Gr.alloc) | (with_reducible apply Gr.drew) | (with_reducible refine Gr.trans ?_ (by assumption)) | (with_reducible refine Gr.setCell ?_ (by omega) _))); done) | (repeat (first | (with_reducible exact Mdh.refl _ _) | (with_reducible refine Mdh.setCell ?_ (by simp) _) | (with_reducible refine Mdh.setNew ?_ (by simp) _) | (with_reducible apply Mdh.alloc) | (with_reducible apply Mdh.from_drew) | (with_reducible apply Mdh.drew) | (with_reducible refine Mdh.gr ?_ (by assumption))))), ?_⟩
  refine flo_eff rfl rfl rfl rfl (fun K hK => ?_)
  go_wp2_with ((go_at_call 109; refine (Or_two _ (cmpZ b1 a1) (cmpZ a4 b4) _ (by simp [go_sem]) (by simp [go_sem])).mono ?_; rintro e w1 ⟨rfl, rfl⟩))
  refine ⟨by (first | (refine Gr.mdh ?_ _; (repeat (first | (with_reducible exact Gr.refl _) | assumption | (with_reducible apply Gr.from_drew) | (with_reducible apply Gr.alloc) | (with_reducible apply Gr.drew) | (with_reducible refine Gr.trans ?_ (by assumption)) | (with_reducible refine Gr.setCell ?_ (by omega) _))); done) | (repeat (first | (with_reducible exact Mdh.refl _ _) | (with_reducible refine Mdh.setCell ?_ (by simp) _) | (with_reducible refine Mdh.setNew ?_ (by simp) _) | (with_reducible apply Mdh.alloc) | (with_reducible apply Mdh.from_drew) | (with_reducible apply Mdh.drew) | (with_reducible refine Mdh.gr ?_ (by assumption))))), ?_⟩
  refine flo_seg 1 rfl ?_
  simp only [List.take_succ_cons, List.take_zero, List.drop_succ_cons, List.drop_zero]
  repeat (go_big_quiet_step (fail))
  refine wpQuiet_nil ?_
  refine flo_nil ?_
  go_wp2
  go_ret
  exact ⟨rfl, (((Gr.refl w).alloc _).alloc _).trans (Gr.of_drew (by (repeat (first | (with_reducible exact Gr.refl _) | assumption | (with_reducible apply Gr.from_drew) | (with_reducible apply Gr.alloc) | (with_reducible apply Gr.drew) | (with_reducible refine Gr.trans ?_ (by assumption)) | (with_reducible refine Gr.setCell ?_ (by omega) _)))))⟩
theorem cmp_off (o : En) (off : Int) (w : World) : Calls Tryz.prog 64 #[enV o, .int .i64 off] w fun e w' => e = .returned (.int .i64 (cmpZ o.off off)) ∧ Gr w w' := by
  obtain ⟨a1, a2, a3, a4, a5, a6⟩ := o
  simp only [enV]
  go_enter Tryz.func64, Tryz.ntmps64
  go_wp2_with (go_at_call 65; refine (Compare_int _ _ _).mono ?_; rintro e w1 ⟨rfl, rfl⟩)
  go_ret
  exact ⟨rfl, by (repeat (first | (with_reducible exact Gr.refl _) | assumption | (with_reducible apply Gr.from_drew) | (with_reducible apply Gr.alloc) | (with_reducible apply Gr.drew) | (with_reducible refine Gr.trans ?_ (by assumption)) | (with_reducible refine Gr.setCell ?_ (by omega) _)))⟩

/-! ### Keys -/
def lettersL : List UInt8 := [45, 46, 48, 49, 50, 51, 52, 53, 54, 55, 56, 57, 95, 97, 98, 99, 100, 101, 102, 103, 104, 105, 106, 107, 108, 109, 110, 111, 112, 113, 114, 115, 116, 117, 118, 119, 120, 121, 122]
theorem letters_key (c : UInt8) : decide (0 ≤ Lib.indexByte lettersL c) = keyC c := by
  have h : ∀ n : Fin 256, decide (0 ≤ Lib.indexByte lettersL (UInt8.ofNat n.val)) = keyC (UInt8.ofNat n.val) := by decide +kernel
  have := h ⟨c.toNat, c.toNat_lt⟩
  simpa using this
set_option maxRecDepth 1000000 in
theorem IndexByte_any (s : ByteArray) (c : Int) (w : World) : Calls Tryz.prog 155 #[.string s, .int .u8 c] w fun e w' => e = .returned (.int .i64 (Lib.indexByte s.data.toList c.toNat.toUInt8)) ∧ w = w' := by
  have h1 : Calls Tryz.prog 161 #[.string s, .int .u8 c] w fun e w' => e = .returned (.int .i64 (Lib.indexByte s.data.toList c.toNat.toUInt8)) ∧ w = w' := by
    go_enter Tryz.func161, Tryz.ntmps161
    go_wp2
    rw [run_callFunc_extern Tryz.func162 (by kernel_rfl) (by kernel_rfl) (by kernel_rfl) (e := Extern.BytealgIndexByte.indexByte) (by kernel_rfl), Lib.run_indexByteString]
    simp only [Result.andThen]
    rw [Oper.upon_value]
    go_wp2
    go_ret
    exact ⟨rfl, rfl⟩
  have H := Lib.hid h1
  clear h1
  go_enter Tryz.func155, Tryz.ntmps155
  go_wp2_with (go_at_call 161; refine H.out.mono ?_; rintro e w1 ⟨rfl, rfl⟩)
  go_ret
  exact ⟨rfl, rfl⟩
set_option maxRecDepth 1000000 in
theorem IndexRune_low (s : ByteArray) (c : Int) (h0 : 0 ≤ c) (h1 : c < 128) (w : World) : Calls Tryz.prog 149 #[.string s, .int .i32 c] w fun e w' => e = .returned (.int .i64 (Lib.indexByte s.data.toList c.toNat.toUInt8)) ∧ w = w' := by
  go_enter Tryz.func149, Tryz.ntmps149
  go_wp2_with (go_at_call 155; refine (IndexByte_any _ _ _).mono ?_; rintro e w1 ⟨rfl, rfl⟩)
  go_ret
  exact ⟨rfl, rfl⟩
set_option maxRecDepth 1000000 in
theorem ContainsRune_low (s : ByteArray) (c : Int) (h0 : 0 ≤ c) (h1 : c < 128) (w : World) : Calls Tryz.prog 129 #[.string s, .int .i32 c] w fun e w' => e = .returned (.bool (decide (0 ≤ Lib.indexByte s.data.toList c.toNat.toUInt8))) ∧ w = w' := by
  go_enter Tryz.func129, Tryz.ntmps129
  go_wp2_with (go_at_call 149; refine (IndexRune_low _ _ h0 h1 _).mono ?_; rintro e w1 ⟨rfl, rfl⟩)
  go_ret
  exact ⟨rfl, rfl⟩
theorem toList_data (k : ByteArray) : k.toList = k.data.toList := ByteArray.toList_eq k
theorem size_data (k : ByteArray) : k.size = k.data.toList.length := Array.length_toList.symm
theorem Check_next (k : ByteArray) (pos : Nat) (h : pos < k.size) : (∀ j (hj : j < k.size), j < pos + 1 → keyC (k[j]'hj) = true) ↔ ((∀ j (hj : j < k.size), j < pos → keyC (k[j]'hj) = true) ∧ keyC (k[pos]'h) = true) :=
  ⟨fun g => ⟨fun j hj hl => g j hj (by omega), g pos h (by omega)⟩, fun ⟨g1, g2⟩ j hj hl => by
    rcases Nat.lt_or_ge j pos with h1 | h1
    · exact g1 j hj h1
    · obtain rfl : j = pos := by omega
      exact g2⟩
theorem all_bytes (k : ByteArray) : k.toList.all keyC = true ↔ ∀ j (hj : j < k.size), keyC (k[j]'hj) = true := by
  rw [toList_data, List.all_eq_true]
  constructor
  · intro h j hj
    exact h _ (by
      have : k.data.toList[j]'(by rw [← size_data]; exact hj) = k[j]'hj := rfl
      rw [← this]; exact List.getElem_mem _)
  · intro h c hc
    obtain ⟨j, hj, rfl⟩ := List.mem_iff_getElem.1 hc
    exact h j (by rw [size_data]; exact hj)
theorem keyChk_bad {k : ByteArray} (j : Nat) (hj : j < k.size) (h : keyC (k[j]'hj) = false) : keyChk k = 2 := by
  unfold keyChk
  rw [if_pos]
  cases e : k.toList.all keyC with
  | false => rfl
  | true => rw [(all_bytes k).1 e j hj] at h; cases h
theorem keyChk_ok {k : ByteArray} (h : ∀ j (hj : j < k.size), keyC (k[j]'hj) = true) : keyChk k = if k.size = 0 then 2 else if 32 < k.size then 12 else 0 := by
  unfold keyChk
  rw [if_neg]
  rw [(all_bytes k).2 h]
  simp
set_option maxRecDepth 1000000 in
theorem ContainsRune_key (c : UInt8) (h : c.toNat < 128) (w : World) : Calls Tryz.prog 129 #[.string ⟨#[45, 46, 48, 49, 50, 51, 52, 53, 54, 55, 56, 57, 95, 97, 98, 99, 100, 101, 102, 103, 104, 105, 106, 107, 108, 109, 110, 111, 112, 113, 114, 115, 116, 117, 118, 119, 120, 121, 122]⟩, .int .i32 c.toNat] w fun e w' => e = .returned (.bool (keyC c)) ∧ w = w' :=
  (ContainsRune_low _ _ (by omega) (by omega) w).mono fun e w' ⟨he, hw⟩ => ⟨by
    rw [he, ← letters_key c, show (Int.toNat (c.toNat : Int)).toUInt8 = c from by rw [Int.toNat_natCast]; simp]
    rfl, hw⟩
def Low (k : ByteArray) : Prop := ∀ j (hj : j < k.size), (k[j]'hj).toNat < 128
set_option maxRecDepth 1000000 in
set_option maxHeartbeats 1000000 in
theorem Check_low (k : ByteArray) (hA : Low k) (hm : k.size ≤ 140737488351232) (w : World) : Calls Tryz.prog 102 #[.string k] w fun e w' => e = .returned (.int .i64 (keyChk k)) ∧ Gr w w' := by
  have HA := Lib.hid hA
  clear hA
  go_enter Tryz.func102, Tryz.ntmps102
  go_wp2_with fail
  go_loopw [] (fun wx => ∃ pos : Nat, pos ≤ k.size ∧ wx = w.iter k pos ∧ Hid (∀ j (hj : j < k.size), j < pos → keyC (k[j]'hj) = true)) (fun wx => k.size - wx.iterPos w.heap.size)
  case atStart => exact ⟨0, by omega, rfl, Lib.hid (fun j _ h => by omega)⟩
  case round =>
    obtain ⟨pos, hp, rfl, H⟩ := hrel
    by_cases hlt : pos < k.size
    · have hnx : ∀ ty, (Instr.next (.pointer (some ⟨w.heap.size, 0, none⟩)) true ty).run Tryz.prog (w.iter k pos) = _ := fun ty => run_next_ascii (P := Tryz.prog) w k pos ty hlt (HA.out pos hlt)
      have HN := Lib.hid (Check_next k pos hlt)
      have hc := HA.out pos hlt
      have HB := Lib.hid (fun h => keyChk_bad (k := k) pos hlt h)
      generalize k[pos]'hlt = c at *
      have h1 : c.toNat < 128 := hc
      cases hk : keyC c with
      | true =>
        have HK := Lib.hid hk
        clear hk
        go_wp2_with (go_at_call 129; refine (ContainsRune_key c h1 _).mono ?_; rintro e w1 ⟨rfl, rfl⟩; rw [HK.out])
        go_roundw
        case rel => exact ⟨pos + 1, by omega, rfl, Lib.hid (HN.out.2 ⟨H.out, HK.out⟩)⟩
        case measure => simp; omega
      | false =>
        have HK := Lib.hid hk
        clear hk
        go_wp2_with (go_at_call 129; refine (ContainsRune_key c h1 _).mono ?_; rintro e w1 ⟨rfl, rfl⟩; rw [HK.out])
        go_ret
        exact ⟨ret_int (HB.out HK.out).symm, (Gr.refl w).alloc _⟩
    · obtain rfl : pos = k.size := by omega
      have hnx : ∀ ty, (Instr.next (.pointer (some ⟨w.heap.size, 0, none⟩)) true ty).run Tryz.prog (w.iter k k.size) = _ := fun ty => run_next_end w k k.size ty (by omega)
      have HE := Lib.hid (keyChk_ok (k := k) (fun j hj => H.out j hj hj))
      clear H
      have hl : k.toList.length = k.size := by rw [toList_data, size_data]
      by_cases h0 : k.size = 0
      · have e0 : k.toList = [] := List.eq_nil_of_length_eq_zero (by omega)
        have HR : Hid (keyChk k = 2) := Lib.hid (by rw [HE.out, if_pos h0])
        clear HE hl h0
        go_wp2
        go_ret
        exact ⟨ret_int HR.out.symm, (Gr.refl w).alloc _⟩
      · have e0 : k.toList.isEmpty = false := by cases hk : k.toList with | nil => rw [hk] at hl; simp at hl; omega | cons a b => rfl
        by_cases h1 : 32 < k.size
        · have h2 : (32 : Int) < k.size := by omega
          have HR : Hid (keyChk k = 12) := Lib.hid (by rw [HE.out, if_neg h0, if_pos h1])
          clear HE hl h0 h1
          go_wp2
          go_ret
          exact ⟨ret_int HR.out.symm, (Gr.refl w).alloc _⟩
        · have h2 : ¬ (32 : Int) < k.size := by omega
          have HR : Hid (keyChk k = 0) := Lib.hid (by rw [HE.out, if_neg h0, if_neg h1])
          clear HE hl h0 h1
          go_wp2
          go_ret
          exact ⟨ret_int HR.out.symm, (Gr.refl w).alloc _⟩
set_option maxRecDepth 40000 in
set_option maxHeartbeats 1000000 in
theorem valid_low (e : En) (hA : Low e.key) (hm : e.key.size ≤ 140737488351232) (w : World) (hs : e.size ≤ 9223372036854775807) (hs' : -9223372036854775808 ≤ e.size) : Calls Tryz.prog 60 #[enV e] w fun e' w' => e' = .returned (.bool (validE e)) ∧ Gr w w' := by
  have HV := Lib.hid (valid_iff e)
  obtain ⟨a1, a2, a3, a4, a5, a6⟩ := e
  have HB : Hid (validE ⟨a1, a2, a3, a4, a5, a6⟩ = decide (keyChk a2 = 0 ∧ 1 ≤ a1 ∧ a1 ≤ 1099511627776 ∧ 0 ≤ a5 ∧ 16 + (a2.size : Int) ≤ a6 ∧ (a6 = 16 + (a2.size : Int) ∨ a3 = false) ∧ a6 ≤ 8192 ∧ a5 ≤ 8192 - a6)) := Lib.hid rfl
  simp only [enV] at *
  have HA := Lib.hid hA
  obtain ⟨c, hc⟩ : ∃ c, c = keyChk a2 := ⟨_, rfl⟩
  have HC := Lib.hid hc
  rw [← hc] at HB
  clear hA hc HV
  go_enter Tryz.func60, Tryz.ntmps60
  go_wp2_with (go_at_call 102; refine (Check_low _ HA.out hm _).mono ?_; rintro e w1 ⟨rfl, hg⟩; rw [← HC.out]; have HG := Lib.hid hg; have c0 := hg.cell; simp only [World.size_alloc] at c0; clear hg)
  all_goals
    go_ret
    have HC' := HC.out
    clear c0 HB HA
    exact ⟨ret_bool (by simp only [validE]; rw [← HC']; clear HC'; first | (simp_all; done) | (simp_all; omega)), ((Gr.refl w).alloc _).trans HG.out⟩
end Go.Proofs.YtemjnppplmankaaGreat

/- The iterators of index: the entries of a key, of a slot; slices.Values. -/
set_option linter.unusedVariables false
set_option linter.unusedSimpArgs false
namespace Go.Proofs.YtemjnppplmankaaGreat
open Go.RowKit Go.Shelf
attribute [local go_sem] OvM cell_ovm obj_ovm
attribute [local go_sem] Oper.semAt_some

def encE (e : En) : Array Value := #[enV e]
theorem SeqZ.any {α : Type} {n : Nat} (m : Nat) {P : Program} {g : Nat} {lb : Array Value} {encs : α → Array Value} {A : Nat → Prop} {S Sp : List α → Prop} {w : World} (h : SeqZ Fence.wide n P g lb encs A S Sp w) : SeqZ Fence.wide m P g lb encs A S Sp w := by
  intro l J Jx W hW hJ hJx hY h0
  exact callsIn_wide.2 (callsIn_wide.1 (h l J Jx W hW hJ hJx (fun Z pre x X hj hs => yield_any (n - 1) (hY Z pre x X hj hs)) h0))

set_option maxRecDepth 40000 in
set_option maxHeartbeats 4000000 in
/-- The elements of a row of entries, one by one. -/
theorem Val1 (v : Value) (L : List En) (hn : L.length ≤ 1000000) (w : World) (h : Own w 89 6 v L.length (rowE L)) (bs : Nat) (hbs : w.cell? ⟨bs, 0, none⟩ = some v) (A : Nat → Prop) (hA1 : A bs) (hA2 : ∀ k, v.ownBlock = some k → A k)
    (l : Nat) (J Jx : (Nat → Prop) → List En → World → Prop) (W : World) (hW : Mdh (fun k => ¬ A k) w W) (hJ : Apart J) (hJx : Apart Jx)
    (hY : ∀ Z pre x X, J Z pre X → (pre ++ [x]) <+: L → YieldAt Fence.wide 1 Tryz.prog l (encE x) X fun e Y =>
      (e = .returned (.bool true) ∧ J Z (pre ++ [x]) Y ∧ Mdh (fun k => ¬ A k ∧ ¬ Z k) X Y) ∨ (e = .returned (.bool false) ∧ Jx Z (pre ++ [x]) Y ∧ Mdh (fun k => ¬ Z k) X Y))
    (h0 : J (fun _ => False) [] W) :
    CallsIn Fence.wide 1 Tryz.prog 131 #[.func (.yield l) #[] #[], .pointer (some ⟨bs, 0, none⟩)] W (SinPost L J Jx) := by
  have HV := Lib.hid (h.mdh hW (fun k hk hn => hn (hA2 k hk)))
  have hbW : W.cell? ⟨bs, 0, none⟩ = some v := hW.keep hbs (fun h => h hA1)
  obtain ⟨a, cap, rfl, hnc, hcm, hat⟩ := ownE_at HV.out
  have HAT := Lib.hid hat
  unfold maxLen at hcm
  clear h hW hat hbs
  refine callsIn_of_wp Tryz.func131 rfl trivial ?_ rfl
  simp only [Tryz.ntmps131, List.size_toArray, List.length_cons, List.length_nil, Nat.reduceAdd, Nat.reduceSub, Array.replicate_succ, Array.replicate_zero, List.push_toArray, List.append_toArray, List.nil_append, List.cons_append]
  gi_wp2_with fail
  gi_loopg [7] L.length (fun gk t7 wx => ∃ (j : Nat) (pre : List En), t7 = .int .i64 j ∧ J (fun _ => False) pre wx ∧ Hid (Mdh (fun k => ¬ A k) W wx ∧ pre = L.take j ∧ j + gk = L.length))
  case atStart => exact ⟨0, [], rfl, h0, Lib.hid ⟨Mdh.refl _ _, by simp, by omega⟩⟩
  case round =>
    obtain ⟨j, pre, rfl, hJp, H⟩ := hrel
    clear h0
    by_cases hlt : j < L.length
    · have hlt' : (j : Int) < (L.length : Int) := by omega
      have hx : L[j]? = some (L[j]'hlt) := List.getElem?_eq_getElem hlt
      obtain ⟨g, he, _, hog, hc⟩ := HAT.out j _ hx
      have hAg := hA2 g hog
      have hne := fun (i : Nat) (u : Value) (hu : (enC (L[j]'hlt))[i]? = some u) => H.out.1.keep (hc i u hu) (fun hn => hn hAg)
      have HTK : Hid (pre ++ [L[j]'hlt] = L.take (j + 1)) := Lib.hid (by
        rw [H.out.2.1, List.take_add_one, hx]; rfl)
      have HPRE : Hid (pre ++ [L[j]'hlt] <+: L) := Lib.hid (by rw [HTK.out]; exact List.take_prefix _ _)
      generalize L[j]'hlt = x at *
      obtain ⟨x1, x2, x3, x4, x5, x6⟩ := x
      have d0 := hne 0 _ rfl
      have d1 := hne 1 _ rfl
      have d2 := hne 2 _ rfl
      have d3 := hne 3 _ rfl
      have d4 := hne 4 _ rfl
      have d5 := hne 5 _ rfl
      simp only [Nat.add_zero] at d0 d1 d2 d3 d4 d5
      have hJ4 : J (fun _ => False) pre (wr.alloc (.cells #[.int .i64 x1, .string x2, .bool x3, .int .i64 x4, .int .i64 x5, .int .i64 x6] 89)) := hJ _ _ _ _ _ hJp ((Mdh.refl _ wr).alloc _) (fun k hk => .inl hk)
      obtain ⟨fn, tmps, assign, body, hy, hR⟩ := yield_any 0 (hY _ pre ⟨x1, x2, x3, x4, x5, x6⟩ _ hJ4 HPRE.out)
      have HM4 := Lib.hid (H.out.1.trans ((Mdh.refl (fun k => ¬ A k) wr).alloc (.cells #[.int .i64 x1, .string x2, .bool x3, .int .i64 x4, .int .i64 x5, .int .i64 x6] 89)))
      simp only [encE, enV] at hy
      subst he
      clear hx hc hne hJp hog
      gi_wp2_with fail
      refine hR.mono ?_
      rintro e W5 (⟨rfl, hJ5, hm5⟩ | ⟨rfl, hJx5, _⟩)
      · have HM5 := Lib.hid (HM4.out.trans (hm5.mono (fun k hk => hk.1)))
        clear hm5 hR hy
        gi_wp2_with fail
        go_roundg (gk - 1)
        case rel => exact ⟨j + 1, _, by go_num, hJ5, Lib.hid ⟨HM5.out, HTK.out, by have := H.out.2.2; omega⟩⟩
        case measure => have := H.out.2.2; omega
      · gi_wp2_with fail
        refine bodyPost_ret (results_none rfl _ _ _) rfl ?_
        exact ⟨⟨_, rfl⟩, .inr ⟨_, _, HPRE.out, hJx5⟩⟩
    · have hlt' : ¬ (j : Int) < (L.length : Int) := by omega
      gi_wp2_with fail
      go_end0
      exact ⟨⟨_, rfl⟩, .inl ⟨_, pre, by rw [H.out.2.1, List.take_of_length_le (by omega)], hJp⟩⟩
set_option maxRecDepth 40000 in
theorem Values_any (a : Option Addr) (n c : Nat) (w : World) : Calls Tryz.prog 105 #[.slice a n c] w fun e w' => e = .returned (.func (.func 131) #[] #[.pointer (some ⟨w.heap.size, 0, none⟩)]) ∧ w' = w.alloc (.cells #[.slice a n c] 85) := by
  go_enter Tryz.func105, Tryz.ntmps105
  go_wp2
  go_ret
  exact ⟨rfl, rfl⟩
/-- With one block more of the iterator's own. -/
def plusB {β : Type} (bs : Nat) (J : (Nat → Prop) → β → World → Prop) : (Nat → Prop) → β → World → Prop := fun Z s W => J (fun q => Z q ∨ q = bs) s W
theorem plusB_apart {β : Type} (bs : Nat) {J : (Nat → Prop) → β → World → Prop} (h : Apart J) : Apart (plusB bs J) := fun Z Z' s X Y hs hm hz =>
  h _ _ s X Y hs (hm.mono (fun k hk => .inl hk)) (fun k hk => hk.elim (fun h => (hz k h).elim (fun h => .inl (.inl h)) .inr) (fun h => .inl (.inr h)))
theorem plusB_yield {m : Nat} {P : Program} {l : Nat} {args : Array Value} {X : World} {A Z : Nat → Prop} {bs : Nat} {β : Type} {s : β} {J Jx : (Nat → Prop) → β → World → Prop}
    (h : YieldAt Fence.wide m P l args X fun e Y => (e = .returned (.bool true) ∧ J (fun q => Z q ∨ q = bs) s Y ∧ Mdh (fun k => ¬ A k ∧ ¬ (Z k ∨ k = bs)) X Y) ∨ (e = .returned (.bool false) ∧ Jx (fun q => Z q ∨ q = bs) s Y ∧ Mdh (fun k => ¬ (Z k ∨ k = bs)) X Y)) :
    YieldAt Fence.wide m P l args X fun e Y => (e = .returned (.bool true) ∧ plusB bs J Z s Y ∧ Mdh (fun k => ¬ (A k ∨ k = bs) ∧ ¬ Z k) X Y) ∨ (e = .returned (.bool false) ∧ plusB bs Jx Z s Y ∧ Mdh (fun k => ¬ Z k) X Y) := by
  obtain ⟨fn, tmps, assign, body, hy, hR⟩ := h
  refine ⟨fn, tmps, assign, body, hy, hR.mono ?_⟩
  rintro e Y (⟨h1, h2, h3⟩ | ⟨h1, h2, h3⟩)
  · exact .inl ⟨h1, h2, h3.mono (fun k hk => ⟨fun h => h.elim hk.1 (fun e => hk.2 (.inr e)), fun h => hk.2 (.inl h)⟩)⟩
  · exact .inr ⟨h1, h2, h3.mono (fun k hk h => hk (.inl h))⟩
theorem plusB_sin {α : Type} {bs : Nat} {D : List α} {J Jx : (Nat → Prop) → List α → World → Prop} {e : Ending} {W : World} (h : SinPost D (plusB bs J) (plusB bs Jx) e W) : SinPost D J Jx e W := by
  obtain ⟨h1, ⟨Z, xs, h2, h3⟩ | ⟨Z, pre, h2, h3⟩⟩ := h
  · exact ⟨h1, .inl ⟨_, xs, h2, h3⟩⟩
  · exact ⟨h1, .inr ⟨_, pre, h2, h3⟩⟩
/-- Getting a key's entries. -/
theorem Get_lay {w : World} {b : Nat} {X : IX} {Y : Lay} (h1 : X.Wf) (h3 : Sep (Y.list b X) w) (h4 : Y.Fit X) (k : ByteArray) (w1 : World) (g : Gr w w1) : Calls Tryz.prog 61 #[.pointer (some ⟨Y.bm, 0, none⟩), .string k] w1 fun e w2 =>
    ∃ s : Sl, e = .returned (.tuple #[slV s, .bool (look ltS X.keys k).isSome]) ∧ (Own w1 89 6 (slV s) (X.of k).length (rowE (X.of k)) ∧ (∀ q, (slV s).ownBlock = some q → enA s (X.of k) ∈ keyRows Y.KL X.keys)) ∧ Gr w1 w2 := by
  have h6 := h3.gr g
  have hl : Y.KL.length ≤ 1000000 := by
    have := congrArg List.length h4.k
    simp only [List.length_map] at this
    have := h1.keys_le
    omega
  rcases h4.lookE k with ⟨l1, l2⟩ | ⟨s, l, l1, l2, l3, l4⟩
  · refine (Getsl (some ⟨Y.bm, 0, none⟩) Y.v Y.KL k w1 (.inl ⟨_, rfl, Lay.om h6⟩) hl).mono ?_
    rintro e w2 ⟨rfl, hg⟩
    refine ⟨(none, 0, 0), by unfold lookVsl hasBsl; rw [l1, l2]; rfl, ⟨?_, fun q hq => by cases hq⟩, hg⟩
    unfold IX.of; rw [l2]; exact nilRow w1 _ _
  · refine (Getsl (some ⟨Y.bm, 0, none⟩) Y.v Y.KL k w1 (.inl ⟨_, rfl, Lay.om h6⟩) hl).mono ?_
    rintro e w2 ⟨rfl, hg⟩
    have hm : enA s l ∈ keyRows Y.KL X.keys := List.mem_of_getElem? (zip_at (fun (a : ByteArray × Sl) (b : ByteArray × List En) => enA a.2 b.2) l3 l4)
    have e1 : X.of k = l := by unfold IX.of; rw [l2]; rfl
    rw [e1]
    exact ⟨s, by unfold lookVsl hasBsl; rw [l1, l2]; rfl, ⟨h6.get (Lay.key_mem l3 l4), fun q hq => hm⟩, hg⟩
theorem Get_of {w w' : World} {b : Nat} {X : IX} {S : Nat → Prop} (h : IXR w b X S) : ∃ bm, w.cell? ⟨b, 0, none⟩ = some (.pointer (some ⟨bm, 0, none⟩)) ∧ ∀ (k : ByteArray) (w1 : World), Gr w w1 → Calls Tryz.prog 61 #[.pointer (some ⟨bm, 0, none⟩), .string k] w1 fun e w2 =>
    ∃ s : Sl, e = .returned (.tuple #[slV s, .bool (look ltS X.keys k).isSome]) ∧ (Own w1 89 6 (slV s) (X.of k).length (rowE (X.of k)) ∧ ∀ q, (slV s).ownBlock = some q → S q) ∧ Gr w1 w2 := by
  obtain ⟨h1, h2, Y, h3, h4, h5⟩ := h
  refine ⟨Y.bm, ((cellsOf (Lay.blk h3)).1 0).trans rfl, fun k w1 g => (Get_lay h1 h3 h4 k w1 g).mono ?_⟩
  rintro e w2 ⟨s, he, ⟨ho, hs⟩, hg⟩
  exact ⟨s, he, ⟨ho, fun q hq => (h5 q).2 ⟨_, List.mem_append_right _ (List.mem_append_left _ (hs q hq)), hq⟩⟩, hg⟩
set_option maxRecDepth 40000 in
set_option maxHeartbeats 1000000 in
theorem SeqOf {w : World} {b : Nat} {X : IX} {S : Nat → Prop} (h : IXR w b X S) (k : ByteArray) (bb bk : Nat) (hbb : w.cell? ⟨bb, 0, none⟩ = some (.pointer (some ⟨b, 0, none⟩))) (hbk : w.cell? ⟨bk, 0, none⟩ = some (.string k)) :
    SeqZ Fence.wide 2 Tryz.prog 104 #[.pointer (some ⟨bb, 0, none⟩), .pointer (some ⟨bk, 0, none⟩)] encE (fun q => q = bb ∨ q = bk ∨ S q) (fun xs => xs = X.of k) (fun pre => pre <+: X.of k) w := by
  intro l J Jx W hW hJ hJx hY h0
  have hbW : W.cell? ⟨bb, 0, none⟩ = some (.pointer (some ⟨b, 0, none⟩)) := hW.keep hbb (fun h => h (.inl rfl))
  have hkW : W.cell? ⟨bk, 0, none⟩ = some (.string k) := hW.keep hbk (fun h => h (.inr (.inl rfl)))
  have HI := Lib.hid (h.mdh hW (fun q hq hn => hn (.inr (.inr hq))))
  have HLE := Lib.hid (h.ok.of_le k)
  obtain ⟨bm, c0, hget⟩ := Get_of (w' := W) HI.out
  have HGET := Lib.hid hget
  have HV : Hid (∀ (s : Sl) (w1 : World), Gr W w1 → Own w1 89 6 (slV s) (X.of k).length (rowE (X.of k)) → (∀ q, (slV s).ownBlock = some q → S q) → ∀ bs, w1.cell? ⟨bs, 0, none⟩ = some (slV s) → W.heap.size ≤ bs →
      Calls Tryz.prog 131 #[.func (.yield l) #[] #[], .pointer (some ⟨bs, 0, none⟩)] w1 (SinPost (X.of k) J Jx)) := Lib.hid (fun s w1 g1 ho hS bs hbs hlt => by
    have hin := Val1 (slV s) (X.of k) (by have := HLE.out; omega) w1 ho bs hbs (fun q => (q = bb ∨ q = bk ∨ S q) ∨ q = bs) (.inr rfl) (fun q hq => .inl (.inr (.inr (hS q hq)))) l (plusB bs J) (plusB bs Jx) w1 (Mdh.refl _ _) (plusB_apart bs hJ) (plusB_apart bs hJx) (fun Z pre x X' hj hs => plusB_yield (hY _ pre x X' hj hs)) (hJ _ _ _ _ _ h0 (g1.mdh _) (fun q hq => hq.elim .inl (fun e => .inr ⟨by omega, by have := World.block_lt_of_cell? w1 _ hbs; simp only at this; omega⟩)))
    exact (callsIn_wide.1 hin).mono (fun e w' h => plusB_sin h))
  clear hY h0 hW h hbb hbk hget
  refine callsIn_wide.2 ?_
  go_enter Tryz.func104, Tryz.ntmps104
  go_wp2_with (go_at_call 34; refine (made_yes HI.out).mono ?_; rintro e w1 ⟨rfl, rfl⟩)
  have HG := Gr.refl W.drew
  refine wp_region_flo (fun _ => False) [] [] (by kernel_rfl) (by kernel_rfl) (fun _ h => h.elim) ?_
  refine flo_seg 5 rfl ?_
  simp only [List.take_succ_cons, List.take_zero, List.drop_succ_cons, List.drop_zero]
  repeat (go_big_quiet_step (fail))
  refine wpQuiet_nil ?_
  refine flo_eff rfl rfl rfl rfl (fun K hK => ?_)
  go_wp2_with fail; refine (HGET.out k _ (Gr.of_drew HG)).mono ?_; rintro e w2 ⟨s, rfl, hs, hg⟩; have HS := Lib.hid hs; replace HG := HG.trans hg; clear hs hg; go_wp2_with fail; refine ⟨by (first | (refine Gr.mdh ?_ _; (repeat (first | (with_reducible exact Gr.refl _) | assumption | (with_reducible apply Gr.from_drew) | (with_reducible apply Gr.alloc) | (with_reducible apply Gr.drew) | (with_reducible refine Gr.trans ?_ (by assumption)) | (with_reducible refine Gr.setCell ?_ (by omega) _))); done) | (repeat (first | (with_reducible exact Mdh.refl _ _) | (with_reducible refine Mdh.setCell ?_ (by simp) _) | (with_reducible refine Mdh.setNew ?_ (by simp) _) | (with_reducible apply Mdh.alloc) | (with_reducible apply Mdh.from_drew) | (with_reducible apply Mdh.drew) | (with_reducible refine Mdh.gr ?_ (by assumption))))), ?_⟩
  refine flo_seg 5 rfl ?_
  simp only [List.take_succ_cons, List.take_zero, List.drop_succ_cons, List.drop_zero]
  repeat (go_big_quiet_step (fail))
  refine wpQuiet_nil ?_
  refine flo_nil ?_
  obtain ⟨s1, s2, s3⟩ := s
  simp only [slV] at *
  go_wp2_with (first
    | (go_at_call 105; refine (Values_any _ _ _ _).mono ?_; rintro e w3 ⟨rfl, rfl⟩)
    | fail)
  refine (HV.out (s1, s2, s3) _ ((Gr.of_drew HG).alloc _) (HS.out.1.gr (by (repeat (first | (with_reducible exact Gr.refl _) | assumption | (with_reducible apply Gr.from_drew) | (with_reducible apply Gr.alloc) | (with_reducible apply Gr.drew) | (with_reducible refine Gr.trans ?_ (by assumption)) | (with_reducible refine Gr.setCell ?_ (by omega) _))))) HS.out.2 w2.heap.size ((cellsOf (blkNew w2 _)).1 0) (by have := (Gr.of_drew HG).sz; exact this)).mono ?_
  rintro e w4 ⟨⟨u, rfl⟩, hc⟩
  go_wp2
  go_end0
  exact ⟨⟨_, rfl⟩, hc⟩
end Go.Proofs.YtemjnppplmankaaGreat

/- A range over a function whose loop variable is laid in a box of its own. No program in sight. -/
set_option linter.unusedVariables false
set_option linter.unusedSimpArgs false
namespace Go.Proofs.YtemjnppplmankaaGreat
open Go.RowKit
variable {F : Fence} {n : Nat} {P : Program}
theorem wp_rangeFunc_zx {α : Type} {id : Nat} {g : Operand} {ps : Array Tmp} {assign body : Code} {Q : Exit → Act → World → Prop} {a : Act} {w : World}
    {gf : Nat} {lb : Array Value} (hg : a.eval g = .func (.func gf) #[] lb) (eg : ∀ args w, (callFunc gf args).run P w = .ok (.enter gf args) w)
    {encs : α → Array Value} {A : Nat → Prop} {S Sp : List α → Prop} {w0 : World} (hseq : SeqZ Fence.wide 2 P gf lb encs A S Sp w0)
    (hw0 : Mdh (fun k => ¬ A k) w0 w) (hAlt : ∀ k, A k → k < w.heap.size) (hps : ∀ x, (encs x).size = ps.size)
    (I Ie Ir : (Nat → Prop) → List α → World → Prop) (hI : Apart I) (hIe : Apart Ie) (hIr : Apart Ir) (h0 : I (fun _ => False) [] w)
    (hF : ∀ Z pre W, I Z pre W → ∃ T, Frm w T Z W) (o : α → Obj) (a₁ : α → Nat → Act)
    (hassign : ∀ (l : Nat) (x : α) (bx : Nat) (W : World) (K : Act → World → Prop), bx = W.heap.size → K (a₁ x bx) (W.alloc (o x)) →
      assign.wpIn (Fence.wide.inRound l) 1 P (Exit.then K (fun _ _ _ => False)) { tmps := (ps.zip (encs x)).foldl (fun t (p, v) => t.setIfInBounds p v) a.tmps, defers := [] } W)
    (hbody : ∀ (l : Nat) (Z : Nat → Prop) (pre : List α) (x : α) (bx : Nat) (W : World), I Z pre W → w.heap.size ≤ bx → W.heap[bx]? = some (o x) → ¬ Z bx → Z l → (∃ r, W.heap[l]? = some (.loop r)) → Sp (pre ++ [x]) → body.wpIn (Fence.wide.inRound l) 1 P (zPost A Z I (jmp id Ie Ir) (pre ++ [x]) W) (a₁ x bx) W)
    (hend : ∀ (Z : Nat → Prop) (D : Nat) (xs : List α) (W : World), w.heap.size ≤ D → Z D → ((S xs ∧ I Z xs W) ∨ (Sp xs ∧ Ie Z xs W)) → W.heap[D]? = some (.deferred (some [])) → Q .normal { a with defers := { target := .collected D, args := #[] } :: a.defers } W)
    (hret : ∀ (Z : Nat → Prop) (D : Nat) (pre : List α) (W : World), w.heap.size ≤ D → Z D → Sp pre → Ir Z pre W → W.heap[D]? = some (.deferred (some [])) → Q .ret { a with defers := { target := .collected D, args := #[] } :: a.defers } W) :
    (Code.rangeFunc g ps assign body).wp P (Exit.inBlock id Q) a w := by
  refine wpIn_wide.1 (wpIn_rangeFunc_z (F := Fence.wide) (n := 3) rfl (by omega) hg trivial eg hseq hw0 hAlt hps I (jmp id Ie Ir) hI (jmp_apart hIe hIr) h0
    (fun x a' Z W => ∃ bx, a' = a₁ x bx ∧ w.heap.size ≤ bx ∧ W.heap[bx]? = some (o x) ∧ ¬ Z bx)
    (fun x a' Z Z' _ X Y hs hm hz => by
      obtain ⟨bx, e, h1, h2, h3⟩ := hs
      exact ⟨bx, e, h1, hm.blk h2 h3, fun h => (hz bx h).elim h3 (fun y => by have := blkLt h2; omega)⟩)
    (fun l Z pre x W K hi hK => hassign l x _ W K rfl (by
      obtain ⟨T, hT⟩ := hF Z pre W hi
      refine hK _ _ ((Mdh.refl _ W).alloc _) (hI Z Z pre W _ hi ((Mdh.refl _ W).alloc _) (fun k hk => .inl hk)) ⟨W.heap.size, rfl, hT.m.size, blkNew W _, fun h => by have := hT.t _ h; omega⟩))
    (fun l Z pre x a' W hl hr hi ha hlen => by
      obtain ⟨bx, rfl, h1, h2, h3⟩ := ha
      exact hbody l Z pre x bx W hi h1 h2 h3 hl hr hlen)
    (fun Z D xs W h1 h2 h3 h4 h5 => hend Z D xs W h1 h2 (.inl ⟨h3, h4⟩) h5) ?_)
  intro Z D c pre W h1 h2 h3 h4 h5
  refine wpIn_wide.2 ?_
  unfold jmp at h4
  split at h4
  · obtain ⟨rfl, h4⟩ := h4
    refine wp_exit ?_
    show (if _ then _ else _)
    rw [if_pos rfl]
    exact hend Z D pre W h1 h2 (.inr ⟨h3, h4⟩) h5
  · exact wp_ret (hret Z D pre W h1 h2 h3 h4 h5)
  · exact h4.elim
end Go.Proofs.YtemjnppplmankaaGreat

/- An index, made or not: its slots, its iterators, the newest entry of a key. -/
set_option linter.unusedVariables false
set_option linter.unusedSimpArgs false
namespace Go.Proofs.YtemjnppplmankaaGreat
open Go.RowKit Go.Shelf
attribute [local go_sem] OvM cell_ovm obj_ovm
attribute [local go_sem] Oper.semAt_some

/-- What a pointer to an index points to; where none was made there is nothing. -/
def IXP (w : World) (p : Option Addr) (X : IX) (S : Nat → Prop) : Prop := (∃ b, p = some ⟨b, 0, none⟩ ∧ IXR w b X S) ∨ (IXN w p ∧ X = ⟨[], []⟩ ∧ ∀ k, S k ↔ ∃ a, p = some a ∧ k = a.block)
section
variable {w w' : World} {p : Option Addr} {X : IX} {S : Nat → Prop}
theorem IXP.mdh {T : Nat → Prop} (h : IXP w p X S) (m : Mdh T w w') (hs : ∀ k, S k → ¬ T k) : IXP w' p X S := by
  rcases h with ⟨b, e, h⟩ | ⟨rfl | ⟨b, rfl, h⟩, h2, h3⟩
  · exact .inl ⟨b, e, h.mdh m hs⟩
  · exact .inr ⟨.inl rfl, h2, h3⟩
  · exact .inr ⟨.inr ⟨b, rfl, m.blk h (hs b ((h3 b).2 ⟨_, rfl, rfl⟩))⟩, h2, h3⟩
theorem IXP.gr (h : IXP w p X S) (g : Gr w w') : IXP w' p X S := h.mdh (g.mdh fun _ => False) (fun _ _ h => h)
theorem IXP.lt (h : IXP w p X S) : ∀ k, S k → k < w.heap.size := by
  rcases h with ⟨b, e, h⟩ | ⟨h, h2, h3⟩
  · exact h.lt
  · intro k hk
    obtain ⟨a, rfl, rfl⟩ := (h3 k).1 hk
    rcases h with h | ⟨b, e, h⟩
    · cases h
    · cases e; exact blkLt h
theorem IXP.ok (h : IXP w p X S) : X.Wf := by
  rcases h with ⟨b, e, h⟩ | ⟨_, rfl, _⟩
  · exact h.ok
  · exact new_wf (n := 0) (by decide)
end
theorem none_wf : (⟨[], []⟩ : IX).Wf := new_wf (n := 0) (by decide)

set_option maxRecDepth 40000 in
set_option maxHeartbeats 1000000 in
theorem SeqOfN {w : World} {p : Option Addr} (h : IXN w p) (A : Nat → Prop) (hA : ∀ a, p = some a → A a.block) (k : ByteArray) (bb bk : Nat) (hb : A bb) (hk : A bk) (hbb : w.cell? ⟨bb, 0, none⟩ = some (.pointer p)) :
    SeqZ Fence.wide 2 Tryz.prog 104 #[.pointer (some ⟨bb, 0, none⟩), .pointer (some ⟨bk, 0, none⟩)] encE A (fun xs => xs = []) (fun pre => pre <+: []) w := by
  intro l J Jx W hW hJ hJx hY h0
  have hbW : W.cell? ⟨bb, 0, none⟩ = some (.pointer p) := hW.keep hbb (fun h => h hb)
  have HI : Hid (IXN W p) := Lib.hid (h.imp (fun h => h) (fun ⟨b, e, h⟩ => ⟨b, e, hW.blk h (fun hn => hn (hA _ e))⟩))
  have H0 := Lib.hid h0
  clear hY h0 hW h hbb
  refine callsIn_wide.2 ?_
  go_enter Tryz.func104, Tryz.ntmps104
  go_wp2_with (go_at_call 34; refine (made_no HI.out).mono ?_; rintro e w1 ⟨rfl, rfl⟩)
  go_end0
  exact ⟨⟨_, rfl⟩, .inl ⟨_, [], rfl, H0.out⟩⟩
theorem SeqOfP {w : World} {p : Option Addr} {X : IX} {S : Nat → Prop} (h : IXP w p X S) (k : ByteArray) (bb bk : Nat) (hbb : w.cell? ⟨bb, 0, none⟩ = some (.pointer p)) (hbk : w.cell? ⟨bk, 0, none⟩ = some (.string k)) :
    SeqZ Fence.wide 2 Tryz.prog 104 #[.pointer (some ⟨bb, 0, none⟩), .pointer (some ⟨bk, 0, none⟩)] encE (fun q => q = bb ∨ q = bk ∨ S q) (fun xs => xs = X.of k) (fun pre => pre <+: X.of k) w := by
  rcases h with ⟨b, rfl, h⟩ | ⟨h, rfl, h3⟩
  · exact SeqOf h k bb bk hbb hbk
  · exact SeqOfN h _ (fun a ha => .inr (.inr ((h3 _).2 ⟨a, ha, rfl⟩))) k bb bk (.inl rfl) (.inr (.inl rfl)) hbb
set_option maxRecDepth 40000 in
theorem Of_any (p : Option Addr) (k : ByteArray) (w : World) : Calls Tryz.prog 62 #[.pointer p, .string k] w fun e w' =>
    ∃ bb bk, e = .returned (.func (.func 104) #[] #[.pointer (some ⟨bb, 0, none⟩), .pointer (some ⟨bk, 0, none⟩)]) ∧ w'.cell? ⟨bb, 0, none⟩ = some (.pointer p) ∧ w'.cell? ⟨bk, 0, none⟩ = some (.string k) ∧ w.heap.size ≤ bb ∧ w.heap.size ≤ bk ∧ Gr w w' := by
  go_enter Tryz.func62, Tryz.ntmps62
  go_wp2
  go_ret
  exact ⟨_, _, rfl, by simp [go_sem], by simp [go_sem], Nat.le_refl _, by simp, by (repeat (first | (with_reducible exact Gr.refl _) | assumption | (with_reducible apply Gr.from_drew) | (with_reducible apply Gr.alloc) | (with_reducible apply Gr.drew) | (with_reducible refine Gr.trans ?_ (by assumption)) | (with_reducible refine Gr.setCell ?_ (by omega) _)))⟩

def zE : En := ⟨0, ⟨#[]⟩, false, 0, 0, 0⟩
def newV : List En → Value
  | [] => .tuple #[enV zE, .bool false]
  | e :: _ => .tuple #[enV e, .bool true]
theorem blk6 {w : World} {b : Nat} {x0 x1 x2 x3 x4 x5 y0 y1 y2 y3 y4 y5 : Value} {t : TypeId} (h : w.heap[b]? = some (.cells #[x0, x1, x2, x3, x4, x5] t)) :
    ((((((w.setCell ⟨b, 0, none⟩ y0).setCell ⟨b, 1, none⟩ y1).setCell ⟨b, 2, none⟩ y2).setCell ⟨b, 3, none⟩ y3).setCell ⟨b, 4, none⟩ y4).setCell ⟨b, 5, none⟩ y5).heap[b]? = some (.cells #[y0, y1, y2, y3, y4, y5] t) :=
  blkSet (blkSet (blkSet (blkSet (blkSet (blkSet h)))))

set_option maxRecDepth 40000 in
set_option maxHeartbeats 4000000 in
theorem Newest_any {w : World} {p : Option Addr} {X : IX} {S : Nat → Prop} (h : IXP w p X S) (k : ByteArray) : Calls Tryz.prog 140 #[.pointer p, .string k] w fun e w' => e = .returned (newV (X.of k)) ∧ Gr w w' := by
  have H := Lib.hid h
  clear h
  refine calls_of_wp_marks Tryz.func140 rfl ?_
  simp only [Tryz.ntmps140, List.size_toArray, List.length_cons, List.length_nil, Nat.reduceAdd, Nat.reduceSub, Array.replicate_succ, Array.replicate_zero, List.push_toArray, List.append_toArray, List.nil_append, List.cons_append]
  go_wp2_with fail
  refine (Of_any p k _).mono ?_
  rintro e w1 ⟨bb, bk, rfl, h1, h2, h3, h4, hg⟩
  obtain ⟨w0, hw0⟩ : ∃ y, y = (w.alloc (.cells #[.int .i64 0, .string ⟨#[]⟩, .bool false, .int .i64 0, .int .i64 0, .int .i64 0] 89)).alloc (.cells #[.bool false] 4) := ⟨_, rfl⟩
  rw [← hw0] at hg h3 h4
  obtain ⟨b4, hb4⟩ : ∃ q, q = w.heap.size := ⟨_, rfl⟩
  have g0 : Gr w w0 := by rw [hw0]; exact ((Gr.refl w).alloc _).alloc _
  have x4 : w1.heap[b4]? = some (.cells #[.int .i64 0, .string ⟨#[]⟩, .bool false, .int .i64 0, .int .i64 0, .int .i64 0] 89) := hg.blk (by rw [hw0, hb4]; exact blkOld (blkNew _ _))
  have x5 : w1.heap[b4 + 1]? = some (.cells #[.bool false] 4) := hg.blk (by rw [hw0, hb4]; have := blkNew (w.alloc (.cells #[.int .i64 0, .string ⟨#[]⟩, .bool false, .int .i64 0, .int .i64 0, .int .i64 0] 89)) (.cells #[.bool false] 4); rwa [World.size_alloc] at this)
  have HW : Hid (b4 = w.heap.size ∧ w0.heap.size = w.heap.size + 2 ∧ Gr w w1 ∧ w0.heap.size ≤ bb ∧ w0.heap.size ≤ bk) := Lib.hid ⟨hb4, by rw [hw0]; simp, g0.trans hg, h3, h4⟩
  have HI := Lib.hid (H.out.gr HW.out.2.2.1)
  have HSEQ := Lib.hid (SeqOfP HI.out k bb bk h1 h2)
  have HX := Lib.hid (And.intro x4 x5)
  have HA : Hid (∀ q, (q = bb ∨ q = bk ∨ S q) → q < w1.heap.size ∧ q ≠ b4 ∧ q ≠ b4 + 1) := Lib.hid (by
    obtain ⟨m1, m2, m3, m4, m5⟩ := HW.out
    have l1 := World.block_lt_of_cell? w1 ⟨bb, 0, none⟩ h1
    have l2 := World.block_lt_of_cell? w1 ⟨bk, 0, none⟩ h2
    simp only at l1 l2
    rintro q (rfl | rfl | hq)
    · exact ⟨l1, by omega, by omega⟩
    · exact ⟨l2, by omega, by omega⟩
    · have := H.out.lt q hq
      have := m3.sz
      exact ⟨by omega, by omega, by omega⟩)
  clear h1 h2 h3 h4 hg hw0 g0 x4 x5
  rw [← hb4]
  clear hb4
  go_wp2_with fail
  apply wp_rangeFunc_zx (gf := 104) (lb := #[.pointer (some ⟨bb, 0, none⟩), .pointer (some ⟨bk, 0, none⟩)]) rfl (enters_of Tryz.func104 (by kernel_rfl) rfl) HSEQ.out (Mdh.refl _ w1) (fun q hq => (HA.out q hq).1) (fun _ => rfl)
    (fun Z pre X' => pre = [] ∧ (X'.heap[b4]? = some (.cells #[.int .i64 0, .string ⟨#[]⟩, .bool false, .int .i64 0, .int .i64 0, .int .i64 0] 89) ∧ ¬ Z b4) ∧ (X'.heap[b4 + 1]? = some (.cells #[.bool false] 4) ∧ ¬ Z (b4 + 1)) ∧ Frm w1 (fun q => q = b4 ∨ q = b4 + 1) Z X')
    (fun _ _ _ => False)
    (fun Z pre X' => ∃ x, pre = [x] ∧ (X'.heap[b4]? = some (.cells #[.int .i64 x.seq, .string x.key, .bool x.del, .int .i64 x.slot, .int .i64 x.off, .int .i64 x.size] 89) ∧ ¬ Z b4) ∧ (X'.heap[b4 + 1]? = some (.cells #[.bool true] 4) ∧ ¬ Z (b4 + 1)) ∧ Frm w1 (fun q => q = b4 ∨ q = b4 + 1) Z X')
    ((Apart.pure _).and ((Apart.block b4 (fun _ => _)).and ((Apart.block (b4 + 1) (fun _ => _)).and (Frm.apart _ _)))) apart_no
    (Apart.ex fun x => (Apart.pure _).and ((Apart.block b4 (fun _ => _)).and ((Apart.block (b4 + 1) (fun _ => _)).and (Frm.apart _ _))))
    ⟨rfl, ⟨HX.out.1, fun h => h⟩, ⟨HX.out.2, fun h => h⟩, Frm.refl _ _⟩
    (fun Z pre X' h => ⟨_, h.2.2.2⟩) (fun x => .cells #[.int .i64 x.seq, .string x.key, .bool x.del, .int .i64 x.slot, .int .i64 x.off, .int .i64 x.size] 89)
    _ ?assign ?body ?hend ?hret
  case assign =>
    intro l x bx X' K hbx hK
    dsimp only [encE, enV]
    gi_wp2
    rw [← hbx]
    exact hK
  case body =>
    intro l Z pre x bx X' hI hbx hx hzx hzl hlr hsp
    obtain ⟨rfl, ⟨h4, hz4⟩, ⟨h5, hz5⟩, hF⟩ := hI
    have H4 := Lib.hid h4
    have H5 := Lib.hid h5
    have HF := Lib.hid hF
    have c0 := (cellsOf hx).1
    obtain ⟨c4, f4⟩ := cellsOf h4
    obtain ⟨c5, f5⟩ := cellsOf h5
    have m4 : b4 + 1 ≠ b4 := by omega
    have m5 : b4 ≠ b4 + 1 := by omega
    have n4 : b4 ≠ bx := by have := blkLt HX.out.1; omega
    have n5 : b4 + 1 ≠ bx := by have := blkLt HX.out.2; omega
    clear hx h4 h5 hF hsp
    gi_wp2
    have hz : ∀ q, q = b4 ∨ q = b4 + 1 → ¬ Z q := fun q hq => hq.elim (fun e => e ▸ hz4) (fun e => e ▸ hz5)
    have HM : Hid (Mdh (fun q => q = b4 ∨ q = b4 + 1) X' (((((((X'.setCell ⟨b4, 0, none⟩ (.int .i64 x.seq)).setCell ⟨b4, 1, none⟩ (.string x.key)).setCell ⟨b4, 2, none⟩ (.bool x.del)).setCell ⟨b4, 3, none⟩ (.int .i64 x.slot)).setCell ⟨b4, 4, none⟩ (.int .i64 x.off)).setCell ⟨b4, 5, none⟩ (.int .i64 x.size)).setCell ⟨b4 + 1, 0, none⟩ (.bool true))) := Lib.hid
      ((((((((Mdh.refl _ X').setCell (.inl rfl) _).setCell (.inl rfl) _).setCell (.inl rfl) _).setCell (.inl rfl) _).setCell (.inl rfl) _).setCell (.inl rfl) _).setCell (.inr rfl) _)
    exact ⟨HM.out.mono hz, x, rfl, ⟨blkSetO (blk6 H4.out) (by simp), hz4⟩, ⟨blkSet (j := 0) (u := .bool true) (blkSetO (blkSetO (blkSetO (blkSetO (blkSetO (blkSetO H5.out (by simp)) (by simp)) (by simp)) (by simp)) (by simp)) (by simp)), hz5⟩, HF.out.step HM.out (fun q hq => .inl hq)⟩
  case hend =>
    intro Z D xs X' hD hZD hcase hdef
    obtain ⟨hxs, hnil, ⟨h4, hz4⟩, ⟨h5, hz5⟩, hF⟩ := hcase.elim (fun h => h) (fun h => h.2.elim)
    have HXS : Hid (X.of k = []) := Lib.hid (by rw [← hnil]; exact hxs.symm)
    have H4 := Lib.hid h4
    have H5 := Lib.hid h5
    have HF := Lib.hid hF
    have HD := Lib.hid (And.intro hD hdef)
    obtain ⟨c4, f4⟩ := cellsOf h4
    obtain ⟨c5, f5⟩ := cellsOf h5
    have m4 : b4 + 1 ≠ b4 := by omega
    have m5 : b4 ≠ b4 + 1 := by omega
    clear hxs hnil h4 h5 hF hcase hD hdef
    dsimp only
    go_wp2_with fail
    have n4 : D ≠ b4 := by have := blkLt HX.out.1; have := HD.out.1; omega
    have n5 : D ≠ b4 + 1 := by have := blkLt HX.out.2; have := HD.out.1; omega
    have h4 := blkSetO (p := ⟨b4 + 1, 0, none⟩) (u := .bool false) (blk6 (y0 := .int .i64 0) (y1 := .string ⟨#[]⟩) (y2 := .bool false) (y3 := .int .i64 0) (y4 := .int .i64 0) (y5 := .int .i64 0) H4.out) m5
    have HM : Mdh (fun q => q = b4 ∨ q = b4 + 1) X' _ := ((((((((Mdh.refl _ X').setCell (p := ⟨b4, 0, none⟩) (.inl rfl) (.int .i64 0)).setCell (p := ⟨b4, 1, none⟩) (.inl rfl) (.string ⟨#[]⟩)).setCell (p := ⟨b4, 2, none⟩) (.inl rfl) (.bool false)).setCell (p := ⟨b4, 3, none⟩) (.inl rfl) (.int .i64 0)).setCell (p := ⟨b4, 4, none⟩) (.inl rfl) (.int .i64 0)).setCell (p := ⟨b4, 5, none⟩) (.inl rfl) (.int .i64 0)).setCell (p := ⟨b4 + 1, 0, none⟩) (.inr rfl) (.bool false))
    have h5 : (((((((X'.setCell ⟨b4, 0, none⟩ (.int .i64 0)).setCell ⟨b4, 1, none⟩ (.string ⟨#[]⟩)).setCell ⟨b4, 2, none⟩ (.bool false)).setCell ⟨b4, 3, none⟩ (.int .i64 0)).setCell ⟨b4, 4, none⟩ (.int .i64 0)).setCell ⟨b4, 5, none⟩ (.int .i64 0)).setCell ⟨b4 + 1, 0, none⟩ (.bool false)).heap[b4 + 1]? = some (.cells #[.bool false] 4) :=
      blkSet (j := 0) (u := .bool false) (blkSetO (blkSetO (blkSetO (blkSetO (blkSetO (blkSetO H5.out m4) m4) m4) m4) m4) m4)
    have hdef := HM.blk HD.out.2 (fun h => h.elim n4 n5)
    have h4' := (World.putObj_heap_other (o := .deferred none) n4.symm).trans h4
    have h5' := (World.putObj_heap_other (o := .deferred none) n5.symm).trans h5
    obtain ⟨d4, _⟩ := cellsOf h4'
    obtain ⟨d5, _⟩ := cellsOf h5'
    refine retM1 (D := D) (v := .tuple #[enV zE, .bool false]) rfl hdef ?_ ⟨by rw [HXS.out]; rfl, ?_⟩
    · simp [results, Tryz.results140, go_sem, d4, d5, enV, zE]
    · obtain ⟨e1, e2, e3, e4, e5⟩ := HW.out
      exact (e3.md (HF.out.m.trans HM) (fun q hq => by omega)).putObj (by have := e3.sz; have := HD.out.1; omega) _
  case hret =>
    intro Z D pre X' hD hZD hsp hIr hdef
    obtain ⟨x, rfl, ⟨h4, hz4⟩, ⟨h5, hz5⟩, hF⟩ := hIr
    obtain ⟨t, hX⟩ := hsp
    have HN : Hid (newV (X.of k) = .tuple #[enV x, .bool true]) := Lib.hid (by rw [← hX]; rfl)
    have n4 : D ≠ b4 := by have := blkLt HX.out.1; omega
    have n5 : D ≠ b4 + 1 := by have := blkLt HX.out.2; omega
    have h4' : (X'.putObj D (.deferred none)).heap[b4]? = _ := (World.putObj_heap_other n4.symm).trans h4
    have h5' : (X'.putObj D (.deferred none)).heap[b4 + 1]? = _ := (World.putObj_heap_other n5.symm).trans h5
    obtain ⟨c4, _⟩ := cellsOf h4'
    obtain ⟨c5, _⟩ := cellsOf h5'
    dsimp only
    go_wp2_with fail
    refine retM1 (D := D) (v := .tuple #[enV x, .bool true]) rfl hdef ?_ ⟨by rw [HN.out], ?_⟩
    · simp [results, Tryz.results140, go_sem, c4, c5, enV]
    · obtain ⟨e1, e2, e3, e4, e5⟩ := HW.out
      exact (e3.md hF.m (fun q hq => by omega)).putObj (by have := e3.sz; omega) _
end Go.Proofs.YtemjnppplmankaaGreat
