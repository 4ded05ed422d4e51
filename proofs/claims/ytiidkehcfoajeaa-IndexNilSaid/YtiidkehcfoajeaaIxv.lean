/- Dropping a slot: what it calls. -/
import Derived.Test.YtiidkehcfoajeaaIxt
import Derived.Test.YtiidkehcfoajeaaIxu
import Derived.Test.YtiidkehcfoajeaaIxd
import Derived.Test.YtiidkehcfoajeaaIxe
import Derived.Test.YtiidkehcfoajeaaDg
set_option linter.unusedVariables false
set_option linter.unusedSimpArgs false
namespace Go.Proofs.Ytiidkehcfoajeaa
open Go.RowKit Go.Shelf
attribute [local go_sem] OvM cell_ovm obj_ovm
attribute [local go_sem] Oper.semAt_some

set_option maxRecDepth 40000 in
theorem made_c {w : World} {b n cap g : Nat} (hn : 0 < n) (c1 : w.cell? ⟨b, 1, none⟩ = some (.slice (some ⟨g, 0, none⟩) n cap)) : Calls Try.prog 95 #[.pointer (some ⟨b, 0, none⟩)] w fun e w' => e = .returned (.bool true) ∧ w = w' := by
  have c5 : (0 : Int) < n := by omega
  go_enter Try.func95, Try.ntmps95
  go_wp2
  go_ret
  exact ⟨rfl, rfl⟩
set_option maxRecDepth 40000 in
theorem has_c {w : World} {b n cap g i : Nat} (hn : i < n) (c1 : w.cell? ⟨b, 1, none⟩ = some (.slice (some ⟨g, 0, none⟩) n cap)) : Calls Try.prog 99 #[.pointer (some ⟨b, 0, none⟩), .int .i64 i] w fun e w' => e = .returned (.bool true) ∧ w = w' := by
  have c5 : (i : Int) < n := by omega
  have H := Lib.hid c1
  go_enter Try.func99, Try.ntmps99
  go_wp2_with (go_at_call 95; refine (made_c (by omega) H.out).mono ?_; rintro e w1 ⟨rfl, rfl⟩)
  go_ret
  exact ⟨rfl, rfl⟩
set_option maxRecDepth 40000 in
set_option maxHeartbeats 4000000 in
/-- A slot's entries, by the blocks that are read. -/
theorem SeqSlotA {w : World} {b g cap n i : Nat} {u : Value} {sl : Sl} {l : List En} (hb : w.heap[b]? = some (.cells #[u, .slice (some ⟨g, 0, none⟩) n cap] 29)) (hi : i < n) (hnc : n ≤ cap) (hcm : cap ≤ maxLen) (hc : w.cell? ⟨g, i, none⟩ = some (slV sl))
    (ho : Own w 23 6 (slV sl) l.length (rowE l)) (hl : l.length ≤ 1000) (A : Nat → Prop) (hAb : A b) (hAg : A g) (hAs : ∀ q, (slV sl).ownBlock = some q → A q) (bb bs : Nat) (hAbb : A bb) (hAbs : A bs)
    (hbb : w.cell? ⟨bb, 0, none⟩ = some (.pointer (some ⟨b, 0, none⟩))) (hbs : w.cell? ⟨bs, 0, none⟩ = some (.int .i64 i)) :
    SeqZ Fence.wide 2 Try.prog 98 #[.pointer (some ⟨bb, 0, none⟩), .pointer (some ⟨bs, 0, none⟩)] encE A (fun xs => xs = l) (fun pre => pre <+: l) w := by
  intro ly J Jx W hW hJ hJx hY h0
  have hbW : W.cell? ⟨bb, 0, none⟩ = some (.pointer (some ⟨b, 0, none⟩)) := hW.keep hbb (fun h => h hAbb)
  have hsW : W.cell? ⟨bs, 0, none⟩ = some (.int .i64 i) := hW.keep hbs (fun h => h hAbs)
  have hB := hW.blk hb (fun h => h hAb)
  have e1 : W.cell? ⟨b, 1, none⟩ = some (.slice (some ⟨g, 0, none⟩) n cap) := ((cellsOf hB).1 1).trans rfl
  have E1 := Lib.hid e1
  have e2 : W.cell? ⟨g, i, none⟩ = some (slV sl) := hW.keep hc (fun h => h hAg)
  have hoW := ho.mdh hW (fun q hq h => h (hAs q hq))
  have HI := Lib.hid hi
  have hi' : (i : Int) < n := by omega
  have HV : Hid (∀ (w1 : World), Gr W w1 → ∀ b0, w1.cell? ⟨b0, 0, none⟩ = some (slV sl) → W.heap.size ≤ b0 →
      Calls Try.prog 130 #[.func (.yield ly) #[] #[], .pointer (some ⟨b0, 0, none⟩)] w1 (SinPost l J Jx)) := Lib.hid (fun w1 g1 b0 hb0 hlt => by
    have hin := Val1 (slV sl) l (by omega) w1 (hoW.gr g1) b0 hb0 (fun q => A q ∨ q = b0) (.inr rfl) (fun q hq => .inl (hAs q hq)) ly (plusB b0 J) (plusB b0 Jx) w1 (Mdh.refl _ _) (plusB_apart b0 hJ) (plusB_apart b0 hJx) (fun Z pre x X' hj hs => plusB_yield (hY _ pre x X' hj hs)) (hJ _ _ _ _ _ h0 (g1.mdh _) (fun q hq => hq.elim .inl (fun e => .inr ⟨by omega, by have := World.block_lt_of_cell? w1 _ hb0; simp only at this; omega⟩)))
    exact (callsIn_wide.1 hin).mono (fun e w' h => plusB_sin h))
  unfold maxLen at hcm
  obtain ⟨s1, s2, s3⟩ := sl
  simp only [slV] at *
  clear hY h0 hW hbb hbs ho hoW hc hb hB hAs
  refine callsIn_wide.2 ?_
  go_enter Try.func98, Try.ntmps98
  go_wp2_with (go_at_call 99; refine (has_c HI.out E1.out).mono ?_; rintro e w1 ⟨rfl, rfl⟩)
  go_region_with (first
    | (go_at_call 97; refine (Values_any _ _ _ _).mono ?_; rintro e w3 ⟨rfl, rfl⟩)
    | (go_at_call 130; refine (HV.out _ (by (repeat (first | (with_reducible exact Gr.refl _) | assumption | (with_reducible apply Gr.from_drew) | (with_reducible apply Gr.alloc) | (with_reducible apply Gr.drew) | (with_reducible refine Gr.trans ?_ (by assumption)) | (with_reducible refine Gr.setCell ?_ (by omega) _)))) _ (by simp [go_sem]) (by simp)).mono ?_; rintro e w4 ⟨⟨u, rfl⟩, hcc⟩))
  all_goals
    go_wp2
    go_end0
    exact ⟨⟨_, rfl⟩, hcc⟩
set_option maxRecDepth 40000 in
theorem Drop1 (o e : En) (be : Nat) (w : World) (h : w.heap[be]? = some (.cells #[.int .i64 e.seq, .string e.key, .bool e.del, .int .i64 e.slot, .int .i64 e.off, .int .i64 e.size] 23)) :
    Calls Try.prog 114 #[enV o, .pointer (some ⟨be, 0, none⟩)] w fun r w' => r = .returned (.bool (decide (o = e))) ∧ Gr w w' := by
  have c := (cellsOf h).1
  have l := blkLt h
  have k1 := eqlE_run o e
  simp only [enV]
  go_enter Try.func114, Try.ntmps114
  go_wp2
  go_ret
  exact ⟨rfl, by (repeat (first | (with_reducible exact Gr.refl _) | assumption | (with_reducible apply Gr.from_drew) | (with_reducible apply Gr.alloc) | (with_reducible apply Gr.drew) | (with_reducible refine Gr.trans ?_ (by assumption)) | (with_reducible refine Gr.setCell ?_ (by omega) _)))⟩
theorem DropP (e : En) (be : Nat) (w : World) (T : Nat → Prop) (hT : ¬ T be) (h : w.heap[be]? = some (.cells #[.int .i64 e.seq, .string e.key, .bool e.del, .int .i64 e.slot, .int .i64 e.off, .int .i64 e.size] 23)) :
    PredC 114 #[.pointer (some ⟨be, 0, none⟩)] (fun o => decide (o = e)) T w :=
  ⟨enters_of Try.func114 (by kernel_rfl) rfl, fun x w' m => Drop1 x e be w' (m.blk h hT)⟩

/-- The index while its slot's entries are taken out of its keys. -/
structure DrI (w1 : World) (b : Nat) (X : IX) (Y : Lay) (A S : Nat → Prop) (l : List En) (v : Value) (KL : List (ByteArray × Sl)) (Z : Nat → Prop) (W : World) : Prop where
  s : Sep (({ Y with v := v, KL := KL } : Lay).list b (dropK X l)) W
  f : ({ Y with v := v, KL := KL } : Lay).Fit (dropK X l)
  z : ∀ k, (∃ B ∈ ({ Y with v := v, KL := KL } : Lay).list b (dropK X l), B.S k) → ¬ Z k
  d : ∀ k, (k = Y.bm ∨ v.ownBlock = some k) → ¬ A k
  n : ∀ k, (∃ B ∈ ({ Y with v := v, KL := KL } : Lay).list b (dropK X l), B.S k) → S k ∨ w1.heap.size ≤ k
  m : Frm w1 (fun k => S k ∧ ¬ A k) Z W
section
variable {w1 W W' : World} {b : Nat} {X : IX} {Y : Lay} {A S Z : Nat → Prop} {l l' : List En} {v v' : Value} {KL KL' : List (ByteArray × Sl)}
theorem DrI.apart : Apart (fun Z (l : List En) W => ∃ v KL, DrI w1 b X Y A S l v KL Z W) := fun Z Z' l X' Y' ⟨v, KL, h⟩ hm hz =>
  ⟨v, KL, h.s.mdh hm (fun B hB k hk => h.z k ⟨B, hB, hk⟩), h.f, fun k ⟨B, hB, hk⟩ h1 => (hz k h1).elim (h.z k ⟨B, hB, hk⟩) (fun y => by have := h.s.lt hB k hk; omega), h.d, h.n, Frm.apart (β := Unit) _ _ Z Z' () X' Y' h.m hm hz⟩
theorem DrI.om (h : DrI w1 b X Y A S l v KL Z W) : ∀ k, (k = Y.bm ∨ v.ownBlock = some k) → (S k ∧ ¬ A k) ∨ w1.heap.size ≤ k := fun k hk =>
  (h.n k ⟨omA Y.bm v KL, by simp [Lay.list, Lay.hd], hk⟩).imp (fun h1 => ⟨h1, h.d k hk⟩) (fun h => h)
theorem DrI.omz (h : DrI w1 b X Y A S l v KL Z W) : ∀ k, (k = Y.bm ∨ v.ownBlock = some k) → ¬ Z k := fun k hk => h.z k ⟨omA Y.bm v KL, by simp [Lay.list, Lay.hd], hk⟩
theorem DrI.next (h : DrI w1 b X Y A S l v KL Z W) (m : Mdh (fun q => q = Y.bm ∨ v.ownBlock = some q) W W') (hs : Sep (({ Y with v := v', KL := KL' } : Lay).list b (dropK X l')) W') (hf : ({ Y with v := v', KL := KL' } : Lay).Fit (dropK X l'))
    (hn : ∀ q, (∃ B ∈ ({ Y with v := v', KL := KL' } : Lay).list b (dropK X l'), B.S q) → (∃ B ∈ ({ Y with v := v, KL := KL } : Lay).list b (dropK X l), B.S q) ∨ W.heap.size ≤ q)
    (hv : ∀ q, v'.ownBlock = some q → v.ownBlock = some q ∨ W.heap.size ≤ q) (hA : ∀ k, A k → k < w1.heap.size) : DrI w1 b X Y A S l' v' KL' Z W' ∧ Mdh (fun k => ¬ A k ∧ ¬ Z k) W W' := by
  have hsz := h.m.m.size
  refine ⟨⟨hs, hf, fun k hk hz => (hn k hk).elim (fun h1 => h.z k h1 hz) (fun h1 => by have := h.m.t k hz; omega), fun k hk ha => ?_, fun k hk => (hn k hk).elim (h.n k) (fun h1 => .inr (by omega)), h.m.step m h.om⟩, m.mono (fun k hk => ⟨h.d k hk, h.omz k hk⟩)⟩
  rcases hk with hk | hk
  · exact h.d k (.inl hk) ha
  · rcases hv k hk with h1 | h1
    · exact h.d k (.inr h1) ha
    · have := hA k ha; omega
end
theorem remE_del {X : IX} {e : En} (h : leftE X e = []) : remE X e = ⟨X.slots, delL ltS X.keys e.key⟩ := by unfold remE; rw [if_pos h]
theorem remE_put {X : IX} {e : En} (h : leftE X e ≠ []) : remE X e = ⟨X.slots, putL ltS X.keys e.key (leftE X e)⟩ := by unfold remE; rw [if_neg h]
def dropC (X : IX) (s : Int) : Int := if X.has s = true then 0 else 3
end Go.Proofs.Ytiidkehcfoajeaa
