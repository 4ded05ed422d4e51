/- OrdmapCopies: three maps side by side. -/
import Derived.Test.YtbhkigjmjmfbgaaOfl
import Derived.Test.YtbhkigjmjmfbgaaOmE
import Derived.Test.YtbhkigjmjmfbgaaOme
set_option linter.unusedVariables false
set_option linter.unusedSimpArgs false
namespace Go.Proofs.Ytbhkigjmjmfbgaa
open Go.RowKit Go.Maps

theorem FS.kept {w u u' : World} {b bw n : Nat} {v : Value} {L : List Itii} {S : Nat → Prop} (h : FS w u b v bw n L) (m : Mdh S u u') (h1 : ∀ k, S k → k ≠ b ∧ v.ownBlock ≠ some k ∧ k ≠ bw ∧ w.heap.size ≤ k) : FS w u' b v bw n L :=
  ⟨h.om.mdh m (fun k hk hs => hk.elim (h1 k hs).1 (h1 k hs).2.1), h.gm.mdh m (fun hs => (h1 _ hs).2.2.1 rfl), h.bnd, h.nb, h.nv, h.nw, h.g.md m (fun k hk => (h1 k hk).2.2.2)⟩
theorem FS.low {w u : World} {b bw n : Nat} {v : Value} {L : List Itii} (h : FS w u b v bw n L) : b < u.heap.size ∧ (∀ k, v.ownBlock = some k → k < u.heap.size) ∧ bw < u.heap.size := ⟨blkLt h.om.blk, fun _ hk => h.om.own.lt hk, h.gm.lt⟩
theorem CallsAt.grc {w w' : World} {a : Option Addr} {l : List Cl} (h : CallsAt w a l) (g : Gr w w') : CallsAt w' a l := fun i hi => by
  obtain ⟨b, off, e, hb, c0, c1, c2, h3⟩ := h i hi
  exact ⟨b, off, e, Nat.lt_of_lt_of_le hb g.sz, g.keep c0, g.keep c1, g.keep c2, h3⟩
theorem put_end {pre : List Itii} {k v : Int} (s : Srt ltZ (pre ++ [(k, v)])) : putL ltZ pre k v = pre ++ [(k, v)] := by
  have h := List.pairwise_append.1 s
  have hr : pre.length = rk ltZ pre k := rk_uniq ordZ h.1 k pre.length (Nat.le_refl _) (fun j x _ hx => h.2.2 x (List.mem_of_getElem? hx) (k, v) (by simp)) (fun j x hj hx => by
    have := (List.getElem?_eq_some_iff.1 hx).1; omega)
  have hl : look ltZ pre k = none := by
    unfold look
    rw [← hr, List.getElem?_eq_none (Nat.le_refl _)]
  unfold putL
  rw [hl, ← hr]
  simp
theorem has_out {C : List Itii} (s : Srt ltZ C) (h : ∀ x ∈ C, InB x.1) : hasBii C 70000 = false := by
  unfold hasBii
  rw [(look_none ordZ s 70000).2 (fun v hm => by have := h _ hm; unfold InB at this; simp at this)]
  rfl
theorem GM.apart {β : Type} (bg : Nat) (f : β → Nat) (g : β → List Itii) : Apart (fun Z s X => GM X bg (f s) (g s) ∧ ¬ Z bg) := fun Z Z' s X Y h hm hz =>
  ⟨h.1.mdh hm h.2, fun hk => (hz _ hk).elim h.2 (fun y => by have := h.1.lt; omega)⟩

/-- The map b with its Go map bw; its copy bd; another copy bc, which has turned into C. -/
structure CS (wb w : World) (b bw n : Nat) (v : Value) (L : List Itii) (bd : Nat) (vd : Value) (bc : Nat) (vc : Value) (C : List Itii) (b6 : Nat) : Prop where
  f : FS wb w b v bw n L
  d : OMii w bd vd L
  c : OMii w bc vc C
  nd : wb.heap.size ≤ bd
  ndv : ∀ g, vd.ownBlock = some g → wb.heap.size ≤ g
  nc : wb.heap.size ≤ bc
  ncv : ∀ g, vc.ownBlock = some g → wb.heap.size ≤ g
  x6 : w.heap[b6]? = some (.cells #[.map (some bw)] 24)
  ac : ∀ k, (k = bc ∨ vc.ownBlock = some k) → k ≠ b ∧ v.ownBlock ≠ some k ∧ k ≠ bd ∧ vd.ownBlock ≠ some k ∧ k ≠ b6
  am : ∀ k, (k = b ∨ v.ownBlock = some k) → k ≠ bd ∧ vd.ownBlock ≠ some k
  cb : ∀ x ∈ C, InB x.1
section
variable {wb w w' w2 w3 w4 : World} {b bw n bd bc b6 : Nat} {v vd vc : Value} {L C C' : List Itii}
theorem CS.gr (h : CS wb w b bw n v L bd vd bc vc C b6) (g : Gr w w') : CS wb w' b bw n v L bd vd bc vc C b6 :=
  ⟨h.f.gr g, h.d.gr g, h.c.gr g, h.nd, h.ndv, h.nc, h.ncv, g.blk h.x6, h.ac, h.am, h.cb⟩
theorem CS.lt (h : CS wb w b bw n v L bd vd bc vc C b6) : b < w.heap.size ∧ (∀ k, v.ownBlock = some k → k < w.heap.size) ∧ bw < w.heap.size ∧ bd < w.heap.size ∧ (∀ k, vd.ownBlock = some k → k < w.heap.size) ∧ b6 < w.heap.size ∧ wb.heap.size ≤ w.heap.size :=
  ⟨h.f.low.1, h.f.low.2.1, h.f.low.2.2, blkLt h.d.blk, fun _ hk => h.d.own.lt hk, blkLt h.x6, h.f.g.sz⟩
theorem CS.call (h : CS wb w b bw n v L bd vd bc vc C b6) (hp : OMPostii bc vc C' w w') (hb : ∀ x ∈ C', InB x.1) : ∃ vc', CS wb w' b bw n v L bd vd bc vc' C' b6 := by
  obtain ⟨vc', h1, h2, h3⟩ := hp
  have hbw : ∀ k, (k = bc ∨ vc.ownBlock = some k) → k ≠ bw := by
    rintro k (e | e) rfl
    · exact h.f.gm.ne h.c.blk e
    · exact h.f.gm.nown h.c.own e
  have hn : ∀ k, (k = bc ∨ vc.ownBlock = some k) → wb.heap.size ≤ k := fun k hk => hk.elim (fun e => e ▸ h.nc) (h.ncv k)
  obtain ⟨l1, l2, l3, l4, l5, l6, l7⟩ := h.lt
  refine ⟨vc', h.f.kept h3 (fun k hk => ⟨(h.ac k hk).1, (h.ac k hk).2.1, hbw k hk, hn k hk⟩), h.d.mdh h3 (fun k hk hs => hk.elim (h.ac k hs).2.2.1 (h.ac k hs).2.2.2.1), h1, h.nd, h.ndv, h.nc, fun g hg => (h2 g hg).elim (h.ncv g) (fun hh => by omega), h3.blk h.x6 (fun hs => (h.ac b6 hs).2.2.2.2 rfl), ?_, h.am, hb⟩
  rintro k (e | e)
  · exact h.ac k (.inl e)
  · rcases h2 k e with e' | e'
    · exact h.ac k (.inr e')
    · exact ⟨by omega, fun hv => by have := l2 k hv; omega, by omega, fun hv => by have := l5 k hv; omega, by omega⟩
theorem CS.init (hf : FS wb w2 b v bw n L) (h6 : w2.heap[b6]? = some (.cells #[.map (some bw)] 24)) (hc : OMii w3 bc vc L) (l1 : w2.heap.size ≤ bc) (l2 : ∀ g, vc.ownBlock = some g → w2.heap.size ≤ g) (g3 : Gr w2 w3) (hd : OMii w4 bd vd L) (l3 : w3.heap.size ≤ bd) (l4 : ∀ g, vd.ownBlock = some g → w3.heap.size ≤ g) (g4 : Gr w3 w4) :
    CS wb w4 b bw n v L bd vd bc vc L b6 := by
  obtain ⟨e1, e2, e3⟩ := hf.low
  have e4 := blkLt hc.blk
  have e5 : ∀ k, vc.ownBlock = some k → k < w3.heap.size := fun k hk => hc.own.lt hk
  have e6 := blkLt h6
  have e7 := g3.sz
  have e8 := hf.g.sz
  refine ⟨hf.gr (g3.trans g4), hd, hc.gr g4, by omega, fun g hg => by have := l4 g hg; omega, by omega, fun g hg => by have := l2 g hg; omega, (g3.trans g4).blk h6, ?_, ?_, fun x hx => (hf.bnd x hx).1⟩
  · rintro k (rfl | e)
    · exact ⟨by omega, fun hv => by have := e2 _ hv; omega, by omega, fun hv => by have := l4 _ hv; omega, by omega⟩
    · have a1 := l2 k e
      have a2 := e5 k e
      exact ⟨by omega, fun hv => by have := e2 _ hv; omega, by omega, fun hv => by have := l4 _ hv; omega, by omega⟩
  · rintro k (rfl | e)
    · exact ⟨by omega, fun hv => by have := l4 _ hv; omega⟩
    · have a1 := e2 k e
      exact ⟨by omega, fun hv => by have := l4 _ hv; omega⟩
theorem CS.last (h : CS wb w b bw n v L bd vd bc vc C b6) {L' : List Itii} (hp : OMPostii b v L' w w') : OMii w' bc vc C ∧ OMii w' bd vd L ∧ Gr wb w' := by
  obtain ⟨v', h1, h2, h3⟩ := hp
  refine ⟨h.c.mdh h3 (fun k hk hs => hs.elim (h.ac k hk).1 (h.ac k hk).2.1), h.d.mdh h3 (fun k hk hs => hk.elim (h.am k hs).1 (h.am k hs).2), h.f.g.md h3 (fun k hk => hk.elim (fun e => e ▸ h.f.nb) (h.f.nv k))⟩
end
end Go.Proofs.Ytbhkigjmjmfbgaa
