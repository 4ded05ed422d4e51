/- Rows of chapter 21: steps (Do, an entry), with what a string can have at most. -/
import Derived.Test.YtmdfickejpeofaaBd18
import Derived.SizedLaws
import Derived.Test.YtmdfickejpeofaaBd13
import Derived.Deep.CutBlock
import Derived.Deep.DeepCutAuto
set_option linter.unusedVariables false
set_option linter.unusedSimpArgs false
namespace Go.Proofs.Ytmdfickejpeofaa
open Go.ChangeShapes Go.WideShapes Go.Deep Go.RowKit
/-! ### Sizes -/
section
variable {H : Type} {P : Program}
theorem agg_w {t t' : TypeId} {fs : Array Field} {parts : List (DataW H)} {j : Nat} {d : DataW H} (hu : P.underlying t = some (.struct fs)) (ht : (fs.toList.map (·.type))[j]? = some t') (hd : parts[j]? = some d) : ∀ n ∈ d.weights P t', n ∈ (DataW.agg parts).weights P t := fun n hn => by
  simp only [DataW.weights, hu]
  exact DataW.weights_mem_each ht hd n hn
theorem all_w {e : TypeId} : ∀ {l : List (DataW H)} {d : DataW H}, d ∈ l → ∀ n ∈ d.weights P e, n ∈ DataW.weightsAll P e l
  | [], _, h, _, _ => by cases h
  | a :: l, d, h, n, hn => by
    simp only [DataW.weightsAll, List.mem_append]
    rcases List.mem_cons.1 h with rfl | h
    · exact .inl hn
    · exact .inr (all_w h n hn)
theorem slice_w {t e : TypeId} {l s : List (DataW H)} {d : DataW H} (hu : P.underlying t = some (.slice e)) (hd : d ∈ l) : ∀ n ∈ d.weights P e, n ∈ (DataW.slice l s).weights P t := fun n hn => by
  simp only [DataW.weights, hu, List.mem_cons, List.mem_append]
  exact .inr (.inl (all_w hd n hn))
end
section
variable {H : Type} {enc : TypeId × Value → H} {w : World} {base : Nat} {spare : Nat → Bool} {held : Bool} {n : Nat}
theorem key_w {x : En} {y : DataW H × List MemPlace} (h : DataW.trod enc Try.prog w base spare held n 53 (enC x) = some y) (hz : ∀ m ∈ y.1.weights Try.prog 53, m ≤ reachBytes) : x.key.size ≤ 140737488351232 := by
  obtain ⟨ys, m, _, hy, _, hyl, hf⟩ := DataW.trod_struct Try.underlying53 h
  obtain ⟨y0, y1, y2, y3, y4, y5, rfl⟩ : ∃ y0 y1 y2 y3 y4 y5, ys = [y0, y1, y2, y3, y4, y5] := by
    match ys, hyl with
    | [y0, y1, y2, y3, y4, y5], _ => exact ⟨y0, y1, y2, y3, y4, y5, rfl⟩
  have h1 : DataW.trod enc Try.prog w base spare held m 9 (((enC x).drop 1).take (Try.prog.cellsOf 9)) = some y1 := hf 1 _ rfl
  rw [show Try.prog.cellsOf 9 = 1 by kernel_rfl] at h1
  obtain ⟨a1, e1, e2, _⟩ := DataW.trod_string Try.underlying9 (show DataW.trod enc Try.prog w base spare held m 9 [.string x.key] = some y1 from h1)
  have e3 : x.key = a1 := by have := (List.cons.inj e1).1; injection this
  subst e3
  have h2 := hz x.key.data.toList.length (by
    rw [hy]
    refine agg_w (j := 1) Try.underlying53 rfl rfl _ ?_
    rw [e2]
    simp [DataW.weights])
  have h3 : x.key.size = x.key.data.toList.length := by rw [Array.length_toList]; rfl
  rw [h3]
  exact h2
end
structure Sg where
  n : Int
  e : En
def Sg.cells (x : Sg) : List Value := .int .i64 x.n :: enC x.e
/-- The steps of a list lie at a. -/
def SgAt (w : World) (a : Option Addr) (l : List Sg) : Prop :=
  ∀ i x, l[i]? = some x → ∃ b off, a = some ⟨b, off, none⟩ ∧ b < w.heap.size ∧ (∀ j u, x.cells[j]? = some u → w.cell? ⟨b, off + i * 7 + j, none⟩ = some u) ∧ -9223372036854775808 ≤ x.e.size ∧ x.e.size ≤ 9223372036854775807 ∧ x.e.key.size ≤ 140737488351232
theorem sg_of {H : Type} {enc : TypeId × Value → H} {w : World} {base : Nat} {spare : Nat → Bool} {held : Bool} {n : Nat} {cs : List Value} {y : DataW H × List MemPlace} (hl : cs.length = 7) (h : DataW.trod enc Try.prog w base spare held n 74 cs = some y) (hz : ∀ m ∈ y.1.weights Try.prog 74, m ≤ reachBytes) : ∃ x : Sg, cs = x.cells ∧ -9223372036854775808 ≤ x.e.size ∧ x.e.size ≤ 9223372036854775807 ∧ x.e.key.size ≤ 140737488351232 := by
  obtain ⟨c0, cr, rfl, hr⟩ : ∃ c0 cr, cs = c0 :: cr ∧ cr.length = 6 := by
    match cs, hl with
    | c0 :: cr, h => exact ⟨c0, cr, rfl, by simpa using h⟩
  obtain ⟨ys, m, _, hy, _, hyl, hf⟩ := DataW.trod_struct Try.underlying74 h
  obtain ⟨y0, y1, rfl⟩ : ∃ y0 y1, ys = [y0, y1] := by
    match ys, hyl with
    | [y0, y1], _ => exact ⟨y0, y1, rfl⟩
  have h0 : DataW.trod enc Try.prog w base spare held m 3 (((c0 :: cr).drop 0).take (Try.prog.cellsOf 3)) = some y0 := hf 0 _ rfl
  rw [show Try.prog.cellsOf 3 = 1 by kernel_rfl] at h0
  have h1 : DataW.trod enc Try.prog w base spare held m 53 (((c0 :: cr).drop 1).take (Try.prog.cellsOf 53)) = some y1 := hf 1 _ rfl
  rw [show Try.prog.cellsOf 53 = 6 by kernel_rfl] at h1
  obtain ⟨a0, rfl, _, _⟩ := one_int Try.underlying3 (show DataW.trod enc Try.prog w base spare held m 3 [c0] = some y0 from h0)
  have hcr : cr.take 6 = cr := List.take_of_length_le (by omega)
  have h3 : DataW.trod enc Try.prog w base spare held m 53 (cr.take 6) = some y1 := h1
  rw [hcr] at h3
  obtain ⟨e, rfl, b1, b2⟩ := en_of hr h3
  exact ⟨⟨a0, e⟩, rfl, b1, b2, key_w h3 (fun m hm => hz m (by
    rw [hy]
    exact agg_w (j := 1) Try.underlying74 rfl rfl _ hm))⟩
theorem open_steps21 {H : Type} {enc : TypeId × Value → H} {w : World} {base : Nat} {spare : Nat → Bool} {held : Bool} {fuel : Nat} {a : Option Addr} {len cap : Nat} {x : DataW H × List MemPlace}
    (h : DataW.trod enc Try.prog w base spare held fuel 72 (Value.slice a len cap).cells.toList = some x) (hz : ∀ m ∈ x.1.weights Try.prog 72, m ≤ reachBytes) : len ≤ cap ∧ cap ≤ maxLen ∧ ∃ l : List Sg, l.length = len ∧ SgAt w a l := by
  rcases open_slice Try.underlying72 h with ⟨hcs, _⟩ | ⟨a', l, c, m, n, D, Pl, hcs, _, hl, hm, hmm, hx, hi⟩
  · simp [Value.cells] at hcs
    obtain ⟨rfl, rfl, rfl⟩ := hcs
    exact ⟨by omega, by simp [maxLen], [], rfl, fun i x hx => by simp at hx⟩
  · simp [Value.cells] at hcs
    obtain ⟨rfl, rfl, rfl⟩ := hcs
    rw [show Try.prog.cellsOf 74 = 7 by kernel_rfl] at hi
    refine ⟨hl, hm, ?_⟩
    by_cases h0 : 0 < len
    · have hml : len ≤ m := by rw [hmm]; split <;> omega
      have hE : ∀ i, i < len → ∃ x : Sg, (∀ j, j < 7 → w.cell? ((a'.add (i * 7)).add j) = x.cells[j]?) ∧ -9223372036854775808 ≤ x.e.size ∧ x.e.size ≤ 9223372036854775807 ∧ x.e.key.size ≤ 140737488351232 := fun i hil => by
        obtain ⟨cs', hc, ht⟩ := hi i (by omega)
        obtain ⟨_, hcl, hat⟩ := World.cells?_some hc
        obtain ⟨x, rfl, hb⟩ := sg_of hcl ht (fun m hm => hz m (by rw [hx]; exact slice_w Try.underlying72 (List.mem_map.2 ⟨i, List.mem_range.2 hil, rfl⟩) _ hm))
        exact ⟨x, hat, hb⟩
      have hsp : a'.spot = none := by
        obtain ⟨x, hat, _⟩ := hE 0 h0
        have hc := hat 0 (by omega)
        rw [Go.Deep.add_add] at hc
        exact spot_add (by rw [hc]; rfl)
      obtain ⟨l, hl1, hl2⟩ := list_of len (⟨0, ⟨0, ⟨#[]⟩, false, 0, 0, 0⟩⟩ : Sg) (fun i t => (∀ j u, t.cells[j]? = some u → w.cell? ⟨a'.block, a'.off + i * 7 + j, none⟩ = some u) ∧ a'.block < w.heap.size ∧ -9223372036854775808 ≤ t.e.size ∧ t.e.size ≤ 9223372036854775807 ∧ t.e.key.size ≤ 140737488351232) (fun i hil => by
        obtain ⟨x, hat, hb⟩ := hE i hil
        have h0 : w.cell? (a'.add (i * 7 + 0)) = some (.int .i64 x.n) := by
          have := hat 0 (by omega)
          rw [Go.Deep.add_add] at this
          exact this
        refine ⟨x, fun j u hu => ?_, (at_add h0 hsp).1, hb⟩
        have hj : j < 7 := by
          have := (List.getElem?_eq_some_iff.1 hu).1
          simpa [Sg.cells, enC] using this
        have h1 := (hat j hj).trans hu
        rw [Go.Deep.add_add] at h1
        have h2 := (at_add h1 hsp).2
        rw [← Nat.add_assoc] at h2
        exact h2)
      refine ⟨l, hl1, fun i x hx => ?_⟩
      obtain ⟨hlt, rfl⟩ := List.getElem?_eq_some_iff.1 hx
      obtain ⟨c0, hb, h4⟩ := hl2 i (by omega)
      rw [hx] at c0 h4
      exact ⟨_, _, by obtain ⟨b, o, s⟩ := a'; simp_all, hb, c0, h4⟩
    · obtain rfl : len = 0 := by omega
      exact ⟨[], rfl, fun i x hx => by simp at hx⟩
end Go.Proofs.Ytmdfickejpeofaa

/- drumlinlaw21: the examples of the chapter. -/
set_option linter.unusedVariables false
set_option linter.unusedSimpArgs false
namespace Go.Proofs.Ytmdfickejpeofaa
open Go.RowKit Go.Shelf
attribute [local go_sem] OvM cell_ovm obj_ovm
attribute [local go_sem] Oper.semAt_some

theorem low_1 {k : ByteArray} {c : UInt8} (h : k = ⟨#[c]⟩) (hc : c.toNat < 128) : Low k := by
  subst h
  intro j hj
  have h1 : j < 1 := hj
  have h0 : j = 0 := by omega
  subst h0
  exact hc
def wkA : En := ⟨1, ⟨#[97]⟩, false, 0, 0, 20⟩
def wkB : En := ⟨2, ⟨#[98]⟩, false, 0, 20, 18⟩
def wkC : En := ⟨3, ⟨#[97]⟩, true, 1, 0, 17⟩
def wkD : En := ⟨1, ⟨#[97]⟩, false, 2, 0, 20⟩
def wkL : List (En × Int) := [(wkA, 0), (wkB, 0), (wkC, 0), (wkD, 0), (⟨1, ⟨#[97]⟩, false, 2, 50, 20⟩, 6), (⟨4, ⟨#[99]⟩, false, 0, 19, 17⟩, 6), (⟨1, ⟨#[97]⟩, false, 1, 40, 21⟩, 2), (⟨1, ⟨#[97]⟩, false, 3, 0, 20⟩, 3), (⟨1, ⟨#[66]⟩, false, 0, 0, 17⟩, 2), (⟨9, ⟨#[97]⟩, false, 0, 8176, 17⟩, 2)]
def wkSt (j : Nat) : IX := (wkL.take j).foldl (fun X x => addX X x.1) (ixNew 3)
def wkX : IX := wkSt 10
def wkZ : IX := dropX wkX 0
theorem wk_of : wkX.of ⟨#[97]⟩ = [wkC, wkA, wkD] := by kernel_rfl
theorem wk_slot : wkX.slot 0 = [wkA, wkB] := by kernel_rfl
theorem wk_ks : wkX.ks = [⟨#[97]⟩, ⟨#[98]⟩] := by kernel_rfl
theorem wk_dc : dropC wkX 0 = 0 := by kernel_rfl
theorem wk_ks2 : wkZ.ks = [⟨#[97]⟩] := by kernel_rfl
theorem wk_len2 : wkZ.ents.length = 2 := by kernel_rfl
theorem wk_last2 : wkZ.last = 3 := by kernel_rfl
theorem wk_step : ∀ j x, wkL[j]? = some x → addE (wkSt j) x.1 = x.2 ∧ Low x.1.key ∧ En64 x.1 := by
  intro j x h
  match j, h with
  | 0, h => cases h; exact ⟨by kernel_rfl, low_1 rfl (by decide), by unfold En64; decide⟩
  | 1, h => cases h; exact ⟨by kernel_rfl, low_1 rfl (by decide), by unfold En64; decide⟩
  | 2, h => cases h; exact ⟨by kernel_rfl, low_1 rfl (by decide), by unfold En64; decide⟩
  | 3, h => cases h; exact ⟨by kernel_rfl, low_1 rfl (by decide), by unfold En64; decide⟩
  | 4, h => cases h; exact ⟨by kernel_rfl, low_1 rfl (by decide), by unfold En64; decide⟩
  | 5, h => cases h; exact ⟨by kernel_rfl, low_1 rfl (by decide), by unfold En64; decide⟩
  | 6, h => cases h; exact ⟨by kernel_rfl, low_1 rfl (by decide), by unfold En64; decide⟩
  | 7, h => cases h; exact ⟨by kernel_rfl, low_1 rfl (by decide), by unfold En64; decide⟩
  | 8, h => cases h; exact ⟨by kernel_rfl, low_1 rfl (by decide), by unfold En64; decide⟩
  | 9, h => cases h; exact ⟨by kernel_rfl, low_1 rfl (by decide), by unfold En64; decide⟩
  | _ + 10, h => cases h
theorem wk_next (j : Nat) (x : En × Int) (h : wkL[j]? = some x) : wkSt (j + 1) = addX (wkSt j) x.1 := by
  unfold wkSt
  rw [List.take_add_one, h, List.foldl_append]
  rfl
def row7 (l : List (En × Int)) : List Value := l.flatMap fun x => enC x.1 ++ [.int .i64 x.2]
theorem row7_get (l : List (En × Int)) : ∀ i x, l[i]? = some x → ∀ j u, (enC x.1 ++ [.int .i64 x.2])[j]? = some u → (row7 l)[i * 7 + j]? = some u := by
  induction l with
  | nil => intro i x h; simp at h
  | cons y l ih =>
    intro i x h j u hu
    have hj : j < 7 := by have := (List.getElem?_eq_some_iff.1 hu).1; simpa [enC] using this
    show ((enC y.1 ++ [.int .i64 y.2]) ++ row7 l)[i * 7 + j]? = some u
    cases i with
    | zero => simp at h; subst h; rw [List.getElem?_append_left (by simp [enC]; omega)]; simpa using hu
    | succ i =>
      rw [List.getElem?_append_right (by simp [enC]; omega), show (i + 1) * 7 + j - (enC y.1 ++ [Value.int .i64 y.2]).length = i * 7 + j by simp [enC]; omega]
      exact ih i x (by simpa using h) j u hu
set_option maxRecDepth 40000 in
theorem at_any (k : ByteArray) (q s o z : Int) (d : Bool) (w : World) : Calls Try.prog 94 #[.string k, .int .i64 q, .int .i64 s, .int .i64 o, .int .i64 z, .bool d] w fun e w' => e = .returned (.agg #[.int .i64 q, .string k, .bool d, .int .i64 s, .int .i64 o, .int .i64 z]) ∧ Gr w w' := by
  go_enter Try.func94, Try.ntmps94
  go_wp2
  refine bodyPost_ret (v := .agg #[.int .i64 q, .string k, .bool d, .int .i64 s, .int .i64 o, .int .i64 z]) ?_ rfl ⟨rfl, by (repeat (first | (with_reducible exact Gr.refl _) | assumption | (with_reducible apply Gr.from_drew) | (with_reducible apply Gr.alloc) | (with_reducible apply Gr.drew) | (with_reducible refine Gr.trans ?_ (by assumption)) | (with_reducible refine Gr.setCell ?_ (by omega) _)))⟩
  simp [results, Try.results94, go_sem]
set_option maxRecDepth 40000 in
set_option maxHeartbeats 8000000 in
theorem ix_works (w : World) : Calls Try.prog 30 #[] w fun e w' => e = .returned (.bool true) ∧ Gr w w' := by
  have HST := Lib.hid (fun j x h => And.intro (wk_step j x h) (wk_next j x h))
  go_enter Try.func30, Try.ntmps30
  go_wp2_with fail
  refine (New_any 3 w (by decide) (by decide)).mono ?_
  rintro e w1 ⟨b, S, rfl, h1, h2, h3⟩
  have HS1 : Hid (SW w [ixA b (wkSt 0) S] w1) := Lib.hid ((SW.start w).ixnew h1 h2 h3)
  have HG := Gr.refl w1
  clear h1 h2 h3
  go_wp2_with (go_at_call 94; refine (at_any _ _ _ _ _ _ _).mono ?_; rintro e w2 ⟨rfl, hg⟩; replace HG := HG.trans hg; clear hg)
  obtain ⟨w5, hw5⟩ : ∃ y, y = (((w2.alloc (.cells (enC wkA).toArray 53)).alloc (.cells (enC wkB).toArray 53)).alloc (.cells (enC wkC).toArray 53)).alloc (.cells (enC wkD).toArray 53) := ⟨_, rfl⟩
  obtain ⟨b3, hb3⟩ : ∃ q, q = w2.heap.size := ⟨_, rfl⟩
  have HS5 : Hid (SW w [ixA b (wkSt 0) S, blkA (b3 + 1 + 1 + 1) (.cells (enC wkD).toArray 53), blkA (b3 + 1 + 1) (.cells (enC wkC).toArray 53), blkA (b3 + 1) (.cells (enC wkB).toArray 53), blkA b3 (.cells (enC wkA).toArray 53)] w5) := Lib.hid (by
    have := ((((HS1.out.gr HG).allocT (.cells (enC wkA).toArray 53)).allocT (.cells (enC wkB).toArray 53)).allocT (.cells (enC wkC).toArray 53)).allocT (.cells (enC wkD).toArray 53)
    simp only [World.size_alloc, ← hb3] at this
    rw [← hw5] at this
    exact this)
  simp only [enC, wkA, wkB, wkC, wkD] at hw5
  rw [← hw5, ← hb3]
  clear hw5 hb3 HG
  have d3 := (cellsOf (show w5.heap[b3]? = _ from HS5.out.get (i := 4) rfl)).1
  have d4 := (cellsOf (show w5.heap[b3 + 1]? = _ from HS5.out.get (i := 3) rfl)).1
  have d5 := (cellsOf (show w5.heap[b3 + 1 + 1]? = _ from HS5.out.get (i := 2) rfl)).1
  have d6 := (cellsOf (show w5.heap[b3 + 1 + 1 + 1]? = _ from HS5.out.get (i := 1) rfl)).1
  simp only [enC, wkA, wkB, wkC, wkD] at d3 d4 d5 d6
  have HG := Gr.refl w5.drew
  refine wp_region_flo (fun _ => False) [] [] (by kernel_rfl) (by kernel_rfl) (fun _ h => h.elim) ?_
  refine flo_seg 8 rfl ?_
  simp only [List.take_succ_cons, List.take_zero, List.drop_succ_cons, List.drop_zero]
  repeat (go_big_quiet_step (fail))
  refine wpQuiet_nil ?_
  refine flo_eff rfl rfl rfl rfl (fun K hK => ?_)
  go_wp2_with ((go_at_call 94; refine (at_any _ _ _ _ _ _ _).mono ?_; rintro e w1 ⟨rfl, hg⟩; replace HG := HG.trans hg; (try clear hc); have hc := HG.cell; (try simp only [World.size_alloc] at hc)))
  refine ⟨by (first | (refine Gr.mdh ?_ _; (repeat (first | (with_reducible exact Gr.refl _) | assumption | (with_reducible apply Gr.from_drew) | (with_reducible apply Gr.alloc) | (with_reducible apply Gr.drew) | (with_reducible refine Gr.trans ?_ (by assumption)) | (with_reducible refine Gr.setCell ?_ (by omega) _))); done) | (repeat (first | (with_reducible exact Mdh.refl _ _) | (with_reducible refine Mdh.setCell ?_ (by simp) _) | (with_reducible refine Mdh.setNew ?_ (by simp) _) | (with_reducible apply Mdh.alloc) | (with_reducible apply Mdh.from_drew) | (with_reducible apply Mdh.drew) | (with_reducible refine Mdh.gr ?_ (by assumption))))), ?_⟩
  refine flo_seg 1 rfl ?_
  simp only [List.take_succ_cons, List.take_zero, List.drop_succ_cons, List.drop_zero]
  repeat (go_big_quiet_step (fail))
  refine wpQuiet_nil ?_
  refine flo_eff rfl rfl rfl rfl (fun K hK => ?_)
  go_wp2_with ((go_at_call 94; refine (at_any _ _ _ _ _ _ _).mono ?_; rintro e w1 ⟨rfl, hg⟩; replace HG := HG.trans hg; (try clear hc); have hc := HG.cell; (try simp only [World.size_alloc] at hc)))
  refine ⟨by (first | (refine Gr.mdh ?_ _; (repeat (first | (with_reducible exact Gr.refl _) | assumption | (with_reducible apply Gr.from_drew) | (with_reducible apply Gr.alloc) | (with_reducible apply Gr.drew) | (with_reducible refine Gr.trans ?_ (by assumption)) | (with_reducible refine Gr.setCell ?_ (by omega) _))); done) | (repeat (first | (with_reducible exact Mdh.refl _ _) | (with_reducible refine Mdh.setCell ?_ (by simp) _) | (with_reducible refine Mdh.setNew ?_ (by simp) _) | (with_reducible apply Mdh.alloc) | (with_reducible apply Mdh.from_drew) | (with_reducible apply Mdh.drew) | (with_reducible refine Mdh.gr ?_ (by assumption))))), ?_⟩
  refine flo_seg 1 rfl ?_
  simp only [List.take_succ_cons, List.take_zero, List.drop_succ_cons, List.drop_zero]
  repeat (go_big_quiet_step (fail))
  refine wpQuiet_nil ?_
  refine flo_eff rfl rfl rfl rfl (fun K hK => ?_)
  go_wp2_with ((go_at_call 94; refine (at_any _ _ _ _ _ _ _).mono ?_; rintro e w1 ⟨rfl, hg⟩; replace HG := HG.trans hg; (try clear hc); have hc := HG.cell; (try simp only [World.size_alloc] at hc)))
  refine ⟨by (first | (refine Gr.mdh ?_ _; (repeat (first | (with_reducible exact Gr.refl _) | assumption | (with_reducible apply Gr.from_drew) | (with_reducible apply Gr.alloc) | (with_reducible apply Gr.drew) | (with_reducible refine Gr.trans ?_ (by assumption)) | (with_reducible refine Gr.setCell ?_ (by omega) _))); done) | (repeat (first | (with_reducible exact Mdh.refl _ _) | (with_reducible refine Mdh.setCell ?_ (by simp) _) | (with_reducible refine Mdh.setNew ?_ (by simp) _) | (with_reducible apply Mdh.alloc) | (with_reducible apply Mdh.from_drew) | (with_reducible apply Mdh.drew) | (with_reducible refine Mdh.gr ?_ (by assumption))))), ?_⟩
  refine flo_seg 1 rfl ?_
  simp only [List.take_succ_cons, List.take_zero, List.drop_succ_cons, List.drop_zero]
  repeat (go_big_quiet_step (fail))
  refine wpQuiet_nil ?_
  refine flo_eff rfl rfl rfl rfl (fun K hK => ?_)
  go_wp2_with ((go_at_call 94; refine (at_any _ _ _ _ _ _ _).mono ?_; rintro e w1 ⟨rfl, hg⟩; replace HG := HG.trans hg; (try clear hc); have hc := HG.cell; (try simp only [World.size_alloc] at hc)))
  refine ⟨by (first | (refine Gr.mdh ?_ _; (repeat (first | (with_reducible exact Gr.refl _) | assumption | (with_reducible apply Gr.from_drew) | (with_reducible apply Gr.alloc) | (with_reducible apply Gr.drew) | (with_reducible refine Gr.trans ?_ (by assumption)) | (with_reducible refine Gr.setCell ?_ (by omega) _))); done) | (repeat (first | (with_reducible exact Mdh.refl _ _) | (with_reducible refine Mdh.setCell ?_ (by simp) _) | (with_reducible refine Mdh.setNew ?_ (by simp) _) | (with_reducible apply Mdh.alloc) | (with_reducible apply Mdh.from_drew) | (with_reducible apply Mdh.drew) | (with_reducible refine Mdh.gr ?_ (by assumption))))), ?_⟩
  refine flo_seg 1 rfl ?_
  simp only [List.take_succ_cons, List.take_zero, List.drop_succ_cons, List.drop_zero]
  repeat (go_big_quiet_step (fail))
  refine wpQuiet_nil ?_
  refine flo_eff rfl rfl rfl rfl (fun K hK => ?_)
  go_wp2_with ((go_at_call 94; refine (at_any _ _ _ _ _ _ _).mono ?_; rintro e w1 ⟨rfl, hg⟩; replace HG := HG.trans hg; (try clear hc); have hc := HG.cell; (try simp only [World.size_alloc] at hc)))
  refine ⟨by (first | (refine Gr.mdh ?_ _; (repeat (first | (with_reducible exact Gr.refl _) | assumption | (with_reducible apply Gr.from_drew) | (with_reducible apply Gr.alloc) | (with_reducible apply Gr.drew) | (with_reducible refine Gr.trans ?_ (by assumption)) | (with_reducible refine Gr.setCell ?_ (by omega) _))); done) | (repeat (first | (with_reducible exact Mdh.refl _ _) | (with_reducible refine Mdh.setCell ?_ (by simp) _) | (with_reducible refine Mdh.setNew ?_ (by simp) _) | (with_reducible apply Mdh.alloc) | (with_reducible apply Mdh.from_drew) | (with_reducible apply Mdh.drew) | (with_reducible refine Mdh.gr ?_ (by assumption))))), ?_⟩
  refine flo_seg 1 rfl ?_
  simp only [List.take_succ_cons, List.take_zero, List.drop_succ_cons, List.drop_zero]
  repeat (go_big_quiet_step (fail))
  refine wpQuiet_nil ?_
  refine flo_eff rfl rfl rfl rfl (fun K hK => ?_)
  go_wp2_with ((go_at_call 94; refine (at_any _ _ _ _ _ _ _).mono ?_; rintro e w1 ⟨rfl, hg⟩; replace HG := HG.trans hg; (try clear hc); have hc := HG.cell; (try simp only [World.size_alloc] at hc)))
  refine ⟨by (first | (refine Gr.mdh ?_ _; (repeat (first | (with_reducible exact Gr.refl _) | assumption | (with_reducible apply Gr.from_drew) | (with_reducible apply Gr.alloc) | (with_reducible apply Gr.drew) | (with_reducible refine Gr.trans ?_ (by assumption)) | (with_reducible refine Gr.setCell ?_ (by omega) _))); done) | (repeat (first | (with_reducible exact Mdh.refl _ _) | (with_reducible refine Mdh.setCell ?_ (by simp) _) | (with_reducible refine Mdh.setNew ?_ (by simp) _) | (with_reducible apply Mdh.alloc) | (with_reducible apply Mdh.from_drew) | (with_reducible apply Mdh.drew) | (with_reducible refine Mdh.gr ?_ (by assumption))))), ?_⟩
  refine flo_seg 1 rfl ?_
  simp only [List.take_succ_cons, List.take_zero, List.drop_succ_cons, List.drop_zero]
  repeat (go_big_quiet_step (fail))
  refine wpQuiet_nil ?_
  refine flo_eff rfl rfl rfl rfl (fun K hK => ?_)
  go_wp2
  refine ⟨by (first | (refine Gr.mdh ?_ _; (repeat (first | (with_reducible exact Gr.refl _) | assumption | (with_reducible apply Gr.from_drew) | (with_reducible apply Gr.alloc) | (with_reducible apply Gr.drew) | (with_reducible refine Gr.trans ?_ (by assumption)) | (with_reducible refine Gr.setCell ?_ (by omega) _))); done) | (repeat (first | (with_reducible exact Mdh.refl _ _) | (with_reducible refine Mdh.setCell ?_ (by simp) _) | (with_reducible refine Mdh.setNew ?_ (by simp) _) | (with_reducible apply Mdh.alloc) | (with_reducible apply Mdh.from_drew) | (with_reducible apply Mdh.drew) | (with_reducible refine Mdh.gr ?_ (by assumption))))), ?_⟩
  refine flo_seg 2 rfl ?_
  simp only [List.take_succ_cons, List.take_zero, List.drop_succ_cons, List.drop_zero]
  repeat (go_big_quiet_step (fail))
  refine wpQuiet_nil ?_
  refine flo_nil ?_
  obtain ⟨g, hg⟩ : ∃ q, q = w1.heap.size := ⟨_, rfl⟩
  have HS6 : Hid (SW w [ixA b (wkSt 0) S, blkA g (.cells (row7 wkL).toArray 165), blkA (b3 + 1 + 1 + 1) (.cells (enC wkD).toArray 53), blkA (b3 + 1 + 1) (.cells (enC wkC).toArray 53), blkA (b3 + 1) (.cells (enC wkB).toArray 53), blkA b3 (.cells (enC wkA).toArray 53)] (w1.alloc (.cells (row7 wkL).toArray 165))) := Lib.hid (by rw [hg]; exact (HS5.out.gr (Gr.of_drew HG)).allocT _)
  obtain ⟨w6, hw6⟩ : ∃ y, y = w1.alloc (.cells (row7 wkL).toArray 165) := ⟨_, rfl⟩
  rw [← hw6] at HS6
  simp only [row7, wkL, wkA, wkB, wkC, wkD, enC, List.flatMap_cons, List.flatMap_nil, List.cons_append, List.nil_append, List.append_nil] at hw6
  rw [← hw6, ← hg]
  clear hw6 hg HG hc d3 d4 d5 d6
  go_wp2_with fail
  go_loopw [52] (fun t52 wx => ∃ (j : Nat) (S : Nat → Prop), j ≤ 10 ∧ t52 = .int .i64 j ∧ Hid (SW w [ixA b (wkSt j) S, blkA g (.cells (row7 wkL).toArray 165), blkA (b3 + 1 + 1 + 1) (.cells (enC wkD).toArray 53), blkA (b3 + 1 + 1) (.cells (enC wkC).toArray 53), blkA (b3 + 1) (.cells (enC wkB).toArray 53), blkA b3 (.cells (enC wkA).toArray 53)] wx)) (fun t52 _ => 10 - (intOf t52).toNat)
  case atStart => exact ⟨0, S, by omega, rfl, HS6⟩
  case round =>
    obtain ⟨j, S, hj, rfl, HR⟩ := hrel
    by_cases hlt : j < 10
    · have hlt' : (j : Int) < 10 := by omega
      obtain ⟨x, hx⟩ : ∃ x, wkL[j]? = some x := ⟨_, List.getElem?_eq_getElem (show j < 10 from hlt)⟩
      have HX := Lib.hid (HST.out j x hx)
      have cc := (cellsOf (show wr.heap[g]? = _ from HR.out.get (i := 1) rfl)).1
      have hr : ∀ c u, (enC x.1 ++ [.int .i64 x.2])[c]? = some u → wr.cell? ⟨g, j * 7 + c, none⟩ = some u := fun c u hu => (cc _).trans (by rw [List.getElem?_toArray]; exact row7_get wkL j x hx c u hu)
      have d0 := hr 0 _ rfl
      have d1 := hr 1 _ rfl
      have d2 := hr 2 _ rfl
      have d3 := hr 3 _ rfl
      have d4 := hr 4 _ rfl
      have d5 := hr 5 _ rfl
      have d6 := hr 6 _ rfl
      simp only [Nat.add_zero] at d0 d1 d2 d3 d4 d5 d6
      clear hr cc hx
      obtain ⟨x, y⟩ := x
      simp only at HX d0 d1 d2 d3 d4 d5 d6
      go_wp2_with fail
      obtain ⟨b8, hb8⟩ : ∃ q, q = wr.heap.size := ⟨_, rfl⟩
      obtain ⟨w7, hw7⟩ : ∃ y', y' = wr.alloc (.cells #[.int .i64 x.seq, .string x.key, .bool x.del, .int .i64 x.slot, .int .i64 x.off, .int .i64 x.size, .int .i64 y] 165) := ⟨_, rfl⟩
      have HR7 : Hid (SW w [ixA b (wkSt j) S, blkA g (.cells (row7 wkL).toArray 165), blkA (b3 + 1 + 1 + 1) (.cells (enC wkD).toArray 53), blkA (b3 + 1 + 1) (.cells (enC wkC).toArray 53), blkA (b3 + 1) (.cells (enC wkB).toArray 53), blkA b3 (.cells (enC wkA).toArray 53)] w7) := Lib.hid (by rw [hw7]; exact HR.out.gr ((Gr.refl _).alloc _))
      have HB8 : Hid (w7.heap[b8]? = some (.cells #[.int .i64 x.seq, .string x.key, .bool x.del, .int .i64 x.slot, .int .i64 x.off, .int .i64 x.size, .int .i64 y] 165)) := Lib.hid (by rw [hw7, hb8]; exact blkNew wr _)
      have hS8 : ¬ S b8 := fun h => by have := HR.out.ix.lt _ h; omega
      have HSL : Hid (∀ k, S k → k < w7.heap.size) := Lib.hid HR7.out.ix.lt
      rw [← hw7, ← hb8]
      clear hw7 hb8 d0 d1 d2 d3 d4 d5 d6
      have d8 := (cellsOf HB8.out).1
      have HAD : Hid (Calls Try.prog 20 #[.pointer (some ⟨b, 0, none⟩), .agg #[.int .i64 x.seq, .string x.key, .bool x.del, .int .i64 x.slot, .int .i64 x.off, .int .i64 x.size]] w7.drew fun e w' => e = .returned (.int .i64 y) ∧ ∃ S', SW w [ixA b (wkSt (j + 1)) S', blkA g (.cells (row7 wkL).toArray 165), blkA (b3 + 1 + 1 + 1) (.cells (enC wkD).toArray 53), blkA (b3 + 1 + 1) (.cells (enC wkC).toArray 53), blkA (b3 + 1) (.cells (enC wkB).toArray 53), blkA b3 (.cells (enC wkA).toArray 53)] w' ∧ Mdh S w7.drew w') := Lib.hid (by
        refine (Add_any (HR7.out.ix.gr (Gr.refl _).drew) x HX.out.1.2.1 HX.out.1.2.2).mono ?_
        rintro e w' ⟨rfl, hp⟩
        rw [← HX.out.2] at hp
        obtain ⟨S', hS'⟩ := (HR7.out.gr (Gr.refl _).drew).post hp
        obtain ⟨_, _, hm, _⟩ := hp
        exact ⟨by rw [HX.out.1.1], S', hS', hm⟩)
      refine wp_region_flo (S) [] [] (by kernel_rfl) (by kernel_rfl) (HSL.out) ?_
      refine flo_seg 3 rfl ?_
      simp only [List.take_succ_cons, List.take_zero, List.drop_succ_cons, List.drop_zero]
      repeat (go_big_quiet_step (fail))
      refine wpQuiet_nil ?_
      refine flo_eff rfl rfl rfl rfl (fun K hK => ?_)
      go_wp2_with ((go_at_call 20; refine Calls.mono HAD.out ?_; rintro e w8 ⟨rfl, S', hs', hm⟩; have HS' := Lib.hid hs'; have HM := Lib.hid hm; clear hs' hm))
      refine ⟨by exact HM.out.mono (fun k hk => .inl hk), ?_⟩
      refine flo_seg 3 rfl ?_
      simp only [List.take_succ_cons, List.take_zero, List.drop_succ_cons, List.drop_zero]
      repeat (go_big_quiet_step (fail))
      refine wpQuiet_nil ?_
      refine flo_nil ?_
      go_wp2_with fail
      go_roundw
      case rel => exact ⟨j + 1, S', by omega, by go_num, HS'⟩
      case measure => simp [intOf]; omega
    · have hlt' : ¬ (j : Int) < 10 := by omega
      obtain rfl : j = 10 := by omega
      have HR0 : Hid (SW w [ixA b wkX S, blkA (b3 + 1 + 1 + 1) (.cells (enC wkD).toArray 53), blkA (b3 + 1 + 1) (.cells (enC wkC).toArray 53), blkA (b3 + 1) (.cells (enC wkB).toArray 53), blkA b3 (.cells (enC wkA).toArray 53)] wr) := Lib.hid (HR.out.sub (.cons_cons _ (.cons _ (List.Sublist.refl _))))
      clear HST HR HS6 HS5
      go_wp2_with fail
      refine (Newest_any HR0.out.ixp _).mono ?_
      rintro e w1 ⟨rfl, hg⟩
      rw [wk_of]
      obtain ⟨b9, hb9⟩ : ∃ q, q = w1.heap.size := ⟨_, rfl⟩
      have HR1 : Hid (SW w [ixA b wkX S, blkA b9 (.cells (enC wkC).toArray 53), blkA (b3 + 1 + 1 + 1) (.cells (enC wkD).toArray 53), blkA (b3 + 1 + 1) (.cells (enC wkC).toArray 53), blkA (b3 + 1) (.cells (enC wkB).toArray 53), blkA b3 (.cells (enC wkA).toArray 53)] (w1.alloc (.cells (enC wkC).toArray 53))) := Lib.hid (by rw [hb9]; exact (HR0.out.gr hg).allocT _)
      obtain ⟨w2, hw2⟩ : ∃ y, y = w1.alloc (.cells (enC wkC).toArray 53) := ⟨_, rfl⟩
      rw [← hw2] at HR1
      simp only [enC, wkC] at hw2
      simp only [newV, enV, wkC]
      clear hg
      go_wp2_with fail
      rw [← hw2, ← hb9]
      clear hw2 hb9
      refine (Of_any _ _ _).mono ?_
      rintro e w3 ⟨bb, bk, rfl, k1, k2, l1, l2, hg⟩
      have HR2 := Lib.hid (HR1.out.gr hg)
      have HT := Lib.hid (take_of HR2.out.ixp _ bb bk k1 k2)
      clear k1 k2 l1 l2 hg
      go_wp2_with fail
      refine Calls.mono HT.out ?_
      rw [wk_of]
      rintro e w4 ⟨v1, rfl, hr, hg⟩
      have HR3 := Lib.hid (HR2.out.row hr hg)
      clear hr hg
      go_wp2_with fail
      refine (Slot_any _ _ _).mono ?_
      rintro e w5 ⟨bb', bk', rfl, k1, k2, l1, l2, hg⟩
      have HR4 := Lib.hid (HR3.out.gr hg)
      have HT2 := Lib.hid (take_slot HR4.out.ixp _ bb' bk' k1 k2)
      clear k1 k2 l1 l2 hg
      go_wp2_with fail
      refine Calls.mono HT2.out ?_
      rw [wk_slot]
      rintro e w6 ⟨v2, rfl, hr, hg⟩
      have HR5 := Lib.hid (HR4.out.row hr hg)
      clear hr hg
      go_wp2_with fail
      refine (Keys_any _ _).mono ?_
      rintro e w7 ⟨bk2, rfl, k1, l1, hg⟩
      have HR6 := Lib.hid (HR5.out.gr hg)
      have HT3 := Lib.hid (take_keys HR6.out.ixp bk2 k1)
      clear k1 l1 hg
      go_wp2_with fail
      refine Calls.mono HT3.out ?_
      rw [wk_ks]
      rintro e w8 ⟨v3, rfl, hr, hg⟩
      have HR7 := Lib.hid (HR6.out.row hr hg)
      clear hr hg
      go_wp2_with fail
      refine (Drop_any HR7.out.ix 0).mono ?_
      rintro e w9 ⟨rfl, hp⟩
      rw [wk_slot, wk_dc]
      obtain ⟨S9, hS9⟩ := HR7.out.post hp
      have HR8 : Hid (SW w (ixA b wkZ S9 :: _) w9) := Lib.hid hS9
      clear hS9 hp HT HT2 HT3 HR7 HR6 HR5 HR4 HR3 HR2 HR1 HR0
      have d9 := (cellsOf (show w9.heap[b9]? = _ from HR8.out.get (i := 4) rfl)).1
      have d6 := (cellsOf (show w9.heap[b3 + 1 + 1 + 1]? = _ from HR8.out.get (i := 5) rfl)).1
      have d5 := (cellsOf (show w9.heap[b3 + 1 + 1]? = _ from HR8.out.get (i := 6) rfl)).1
      have d4 := (cellsOf (show w9.heap[b3 + 1]? = _ from HR8.out.get (i := 7) rfl)).1
      have d3 := (cellsOf (show w9.heap[b3]? = _ from HR8.out.get (i := 8) rfl)).1
      simp only [enC, wkA, wkB, wkC, wkD] at d3 d4 d5 d6 d9
      have ke : ∀ w, (binOp .eql 53 (.agg #[.int .i64 3, .string ⟨#[97]⟩, .bool true, .int .i64 1, .int .i64 0, .int .i64 17]) (.agg #[.int .i64 3, .string ⟨#[97]⟩, .bool true, .int .i64 1, .int .i64 0, .int .i64 17])).run Try.prog w = .ok (.bool true) w := fun w => (eqlE_run wkC wkC w).trans (by simp)
      have o1 : Hid (Own w9 53 6 v1 3 (rowE [wkC, wkA, wkD])) := Lib.hid (HR8.out.get (i := 3) rfl)
      have o2 : Hid (Own w9 53 6 v2 2 (rowE [wkA, wkB])) := Lib.hid (HR8.out.get (i := 2) rfl)
      have o3 : Hid (Own w9 9 1 v3 2 (kS [⟨#[97]⟩, ⟨#[98]⟩])) := Lib.hid (HR8.out.get (i := 1) rfl)
      have HB : Hid (w9.heap[b3]? = some (.cells (enC wkA).toArray 53) ∧ w9.heap[b3 + 1]? = some (.cells (enC wkB).toArray 53)) := Lib.hid ⟨HR8.out.get (i := 8) rfl, HR8.out.get (i := 7) rfl⟩
      have HZ : Hid (SW w [ixA b wkZ S9] w9) := Lib.hid (HR8.out.sub (.cons_cons _ (List.nil_sublist _)))
      clear HR8
      go_wp2_with fail
      refine (EqualE [wkC, wkA, wkD] [wkC, wkA, wkD] v1 _ _ (o1.out.gr ((Gr.refl _).alloc _)) (own_lit w9 _ 6 3 (rowE [wkC, wkA, wkD]) rfl (by decide)) (by decide)).mono ?_
      rintro e w10 ⟨rfl, hg⟩
      rw [decide_eq_true (rfl : [wkC, wkA, wkD] = [wkC, wkA, wkD])]
      have HG1 := Lib.hid (((Gr.refl w9).alloc _).trans hg)
      clear hg d9 d6 d5 d4 d3
      have d3 := (cellsOf (HG1.out.blk HB.out.1)).1
      have d4 := (cellsOf (HG1.out.blk HB.out.2)).1
      simp only [enC, wkA, wkB] at d3 d4
      go_wp2_with fail
      refine (EqualE [wkA, wkB] [wkA, wkB] v2 _ _ (o2.out.gr (HG1.out.alloc _)) (own_lit w10 _ 6 2 (rowE [wkA, wkB]) rfl (by decide)) (by decide)).mono ?_
      rintro e w11 ⟨rfl, hg⟩
      rw [decide_eq_true (rfl : [wkA, wkB] = [wkA, wkB])]
      have HG2 := Lib.hid ((HG1.out.alloc _).trans hg)
      clear hg d3 d4
      go_wp2_with fail
      refine (EqualS [⟨#[97]⟩, ⟨#[98]⟩] [⟨#[97]⟩, ⟨#[98]⟩] v3 _ _ (o3.out.gr (HG2.out.alloc _)) (own_lit w11 _ 1 2 (kS [⟨#[97]⟩, ⟨#[98]⟩]) rfl (by decide)) (by decide)).mono ?_
      rintro e w12 ⟨rfl, hg⟩
      rw [decide_eq_true (rfl : ([⟨#[97]⟩, ⟨#[98]⟩] : List ByteArray) = [⟨#[97]⟩, ⟨#[98]⟩])]
      have HG3 := Lib.hid ((HG2.out.alloc _).trans hg)
      clear hg
      go_wp2_with fail
      refine (Keys_any _ _).mono ?_
      rintro e w13 ⟨bk3, rfl, k1, l1, hg⟩
      have HZ2 := Lib.hid (HZ.out.gr (HG3.out.trans hg))
      have HT := Lib.hid (take_keys HZ2.out.ixp bk3 k1)
      clear k1 l1 hg
      go_wp2_with fail
      refine Calls.mono HT.out ?_
      rw [wk_ks2]
      rintro e w14 ⟨v4, rfl, hr, hg⟩
      have HZ3 := Lib.hid (HZ2.out.gr hg)
      have o4 : Hid (Own w14 9 1 v4 1 (kS [⟨#[97]⟩])) := Lib.hid hr.own
      clear hr hg
      go_wp2_with fail
      refine (EqualS [⟨#[97]⟩] [⟨#[97]⟩] v4 _ _ (o4.out.gr ((Gr.refl _).alloc _)) (own_lit w14 _ 1 1 (kS [⟨#[97]⟩]) rfl (by decide)) (by decide)).mono ?_
      rintro e w15 ⟨rfl, hg⟩
      rw [decide_eq_true (rfl : ([⟨#[97]⟩] : List ByteArray) = [⟨#[97]⟩])]
      have HZ4 := Lib.hid ((HZ3.out.gr ((Gr.refl _).alloc _)).gr hg)
      clear hg
      go_wp2_with fail
      refine (Len_any HZ4.out.ixp).mono ?_
      rintro e w16 ⟨rfl, rfl⟩
      rw [wk_len2]
      go_wp2_with fail
      refine (Last_any HZ4.out.ixp).mono ?_
      rintro e w17 ⟨rfl, hg⟩
      rw [wk_last2]
      have HZ5 := Lib.hid (HZ4.out.gr hg)
      clear hg
      go_wp2
      go_ret
      exact ⟨rfl, HZ5.out.g⟩
end Go.Proofs.Ytmdfickejpeofaa

/- IndexPlays: what the index has is the document's. Printed by ipw.py. -/
set_option linter.unusedVariables false
set_option linter.unusedSimpArgs false
namespace Go.Proofs.Ytmdfickejpeofaa
open Go.RowKit Go.Shelf
attribute [local go_sem] OvM cell_ovm obj_ovm
attribute [local go_sem] Oper.semAt_some

def sumG (l : List Sg) : Nat := l.foldl (fun n x => n + x.e.key.size) 0
theorem sumG_take {l : List Sg} {i : Nat} {x : Sg} (hx : l[i]? = some x) : sumG (l.take (i + 1)) = sumG (l.take i) + x.e.key.size := by
  rw [List.take_add_one, hx]
  simp [sumG]
theorem sumG_le (l : List Sg) (B : Nat) (h : ∀ x ∈ l, x.e.key.size ≤ B) : ∀ i, sumG (l.take i) ≤ i * B
  | 0 => by simp [sumG]
  | i + 1 => by
    have h1 := sumG_le l B h i
    rw [Nat.succ_mul]
    cases hx : l[i]? with
    | none => rw [List.take_add_one, hx]; simp; omega
    | some x =>
      rw [sumG_take hx]
      have := h x (List.mem_of_getElem? hx)
      omega
theorem sumG_mono (l : List Sg) : ∀ (i k : Nat), sumG (l.take i) ≤ sumG (l.take (i + k))
  | i, 0 => Nat.le_refl _
  | i, k + 1 => by
    have h1 := sumG_mono l i k
    rw [← Nat.add_assoc]
    cases hx : l[i + k]? with
    | none => rw [List.take_add_one, hx]; simpa using h1
    | some x => rw [sumG_take hx]; omega
theorem sumG_at {l : List Sg} {i n : Nat} {x : Sg} (hx : l[i]? = some x) (hn : i < n) : x.e.key.size ≤ sumG (l.take n) := by
  have h1 := sumG_mono l (i + 1) (n - (i + 1))
  rw [show i + 1 + (n - (i + 1)) = n by omega, sumG_take hx] at h1
  omega
theorem SgAt.at {w W : World} {a : Option Addr} {L : List Sg} {i : Nat} {x : Sg} (h : SgAt w a L) (hx : L[i]? = some x) (g : Gr w W) : ∃ b off, a = some ⟨b, off, none⟩ ∧ b < w.heap.size ∧ (∀ j u, x.cells[j]? = some u → W.cell? ⟨b, off + i * 7 + j, none⟩ = some u) ∧ -9223372036854775808 ≤ x.e.size ∧ x.e.size ≤ 9223372036854775807 ∧ x.e.key.size ≤ 140737488351232 := by
  obtain ⟨b, off, e, hb, c0, c6⟩ := h i x hx
  exact ⟨b, off, e, hb, fun j u hu => g.keep (c0 j u hu), c6⟩
theorem SgAt.sz {w : World} {a : Option Addr} {L : List Sg} (h : SgAt w a L) : ∀ x ∈ L, x.e.key.size ≤ 140737488351232 := fun x hx => by
  obtain ⟨i, hi⟩ := List.mem_iff_getElem?.1 hx
  obtain ⟨_, _, _, _, _, _, _, h1⟩ := h i x hi
  exact h1
set_option maxRecDepth 40000 in
set_option maxHeartbeats 16000000 in
theorem IndexPlays_any (slots : Int) (a : Option Addr) (len cap : Nat) (L : List Sg) (w : World) (hl : L.length = len) (hle : len ≤ cap) (hcap : cap ≤ maxLen) (hs : SgAt w a L) :
    Calls Try.prog 5 #[.int .i64 slots, .slice a len cap] w fun r w' => r = .returned (.bool true) ∧ Gr w w' := by
  have HS := Lib.hid hs
  have HL := Lib.hid hl
  have HSL := Lib.hid (sumG_le L _ hs.sz)
  unfold maxLen at hcap
  obtain ⟨n, hn⟩ : ∃ n : Nat, n = min len 61 := ⟨_, rfl⟩
  have hn1 : n ≤ len := by omega
  have hn2 : n ≤ 61 := by omega
  have hmin : min (len : Int) 61 = n := by omega
  have hlc : (len : Int) ≤ cap := by omega
  have HN : Hid (n = min len 61) := Lib.hid hn
  clear hs hl hn
  go_enter Try.func5, Try.ntmps5
  go_upto_region 2 with fail
  go_cut [5, 25, 26, 27] (fun t5 t25 t26 t27 wx => t5 = .int .i64 0 ∧ t25 = .slice a n cap ∧ t26 = .int .i64 n ∧ t27 = .int .i64 0 ∧ wx = w)
  case first =>
    go_wp2
    all_goals
      go_meet
      first
        | exact ⟨rfl, by rw [show n = len by have := HN.out; omega], by rw [show n = len by have := HN.out; omega], rfl, rfl⟩
        | exact ⟨rfl, by rw [show n = 61 by have := HN.out; omega], by rw [show n = 61 by have := HN.out; omega]; rfl, rfl, rfl⟩
  case rest =>
    obtain ⟨rfl, rfl, rfl, rfl, rfl⟩ := hcut
    go_wp2_with fail
    go_loopw [5, 27] (fun t5 t27 wx => ∃ i : Nat, i ≤ n ∧ t5 = .int .i64 (sumG (L.take i)) ∧ t27 = .int .i64 i ∧ Hid (Gr wc wx)) (fun _ t27 _ => n - (intOf t27).toNat)
    case atStart => exact ⟨0, by omega, by simp [sumG], rfl, Lib.hid (Gr.refl _)⟩
    case round =>
      obtain ⟨i, hi, rfl, rfl, HR⟩ := hrel
      by_cases hlt : i < n
      · have hlt' : (i : Int) < n := by omega
        obtain ⟨st, hx⟩ : ∃ x, L[i]? = some x := ⟨_, List.getElem?_eq_getElem (by have := HL.out; omega)⟩
        obtain ⟨b, off, rfl, hb, hcs, hz1, hz2, hz3⟩ := HS.out.at hx HR.out
        have HTK := Lib.hid (sumG_take hx)
        have hS := HSL.out i
        have hS2 : i * 140737488351232 ≤ 61 * 140737488351232 := Nat.mul_le_mul_right _ (by omega)
        obtain ⟨sn, x0, x1, x2, x3, x4, x5⟩ := st
        generalize sumG (L.take i) = sm at *
        have y0 := hcs 0 _ rfl
        have y1 := hcs 1 _ rfl
        have y2 := hcs 2 _ rfl
        have y3 := hcs 3 _ rfl
        have y4 := hcs 4 _ rfl
        have y5 := hcs 5 _ rfl
        have y6 := hcs 6 _ rfl
        simp only [Nat.add_zero] at y0
        simp only at hz1 hz2 hz3 y0 y1 y2 y3 y4 y5 y6 HTK
        go_wp2_with fail
        go_roundw
        case rel => exact ⟨i + 1, by omega, by rw [HTK.out]; go_num, by go_num, Lib.hid (HR.out.alloc _)⟩
        case measure => simp [intOf]; omega
      · have hlt' : ¬ (i : Int) < n := by omega
        obtain rfl : i = n := by omega
        obtain ⟨w0, hw0⟩ : ∃ y, y = wr := ⟨_, rfl⟩
        have HW0 : Hid (Gr wc w0) := Lib.hid (by rw [hw0]; exact HR.out)
        rw [← hw0]
        clear hw0 HR
        have hS := HSL.out i
        have hS2 : i * 140737488351232 ≤ 61 * 140737488351232 := Nat.mul_le_mul_right _ (by omega)
        by_cases h60 : 60 < len
        · have h60' : (60 : Int) < len := by omega
          go_wp2_with (go_at_call 30; refine (ix_works _).mono ?_; rintro r w1 ⟨rfl, hg⟩; have HG1 := Lib.hid hg; clear hg)
          go_ret
          exact ⟨rfl, HW0.out.trans HG1.out⟩
        have h60' : ¬ (60 : Int) < len := by omega
        by_cases h2k : 2000 < sumG (L.take i)
        · have h2k' : (2000 : Int) < (sumG (L.take i) : Nat) := by omega
          generalize sumG (L.take i) = sm at *
          go_wp2_with (go_at_call 30; refine (ix_works _).mono ?_; rintro r w1 ⟨rfl, hg⟩; have HG1 := Lib.hid hg; clear hg)
          go_ret
          exact ⟨rfl, HW0.out.trans HG1.out⟩
        have h2k' : ¬ (2000 : Int) < (sumG (L.take i) : Nat) := by omega
        have HK2 : Hid (∀ (j : Nat) x, j < i → L[j]? = some x → x.e.key.size ≤ 2000) := Lib.hid (fun j x hj hx => by have := sumG_at hx hj; omega)
        generalize sumG (L.take i) = sm at *
        have hil : i = len := by have := HN.out; omega
        go_wp2_with fail
        refine (pNew (SW.start w0) slots).mono ?_
        rintro r w1 ⟨p, rfl, hp⟩
        have HPH := Lib.hid hp
        clear hp
        go_wp2_with fail
        refine (pNewR HPH.out).mono ?_
        rintro r w2 ⟨q, rfl, hp⟩
        have HPX := Lib.hid (And.intro (relNew slots) hp)
        have hpn := hp.nil_iff
        clear hp HPH
        have hnc : nwC slots = if 1 ≤ slots ∧ slots ≤ 32 then 0 else 2 := rfl
        have hnx : nwX slots = if 1 ≤ slots ∧ slots ≤ 32 then ixNew slots.toNat else ⟨[], []⟩ := rfl
        by_cases h132 : 1 ≤ slots ∧ slots ≤ 32
        case neg =>
          rw [if_neg h132] at hnc hnx
          rw [hnx] at hpn
          obtain rfl := hpn.1.2 rfl
          rw [hnc] 
          clear hpn hnx hnc
          go_wp2_with (go_at_call 30; refine (ix_works _).mono ?_; rintro r w3 ⟨rfl, hg⟩; have HG1 := Lib.hid hg; clear hg)
          go_ret
          exact ⟨rfl, HW0.out.trans (HPX.out.2.g.trans HG1.out)⟩
        rw [if_pos h132] at hnc hnx
        have hs0 : (nwX slots).slots ≠ [] := by rw [hnx]; exact ixNew_pos (by omega)
        obtain ⟨p', hp'⟩ : ∃ p', p = some p' := by
          cases p with
          | none => exact absurd (hpn.1.1 rfl) hs0
          | some p' => exact ⟨p', rfl⟩
        subst hp'
        rw [hnc]
        clear hpn hnx hnc
        generalize nwX slots = X0 at *
        go_wp2_with fail
        go_loopw [8, 10, 12, 13, 71] (fun t8 t10 t12 t13 t71 wx => ∃ (j : Nat) (X : IX) (all : List En) (p q op oq : Option Addr) (R : List Asn), j ≤ len ∧ all.length ≤ j ∧ X.slots ≠ [] ∧ t8 = .pointer p ∧ t10 = .pointer q ∧ t12 = .pointer op ∧ t13 = .pointer oq ∧ t71 = .int .i64 j ∧ Hid (RelX X all ∧ OldR op oq R ∧ PX w0 p q X all R wx)) (fun _ _ _ _ t71 _ => len - (intOf t71).toNat)
        case atStart => exact ⟨0, X0, [], some p', q, none, none, [], by omega, by simp, hs0, rfl, rfl, rfl, rfl, by go_num, Lib.hid ⟨HPX.out.1, .inl ⟨rfl, rfl⟩, HPX.out.2⟩⟩
        case round =>
          clear HPX hs0
          obtain ⟨j, X, all, p, q, op, oq, R, hj, hal, hs0, rfl, rfl, rfl, rfl, rfl, HR⟩ := hrel
          have HG := Lib.hid HR.out.2.2.g
          by_cases hlt : j < len
          · have hlt' : (j : Int) < len := by omega
            obtain ⟨st, hx⟩ : ∃ x, L[j]? = some x := ⟨_, List.getElem?_eq_getElem (by have := HL.out; omega)⟩
            obtain ⟨b, off, rfl, hb, hcs, hz1, hz2, _⟩ := HS.out.at hx (HW0.out.trans HG.out)
            have hz3 := HK2.out j _ (by omega) hx
            obtain ⟨sn, x0, x1, x2, x3, x4, x5⟩ := st
            have y0 := hcs 0 _ rfl
            have y1 := hcs 1 _ rfl
            have y2 := hcs 2 _ rfl
            have y3 := hcs 3 _ rfl
            have y4 := hcs 4 _ rfl
            have y5 := hcs 5 _ rfl
            have y6 := hcs 6 _ rfl
            simp only [Nat.add_zero] at y0
            simp only at hz1 hz2 hz3 y0 y1 y2 y3 y4 y5 y6
            go_upto_region 20 with fail
            obtain ⟨b15, hb15⟩ : ∃ q, q = wr.heap.size := ⟨_, rfl⟩
            obtain ⟨w15, hw15⟩ : ∃ y, y = wr.alloc (.cells #[.int .i64 sn, .int .i64 x0, .string x1, .bool x2, .int .i64 x3, .int .i64 x4, .int .i64 x5] 74) := ⟨_, rfl⟩
            have HP15 : Hid (PX w0 p q X all (blkA b15 (.cells #[.int .i64 sn, .int .i64 x0, .string x1, .bool x2, .int .i64 x3, .int .i64 x4, .int .i64 x5] 74) :: R) w15) := Lib.hid (by rw [hb15, hw15]; exact HR.out.2.2.add ((Gr.refl _).alloc _) (blkNew _ _) (Nat.le_refl _))
            have HOD : Hid (OldR op oq (blkA b15 (.cells #[.int .i64 sn, .int .i64 x0, .string x1, .bool x2, .int .i64 x3, .int .i64 x4, .int .i64 x5] 74) :: R)) := Lib.hid (HR.out.2.1.cons _)
            have HRX := Lib.hid HR.out.1
            rw [← hb15, ← hw15]
            clear hb15 hw15 y0 y1 y2 y3 y4 y5 y6 hx hcs
            have HC15 : Hid (∀ W (q' : Option Addr) (X' : IX) (all' : List En) (R' : List Asn), PX w0 p q' X' all' (blkA b15 (.cells #[.int .i64 sn, .int .i64 x0, .string x1, .bool x2, .int .i64 x3, .int .i64 x4, .int .i64 x5] 74) :: R') W → W.heap[b15]? = some (.cells #[.int .i64 sn, .int .i64 x0, .string x1, .bool x2, .int .i64 x3, .int .i64 x4, .int .i64 x5] 74)) := Lib.hid (fun W q' X' all' R' h => h.part (List.mem_cons_self ..))
            have d15 := (cellsOf (HC15.out _ _ _ _ _ HP15.out)).1
            have z0 := (d15 0).trans (show _ = some (Value.int .i64 sn) from rfl)
            clear d15
            go_upto_block 4 with fail
            clear z0 HR HG
            go_cut [8, 10, 12, 13, 16, 17, 18, 19, 20] from 77 to 123 (fun t8 t10 t12 t13 t16 t17 t18 t19 t20 wx => ∃ (X' : IX) (all' : List En) (p' q' op' oq' : Option Addr) (R' : List Asn), all'.length ≤ j + 1 ∧ X'.slots ≠ [] ∧ t8 = .pointer p' ∧ t10 = .pointer q' ∧ t12 = .pointer op' ∧ t13 = .pointer oq' ∧ t16 = .bool true ∧ Hid (RelX X' all' ∧ OldR op' oq' R' ∧ PX w0 p' q' X' all' R' wx) ∧ Hid (blkA b15 (.cells #[.int .i64 sn, .int .i64 x0, .string x1, .bool x2, .int .i64 x3, .int .i64 x4, .int .i64 x5] 74) ∈ R'))
            case first =>
              by_cases e0 : sn = 0
              · have b0 : (sn == 0) = true := beq_iff_eq.2 e0
                clear e0
                have HAD := Lib.hid (fun W (h : PX w0 p q X all (blkA b15 (.cells #[.int .i64 sn, .int .i64 x0, .string x1, .bool x2, .int .i64 x3, .int .i64 x4, .int .i64 x5] 74) :: R) W) => pAddS h ⟨x0, x1, x2, x3, x4, x5⟩ ⟨hz2, hz1, by show x1.size ≤ _; omega⟩)
                have HAR := Lib.hid (fun W (h : PX w0 p q (addX X ⟨x0, x1, x2, x3, x4, x5⟩) all (blkA b15 (.cells #[.int .i64 sn, .int .i64 x0, .string x1, .bool x2, .int .i64 x3, .int .i64 x4, .int .i64 x5] 74) :: R) W) => pAddRS h HRX.out (by show x1.size ≤ _; omega) (by omega))
                have HRN := Lib.hid (HRX.out.add ⟨x0, x1, x2, x3, x4, x5⟩)
                have hal2 := alX_len X all ⟨x0, x1, x2, x3, x4, x5⟩
                have hsx := Lib.hid (fun h => hs0 ((addX_nil (X := X) (e := ⟨x0, x1, x2, x3, x4, x5⟩)).1 h))
                generalize addE X ⟨x0, x1, x2, x3, x4, x5⟩ = ec at *
                generalize addX X ⟨x0, x1, x2, x3, x4, x5⟩ = X' at *
                generalize alX X all ⟨x0, x1, x2, x3, x4, x5⟩ = all' at *
                simp only [enV] at HAD HAR
                have d15 := (cellsOf (HC15.out _ _ _ _ _ HP15.out)).1
                have z1 := (d15 1).trans (show _ = some (Value.int .i64 x0) from rfl)
                have z2 := (d15 2).trans (show _ = some (Value.string x1) from rfl)
                have z3 := (d15 3).trans (show _ = some (Value.bool x2) from rfl)
                have z4 := (d15 4).trans (show _ = some (Value.int .i64 x3) from rfl)
                have z5 := (d15 5).trans (show _ = some (Value.int .i64 x4) from rfl)
                have z6 := (d15 6).trans (show _ = some (Value.int .i64 x5) from rfl)
                clear d15
                obtain ⟨T, hT⟩ : ∃ T : Nat → Prop, T = fun k => k ≠ b15 ∧ k < w15.heap.size := ⟨_, rfl⟩
                have HT := Lib.hid hT
                have nb : ¬ T b15 := by rw [hT]; rintro ⟨h1, _⟩; exact h1 rfl
                have HIN : Hid (∀ k, (∀ A ∈ blkA b15 (.cells #[.int .i64 sn, .int .i64 x0, .string x1, .bool x2, .int .i64 x3, .int .i64 x4, .int .i64 x5] 74) :: R, ¬ A.S k) → k ≠ b15) := Lib.hid (fun k h e => h _ (List.mem_cons_self ..) e)
                clear hT
                go_wp2_with fail
                refine wp_region_flo (T) [] [] (by kernel_rfl) (by kernel_rfl) (fun k hk => by rw [HT.out] at hk; exact hk.2) ?_
                refine flo_seg 3 rfl ?_
                simp only [List.take_succ_cons, List.take_zero, List.drop_succ_cons, List.drop_zero]
                repeat (go_big_quiet_step (fail))
                refine wpQuiet_nil ?_
                refine flo_eff rfl rfl rfl rfl (fun K hK => ?_)
                go_wp2_with ((go_at_call 20; refine Calls.mono (HAD.out _ (HP15.out.gr (Gr.refl _).drew)) ?_; rintro r wa ⟨rfl, hp, hm⟩; have HPA := Lib.hid hp; have HMA := Lib.hid hm; clear hp hm))
                refine ⟨by exact (HMA.out.cut (n := w15.heap.size) (Nat.le_refl _)).mono (fun k hk => .inl (by rw [HT.out]; exact ⟨HIN.out k hk.1, hk.2⟩)), ?_⟩
                refine flo_seg 3 rfl ?_
                simp only [List.take_succ_cons, List.take_zero, List.drop_succ_cons, List.drop_zero]
                repeat (go_big_quiet_step (fail))
                refine wpQuiet_nil ?_
                refine flo_eff rfl rfl rfl rfl (fun K hK => ?_)
                go_wp2_with ((go_at_call 21; refine Calls.mono (HAR.out _ HPA.out) ?_; rintro r wb ⟨rfl, hp, hm⟩; have HPB := Lib.hid hp; have HMB := Lib.hid hm; clear hp hm))
                refine ⟨by exact (HMB.out.cut (n := wa.heap.size) (Nat.le_refl _)).mono (fun k hk => (Nat.lt_or_ge k w15.heap.size).elim (fun h => .inl (by rw [HT.out]; exact ⟨HIN.out k hk.1, h⟩)) (fun h => .inr (.inr ⟨h, hk.2⟩))), ?_⟩
                refine flo_seg 2 rfl ?_
                simp only [List.take_succ_cons, List.take_zero, List.drop_succ_cons, List.drop_zero]
                repeat (go_big_quiet_step (fail))
                refine wpQuiet_nil ?_
                refine flo_nil ?_
                go_wp2_with fail
                go_meet
                case rel => exact ⟨X', all', p, q, op, oq, _, by omega, hsx.out, rfl, rfl, rfl, rfl, by simp, Lib.hid ⟨HRN.out, HOD.out, HPB.out⟩, Lib.hid (List.mem_cons_self ..)⟩
              · have b0 : (sn == 0) = false := beq_false_of_ne e0
                by_cases e1 : sn = 1
                · have b1 : (sn == 1) = true := beq_iff_eq.2 e1
                  clear e0 e1
                  have HD1 := Lib.hid (pDrop HP15.out x3)
                  have HD2 := Lib.hid (fun W (h : PX w0 p q (dropX X x3) all (blkA b15 (.cells #[.int .i64 sn, .int .i64 x0, .string x1, .bool x2, .int .i64 x3, .int .i64 x4, .int .i64 x5] 74) :: R) W) => pDropR h HRX.out (by omega))
                  have HRN := Lib.hid (HRX.out.dropA x3)
                  have hal2 := alD_len X all x3
                  have hsx := Lib.hid (fun h => hs0 ((drop_nil X x3).1 h))
                  generalize dropX X x3 = X' at *
                  generalize alD X all x3 = all' at *
                  generalize dcX X x3 = dc at *
                  generalize (X.slot x3).length = dl at *
                  have d15 := (cellsOf (HC15.out _ _ _ _ _ HP15.out)).1
                  have z4 := (d15 4).trans (show _ = some (Value.int .i64 x3) from rfl)
                  clear d15
                  go_wp2_with fail
                  refine Calls.mono HD1.out ?_
                  rintro r wa ⟨rfl, hp, _⟩
                  have HPA := Lib.hid hp
                  clear hp z4
                  have d15 := (cellsOf (HC15.out _ _ _ _ _ HPA.out)).1
                  have z4 := (d15 4).trans (show _ = some (Value.int .i64 x3) from rfl)
                  clear d15
                  go_wp2_with fail
                  refine Calls.mono (HD2.out _ HPA.out) ?_
                  rintro r wb ⟨rfl, hp⟩
                  have HPB := Lib.hid hp
                  clear hp
                  go_wp2_with fail
                  go_meet
                  case rel => exact ⟨X', all', p, q, op, oq, _, by omega, hsx.out, rfl, rfl, rfl, rfl, by simp, Lib.hid ⟨HRN.out, HOD.out, HPB.out⟩, Lib.hid (List.mem_cons_self ..)⟩
                · have b1 : (sn == 1) = false := beq_false_of_ne e1
                  by_cases e2 : sn = 2
                  · have b2 : (sn == 2) = true := beq_iff_eq.2 e2
                    clear e0 e1 e2
                    have HI := Lib.hid (pCopyI HP15.out hs0)
                    go_wp2_with fail
                    refine Calls.mono HI.out ?_
                    rintro r wa ⟨p', rfl, hp, _⟩
                    have HPA := Lib.hid hp
                    clear hp
                    go_wp2_with fail
                    refine Calls.mono (pCopyR HPA.out HRX.out (by omega)) ?_
                    rintro r wb ⟨q', R', rfl, hp, ho, hm, _⟩
                    have HPB := Lib.hid hp
                    have HOB := Lib.hid ho
                    have HMB := Lib.hid (hm _ (List.mem_cons_self ..))
                    clear hp ho hm
                    go_wp2_with fail
                    go_meet
                    case rel => exact ⟨X, all, some p', q', p, q, R', by omega, hs0, rfl, rfl, rfl, rfl, rfl, Lib.hid ⟨HRX.out, HOB.out, HPB.out⟩, HMB⟩
                  · have b2 : (sn == 2) = false := beq_false_of_ne e2
                    clear e0 e1 e2
                    go_wp2_with fail
                    go_meet
                    case rel => exact ⟨X, all, p, q, op, oq, _, by omega, hs0, rfl, rfl, rfl, rfl, rfl, Lib.hid ⟨HRX.out, HOD.out, HP15.out⟩, Lib.hid (List.mem_cons_self ..)⟩
            case rest =>
              obtain ⟨X', all', p', q', op', oq', R', hal', hs0', rfl, rfl, rfl, rfl, rfl, HC, HB⟩ := hcut
              obtain ⟨S', hix⟩ := HC.out.2.2.ixp
              have d15 := (cellsOf (show wc.heap[b15]? = some (.cells #[.int .i64 sn, .int .i64 x0, .string x1, .bool x2, .int .i64 x3, .int .i64 x4, .int .i64 x5] 74) from HC.out.2.2.part HB.out)).1
              have z2 := (d15 2).trans (show _ = some (Value.string x1) from rfl)
              have z4 := (d15 4).trans (show _ = some (Value.int .i64 x3) from rfl)
              clear d15
              have HS1 := Lib.hid (shows_any hix (HC.out.2.2.rp HC.out.1 (by omega)) (by rw [← HC.out.1.pm.length_eq]; omega) x1 x3)
              have HPC := Lib.hid HC.out.2.2
              have HOC := Lib.hid HC.out.2.1
              have HRC := Lib.hid HC.out.1
              have hold := HC.out.2.1.get HC.out.2.2
              clear hix HC
              rcases hold with ⟨rfl, rfl⟩ | ⟨oa, ob, Y, SY, rfl, rfl, hy1, hy2, hy3⟩
              · go_wp2_with fail
                refine Calls.mono HS1.out ?_
                rintro r wd ⟨rfl, hg⟩
                have HGD := Lib.hid hg
                clear hg
                go_wp2_with fail
                refine ⟨⟨j + 1, X', all', p', q', none, none, R', by omega, hal', hs0', rfl, rfl, rfl, rfl, by go_num, Lib.hid ⟨HRC.out, HOC.out, HPC.out.gr HGD.out⟩⟩, ?_⟩
                simp [intOf]; omega
              · have HS2 := Lib.hid (fun W (g : Gr wc W) => shows_any (hy1.gr g) (hy2.gr g) hy3 x1 x3)
                clear hy1 hy2 hy3
                go_wp2_with fail
                refine Calls.mono HS1.out ?_
                rintro r wd ⟨rfl, hg⟩
                have HGD := Lib.hid hg
                have d15 := (cellsOf (hg.blk (show wc.heap[b15]? = some (.cells #[.int .i64 sn, .int .i64 x0, .string x1, .bool x2, .int .i64 x3, .int .i64 x4, .int .i64 x5] 74) from HPC.out.part HB.out))).1
                clear hg z2 z4
                have z2 := (d15 2).trans (show _ = some (Value.string x1) from rfl)
                have z4 := (d15 4).trans (show _ = some (Value.int .i64 x3) from rfl)
                clear d15
                go_wp2_with fail
                refine Calls.mono (HS2.out _ HGD.out) ?_
                rintro r we ⟨rfl, hg⟩
                have HGE := Lib.hid (HGD.out.trans hg)
                clear hg
                go_wp2_with fail
                refine ⟨⟨j + 1, X', all', p', q', some oa, some ob, R', by omega, hal', hs0', rfl, rfl, rfl, rfl, by go_num, Lib.hid ⟨HRC.out, HOC.out, HPC.out.gr HGE.out⟩⟩, ?_⟩
                simp [intOf]; omega
          · have hlt' : ¬ (j : Int) < len := by omega
            have HGZ := Lib.hid (HW0.out.trans HG.out)
            clear HR HG
            go_wp2_with (go_at_call 30; refine (ix_works _).mono ?_; rintro r w3 ⟨rfl, hg⟩; have HG1 := Lib.hid hg; clear hg)
            go_ret
            exact ⟨rfl, HGZ.out.trans HG1.out⟩
end Go.Proofs.Ytmdfickejpeofaa
