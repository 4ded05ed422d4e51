/- slices.IndexFunc, ContainsFunc at rows of entries, with any predicate that leaves the world. -/
import Derived.Test.YtiidkehcfoajeaaIxc
set_option linter.unusedVariables false
set_option linter.unusedSimpArgs false
namespace Go.Proofs.Ytiidkehcfoajeaa
open Go.RowKit Go.Shelf
attribute [local go_sem] OvM cell_ovm obj_ovm

/-- A function value that tells whether an entry is as p says, in all worlds in which T alone has turned. -/
structure PredC (g : Nat) (lb : Array Value) (p : En → Bool) (T : Nat → Prop) (w : World) : Prop where
  enter : ∀ args w, (callFunc g args).run Try.prog w = .ok (.enter g args) w
  run : ∀ x w', Mdh T w w' → Calls Try.prog g (#[enV x] ++ lb) w' fun e w'' => e = .returned (.bool (p x)) ∧ Gr w' w''
theorem PredC.mdh {g : Nat} {lb : Array Value} {p : En → Bool} {T : Nat → Prop} {w w' : World} (h : PredC g lb p T w) (m : Mdh T w w') : PredC g lb p T w' := ⟨h.enter, fun x w2 m2 => h.run x w2 (m.trans m2)⟩
theorem PredC.gr {g : Nat} {lb : Array Value} {p : En → Bool} {T : Nat → Prop} {w w' : World} (h : PredC g lb p T w) (m : Gr w w') : PredC g lb p T w' := h.mdh (m.mdh _)
theorem PredC.mono {g : Nat} {lb : Array Value} {p : En → Bool} {T T' : Nat → Prop} {w : World} (h : PredC g lb p T w) (ht : ∀ k, T' k → T k) : PredC g lb p T' w := ⟨h.enter, fun x w2 m2 => h.run x w2 (m2.mono ht)⟩
/-- Where the first that is as p says stands. -/
def idxP (p : En → Bool) (l : List En) : Nat := cnt (fun x => !p x) l
theorem idxP_le (p : En → Bool) (l : List En) : idxP p l ≤ l.length := cnt_le _ l
theorem idxP_any (p : En → Bool) (l : List En) : decide (idxP p l < l.length) = l.any p := by
  rw [Bool.eq_iff_iff, decide_eq_true_iff, List.any_eq_true]
  constructor
  · intro h
    refine ⟨_, List.getElem_mem h, ?_⟩
    simpa using cnt_at (fun x => !p x) l _ (List.getElem?_eq_getElem h)
  · rintro ⟨x, hx, hp⟩
    obtain ⟨i, hi, rfl⟩ := List.mem_iff_getElem.1 hx
    rcases Nat.lt_or_ge i (idxP p l) with h | h
    · have := cnt_lo (fun x => !p x) l i _ h (List.getElem?_eq_getElem hi)
      simp [hp] at this
    · omega
def idxV (p : En → Bool) (l : List En) : Int := if idxP p l < l.length then idxP p l else -1
set_option maxRecDepth 40000 in
set_option maxHeartbeats 2000000 in
theorem IndexFL (l : List En) (hn : l.length ≤ 1000000) (a : Option Addr) (cap : Nat) (w : World) (h : Own w 23 6 (.slice a l.length cap) l.length (rowE l)) {g : Nat} {lb : Array Value} {p : En → Bool} {T : Nat → Prop} (hp : PredC g lb p T w) :
    Calls Try.prog 140 #[.slice a l.length cap, .func (.func g) #[] lb] w fun e w' => e = .returned (.int .i64 (idxV p l)) ∧ Gr w w' := by
  obtain ⟨a', cap', hv, _, _, hat⟩ := ownE_at h
  injection hv with e1 e2 e3
  subst e1 e3
  have HAT := Lib.hid hat
  have HP := Lib.hid hp
  have heg := hp.enter
  clear h hat hp
  go_enter Try.func140, Try.ntmps140
  go_wp2_with fail
  go_loopw [8] (fun t8 wx => ∃ k : Nat, k ≤ l.length ∧ t8 = .int .i64 k ∧ Hid (k ≤ idxP p l ∧ Gr w wx)) (fun t8 _ => l.length - (intOf t8).toNat)
  case atStart => exact ⟨0, by omega, rfl, Lib.hid ⟨by omega, by (repeat (first | (with_reducible exact Gr.refl _) | assumption | (with_reducible apply Gr.from_drew) | (with_reducible apply Gr.alloc) | (with_reducible apply Gr.drew) | (with_reducible refine Gr.trans ?_ (by assumption)) | (with_reducible refine Gr.setCell ?_ (by omega) _)))⟩⟩
  case round =>
    obtain ⟨k, hk, rfl, H⟩ := hrel
    by_cases hlt : k < l.length
    · have hlt' : (k : Int) < l.length := by omega
      have hx : l[k]? = some (l[k]'hlt) := List.getElem?_eq_getElem hlt
      obtain ⟨g0, rfl, _, _, hc⟩ := HAT.out k _ hx
      have HX := Lib.hid hx
      generalize l[k]'hlt = x at *
      have hr : ∀ i u, (enC x)[i]? = some u → wr.cell? ⟨g0, k * 6 + i, none⟩ = some u := fun i u hu => H.out.2.keep (hc i u hu)
      have d0 := hr 0 _ rfl
      have d1 := hr 1 _ rfl
      have d2 := hr 2 _ rfl
      have d3 := hr 3 _ rfl
      have d4 := hr 4 _ rfl
      have d5 := hr 5 _ rfl
      simp only [Nat.add_zero] at d0 d1 d2 d3 d4 d5
      clear hr hc hx
      have HR := Lib.hid (HP.out.run x wr (H.out.2.mdh _))
      cases hpx : p x with
      | true =>
        have HPX := Lib.hid hpx
        clear hpx
        go_wp2_with fail
        refine Calls.mono HR.out ?_
        rintro e w1 ⟨rfl, hg⟩
        rw [HPX.out]
        have HG := Lib.hid hg
        clear hg
        go_wp2
        go_ret
        have hk2 : k = idxP p l := by
          rcases Nat.eq_or_lt_of_le H.out.1 with h1 | h1
          · exact h1
          · have := cnt_lo (fun x => !p x) l k x h1 HX.out
            simp [HPX.out] at this
        exact ⟨ret_int (by unfold idxV; rw [if_pos (by omega), hk2]), H.out.2.trans HG.out⟩
      | false =>
        have HPX := Lib.hid hpx
        clear hpx
        go_wp2_with fail
        refine Calls.mono HR.out ?_
        rintro e w1 ⟨rfl, hg⟩
        rw [HPX.out]
        have HG := Lib.hid hg
        clear hg
        go_wp2
        go_roundw
        case rel => exact ⟨k + 1, by omega, by go_num, Lib.hid ⟨by
          rcases Nat.eq_or_lt_of_le H.out.1 with h1 | h1
          · have := cnt_at (fun x => !p x) l x (by have := HX.out; rw [h1] at this; exact this)
            simp [HPX.out] at this
          · omega, H.out.2.trans HG.out⟩⟩
        case measure => simp [intOf]; omega
    · have hlt' : ¬ (k : Int) < l.length := by omega
      go_wp2
      go_ret
      have := H.out.1
      exact ⟨ret_int (by unfold idxV; rw [if_neg (by omega)]), H.out.2⟩
set_option maxRecDepth 40000 in
set_option maxHeartbeats 2000000 in
theorem IndexFE (l : List En) (hn : l.length ≤ 1000000) (a : Option Addr) (cap : Nat) (w : World) (h : Own w 23 6 (.slice a l.length cap) l.length (rowE l)) {g : Nat} {lb : Array Value} {p : En → Bool} {T : Nat → Prop} (hp : PredC g lb p T w) :
    Calls Try.prog 128 #[.slice a l.length cap, .func (.func g) #[] lb] w fun e w' => e = .returned (.int .i64 (idxV p l)) ∧ Gr w w' := by
  obtain ⟨a', cap', hv, _, _, hat⟩ := ownE_at h
  injection hv with e1 e2 e3
  subst e1 e3
  have HAT := Lib.hid hat
  have HP := Lib.hid hp
  have heg := hp.enter
  clear h hat hp
  go_enter Try.func128, Try.ntmps128
  go_wp2_with fail
  go_loopw [8] (fun t8 wx => ∃ k : Nat, k ≤ l.length ∧ t8 = .int .i64 k ∧ Hid (k ≤ idxP p l ∧ Gr w wx)) (fun t8 _ => l.length - (intOf t8).toNat)
  case atStart => exact ⟨0, by omega, rfl, Lib.hid ⟨by omega, by (repeat (first | (with_reducible exact Gr.refl _) | assumption | (with_reducible apply Gr.from_drew) | (with_reducible apply Gr.alloc) | (with_reducible apply Gr.drew) | (with_reducible refine Gr.trans ?_ (by assumption)) | (with_reducible refine Gr.setCell ?_ (by omega) _)))⟩⟩
  case round =>
    obtain ⟨k, hk, rfl, H⟩ := hrel
    by_cases hlt : k < l.length
    · have hlt' : (k : Int) < l.length := by omega
      have hx : l[k]? = some (l[k]'hlt) := List.getElem?_eq_getElem hlt
      obtain ⟨g0, rfl, _, _, hc⟩ := HAT.out k _ hx
      have HX := Lib.hid hx
      generalize l[k]'hlt = x at *
      have hr : ∀ i u, (enC x)[i]? = some u → wr.cell? ⟨g0, k * 6 + i, none⟩ = some u := fun i u hu => H.out.2.keep (hc i u hu)
      have d0 := hr 0 _ rfl
      have d1 := hr 1 _ rfl
      have d2 := hr 2 _ rfl
      have d3 := hr 3 _ rfl
      have d4 := hr 4 _ rfl
      have d5 := hr 5 _ rfl
      simp only [Nat.add_zero] at d0 d1 d2 d3 d4 d5
      clear hr hc hx
      have HR := Lib.hid (HP.out.run x wr (H.out.2.mdh _))
      cases hpx : p x with
      | true =>
        have HPX := Lib.hid hpx
        clear hpx
        go_wp2_with fail
        refine Calls.mono HR.out ?_
        rintro e w1 ⟨rfl, hg⟩
        rw [HPX.out]
        have HG := Lib.hid hg
        clear hg
        go_wp2
        go_ret
        have hk2 : k = idxP p l := by
          rcases Nat.eq_or_lt_of_le H.out.1 with h1 | h1
          · exact h1
          · have := cnt_lo (fun x => !p x) l k x h1 HX.out
            simp [HPX.out] at this
        exact ⟨ret_int (by unfold idxV; rw [if_pos (by omega), hk2]), H.out.2.trans HG.out⟩
      | false =>
        have HPX := Lib.hid hpx
        clear hpx
        go_wp2_with fail
        refine Calls.mono HR.out ?_
        rintro e w1 ⟨rfl, hg⟩
        rw [HPX.out]
        have HG := Lib.hid hg
        clear hg
        go_wp2
        go_roundw
        case rel => exact ⟨k + 1, by omega, by go_num, Lib.hid ⟨by
          rcases Nat.eq_or_lt_of_le H.out.1 with h1 | h1
          · have := cnt_at (fun x => !p x) l x (by have := HX.out; rw [h1] at this; exact this)
            simp [HPX.out] at this
          · omega, H.out.2.trans HG.out⟩⟩
        case measure => simp [intOf]; omega
    · have hlt' : ¬ (k : Int) < l.length := by omega
      go_wp2
      go_ret
      have := H.out.1
      exact ⟨ret_int (by unfold idxV; rw [if_neg (by omega)]), H.out.2⟩
set_option maxRecDepth 40000 in
theorem ContainsF (l : List En) (hn : l.length ≤ 1000000) (a : Option Addr) (cap : Nat) (w : World) (h : Own w 23 6 (.slice a l.length cap) l.length (rowE l)) {g : Nat} {lb : Array Value} {p : En → Bool} {T : Nat → Prop} (hp : PredC g lb p T w) :
    Calls Try.prog 92 #[.slice a l.length cap, .func (.func g) #[] lb] w fun e w' => e = .returned (.bool (l.any p)) ∧ Gr w w' := by
  have HC := Lib.hid (IndexFE l hn a cap w h hp)
  have HA := Lib.hid (idxP_any p l)
  clear h hp
  go_enter Try.func92, Try.ntmps92
  go_wp2_with fail
  refine Calls.mono HC.out ?_
  rintro e w1 ⟨rfl, hg⟩
  have HG := Lib.hid hg
  clear hg
  unfold idxV
  by_cases hlt : idxP p l < l.length
  · rw [if_pos hlt]
    have h0 : (0 : Int) ≤ idxP p l := by omega
    have HB : Hid (l.any p = true) := Lib.hid (by rw [← HA.out]; simpa using hlt)
    go_wp2
    go_ret
    exact ⟨ret_bool HB.out.symm, HG.out⟩
  · rw [if_neg hlt]
    have HB : Hid (l.any p = false) := Lib.hid (by rw [← HA.out]; simpa using hlt)
    go_wp2
    go_ret
    exact ⟨ret_bool HB.out.symm, HG.out⟩
end Go.Proofs.Ytiidkehcfoajeaa
