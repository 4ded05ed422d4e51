/- drumlinref21's Drop; drumlinlaw22's Made: end. -/
import Derived.Test.YtmdfickejpeofaaGreatBd18
import Derived.Test.YtmdfickejpeofaaGreatBd16
import Derived.Test.YtmdfickejpeofaaGreatBd13
import Derived.Test.YtmdfickejpeofaaGreatBd12
set_option linter.unusedVariables false
set_option linter.unusedSimpArgs false
namespace Go.Proofs.YtmdfickejpeofaaGreat
open Go.RowKit Go.Shelf
attribute [local go_sem] OvM cell_ovm obj_ovm
attribute [local go_sem] Oper.semAt_some

def nsP (s : Int) (o : En) : Bool := !decide (o.slot = s)
theorem tfs {l : List En} {p : En → Bool} {i : Nat} {x : En} (h : l[i]? = some x) : (l.take (i + 1)).filter p = (l.take i).filter p ++ if p x then [x] else [] := by
  rw [List.take_add_one, h, List.filter_append]
  congr 1
  simp only [Option.toList_some, List.filter_cons, List.filter_nil]
set_option maxRecDepth 40000 in
set_option maxHeartbeats 8000000 in
theorem rDrop {w0 w : World} {rb : Nat} {N : Int} {v : Value} {all : List En} {R : List Asn} (h : SW w0 (rIx rb N v all R) w) (s : Int) (h0 : 0 ≤ s) (h1 : s < N) (hn : all.length ≤ 200) :
    Calls Tryz.prog 47 #[.pointer (some ⟨rb, 0, none⟩), .int .i64 s] w fun r w' => r = .returned (.tuple #[.int .i64 ((all.length : Int) - (all.filter (nsP s)).length), .int .i64 0]) ∧ ∃ v', SW w0 (rIx rb N v' (all.filter (nsP s)) R) w' := by
  obtain ⟨i0, hi, hz0, hz1, hz2⟩ := info_parts infoIten
  have H := Lib.hid h
  obtain ⟨av, cv, rfl, hcv, hmv, hat⟩ := ownE_at (show Own w 56 6 v all.length (rowE all) from h.get (i := 1) rfl)
  have HAT := Lib.hid hat
  unfold maxLen at hmv
  have hN0 : 0 < N := by omega
  have n0 : ¬ s < 0 := by omega
  have n1 : ¬ N ≤ s := by omega
  have dr0 := ((cellsOf (show w.heap[rb]? = _ from H.out.get (i := 0) rfl)).1 0).trans (show _ = some (Value.int .i64 N) from rfl)
  clear h hat
  go_enter Tryz.func47, Tryz.ntmps47
  go_wp2_with (go_at_call 71; refine (rvalid (H.out.get (i := 0) rfl) hN0).mono ?_; rintro e w2 ⟨rfl, rfl⟩)
  go_loopw [6, 7] (fun t6 t7 wx => ∃ i : Nat, i ≤ all.length ∧ t7 = .int .i64 i ∧ Hid (Nw w wx 56 6 t6 ((all.take i).filter (nsP s)).length (rowE ((all.take i).filter (nsP s))) ∧ Gr w wx)) (fun _ t7 _ => all.length - (intOf t7).toNat)
  case atStart => exact ⟨0, by omega, rfl, Lib.hid ⟨⟨nilRow _ _ _, fun q hq => by cases hq⟩, Gr.refl _⟩⟩
  case round =>
    obtain ⟨i, hil, rfl, HI⟩ := hrel
    clear dr0
    have hrb : wr.heap[rb]? = _ := HI.out.2.blk (H.out.get (i := 0) rfl)
    have dr1 := ((cellsOf hrb).1 1).trans (show _ = some (Value.slice av all.length cv) from rfl)
    have HRB := Lib.hid hrb
    clear hrb
    by_cases hli : i < all.length
    · have hli' : (i : Int) < all.length := by omega
      obtain ⟨x, hx⟩ : ∃ x, all[i]? = some x := ⟨_, List.getElem?_eq_getElem hli⟩
      obtain ⟨g0, rfl, _, _, hc⟩ := HAT.out i x hx
      have hr : ∀ i' u, (enC x)[i']? = some u → wr.cell? ⟨g0, i * 6 + i', none⟩ = some u := fun i' u hu => HI.out.2.keep (hc i' u hu)
      have d0 := hr 0 _ rfl
      have d1 := hr 1 _ rfl
      have d2 := hr 2 _ rfl
      have d3 := hr 3 _ rfl
      have d4 := hr 4 _ rfl
      have d5 := hr 5 _ rfl
      simp only [Nat.add_zero] at d0 d1 d2 d3 d4 d5
      have HTF := Lib.hid (tfs (p := nsP s) hx)
      have hfl : ((all.take i).filter (nsP s)).length ≤ 1000 := by
        have h1 := List.length_filter_le (nsP s) (all.take i)
        rw [List.length_take] at h1
        omega
      clear hr hc hx
      by_cases hxs : x.slot = s
      · have hb : (x.slot == s) = true := beq_iff_eq.2 hxs
        have hb2 : (x.slot != s) = false := by simp [bne, hb]
        have HTG : Hid ((all.take (i + 1)).filter (nsP s) = (all.take i).filter (nsP s)) := Lib.hid (by rw [HTF.out, show nsP s x = false by unfold nsP; rw [decide_eq_true hxs]; rfl, if_neg (by decide), List.append_nil])
        clear hxs
        go_wp2_with fail
        exact ⟨⟨i + 1, by omega, by simp, Lib.hid ⟨by rw [HTG.out]; exact HI.out.1, HI.out.2⟩⟩, by simp [intOf]; omega⟩
      · have hb : (x.slot == s) = false := beq_false_of_ne hxs
        have hb2 : (x.slot != s) = true := by simp [bne, hb]
        have HTG : Hid ((all.take (i + 1)).filter (nsP s) = (all.take i).filter (nsP s) ++ [x]) := Lib.hid (by rw [HTF.out, show nsP s x = true by unfold nsP; rw [decide_eq_false hxs]; rfl, if_pos rfl])
        clear hxs
        go_wp2_with (first
          | (at_builtin; go_must (refine wpList_appv _ rfl (.tmp 41) (.tmp 49) 37 rfl 56 i0 _ 6 56 Tryz.underlying37 hi hz0 hz1 hz2 rfl (by decide) u6 ((all.take i).filter (nsP s)).length (rowE ((all.take i).filter (nsP s))) rfl (HI.out.1.own.gr (by (repeat (first | (with_reducible exact Gr.refl _) | assumption | (with_reducible apply Gr.from_drew) | (with_reducible apply Gr.alloc) | (with_reducible apply Gr.drew) | (with_reducible refine Gr.trans ?_ (by assumption)) | (with_reducible refine Gr.setCell ?_ (by omega) _))))) (some ⟨wr.heap.size, 0, none⟩) 1 1 (enC x) rfl (src_newK wr (enC x) _ 6 rfl (enC_one x)) (by simp only [maxLen]; omega) (by omega) ?_); intro v2 w2 hA; have N2 := Lib.hid (hA.nw (HI.out.1.gr ((Gr.refl wr).alloc _)) (by have := HI.out.2.sz; simp; omega)); have HG2 := Lib.hid (hA.gw (HI.out.1.gr ((Gr.refl wr).alloc _)) (HI.out.2.alloc _)); clear hA)
          | fail)
        exact ⟨⟨i + 1, by omega, by simp, Lib.hid ⟨by rw [HTG.out, rowE_snoc, List.length_append]; exact N2.out, HG2.out⟩⟩, by simp [intOf]; omega⟩
    · have hli' : ¬ (i : Int) < all.length := by omega
      obtain rfl : i = all.length := by omega
      rw [List.take_length] at HI
      obtain ⟨a6, c6, rfl, _, _, _⟩ := ownE_at HI.out.1.own
      have hfl : (all.filter (nsP s)).length ≤ all.length := List.length_filter_le _ _
      obtain ⟨_, fr⟩ := cellsOf HRB.out
      have lr := blkLt HRB.out
      generalize hfn : (all.filter (nsP s)).length = fn at *
      go_wp2_with fail
      go_ret2
      rw [← hfn] at HI ⊢
      refine ⟨rfl, .slice a6 (all.filter (nsP s)).length c6, ?_⟩
      have h1 := H.out.new HI.out.2 (A := rowA 56 6 (.slice a6 (all.filter (nsP s)).length c6) (all.filter (nsP s)).length (rowE (all.filter (nsP s)))) HI.out.1.own (fun k hk => HI.out.1.new k hk)
      have h2 := h1.at (i := 1) rfl ((Mdh.refl (fun k => k = rb) wr).setCell (p := ⟨rb, 1, none⟩) rfl (.slice a6 (all.filter (nsP s)).length c6)) (fun k hk => .inl hk) (B := blkA rb (rmO N (.slice a6 (all.filter (nsP s)).length c6))) (blkSet (j := 1) HRB.out) (fun k hk => .inl hk)
      exact (h2.sub (.cons_cons _ (.cons_cons _ (.cons _ (List.Sublist.refl _))))).perm (List.Perm.swap _ _ _)

abbrev mdO (b rb : Nat) (v : Value) (nx : Int) : Obj := .cells #[.pointer (some ⟨b, 0, none⟩), .pointer (some ⟨rb, 0, none⟩), v, .int .i64 nx] 39
theorem endL_take {all : List En} {i : Nat} {x : En} (h : all[i]? = some x) (s : Int) : endL (all.take (i + 1)) s = endF s (endL (all.take i) s) x := by
  rw [List.take_add_one, h]
  exact endL_snoc _ _ _
theorem endL_le {all : List En} {m : Int} (hm : 0 ≤ m) (h : ∀ o ∈ all, o.off + o.size ≤ m) (s : Int) : endL all s ≤ m := by
  have h2 : ∀ (l : List En) (a : Int), a ≤ m → (∀ o ∈ l, o.off + o.size ≤ m) → l.foldl (endF s) a ≤ m := by
    intro l
    induction l with
    | nil => intro a ha _; exact ha
    | cons e l ih =>
      intro a ha hl
      refine ih _ ?_ (fun o ho => hl o (List.mem_cons_of_mem _ ho))
      have := hl e (List.mem_cons_self ..)
      unfold endF
      split <;> omega
  exact h2 all 0 hm h
set_option maxRecDepth 40000 in
set_option maxHeartbeats 8000000 in
theorem mEnd {w : World} {mb b rb : Nat} {v : Value} {nx : Int} {all : List En} (hm : w.heap[mb]? = some (mdO b rb v nx)) (hr : Own w 56 6 v all.length (rowE all)) (hn : all.length ≤ 200) (hb : ∀ o ∈ all, 0 ≤ o.off ∧ o.off ≤ 8192 ∧ 0 ≤ o.size ∧ o.size ≤ 8192) (s : Int) :
    Calls Tryz.prog 153 #[.pointer (some ⟨mb, 0, none⟩), .int .i64 s] w fun r w' => r = .returned (.int .i64 (endL all s)) ∧ Gr w w' := by
  obtain ⟨av, cv, rfl, hcv, hmv, hat⟩ := ownE_at hr
  have HAT := Lib.hid hat
  have HM := Lib.hid hm
  have HB := Lib.hid hb
  unfold maxLen at hmv
  clear hm hr hat hb
  go_enter Tryz.func153, Tryz.ntmps153
  go_wp2_with fail
  go_loopw [5, 6] (fun t5 t6 wx => ∃ i : Nat, i ≤ all.length ∧ t5 = .int .i64 (endL (all.take i) s) ∧ t6 = .int .i64 i ∧ Hid (Gr w wx)) (fun _ t6 _ => all.length - (intOf t6).toNat)
  case atStart => exact ⟨0, by omega, rfl, rfl, Lib.hid (Gr.refl _)⟩
  case round =>
    obtain ⟨i, hil, rfl, rfl, HI⟩ := hrel
    have dm := ((cellsOf (HI.out.blk HM.out)).1 2).trans (show _ = some (Value.slice av all.length cv) from rfl)
    by_cases hli : i < all.length
    · have hli' : (i : Int) < all.length := by omega
      obtain ⟨x, hx⟩ : ∃ x, all[i]? = some x := ⟨_, List.getElem?_eq_getElem hli⟩
      obtain ⟨g0, rfl, _, _, hc⟩ := HAT.out i x hx
      have d3 := HI.out.keep (hc 3 _ rfl)
      have d4 := HI.out.keep (hc 4 _ rfl)
      have d5 := HI.out.keep (hc 5 _ rfl)
      have HTE := Lib.hid (endL_take hx s)
      obtain ⟨q1, q2, q3, q4⟩ := HB.out x (List.mem_of_getElem? hx)
      have p1 := endL_nn (all.take i) s
      have p2 := endL_le (all := all.take i) (m := 16384) (by omega) (fun o ho => by have := HB.out o (List.mem_of_mem_take ho); omega) s
      generalize endL (all.take i) s = en at *
      clear hc hx
      by_cases hxs : x.slot = s
      · have hbb : (x.slot == s) = true := beq_iff_eq.2 hxs
        have HTG : Hid (endL (all.take (i + 1)) s = max en (x.off + x.size)) := Lib.hid (by rw [HTE.out]; exact if_pos hxs)
        clear hxs
        go_wp2_with fail
        refine wp_region_flo (fun _ => False) [] [] (by kernel_rfl) (by kernel_rfl) (fun _ h => h.elim) ?_
        refine flo_seg 20 rfl ?_
        simp only [List.take_succ_cons, List.take_zero, List.drop_succ_cons, List.drop_zero]
        repeat (go_big_quiet_step (fail))
        refine wpQuiet_nil ?_
        refine flo_nil ?_
        go_wp2_with fail
        all_goals
          refine ⟨⟨i + 1, by omega, by rw [HTG.out]; congr 1; omega, by simp, Lib.hid (HI.out.trans (Gr.refl _).drew)⟩, by simp [intOf]; omega⟩
      · have hbb : (x.slot == s) = false := beq_false_of_ne hxs
        have HTG : Hid (endL (all.take (i + 1)) s = en) := Lib.hid (by rw [HTE.out]; exact if_neg hxs)
        clear hxs
        go_wp2_with fail
        exact ⟨⟨i + 1, by omega, by rw [HTG.out], by simp, HI⟩, by simp [intOf]; omega⟩
    · have hli' : ¬ (i : Int) < all.length := by omega
      obtain rfl : i = all.length := by omega
      rw [List.take_length]
      go_wp2_with fail
      go_ret
      exact ⟨rfl, HI.out⟩
end Go.Proofs.YtmdfickejpeofaaGreat

/- An index of the program beside the reference's: both made by one number of slots, or neither; Add and Drop of both. -/
set_option linter.unusedVariables false
set_option linter.unusedSimpArgs false
namespace Go.Proofs.YtmdfickejpeofaaGreat
open Go.RowKit Go.Shelf
attribute [local go_sem] OvM cell_ovm obj_ovm
attribute [local go_sem] Oper.semAt_some

/-! ### Plain -/
/-- The entries of the reference are the index's. -/
structure RelX (X : IX) (all : List En) : Prop where
  wf : X.Wf
  pm : all.Perm X.ents
def nwC (n : Int) : Int := if 1 ≤ n ∧ n ≤ 32 then 0 else 2
def nwX (n : Int) : IX := if 1 ≤ n ∧ n ≤ 32 then ixNew n.toNat else ⟨[], []⟩
def alX (X : IX) (all : List En) (e : En) : List En := if addE X e = 0 then all ++ [e] else all
theorem relNew (n : Int) : RelX (nwX n) [] := by
  unfold nwX
  split
  · exact ⟨new_wf (by omega), by unfold IX.ents ixNew; simp⟩
  · exact ⟨none_wf, List.Perm.refl _⟩
section
variable {X : IX} {all : List En}
theorem RelX.no (h : RelX X all) (h0 : X.slots = []) : X = ⟨[], []⟩ := by
  obtain ⟨s, k⟩ := X
  have := h.wf.z h0
  simp only at h0 this
  rw [h0, this]
theorem RelX.codes (h : RelX X all) (h0 : X.slots ≠ []) (e : En) : rAddC X.slots.length all e = addE X e :=
  rAddC_eq h.wf rfl (by have := List.length_pos_iff.2 h0; omega) h.pm e
theorem RelX.lists (h : RelX X all) (h0 : X.slots ≠ []) (e : En) : rAddL X.slots.length all e = alX X all e := by
  unfold rAddL alX
  rw [h.codes h0]
theorem RelX.add (h : RelX X all) (e : En) : RelX (addX X e) (alX X all e) := by
  unfold alX
  by_cases h1 : addE X e = 0
  · rw [if_pos h1]
    have a := add_ok h1
    exact ⟨add_wf h.wf a, (List.perm_append_singleton e all).trans ((h.pm.cons e).trans (add_ents h.wf a).symm)⟩
  · rw [if_neg h1, addX_no h1]; exact h
theorem RelX.val (h : RelX X all) {e : En} (he : e ∈ all) : validE e = true := (h.wf.valid (h.pm.mem_iff.1 he)).1
theorem RelX.rows (h : RelX X all) : ∀ o ∈ all, 0 ≤ o.off ∧ o.off ≤ 8192 ∧ 0 ≤ o.size ∧ o.size ≤ 8192 := fun o ho => by
  have := (valid_iff o).1 (h.val ho)
  omega
theorem RelX.drop (h : RelX X all) {s : Int} (hh : X.has s = true) : (X.slot s).length + (all.filter (nsP s)).length = all.length ∧ RelX (dropX X s) (all.filter (nsP s)) := by
  have hp := drop_ents h.wf hh
  have hw := drop_wf h.wf s
  have hne : ∀ o ∈ (dropX X s).ents, nsP s o = true := fun o ho => by
    unfold nsP
    simp only [Bool.not_eq_true', decide_eq_false_iff_not]
    intro e
    have h2 := (hw.slot_mem s o).2 ⟨ho, e⟩
    rw [drop_slot h.wf, if_pos rfl] at h2
    cases h2
  have hs : ∀ o ∈ X.slot s, ¬ nsP s o = true := fun o ho => by unfold nsP; simp [((h.wf.slot_mem s o).1 ho).2]
  have hpm : (all.filter (nsP s)).Perm (dropX X s).ents := by
    have h2 := (h.pm.trans hp).filter (nsP s)
    rw [List.filter_append, List.filter_eq_nil_iff.2 hs, List.nil_append, List.filter_eq_self.2 hne] at h2
    exact h2
  refine ⟨?_, hw, hpm⟩
  have h2 := (h.pm.trans hp).length_eq
  have h3 := hpm.length_eq
  rw [List.length_append] at h2
  omega
end
theorem addX_slots (X : IX) (e : En) : (addX X e).slots.length = X.slots.length := by
  unfold addX
  split
  · simp
  · rfl
theorem addX_nil {X : IX} {e : En} : (addX X e).slots = [] ↔ X.slots = [] := by
  rw [← List.length_eq_zero_iff, ← List.length_eq_zero_iff, addX_slots]
theorem alX_len (X : IX) (all : List En) (e : En) : (alX X all e).length ≤ all.length + 1 := by
  unfold alX
  split <;> simp
theorem add_nil {e : En} : addE ⟨[], []⟩ e = 1 := if_pos rfl

/-! ### In a world -/
/-- The program's index alone. -/
def PH (w0 : World) (p : Option Addr) (X : IX) (R : List Asn) (w : World) : Prop :=
  (p = none ∧ X = ⟨[], []⟩ ∧ SW w0 R w) ∨ (∃ b S, p = some ⟨b, 0, none⟩ ∧ X.slots ≠ [] ∧ SW w0 (ixA b X S :: R) w)
abbrev pxL (b rb : Nat) (X : IX) (S : Nat → Prop) (v : Value) (all : List En) (R : List Asn) : List Asn := ixA b X S :: rIx rb X.slots.length v all R
/-- Both. -/
def PX (w0 : World) (p q : Option Addr) (X : IX) (all : List En) (R : List Asn) (w : World) : Prop :=
  (p = none ∧ q = none ∧ X = ⟨[], []⟩ ∧ all = [] ∧ SW w0 R w) ∨ (∃ b rb S v, p = some ⟨b, 0, none⟩ ∧ q = some ⟨rb, 0, none⟩ ∧ X.slots ≠ [] ∧ SW w0 (pxL b rb X S v all R) w)
section
variable {w0 w w' : World} {p q : Option Addr} {X : IX} {all : List En} {R : List Asn}
theorem PX.gr (h : PX w0 p q X all R w) (g : Gr w w') : PX w0 p q X all R w' := by
  rcases h with ⟨h1, h2, h3, h4, h5⟩ | ⟨b, rb, S, v, h1, h2, h3, h4⟩
  · exact .inl ⟨h1, h2, h3, h4, h5.gr g⟩
  · exact .inr ⟨b, rb, S, v, h1, h2, h3, h4.gr g⟩
theorem PX.g (h : PX w0 p q X all R w) : Gr w0 w := by
  rcases h with ⟨_, _, _, _, h5⟩ | ⟨b, rb, S, v, _, _, _, h4⟩
  · exact h5.g
  · exact h4.g
theorem PX.ixp (h : PX w0 p q X all R w) : ∃ S, IXP w p X S := by
  rcases h with ⟨h1, h2, h3, h4, h5⟩ | ⟨b, rb, S, v, h1, h2, h3, h4⟩
  · exact ⟨fun _ => False, .inr ⟨.inl h1, h3, fun k => ⟨fun h => h.elim, (fun ⟨a, ha, _⟩ => by rw [h1] at ha; cases ha)⟩⟩⟩
  · exact ⟨S, h1 ▸ h4.ixp⟩
theorem PX.rp (h : PX w0 p q X all R w) (hr : RelX X all) (hn : all.length ≤ 1000) : RP w q X := by
  rcases h with ⟨h1, h2, h3, h4, h5⟩ | ⟨b, rb, S, v, h1, h2, h3, h4⟩
  · exact .inl ⟨h2, h3⟩
  · exact .inr ⟨rb, h2, v, all, h4.get (i := 1) rfl, h3, h4.get (i := 2) rfl, hr.wf, hr.pm, hn⟩
theorem PX.part (h : PX w0 p q X all R w) {A : Asn} (hA : A ∈ R) : A.P w := by
  rcases h with ⟨_, _, _, _, h5⟩ | ⟨b, rb, S, v, _, _, _, h4⟩
  · exact h5.s.get hA
  · exact h4.s.get (List.mem_cons_of_mem _ (List.mem_cons_of_mem _ (List.mem_cons_of_mem _ hA)))
theorem PX.nil_iff (h : PX w0 p q X all R w) : (p = none ↔ X.slots = []) ∧ (q = none ↔ X.slots = []) := by
  rcases h with ⟨rfl, rfl, rfl, _, _⟩ | ⟨b, rb, S, v, rfl, rfl, h3, _⟩
  · exact ⟨⟨fun _ => rfl, fun _ => rfl⟩, ⟨fun _ => rfl, fun _ => rfl⟩⟩
  · exact ⟨⟨(fun h => by cases h), fun h => absurd h h3⟩, ⟨(fun h => by cases h), fun h => absurd h h3⟩⟩
end
theorem pNew {w0 w : World} {R : List Asn} (h : SW w0 R w) (n : Int) : Calls Tryz.prog 32 #[.int .i64 n] w fun e w' => ∃ p, e = .returned (.tuple #[.pointer p, .int .i64 (nwC n)]) ∧ PH w0 p (nwX n) R w' := by
  unfold nwC nwX
  by_cases h1 : 1 ≤ n ∧ n ≤ 32
  · rw [if_pos h1, if_pos h1]
    obtain ⟨m, rfl⟩ : ∃ m : Nat, n = m := ⟨n.toNat, by omega⟩
    have hm1 : 1 ≤ m := by omega
    have hm2 : m ≤ 32 := by omega
    refine (New_any m w hm1 hm2).mono ?_
    rintro e w' ⟨b, S, rfl, i1, i2, i3⟩
    exact ⟨_, rfl, .inr ⟨b, S, rfl, ixNew_pos hm1, h.ixnew i1 i2 i3⟩⟩
  · rw [if_neg h1, if_neg h1]
    refine (new_bad n (by omega) w).mono ?_
    rintro e w' ⟨rfl, rfl⟩
    exact ⟨none, rfl, .inl ⟨rfl, rfl, h⟩⟩
theorem rNew_bad (n : Int) (h : n < 1 ∨ 32 < n) (w : World) : Calls Tryz.prog 33 #[.int .i64 n] w fun e w' => e = .returned (.tuple #[.pointer none, .int .i64 2]) ∧ w = w' := by
  rcases h with h | h
  · go_enter Tryz.func33, Tryz.ntmps33
    go_wp2
    go_ret2
    exact ⟨rfl, rfl⟩
  · have h' : ¬ n < 1 := by omega
    go_enter Tryz.func33, Tryz.ntmps33
    go_wp2
    go_ret2
    exact ⟨rfl, rfl⟩
theorem pNewR {w0 w : World} {R : List Asn} {p : Option Addr} {n : Int} (h : PH w0 p (nwX n) R w) : Calls Tryz.prog 33 #[.int .i64 n] w fun e w' => ∃ q, e = .returned (.tuple #[.pointer q, .int .i64 (nwC n)]) ∧ PX w0 p q (nwX n) [] R w' := by
  unfold nwC
  unfold nwX at h ⊢
  by_cases h1 : 1 ≤ n ∧ n ≤ 32
  · rw [if_pos h1] at h ⊢
    rw [if_pos h1]
    obtain ⟨m, rfl⟩ : ∃ m : Nat, n = m := ⟨n.toNat, by omega⟩
    have hm1 : 1 ≤ m := by omega
    have hm2 : m ≤ 32 := by omega
    rw [Int.toNat_natCast] at h ⊢
    have hl : ((ixNew m).slots.length : Int) = m := by unfold ixNew; simp
    rcases h with ⟨_, h2, _⟩ | ⟨b, S, rfl, h2, h3⟩
    · exact absurd (by rw [h2]) (ixNew_pos hm1)
    · refine (rNew m hm1 hm2 w).mono ?_
      rintro e w' ⟨rfl, rfl⟩
      have h4 := h3.alloc (rmO m (.slice none 0 0))
      have n1 : Own (w.alloc (rmO m (.slice none 0 0))) 56 6 (.slice none 0 0) 0 [] := nilRow _ _ _
      have h5 := h4.new (Gr.refl _) (A := rowA 56 6 (.slice none 0 0) 0 []) n1 (fun k hk => by cases hk)
      refine ⟨_, rfl, .inr ⟨b, w.heap.size, S, .slice none 0 0, rfl, rfl, h2, ?_⟩⟩
      show SW w0 (ixA b (ixNew m) S :: blkA w.heap.size (rmO (ixNew m).slots.length (.slice none 0 0)) :: rowA 56 6 (.slice none 0 0) ([] : List En).length (rowE []) :: R) _
      rw [hl]
      exact (h5.pick (i := 1) rfl).pick (i := 2) rfl
  · rw [if_neg h1] at h ⊢
    rw [if_neg h1]
    refine (rNew_bad n (by omega) w).mono ?_
    rintro e w' ⟨rfl, rfl⟩
    rcases h with ⟨rfl, _, h3⟩ | ⟨b, S, _, h2, _⟩
    · exact ⟨none, rfl, .inl ⟨rfl, rfl, rfl, rfl, h3⟩⟩
    · exact absurd rfl h2
theorem pAdd {w0 w : World} {p q : Option Addr} {X : IX} {all : List En} {R : List Asn} (h : PX w0 p q X all R w) (e : En) (hB : En64 e) :
    Calls Tryz.prog 44 #[.pointer p, enV e] w fun r w' => r = .returned (.int .i64 (addE X e)) ∧ PX w0 p q (addX X e) all R w' ∧ Mdh (fun k => w0.heap.size ≤ k) w w' := by
  rcases h with ⟨rfl, rfl, rfl, rfl, h5⟩ | ⟨b, rb, S, v, rfl, rfl, h3, h4⟩
  · refine (AddN (.inl rfl) e).mono ?_
    rintro r w' ⟨rfl, hg⟩
    exact ⟨rfl, .inl ⟨rfl, rfl, rfl, rfl, h5.gr hg⟩, hg.mdh _⟩
  · refine (Add_all h4.ix e hB).mono ?_
    rintro r w' ⟨rfl, hp⟩
    obtain ⟨S', h6⟩ := h4.post hp
    obtain ⟨_, _, hm, _⟩ := hp
    refine ⟨rfl, .inr ⟨b, rb, S', v, rfl, rfl, fun h0 => h3 (addX_nil.1 h0), ?_⟩, hm.mono (fun k hk => h4.n (ixA b X S) (List.mem_cons_self ..) k hk)⟩
    show SW w0 (ixA b (addX X e) S' :: blkA rb (rmO (addX X e).slots.length v) :: rowA 56 6 v all.length (rowE all) :: R) w'
    rw [addX_slots]
    exact h6
set_option maxHeartbeats 2000000 in
theorem rAddN (e : En) (w : World) : Calls Tryz.prog 45 #[.pointer none, enV e] w fun r w' => r = .returned (.int .i64 1) ∧ Gr w w' := by
  obtain ⟨e1, e2, e3, e4, e5, e6⟩ := e
  simp only [enV]
  go_enter Tryz.func45, Tryz.ntmps45
  go_wp2_with (go_at_call 71; refine Calls.mono (rvalid_no _) ?_; rintro e w1 ⟨rfl, rfl⟩)
  go_ret
  exact ⟨rfl, by (repeat (first | (with_reducible exact Gr.refl _) | assumption | (with_reducible apply Gr.from_drew) | (with_reducible apply Gr.alloc) | (with_reducible apply Gr.drew) | (with_reducible refine Gr.trans ?_ (by assumption)) | (with_reducible refine Gr.setCell ?_ (by omega) _)))⟩
theorem pAddR {w0 w : World} {p q : Option Addr} {X : IX} {all : List En} {R : List Asn} {e : En} (h : PX w0 p q (addX X e) all R w) (hr : RelX X all) (hk : e.key.size ≤ 10000) (hn : all.length ≤ 200) :
    Calls Tryz.prog 45 #[.pointer q, enV e] w fun r w' => r = .returned (.int .i64 (addE X e)) ∧ PX w0 p q (addX X e) (alX X all e) R w' ∧ Mdh (fun k => w0.heap.size ≤ k) w w' := by
  rcases h with ⟨rfl, rfl, h0, rfl, h5⟩ | ⟨b, rb, S, v, rfl, rfl, h3, h4⟩
  · have hs : X.slots = [] := addX_nil.1 (by rw [h0])
    have hE : addE X e = 1 := by rw [hr.no hs, add_nil]
    refine (rAddN e w).mono ?_
    rintro r w' ⟨rfl, hg⟩
    exact ⟨by rw [hE], .inl ⟨rfl, rfl, h0, by unfold alX; rw [if_neg (by rw [hE]; decide)], h5.gr hg⟩, hg.mdh _⟩
  · have hs : X.slots ≠ [] := fun h0 => h3 (addX_nil.2 h0)
    have hp := List.length_pos_iff.2 hs
    have h4' := h4.pick (i := 1) rfl
    have h6 := h4'.pick (i := 2) rfl
    have h7 : SW w0 (rIx rb X.slots.length v all (ixA b (addX X e) S :: R)) w := by
      have := h6.pick (i := 1) rfl
      rw [← addX_slots X e]
      exact this
    have hrb : w0.heap.size ≤ rb := h7.n (blkA rb (rmO X.slots.length v)) (List.mem_cons_self ..) rb rfl
    refine (rAdd e h7 (by omega) hr.rows (by omega) hn).mono ?_
    rintro r w' ⟨rfl, hm, v', h8⟩
    rw [hr.codes hs, hr.lists hs] at *
    refine ⟨rfl, .inr ⟨b, rb, S, v', rfl, rfl, h3, ?_⟩, hm.mono (fun k hk => by rw [hk]; exact hrb)⟩
    have h9 := h8.pick (i := 2) rfl
    show SW w0 (ixA b (addX X e) S :: blkA rb (rmO (addX X e).slots.length v') :: rowA 56 6 v' (alX X all e).length (rowE (alX X all e)) :: R) w'
    rw [addX_slots]
    exact h9
theorem Mdh.cut {S : Nat → Prop} {w w' : World} (h : Mdh S w w') {n : Nat} (hn : w.heap.size ≤ n) : Mdh (fun k => S k ∧ k < n) w w' :=
  ⟨h.size, fun k hk hs => h.blocks k hk (fun h2 => hs ⟨h2, by omega⟩), h.os, h.tape, h.output⟩
end Go.Proofs.YtmdfickejpeofaaGreat

/- drumlinlaw24.build in plain Lean. No walk. -/
set_option linter.unusedVariables false
set_option linter.unusedSimpArgs false
namespace Go.Proofs.YtmdfickejpeofaaGreat

structure Ac where
  kind : Int
  key : Int
  slot : Int
structure Ac.Ok (t : Ac) : Prop where
  kind : 0 ≤ t.kind ∧ t.kind ≤ 255
  key : 0 ≤ t.key ∧ t.key ≤ 255
  slot : 0 ≤ t.slot ∧ t.slot ≤ 255
def acKey (a : Int) : ByteArray := ⟨#[(97 + a % 6).toNat.toUInt8]⟩
theorem acKey_ok (a : Int) : keyChk (acKey a) = 0 ∧ (acKey a).size = 1 ∧ Low (acKey a) := by
  obtain ⟨n, hn, hl⟩ : ∃ n : Nat, a % 6 = n ∧ n < 6 := ⟨(a % 6).toNat, by omega, by omega⟩
  have e : acKey a = ⟨#[(97 + n).toUInt8]⟩ := by
    unfold acKey
    rw [hn, show ((97 : Int) + (n : Int)).toNat = 97 + n by omega]
  rw [e]
  have hu : ((97 + n).toUInt8).toNat = 97 + n := by
    rw [Nat.toUInt8_eq, UInt8.toNat_ofNat']
    omega
  refine ⟨?_, rfl, fun j hj => ?_⟩
  · have hk : keyC ((97 + n).toUInt8) = true := by
      unfold keyC
      simp only [Bool.or_eq_true, Bool.and_eq_true, decide_eq_true_eq]
      right
      constructor
      · rw [UInt8.le_iff_toNat_le, hu]; show 97 ≤ 97 + n; omega
      · rw [UInt8.le_iff_toNat_le, hu]; show 97 + n ≤ 122; omega
    rw [keyChk_ok (k := ⟨#[(97 + n).toUInt8]⟩) (fun j hj => by
      have hj1 : j < 1 := hj
      obtain rfl : j = 0 := by omega
      exact hk)]
    rfl
  · have hj1 : j < 1 := hj
    obtain rfl : j = 0 := by omega
    show ((97 + n).toUInt8).toNat < 128
    omega
structure LS where
  X : IX
  all : List En
  us : Int → Int
  sq : Int
/-- An entry that is added behind those of its slot. -/
def atE (st : LS) (e : En) : En := { e with off := st.us e.slot }
def dupA (st : LS) (e : En) : Bool := st.all.any (fun o => decide (o.slot = e.slot) && decide (o.seq = e.seq))
def pushA (st : LS) (e : En) : LS := ⟨addX st.X (atE st e), st.all ++ [atE st e], upd st.us e.slot (st.us e.slot + e.size), st.sq⟩
/-- What add does. -/
def addA (st : LS) (e : En) : LS := if dupA st e = true then st else pushA st e
def putE (k : ByteArray) (q s : Int) : En := ⟨q, k, false, s, 0, 18 + (k.size : Int)⟩
def delE (k : ByteArray) (q s : Int) : En := ⟨q, k, true, s, 0, 16 + (k.size : Int)⟩
def nextA (st : LS) : LS := { st with sq := st.sq + 1 }
def stepA (st : LS) (t : Ac) : LS :=
  if t.kind % 5 = 3 then addA (nextA st) (delE (acKey t.key) (st.sq + 1) (t.slot % 5))
  else if t.kind % 5 < 3 then addA (nextA st) (putE (acKey t.key) (st.sq + 1) (t.slot % 5))
  else if st.all = [] then st else addA st { (st.all.getD (t.key % st.all.length).toNat zE) with slot := t.slot % 5 }
def foldA (L : List Ac) : LS := L.foldl stepA ⟨ixNew 6, [], fun _ => 0, 0⟩
theorem foldA_snoc (L : List Ac) (t : Ac) : foldA (L ++ [t]) = stepA (foldA L) t := by simp [foldA]
structure LS.Ok (st : LS) (j : Nat) : Prop where
  g : FG st.X st.all st.us 6
  n : st.all.length ≤ j
  q0 : 0 ≤ st.sq
  q1 : st.sq ≤ j
  u : ∀ s, 0 ≤ st.us s ∧ st.us s ≤ 19 * j
  e : ∀ e ∈ st.all, 1 ≤ e.seq ∧ e.seq ≤ st.sq ∧ Low e.key ∧ e.key.size = 1 ∧ e.size ≤ 19
theorem LS.later {st : LS} {j j' : Nat} (h : st.Ok j) (hj : j ≤ j') : st.Ok j' := ⟨h.g, Nat.le_trans h.n hj, h.q0, by have := h.q1; omega, fun s => by have := h.u s; omega, h.e⟩
/-- What add says, of a copy or of a new entry. -/
structure AddS (st : LS) (e : En) : Prop where
  slot : 0 ≤ e.slot ∧ e.slot < 6
  sq : e.seq ≤ st.sq ∧ 1 ≤ e.seq
  k : keyChk e.key = 0 ∧ e.key.size = 1 ∧ Low e.key
  z : 17 ≤ e.size ∧ e.size ≤ 19 ∧ (e.size = 17 ∨ e.del = false)
  o : (∀ o ∈ st.all, o.seq ≠ e.seq) ∨ ∃ x ∈ st.all, x.seq = e.seq ∧ x.key = e.key ∧ x.del = e.del ∧ x.size = e.size
theorem addA_ok {st : LS} {j : Nat} {e : En} (h : st.Ok j) (hj : j ≤ 200) (a : AddS st e) :
    (dupA st e = true → addE st.X (atE st e) = 6) ∧ (dupA st e = false → addE st.X (atE st e) = 0) ∧ (addA st e).Ok (j + 1) ∧ Low (atE st e).key ∧ En64 (atE st e) ∧ 0 ≤ st.us e.slot ∧ st.us e.slot ≤ 3800 ∧ 0 ≤ e.size ∧ e.size ≤ 19 := by
  have hu := h.u e.slot
  have kz : (e.key.size : Int) = 1 := by rw [a.k.2.1]; rfl
  have hz : 17 ≤ e.size ∧ e.size ≤ 19 := ⟨a.z.1, a.z.2.1⟩
  have q1 := h.q1
  have hv : validE (atE st e) = true := (valid_iff _).2 ⟨a.k.1, a.sq.2, show e.seq ≤ 1099511627776 by have := a.sq.1; omega, hu.1, show 16 + (e.key.size : Int) ≤ e.size by omega,
    (a.z.2.2.imp (fun h => (show e.size = 16 + (e.key.size : Int) by omega)) id), show e.size ≤ (8192 : Int) by omega, show st.us e.slot ≤ 8192 - e.size by omega⟩
  have hdup : dupA st e = true ↔ ∃ o ∈ st.all, o.slot = (atE st e).slot ∧ o.seq = (atE st e).seq := by
    unfold dupA
    rw [List.any_eq_true]
    simp only [Bool.and_eq_true, decide_eq_true_eq]
    exact Iff.rfl
  have hpush : FG (addX st.X (atE st e)) (st.all ++ [atE st e]) (upd st.us e.slot (st.us e.slot + e.size)) 6 → (pushA st e).Ok (j + 1) := fun g => by
    refine ⟨g, ?_, h.q0, by show st.sq ≤ ((j + 1 : Nat) : Int); omega, fun s => ?_, fun o ho => ?_⟩
    · show (st.all ++ [_]).length ≤ j + 1
      have := h.n
      rw [List.length_append]; simp; omega
    · have hs := h.u s
      show 0 ≤ upd st.us e.slot (st.us e.slot + e.size) s ∧ upd st.us e.slot (st.us e.slot + e.size) s ≤ 19 * ((j + 1 : Nat) : Int)
      unfold upd
      split <;> omega
    · rcases List.mem_append.1 ho with ho | ho
      · exact h.e o ho
      · rw [List.mem_singleton.1 ho]
        exact ⟨a.sq.2, a.sq.1, a.k.2.2, a.k.2.1, hz.2⟩
  refine ⟨fun hd => ?_, fun hd => ?_, ?_, a.k.2.2, ⟨by show e.size ≤ 9223372036854775807; omega, by show -9223372036854775808 ≤ e.size; omega, by show e.key.size ≤ 140737488351232; rw [a.k.2.1]; decide⟩, hu.1, by omega, by omega, hz.2⟩
  · have hd := hdup.1 hd
    rcases a.o with ho | ⟨x, hx, e1, e2, e3, e4⟩
    · obtain ⟨o, hm, _, hq⟩ := hd
      exact absurd hq (ho o hm)
    · exact h.g.copyNo hx (En.ext' (show e.seq = x.seq from e1.symm) (show e.key = x.key from e2.symm) (show e.del = x.del from e3.symm) rfl rfl (show e.size = x.size from e4.symm)) a.slot.1 a.slot.2 hv hd
  · have hd' : ¬ ∃ o ∈ st.all, o.slot = (atE st e).slot ∧ o.seq = (atE st e).seq := fun hh => by rw [hdup.2 hh] at hd; cases hd
    rcases a.o with ho | ⟨x, hx, e1, e2, e3, e4⟩
    · exact (h.g.new (e := atE st e) ho a.slot.1 a.slot.2 hv (Int.le_refl _)).1
    · exact (h.g.copyYes (e := atE st e) hx (En.ext' (show e.seq = x.seq from e1.symm) (show e.key = x.key from e2.symm) (show e.del = x.del from e3.symm) rfl rfl (show e.size = x.size from e4.symm)) a.slot.1 a.slot.2 hv (Int.le_refl _) hd').1
  · unfold addA
    split
    · exact LS.later h (by omega)
    · rename_i hd
      have hd' : ¬ ∃ o ∈ st.all, o.slot = (atE st e).slot ∧ o.seq = (atE st e).seq := fun hh => hd (hdup.2 hh)
      rcases a.o with ho | ⟨x, hx, e1, e2, e3, e4⟩
      · exact hpush (h.g.new (e := atE st e) ho a.slot.1 a.slot.2 hv (Int.le_refl _)).2
      · exact hpush (h.g.copyYes (e := atE st e) hx (En.ext' (show e.seq = x.seq from e1.symm) (show e.key = x.key from e2.symm) (show e.del = x.del from e3.symm) rfl rfl (show e.size = x.size from e4.symm)) a.slot.1 a.slot.2 hv (Int.le_refl _) hd').2
theorem nextA_ok {st : LS} {j : Nat} (h : st.Ok j) : (nextA st).Ok (j + 1) :=
  ⟨h.g, by have := h.n; show st.all.length ≤ j + 1; omega, by have := h.q0; show 0 ≤ st.sq + 1; omega, by have := h.q1; show st.sq + 1 ≤ ((j + 1 : Nat) : Int); omega, fun s => by have := h.u s; show 0 ≤ st.us s ∧ st.us s ≤ 19 * ((j + 1 : Nat) : Int); omega, fun e he => by
    obtain ⟨h1, h2, h3⟩ := h.e e he
    exact ⟨h1, by show e.seq ≤ st.sq + 1; omega, h3⟩⟩
theorem newA {st : LS} {j : Nat} (h : st.Ok j) (k σ : Int) (hσ : 0 ≤ σ ∧ σ < 6) (d : Bool) : AddS (nextA st) ⟨st.sq + 1, acKey k, d, σ, 0, if d = true then 16 + ((acKey k).size : Int) else 18 + ((acKey k).size : Int)⟩ := by
  have h0 := h.q0
  refine ⟨hσ, ⟨Int.le_refl _, by show 1 ≤ st.sq + 1; omega⟩, acKey_ok k, ?_, .inl (fun o ho => ?_)⟩
  · have kz : ((acKey k).size : Int) = 1 := by rw [(acKey_ok k).2.1]; rfl
    cases d
    · exact ⟨show (17 : Int) ≤ 18 + ((acKey k).size : Int) by omega, show 18 + ((acKey k).size : Int) ≤ (19 : Int) by omega, .inr rfl⟩
    · exact ⟨show (17 : Int) ≤ 16 + ((acKey k).size : Int) by omega, show 16 + ((acKey k).size : Int) ≤ (19 : Int) by omega, .inl (show 16 + ((acKey k).size : Int) = 17 by omega)⟩
  · have := (h.e o ho).2.1
    show o.seq ≠ st.sq + 1
    omega
theorem copyA {st : LS} {j : Nat} (h : st.Ok j) {x : En} (hx : x ∈ st.all) (σ : Int) (hσ : 0 ≤ σ ∧ σ < 6) : AddS st { x with slot := σ } := by
  obtain ⟨h1, h2, h3, h4, h5⟩ := h.e x hx
  have hv := h.g.val hx
  have kz : (x.key.size : Int) = 1 := by rw [h4]; rfl
  exact ⟨hσ, ⟨h2, h1⟩, ⟨hv.1, h4, h3⟩, ⟨show (17 : Int) ≤ x.size by omega, h5, hv.2.2.2.2.2.1.imp (fun h => (show x.size = 17 by omega)) id⟩, .inr ⟨x, hx, rfl, rfl, rfl, rfl⟩⟩
end Go.Proofs.YtmdfickejpeofaaGreat

/- LivenessRefuses in plain Lean. No walk. -/
set_option linter.unusedVariables false
set_option linter.unusedSimpArgs false
namespace Go.Proofs.YtmdfickejpeofaaGreat

theorem foldA_ok : ∀ (n : Nat) (L : List Ac), L.length = n → n ≤ 90 → (∀ t ∈ L, t.Ok) → (foldA L).Ok (2 * n) ∧ ∀ e ∈ (foldA L).all, e.slot < 5
  | 0, L, hL, _, _ => by
    rw [List.eq_nil_of_length_eq_zero hL]
    exact ⟨⟨FG.start 6 (by omega) (by omega) _, by show 0 ≤ 0; omega, by show (0 : Int) ≤ 0; omega, by show (0 : Int) ≤ 0; omega, fun s => ⟨Int.le_refl _, by show (0 : Int) ≤ 19 * 0; omega⟩, (fun _ h => by cases h)⟩, (fun _ h => by cases h)⟩
  | n + 1, L, hL, hn, ht => by
    have hne : L ≠ [] := fun h => by rw [h] at hL; cases hL
    have e := List.dropLast_concat_getLast hne
    obtain ⟨h1, h5⟩ := foldA_ok n L.dropLast (by rw [List.length_dropLast]; omega) (by omega) (fun m h => ht m (List.dropLast_subset L h))
    rw [← e, foldA_snoc]
    generalize L.getLast hne = t at *
    generalize foldA L.dropLast = st at *
    have hs : 0 ≤ t.slot % 5 ∧ t.slot % 5 < 5 := by omega
    have hadd : ∀ (s2 : LS) (e : En), s2.all = st.all → e.slot < 5 → ∀ x ∈ (addA s2 e).all, x.slot < 5 := by
      intro s2 e h2 he x hx
      unfold addA at hx
      split at hx
      · rw [h2] at hx; exact h5 x hx
      · rcases List.mem_append.1 hx with hx | hx
        · rw [h2] at hx; exact h5 x hx
        · rw [List.mem_singleton.1 hx]; exact he
    unfold stepA
    split
    · refine ⟨(addA_ok (nextA_ok h1) (by omega) (e := delE (acKey t.key) (st.sq + 1) (t.slot % 5)) ?_).2.2.1, hadd _ _ rfl hs.2⟩
      have := newA h1 t.key (t.slot % 5) ⟨hs.1, by omega⟩ true
      simpa [delE] using this
    · split
      · refine ⟨(addA_ok (nextA_ok h1) (by omega) (e := putE (acKey t.key) (st.sq + 1) (t.slot % 5)) ?_).2.2.1, hadd _ _ rfl hs.2⟩
        have := newA h1 t.key (t.slot % 5) ⟨hs.1, by omega⟩ false
        simpa [putE] using this
      · split
        · exact ⟨LS.later h1 (by omega), h5⟩
        · rename_i hne2
          have hl : 0 < st.all.length := List.length_pos_iff.2 hne2
          have hk : 0 ≤ t.key := (ht t (by rw [← e]; simp)).key.1
          have g1 := Int.emod_lt_of_pos t.key (show (0 : Int) < st.all.length by omega)
          have g2 := Int.emod_nonneg t.key (show (st.all.length : Int) ≠ 0 by omega)
          have g3 : (t.key % st.all.length).toNat < st.all.length := by omega
          have hm : st.all.getD (t.key % st.all.length).toNat zE ∈ st.all := by
            rw [List.getD_eq_getElem?_getD, List.getElem?_eq_getElem g3]
            exact List.getElem_mem g3
          exact ⟨LS.later (addA_ok h1 (by omega) (copyA h1 hm (t.slot % 5) ⟨hs.1, by omega⟩)).2.2.1 (by omega), hadd _ _ rfl hs.2⟩
section
variable {X : IX} {all : List En} {en : Int → Int} {n : Int}
theorem FG.hasE (h : FG X all en n) (e : En) : X.hasE e = decide (e ∈ all) := by
  unfold IX.hasE
  by_cases he : e ∈ all
  · rw [decide_eq_true he]
    exact List.any_eq_true.2 ⟨e, (h.of _ e).2 ⟨he, rfl⟩, decide_eq_true rfl⟩
  · rw [decide_eq_false he]
    refine List.any_eq_false.2 (fun o ho => ?_)
    have := (h.of _ o).1 ho
    simp only [decide_eq_true_eq]
    rintro rfl
    exact he this.1
theorem FG.needV (h : FG X all en n) (e : En) : (e ∈ all → neededV X e = .tuple #[.bool (X.needs e), .int .i64 0]) ∧ (e ∉ all → neededV X e = .tuple #[.bool false, .int .i64 5]) := by
  unfold neededV
  rw [if_neg h.ne, h.hasE]
  exact ⟨fun he => by rw [decide_eq_true he, if_neg (by decide)], fun he => by rw [decide_eq_false he, if_pos rfl]⟩
theorem FG.noOff (h : FG X all en n) {y : En} (hy : y ∈ all) : { y with off := y.off + 1 } ∉ all := by
  intro hz
  have hs := h.wf.slotOk y.slot
  have h1 := (h.slot y.slot y).2 ⟨hy, rfl⟩
  have h2 := (h.slot y.slot { y with off := y.off + 1 }).2 ⟨hz, rfl⟩
  have hv := h.val hy
  obtain ⟨i, hi, e1⟩ := List.mem_iff_getElem.1 h1
  obtain ⟨j, hj, e2⟩ := List.mem_iff_getElem.1 h2
  rcases Nat.lt_trichotomy i j with h3 | h3 | h3
  · have := List.pairwise_iff_getElem.1 hs.p i j hi hj h3
    rw [e1, e2] at this
    simp only at this
    omega
  · subst h3
    rw [e1] at e2
    have := congrArg En.off e2
    simp only at this
    omega
  · have := List.pairwise_iff_getElem.1 hs.p j i hj hi h3
    rw [e1, e2] at this
    simp only at this
    omega
end
/-- An entry of which one field is another one. -/
def chE (c : Int) (y : En) : En :=
  if c = 0 then { y with seq := y.seq + 1000 } else if c = 1 then { y with key := y.key ++ ⟨#[120]⟩ } else if c = 2 then { y with del := !y.del }
  else if c = 3 then { y with slot := 5 } else if c = 4 then { y with off := y.off + 1 } else { y with size := y.size + 1 }
theorem chE_no {st : LS} {j : Nat} (h : st.Ok j) (hj : j ≤ 200) (h5 : ∀ e ∈ st.all, e.slot < 5) {y : En} (hy : y ∈ st.all) (c : Int) : chE c y ∉ st.all := by
  obtain ⟨h1, h2, h3, h4, h6⟩ := h.e y hy
  have q1 := h.q1
  unfold chE
  split
  · intro hz; have := (h.e _ hz).2.1; simp only at this; omega
  · split
    · intro hz
      have := (h.e _ hz).2.2.2.1
      simp only [ByteArray.size_append, h4] at this
      cases this
    · split
      · intro hz
        have := (h.g.cp y hy _ hz rfl).2.1
        simp only at this
        cases hd : y.del <;> rw [hd] at this <;> cases this
      · split
        · intro hz; have := h5 _ hz; simp only at this; omega
        · split
          · exact h.g.noOff hy
          · intro hz
            have := (h.g.cp y hy _ hz rfl).2.2
            simp only at this
            omega
theorem q_no {st : LS} {j : Nat} (h : st.Ok j) (e : En) (he : e.key = ⟨#[113]⟩) (hk : ∀ e ∈ st.all, ∃ a, e.key = acKey a) : e ∉ st.all := by
  intro hm
  obtain ⟨a, ha⟩ := hk e hm
  rw [he] at ha
  unfold acKey at ha
  have h1 := congrArg (fun b : ByteArray => b.data.toList.map UInt8.toNat) ha
  obtain ⟨n, hn, hl⟩ : ∃ n : Nat, a % 6 = n ∧ n < 6 := ⟨(a % 6).toNat, by omega, by omega⟩
  rw [hn, show ((97 : Int) + (n : Int)).toNat = 97 + n by omega] at h1
  simp only [List.map_cons, List.map_nil, List.cons.injEq, and_true] at h1
  rw [Nat.toUInt8_eq, UInt8.toNat_ofNat'] at h1
  have : (113 : UInt8).toNat = 113 := rfl
  omega
theorem foldA_keys : ∀ (n : Nat) (L : List Ac), L.length = n → (∀ t ∈ L, t.Ok) → ∀ e ∈ (foldA L).all, ∃ a, e.key = acKey a
  | 0, L, hL, _ => by
    rw [List.eq_nil_of_length_eq_zero hL]
    exact fun _ h => by cases h
  | n + 1, L, hL, ht => by
    have hne : L ≠ [] := fun h => by rw [h] at hL; cases hL
    have e := List.dropLast_concat_getLast hne
    have h5 := foldA_keys n L.dropLast (by rw [List.length_dropLast]; omega) (fun m h => ht m (List.dropLast_subset L h))
    rw [← e, foldA_snoc]
    have hk : 0 ≤ (L.getLast hne).key := (ht _ (List.getLast_mem hne)).key.1
    generalize L.getLast hne = t at *
    generalize foldA L.dropLast = st at *
    have hadd : ∀ (s2 : LS) (e : En), s2.all = st.all → (∃ a, e.key = acKey a) → ∀ x ∈ (addA s2 e).all, ∃ a, x.key = acKey a := by
      intro s2 e h2 he x hx
      unfold addA at hx
      split at hx
      · rw [h2] at hx; exact h5 x hx
      · rcases List.mem_append.1 hx with hx | hx
        · rw [h2] at hx; exact h5 x hx
        · rw [List.mem_singleton.1 hx]; exact he
    unfold stepA
    split
    · exact hadd _ _ rfl ⟨_, rfl⟩
    · split
      · exact hadd _ _ rfl ⟨_, rfl⟩
      · split
        · exact h5
        · rename_i hne2
          have hl : 0 < st.all.length := List.length_pos_iff.2 hne2
          have g1 := Int.emod_lt_of_pos t.key (show (0 : Int) < st.all.length by omega)
          have g2 := Int.emod_nonneg t.key (show (st.all.length : Int) ≠ 0 by omega)
          have g3 : (t.key % st.all.length).toNat < st.all.length := by omega
          refine hadd _ _ rfl ?_
          show ∃ a, (st.all.getD (t.key % st.all.length).toNat zE).key = acKey a
          refine h5 _ ?_
          rw [List.getD_eq_getElem?_getD, List.getElem?_eq_getElem g3]
          exact List.getElem_mem g3
end Go.Proofs.YtmdfickejpeofaaGreat

/- keydir: valid, Find, the iterator of Live. -/
set_option linter.unusedVariables false
set_option linter.unusedSimpArgs false
namespace Go.Proofs.YtmdfickejpeofaaGreat
open Go.RowKit Go.Shelf
attribute [local go_sem] OvM cell_ovm obj_ovm
attribute [local go_sem] Oper.semAt_some

def findE (X : IX) (k : ByteArray) : Option En := match X.of k with | [] => none | e :: _ => if e.del = true then none else some e
def codeX (X : IX) : Int := if X.slots = [] then 1 else 0
def findV (X : IX) (k : ByteArray) : Value := .tuple #[enV ((findE X k).getD zE), .bool (findE X k).isSome, .int .i64 (codeX X)]
def lvF (X : IX) (l : List ByteArray) : List (ByteArray × En) := l.filterMap fun k => (findE X k).map fun e => (k, e)
def liveL (X : IX) : List (ByteArray × En) := lvF X X.ks
theorem lvF_none {X : IX} {l : List ByteArray} {k : ByteArray} (h : findE X k = none) : lvF X (l ++ [k]) = lvF X l := by simp [lvF, h]
theorem lvF_some {X : IX} {l : List ByteArray} {k : ByteArray} {e : En} (h : findE X k = some e) : lvF X (l ++ [k]) = lvF X l ++ [(k, e)] := by simp [lvF, h]
theorem lvF_pre {X : IX} {l m : List ByteArray} (h : l <+: m) : lvF X l <+: lvF X m := by
  obtain ⟨t, rfl⟩ := h
  exact ⟨lvF X t, by simp [lvF]⟩
theorem of_noslots {X : IX} (h : X.Wf) (h0 : X.slots = []) (k : ByteArray) : X.of k = [] := by unfold IX.of; rw [h.z h0]; rfl
set_option maxRecDepth 40000 in
theorem valid_any {w : World} {p : Option Addr} {X : IX} {S : Nat → Prop} (h : IXP w p X S) : Calls Tryz.prog 73 #[.pointer p] w fun e w' => e = .returned (.bool (decide (X.slots ≠ []))) ∧ w = w' := by
  have HS := Lib.hid (Slots_any h)
  obtain ⟨n, hn⟩ : ∃ n, n = X.slots.length := ⟨_, rfl⟩
  have HB : Hid (decide (X.slots ≠ []) = decide (0 < n)) := Lib.hid (by rw [hn, decide_eq_decide]; exact ⟨fun h => List.length_pos_iff.2 h, fun h => List.length_pos_iff.1 h⟩)
  rw [← hn] at HS
  clear h hn
  by_cases h0 : 0 < n
  · have h0' : (0 : Int) < n := by omega
    have HR : Hid (decide (X.slots ≠ []) = true) := Lib.hid (by rw [HB.out]; exact decide_eq_true h0)
    go_enter Tryz.func73, Tryz.ntmps73
    go_wp2_with (go_at_call 105; refine Calls.mono HS.out ?_; rintro e w1 ⟨rfl, rfl⟩)
    go_ret
    exact ⟨ret_bool HR.out.symm, rfl⟩
  · have h0' : ¬ (0 : Int) < n := by omega
    have HR : Hid (decide (X.slots ≠ []) = false) := Lib.hid (by rw [HB.out]; exact decide_eq_false h0)
    go_enter Tryz.func73, Tryz.ntmps73
    go_wp2_with (go_at_call 105; refine Calls.mono HS.out ?_; rintro e w1 ⟨rfl, rfl⟩)
    go_ret
    exact ⟨ret_bool HR.out.symm, rfl⟩
set_option maxRecDepth 40000 in
set_option maxHeartbeats 2000000 in
theorem Find_any {w : World} {p : Option Addr} {X : IX} {S : Nat → Prop} (h : IXP w p X S) (k : ByteArray) : Calls Tryz.prog 20 #[.pointer p, .string k] w fun e w' => e = .returned (findV X k) ∧ Gr w w' := by
  have H := Lib.hid h
  have HV : Hid (findV X k = .tuple #[enV ((findE X k).getD zE), .bool (findE X k).isSome, .int .i64 (codeX X)]) := Lib.hid rfl
  have HE : Hid (findE X k = match X.of k with | [] => none | e :: _ => if e.del = true then none else some e) := Lib.hid rfl
  have HNE := Lib.hid (of_noslots h.ok)
  clear h
  go_enter Tryz.func20, Tryz.ntmps20
  by_cases h0 : X.slots = []
  · have HR : Hid (findV X k = .tuple #[enV zE, .bool false, .int .i64 1]) := Lib.hid (by rw [HV.out, HE.out, HNE.out h0 k, show codeX X = 1 from if_pos h0]; rfl)
    have HD : Hid (decide (X.slots ≠ []) = false) := Lib.hid (decide_eq_false (fun h => h h0))
    clear h0
    go_wp2_with (go_at_call 73; refine (valid_any (H.out.gr ((Gr.refl _).alloc _))).mono ?_; rintro e w1 ⟨rfl, rfl⟩; rw [HD.out])
    refine bodyPost_ret (v := .tuple #[enV zE, .bool false, .int .i64 1]) ?_ rfl ⟨by rw [HR.out], by (repeat (first | (with_reducible exact Gr.refl _) | assumption | (with_reducible apply Gr.from_drew) | (with_reducible apply Gr.alloc) | (with_reducible apply Gr.drew) | (with_reducible refine Gr.trans ?_ (by assumption)) | (with_reducible refine Gr.setCell ?_ (by omega) _)))⟩
    simp [results, Tryz.results20, go_sem, enV, zE]
  · have HC : Hid (codeX X = 0) := Lib.hid (if_neg h0)
    have HD : Hid (decide (X.slots ≠ []) = true) := Lib.hid (decide_eq_true h0)
    clear h0
    go_wp2_with (first
      | (go_at_call 73; refine (valid_any (H.out.gr ((Gr.refl _).alloc _))).mono ?_; rintro e w1 ⟨rfl, rfl⟩; rw [HD.out])
      | fail)
    refine (Newest_any (H.out.gr ((Gr.refl _).alloc _)) k).mono ?_
    rintro e w2 ⟨rfl, hg⟩
    obtain ⟨b4, hb4⟩ : ∃ q, q = w.heap.size := ⟨_, rfl⟩
    have H2 : Hid (Gr w w2 ∧ w2.heap[b4]? = some (.cells #[.int .i64 0, .string ⟨#[]⟩, .bool false, .int .i64 0, .int .i64 0, .int .i64 0] 56) ∧ w.heap.size ≤ b4) := Lib.hid ⟨((Gr.refl w).alloc _).trans hg, by rw [hb4]; exact hg.blk (blkNew w _), by omega⟩
    obtain ⟨c4, f4⟩ := cellsOf H2.out.2.1
    have l4 := blkLt H2.out.2.1
    rw [← hb4]
    clear hg hb4
    cases ho : X.of k with
    | nil =>
      have HR : Hid (findV X k = .tuple #[enV zE, .bool false, .int .i64 0]) := Lib.hid (by rw [HV.out, HE.out, ho, HC.out]; rfl)
      clear ho
      simp only [newV, enV, zE]
      go_wp2_with fail
      refine bodyPost_ret (v := .tuple #[enV zE, .bool false, .int .i64 0]) ?_ rfl ⟨by rw [HR.out], ?_⟩
      · have h1 := blk6 (y0 := .int .i64 0) (y1 := .string ⟨#[]⟩) (y2 := .bool false) (y3 := .int .i64 0) (y4 := .int .i64 0) (y5 := .int .i64 0) H2.out.2.1
        have h2 := blkOld (o' := .cells #[.int .i64 0, .string ⟨#[]⟩, .bool false, .int .i64 0, .int .i64 0, .int .i64 0] 56) h1
        have d4 := (cellsOf h2).1
        simp [results, Tryz.results20, go_sem, d4, enV, zE]
      · have hn := H2.out.2.2
        exact (((((((H2.out.1.setCell (p := ⟨b4, 0, none⟩) hn _).setCell (p := ⟨b4, 1, none⟩) hn _).setCell (p := ⟨b4, 2, none⟩) hn _).setCell (p := ⟨b4, 3, none⟩) hn _).setCell (p := ⟨b4, 4, none⟩) hn _).setCell (p := ⟨b4, 5, none⟩) hn _).alloc _)
    | cons x l =>
      simp only [newV, enV]
      cases hd : x.del with
      | true =>
        have HR : Hid (findV X k = .tuple #[enV zE, .bool false, .int .i64 0]) := Lib.hid (by rw [HV.out, HE.out, ho, HC.out]; simp [hd])
        clear ho hd
        go_wp2_with fail
        refine bodyPost_ret (v := .tuple #[enV zE, .bool false, .int .i64 0]) ?_ rfl ⟨by rw [HR.out], ?_⟩
        · have h1 := blk6 (y0 := .int .i64 0) (y1 := .string ⟨#[]⟩) (y2 := .bool false) (y3 := .int .i64 0) (y4 := .int .i64 0) (y5 := .int .i64 0) H2.out.2.1
          have h2 := blkOld (o' := .cells #[.int .i64 x.seq, .string x.key, .bool true, .int .i64 x.slot, .int .i64 x.off, .int .i64 x.size] 56) h1
          have d4 := (cellsOf h2).1
          simp [results, Tryz.results20, go_sem, d4, enV, zE]
        · have hn := H2.out.2.2
          exact (((((((H2.out.1.setCell (p := ⟨b4, 0, none⟩) hn _).setCell (p := ⟨b4, 1, none⟩) hn _).setCell (p := ⟨b4, 2, none⟩) hn _).setCell (p := ⟨b4, 3, none⟩) hn _).setCell (p := ⟨b4, 4, none⟩) hn _).setCell (p := ⟨b4, 5, none⟩) hn _).alloc _)
      | false =>
        have HR : Hid (findV X k = .tuple #[enV x, .bool true, .int .i64 0]) := Lib.hid (by rw [HV.out, HE.out, ho, HC.out]; simp [hd])
        have HDX := Lib.hid hd
        clear ho hd
        go_wp2_with fail
        refine bodyPost_ret (v := .tuple #[enV x, .bool true, .int .i64 0]) ?_ rfl ⟨by rw [HR.out], ?_⟩
        · have h1 := blk6 (y0 := .int .i64 x.seq) (y1 := .string x.key) (y2 := .bool false) (y3 := .int .i64 x.slot) (y4 := .int .i64 x.off) (y5 := .int .i64 x.size) H2.out.2.1
          have h2 := blkOld (o' := .cells #[.int .i64 x.seq, .string x.key, .bool false, .int .i64 x.slot, .int .i64 x.off, .int .i64 x.size] 56) h1
          have d4 := (cellsOf h2).1
          simp [results, Tryz.results20, go_sem, d4, enV, HDX.out]
        · have hn := H2.out.2.2
          exact (((((((H2.out.1.setCell (p := ⟨b4, 0, none⟩) hn _).setCell (p := ⟨b4, 1, none⟩) hn _).setCell (p := ⟨b4, 2, none⟩) hn _).setCell (p := ⟨b4, 3, none⟩) hn _).setCell (p := ⟨b4, 4, none⟩) hn _).setCell (p := ⟨b4, 5, none⟩) hn _).alloc _)
/-- Blocks that stay as they were, beside an iterator's own, which are new. -/
structure KeptA (w0 : World) (A : Nat → Prop) (n : Nat) (Z : Nat → Prop) (X : World) : Prop where
  m : Mdh (fun k => ¬ A k) w0 X
  z : ∀ k, Z k → n ≤ k
  s : n ≤ X.heap.size
theorem KeptA.apart {β : Type} (w0 : World) (A : Nat → Prop) {n : Nat} (hA : ∀ k, A k → k < n) : Apart (fun Z (_ : β) X => KeptA w0 A n Z X) := fun Z Z' _ X Y h hm hz =>
  ⟨h.m.trans (hm.mono (fun k hk ha => by have := h.z k hk; have := hA k ha; omega)), fun k hk => (hz k hk).elim (h.z k) (fun y => Nat.le_trans h.s y.1), Nat.le_trans h.s hm.size⟩
def encKE (x : ByteArray × En) : Array Value := #[.string x.1, enV x.2]
set_option maxRecDepth 40000 in
set_option maxHeartbeats 4000000 in
theorem SeqLive {w : World} {p : Option Addr} {X : IX} {S : Nat → Prop} (h : IXP w p X S) (bb : Nat) (hbb : w.cell? ⟨bb, 0, none⟩ = some (.pointer p)) :
    SeqZ Fence.wide 2 Tryz.prog 129 #[.pointer (some ⟨bb, 0, none⟩)] encKE (fun q => q = bb ∨ S q) (fun xs => xs = liveL X) (fun pre => pre <+: liveL X) w := by
  intro l J Jx W hW hJ hJx hY h0
  have hbW : W.cell? ⟨bb, 0, none⟩ = some (.pointer p) := hW.keep hbb (fun h => h (.inl rfl))
  have lbb : bb < W.heap.size := World.block_lt_of_cell? W ⟨bb, 0, none⟩ hbW
  have HI : Hid (IXP W p X S) := Lib.hid (h.mdh hW (fun q hq hn => hn (.inr hq)))
  have HBB := Lib.hid hbW
  have HLB := Lib.hid lbb
  have HY := Lib.hid hY
  have H0 := Lib.hid h0
  have HJ := Lib.hid hJ
  have HJx := Lib.hid hJx
  have HLV : Hid (liveL X = lvF X X.ks) := Lib.hid rfl
  clear hY h0 hW h hbb hJ hJx
  refine callsIn_wide.2 (calls_of_wp_marks Tryz.func129 rfl ?_)
  simp only [Tryz.ntmps129, List.size_toArray, List.length_cons, List.length_nil, Nat.reduceAdd, Nat.reduceSub, Array.replicate_succ, Array.replicate_zero, List.push_toArray, List.append_toArray, List.nil_append, List.cons_append]
  go_wp2_with fail
  obtain ⟨b0, hb0⟩ : ∃ q, q = W.heap.size := ⟨_, rfl⟩
  refine (Keys_any p _).mono ?_
  rintro e w2 ⟨b2, rfl, c2, hlt, hg⟩
  have HG2 := Lib.hid (((Gr.refl W).alloc (.cells #[.func (.yield l) #[] #[]] 179)).trans hg)
  have HBY : Hid (w2.heap[b0]? = some (.cells #[.func (.yield l) #[] #[]] 179)) := Lib.hid (by rw [hb0]; exact hg.blk (blkNew W _))
  have HSQ := Lib.hid (SeqKeysP (HI.out.gr HG2.out) b2 c2)
  have HL2 : Hid (b0 < b2 ∧ b2 < w2.heap.size ∧ b0 = W.heap.size) := Lib.hid (by
    have l2 := World.block_lt_of_cell? w2 ⟨b2, 0, none⟩ c2
    rw [World.size_alloc] at hlt
    exact ⟨by omega, l2, hb0⟩)
  have HFF : Hid (∀ k, (k = b2 ∨ S k) → k < w2.heap.size) := Lib.hid (fun k hk => hk.elim (fun e => by rw [e]; exact HL2.out.2.1) (fun e => by have := HI.out.lt k e; have := HL2.out; omega))
  have HAA : Hid (∀ k, (k = bb ∨ S k) → k < w2.heap.size) := Lib.hid (fun k hk => hk.elim (fun e => by rw [e]; have := HLB.out; have := HL2.out; omega) (fun e => by have := HI.out.lt k e; have := HL2.out; omega))
  rw [← hb0]
  clear hg hlt c2 hb0 hbW lbb
  go_wp2_with fail
  apply wp_rangeFunc_zb (gf := 177) (lb := #[.pointer (some ⟨b2, 0, none⟩)]) rfl (enters_of Tryz.func177 (by kernel_rfl) rfl) HSQ.out (Mdh.refl _ w2) HFF.out (fun _ => rfl)
    (fun Z pre X' => plusS (fun q => q = b0 ∨ q = b2) J Z (lvF X pre) X' ∧ (X'.heap[b0]? = some (.cells #[.func (.yield l) #[] #[]] 179) ∧ ¬ Z b0) ∧ KeptA W (fun k => k = bb ∨ S k) w2.heap.size Z X')
    (fun _ _ _ => False)
    (fun Z pre X' => plusS (fun q => q = b0 ∨ q = b2) Jx Z (lvF X pre) X')
    (((plusS_apart _ HJ.out).map _).and ((Apart.block b0 (fun _ => _)).and (KeptA.apart _ _ HAA.out))) apart_no ((plusS_apart _ HJx.out).map _)
    ⟨HJ.out _ _ _ _ _ H0.out (HG2.out.mdh _) (fun k hk => hk.elim .inl (fun e => .inr (by have := HL2.out; omega))), ⟨HBY.out, fun h => h⟩, HG2.out.mdh _, fun k hk => hk.elim, Nat.le_refl _⟩
    _ ?assign ?body ?hend ?hret
  case assign =>
    intro l' x X' K hK
    dsimp only [encK]
    gi_wp2
    exact hK
  case body =>
    intro l' Z pre x X' hI hsp
    obtain ⟨hj, ⟨hby, hzy⟩, hk⟩ := hI
    have HK := Lib.hid hk
    have HBY' := Lib.hid hby
    have HJI := Lib.hid hj
    have HZY := Lib.hid hzy
    have HIX : Hid (IXP X' p X S) := Lib.hid (HI.out.mdh hk.m (fun q hq hn => hn (.inr hq)))
    have hbX : X'.cell? ⟨bb, 0, none⟩ = some (.pointer p) := hk.m.keep HBB.out (fun h => h (.inl rfl))
    have HSP := Lib.hid hsp
    clear hj hby hzy hk hsp
    gi_wp2_with fail
    refine ⟨trivial, (CallsIn.inRound l' (callsIn_wide.2 (Find_any HIX.out x))).mono ?_⟩
    rintro e w9 ⟨rfl, hg9⟩
    cases hfe : findE X x with
    | none =>
      have HV : Hid (findV X x = .tuple #[enV zE, .bool false, .int .i64 (codeX X)]) := Lib.hid (by unfold findV; rw [hfe]; rfl)
      have HN := Lib.hid (lvF_none (l := pre) hfe)
      have HG9 := Lib.hid (hg9.alloc (.cells #[.int .i64 0, .string ⟨#[]⟩, .bool false, .int .i64 0, .int .i64 0, .int .i64 0] 56))
      rw [HV.out]
      simp only [enV, zE]
      clear hfe hg9 hbX
      gi_wp2_with fail
      refine ⟨fun _ h => (by cases h), ?_⟩
      gi_wp2_with fail
      refine ⟨HG9.out.mdh _, ?_, ⟨HG9.out.blk HBY'.out, HZY.out⟩, HK.out.m.trans (HG9.out.mdh _), HK.out.z, Nat.le_trans HK.out.s HG9.out.sz⟩
      show plusS _ _ _ _ _
      rw [HN.out]
      exact HJ.out _ _ _ _ _ HJI.out (HG9.out.mdh _) (fun k hk => .inl hk)
    | some y =>
      have HV : Hid (findV X x = .tuple #[enV y, .bool true, .int .i64 (codeX X)]) := Lib.hid (by unfold findV; rw [hfe]; rfl)
      have HN := Lib.hid (lvF_some (l := pre) hfe)
      have HG9 := Lib.hid (hg9.alloc (.cells #[.int .i64 y.seq, .string y.key, .bool y.del, .int .i64 y.slot, .int .i64 y.off, .int .i64 y.size] 56))
      have hpf : lvF X pre ++ [(x, y)] <+: liveL X := by rw [← HN.out, HLV.out]; exact lvF_pre HSP.out
      obtain ⟨fn, tmps, assign, body, hy, hR⟩ := yield_any 0 (HY.out _ _ (x, y) _ (HJ.out _ _ _ _ _ HJI.out (HG9.out.mdh _) (fun k hk => .inl hk)) hpf)
      have cy := (cellsOf (hg9.blk HBY'.out)).1
      have ly := blkLt (hg9.blk HBY'.out)
      rw [HV.out]
      simp only [encKE, enV] at hy
      simp only [enV]
      clear hfe hg9 hbX hpf
      gi_wp2_with fail
      refine hR.mono ?_
      rintro e W5 (⟨rfl, hj5, hm5⟩ | ⟨rfl, hjx5, hm5⟩)
      · have HJ5 := Lib.hid hj5
        have HM5 := Lib.hid hm5
        clear hj5 hm5 hR hy
        gi_wp2_with fail
        refine ⟨(HG9.out.mdh _).trans (HM5.out.mono (fun k hk => ⟨fun h => h.elim (fun e => hk.2 (.inr (.inr e))) (fun e => hk.1 (.inr e)), fun h => hk.2 (.inl h)⟩)), ?_, ⟨HM5.out.blk (HG9.out.blk HBY'.out) (fun h => h.2 (.inr (.inl rfl))), HZY.out⟩, (HK.out.m.trans (HG9.out.mdh _)).trans (HM5.out.mono (fun k hk => hk.1)), HK.out.z, Nat.le_trans HK.out.s (Nat.le_trans HG9.out.sz HM5.out.size)⟩
        show plusS _ _ _ _ _
        rw [HN.out]; exact HJ5.out
      · have HJ5 := Lib.hid hjx5
        have HM5 := Lib.hid hm5
        clear hjx5 hm5 hR hy
        gi_wp2_with fail
        refine ⟨(HG9.out.mdh _).trans (HM5.out.mono (fun k hk h => hk (.inl h))), ?_⟩
        show plusS _ _ _ _ _
        rw [HN.out]; exact HJ5.out
  case hend =>
    intro Z D xs W' hD hZD hcase hdef
    obtain ⟨hxs, hj, _⟩ := hcase.elim (fun h => h) (fun h => h.2.elim)
    dsimp only
    go_wp2_with fail
    refine retM1 (D := D) rfl hdef (results_none rfl _ _ _) ⟨⟨_, rfl⟩, .inl ⟨_, _, ?_, HJ.out _ _ _ _ _ hj ((Mdh.refl _ W').putObj (.inl hZD) _) (fun k hk => .inl hk)⟩⟩
    show lvF X xs = liveL X
    rw [show xs = X.ks from hxs, HLV.out]
  case hret =>
    intro Z D pre W' hD hZD hsp hj hdef
    dsimp only
    go_wp2_with fail
    refine retM1 (D := D) rfl hdef (results_none rfl _ _ _) ⟨⟨_, rfl⟩, .inr ⟨_, _, ?_, HJx.out _ _ _ _ _ hj ((Mdh.refl _ W').putObj (.inl hZD) _) (fun k hk => .inl hk)⟩⟩
    show lvF X pre <+: liveL X
    rw [HLV.out]
    exact lvF_pre hsp
set_option maxRecDepth 40000 in
theorem Live_any (p : Option Addr) (w : World) : Calls Tryz.prog 77 #[.pointer p] w fun e w' =>
    ∃ bb, e = .returned (.func (.func 129) #[] #[.pointer (some ⟨bb, 0, none⟩)]) ∧ w'.cell? ⟨bb, 0, none⟩ = some (.pointer p) ∧ w.heap.size ≤ bb ∧ Gr w w' := by
  go_enter Tryz.func77, Tryz.ntmps77
  go_wp2
  go_ret
  exact ⟨_, rfl, by simp [go_sem], Nat.le_refl _, by (repeat (first | (with_reducible exact Gr.refl _) | assumption | (with_reducible apply Gr.from_drew) | (with_reducible apply Gr.alloc) | (with_reducible apply Gr.drew) | (with_reducible refine Gr.trans ?_ (by assumption)) | (with_reducible refine Gr.setCell ?_ (by omega) _)))⟩
end Go.Proofs.YtmdfickejpeofaaGreat

/- keydir: sum, Count, Cost. -/
set_option linter.unusedVariables false
set_option linter.unusedSimpArgs false
namespace Go.Proofs.YtmdfickejpeofaaGreat
open Go.RowKit Go.Shelf
attribute [local go_sem] OvM cell_ovm obj_ovm
attribute [local go_sem] Oper.semAt_some

structure NumC (g : Nat) (f : En → Int) : Prop where
  enter : ∀ args w, (callFunc g args).run Tryz.prog w = .ok (.enter g args) w
  run : ∀ x w, Calls Tryz.prog g #[enV x] w fun e w' => e = .returned (.int .i64 (f x)) ∧ Gr w w'
  b : ∀ x, validE x = true → 0 ≤ f x ∧ f x ≤ 8192
set_option maxRecDepth 40000 in
theorem numCount : NumC 80 (fun _ => 1) := ⟨enters_of Tryz.func80 (by kernel_rfl) rfl, fun x w => by
  obtain ⟨x1, x2, x3, x4, x5, x6⟩ := x
  simp only [enV]
  go_enter Tryz.func80, Tryz.ntmps80
  go_wp2
  go_ret
  exact ⟨rfl, by (repeat (first | (with_reducible exact Gr.refl _) | assumption | (with_reducible apply Gr.from_drew) | (with_reducible apply Gr.alloc) | (with_reducible apply Gr.drew) | (with_reducible refine Gr.trans ?_ (by assumption)) | (with_reducible refine Gr.setCell ?_ (by omega) _)))⟩, fun _ _ => ⟨by omega, by omega⟩⟩
set_option maxRecDepth 40000 in
theorem numCost : NumC 81 (fun e => e.size) := ⟨enters_of Tryz.func81 (by kernel_rfl) rfl, fun x w => by
  obtain ⟨x1, x2, x3, x4, x5, x6⟩ := x
  simp only [enV]
  go_enter Tryz.func81, Tryz.ntmps81
  go_wp2
  go_ret
  exact ⟨rfl, by (repeat (first | (with_reducible exact Gr.refl _) | assumption | (with_reducible apply Gr.from_drew) | (with_reducible apply Gr.alloc) | (with_reducible apply Gr.drew) | (with_reducible refine Gr.trans ?_ (by assumption)) | (with_reducible refine Gr.setCell ?_ (by omega) _)))⟩, fun x hv => by have := (valid_iff x).1 hv; exact ⟨by omega, by omega⟩⟩
def sumF (f : En → Int) (l : List (ByteArray × En)) : Int := l.foldl (fun a x => a + f x.2) 0
theorem sumF_snoc (f : En → Int) (l : List (ByteArray × En)) (x : ByteArray × En) : sumF f (l ++ [x]) = sumF f l + f x.2 := by simp [sumF]
theorem sumF_ok' (f : En → Int) : ∀ (l : List (ByteArray × En)) (a : Int), (∀ x ∈ l, 0 ≤ f x.2 ∧ f x.2 ≤ 8192) → a ≤ l.foldl (fun a x => a + f x.2) a ∧ l.foldl (fun a x => a + f x.2) a ≤ a + 8192 * l.length
  | [], a, _ => by simp
  | x :: l, a, h => by
    have h1 := h x (by simp)
    have h2 := sumF_ok' f l (a + f x.2) (fun y hy => h y (List.mem_cons_of_mem _ hy))
    simp only [List.foldl_cons, List.length_cons, Int.natCast_add]
    omega
theorem sumF_ok (f : En → Int) (l : List (ByteArray × En)) (h : ∀ x ∈ l, 0 ≤ f x.2 ∧ f x.2 ≤ 8192) : 0 ≤ sumF f l ∧ sumF f l ≤ 8192 * l.length := by
  have := sumF_ok' f l 0 h
  unfold sumF
  omega
theorem findE_mem {X : IX} {k : ByteArray} {e : En} (h : findE X k = some e) : e ∈ X.of k := by
  unfold findE at h
  split at h
  · cases h
  · rename_i y t hy
    split at h
    · cases h
    · cases h; rw [hy]; simp
theorem live_valid {X : IX} (h : X.Wf) : ∀ x ∈ liveL X, validE x.2 = true := by
  intro x hx
  unfold liveL lvF at hx
  obtain ⟨k, _, hk⟩ := List.mem_filterMap.1 hx
  cases hf : findE X k with
  | none => rw [hf] at hk; cases hk
  | some e =>
    rw [hf] at hk
    simp only [Option.map_some, Option.some.injEq] at hk
    subst hk
    exact (h.valid ((h.of_mem k e).1 (findE_mem hf)).1).1
theorem live_len {X : IX} (h : X.Wf) : (liveL X).length ≤ 16384 := by
  refine Nat.le_trans (List.length_filterMap_le _ _) ?_
  have := h.keys_le
  unfold IX.ks
  simpa using this
def sumR (X : IX) (f : En → Int) : Value := if X.slots = [] then .tuple #[.int .i64 0, .int .i64 1] else .tuple #[.int .i64 (sumF f (liveL X)), .int .i64 0]
set_option maxRecDepth 40000 in
set_option maxHeartbeats 4000000 in
theorem Sum_any {w : World} {p : Option Addr} {X : IX} {S : Nat → Prop} (h : IXP w p X S) {g : Nat} {f : En → Int} (hp : NumC g f) :
    Calls Tryz.prog 79 #[.pointer p, .func (.func g) #[] #[]] w fun e w' => e = .returned (sumR X f) ∧ Gr w w' := by
  have H := Lib.hid h
  have HP := Lib.hid hp
  have heg := hp.enter
  have HLV := Lib.hid (live_valid h.ok)
  have HLL := Lib.hid (live_len h.ok)
  clear h hp
  refine calls_of_wp_marks Tryz.func79 rfl ?_
  simp only [Tryz.ntmps79, List.size_toArray, List.length_cons, List.length_nil, Nat.reduceAdd, Nat.reduceSub, Array.replicate_succ, Array.replicate_zero, List.push_toArray, List.append_toArray, List.nil_append, List.cons_append]
  go_wp2_with fail
  refine (valid_any (H.out.gr ((Gr.refl w).alloc _))).mono ?_
  rintro e w0 ⟨rfl, rfl⟩
  by_cases h0 : X.slots = []
  · have HS : Hid (sumR X f = .tuple #[.int .i64 0, .int .i64 1]) := Lib.hid (if_pos h0)
    rw [decide_eq_false (fun h => h h0)]
    clear h0
    go_wp2_with fail
    refine retM0 (v := .tuple #[.int .i64 0, .int .i64 1]) ?_ rfl ⟨by rw [HS.out], (Gr.refl w).alloc _⟩
    simp [results, Tryz.results79, go_sem]
  have HS : Hid (sumR X f = .tuple #[.int .i64 (sumF f (liveL X)), .int .i64 0]) := Lib.hid (if_neg h0)
  rw [decide_eq_true h0]
  clear h0
  go_wp2_with fail
  obtain ⟨b3, hb3⟩ : ∃ q, q = w.heap.size := ⟨_, rfl⟩
  obtain ⟨w0, hw0⟩ : ∃ y, y = (w.alloc (.cells #[.func (.func g) #[] #[]] 132)).alloc (.cells #[.int .i64 0] 3) := ⟨_, rfl⟩
  have HSW : Hid (SW w [blkA (b3 + 1) (.cells #[.int .i64 0] 3), blkA b3 (.cells #[.func (.func g) #[] #[]] 132)] w0) := Lib.hid (by
    have := ((SW.start w).alloc (.cells #[.func (.func g) #[] #[]] 132)).alloc (.cells #[.int .i64 0] 3)
    simp only [World.size_alloc] at this
    rw [hw0, hb3]
    exact this)
  rw [← hw0, ← hb3]
  clear hw0 hb3
  refine (Live_any p _).mono ?_
  rintro e' w1 ⟨bb, rfl, h1, h2, hg⟩
  have HS1 := Lib.hid (HSW.out.gr hg)
  have HI := Lib.hid (H.out.gr HS1.out.g)
  have HSEQ := Lib.hid (SeqLive HI.out bb h1)
  have HA : Hid (∀ q, (q = bb ∨ S q) → q < w1.heap.size) := Lib.hid (fun q hq => by
    have l1 := World.block_lt_of_cell? w1 ⟨bb, 0, none⟩ h1
    rcases hq with rfl | hq
    · exact l1
    · exact HI.out.lt q hq)
  have HZ : Hid (SWz w w1 (fun q => q = bb ∨ S q) [blkA (b3 + 1) (.cells #[.int .i64 0] 3), blkA b3 (.cells #[.func (.func g) #[] #[]] 132)] (fun _ => False) w1) := Lib.hid (SWz.start HS1.out (fun B hB k hk ha => by
    have l1 := HSW.out.s.lt hB k hk
    have l2 := HSW.out.n B hB k hk
    rcases ha with rfl | ha
    · omega
    · have := H.out.lt k ha; omega))
  clear h1 h2 hg
  go_wp2_with fail
  apply wp_rangeFunc_zx (gf := 129) (lb := #[.pointer (some ⟨bb, 0, none⟩)]) rfl (enters_of Tryz.func129 (by kernel_rfl) rfl) HSEQ.out (Mdh.refl _ w1) HA.out (fun _ => rfl)
    (fun Z pre X' => SWz w w1 (fun q => q = bb ∨ S q) [blkA (b3 + 1) (.cells #[.int .i64 (sumF f pre)] 3), blkA b3 (.cells #[.func (.func g) #[] #[]] 132)] Z X')
    (fun _ _ _ => False) (fun _ _ _ => False)
    (SWz.apart HS1.out.g.sz (fun pre => [blkA (b3 + 1) (.cells #[.int .i64 (sumF f pre)] 3), blkA b3 (.cells #[.func (.func g) #[] #[]] 132)])) apart_no apart_no
    HZ.out (fun Z pre X' h => h.frm HS1.out.g) (fun x => .cells #[.int .i64 x.2.seq, .string x.2.key, .bool x.2.del, .int .i64 x.2.slot, .int .i64 x.2.off, .int .i64 x.2.size] 56)
    _ ?assign ?body ?hend ?hret
  case hret => intro _ _ _ _ _ _ _ h; exact h.elim
  case assign =>
    intro l x bx X' K hbx hK
    dsimp only [encKE, enV]
    gi_wp2
    rw [← hbx]
    exact hK
  case body =>
    intro l Z pre x bx X' hI hbx hx hzx hzl hlr hsp
    have HIZ := Lib.hid hI
    have HX := Lib.hid hx
    have HB3 := Lib.hid (show X'.heap[b3]? = _ from hI.s.get (i := 1) rfl)
    have HB6 := Lib.hid (show X'.heap[b3 + 1]? = _ from hI.s.get (i := 0) rfl)
    have HSN := Lib.hid (sumF_snoc f pre x)
    have hs := sumF_ok f pre (fun y hy => HP.out.b _ (HLV.out y (hsp.subset (List.mem_append_left _ hy))))
    have hf := HP.out.b _ (HLV.out x (hsp.subset (by simp)))
    have hpl : (pre.length : Int) ≤ 16384 := by have := hsp.length_le; have := HLL.out; simp at *; omega
    have HR := Lib.hid (HP.out.run x.2)
    obtain ⟨k, x⟩ := x
    simp only at HX HSN hf HR
    generalize sumF f pre = m at *
    generalize hfx : f x = v at *
    obtain ⟨hs1, hs2⟩ := hs
    obtain ⟨hf1, hf2⟩ := hf
    have hm : m ≤ 8192 * 16384 := by omega
    have dx := (cellsOf HX.out).1
    have d3 := (cellsOf HB3.out).1
    have d6 := (cellsOf HB6.out).1
    clear hI hbx hx hzx hzl hlr hsp hs2 hpl hfx
    gi_wp2_with fail
    refine wpIn_region_flt 5 (fun _ => trivial) rfl (fun _ => False) [] [] (by kernel_rfl) (by kernel_rfl) (by decide) (by kernel_rfl) (fun _ h => h.elim) ?_
    simp only [List.take_succ_cons, List.take_zero, List.drop_succ_cons, List.drop_zero]
    refine flo_seg 3 rfl ?_
    simp only [List.take_succ_cons, List.take_zero, List.drop_succ_cons, List.drop_zero]
    repeat (go_big_quiet_step (fail))
    refine wpQuiet_nil ?_
    refine flo_eff rfl rfl rfl rfl (fun K hK => ?_)
    gi_wp2_with ((refine ⟨trivial, (CallsIn.inRound l (callsIn_wide.2 (HR.out _))).mono ?_⟩; rintro e w9 ⟨rfl, hg9⟩; have HGD := Lib.hid hg9; have HG9 := Lib.hid (((Gr.refl X').drew).trans hg9); clear hg9))
    refine ⟨by first | exact HGD.out.mdh _ | exact HG9.out.mdh _, ?_⟩
    refine flo_seg 1 rfl ?_
    simp only [List.take_succ_cons, List.take_zero, List.drop_succ_cons, List.drop_zero]
    repeat (go_big_quiet_step (fail))
    refine wpQuiet_nil ?_
    refine flo_nil ?_
    obtain ⟨c6, f6⟩ := cellsOf (HG9.out.blk HB6.out)
    have HZ9 := Lib.hid (HIZ.out.gr HG9.out)
    have HB7 := Lib.hid (HZ9.out.1.box (i := 0) rfl HA.out ((Mdh.refl (fun k => k = b3 + 1) w9).setCell (p := ⟨b3 + 1, 0, none⟩) rfl (.int .i64 (m + v))) (blkSet (j := 0) (u := .int .i64 (m + v)) (HG9.out.blk HB6.out)))
    clear dx d3 d6
    gi_wp2_with fail
    refine ⟨HZ9.out.2.trans HB7.out.2, ?_⟩
    dsimp only
    rw [HSN.out]
    exact HB7.out.1
  case hend =>
    intro Z D xs W hD hZD hcase hdef
    obtain ⟨hxs, hI⟩ := hcase.elim (fun h => h) (fun h => h.2.elim)
    have hxs' : xs = liveL X := hxs
    subst hxs'
    have HIW := Lib.hid hI
    have hb6 : W.heap[b3 + 1]? = _ := hI.s.get (i := 0) rfl
    obtain ⟨d6, f6⟩ := cellsOf hb6
    have HD := Lib.hid (And.intro hD (And.intro hZD hdef))
    generalize sumF f (liveL X) = m at *
    clear hI hcase hxs hb6 hD hZD hdef
    dsimp only
    go_wp2_with fail
    refine retM1 (D := D) (v := .tuple #[.int .i64 m, .int .i64 0]) rfl HD.out.2.2 ?_ ⟨by rw [HS.out], HIW.out.s.g.putObj (by have := HS1.out.g.sz; have := HD.out.1; omega) _⟩
    simp [results, Tryz.results79, go_sem]
set_option maxRecDepth 40000 in
theorem Count_any {w : World} {p : Option Addr} {X : IX} {S : Nat → Prop} (h : IXP w p X S) : Calls Tryz.prog 25 #[.pointer p] w fun e w' => e = .returned (sumR X (fun _ => 1)) ∧ Gr w w' := by
  have H := Lib.hid h
  obtain ⟨r, hr⟩ : ∃ r, r = sumR X (fun _ => 1) := ⟨_, rfl⟩
  have hrr : ∃ m c : Int, r = .tuple #[.int .i64 m, .int .i64 c] := by rw [hr]; unfold sumR; split <;> exact ⟨_, _, rfl⟩
  obtain ⟨m, c, hmc⟩ := hrr
  have HS : Hid (sumR X (fun _ => 1) = .tuple #[.int .i64 m, .int .i64 c]) := Lib.hid (by rw [← hr, hmc])
  clear h hr hmc
  go_enter Tryz.func25, Tryz.ntmps25
  go_wp2_with fail
  refine (Sum_any H.out numCount).mono ?_
  rintro e w1 ⟨rfl, hg⟩
  rw [HS.out]
  have HG := Lib.hid hg
  clear hg
  go_wp2
  go_ret2
  exact ⟨by rw [HS.out] <;> rfl, HG.out⟩
set_option maxRecDepth 40000 in
theorem Cost_any {w : World} {p : Option Addr} {X : IX} {S : Nat → Prop} (h : IXP w p X S) : Calls Tryz.prog 27 #[.pointer p] w fun e w' => e = .returned (sumR X (fun e => e.size)) ∧ Gr w w' := by
  have H := Lib.hid h
  obtain ⟨r, hr⟩ : ∃ r, r = sumR X (fun e => e.size) := ⟨_, rfl⟩
  have hrr : ∃ m c : Int, r = .tuple #[.int .i64 m, .int .i64 c] := by rw [hr]; unfold sumR; split <;> exact ⟨_, _, rfl⟩
  obtain ⟨m, c, hmc⟩ := hrr
  have HS : Hid (sumR X (fun e => e.size) = .tuple #[.int .i64 m, .int .i64 c]) := Lib.hid (by rw [← hr, hmc])
  clear h hr hmc
  go_enter Tryz.func27, Tryz.ntmps27
  go_wp2_with fail
  refine (Sum_any H.out numCost).mono ?_
  rintro e w1 ⟨rfl, hg⟩
  rw [HS.out]
  have HG := Lib.hid hg
  clear hg
  go_wp2
  go_ret2
  exact ⟨by rw [HS.out] <;> rfl, HG.out⟩
end Go.Proofs.YtmdfickejpeofaaGreat
