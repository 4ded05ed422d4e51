/- drumlinlaw23: a record is appended: the walk of add. -/
import Derived.Test.YthefpmmeoajaiaaBd11
import Derived.Test.YthefpmmeoajaiaaBd13
import Derived.Test.YthefpmmeoajaiaaBd7
set_option linter.unusedVariables false
set_option linter.unusedSimpArgs false
namespace Go.Proofs.Ythefpmmeoajaiaa
open Go.RowKit Go.Shelf
attribute [local go_sem] OvM cell_ovm obj_ovm
attribute [local go_sem] Oper.semAt_some

abbrev blO (b : Nat) (us : Int → Int) (nx : Int) : Obj := .cells #[.pointer (some ⟨b, 0, none⟩), .int .i64 (us 0), .int .i64 (us 1), .int .i64 (us 2), .int .i64 (us 3), .int .i64 (us 4), .int .i64 (us 5), .int .i64 nx] 35
abbrev boxP (t : Pt) : Obj := .cells #[.int .u8 t.key, .int .u8 t.slot, .int .u8 t.size, .bool t.del, .bool t.cp] 24
theorem bl_get (b : Nat) (us : Int → Int) (nx : Int) (σ : Nat) (h : σ < 6) : (#[.pointer (some ⟨b, 0, none⟩), .int .i64 (us 0), .int .i64 (us 1), .int .i64 (us 2), .int .i64 (us 3), .int .i64 (us 4), .int .i64 (us 5), .int .i64 nx] : Array Value)[1 + σ]? = some (.int .i64 (us σ)) := by
  have h' : σ = 0 ∨ σ = 1 ∨ σ = 2 ∨ σ = 3 ∨ σ = 4 ∨ σ = 5 := by omega
  rcases h' with rfl | rfl | rfl | rfl | rfl | rfl <;> rfl
theorem bl_set (b : Nat) (us : Int → Int) (nx : Int) (σ : Nat) (h : σ < 6) (u : Int) : (#[.pointer (some ⟨b, 0, none⟩), .int .i64 (us 0), .int .i64 (us 1), .int .i64 (us 2), .int .i64 (us 3), .int .i64 (us 4), .int .i64 (us 5), .int .i64 nx] : Array Value).setIfInBounds (1 + σ) (.int .i64 u) = #[.pointer (some ⟨b, 0, none⟩), .int .i64 (upd us σ u 0), .int .i64 (upd us σ u 1), .int .i64 (upd us σ u 2), .int .i64 (upd us σ u 3), .int .i64 (upd us σ u 4), .int .i64 (upd us σ u 5), .int .i64 nx] := by
  have h' : σ = 0 ∨ σ = 1 ∨ σ = 2 ∨ σ = 3 ∨ σ = 4 ∨ σ = 5 := by omega
  rcases h' with rfl | rfl | rfl | rfl | rfl | rfl <;> simp [upd]
theorem SW.other {w0 w w' : World} {R : List Asn} {T : Nat → Prop} (h : SW w0 R w) (m : Mdh T w w') (hT : ∀ A ∈ R, ∀ k, A.S k → ¬ T k) (hn : ∀ k, T k → w0.heap.size ≤ k) : SW w0 R w' := ⟨h.g.md m hn, h.s.mdh m hT, h.n⟩
/-- Blocks of one's own, side by side, whatever older blocks hold. -/
structure LocN (w0 : World) (R : List Asn) (w : World) : Prop where
  z : w0.heap.size ≤ w.heap.size
  s : Sep R w
  n : ∀ A ∈ R, ∀ k, A.S k → w0.heap.size ≤ k
theorem LocN.gr {w0 w w' : World} {R : List Asn} (h : LocN w0 R w) (g : Gr w w') : LocN w0 R w' := ⟨Nat.le_trans h.z g.sz, h.s.gr g, h.n⟩
theorem LocN.get {w0 w : World} {R : List Asn} {A : Asn} (h : LocN w0 R w) {i : Nat} (hi : R[i]? = some A) : A.P w := h.s.1 A (List.mem_of_getElem? hi)
theorem LocN.of {w0 w : World} {R : List Asn} (h : SW w0 R w) : LocN w0 R w := ⟨h.g.sz, h.s, h.n⟩
def mtP (hd : En) (κ : ByteArray) (y : En) : Bool := decide (y.seq = hd.seq) && decide (y.key = κ)
set_option maxRecDepth 40000 in
set_option maxHeartbeats 8000000 in
theorem add23 {w0 w : World} {b bb : Nat} {S : Nat → Prop} {R : List Asn} {st : PS} {j : Nat} {t : Pt} (h : SW w0 (ixA b st.X S :: blkA bb (blO b st.us st.nx) :: R) w) (hst : st.Ok j) (hj : j ≤ 61) (ht : t.Ok) :
    Calls Try.prog 20 #[.pointer (some ⟨bb, 0, none⟩), .agg #[.int .u8 t.key, .int .u8 t.slot, .int .u8 t.size, .bool t.del, .bool t.cp]] w fun e w' => e = .returned (.tuple #[enV (retP st t), .bool true]) ∧ ∃ S', SW w0 (ixA b (stepP st t).X S' :: blkA bb (blO b (stepP st t).us (stepP st t).nx) :: R) w' := by
  have H := Lib.hid h
  have HST := Lib.hid hst
  have HT := Lib.hid ht
  obtain ⟨t0, t1, t2, dl, cp⟩ := t
  obtain ⟨⟨k0, k0'⟩, ⟨k1, k1'⟩, ⟨k2, k2'⟩⟩ := ht
  simp only at k0 k0' k1 k1' k2 k2'
  simp only
  obtain ⟨X, all, us, nx⟩ := st
  simp only at H
  obtain ⟨σ, hσ⟩ : ∃ σ : Nat, t1 % 6 = (σ : Int) := ⟨(t1 % 6).toNat, by omega⟩
  have hσ6 : σ < 6 := by omega
  obtain ⟨τ, hτ⟩ : ∃ τ : Nat, t0 % 5 = (τ : Int) := ⟨(t0 % 5).toNat, by omega⟩
  have hτ5 : τ < 5 := by omega
  obtain ⟨κ, hκ⟩ : ∃ κ, κ = ptKey t0 := ⟨_, rfl⟩
  have hkey : (#[Value.string ⟨#[97]⟩, .string ⟨#[98]⟩, .string ⟨#[99]⟩, .string ⟨#[100, 100]⟩, .string ⟨#[101, 48]⟩] : Array Value)[τ]? = some (.string κ) := by
    have h : τ = 0 ∨ τ = 1 ∨ τ = 2 ∨ τ = 3 ∨ τ = 4 := by omega
    rw [hκ]
    unfold ptKey
    rw [hτ]
    rcases h with rfl | rfl | rfl | rfl | rfl <;> rfl
  have hkey2 : ∀ h, ([Value.string ⟨#[97]⟩, .string ⟨#[98]⟩, .string ⟨#[99]⟩, .string ⟨#[100, 100]⟩, .string ⟨#[101, 48]⟩] : List Value)[τ]'h = .string κ := by
    intro h0
    have h := hkey
    rw [List.getElem?_toArray, List.getElem?_eq_getElem h0] at h
    exact Option.some.inj h
  clear hkey
  have hks : κ.size ≤ 2 := by rw [hκ]; exact (ptKey_ok t0).2.2.1
  have HSG := Lib.hid (And.intro hσ (And.intro hτ hκ))
  have hus := hst.u (σ : Int)
  simp only at hus
  have hus1 : 0 ≤ us (σ : Int) := hus.1
  have hus2 : us (σ : Int) ≤ 7198 := by omega
  have hnx1 : 1 ≤ nx := hst.q0
  have hnx2 : nx ≤ 62 := by have := hst.q1; simp only at this; omega
  clear h hst hκ hus
  refine calls_of_wp_marks Try.func20 rfl ?_
  simp only [Try.ntmps20, List.size_toArray, List.length_cons, List.length_nil, Nat.reduceAdd, Nat.reduceSub, Array.replicate_succ, Array.replicate_zero, List.push_toArray, List.append_toArray, List.nil_append, List.cons_append]
  go_wp2_with fail
  obtain ⟨b3, hb3⟩ : ∃ q, q = w.heap.size := ⟨_, rfl⟩
  obtain ⟨w1, hw1⟩ : ∃ y, y = ((((w.alloc (boxP ⟨t0, t1, t2, dl, cp⟩)).alloc (boxF zE)).alloc (.cells #[.bool false] 4)).alloc (.cells #[.string ⟨#[97]⟩, .string ⟨#[98]⟩, .string ⟨#[99]⟩, .string ⟨#[100, 100]⟩, .string ⟨#[101, 48]⟩] 9)).alloc (.cells #[.string κ] 9) := ⟨_, rfl⟩
  have H1 : Hid (SW w [blkA (b3 + 1 + 1 + 1 + 1) (.cells #[.string κ] 9), blkA (b3 + 1 + 1) (.cells #[.bool false] 4), blkA (b3 + 1) (boxF zE), blkA b3 (boxP ⟨t0, t1, t2, dl, cp⟩)] w1) := Lib.hid (by
    have h := (((((SW.start w).alloc (boxP ⟨t0, t1, t2, dl, cp⟩)).alloc (boxF zE)).alloc (.cells #[.bool false] 4)).alloc (.cells #[.string ⟨#[97]⟩, .string ⟨#[98]⟩, .string ⟨#[99]⟩, .string ⟨#[100, 100]⟩, .string ⟨#[101, 48]⟩] 9)).alloc (.cells #[.string κ] 9)
    simp only [World.size_alloc, ← hb3] at h
    rw [hw1]
    exact h.sub (.cons_cons _ (.cons _ (List.Sublist.refl _))))
  simp only [boxP, boxF, zE] at hw1
  rw [← hb3, ← hw1]
  clear hw1 hb3 hkey2
  have dP := (cellsOf (show w1.heap[b3]? = _ from H1.out.get (i := 3) rfl)).1
  have lP := blkLt (show w1.heap[b3]? = _ from H1.out.get (i := 3) rfl)
  have dK := (cellsOf (show w1.heap[b3 + 1 + 1 + 1 + 1]? = _ from H1.out.get (i := 0) rfl)).1
  have lK := blkLt (show w1.heap[b3 + 1 + 1 + 1 + 1]? = _ from H1.out.get (i := 0) rfl)
  have KB := Lib.hid (show w1.heap[bb]? = _ from (H.out.gr H1.out.g).get (i := 1) rfl)
  have dB0 : w1.cell? ⟨bb, 0, none⟩ = some (.pointer (some ⟨b, 0, none⟩)) := (cellsOf KB.out).1 0
  have dB7 : w1.cell? ⟨bb, 7, none⟩ = some (.int .i64 nx) := (cellsOf KB.out).1 7
  have dU := ((cellsOf KB.out).1 (1 + σ)).trans (bl_get b us nx σ hσ6)
  have lB := blkLt KB.out
  simp only [boxP] at dP
  have HG := Gr.refl w1.drew
  refine wp_region_flo (fun _ => False) [8] [] (by kernel_rfl) (by kernel_rfl) (fun _ h => h.elim) ?_
  refine flo_seg 23 rfl ?_
  simp only [List.take_succ_cons, List.take_zero, List.drop_succ_cons, List.drop_zero]
  repeat (go_big_quiet_step (fail))
  refine wpQuiet_nil ?_
  refine flo_float (fun b => .pointer (some ⟨b, 0, none⟩)) (.cells #[.int .i64 0, .string ⟨#[]⟩, .bool false, .int .i64 0, .int .i64 0, .int .i64 0] 43) rfl rfl (fun w => by kernel_rfl) (fun wf1 fb1 hgf1 fl1 fh1 ft1 fo1 => ?_)
  (try replace HG := Gr.trans (Gr.trans HG (by (repeat (first | (with_reducible exact Gr.refl _) | assumption | (with_reducible apply Gr.from_drew) | (with_reducible apply Gr.alloc) | (with_reducible apply Gr.drew) | (with_reducible refine Gr.trans ?_ (by assumption)) | (with_reducible refine Gr.setCell ?_ (by omega) _))))) hgf1)
  (try have fc1 := (cellsOf fo1).1)
  (try have ff1 := (cellsOf fo1).2)
  refine flo_eff rfl rfl rfl rfl (fun K hK => ?_)
  go_wp2
  refine ⟨by (first | (refine Gr.mdh ?_ _; (repeat (first | (with_reducible exact Gr.refl _) | assumption | (with_reducible apply Gr.from_drew) | (with_reducible apply Gr.alloc) | (with_reducible apply Gr.drew) | (with_reducible refine Gr.trans ?_ (by assumption)) | (with_reducible refine Gr.setCell ?_ (by omega) _))); done) | (repeat (first | (with_reducible exact Mdh.refl _ _) | (with_reducible refine Mdh.setCell ?_ (by simp) _) | (with_reducible refine Mdh.setNew ?_ (by simp) _) | (with_reducible apply Mdh.alloc) | (with_reducible apply Mdh.from_drew) | (with_reducible apply Mdh.drew) | (with_reducible refine Mdh.gr ?_ (by assumption))))), ?_⟩
  refine flo_nil ?_
  obtain ⟨W2, hW2⟩ : ∃ y, y = ((((((wf1.setCell ⟨fb1, 0, none⟩ (.int .i64 nx)).setCell ⟨fb1, 1, none⟩ (.string κ)).setCell ⟨fb1, 2, none⟩ (.bool dl)).setCell ⟨fb1, 3, none⟩ (.int .i64 σ)).setCell ⟨fb1, 4, none⟩ (.int .i64 (us σ))).setCell ⟨fb1, 5, none⟩ (.int .i64 (16 + (κ.size : Int) + t2 % 100))) := ⟨_, rfl⟩
  have H2 : Hid (SW w (blkA fb1 (boxF ⟨nx, κ, dl, σ, us σ, 16 + (κ.size : Int) + t2 % 100⟩) :: [blkA (b3 + 1 + 1 + 1 + 1) (.cells #[.string κ] 9), blkA (b3 + 1 + 1) (.cells #[.bool false] 4), blkA (b3 + 1) (boxF zE), blkA b3 (boxP ⟨t0, t1, t2, dl, cp⟩)]) W2) := Lib.hid (by
    have h1 := H1.out.new (Gr.of_drew HG) (A := blkA fb1 (boxF ⟨0, ⟨#[]⟩, false, 0, 0, 0⟩)) fo1 (fun k hk => by rw [show k = fb1 from hk]; exact fl1)
    rw [hW2]
    exact h1.step (B := blkA fb1 (boxF ⟨nx, κ, dl, σ, us σ, 16 + (κ.size : Int) + t2 % 100⟩)) (T := fun k => k = fb1) ((((((((Mdh.refl (fun k => k = fb1) wf1).setCell (p := ⟨fb1, 0, none⟩) rfl _).setCell (p := ⟨fb1, 1, none⟩) rfl _).setCell (p := ⟨fb1, 2, none⟩) rfl _).setCell (p := ⟨fb1, 3, none⟩) rfl _).setCell (p := ⟨fb1, 4, none⟩) rfl _).setCell (p := ⟨fb1, 5, none⟩) rfl _)) (fun k hk => .inl hk) (blk6 fo1) (fun k hk => .inl hk))
  rw [← hW2]
  clear hW2 fl1 fh1 ft1 fo1 fc1 ff1 HG hgf1 dP lP dK lK KB dB0 dB7 dU lB H1
  generalize fb1 = b8 at *
  obtain ⟨e, he⟩ : ∃ e, e = newP ⟨X, all, us, nx⟩ ⟨t0, t1, t2, dl, cp⟩ := ⟨_, rfl⟩
  have HEE : Hid (e = ⟨nx, κ, dl, σ, us σ, 16 + (κ.size : Int) + if dl = true then 0 else t2 % 100⟩) := Lib.hid (by
    rw [he]
    unfold newP
    simp only
    rw [HSG.out.1, ← HSG.out.2.2])
  have HE := Lib.hid he
  clear he
  have K8 := Lib.hid (show W2.heap[b8]? = _ from H2.out.get (i := 0) rfl)
  have dP := (cellsOf (show W2.heap[b3]? = _ from H2.out.get (i := 4) rfl)).1
  have lP := blkLt (show W2.heap[b3]? = _ from H2.out.get (i := 4) rfl)
  have dK := (cellsOf (show W2.heap[b3 + 1 + 1 + 1 + 1]? = _ from H2.out.get (i := 1) rfl)).1
  obtain ⟨d8, f8⟩ := cellsOf K8.out
  simp only at d8
  go_upto_if 46 with fail
  go_cut [] from 47 to 51 (fun wx => Hid (SW w (blkA b8 (boxF e) :: [blkA (b3 + 1 + 1 + 1 + 1) (.cells #[.string κ] 9), blkA (b3 + 1 + 1) (.cells #[.bool false] 4), blkA (b3 + 1) (boxF zE), blkA b3 (boxP ⟨t0, t1, t2, dl, cp⟩)]) wx))
  case first =>
    cases dl with
    | true =>
      have HE2 : Hid (e = ⟨nx, κ, true, σ, us σ, 16 + (κ.size : Int)⟩) := Lib.hid (by rw [HEE.out]; simp)
      go_wp2_with fail
      go_meet
      rw [HE2.out]
      exact Lib.hid (H2.out.put ((Mdh.refl (fun k => k = b8) W2).setCell (p := ⟨b8, 5, none⟩) rfl _) (blkSet (j := 5) K8.out))
    | false =>
      have HE2 : Hid (e = ⟨nx, κ, false, σ, us σ, 16 + (κ.size : Int) + t2 % 100⟩) := Lib.hid (by rw [HEE.out]; simp)
      go_wp2_with fail
      go_meet
      rw [HE2.out]
      exact H2
  case rest =>
    have H3 : Hid (SW w (blkA b8 (boxF e) :: [blkA (b3 + 1 + 1 + 1 + 1) (.cells #[.string κ] 9), blkA (b3 + 1 + 1) (.cells #[.bool false] 4), blkA (b3 + 1) (boxF zE), blkA b3 (boxP ⟨t0, t1, t2, dl, cp⟩)]) wc) := hcut
    clear hcut H2 K8 d8 f8 dP lP dK
    have dK := (cellsOf (show wc.heap[b3 + 1 + 1 + 1 + 1]? = _ from H3.out.get (i := 1) rfl)).1
    have lK := blkLt (show wc.heap[b3 + 1 + 1 + 1 + 1]? = _ from H3.out.get (i := 1) rfl)
    have dB0 : wc.cell? ⟨bb, 0, none⟩ = some (.pointer (some ⟨b, 0, none⟩)) := (cellsOf (show wc.heap[bb]? = _ from (H.out.gr H3.out.g).get (i := 1) rfl)).1 0
    have lB := blkLt (show wc.heap[bb]? = _ from (H.out.gr H3.out.g).get (i := 1) rfl)
    obtain ⟨hd, hhd⟩ : ∃ hd, hd = (X.of κ).headD zE := ⟨_, rfl⟩
    obtain ⟨ie, hie⟩ : ∃ ie, ie = !(X.of κ).isEmpty := ⟨_, rfl⟩
    have HNV : Hid (newV (X.of κ) = .tuple #[enV hd, .bool ie]) := Lib.hid (by rw [hhd, hie]; exact newV_eq _)
    have HHD := Lib.hid (And.intro hhd hie)
    clear hhd hie
    go_wp2_with fail
    have HG := Gr.refl wc.drew
    refine wp_region_flo (fun _ => False) [9] [] (by kernel_rfl) (by kernel_rfl) (fun _ h => h.elim) ?_
    refine flo_seg 5 rfl ?_
    simp only [List.take_succ_cons, List.take_zero, List.drop_succ_cons, List.drop_zero]
    repeat (go_big_quiet_step (fail))
    refine wpQuiet_nil ?_
    refine flo_effg rfl rfl rfl (fun wg1 hgg1 K hK => ?_)
    (try replace HG := Gr.trans (Gr.trans HG (by (repeat (first | (with_reducible exact Gr.refl _) | assumption | (with_reducible apply Gr.from_drew) | (with_reducible apply Gr.alloc) | (with_reducible apply Gr.drew) | (with_reducible refine Gr.trans ?_ (by assumption)) | (with_reducible refine Gr.setCell ?_ (by omega) _))))) hgg1)
    go_wp2_with ((go_at_call 17; refine (Newest_any (.inl ⟨b, rfl, ((H.out.gr H3.out.g).gr ((Gr.refl wc).drew.trans hgg1)).get (i := 0) rfl⟩) κ).mono ?_; rintro e' w5 ⟨rfl, hg⟩; rw [HNV.out]; simp only [enV]; have HG5 := Lib.hid hg; clear hg))
    refine ⟨by exact HG5.out.mdh _, ?_⟩
    refine flo_seg 3 rfl ?_
    simp only [List.take_succ_cons, List.take_zero, List.drop_succ_cons, List.drop_zero]
    repeat (go_big_quiet_step (fail))
    refine wpQuiet_nil ?_
    refine flo_float (fun b => .pointer (some ⟨b, 0, none⟩)) (.cells #[.int .i64 0, .string ⟨#[]⟩, .bool false, .int .i64 0, .int .i64 0, .int .i64 0] 43) rfl rfl (fun w => by kernel_rfl) (fun wf1 fb1 hgf1 fl1 fh1 ft1 fo1 => ?_)
    (try replace HG := Gr.trans (Gr.trans HG (by (repeat (first | (with_reducible exact Gr.refl _) | assumption | (with_reducible apply Gr.from_drew) | (with_reducible apply Gr.alloc) | (with_reducible apply Gr.drew) | (with_reducible refine Gr.trans ?_ (by assumption)) | (with_reducible refine Gr.setCell ?_ (by omega) _))))) hgf1)
    (try have fc1 := (cellsOf fo1).1)
    (try have ff1 := (cellsOf fo1).2)
    refine flo_eff rfl rfl rfl rfl (fun K hK => ?_)
    go_wp2
    refine ⟨by (first | (refine Gr.mdh ?_ _; (repeat (first | (with_reducible exact Gr.refl _) | assumption | (with_reducible apply Gr.from_drew) | (with_reducible apply Gr.alloc) | (with_reducible apply Gr.drew) | (with_reducible refine Gr.trans ?_ (by assumption)) | (with_reducible refine Gr.setCell ?_ (by omega) _))); done) | (repeat (first | (with_reducible exact Mdh.refl _ _) | (with_reducible refine Mdh.setCell ?_ (by simp) _) | (with_reducible refine Mdh.setNew ?_ (by simp) _) | (with_reducible apply Mdh.alloc) | (with_reducible apply Mdh.from_drew) | (with_reducible apply Mdh.drew) | (with_reducible refine Mdh.gr ?_ (by assumption))))), ?_⟩
    refine flo_seg 1 rfl ?_
    simp only [List.take_succ_cons, List.take_zero, List.drop_succ_cons, List.drop_zero]
    repeat (go_big_quiet_step (fail))
    refine wpQuiet_nil ?_
    refine flo_nil ?_
    obtain ⟨W4, hW4⟩ : ∃ y, y = ((((((wf1.setCell ⟨fb1, 0, none⟩ (.int .i64 hd.seq)).setCell ⟨fb1, 1, none⟩ (.string hd.key)).setCell ⟨fb1, 2, none⟩ (.bool hd.del)).setCell ⟨fb1, 3, none⟩ (.int .i64 hd.slot)).setCell ⟨fb1, 4, none⟩ (.int .i64 hd.off)).setCell ⟨fb1, 5, none⟩ (.int .i64 hd.size)) := ⟨_, rfl⟩
    have H4 : Hid (SW w (blkA fb1 (boxF hd) :: blkA b8 (boxF e) :: [blkA (b3 + 1 + 1 + 1 + 1) (.cells #[.string κ] 9), blkA (b3 + 1 + 1) (.cells #[.bool false] 4), blkA (b3 + 1) (boxF zE), blkA b3 (boxP ⟨t0, t1, t2, dl, cp⟩)]) W4) := Lib.hid (by
      have h1 := H3.out.new (Gr.of_drew HG) (A := blkA fb1 (boxF ⟨0, ⟨#[]⟩, false, 0, 0, 0⟩)) fo1 (fun k hk => by rw [show k = fb1 from hk]; exact fl1)
      rw [hW4]
      exact h1.step (B := blkA fb1 (boxF hd)) (T := fun k => k = fb1) ((((((((Mdh.refl (fun k => k = fb1) wf1).setCell (p := ⟨fb1, 0, none⟩) rfl _).setCell (p := ⟨fb1, 1, none⟩) rfl _).setCell (p := ⟨fb1, 2, none⟩) rfl _).setCell (p := ⟨fb1, 3, none⟩) rfl _).setCell (p := ⟨fb1, 4, none⟩) rfl _).setCell (p := ⟨fb1, 5, none⟩) rfl _)) (fun k hk => .inl hk) (blk6 fo1) (fun k hk => .inl hk))
    rw [← hW4]
    clear hW4 fl1 fh1 ft1 fo1 fc1 ff1 HG hgf1 dK lK dB0 lB H3 HG5 HNV hgg1
    generalize fb1 = b9 at *
    have HCP : Hid (isCp ⟨X, all, us, nx⟩ ⟨t0, t1, t2, dl, cp⟩ = (cp && ie)) := Lib.hid (by
      unfold isCp
      simp only
      rw [← HSG.out.2.2, ← HHD.out.2])
    have dP := (cellsOf (show W4.heap[b3]? = _ from H4.out.get (i := 5) rfl)).1
    go_upto_region 7 with fail
    by_cases hcp : (cp && ie) = true
    · have hcp1 : cp = true := by cases cp <;> simp_all
      have hcp2 : ie = true := by cases ie <;> simp_all
      subst hcp1 hcp2
      have HCT : Hid (isCp ⟨X, all, us, nx⟩ ⟨t0, t1, t2, dl, true⟩ = true) := Lib.hid HCP.out
      have K8 := Lib.hid (show W4.heap[b8]? = _ from H4.out.get (i := 1) rfl)
      obtain ⟨_, f8⟩ := cellsOf K8.out
      have l8 := blkLt K8.out
      have d9 := (cellsOf (show W4.heap[b9]? = _ from H4.out.get (i := 0) rfl)).1
      have l9 := blkLt (show W4.heap[b9]? = _ from H4.out.get (i := 0) rfl)
      have hne : ¬ b9 = b8 := fun h => (H4.out.get_ne (i := 0) (j := 1) rfl rfl (by decide)) b9 rfl h
      go_wp2_with fail
      have HG := Gr.refl W4.drew
      refine wp_region_flo (fun k => k = b8) [] [] (by kernel_rfl) (by kernel_rfl) (fun k hk => by subst hk; exact l8) ?_
      refine flo_seg 7 rfl ?_
      simp only [List.take_succ_cons, List.take_zero, List.drop_succ_cons, List.drop_zero]
      repeat (go_big_quiet_step (fail))
      refine wpQuiet_nil ?_
      refine flo_eff rfl rfl rfl rfl (fun K hK => ?_)
      go_wp2
      refine ⟨by (first | (refine Gr.mdh ?_ _; (repeat (first | (with_reducible exact Gr.refl _) | assumption | (with_reducible apply Gr.from_drew) | (with_reducible apply Gr.alloc) | (with_reducible apply Gr.drew) | (with_reducible refine Gr.trans ?_ (by assumption)) | (with_reducible refine Gr.setCell ?_ (by omega) _))); done) | (repeat (first | (with_reducible exact Mdh.refl _ _) | (with_reducible refine Mdh.setCell ?_ (by simp) _) | (with_reducible refine Mdh.setNew ?_ (by simp) _) | (with_reducible apply Mdh.alloc) | (with_reducible apply Mdh.from_drew) | (with_reducible apply Mdh.drew) | (with_reducible refine Mdh.gr ?_ (by assumption))))), ?_⟩
      refine flo_seg 1 rfl ?_
      simp only [List.take_succ_cons, List.take_zero, List.drop_succ_cons, List.drop_zero]
      repeat (go_big_quiet_step (fail))
      refine wpQuiet_nil ?_
      refine flo_eff rfl rfl rfl rfl (fun K hK => ?_)
      go_wp2
      refine ⟨by (first | (refine Gr.mdh ?_ _; (repeat (first | (with_reducible exact Gr.refl _) | assumption | (with_reducible apply Gr.from_drew) | (with_reducible apply Gr.alloc) | (with_reducible apply Gr.drew) | (with_reducible refine Gr.trans ?_ (by assumption)) | (with_reducible refine Gr.setCell ?_ (by omega) _))); done) | (repeat (first | (with_reducible exact Mdh.refl _ _) | (with_reducible refine Mdh.setCell ?_ (by simp) _) | (with_reducible refine Mdh.setNew ?_ (by simp) _) | (with_reducible apply Mdh.alloc) | (with_reducible apply Mdh.from_drew) | (with_reducible apply Mdh.drew) | (with_reducible refine Mdh.gr ?_ (by assumption))))), ?_⟩
      refine flo_seg 1 rfl ?_
      simp only [List.take_succ_cons, List.take_zero, List.drop_succ_cons, List.drop_zero]
      repeat (go_big_quiet_step (fail))
      refine wpQuiet_nil ?_
      refine flo_eff rfl rfl rfl rfl (fun K hK => ?_)
      go_wp2
      refine ⟨by (first | (refine Gr.mdh ?_ _; (repeat (first | (with_reducible exact Gr.refl _) | assumption | (with_reducible apply Gr.from_drew) | (with_reducible apply Gr.alloc) | (with_reducible apply Gr.drew) | (with_reducible refine Gr.trans ?_ (by assumption)) | (with_reducible refine Gr.setCell ?_ (by omega) _))); done) | (repeat (first | (with_reducible exact Mdh.refl _ _) | (with_reducible refine Mdh.setCell ?_ (by simp) _) | (with_reducible refine Mdh.setNew ?_ (by simp) _) | (with_reducible apply Mdh.alloc) | (with_reducible apply Mdh.from_drew) | (with_reducible apply Mdh.drew) | (with_reducible refine Mdh.gr ?_ (by assumption))))), ?_⟩
      refine flo_nil ?_
      obtain ⟨W5, hW5⟩ : ∃ y, y = (((W4.setCell ⟨b8, 0, none⟩ (.int .i64 hd.seq)).setCell ⟨b8, 2, none⟩ (.bool hd.del)).setCell ⟨b8, 5, none⟩ (.int .i64 hd.size)).drew := ⟨_, rfl⟩
      obtain ⟨c, hc⟩ : ∃ c, c = copyP ⟨X, all, us, nx⟩ ⟨t0, t1, t2, dl, true⟩ := ⟨_, rfl⟩
      have HCE : Hid (c = ⟨hd.seq, κ, hd.del, σ, us σ, hd.size⟩) := Lib.hid (by
        rw [hc]
        unfold copyP
        rw [← HE.out, HEE.out]
        unfold headP
        simp only
        rw [← HSG.out.2.2, ← HHD.out.1])
      have HCC := Lib.hid hc
      have HHS : Hid (hasP ⟨X, all, us, nx⟩ ⟨t0, t1, t2, dl, true⟩ = (X.slot (σ : Int)).any (mtP hd κ)) := Lib.hid (by
        unfold hasP headP mtP
        simp only
        rw [HSG.out.1, ← HSG.out.2.2, ← HHD.out.1])
      have H5 : Hid (SW w (blkA b9 (boxF hd) :: blkA b8 (boxF c) :: [blkA (b3 + 1 + 1 + 1 + 1) (.cells #[.string κ] 9), blkA (b3 + 1 + 1) (.cells #[.bool false] 4), blkA (b3 + 1) (boxF zE), blkA b3 (boxP ⟨t0, t1, t2, dl, true⟩)]) W5) := Lib.hid (by
        have hb : ((((W4.setCell ⟨b8, 0, none⟩ (.int .i64 hd.seq)).setCell ⟨b8, 2, none⟩ (.bool hd.del)).setCell ⟨b8, 5, none⟩ (.int .i64 hd.size))).heap[b8]? = some (boxF c) := by
          have h1 := blkSet (j := 5) (u := .int .i64 hd.size) (blkSet (j := 2) (u := .bool hd.del) (blkSet (j := 0) (u := .int .i64 hd.seq) K8.out))
          rw [HEE.out] at h1
          rw [HCE.out]
          exact h1
        have h1 := H4.out.at (i := 1) rfl ((((Mdh.refl (fun k => k = b8) W4).setCell (p := ⟨b8, 0, none⟩) rfl (.int .i64 hd.seq)).setCell (p := ⟨b8, 2, none⟩) rfl (.bool hd.del)).setCell (p := ⟨b8, 5, none⟩) rfl (.int .i64 hd.size)) (fun k hk => .inl hk) (B := blkA b8 (boxF c)) hb (fun k hk => .inl hk)
        rw [hW5]
        exact h1.gr (Gr.refl _).drew)
      rw [← hW5]
      clear hW5 hc f8 l8 d9 l9 hne HG K8 dP H4
      have dB0 : W5.cell? ⟨bb, 0, none⟩ = some (.pointer (some ⟨b, 0, none⟩)) := (cellsOf (show W5.heap[bb]? = _ from (H.out.gr H5.out.g).get (i := 1) rfl)).1 0
      go_wp2_with fail
      refine (Slot_any _ _ _).mono ?_
      rintro e' W6 ⟨bb2, bk2, rfl, k1, k2, l1, l2, hg⟩
      have H6 := Lib.hid (H5.out.gr hg)
      have HI6 := Lib.hid (show IXP W6 (some ⟨b, 0, none⟩) X S from .inl ⟨b, rfl, (H.out.gr H6.out.g).ix⟩)
      have hAL : ∀ k, (fun q => q = bb2 ∨ q = bk2 ∨ S q) k → k < W6.heap.size := by
        rintro k (rfl | rfl | h)
        · exact World.block_lt_of_cell? W6 _ k1
        · exact World.block_lt_of_cell? W6 _ k2
        · exact HI6.out.lt k h
      have hAR : ∀ B ∈ (blkA b9 (boxF hd) :: blkA b8 (boxF c) :: [blkA (b3 + 1 + 1 + 1 + 1) (.cells #[.string κ] 9), blkA (b3 + 1 + 1) (.cells #[.bool false] 4), blkA (b3 + 1) (boxF zE), blkA b3 (boxP ⟨t0, t1, t2, dl, true⟩)]), ∀ k, B.S k → ¬ (fun q => q = bb2 ∨ q = bk2 ∨ S q) k := by
        intro B hB k hk ha
        have h1 := H5.out.n B hB k hk
        have h2 := H5.out.s.lt hB k hk
        rcases ha with ha | ha | ha
        · omega
        · omega
        · have := H.out.ix.lt k ha; omega
      obtain ⟨A, HSEQ, HA, HAR⟩ : ∃ A : Nat → Prop, Hid (SeqZ Fence.wide 2 Try.prog 100 #[.pointer (some ⟨bb2, 0, none⟩), .pointer (some ⟨bk2, 0, none⟩)] encE A (fun xs => xs = X.slot (σ : Int)) (fun pre => pre <+: X.slot (σ : Int)) W6) ∧ Hid (∀ k, A k → k < W6.heap.size) ∧ Hid (∀ B ∈ (blkA b9 (boxF hd) :: blkA b8 (boxF c) :: [blkA (b3 + 1 + 1 + 1 + 1) (.cells #[.string κ] 9), blkA (b3 + 1 + 1) (.cells #[.bool false] 4), blkA (b3 + 1) (boxF zE), blkA b3 (boxP ⟨t0, t1, t2, dl, true⟩)]), ∀ k, B.S k → ¬ A k) :=
        ⟨_, Lib.hid (SeqSlotP HI6.out (σ : Int) bb2 bk2 k1 k2), Lib.hid hAL, Lib.hid hAR⟩
      clear hAL hAR k1 k2 l1 l2 hg dB0
      have HZ : Hid (SWz w W6 A (blkA b9 (boxF hd) :: blkA b8 (boxF c) :: [blkA (b3 + 1 + 1 + 1 + 1) (.cells #[.string κ] 9), blkA (b3 + 1 + 1) (.cells #[.bool false] 4), blkA (b3 + 1) (boxF zE), blkA b3 (boxP ⟨t0, t1, t2, dl, true⟩)]) (fun _ => False) W6) := Lib.hid (SWz.start H6.out HAR.out)
      go_wp2_with fail
      apply wp_rangeFunc_zx (gf := 100) (lb := #[.pointer (some ⟨bb2, 0, none⟩), .pointer (some ⟨bk2, 0, none⟩)]) rfl (enters_of Try.func100 (by kernel_rfl) rfl) HSEQ.out ((Gr.refl _).mdh _) HA.out (fun _ => rfl)
        (fun Z pre X' => pre.any (mtP hd κ) = false ∧ SWz w W6 A (blkA b9 (boxF hd) :: blkA b8 (boxF c) :: [blkA (b3 + 1 + 1 + 1 + 1) (.cells #[.string κ] 9), blkA (b3 + 1 + 1) (.cells #[.bool false] 4), blkA (b3 + 1) (boxF zE), blkA b3 (boxP ⟨t0, t1, t2, dl, true⟩)]) Z X')
        (fun _ _ _ => False)
        (fun Z pre X' => pre.any (mtP hd κ) = true ∧ SWz w W6 A (blkA b9 (boxF hd) :: blkA b8 (boxF c) :: [blkA (b3 + 1 + 1 + 1 + 1) (.cells #[.string κ] 9), blkA (b3 + 1 + 1) (.cells #[.bool true] 4), blkA (b3 + 1) (boxF zE), blkA b3 (boxP ⟨t0, t1, t2, dl, true⟩)]) Z X')
        ((Apart.pure (fun pre : List En => pre.any (mtP hd κ) = false)).and (SWz.apart H6.out.g.sz (fun _ : List En => (blkA b9 (boxF hd) :: blkA b8 (boxF c) :: [blkA (b3 + 1 + 1 + 1 + 1) (.cells #[.string κ] 9), blkA (b3 + 1 + 1) (.cells #[.bool false] 4), blkA (b3 + 1) (boxF zE), blkA b3 (boxP ⟨t0, t1, t2, dl, true⟩)]))))
        apart_no
        ((Apart.pure (fun pre : List En => pre.any (mtP hd κ) = true)).and (SWz.apart H6.out.g.sz (fun _ : List En => (blkA b9 (boxF hd) :: blkA b8 (boxF c) :: [blkA (b3 + 1 + 1 + 1 + 1) (.cells #[.string κ] 9), blkA (b3 + 1 + 1) (.cells #[.bool true] 4), blkA (b3 + 1) (boxF zE), blkA b3 (boxP ⟨t0, t1, t2, dl, true⟩)]))))
        ⟨rfl, HZ.out⟩ (fun Z pre X' ⟨_, h⟩ => h.frm H6.out.g) (fun x => .cells #[.int .i64 x.seq, .string x.key, .bool x.del, .int .i64 x.slot, .int .i64 x.off, .int .i64 x.size] 43)
        _ ?assign ?body ?hend ?hret
      case assign =>
        intro l x bx X' K hbx hK
        dsimp only [encE, enV]
        gi_wp2
        rw [← hbx]
        exact hK
      case body =>
        intro l Z pre x bx' X' hI hbx hx hzx hzl hlr hsp
        obtain ⟨hm, hI⟩ := hI
        have HIZ := Lib.hid hI
        have HX' := Lib.hid hx
        have dx := (cellsOf HX'.out).1
        have lx := blkLt HX'.out
        have d9 := (cellsOf (show X'.heap[b9]? = _ from hI.s.get (i := 0) rfl)).1
        have dK := (cellsOf (show X'.heap[b3 + 1 + 1 + 1 + 1]? = _ from hI.s.get (i := 2) rfl)).1
        have K4 := Lib.hid (show X'.heap[b3 + 1]? = _ from hI.s.get (i := 4) rfl)
        have K5 := Lib.hid (show X'.heap[b3 + 1 + 1]? = _ from hI.s.get (i := 3) rfl)
        obtain ⟨_, f4⟩ := cellsOf K4.out
        obtain ⟨_, f5⟩ := cellsOf K5.out
        have l4 := blkLt K4.out
        have l5 := blkLt K5.out
        have HM := Lib.hid hm
        clear hI hbx hx hzx hzl hlr hsp hm
        by_cases h1 : x.seq = hd.seq
        · have h1' : (x.seq == hd.seq) = true := beq_iff_eq.2 h1
          by_cases h2 : x.key = κ
          · have h2' : (x.key.toList == κ.toList) = true := by rw [str_beq]; exact decide_eq_true h2
            have HMT : Hid (mtP hd κ x = true) := Lib.hid (by unfold mtP; rw [decide_eq_true h1, decide_eq_true h2]; rfl)
            clear h1 h2
            gi_wp2_with fail
            have z2 := HIZ.out.step (i := 4) (B' := blkA (b3 + 1) (boxF zE)) rfl HA.out ((((((((Mdh.refl (fun k => k = b3 + 1) X').setCell (p := ⟨b3 + 1, 0, none⟩) rfl (.int .i64 0)).setCell (p := ⟨b3 + 1, 1, none⟩) rfl (.string ⟨#[]⟩)).setCell (p := ⟨b3 + 1, 2, none⟩) rfl (.bool false)).setCell (p := ⟨b3 + 1, 3, none⟩) rfl (.int .i64 0)).setCell (p := ⟨b3 + 1, 4, none⟩) rfl (.int .i64 0)).setCell (p := ⟨b3 + 1, 5, none⟩) rfl (.int .i64 0))) (fun k hk => .inl hk) (blk6 K4.out) (fun k hk => .inl hk)
            have z3 := z2.1.step (i := 3) (B' := blkA (b3 + 1 + 1) (.cells #[.bool true] 4)) rfl HA.out ((Mdh.refl (fun k => k = b3 + 1 + 1) _).setCell (p := ⟨b3 + 1 + 1, 0, none⟩) rfl (.bool true)) (fun k hk => .inl hk) (blkSet (j := 0) (u := .bool true) (z2.1.s.get (i := 3) rfl)) (fun k hk => .inl hk)
            exact ⟨(z2.2.trans z3.2).mono (fun k h => h.2), by rw [List.any_append]; simp [HMT.out], z3.1⟩
          · have h2' : (x.key.toList == κ.toList) = false := by rw [str_beq]; exact decide_eq_false h2
            have HMT : Hid (mtP hd κ x = false) := Lib.hid (by unfold mtP; rw [decide_eq_false h2, Bool.and_false])
            clear h1 h2
            gi_wp2_with fail
            exact ⟨Mdh.refl _ _, by rw [List.any_append, HM.out]; simp [HMT.out], HIZ.out⟩
        · have h1' : (x.seq == hd.seq) = false := beq_false_of_ne h1
          have HMT : Hid (mtP hd κ x = false) := Lib.hid (by unfold mtP; rw [decide_eq_false h1, Bool.false_and])
          clear h1
          gi_wp2_with fail
          exact ⟨Mdh.refl _ _, by rw [List.any_append, HM.out]; simp [HMT.out], HIZ.out⟩
      case hret =>
        intro Z D pre W hD hZD hsp hI hdef
        obtain ⟨hm, hI⟩ := hI
        have HHP : Hid (hasP ⟨X, all, us, nx⟩ ⟨t0, t1, t2, dl, true⟩ = true) := Lib.hid (by
          rw [HHS.out]
          obtain ⟨t, ht⟩ := hsp
          rw [← show pre ++ t = X.slot (σ : Int) from ht, List.any_append, hm]; rfl)
        have HR : Hid (retP ⟨X, all, us, nx⟩ ⟨t0, t1, t2, dl, true⟩ = zE ∧ stepP ⟨X, all, us, nx⟩ ⟨t0, t1, t2, dl, true⟩ = ⟨X, all, us, nx⟩) := Lib.hid (by
          constructor
          · unfold retP; rw [if_pos HCT.out, if_pos HHP.out]
          · unfold stepP; rw [if_pos HCT.out, if_pos HHP.out])
        have hb6 : W.heap[b3 + 1]? = _ := hI.s.get (i := 4) rfl
        have hb7 : W.heap[b3 + 1 + 1]? = _ := hI.s.get (i := 3) rfl
        have n6 : D ≠ b3 + 1 := fun e => hI.z (blkA (b3 + 1) (boxF zE)) (by simp) (b3 + 1) rfl (e ▸ hZD)
        have n7 : D ≠ b3 + 1 + 1 := fun e => hI.z (blkA (b3 + 1 + 1) (.cells #[.bool true] 4)) (by simp) (b3 + 1 + 1) rfl (e ▸ hZD)
        have h6' := (World.putObj_heap_other (o := .deferred none) n6.symm).trans hb6
        have h7' := (World.putObj_heap_other (o := .deferred none) n7.symm).trans hb7
        obtain ⟨e6, _⟩ := cellsOf h6'
        obtain ⟨e7, _⟩ := cellsOf h7'
        simp only [zE] at e6
        dsimp only
        go_wp2_with fail
        refine retM1 (D := D) (v := .tuple #[enV zE, .bool true]) rfl hdef ?_ ⟨by rw [HR.out.1], S, ?_⟩
        · simp [results, Try.results20, go_sem, e6, e7, enV, zE]
        · rw [HR.out.2]
          exact H.out.gr (hI.s.g.putObj (Nat.le_trans H6.out.g.sz hD) _)
      case hend =>
        intro Z D xs W hD hZD hcase hdef
        obtain ⟨hx, hm, hZ⟩ : xs = X.slot (σ : Int) ∧ xs.any (mtP hd κ) = false ∧ SWz w W6 A (blkA b9 (boxF hd) :: blkA b8 (boxF c) :: [blkA (b3 + 1 + 1 + 1 + 1) (.cells #[.string κ] 9), blkA (b3 + 1 + 1) (.cells #[.bool false] 4), blkA (b3 + 1) (boxF zE), blkA b3 (boxP ⟨t0, t1, t2, dl, true⟩)]) Z W := by
          rcases hcase with ⟨h1, h2, h3⟩ | ⟨_, h⟩
          · exact ⟨h1, h2, h3⟩
          · exact h.elim
        subst hx
        have HHP : Hid (hasP ⟨X, all, us, nx⟩ ⟨t0, t1, t2, dl, true⟩ = false) := Lib.hid (by rw [HHS.out]; exact hm)
        have HD := Lib.hid (And.intro hD (And.intro hZD hdef))
        have HL := Lib.hid (LocN.of hZ.s)
        have HZW := Lib.hid hZ
        have HXX : Hid (SW w0 (ixA b X S :: blkA bb (blO b us nx) :: R) W) := Lib.hid (H.out.gr hZ.s.g)
        have HCO := copyP_ok HST.out hj HCT.out HHP.out
        rw [← HCC.out] at HCO
        have HQ : Hid (addE X c = 0 ∧ Low c.key ∧ En64 c ∧ c.slot = σ ∧ c.off = us σ ∧ 0 ≤ c.size ∧ c.size ≤ 8192) := Lib.hid (by
          have hm := headP_mem HST.out HCT.out
          have hv := HST.out.g.val hm.1
          have hh : headP ⟨X, all, us, nx⟩ ⟨t0, t1, t2, dl, true⟩ = hd := by
            unfold headP
            rw [HHD.out.1, HSG.out.2.2]
          rw [hh] at hv
          refine ⟨HCO.1, ?_, ⟨?_, ?_, ?_⟩, ?_, ?_, ?_, ?_⟩ <;> rw [HCE.out]
          · rw [HSG.out.2.2]; exact (ptKey_ok t0).2.2.2
          · show hd.size ≤ 9223372036854775807; omega
          · show -9223372036854775808 ≤ hd.size; omega
          · show κ.size ≤ 140737488351232; omega
          · show 0 ≤ hd.size; omega
          · show hd.size ≤ 8192; omega)
        have HR : Hid (retP ⟨X, all, us, nx⟩ ⟨t0, t1, t2, dl, true⟩ = c ∧ stepP ⟨X, all, us, nx⟩ ⟨t0, t1, t2, dl, true⟩ = pushP ⟨X, all, us, nx⟩ c nx) := Lib.hid (by
          constructor
          · unfold retP; rw [if_pos HCT.out, if_neg (by rw [HHP.out]; decide), ← HCC.out]
          · unfold stepP; rw [if_pos HCT.out, if_neg (by rw [HHP.out]; decide), ← HCC.out])
        clear hcase hm hZ hD hZD hdef HCO
        dsimp only
        go_wp2_with fail
        have dB0 : W.cell? ⟨bb, 0, none⟩ = some (.pointer (some ⟨b, 0, none⟩)) := (cellsOf (show W.heap[bb]? = _ from HXX.out.get (i := 1) rfl)).1 0
        have lB := blkLt (show W.heap[bb]? = _ from HXX.out.get (i := 1) rfl)
        have d8 := (cellsOf (show W.heap[b8]? = _ from HL.out.get (i := 1) rfl)).1
        have l8 := blkLt (show W.heap[b8]? = _ from HL.out.get (i := 1) rfl)
        have HSW : Hid (∀ k, S k → k < w.heap.size) := Lib.hid H.out.ix.lt
        have hSb : ¬ S bb := fun hh => (HXX.out.get_ne (i := 0) (j := 1) rfl rfl (by decide)) bb hh rfl
        have hS8 : ¬ S b8 := fun hh => by have h1 := HSW.out b8 hh; have h2 := HL.out.n (blkA b8 (boxF c)) (by simp) b8 rfl; omega
        have HSL : Hid (∀ k, S k → k < W.heap.size) := Lib.hid (fun k hk => by have h1 := HSW.out k hk; have h2 := HL.out.z; omega)
        have HAD : Hid (Calls Try.prog 56 #[.pointer (some ⟨b, 0, none⟩), .agg #[.int .i64 c.seq, .string c.key, .bool c.del, .int .i64 c.slot, .int .i64 c.off, .int .i64 c.size]] W.drew fun e' w' => e' = .returned (.int .i64 0) ∧ IXPost b (addX X c) S W.drew w') := Lib.hid (by
          have h1 := Add_any (HXX.out.gr (Gr.refl _).drew).ix c HQ.out.2.1 HQ.out.2.2.1
          rw [HQ.out.1] at h1
          exact h1)
        have HG := Gr.refl W.drew
        refine wp_region_flo (S) [] [] (by kernel_rfl) (by kernel_rfl) (HSL.out) ?_
        refine flo_seg 5 rfl ?_
        simp only [List.take_succ_cons, List.take_zero, List.drop_succ_cons, List.drop_zero]
        repeat (go_big_quiet_step (fail))
        refine wpQuiet_nil ?_
        refine flo_eff rfl rfl rfl rfl (fun K hK => ?_)
        go_wp2_with ((go_at_call 56; refine Calls.mono HAD.out ?_; rintro e' w8 ⟨rfl, S8, hI8, hm8, hn8⟩; have HI8 := Lib.hid hI8; have HM8 := Lib.hid hm8; have HN8 := Lib.hid hn8; clear hI8 hm8 hn8))
        refine ⟨by exact HM8.out.mono (fun k hk => .inl hk), ?_⟩
        refine flo_seg 1 rfl ?_
        simp only [List.take_succ_cons, List.take_zero, List.drop_succ_cons, List.drop_zero]
        repeat (go_big_quiet_step (fail))
        refine wpQuiet_nil ?_
        refine flo_nil ?_
        have HXX8 : Hid (SW w0 (ixA b (addX X c) S8 :: blkA bb (blO b us nx) :: R) w8) := Lib.hid ((HXX.out.gr (Gr.refl _).drew).step HM8.out (fun k hk => .inl hk) HI8.out HN8.out)
        have HL8 : Hid (Sep (blkA b9 (boxF hd) :: blkA b8 (boxF c) :: [blkA (b3 + 1 + 1 + 1 + 1) (.cells #[.string κ] 9), blkA (b3 + 1 + 1) (.cells #[.bool false] 4), blkA (b3 + 1) (boxF zE), blkA b3 (boxP ⟨t0, t1, t2, dl, true⟩)]) w8) := Lib.hid ((HL.out.gr (Gr.refl _).drew).s.mdh HM8.out (fun B hB k hk hs => by have h1 := HSW.out k hs; have h2 := HL.out.n B hB k hk; omega))
        have HLN : Hid (∀ B ∈ (blkA b9 (boxF hd) :: blkA b8 (boxF c) :: [blkA (b3 + 1 + 1 + 1 + 1) (.cells #[.string κ] 9), blkA (b3 + 1 + 1) (.cells #[.bool false] 4), blkA (b3 + 1) (boxF zE), blkA b3 (boxP ⟨t0, t1, t2, dl, true⟩)]), ∀ k, B.S k → w.heap.size ≤ k ∧ k < W.heap.size) := Lib.hid (fun B hB k hk => ⟨HL.out.n B hB k hk, HL.out.s.lt hB k hk⟩)
        clear dB0 lB d8 l8 hSb hS8 HSL HAD HG HI8 HXX
        have KB := Lib.hid (show w8.heap[bb]? = _ from HXX8.out.get (i := 1) rfl)
        obtain ⟨_, fB⟩ := cellsOf KB.out
        have dU := ((cellsOf KB.out).1 (1 + σ)).trans (bl_get b us nx σ hσ6)
        have lB := blkLt KB.out
        have d8 := (cellsOf (show w8.heap[b8]? = _ from HL8.out.get (A := blkA b8 (boxF c)) (by simp))).1
        have l8 := blkLt (show w8.heap[b8]? = _ from HL8.out.get (A := blkA b8 (boxF c)) (by simp))
        have hne8 : ¬ b8 = bb := fun hh => by
          have h1 := (HLN.out (blkA b8 (boxF c)) (by simp) b8 rfl).1
          have h2 := blkLt (show w.heap[bb]? = _ from H.out.get (i := 1) rfl)
          omega
        obtain ⟨bq1, bq2⟩ := HQ.out.2.2.2.2.2
        go_wp2_with fail
        have HG := Gr.refl w8.drew
        refine wp_region_flo (fun k => k = bb) [] [113] (by kernel_rfl) (by kernel_rfl) (fun k hk => by subst hk; exact lB) ?_
        refine flo_seg 5 rfl ?_
        simp only [List.take_succ_cons, List.take_zero, List.drop_succ_cons, List.drop_zero]
        repeat (go_big_quiet_step (fail))
        refine wpQuiet_nil ?_
        refine flo_eff rfl rfl rfl rfl (fun K hK => ?_)
        have dU2 := (Gr.refl w8).drew.keep dU
        go_wp2
        refine ⟨by (first | (refine Gr.mdh ?_ _; (repeat (first | (with_reducible exact Gr.refl _) | assumption | (with_reducible apply Gr.from_drew) | (with_reducible apply Gr.alloc) | (with_reducible apply Gr.drew) | (with_reducible refine Gr.trans ?_ (by assumption)) | (with_reducible refine Gr.setCell ?_ (by omega) _))); done) | (repeat (first | (with_reducible exact Mdh.refl _ _) | (with_reducible refine Mdh.setCell ?_ (by simp) _) | (with_reducible refine Mdh.setNew ?_ (by simp) _) | (with_reducible apply Mdh.alloc) | (with_reducible apply Mdh.from_drew) | (with_reducible apply Mdh.drew) | (with_reducible refine Mdh.gr ?_ (by assumption))))), ?_⟩
        refine flo_seg 6 rfl ?_
        simp only [List.take_succ_cons, List.take_zero, List.drop_succ_cons, List.drop_zero]
        repeat (go_big_quiet_step (fail))
        refine wpQuiet_nil ?_
        refine flo_eff rfl rfl rfl rfl (fun K hK => ?_)
        go_wp2
        refine ⟨by (first | (refine Gr.mdh ?_ _; (repeat (first | (with_reducible exact Gr.refl _) | assumption | (with_reducible apply Gr.from_drew) | (with_reducible apply Gr.alloc) | (with_reducible apply Gr.drew) | (with_reducible refine Gr.trans ?_ (by assumption)) | (with_reducible refine Gr.setCell ?_ (by omega) _))); done) | (repeat (first | (with_reducible exact Mdh.refl _ _) | (with_reducible refine Mdh.setCell ?_ (by simp) _) | (with_reducible refine Mdh.setNew ?_ (by simp) _) | (with_reducible apply Mdh.alloc) | (with_reducible apply Mdh.from_drew) | (with_reducible apply Mdh.drew) | (with_reducible refine Mdh.gr ?_ (by assumption))))), ?_⟩
        refine flo_nil ?_
        obtain ⟨w9, hw9⟩ : ∃ y, y = (w8.setCell ⟨bb, 1 + σ, none⟩ (.int .i64 (us σ + c.size))).drew := ⟨_, rfl⟩
        have HXX9 : Hid (SW w0 (ixA b (addX X c) S8 :: blkA bb (blO b (upd us σ (us σ + c.size)) nx) :: R) w9) := Lib.hid (by
          rw [hw9]
          have hb : (w8.setCell ⟨bb, 1 + σ, none⟩ (.int .i64 (us σ + c.size))).heap[bb]? = some (blO b (upd us σ (us σ + c.size)) nx) := by
            have h1 := blkSet (j := 1 + σ) (u := .int .i64 (us σ + c.size)) KB.out
            rw [bl_set b us nx σ hσ6] at h1
            exact h1
          exact (HXX8.out.at (i := 1) rfl ((Mdh.refl (fun k => k = bb) w8).setCell (p := ⟨bb, 1 + σ, none⟩) rfl (.int .i64 (us σ + c.size))) (fun k hk => .inl hk) (B := blkA bb (blO b (upd us σ (us σ + c.size)) nx)) hb (fun k hk => .inl hk)).gr (Gr.refl _).drew)
        have HL9 : Hid (Sep (blkA b9 (boxF hd) :: blkA b8 (boxF c) :: [blkA (b3 + 1 + 1 + 1 + 1) (.cells #[.string κ] 9), blkA (b3 + 1 + 1) (.cells #[.bool false] 4), blkA (b3 + 1) (boxF zE), blkA b3 (boxP ⟨t0, t1, t2, dl, true⟩)]) w9) := Lib.hid (by
          rw [hw9]
          refine (HL8.out.mdh ((Mdh.refl (fun k => k = bb) w8).setCell (p := ⟨bb, 1 + σ, none⟩) rfl (.int .i64 (us σ + c.size))) (fun B hB k hk hs => ?_)).gr (Gr.refl _).drew
          have h1 := (HLN.out B hB k hk).1
          have h2 := blkLt (show w.heap[bb]? = _ from H.out.get (i := 1) rfl)
          have h3 : k = bb := hs
          omega)
        rw [← hw9]
        have hdef9 : w9.heap[D]? = some (.deferred (some [])) := by
          have q6 := HD.out.1
          have q7 := H6.out.g.sz
          have q8 := blkLt (show w.heap[bb]? = _ from H.out.get (i := 1) rfl)
          have h1 := HM8.out.blk ((Gr.refl W).drew.blk HD.out.2.2) (fun hh => by have := HSW.out D hh; omega)
          rw [hw9]
          exact (Gr.refl _).drew.blk (blkSetO h1 (by show D ≠ bb; omega))
        clear hw9 KB fB dU lB d8 l8 hne8 HG HXX8 HL8 bq1 bq2
        have d8 := (cellsOf (show w9.heap[b8]? = _ from HL9.out.get (A := blkA b8 (boxF c)) (by simp))).1
        have K4 := Lib.hid (show w9.heap[b3 + 1]? = _ from HL9.out.get (A := blkA (b3 + 1) (boxF zE)) (by simp))
        have K5 := Lib.hid (show w9.heap[b3 + 1 + 1]? = _ from HL9.out.get (A := blkA (b3 + 1 + 1) (.cells #[.bool false] 4)) (by simp))
        have n84 : ¬ b8 = b3 + 1 := fun hh => by
          have h1 := (List.pairwise_iff_getElem.1 HL9.out.2) 1 4 (by simp) (by simp) (by decide)
          exact h1 b8 rfl hh
        obtain ⟨_, f4⟩ := cellsOf K4.out
        obtain ⟨_, f5⟩ := cellsOf K5.out
        have l4 := blkLt K4.out
        have l5 := blkLt K5.out
        have HFIN : Hid (SW w0 (ixA b (stepP ⟨X, all, us, nx⟩ ⟨t0, t1, t2, dl, true⟩).X S8 :: blkA bb (blO b (stepP ⟨X, all, us, nx⟩ ⟨t0, t1, t2, dl, true⟩).us (stepP ⟨X, all, us, nx⟩ ⟨t0, t1, t2, dl, true⟩).nx) :: R) w9) := Lib.hid (by
          rw [HR.out.2]
          unfold pushP
          rw [HQ.out.2.2.2.1]
          exact HXX9.out)
        have HNT : Hid (∀ T : Nat → Prop, (∀ k, T k → w.heap.size ≤ k ∧ k < W.heap.size) → ∀ A ∈ (ixA b (stepP ⟨X, all, us, nx⟩ ⟨t0, t1, t2, dl, true⟩).X S8 :: blkA bb (blO b (stepP ⟨X, all, us, nx⟩ ⟨t0, t1, t2, dl, true⟩).us (stepP ⟨X, all, us, nx⟩ ⟨t0, t1, t2, dl, true⟩).nx) :: R), ∀ k, A.S k → ¬ T k) := Lib.hid (fun T hT A hA k hk ht => by
          obtain ⟨t1', t2'⟩ := hT k ht
          rcases List.mem_cons.1 hA with rfl | hA
          · rcases HN8.out k hk with h1 | h1
            · have := HSW.out k h1; omega
            · have : W.heap.size ≤ k := h1
              omega
          · rcases List.mem_cons.1 hA with rfl | hA
            · have h2 := blkLt (show w.heap[bb]? = _ from H.out.get (i := 1) rfl)
              have h3 : k = bb := hk
              omega
            · have := H.out.s.lt (List.mem_cons_of_mem _ (List.mem_cons_of_mem _ hA)) k hk
              omega)
        have HW4 : Hid (w.heap.size ≤ b3 + 1 ∧ b3 + 1 < W.heap.size ∧ w.heap.size ≤ b3 + 1 + 1 ∧ b3 + 1 + 1 < W.heap.size) := Lib.hid (by
          have h1 := HLN.out (blkA (b3 + 1) (boxF zE)) (by simp) (b3 + 1) rfl
          have h2 := HLN.out (blkA (b3 + 1 + 1) (.cells #[.bool false] 4)) (by simp) (b3 + 1 + 1) rfl
          exact ⟨h1.1, h1.2, h2.1, h2.2⟩)
        have HSZ : Hid (w0.heap.size ≤ w.heap.size) := Lib.hid H.out.g.sz
        clear HXX9 HL9
        go_wp2_with fail
        have hb6 : (((((((w9.setCell ⟨b3 + 1, 0, none⟩ (.int .i64 c.seq)).setCell ⟨b3 + 1, 1, none⟩ (.string c.key)).setCell ⟨b3 + 1, 2, none⟩ (.bool c.del)).setCell ⟨b3 + 1, 3, none⟩ (.int .i64 c.slot)).setCell ⟨b3 + 1, 4, none⟩ (.int .i64 c.off)).setCell ⟨b3 + 1, 5, none⟩ (.int .i64 c.size)).setCell ⟨b3 + 1 + 1, 0, none⟩ (.bool true)).heap[b3 + 1]? = some (boxF c) := blkSetO (blk6 K4.out) (by show b3 + 1 ≠ b3 + 1 + 1; omega)
        have hb7 : (((((((w9.setCell ⟨b3 + 1, 0, none⟩ (.int .i64 c.seq)).setCell ⟨b3 + 1, 1, none⟩ (.string c.key)).setCell ⟨b3 + 1, 2, none⟩ (.bool c.del)).setCell ⟨b3 + 1, 3, none⟩ (.int .i64 c.slot)).setCell ⟨b3 + 1, 4, none⟩ (.int .i64 c.off)).setCell ⟨b3 + 1, 5, none⟩ (.int .i64 c.size)).setCell ⟨b3 + 1 + 1, 0, none⟩ (.bool true)).heap[b3 + 1 + 1]? = some (.cells #[.bool true] 4) := blkSet (j := 0) (blkSetO (blkSetO (blkSetO (blkSetO (blkSetO (blkSetO K5.out (by show b3 + 1 + 1 ≠ b3 + 1; omega)) (by show b3 + 1 + 1 ≠ b3 + 1; omega)) (by show b3 + 1 + 1 ≠ b3 + 1; omega)) (by show b3 + 1 + 1 ≠ b3 + 1; omega)) (by show b3 + 1 + 1 ≠ b3 + 1; omega)) (by show b3 + 1 + 1 ≠ b3 + 1; omega))
        have n6 : D ≠ b3 + 1 := fun e => HZW.out.z (blkA (b3 + 1) (boxF zE)) (by simp) (b3 + 1) rfl (e ▸ HD.out.2.1)
        have n7 : D ≠ b3 + 1 + 1 := fun e => HZW.out.z (blkA (b3 + 1 + 1) (.cells #[.bool false] 4)) (by simp) (b3 + 1 + 1) rfl (e ▸ HD.out.2.1)
        have hdF : (((((((w9.setCell ⟨b3 + 1, 0, none⟩ (.int .i64 c.seq)).setCell ⟨b3 + 1, 1, none⟩ (.string c.key)).setCell ⟨b3 + 1, 2, none⟩ (.bool c.del)).setCell ⟨b3 + 1, 3, none⟩ (.int .i64 c.slot)).setCell ⟨b3 + 1, 4, none⟩ (.int .i64 c.off)).setCell ⟨b3 + 1, 5, none⟩ (.int .i64 c.size)).setCell ⟨b3 + 1 + 1, 0, none⟩ (.bool true)).heap[D]? = some (.deferred (some [])) := blkSetO (blkSetO (blkSetO (blkSetO (blkSetO (blkSetO (blkSetO hdef9 n6) n6) n6) n6) n6) n6) n7
        have h6' := (World.putObj_heap_other (o := .deferred none) n6.symm).trans hb6
        have h7' := (World.putObj_heap_other (o := .deferred none) n7.symm).trans hb7
        obtain ⟨e6, _⟩ := cellsOf h6'
        obtain ⟨e7, _⟩ := cellsOf h7'
        refine retM1 (D := D) (v := .tuple #[enV c, .bool true]) rfl hdF ?_ ⟨by rw [HR.out.1], S8, ?_⟩
        · simp [results, Try.results20, go_sem, e6, e7, enV]
        · obtain ⟨q1, q2, q3, q4⟩ := HW4.out
          have q5 := HSZ.out
          have q6 := HD.out.1
          have q7 := H6.out.g.sz
          have q8 := HZW.out.zl D HD.out.2.1
          refine SW.other HFIN.out ((((((((((Mdh.refl (fun k => k = b3 + 1 ∨ k = b3 + 1 + 1 ∨ k = D) w9).setCell (p := ⟨b3 + 1, 0, none⟩) (.inl rfl) (.int .i64 c.seq)).setCell (p := ⟨b3 + 1, 1, none⟩) (.inl rfl) (.string c.key)).setCell (p := ⟨b3 + 1, 2, none⟩) (.inl rfl) (.bool c.del)).setCell (p := ⟨b3 + 1, 3, none⟩) (.inl rfl) (.int .i64 c.slot)).setCell (p := ⟨b3 + 1, 4, none⟩) (.inl rfl) (.int .i64 c.off)).setCell (p := ⟨b3 + 1, 5, none⟩) (.inl rfl) (.int .i64 c.size)).setCell (p := ⟨b3 + 1 + 1, 0, none⟩) (.inr (.inl rfl)) (.bool true))).putObj (l := D) (.inr (.inr rfl)) (.deferred none)) (HNT.out _ (fun k hk => ?_)) (fun k hk => ?_)
          · rcases hk with rfl | rfl | rfl <;> omega
          · rcases hk with rfl | rfl | rfl <;> omega
    · have hcase2 : cp = false ∨ (cp = true ∧ ie = false) := by cases cp <;> cases ie <;> simp_all
      rcases hcase2 with rfl | ⟨rfl, rfl⟩
      · skip
        have HCF : Hid (isCp ⟨X, all, us, nx⟩ ⟨t0, t1, t2, dl, false⟩ = false) := Lib.hid (by rw [HCP.out]; rfl)
        have KB0 := Lib.hid (show W4.heap[bb]? = _ from (H.out.gr H4.out.g).get (i := 1) rfl)
        have dB7 : W4.cell? ⟨bb, 7, none⟩ = some (.int .i64 nx) := (cellsOf KB0.out).1 7
        obtain ⟨_, fB⟩ := cellsOf KB0.out
        have lB := blkLt KB0.out
        obtain ⟨WN, hWN⟩ : ∃ y, y = W4.setCell ⟨bb, 7, none⟩ (.int .i64 (nx + 1)) := ⟨_, rfl⟩
        have hb : WN.heap[bb]? = some (blO b us (nx + 1)) := by rw [hWN]; exact blkSet (j := 7) (u := .int .i64 (nx + 1)) KB0.out
        have HXX : Hid (SW w0 (ixA b X S :: blkA bb (blO b us (nx + 1)) :: R) WN) := Lib.hid (by
          have h1 := (H.out.gr H4.out.g).at (i := 1) rfl (w' := WN) (T := fun k => k = bb) (by rw [hWN]; exact (Mdh.refl (fun k => k = bb) W4).setCell (p := ⟨bb, 7, none⟩) rfl (.int .i64 (nx + 1))) (fun k hk => .inl hk) (B := blkA bb (blO b us (nx + 1))) hb (fun k hk => .inl hk)
          exact h1)
        have HL : Hid (LocN w (blkA b9 (boxF hd) :: blkA b8 (boxF e) :: [blkA (b3 + 1 + 1 + 1 + 1) (.cells #[.string κ] 9), blkA (b3 + 1 + 1) (.cells #[.bool false] 4), blkA (b3 + 1) (boxF zE), blkA b3 (boxP ⟨t0, t1, t2, dl, false⟩)]) WN) := Lib.hid (by
          refine ⟨?_, H4.out.s.mdh (T := fun k => k = bb) (by rw [hWN]; exact (Mdh.refl (fun k => k = bb) W4).setCell (p := ⟨bb, 7, none⟩) rfl (.int .i64 (nx + 1))) (fun B hB k hk hs => ?_), H4.out.n⟩
          · rw [hWN]; simpa using H4.out.g.sz
          · have h1 := H4.out.n B hB k hk
            have h2 := blkLt (show w.heap[bb]? = _ from H.out.get (i := 1) rfl)
            have h3 : k = bb := hs
            omega)
        have HCO := newP_ok HST.out hj HT.out
        rw [← HE.out] at HCO
        have HQ : Hid (addE X e = 0 ∧ Low e.key ∧ En64 e ∧ e.slot = σ ∧ e.off = us σ ∧ 0 ≤ e.size ∧ e.size ≤ 8192) := Lib.hid (by
          have hz : 0 ≤ (if dl = true then 0 else t2 % 100) ∧ (if dl = true then 0 else t2 % 100) ≤ 99 := by split <;> omega
          refine ⟨HCO.1, ?_, ⟨?_, ?_, ?_⟩, ?_, ?_, ?_, ?_⟩ <;> rw [HEE.out]
          · rw [HSG.out.2.2]; exact (ptKey_ok t0).2.2.2
          · show 16 + (κ.size : Int) + _ ≤ 9223372036854775807; omega
          · show -9223372036854775808 ≤ 16 + (κ.size : Int) + _; omega
          · show κ.size ≤ 140737488351232; omega
          · show 0 ≤ 16 + (κ.size : Int) + _; omega
          · show 16 + (κ.size : Int) + _ ≤ 8192; omega)
        have HR : Hid (retP ⟨X, all, us, nx⟩ ⟨t0, t1, t2, dl, false⟩ = e ∧ stepP ⟨X, all, us, nx⟩ ⟨t0, t1, t2, dl, false⟩ = pushP ⟨X, all, us, nx⟩ e (nx + 1)) := Lib.hid (by
          constructor
          · unfold retP; rw [if_neg (by rw [HCF.out]; decide), ← HE.out]
          · unfold stepP; rw [if_neg (by rw [HCF.out]; decide), ← HE.out])
        clear hb HCO
        go_wp2_with fail
        rw [← hWN]
        clear hWN KB0 dB7 fB lB dP
        have dB0 : WN.cell? ⟨bb, 0, none⟩ = some (.pointer (some ⟨b, 0, none⟩)) := (cellsOf (show WN.heap[bb]? = _ from HXX.out.get (i := 1) rfl)).1 0
        have lB := blkLt (show WN.heap[bb]? = _ from HXX.out.get (i := 1) rfl)
        have d8 := (cellsOf (show WN.heap[b8]? = _ from HL.out.get (i := 1) rfl)).1
        have l8 := blkLt (show WN.heap[b8]? = _ from HL.out.get (i := 1) rfl)
        have HSW : Hid (∀ k, S k → k < w.heap.size) := Lib.hid H.out.ix.lt
        have hSb : ¬ S bb := fun hh => (HXX.out.get_ne (i := 0) (j := 1) rfl rfl (by decide)) bb hh rfl
        have hS8 : ¬ S b8 := fun hh => by have h1 := HSW.out b8 hh; have h2 := HL.out.n (blkA b8 (boxF e)) (by simp) b8 rfl; omega
        have HSL : Hid (∀ k, S k → k < WN.heap.size) := Lib.hid (fun k hk => by have h1 := HSW.out k hk; have h2 := HL.out.z; omega)
        have HAD : Hid (Calls Try.prog 56 #[.pointer (some ⟨b, 0, none⟩), .agg #[.int .i64 e.seq, .string e.key, .bool e.del, .int .i64 e.slot, .int .i64 e.off, .int .i64 e.size]] WN.drew fun e' w' => e' = .returned (.int .i64 0) ∧ IXPost b (addX X e) S WN.drew w') := Lib.hid (by
          have h1 := Add_any (HXX.out.gr (Gr.refl _).drew).ix e HQ.out.2.1 HQ.out.2.2.1
          rw [HQ.out.1] at h1
          exact h1)
        have HG := Gr.refl WN.drew
        refine wp_region_flo (S) [] [] (by kernel_rfl) (by kernel_rfl) (HSL.out) ?_
        refine flo_seg 5 rfl ?_
        simp only [List.take_succ_cons, List.take_zero, List.drop_succ_cons, List.drop_zero]
        repeat (go_big_quiet_step (fail))
        refine wpQuiet_nil ?_
        refine flo_eff rfl rfl rfl rfl (fun K hK => ?_)
        go_wp2_with ((go_at_call 56; refine Calls.mono HAD.out ?_; rintro e' w8 ⟨rfl, S8, hI8, hm8, hn8⟩; have HI8 := Lib.hid hI8; have HM8 := Lib.hid hm8; have HN8 := Lib.hid hn8; clear hI8 hm8 hn8))
        refine ⟨by exact HM8.out.mono (fun k hk => .inl hk), ?_⟩
        refine flo_seg 1 rfl ?_
        simp only [List.take_succ_cons, List.take_zero, List.drop_succ_cons, List.drop_zero]
        repeat (go_big_quiet_step (fail))
        refine wpQuiet_nil ?_
        refine flo_nil ?_
        have HXX8 : Hid (SW w0 (ixA b (addX X e) S8 :: blkA bb (blO b us (nx + 1)) :: R) w8) := Lib.hid ((HXX.out.gr (Gr.refl _).drew).step HM8.out (fun k hk => .inl hk) HI8.out HN8.out)
        have HL8 : Hid (Sep (blkA b9 (boxF hd) :: blkA b8 (boxF e) :: [blkA (b3 + 1 + 1 + 1 + 1) (.cells #[.string κ] 9), blkA (b3 + 1 + 1) (.cells #[.bool false] 4), blkA (b3 + 1) (boxF zE), blkA b3 (boxP ⟨t0, t1, t2, dl, false⟩)]) w8) := Lib.hid ((HL.out.gr (Gr.refl _).drew).s.mdh HM8.out (fun B hB k hk hs => by have h1 := HSW.out k hs; have h2 := HL.out.n B hB k hk; omega))
        have HLN : Hid (∀ B ∈ (blkA b9 (boxF hd) :: blkA b8 (boxF e) :: [blkA (b3 + 1 + 1 + 1 + 1) (.cells #[.string κ] 9), blkA (b3 + 1 + 1) (.cells #[.bool false] 4), blkA (b3 + 1) (boxF zE), blkA b3 (boxP ⟨t0, t1, t2, dl, false⟩)]), ∀ k, B.S k → w.heap.size ≤ k ∧ k < WN.heap.size) := Lib.hid (fun B hB k hk => ⟨HL.out.n B hB k hk, HL.out.s.lt hB k hk⟩)
        clear dB0 lB d8 l8 hSb hS8 HSL HAD HG HI8 HXX
        have KB := Lib.hid (show w8.heap[bb]? = _ from HXX8.out.get (i := 1) rfl)
        obtain ⟨_, fB⟩ := cellsOf KB.out
        have dU := ((cellsOf KB.out).1 (1 + σ)).trans (bl_get b us (nx + 1) σ hσ6)
        have lB := blkLt KB.out
        have d8 := (cellsOf (show w8.heap[b8]? = _ from HL8.out.get (A := blkA b8 (boxF e)) (by simp))).1
        have l8 := blkLt (show w8.heap[b8]? = _ from HL8.out.get (A := blkA b8 (boxF e)) (by simp))
        have hne8 : ¬ b8 = bb := fun hh => by
          have h1 := (HLN.out (blkA b8 (boxF e)) (by simp) b8 rfl).1
          have h2 := blkLt (show w.heap[bb]? = _ from H.out.get (i := 1) rfl)
          omega
        obtain ⟨bq1, bq2⟩ := HQ.out.2.2.2.2.2
        go_wp2_with fail
        have HG := Gr.refl w8.drew
        refine wp_region_flo (fun k => k = bb) [] [113] (by kernel_rfl) (by kernel_rfl) (fun k hk => by subst hk; exact lB) ?_
        refine flo_seg 5 rfl ?_
        simp only [List.take_succ_cons, List.take_zero, List.drop_succ_cons, List.drop_zero]
        repeat (go_big_quiet_step (fail))
        refine wpQuiet_nil ?_
        refine flo_eff rfl rfl rfl rfl (fun K hK => ?_)
        have dU2 := (Gr.refl w8).drew.keep dU
        go_wp2
        refine ⟨by (first | (refine Gr.mdh ?_ _; (repeat (first | (with_reducible exact Gr.refl _) | assumption | (with_reducible apply Gr.from_drew) | (with_reducible apply Gr.alloc) | (with_reducible apply Gr.drew) | (with_reducible refine Gr.trans ?_ (by assumption)) | (with_reducible refine Gr.setCell ?_ (by omega) _))); done) | (repeat (first | (with_reducible exact Mdh.refl _ _) | (with_reducible refine Mdh.setCell ?_ (by simp) _) | (with_reducible refine Mdh.setNew ?_ (by simp) _) | (with_reducible apply Mdh.alloc) | (with_reducible apply Mdh.from_drew) | (with_reducible apply Mdh.drew) | (with_reducible refine Mdh.gr ?_ (by assumption))))), ?_⟩
        refine flo_seg 6 rfl ?_
        simp only [List.take_succ_cons, List.take_zero, List.drop_succ_cons, List.drop_zero]
        repeat (go_big_quiet_step (fail))
        refine wpQuiet_nil ?_
        refine flo_eff rfl rfl rfl rfl (fun K hK => ?_)
        go_wp2
        refine ⟨by (first | (refine Gr.mdh ?_ _; (repeat (first | (with_reducible exact Gr.refl _) | assumption | (with_reducible apply Gr.from_drew) | (with_reducible apply Gr.alloc) | (with_reducible apply Gr.drew) | (with_reducible refine Gr.trans ?_ (by assumption)) | (with_reducible refine Gr.setCell ?_ (by omega) _))); done) | (repeat (first | (with_reducible exact Mdh.refl _ _) | (with_reducible refine Mdh.setCell ?_ (by simp) _) | (with_reducible refine Mdh.setNew ?_ (by simp) _) | (with_reducible apply Mdh.alloc) | (with_reducible apply Mdh.from_drew) | (with_reducible apply Mdh.drew) | (with_reducible refine Mdh.gr ?_ (by assumption))))), ?_⟩
        refine flo_nil ?_
        obtain ⟨w9, hw9⟩ : ∃ y, y = (w8.setCell ⟨bb, 1 + σ, none⟩ (.int .i64 (us σ + e.size))).drew := ⟨_, rfl⟩
        have HXX9 : Hid (SW w0 (ixA b (addX X e) S8 :: blkA bb (blO b (upd us σ (us σ + e.size)) (nx + 1)) :: R) w9) := Lib.hid (by
          rw [hw9]
          have hb : (w8.setCell ⟨bb, 1 + σ, none⟩ (.int .i64 (us σ + e.size))).heap[bb]? = some (blO b (upd us σ (us σ + e.size)) (nx + 1)) := by
            have h1 := blkSet (j := 1 + σ) (u := .int .i64 (us σ + e.size)) KB.out
            rw [bl_set b us (nx + 1) σ hσ6] at h1
            exact h1
          exact (HXX8.out.at (i := 1) rfl ((Mdh.refl (fun k => k = bb) w8).setCell (p := ⟨bb, 1 + σ, none⟩) rfl (.int .i64 (us σ + e.size))) (fun k hk => .inl hk) (B := blkA bb (blO b (upd us σ (us σ + e.size)) (nx + 1))) hb (fun k hk => .inl hk)).gr (Gr.refl _).drew)
        have HL9 : Hid (Sep (blkA b9 (boxF hd) :: blkA b8 (boxF e) :: [blkA (b3 + 1 + 1 + 1 + 1) (.cells #[.string κ] 9), blkA (b3 + 1 + 1) (.cells #[.bool false] 4), blkA (b3 + 1) (boxF zE), blkA b3 (boxP ⟨t0, t1, t2, dl, false⟩)]) w9) := Lib.hid (by
          rw [hw9]
          refine (HL8.out.mdh ((Mdh.refl (fun k => k = bb) w8).setCell (p := ⟨bb, 1 + σ, none⟩) rfl (.int .i64 (us σ + e.size))) (fun B hB k hk hs => ?_)).gr (Gr.refl _).drew
          have h1 := (HLN.out B hB k hk).1
          have h2 := blkLt (show w.heap[bb]? = _ from H.out.get (i := 1) rfl)
          have h3 : k = bb := hs
          omega)
        rw [← hw9]
        clear hw9 KB fB dU lB d8 l8 hne8 HG HXX8 HL8 bq1 bq2
        have d8 := (cellsOf (show w9.heap[b8]? = _ from HL9.out.get (A := blkA b8 (boxF e)) (by simp))).1
        have K4 := Lib.hid (show w9.heap[b3 + 1]? = _ from HL9.out.get (A := blkA (b3 + 1) (boxF zE)) (by simp))
        have K5 := Lib.hid (show w9.heap[b3 + 1 + 1]? = _ from HL9.out.get (A := blkA (b3 + 1 + 1) (.cells #[.bool false] 4)) (by simp))
        have n84 : ¬ b8 = b3 + 1 := fun hh => by
          have h1 := (List.pairwise_iff_getElem.1 HL9.out.2) 1 4 (by simp) (by simp) (by decide)
          exact h1 b8 rfl hh
        obtain ⟨_, f4⟩ := cellsOf K4.out
        obtain ⟨_, f5⟩ := cellsOf K5.out
        have l4 := blkLt K4.out
        have l5 := blkLt K5.out
        have HFIN : Hid (SW w0 (ixA b (stepP ⟨X, all, us, nx⟩ ⟨t0, t1, t2, dl, false⟩).X S8 :: blkA bb (blO b (stepP ⟨X, all, us, nx⟩ ⟨t0, t1, t2, dl, false⟩).us (stepP ⟨X, all, us, nx⟩ ⟨t0, t1, t2, dl, false⟩).nx) :: R) w9) := Lib.hid (by
          rw [HR.out.2]
          unfold pushP
          rw [HQ.out.2.2.2.1]
          exact HXX9.out)
        have HNT : Hid (∀ T : Nat → Prop, (∀ k, T k → w.heap.size ≤ k ∧ k < WN.heap.size) → ∀ A ∈ (ixA b (stepP ⟨X, all, us, nx⟩ ⟨t0, t1, t2, dl, false⟩).X S8 :: blkA bb (blO b (stepP ⟨X, all, us, nx⟩ ⟨t0, t1, t2, dl, false⟩).us (stepP ⟨X, all, us, nx⟩ ⟨t0, t1, t2, dl, false⟩).nx) :: R), ∀ k, A.S k → ¬ T k) := Lib.hid (fun T hT A hA k hk ht => by
          obtain ⟨t1', t2'⟩ := hT k ht
          rcases List.mem_cons.1 hA with rfl | hA
          · rcases HN8.out k hk with h1 | h1
            · have := HSW.out k h1; omega
            · have : WN.heap.size ≤ k := h1
              omega
          · rcases List.mem_cons.1 hA with rfl | hA
            · have h2 := blkLt (show w.heap[bb]? = _ from H.out.get (i := 1) rfl)
              have h3 : k = bb := hk
              omega
            · have := H.out.s.lt (List.mem_cons_of_mem _ (List.mem_cons_of_mem _ hA)) k hk
              omega)
        have HW4 : Hid (w.heap.size ≤ b3 + 1 ∧ b3 + 1 < WN.heap.size ∧ w.heap.size ≤ b3 + 1 + 1 ∧ b3 + 1 + 1 < WN.heap.size) := Lib.hid (by
          have h1 := HLN.out (blkA (b3 + 1) (boxF zE)) (by simp) (b3 + 1) rfl
          have h2 := HLN.out (blkA (b3 + 1 + 1) (.cells #[.bool false] 4)) (by simp) (b3 + 1 + 1) rfl
          exact ⟨h1.1, h1.2, h2.1, h2.2⟩)
        have HSZ : Hid (w0.heap.size ≤ w.heap.size) := Lib.hid H.out.g.sz
        clear HXX9 HL9
        go_wp2_with fail
        have hb6 : (((((((w9.setCell ⟨b3 + 1, 0, none⟩ (.int .i64 e.seq)).setCell ⟨b3 + 1, 1, none⟩ (.string e.key)).setCell ⟨b3 + 1, 2, none⟩ (.bool e.del)).setCell ⟨b3 + 1, 3, none⟩ (.int .i64 e.slot)).setCell ⟨b3 + 1, 4, none⟩ (.int .i64 e.off)).setCell ⟨b3 + 1, 5, none⟩ (.int .i64 e.size)).setCell ⟨b3 + 1 + 1, 0, none⟩ (.bool true)).heap[b3 + 1]? = some (boxF e) := blkSetO (blk6 K4.out) (by show b3 + 1 ≠ b3 + 1 + 1; omega)
        have hb7 : (((((((w9.setCell ⟨b3 + 1, 0, none⟩ (.int .i64 e.seq)).setCell ⟨b3 + 1, 1, none⟩ (.string e.key)).setCell ⟨b3 + 1, 2, none⟩ (.bool e.del)).setCell ⟨b3 + 1, 3, none⟩ (.int .i64 e.slot)).setCell ⟨b3 + 1, 4, none⟩ (.int .i64 e.off)).setCell ⟨b3 + 1, 5, none⟩ (.int .i64 e.size)).setCell ⟨b3 + 1 + 1, 0, none⟩ (.bool true)).heap[b3 + 1 + 1]? = some (.cells #[.bool true] 4) := blkSet (j := 0) (blkSetO (blkSetO (blkSetO (blkSetO (blkSetO (blkSetO K5.out (by show b3 + 1 + 1 ≠ b3 + 1; omega)) (by show b3 + 1 + 1 ≠ b3 + 1; omega)) (by show b3 + 1 + 1 ≠ b3 + 1; omega)) (by show b3 + 1 + 1 ≠ b3 + 1; omega)) (by show b3 + 1 + 1 ≠ b3 + 1; omega)) (by show b3 + 1 + 1 ≠ b3 + 1; omega))
        have h6' := hb6
        have h7' := hb7
        obtain ⟨e6, _⟩ := cellsOf h6'
        obtain ⟨e7, _⟩ := cellsOf h7'
        refine retM0 (v := .tuple #[enV e, .bool true]) ?_ rfl ⟨by rw [HR.out.1], S8, ?_⟩
        · simp [results, Try.results20, go_sem, e6, e7, enV]
        · obtain ⟨q1, q2, q3, q4⟩ := HW4.out
          have q5 := HSZ.out
          refine SW.other HFIN.out ((((((((((Mdh.refl (fun k => k = b3 + 1 ∨ k = b3 + 1 + 1) w9).setCell (p := ⟨b3 + 1, 0, none⟩) (.inl rfl) (.int .i64 e.seq)).setCell (p := ⟨b3 + 1, 1, none⟩) (.inl rfl) (.string e.key)).setCell (p := ⟨b3 + 1, 2, none⟩) (.inl rfl) (.bool e.del)).setCell (p := ⟨b3 + 1, 3, none⟩) (.inl rfl) (.int .i64 e.slot)).setCell (p := ⟨b3 + 1, 4, none⟩) (.inl rfl) (.int .i64 e.off)).setCell (p := ⟨b3 + 1, 5, none⟩) (.inl rfl) (.int .i64 e.size)).setCell (p := ⟨b3 + 1 + 1, 0, none⟩) (.inr rfl) (.bool true)))) (HNT.out _ (fun k hk => ?_)) (fun k hk => ?_)
          · rcases hk with rfl | rfl <;> omega
          · rcases hk with rfl | rfl <;> omega
      · skip
        have HCF : Hid (isCp ⟨X, all, us, nx⟩ ⟨t0, t1, t2, dl, true⟩ = false) := Lib.hid (by rw [HCP.out]; rfl)
        have KB0 := Lib.hid (show W4.heap[bb]? = _ from (H.out.gr H4.out.g).get (i := 1) rfl)
        have dB7 : W4.cell? ⟨bb, 7, none⟩ = some (.int .i64 nx) := (cellsOf KB0.out).1 7
        obtain ⟨_, fB⟩ := cellsOf KB0.out
        have lB := blkLt KB0.out
        obtain ⟨WN, hWN⟩ : ∃ y, y = W4.setCell ⟨bb, 7, none⟩ (.int .i64 (nx + 1)) := ⟨_, rfl⟩
        have hb : WN.heap[bb]? = some (blO b us (nx + 1)) := by rw [hWN]; exact blkSet (j := 7) (u := .int .i64 (nx + 1)) KB0.out
        have HXX : Hid (SW w0 (ixA b X S :: blkA bb (blO b us (nx + 1)) :: R) WN) := Lib.hid (by
          have h1 := (H.out.gr H4.out.g).at (i := 1) rfl (w' := WN) (T := fun k => k = bb) (by rw [hWN]; exact (Mdh.refl (fun k => k = bb) W4).setCell (p := ⟨bb, 7, none⟩) rfl (.int .i64 (nx + 1))) (fun k hk => .inl hk) (B := blkA bb (blO b us (nx + 1))) hb (fun k hk => .inl hk)
          exact h1)
        have HL : Hid (LocN w (blkA b9 (boxF hd) :: blkA b8 (boxF e) :: [blkA (b3 + 1 + 1 + 1 + 1) (.cells #[.string κ] 9), blkA (b3 + 1 + 1) (.cells #[.bool false] 4), blkA (b3 + 1) (boxF zE), blkA b3 (boxP ⟨t0, t1, t2, dl, true⟩)]) WN) := Lib.hid (by
          refine ⟨?_, H4.out.s.mdh (T := fun k => k = bb) (by rw [hWN]; exact (Mdh.refl (fun k => k = bb) W4).setCell (p := ⟨bb, 7, none⟩) rfl (.int .i64 (nx + 1))) (fun B hB k hk hs => ?_), H4.out.n⟩
          · rw [hWN]; simpa using H4.out.g.sz
          · have h1 := H4.out.n B hB k hk
            have h2 := blkLt (show w.heap[bb]? = _ from H.out.get (i := 1) rfl)
            have h3 : k = bb := hs
            omega)
        have HCO := newP_ok HST.out hj HT.out
        rw [← HE.out] at HCO
        have HQ : Hid (addE X e = 0 ∧ Low e.key ∧ En64 e ∧ e.slot = σ ∧ e.off = us σ ∧ 0 ≤ e.size ∧ e.size ≤ 8192) := Lib.hid (by
          have hz : 0 ≤ (if dl = true then 0 else t2 % 100) ∧ (if dl = true then 0 else t2 % 100) ≤ 99 := by split <;> omega
          refine ⟨HCO.1, ?_, ⟨?_, ?_, ?_⟩, ?_, ?_, ?_, ?_⟩ <;> rw [HEE.out]
          · rw [HSG.out.2.2]; exact (ptKey_ok t0).2.2.2
          · show 16 + (κ.size : Int) + _ ≤ 9223372036854775807; omega
          · show -9223372036854775808 ≤ 16 + (κ.size : Int) + _; omega
          · show κ.size ≤ 140737488351232; omega
          · show 0 ≤ 16 + (κ.size : Int) + _; omega
          · show 16 + (κ.size : Int) + _ ≤ 8192; omega)
        have HR : Hid (retP ⟨X, all, us, nx⟩ ⟨t0, t1, t2, dl, true⟩ = e ∧ stepP ⟨X, all, us, nx⟩ ⟨t0, t1, t2, dl, true⟩ = pushP ⟨X, all, us, nx⟩ e (nx + 1)) := Lib.hid (by
          constructor
          · unfold retP; rw [if_neg (by rw [HCF.out]; decide), ← HE.out]
          · unfold stepP; rw [if_neg (by rw [HCF.out]; decide), ← HE.out])
        clear hb HCO
        go_wp2_with fail
        rw [← hWN]
        clear hWN KB0 dB7 fB lB dP
        have dB0 : WN.cell? ⟨bb, 0, none⟩ = some (.pointer (some ⟨b, 0, none⟩)) := (cellsOf (show WN.heap[bb]? = _ from HXX.out.get (i := 1) rfl)).1 0
        have lB := blkLt (show WN.heap[bb]? = _ from HXX.out.get (i := 1) rfl)
        have d8 := (cellsOf (show WN.heap[b8]? = _ from HL.out.get (i := 1) rfl)).1
        have l8 := blkLt (show WN.heap[b8]? = _ from HL.out.get (i := 1) rfl)
        have HSW : Hid (∀ k, S k → k < w.heap.size) := Lib.hid H.out.ix.lt
        have hSb : ¬ S bb := fun hh => (HXX.out.get_ne (i := 0) (j := 1) rfl rfl (by decide)) bb hh rfl
        have hS8 : ¬ S b8 := fun hh => by have h1 := HSW.out b8 hh; have h2 := HL.out.n (blkA b8 (boxF e)) (by simp) b8 rfl; omega
        have HSL : Hid (∀ k, S k → k < WN.heap.size) := Lib.hid (fun k hk => by have h1 := HSW.out k hk; have h2 := HL.out.z; omega)
        have HAD : Hid (Calls Try.prog 56 #[.pointer (some ⟨b, 0, none⟩), .agg #[.int .i64 e.seq, .string e.key, .bool e.del, .int .i64 e.slot, .int .i64 e.off, .int .i64 e.size]] WN.drew fun e' w' => e' = .returned (.int .i64 0) ∧ IXPost b (addX X e) S WN.drew w') := Lib.hid (by
          have h1 := Add_any (HXX.out.gr (Gr.refl _).drew).ix e HQ.out.2.1 HQ.out.2.2.1
          rw [HQ.out.1] at h1
          exact h1)
        have HG := Gr.refl WN.drew
        refine wp_region_flo (S) [] [] (by kernel_rfl) (by kernel_rfl) (HSL.out) ?_
        refine flo_seg 5 rfl ?_
        simp only [List.take_succ_cons, List.take_zero, List.drop_succ_cons, List.drop_zero]
        repeat (go_big_quiet_step (fail))
        refine wpQuiet_nil ?_
        refine flo_eff rfl rfl rfl rfl (fun K hK => ?_)
        go_wp2_with ((go_at_call 56; refine Calls.mono HAD.out ?_; rintro e' w8 ⟨rfl, S8, hI8, hm8, hn8⟩; have HI8 := Lib.hid hI8; have HM8 := Lib.hid hm8; have HN8 := Lib.hid hn8; clear hI8 hm8 hn8))
        refine ⟨by exact HM8.out.mono (fun k hk => .inl hk), ?_⟩
        refine flo_seg 1 rfl ?_
        simp only [List.take_succ_cons, List.take_zero, List.drop_succ_cons, List.drop_zero]
        repeat (go_big_quiet_step (fail))
        refine wpQuiet_nil ?_
        refine flo_nil ?_
        have HXX8 : Hid (SW w0 (ixA b (addX X e) S8 :: blkA bb (blO b us (nx + 1)) :: R) w8) := Lib.hid ((HXX.out.gr (Gr.refl _).drew).step HM8.out (fun k hk => .inl hk) HI8.out HN8.out)
        have HL8 : Hid (Sep (blkA b9 (boxF hd) :: blkA b8 (boxF e) :: [blkA (b3 + 1 + 1 + 1 + 1) (.cells #[.string κ] 9), blkA (b3 + 1 + 1) (.cells #[.bool false] 4), blkA (b3 + 1) (boxF zE), blkA b3 (boxP ⟨t0, t1, t2, dl, true⟩)]) w8) := Lib.hid ((HL.out.gr (Gr.refl _).drew).s.mdh HM8.out (fun B hB k hk hs => by have h1 := HSW.out k hs; have h2 := HL.out.n B hB k hk; omega))
        have HLN : Hid (∀ B ∈ (blkA b9 (boxF hd) :: blkA b8 (boxF e) :: [blkA (b3 + 1 + 1 + 1 + 1) (.cells #[.string κ] 9), blkA (b3 + 1 + 1) (.cells #[.bool false] 4), blkA (b3 + 1) (boxF zE), blkA b3 (boxP ⟨t0, t1, t2, dl, true⟩)]), ∀ k, B.S k → w.heap.size ≤ k ∧ k < WN.heap.size) := Lib.hid (fun B hB k hk => ⟨HL.out.n B hB k hk, HL.out.s.lt hB k hk⟩)
        clear dB0 lB d8 l8 hSb hS8 HSL HAD HG HI8 HXX
        have KB := Lib.hid (show w8.heap[bb]? = _ from HXX8.out.get (i := 1) rfl)
        obtain ⟨_, fB⟩ := cellsOf KB.out
        have dU := ((cellsOf KB.out).1 (1 + σ)).trans (bl_get b us (nx + 1) σ hσ6)
        have lB := blkLt KB.out
        have d8 := (cellsOf (show w8.heap[b8]? = _ from HL8.out.get (A := blkA b8 (boxF e)) (by simp))).1
        have l8 := blkLt (show w8.heap[b8]? = _ from HL8.out.get (A := blkA b8 (boxF e)) (by simp))
        have hne8 : ¬ b8 = bb := fun hh => by
          have h1 := (HLN.out (blkA b8 (boxF e)) (by simp) b8 rfl).1
          have h2 := blkLt (show w.heap[bb]? = _ from H.out.get (i := 1) rfl)
          omega
        obtain ⟨bq1, bq2⟩ := HQ.out.2.2.2.2.2
        go_wp2_with fail
        have HG := Gr.refl w8.drew
        refine wp_region_flo (fun k => k = bb) [] [113] (by kernel_rfl) (by kernel_rfl) (fun k hk => by subst hk; exact lB) ?_
        refine flo_seg 5 rfl ?_
        simp only [List.take_succ_cons, List.take_zero, List.drop_succ_cons, List.drop_zero]
        repeat (go_big_quiet_step (fail))
        refine wpQuiet_nil ?_
        refine flo_eff rfl rfl rfl rfl (fun K hK => ?_)
        have dU2 := (Gr.refl w8).drew.keep dU
        go_wp2
        refine ⟨by (first | (refine Gr.mdh ?_ _; (repeat (first | (with_reducible exact Gr.refl _) | assumption | (with_reducible apply Gr.from_drew) | (with_reducible apply Gr.alloc) | (with_reducible apply Gr.drew) | (with_reducible refine Gr.trans ?_ (by assumption)) | (with_reducible refine Gr.setCell ?_ (by omega) _))); done) | (repeat (first | (with_reducible exact Mdh.refl _ _) | (with_reducible refine Mdh.setCell ?_ (by simp) _) | (with_reducible refine Mdh.setNew ?_ (by simp) _) | (with_reducible apply Mdh.alloc) | (with_reducible apply Mdh.from_drew) | (with_reducible apply Mdh.drew) | (with_reducible refine Mdh.gr ?_ (by assumption))))), ?_⟩
        refine flo_seg 6 rfl ?_
        simp only [List.take_succ_cons, List.take_zero, List.drop_succ_cons, List.drop_zero]
        repeat (go_big_quiet_step (fail))
        refine wpQuiet_nil ?_
        refine flo_eff rfl rfl rfl rfl (fun K hK => ?_)
        go_wp2
        refine ⟨by (first | (refine Gr.mdh ?_ _; (repeat (first | (with_reducible exact Gr.refl _) | assumption | (with_reducible apply Gr.from_drew) | (with_reducible apply Gr.alloc) | (with_reducible apply Gr.drew) | (with_reducible refine Gr.trans ?_ (by assumption)) | (with_reducible refine Gr.setCell ?_ (by omega) _))); done) | (repeat (first | (with_reducible exact Mdh.refl _ _) | (with_reducible refine Mdh.setCell ?_ (by simp) _) | (with_reducible refine Mdh.setNew ?_ (by simp) _) | (with_reducible apply Mdh.alloc) | (with_reducible apply Mdh.from_drew) | (with_reducible apply Mdh.drew) | (with_reducible refine Mdh.gr ?_ (by assumption))))), ?_⟩
        refine flo_nil ?_
        obtain ⟨w9, hw9⟩ : ∃ y, y = (w8.setCell ⟨bb, 1 + σ, none⟩ (.int .i64 (us σ + e.size))).drew := ⟨_, rfl⟩
        have HXX9 : Hid (SW w0 (ixA b (addX X e) S8 :: blkA bb (blO b (upd us σ (us σ + e.size)) (nx + 1)) :: R) w9) := Lib.hid (by
          rw [hw9]
          have hb : (w8.setCell ⟨bb, 1 + σ, none⟩ (.int .i64 (us σ + e.size))).heap[bb]? = some (blO b (upd us σ (us σ + e.size)) (nx + 1)) := by
            have h1 := blkSet (j := 1 + σ) (u := .int .i64 (us σ + e.size)) KB.out
            rw [bl_set b us (nx + 1) σ hσ6] at h1
            exact h1
          exact (HXX8.out.at (i := 1) rfl ((Mdh.refl (fun k => k = bb) w8).setCell (p := ⟨bb, 1 + σ, none⟩) rfl (.int .i64 (us σ + e.size))) (fun k hk => .inl hk) (B := blkA bb (blO b (upd us σ (us σ + e.size)) (nx + 1))) hb (fun k hk => .inl hk)).gr (Gr.refl _).drew)
        have HL9 : Hid (Sep (blkA b9 (boxF hd) :: blkA b8 (boxF e) :: [blkA (b3 + 1 + 1 + 1 + 1) (.cells #[.string κ] 9), blkA (b3 + 1 + 1) (.cells #[.bool false] 4), blkA (b3 + 1) (boxF zE), blkA b3 (boxP ⟨t0, t1, t2, dl, true⟩)]) w9) := Lib.hid (by
          rw [hw9]
          refine (HL8.out.mdh ((Mdh.refl (fun k => k = bb) w8).setCell (p := ⟨bb, 1 + σ, none⟩) rfl (.int .i64 (us σ + e.size))) (fun B hB k hk hs => ?_)).gr (Gr.refl _).drew
          have h1 := (HLN.out B hB k hk).1
          have h2 := blkLt (show w.heap[bb]? = _ from H.out.get (i := 1) rfl)
          have h3 : k = bb := hs
          omega)
        rw [← hw9]
        clear hw9 KB fB dU lB d8 l8 hne8 HG HXX8 HL8 bq1 bq2
        have d8 := (cellsOf (show w9.heap[b8]? = _ from HL9.out.get (A := blkA b8 (boxF e)) (by simp))).1
        have K4 := Lib.hid (show w9.heap[b3 + 1]? = _ from HL9.out.get (A := blkA (b3 + 1) (boxF zE)) (by simp))
        have K5 := Lib.hid (show w9.heap[b3 + 1 + 1]? = _ from HL9.out.get (A := blkA (b3 + 1 + 1) (.cells #[.bool false] 4)) (by simp))
        have n84 : ¬ b8 = b3 + 1 := fun hh => by
          have h1 := (List.pairwise_iff_getElem.1 HL9.out.2) 1 4 (by simp) (by simp) (by decide)
          exact h1 b8 rfl hh
        obtain ⟨_, f4⟩ := cellsOf K4.out
        obtain ⟨_, f5⟩ := cellsOf K5.out
        have l4 := blkLt K4.out
        have l5 := blkLt K5.out
        have HFIN : Hid (SW w0 (ixA b (stepP ⟨X, all, us, nx⟩ ⟨t0, t1, t2, dl, true⟩).X S8 :: blkA bb (blO b (stepP ⟨X, all, us, nx⟩ ⟨t0, t1, t2, dl, true⟩).us (stepP ⟨X, all, us, nx⟩ ⟨t0, t1, t2, dl, true⟩).nx) :: R) w9) := Lib.hid (by
          rw [HR.out.2]
          unfold pushP
          rw [HQ.out.2.2.2.1]
          exact HXX9.out)
        have HNT : Hid (∀ T : Nat → Prop, (∀ k, T k → w.heap.size ≤ k ∧ k < WN.heap.size) → ∀ A ∈ (ixA b (stepP ⟨X, all, us, nx⟩ ⟨t0, t1, t2, dl, true⟩).X S8 :: blkA bb (blO b (stepP ⟨X, all, us, nx⟩ ⟨t0, t1, t2, dl, true⟩).us (stepP ⟨X, all, us, nx⟩ ⟨t0, t1, t2, dl, true⟩).nx) :: R), ∀ k, A.S k → ¬ T k) := Lib.hid (fun T hT A hA k hk ht => by
          obtain ⟨t1', t2'⟩ := hT k ht
          rcases List.mem_cons.1 hA with rfl | hA
          · rcases HN8.out k hk with h1 | h1
            · have := HSW.out k h1; omega
            · have : WN.heap.size ≤ k := h1
              omega
          · rcases List.mem_cons.1 hA with rfl | hA
            · have h2 := blkLt (show w.heap[bb]? = _ from H.out.get (i := 1) rfl)
              have h3 : k = bb := hk
              omega
            · have := H.out.s.lt (List.mem_cons_of_mem _ (List.mem_cons_of_mem _ hA)) k hk
              omega)
        have HW4 : Hid (w.heap.size ≤ b3 + 1 ∧ b3 + 1 < WN.heap.size ∧ w.heap.size ≤ b3 + 1 + 1 ∧ b3 + 1 + 1 < WN.heap.size) := Lib.hid (by
          have h1 := HLN.out (blkA (b3 + 1) (boxF zE)) (by simp) (b3 + 1) rfl
          have h2 := HLN.out (blkA (b3 + 1 + 1) (.cells #[.bool false] 4)) (by simp) (b3 + 1 + 1) rfl
          exact ⟨h1.1, h1.2, h2.1, h2.2⟩)
        have HSZ : Hid (w0.heap.size ≤ w.heap.size) := Lib.hid H.out.g.sz
        clear HXX9 HL9
        go_wp2_with fail
        have hb6 : (((((((w9.setCell ⟨b3 + 1, 0, none⟩ (.int .i64 e.seq)).setCell ⟨b3 + 1, 1, none⟩ (.string e.key)).setCell ⟨b3 + 1, 2, none⟩ (.bool e.del)).setCell ⟨b3 + 1, 3, none⟩ (.int .i64 e.slot)).setCell ⟨b3 + 1, 4, none⟩ (.int .i64 e.off)).setCell ⟨b3 + 1, 5, none⟩ (.int .i64 e.size)).setCell ⟨b3 + 1 + 1, 0, none⟩ (.bool true)).heap[b3 + 1]? = some (boxF e) := blkSetO (blk6 K4.out) (by show b3 + 1 ≠ b3 + 1 + 1; omega)
        have hb7 : (((((((w9.setCell ⟨b3 + 1, 0, none⟩ (.int .i64 e.seq)).setCell ⟨b3 + 1, 1, none⟩ (.string e.key)).setCell ⟨b3 + 1, 2, none⟩ (.bool e.del)).setCell ⟨b3 + 1, 3, none⟩ (.int .i64 e.slot)).setCell ⟨b3 + 1, 4, none⟩ (.int .i64 e.off)).setCell ⟨b3 + 1, 5, none⟩ (.int .i64 e.size)).setCell ⟨b3 + 1 + 1, 0, none⟩ (.bool true)).heap[b3 + 1 + 1]? = some (.cells #[.bool true] 4) := blkSet (j := 0) (blkSetO (blkSetO (blkSetO (blkSetO (blkSetO (blkSetO K5.out (by show b3 + 1 + 1 ≠ b3 + 1; omega)) (by show b3 + 1 + 1 ≠ b3 + 1; omega)) (by show b3 + 1 + 1 ≠ b3 + 1; omega)) (by show b3 + 1 + 1 ≠ b3 + 1; omega)) (by show b3 + 1 + 1 ≠ b3 + 1; omega)) (by show b3 + 1 + 1 ≠ b3 + 1; omega))
        have h6' := hb6
        have h7' := hb7
        obtain ⟨e6, _⟩ := cellsOf h6'
        obtain ⟨e7, _⟩ := cellsOf h7'
        refine retM0 (v := .tuple #[enV e, .bool true]) ?_ rfl ⟨by rw [HR.out.1], S8, ?_⟩
        · simp [results, Try.results20, go_sem, e6, e7, enV]
        · obtain ⟨q1, q2, q3, q4⟩ := HW4.out
          have q5 := HSZ.out
          refine SW.other HFIN.out ((((((((((Mdh.refl (fun k => k = b3 + 1 ∨ k = b3 + 1 + 1) w9).setCell (p := ⟨b3 + 1, 0, none⟩) (.inl rfl) (.int .i64 e.seq)).setCell (p := ⟨b3 + 1, 1, none⟩) (.inl rfl) (.string e.key)).setCell (p := ⟨b3 + 1, 2, none⟩) (.inl rfl) (.bool e.del)).setCell (p := ⟨b3 + 1, 3, none⟩) (.inl rfl) (.int .i64 e.slot)).setCell (p := ⟨b3 + 1, 4, none⟩) (.inl rfl) (.int .i64 e.off)).setCell (p := ⟨b3 + 1, 5, none⟩) (.inl rfl) (.int .i64 e.size)).setCell (p := ⟨b3 + 1 + 1, 0, none⟩) (.inr rfl) (.bool true)))) (HNT.out _ (fun k hk => ?_)) (fun k hk => ?_)
          · rcases hk with rfl | rfl <;> omega
          · rcases hk with rfl | rfl <;> omega
end Go.Proofs.Ythefpmmeoajaiaa
