/- drumlinlaw21.filled: the walk. -/
import Derived.Test.YtndknnhgdlgbgaaBd12
set_option linter.unusedVariables false
set_option linter.unusedSimpArgs false
namespace Go.Proofs.Ytndknnhgdlgbgaa
open Go.RowKit Go.Shelf
attribute [local go_sem] OvM cell_ovm obj_ovm
attribute [local go_sem] Oper.semAt_some

abbrev fR (b b8 : Nat) (S : Nat → Prop) (v : Value) (st : FS) : List Asn := [ixA b st.X S, rowA 43 6 v st.all.length (rowE st.all), blkA b8 (.cells #[.int .i64 (st.en 0), .int .i64 (st.en 1), .int .i64 (st.en 2), .int .i64 (st.en 3), .int .i64 (st.en 4)] 172)]
abbrev boxF (e : En) : Obj := .cells #[.int .i64 e.seq, .string e.key, .bool e.del, .int .i64 e.slot, .int .i64 e.off, .int .i64 e.size] 43
abbrev boxM (x0 x1 x2 x3 : Int) : Obj := .cells #[.int .u8 x0, .int .u8 x1, .int .u8 x2, .int .u8 x3] 174
theorem SW.put {w0 w w' : World} {R : List Asn} {b : Nat} {o o' : Obj} (h : SW w0 (blkA b o :: R) w) (m : Mdh (fun k => k = b) w w') (hB : w'.heap[b]? = some o') : SW w0 (blkA b o' :: R) w' := h.step m (fun _ hk => .inl hk) hB (fun _ hk => .inl hk)
theorem en_set (en : Int → Int) (σ : Nat) (h : σ < 5) (u : Int) : (#[.int .i64 (en 0), .int .i64 (en 1), .int .i64 (en 2), .int .i64 (en 3), .int .i64 (en 4)] : Array Value).setIfInBounds σ (.int .i64 u) = #[.int .i64 (upd en σ u 0), .int .i64 (upd en σ u 1), .int .i64 (upd en σ u 2), .int .i64 (upd en σ u 3), .int .i64 (upd en σ u 4)] := by
  have h' : σ = 0 ∨ σ = 1 ∨ σ = 2 ∨ σ = 3 ∨ σ = 4 := by omega
  rcases h' with rfl | rfl | rfl | rfl | rfl <;> simp [upd]
def FilPost (w : World) (L : List Mv) (e : Ending) (w' : World) : Prop := ∃ b b8 S v, e = .returned (.tuple #[.pointer (some ⟨b, 0, none⟩), v, .bool true]) ∧ SW w (fR b b8 S v (filS (L.take 80))) w'
set_option maxRecDepth 40000 in
set_option maxHeartbeats 8000000 in
theorem filled_any (a : Option Addr) (len cap : Nat) (L : List Mv) (w : World) (hl : L.length = len) (hle : len ≤ cap) (hcap : cap ≤ maxLen) (hs : MovesAt w a L) :
    Calls Try.prog 37 #[.slice a len cap] w (FilPost w L) := by
  obtain ⟨i0, hi, hz0, hz1, hz2⟩ := info_parts infoIten
  have HS := Lib.hid hs
  have HL := Lib.hid hl
  unfold maxLen at hcap
  obtain ⟨n, hn⟩ : ∃ n : Nat, n = min len 80 := ⟨_, rfl⟩
  have hn1 : n ≤ len := by omega
  have hn2 : n ≤ 80 := by omega
  have hmin : min (len : Int) 80 = n := by omega
  have hlc : (len : Int) ≤ cap := by omega
  have HN : Hid (n = min len 80) := Lib.hid hn
  clear hs hl hn
  go_enter Try.func37, Try.ntmps37
  go_wp2_with fail
  refine (New_any 5 w (by decide) (by decide)).mono ?_
  rintro e w1 ⟨b, S, rfl, h1, h2, h3⟩
  have HS1 : Hid (SW w [ixA b (filS []).X S] w1) := Lib.hid ((SW.start w).ixnew h1 h2 h3)
  clear h1 h2 h3
  go_upto_region 7 with fail
  obtain ⟨b8, hb8⟩ : ∃ q, q = w1.heap.size := ⟨_, rfl⟩
  have HS2 : Hid (SW w (fR b b8 S (.slice none 0 0) (filS (L.take 0))) (w1.alloc (.cells #[.int .i64 0, .int .i64 0, .int .i64 0, .int .i64 0, .int .i64 0] 172))) := Lib.hid (by
    have h1 := HS1.out.new (Gr.refl _) (A := rowA 43 6 (.slice none 0 0) 0 []) (nilRow _ _ _) (fun k hk => by cases hk)
    have h2 := h1.alloc (.cells #[.int .i64 0, .int .i64 0, .int .i64 0, .int .i64 0, .int .i64 0] 172)
    rw [← hb8] at h2
    exact h2.perm ((List.Perm.swap _ _ _).trans (((List.Perm.swap _ _ _).cons _).trans (List.Perm.swap _ _ _)) |>.trans (List.Perm.refl _)))
  rw [← hb8]
  clear hb8
  go_cut [32, 33, 34] (fun t32 t33 t34 wx => t32 = .slice a n cap ∧ t33 = .int .i64 n ∧ t34 = .int .i64 0 ∧ Hid (SW w (fR b b8 S (.slice none 0 0) (filS (L.take 0))) wx))
  case first =>
    go_wp2
    all_goals
      go_meet
      first
        | exact ⟨by rw [show n = len by omega], by rw [show n = len by omega], rfl, HS2⟩
        | exact ⟨by rw [show n = 80 by omega], by rw [show n = 80 by omega]; rfl, rfl, HS2⟩
  case rest =>
    obtain ⟨rfl, rfl, rfl, H0⟩ := hcut
    clear HS2 HS1
    go_wp2_with fail
    go_loopw [7, 9, 34] (fun t7 t9 t34 wx => ∃ (j : Nat) (S : Nat → Prop), j ≤ n ∧ t34 = .int .i64 j ∧ t9 = .int .i64 (filS (L.take j)).nx ∧ Hid (SW w (fR b b8 S t7 (filS (L.take j))) wx)) (fun _ _ t34 _ => n - (intOf t34).toNat)
    case atStart => exact ⟨0, S, by omega, rfl, rfl, H0⟩
    case round =>
      obtain ⟨j, S, hj, rfl, rfl, HR⟩ := hrel
      clear H0
      by_cases hlt : j < n
      · have hlt' : (j : Int) < n := by omega
        obtain ⟨x, hx⟩ : ∃ x, L[j]? = some x := ⟨_, List.getElem?_eq_getElem (by have := HL.out; omega)⟩
        obtain ⟨bm, off, rfl, hbm, m0, m1, m2, m3, hok⟩ := HS.out j x hx
        have HOK := Lib.hid hok
        have hst := filS_ok (L.take j) (by rw [List.length_take]; omega) (fun m hm => by
          obtain ⟨i, hi⟩ := List.mem_iff_getElem?.1 (List.mem_of_mem_take hm)
          obtain ⟨_, _, _, _, _, _, _, _, h⟩ := HS.out i m hi
          exact h)
        rw [List.length_take, show min j L.length = j by have := HL.out; omega] at hst
        have HST := Lib.hid hst
        have HNX : Hid (filS (L.take (j + 1)) = stepF (filS (L.take j)) x) := Lib.hid (by rw [List.take_add_one, hx]; exact filS_snoc _ _)
        generalize filS (L.take j) = st at *
        have e0 := HR.out.g.keep m0
        have e1 := HR.out.g.keep m1
        have e2 := HR.out.g.keep m2
        have e3 := HR.out.g.keep m3
        obtain ⟨x0, x1, x2, x3⟩ := x
        simp only at e0 e1 e2 e3
        obtain ⟨k0, k1, k2, k3⟩ := hok
        simp only at k0 k1 k2 k3
        obtain ⟨k0, k0'⟩ := k0
        obtain ⟨k1, k1'⟩ := k1
        obtain ⟨k2, k2'⟩ := k2
        obtain ⟨k3, k3'⟩ := k3
        obtain ⟨X, all, en, nx⟩ := st
        simp only
        clear m0 m1 m2 m3 hx hst hbm
        obtain ⟨σ, hσ⟩ : ∃ σ : Nat, (σ : Int) = x2 % 5 := ⟨(x2 % 5).toNat, by omega⟩
        have hσ5 : σ < 5 := by omega
        obtain ⟨τ, hτ⟩ : ∃ τ : Nat, (τ : Int) = x1 % 4 := ⟨(x1 % 4).toNat, by omega⟩
        have hτ4 : τ < 4 := by omega
        have HSG := Lib.hid (And.intro hσ hτ)
        obtain ⟨κ, hκ⟩ : ∃ κ, κ = mvKey x1 := ⟨_, rfl⟩
        have HK := Lib.hid hκ
        have hkey : (#[Value.string ⟨#[97]⟩, .string ⟨#[98]⟩, .string ⟨#[107, 101, 121]⟩, .string ⟨#[107, 45, 50]⟩] : Array Value)[τ]? = some (.string κ) := by
          have h : τ = 0 ∨ τ = 1 ∨ τ = 2 ∨ τ = 3 := by omega
          rw [hκ]
          unfold mvKey
          rw [← hτ]
          rcases h with rfl | rfl | rfl | rfl <;> rfl
        have hen : (#[Value.int .i64 (en 0), .int .i64 (en 1), .int .i64 (en 2), .int .i64 (en 3), .int .i64 (en 4)] : Array Value)[σ]? = some (.int .i64 (en σ)) := by
          have h : σ = 0 ∨ σ = 1 ∨ σ = 2 ∨ σ = 3 ∨ σ = 4 := by omega
          rcases h with rfl | rfl | rfl | rfl | rfl <;> rfl
        have hτ' : x1 % 4 = (τ : Int) := hτ.symm
        obtain ⟨dl, hdl⟩ : ∃ dl : Bool, (x3 % 4 == 0) = dl := ⟨_, rfl⟩
        have HDL := Lib.hid hdl
        clear hκ hτ
        go_wp2_with fail
        rw [← hσ]
        obtain ⟨b11, hb11⟩ : ∃ q, q = wr.heap.size := ⟨_, rfl⟩
        obtain ⟨w3, hw3⟩ : ∃ y, y = (wr.alloc (.cells #[.int .u8 x0, .int .u8 x1, .int .u8 x2, .int .u8 x3] 174)).alloc (.cells #[.int .i64 σ] 3) := ⟨_, rfl⟩
        have HS3 : Hid (SW w (blkA (b11 + 1) (.cells #[.int .i64 σ] 3) :: blkA b11 (.cells #[.int .u8 x0, .int .u8 x1, .int .u8 x2, .int .u8 x3] 174) :: fR b b8 S u7 ⟨X, all, en, nx⟩) w3) := Lib.hid (by
          have h1 := (HR.out.alloc (.cells #[.int .u8 x0, .int .u8 x1, .int .u8 x2, .int .u8 x3] 174)).alloc (.cells #[.int .i64 σ] 3)
          simp only [World.size_alloc, ← hb11] at h1
          rw [hw3]
          exact h1)
        rw [← hw3, ← hb11]
        clear hw3 hb11 hσ e0 e1 e2 e3
        have d11 := (cellsOf (show w3.heap[b11]? = _ from HS3.out.get (i := 1) rfl)).1
        have d12 := (cellsOf (show w3.heap[b11 + 1]? = _ from HS3.out.get (i := 0) rfl)).1
        have d8 := ((cellsOf (show w3.heap[b8]? = _ from HS3.out.get (i := 4) rfl)).1 σ).trans hen
        have l11 := blkLt (show w3.heap[b11]? = _ from HS3.out.get (i := 1) rfl)
        have l12 := blkLt (show w3.heap[b11 + 1]? = _ from HS3.out.get (i := 0) rfl)
        have l8 := blkLt (show w3.heap[b8]? = _ from HS3.out.get (i := 4) rfl)
        have HG := Gr.refl w3.drew
        refine wp_region_flo (fun _ => False) [13] [48] (by kernel_rfl) (by kernel_rfl) (fun _ h => h.elim) ?_
        refine flo_seg 1 rfl ?_
        simp only [List.take_succ_cons, List.take_zero, List.drop_succ_cons, List.drop_zero]
        repeat (go_big_quiet_step (fail))
        refine wpQuiet_nil ?_
        refine flo_effg rfl rfl rfl (fun wg1 hgg1 K hK => ?_)
        (try replace HG := Gr.trans (Gr.trans HG (by (repeat (first | (with_reducible exact Gr.refl _) | assumption | (with_reducible apply Gr.from_drew) | (with_reducible apply Gr.alloc) | (with_reducible apply Gr.drew) | (with_reducible refine Gr.trans ?_ (by assumption)) | (with_reducible refine Gr.setCell ?_ (by omega) _))))) hgg1)
        go_wp2
        refine ⟨by (first | (refine Gr.mdh ?_ _; (repeat (first | (with_reducible exact Gr.refl _) | assumption | (with_reducible apply Gr.from_drew) | (with_reducible apply Gr.alloc) | (with_reducible apply Gr.drew) | (with_reducible refine Gr.trans ?_ (by assumption)) | (with_reducible refine Gr.setCell ?_ (by omega) _))); done) | (repeat (first | (with_reducible exact Mdh.refl _ _) | (with_reducible refine Mdh.setCell ?_ (by simp) _) | (with_reducible refine Mdh.setNew ?_ (by simp) _) | (with_reducible apply Mdh.alloc) | (with_reducible apply Mdh.from_drew) | (with_reducible apply Mdh.drew) | (with_reducible refine Mdh.gr ?_ (by assumption))))), ?_⟩
        refine flo_seg 4 rfl ?_
        simp only [List.take_succ_cons, List.take_zero, List.drop_succ_cons, List.drop_zero]
        repeat (go_big_quiet_step (fail))
        refine wpQuiet_nil ?_
        refine flo_effg rfl rfl rfl (fun wg2 hgg2 K hK => ?_)
        (try replace HG := Gr.trans (Gr.trans HG (by (repeat (first | (with_reducible exact Gr.refl _) | assumption | (with_reducible apply Gr.from_drew) | (with_reducible apply Gr.alloc) | (with_reducible apply Gr.drew) | (with_reducible refine Gr.trans ?_ (by assumption)) | (with_reducible refine Gr.setCell ?_ (by omega) _))))) hgg2)
        have dk := hgg2.keep (((cellsOf (blkNew wg1 (.cells #[.string ⟨#[97]⟩, .string ⟨#[98]⟩, .string ⟨#[107, 101, 121]⟩, .string ⟨#[107, 45, 50]⟩] 9))).1 τ).trans hkey)
        go_wp2
        refine ⟨by (first | (refine Gr.mdh ?_ _; (repeat (first | (with_reducible exact Gr.refl _) | assumption | (with_reducible apply Gr.from_drew) | (with_reducible apply Gr.alloc) | (with_reducible apply Gr.drew) | (with_reducible refine Gr.trans ?_ (by assumption)) | (with_reducible refine Gr.setCell ?_ (by omega) _))); done) | (repeat (first | (with_reducible exact Mdh.refl _ _) | (with_reducible refine Mdh.setCell ?_ (by simp) _) | (with_reducible refine Mdh.setNew ?_ (by simp) _) | (with_reducible apply Mdh.alloc) | (with_reducible apply Mdh.from_drew) | (with_reducible apply Mdh.drew) | (with_reducible refine Mdh.gr ?_ (by assumption))))), ?_⟩
        refine flo_seg 9 rfl ?_
        simp only [List.take_succ_cons, List.take_zero, List.drop_succ_cons, List.drop_zero]
        repeat (go_big_quiet_step (fail))
        refine wpQuiet_nil ?_
        refine flo_float (fun b => .pointer (some ⟨b, 0, none⟩)) (.cells #[.int .i64 0, .string ⟨#[]⟩, .bool false, .int .i64 0, .int .i64 0, .int .i64 0] 43) rfl rfl (fun w => by kernel_rfl) (fun wf1 fb1 hgf1 fl1 fh1 ft1 fo1 => ?_)
        (try replace HG := Gr.trans (Gr.trans HG (by (repeat (first | (with_reducible exact Gr.refl _) | assumption | (with_reducible apply Gr.from_drew) | (with_reducible apply Gr.alloc) | (with_reducible apply Gr.drew) | (with_reducible refine Gr.trans ?_ (by assumption)) | (with_reducible refine Gr.setCell ?_ (by omega) _))))) hgf1)
        (try have fc1 := (cellsOf fo1).1)
        (try have ff1 := (cellsOf fo1).2)
        refine flo_eff rfl rfl rfl rfl (fun K hK => ?_)
        go_wp2
        refine ⟨by (first | (refine Gr.mdh ?_ _; (repeat (first | (with_reducible exact Gr.refl _) | assumption | (with_reducible apply Gr.from_drew) | (with_reducible apply Gr.alloc) | (with_reducible apply Gr.drew) | (with_reducible refine Gr.trans ?_ (by assumption)) | (with_reducible refine Gr.setCell ?_ (by omega) _))); done) | (repeat (first | (with_reducible exact Mdh.refl _ _) | (with_reducible refine Mdh.setCell ?_ (by simp) _) | (with_reducible refine Mdh.setNew ?_ (by simp) _) | (with_reducible apply Mdh.alloc) | (with_reducible apply Mdh.from_drew) | (with_reducible apply Mdh.drew) | (with_reducible refine Mdh.gr ?_ (by assumption))))), ?_⟩
        refine flo_nil ?_
        obtain ⟨W4, hW4⟩ : ∃ y, y = ((((((wf1.setCell ⟨fb1, 0, none⟩ (.int .i64 nx)).setCell ⟨fb1, 1, none⟩ (.string κ)).setCell ⟨fb1, 2, none⟩ (.bool dl)).setCell ⟨fb1, 3, none⟩ (.int .i64 σ)).setCell ⟨fb1, 4, none⟩ (.int .i64 (en σ))).setCell ⟨fb1, 5, none⟩ (.int .i64 0)) := ⟨_, rfl⟩
        have HS4 : Hid (SW w (blkA fb1 (boxF ⟨nx, κ, dl, σ, en σ, 0⟩) :: blkA (b11 + 1) (.cells #[.int .i64 σ] 3) :: blkA b11 (boxM x0 x1 x2 x3) :: fR b b8 S u7 ⟨X, all, en, nx⟩) W4) := Lib.hid (by
          have h1 := HS3.out.new (Gr.of_drew HG) (A := blkA fb1 (boxF ⟨0, ⟨#[]⟩, false, 0, 0, 0⟩)) fo1 (fun k hk => by rw [show k = fb1 from hk]; exact fl1)
          rw [hW4]
          exact h1.step (B := blkA fb1 (boxF ⟨nx, κ, dl, σ, en σ, 0⟩)) (T := fun k => k = fb1) ((((((((Mdh.refl (fun k => k = fb1) wf1).setCell (p := ⟨fb1, 0, none⟩) rfl _).setCell (p := ⟨fb1, 1, none⟩) rfl _).setCell (p := ⟨fb1, 2, none⟩) rfl _).setCell (p := ⟨fb1, 3, none⟩) rfl _).setCell (p := ⟨fb1, 4, none⟩) rfl _).setCell (p := ⟨fb1, 5, none⟩) rfl _)) (fun k hk => .inl hk) (blk6 fo1) (fun k hk => .inl hk))
        rw [← hW4]
        clear hW4 fl1 fh1 ft1 fo1 fc1 ff1 HG hgf1 dk d11 d12 d8 l11 l12 l8 HS3
        generalize fb1 = b13 at *
        have hks : κ.size ≤ 3 := by rw [HK.out]; exact (mvKey_ok x1).2.2.1
        have HE : Hid (newM ⟨X, all, en, nx⟩ ⟨x0, x1, x2, x3⟩ = ⟨nx, κ, dl, σ, en σ, 16 + (κ.size : Int) + if dl = true then 0 else x3 % 50⟩) := Lib.hid (by
          have h1 : decide (x3 % 4 = 0) = dl := by rw [← HDL.out]; rfl
          have h2 : (if x3 % 4 = 0 then (0 : Int) else x3 % 50) = if dl = true then 0 else x3 % 50 := by rw [← h1]; simp
          unfold newM
          simp only
          rw [h1, h2, ← HSG.out.1, ← HK.out])
        have d11 := (cellsOf (show W4.heap[b11]? = _ from HS4.out.get (i := 2) rfl)).1
        have l11 := blkLt (show W4.heap[b11]? = _ from HS4.out.get (i := 2) rfl)
        have K13 := Lib.hid (show W4.heap[b13]? = _ from HS4.out.get (i := 0) rfl)
        obtain ⟨d13, f13⟩ := cellsOf K13.out
        simp only at d13
        go_upto_if 65 with fail
        go_cut [] from 66 to 73 (fun wx => Hid (SW w (blkA b13 (boxF (newM ⟨X, all, en, nx⟩ ⟨x0, x1, x2, x3⟩)) :: blkA (b11 + 1) (.cells #[.int .i64 σ] 3) :: blkA b11 (boxM x0 x1 x2 x3) :: fR b b8 S u7 ⟨X, all, en, nx⟩) wx))
        case first =>
          cases dl with
          | true =>
            have HE2 : Hid (newM ⟨X, all, en, nx⟩ ⟨x0, x1, x2, x3⟩ = ⟨nx, κ, true, σ, en σ, 16 + (κ.size : Int)⟩) := Lib.hid (by rw [HE.out]; simp)
            go_wp2_with fail
            go_meet
            rw [HE2.out]
            exact Lib.hid (HS4.out.put ((Mdh.refl (fun k => k = b13) W4).setCell (p := ⟨b13, 5, none⟩) rfl _) (blkSet (j := 5) K13.out))
          | false =>
            have HE2 : Hid (newM ⟨X, all, en, nx⟩ ⟨x0, x1, x2, x3⟩ = ⟨nx, κ, false, σ, en σ, 16 + (κ.size : Int) + x3 % 50⟩) := Lib.hid (by rw [HE.out]; simp)
            go_wp2_with fail
            go_meet
            rw [HE2.out]
            exact Lib.hid (HS4.out.put (((Mdh.refl (fun k => k = b13) W4).setCell (p := ⟨b13, 5, none⟩) rfl _).setCell (p := ⟨b13, 5, none⟩) rfl _) (blkSet (j := 5) (blkSet (j := 5) K13.out)))
        case rest =>
          have H5 : Hid (SW w (blkA b13 (boxF (newM ⟨X, all, en, nx⟩ ⟨x0, x1, x2, x3⟩)) :: blkA (b11 + 1) (.cells #[.int .i64 σ] 3) :: blkA b11 (boxM x0 x1 x2 x3) :: fR b b8 S u7 ⟨X, all, en, nx⟩) wc) := hcut
          clear hcut HS4 K13 d13 f13 d11 l11 HE hks hdl HDL hkey hen
          have d11 := (cellsOf (show wc.heap[b11]? = _ from H5.out.get (i := 2) rfl)).1
          have l11 := blkLt (show wc.heap[b11]? = _ from H5.out.get (i := 2) rfl)
          have d12 := (cellsOf (show wc.heap[b11 + 1]? = _ from H5.out.get (i := 1) rfl)).1
          have l12 := blkLt (show wc.heap[b11 + 1]? = _ from H5.out.get (i := 1) rfl)
          obtain ⟨e, he⟩ : ∃ e, e = newM ⟨X, all, en, nx⟩ ⟨x0, x1, x2, x3⟩ := ⟨_, rfl⟩
          rw [← he] at H5
          have HE := Lib.hid he
          clear he
          by_cases h224 : 224 ≤ x0
          · skip
            have HST2 : Hid (stepF ⟨X, all, en, nx⟩ ⟨x0, x1, x2, x3⟩ = ⟨dropX X (x2 % 5), all.filter (fun o => !inSl (x2 % 5) o), upd en (x2 % 5) 0, nx⟩) := Lib.hid (if_pos h224)
            obtain ⟨q1, q2, q3⟩ := FS.drop (m := ⟨x0, x1, x2, x3⟩) HST.out
            simp only at q1 q2 q3
            rw [← HSG.out.1] at q1 q2 q3
            have HQ := Lib.hid (And.intro q1 (And.intro q2 q3))
            have halen : all.length ≤ 16384 := by rw [HST.out.pm.length_eq]; exact HST.out.wf.ents_le
            rw [← HSG.out.1] at HST2
            clear q1 q2 q3
            go_wp2_with fail
            refine (Drop_any (show IXR wc b X S from H5.out.get (i := 3) rfl) (σ : Int)).mono ?_
            rintro r w6 ⟨rfl, hp⟩
            obtain ⟨S6, hI6, hm6, hn6⟩ := hp
            have H6 : Hid (SW w (blkA b13 (boxF e) :: blkA (b11 + 1) (.cells #[.int .i64 σ] 3) :: blkA b11 (boxM x0 x1 x2 x3) :: fR b b8 S6 u7 ⟨dropX X σ, all, en, nx⟩) w6) := Lib.hid (H5.out.at (i := 3) rfl hm6 (fun k hk => .inl hk) hI6 hn6)
            rw [HQ.out.1]
            obtain ⟨a7, c7, hv7, hc71, hc72, _⟩ := ownE_at (show Own w6 43 6 u7 all.length (rowE all) from H6.out.get (i := 4) rfl)
            subst hv7
            clear hI6 hm6 hn6 H5 d12 l12 d11 l11
            have d12 := (cellsOf (show w6.heap[b11 + 1]? = _ from H6.out.get (i := 1) rfl)).1
            have l12 := blkLt (show w6.heap[b11 + 1]? = _ from H6.out.get (i := 1) rfl)
            have hne12 : ¬ (slV (a7, all.length, c7)).ownBlock = some (b11 + 1) := own_ne (show Own w6 43 6 (slV (a7, all.length, c7)) all.length (rowE all) from H6.out.get (i := 4) rfl) (show w6.heap[b11 + 1]? = _ from H6.out.get (i := 1) rfl) (by decide)
            have HDF := Lib.hid (DeleteFE all (by omega) (a7, all.length, c7) w6 (show Own w6 43 6 (slV (a7, all.length, c7)) all.length (rowE all) from H6.out.get (i := 4) rfl) (filP1 (σ : Int) (b11 + 1) w6 _ hne12 (show w6.heap[b11 + 1]? = _ from H6.out.get (i := 1) rfl)))
            clear hne12
            go_wp2_with fail
            refine Calls.mono HDF.out ?_
            rintro r w7 ⟨s', rfl, ho, hk, hm⟩
            obtain ⟨a9, n9, c9⟩ := s'
            simp only [slV] at ho hk hm
            simp only [slV]
            obtain ⟨a10, c10, hv10, _⟩ := ownE_at ho
            obtain ⟨rfl, rfl, rfl⟩ : a9 = a10 ∧ n9 = (all.filter (fun o => !inSl σ o)).length ∧ c9 = c10 := by
              injection hv10 with g1 g2 g3
              exact ⟨g1, g2, g3⟩
            have H7 : Hid (SW w (blkA b13 (boxF e) :: blkA (b11 + 1) (.cells #[.int .i64 σ] 3) :: blkA b11 (boxM x0 x1 x2 x3) :: fR b b8 S6 (.slice a9 (all.filter (fun o => !inSl σ o)).length c9) ⟨dropX X σ, all.filter (fun o => !inSl σ o), en, nx⟩) w7) := Lib.hid (H6.out.at (i := 4) rfl hm (fun k hk => .inl hk) ho (fun k hk' => .inl (hk k hk')))
            clear ho hk hm hv10 d12 l12 HDF H6
            have hlen : ((X.slot σ).length : Int) = (all.length : Int) - ((all.filter (fun o => !inSl σ o)).length : Int) := by have := HQ.out.2.1; omega
            have d12 := (cellsOf (show w7.heap[b11 + 1]? = _ from H7.out.get (i := 1) rfl)).1
            have hen8 := H7.out.get (i := 5) rfl
            obtain ⟨d8, f8⟩ := cellsOf (show w7.heap[b8]? = _ from hen8)
            have l8 := blkLt (show w7.heap[b8]? = _ from hen8)
            have K8 := Lib.hid (show w7.heap[b8]? = some (.cells #[.int .i64 (en 0), .int .i64 (en 1), .int .i64 (en 2), .int .i64 (en 3), .int .i64 (en 4)] 172) from hen8)
            clear hen8
            go_wp2_with fail
            have h8 : (w7.setCell ⟨b8, σ, none⟩ (.int .i64 0)).heap[b8]? = some (.cells #[.int .i64 (upd en σ 0 0), .int .i64 (upd en σ 0 1), .int .i64 (upd en σ 0 2), .int .i64 (upd en σ 0 3), .int .i64 (upd en σ 0 4)] 172) := by
              rw [← en_set en σ hσ5 0]
              exact blkSet (j := σ) K8.out
            have H8 : SW w (blkA b13 (boxF e) :: blkA (b11 + 1) (.cells #[.int .i64 σ] 3) :: blkA b11 (boxM x0 x1 x2 x3) :: fR b b8 S6 (.slice a9 (all.filter (fun o => !inSl σ o)).length c9) ⟨dropX X σ, all.filter (fun o => !inSl σ o), upd en σ 0, nx⟩) (w7.setCell ⟨b8, σ, none⟩ (.int .i64 0)) :=
              H7.out.at (i := 5) rfl ((Mdh.refl (fun k => k = b8) w7).setCell (p := ⟨b8, σ, none⟩) rfl _) (fun k hk => .inl hk) h8 (fun k hk => .inl hk)
            refine ⟨⟨j + 1, S6, by omega, by simp, by rw [HNX.out, HST2.out], Lib.hid ?_⟩, by simp [intOf]; omega⟩
            rw [HNX.out, HST2.out]
            exact H8.sub (.cons _ (.cons _ (.cons _ (List.Sublist.refl _))))
          · have hnx := HST.out.nx0
            have hnx1 := HST.out.nx1
            simp only at hnx hnx1
            have hnx2 : nx ≤ 81 := by omega
            have d13 := (cellsOf (show wc.heap[b13]? = _ from H5.out.get (i := 0) rfl)).1
            have l13 := blkLt (show wc.heap[b13]? = _ from H5.out.get (i := 0) rfl)
            have halen : all.length ≤ 16384 := by rw [HST.out.pm.length_eq]; exact HST.out.wf.ents_le
            obtain ⟨a7, c7, hv7, hc71, hc72, _⟩ := ownE_at (show Own wc 43 6 u7 all.length (rowE all) from H5.out.get (i := 4) rfl)
            subst hv7
            by_cases h150 : 150 ≤ x0 ∧ 0 < all.length
            · obtain ⟨h15, h0⟩ := h150
              obtain ⟨ρ, hρ⟩ : ∃ ρ : Nat, (ρ : Int) = x1 % (all.length : Int) := ⟨(x1 % (all.length : Int)).toNat, by have := Int.emod_nonneg x1 (b := (all.length : Int)) (by omega); omega⟩
              have hρl : ρ < all.length := by have := Int.emod_lt_of_pos x1 (b := (all.length : Int)) (by omega); omega
              have h0n : ¬ (all.length : Int) = 0 := by omega
              have hr1 : x1 % (all.length : Int) = (ρ : Int) := hρ.symm
              have hr2 : Int.tmod x1 (all.length : Int) = (ρ : Int) := by rw [Int.tmod_eq_emod_of_nonneg (by omega)]; exact hρ.symm
              obtain ⟨o, ho⟩ : ∃ o, all[ρ]? = some o := ⟨_, List.getElem?_eq_getElem hρl⟩
              have HO2 : Hid (oldM ⟨X, all, en, nx⟩ ⟨x0, x1, x2, x3⟩ = ⟨o.seq, o.key, o.del, σ, en σ, o.size⟩) := Lib.hid (by
                unfold oldM
                simp only
                rw [hr1, List.getD_eq_getElem?_getD, show ((ρ : Int)).toNat = ρ by omega, ho, ← HSG.out.1]
                rfl)
              have HOM : Hid (o ∈ all ∧ all ≠ []) := Lib.hid ⟨List.mem_of_getElem? ho, List.length_pos_iff.1 h0⟩
              have HO7 := (show Own wc 43 6 (.slice a7 all.length c7) all.length (rowE all) from H5.out.get (i := 4) rfl)
              obtain ⟨a8, c8, hv8, _, _, hat8⟩ := ownE_at HO7
              injection hv8 with q81 q82 q83
              subst q81
              obtain ⟨g7, rfl, _, _, hc7⟩ := hat8 ρ o ho
              clear hat8 q82 q83 HO7
              have y0 := hc7 0 _ rfl
              have y1 := hc7 1 _ rfl
              have y2 := hc7 2 _ rfl
              have y3 := hc7 3 _ rfl
              have y4 := hc7 4 _ rfl
              have y5 := hc7 5 _ rfl
              simp only [Nat.add_zero] at y0 y1 y2 y3 y4 y5
              clear hc7 hρ ho HE
              have K13 := Lib.hid (show wc.heap[b13]? = _ from H5.out.get (i := 0) rfl)
              obtain ⟨_, f13⟩ := cellsOf K13.out
              go_upto_region 26 with fail
              obtain ⟨W5, hW5⟩ : ∃ y, y = ((((((wc.setCell ⟨b13, 0, none⟩ (.int .i64 o.seq)).setCell ⟨b13, 1, none⟩ (.string o.key)).setCell ⟨b13, 2, none⟩ (.bool o.del)).setCell ⟨b13, 3, none⟩ (.int .i64 o.slot)).setCell ⟨b13, 4, none⟩ (.int .i64 o.off)).setCell ⟨b13, 5, none⟩ (.int .i64 o.size)) := ⟨_, rfl⟩
              have H6 : Hid (SW w (blkA b13 (boxF o) :: blkA (b11 + 1) (.cells #[.int .i64 σ] 3) :: blkA b11 (boxM x0 x1 x2 x3) :: fR b b8 S (.slice (some ⟨g7, 0, none⟩) all.length c7) ⟨X, all, en, nx⟩) W5) := Lib.hid (by
                rw [hW5]
                exact H5.out.step (B := blkA b13 (boxF o)) (T := fun k => k = b13) ((((((((Mdh.refl (fun k => k = b13) wc).setCell (p := ⟨b13, 0, none⟩) rfl _).setCell (p := ⟨b13, 1, none⟩) rfl _).setCell (p := ⟨b13, 2, none⟩) rfl _).setCell (p := ⟨b13, 3, none⟩) rfl _).setCell (p := ⟨b13, 4, none⟩) rfl _).setCell (p := ⟨b13, 5, none⟩) rfl _)) (fun k hk => .inl hk) (blk6 K13.out) (fun k hk => .inl hk))
              rw [← hW5]
              clear hW5 y0 y1 y2 y3 y4 y5 f13 d13 l13 d12 l12 d11 l11 K13 H5
              have K13 := Lib.hid (show W5.heap[b13]? = _ from H6.out.get (i := 0) rfl)
              obtain ⟨d13, f13⟩ := cellsOf K13.out
              have l13 := blkLt K13.out
              have d12 := (cellsOf (show W5.heap[b11 + 1]? = _ from H6.out.get (i := 1) rfl)).1
              have l12 := blkLt (show W5.heap[b11 + 1]? = _ from H6.out.get (i := 1) rfl)
              have d8 := ((cellsOf (show W5.heap[b8]? = _ from H6.out.get (i := 5) rfl)).1 σ).trans (show (#[Value.int .i64 (en 0), .int .i64 (en 1), .int .i64 (en 2), .int .i64 (en 3), .int .i64 (en 4)] : Array Value)[σ]? = some (.int .i64 (en σ)) from by
                have h : σ = 0 ∨ σ = 1 ∨ σ = 2 ∨ σ = 3 ∨ σ = 4 := by omega
                rcases h with rfl | rfl | rfl | rfl | rfl <;> rfl)
              have l8 := blkLt (show W5.heap[b8]? = _ from H6.out.get (i := 5) rfl)
              have hN12 : ¬ (b11 + 1 = b13) := fun h => (H6.out.get_ne (i := 1) (j := 0) rfl rfl (by decide)) (b11 + 1) rfl h
              have hN8 : ¬ (b8 = b13) := fun h => (H6.out.get_ne (i := 5) (j := 0) rfl rfl (by decide)) b8 rfl h
              have HG := Gr.refl W5.drew
              refine wp_region_flo (fun k => k = b13) [] [] (by kernel_rfl) (by kernel_rfl) (fun k hk => by subst hk; exact l13) ?_
              refine flo_seg 5 rfl ?_
              simp only [List.take_succ_cons, List.take_zero, List.drop_succ_cons, List.drop_zero]
              repeat (go_big_quiet_step (fail))
              refine wpQuiet_nil ?_
              refine flo_eff rfl rfl rfl rfl (fun K hK => ?_)
              go_wp2
              refine ⟨by (first | (refine Gr.mdh ?_ _; (repeat (first | (with_reducible exact Gr.refl _) | assumption | (with_reducible apply Gr.from_drew) | (with_reducible apply Gr.alloc) | (with_reducible apply Gr.drew) | (with_reducible refine Gr.trans ?_ (by assumption)) | (with_reducible refine Gr.setCell ?_ (by omega) _))); done) | (repeat (first | (with_reducible exact Mdh.refl _ _) | (with_reducible refine Mdh.setCell ?_ (by simp) _) | (with_reducible refine Mdh.setNew ?_ (by simp) _) | (with_reducible apply Mdh.alloc) | (with_reducible apply Mdh.from_drew) | (with_reducible apply Mdh.drew) | (with_reducible refine Mdh.gr ?_ (by assumption))))), ?_⟩
              refine flo_seg 1 rfl ?_
              simp only [List.take_succ_cons, List.take_zero, List.drop_succ_cons, List.drop_zero]
              repeat (go_big_quiet_step (fail))
              refine wpQuiet_nil ?_
              refine flo_eff rfl rfl rfl rfl (fun K hK => ?_)
              go_wp2
              refine ⟨by (first | (refine Gr.mdh ?_ _; (repeat (first | (with_reducible exact Gr.refl _) | assumption | (with_reducible apply Gr.from_drew) | (with_reducible apply Gr.alloc) | (with_reducible apply Gr.drew) | (with_reducible refine Gr.trans ?_ (by assumption)) | (with_reducible refine Gr.setCell ?_ (by omega) _))); done) | (repeat (first | (with_reducible exact Mdh.refl _ _) | (with_reducible refine Mdh.setCell ?_ (by simp) _) | (with_reducible refine Mdh.setNew ?_ (by simp) _) | (with_reducible apply Mdh.alloc) | (with_reducible apply Mdh.from_drew) | (with_reducible apply Mdh.drew) | (with_reducible refine Mdh.gr ?_ (by assumption))))), ?_⟩
              refine flo_nil ?_
              obtain ⟨W6, hW6⟩ : ∃ y, y = ((W5.setCell ⟨b13, 3, none⟩ (.int .i64 σ)).setCell ⟨b13, 4, none⟩ (.int .i64 (en σ))).drew := ⟨_, rfl⟩
              obtain ⟨e, he⟩ : ∃ e, e = (⟨o.seq, o.key, o.del, σ, en σ, o.size⟩ : En) := ⟨_, rfl⟩
              have HE := Lib.hid he
              rw [← he] at HO2
              have HW6 : Hid (SW w (blkA b13 (boxF e) :: blkA (b11 + 1) (.cells #[.int .i64 σ] 3) :: blkA b11 (boxM x0 x1 x2 x3) :: fR b b8 S (.slice (some ⟨g7, 0, none⟩) all.length c7) ⟨X, all, en, nx⟩) W6) := Lib.hid (by
                rw [hW6, he]
                exact (H6.out.put (((Mdh.refl (fun k => k = b13) W5).setCell (p := ⟨b13, 3, none⟩) rfl _).setCell (p := ⟨b13, 4, none⟩) rfl _) (blkSet (j := 4) (blkSet (j := 3) K13.out))).gr (Gr.refl _).drew)
              rw [← hW6]
              clear hW6 he d13 f13 l13 d12 l12 d8 l8 H6 K13 HG hN12 hN8
              obtain ⟨a7, ha7⟩ : ∃ a : Option Addr, a = some ⟨g7, 0, none⟩ := ⟨_, rfl⟩
              rw [← ha7] at HW6
              rw [← ha7]
              clear ha7
              have hne12 : ¬ (Value.slice a7 all.length c7).ownBlock = some (b11 + 1) := own_ne (show Own W6 43 6 (Value.slice a7 all.length c7) all.length (rowE all) from HW6.out.get (i := 4) rfl) (show W6.heap[b11 + 1]? = _ from HW6.out.get (i := 1) rfl) (by decide)
              have HC := Lib.hid (ContainsF all (by omega) a7 c7 W6 (show Own W6 43 6 (Value.slice a7 all.length c7) all.length (rowE all) from HW6.out.get (i := 4) rfl) (filP2 e (σ : Int) (b11 + 1) b13 W6 (fun _ => False) (fun h => h) (fun h => h) (show W6.heap[b11 + 1]? = _ from HW6.out.get (i := 1) rfl) (show W6.heap[b13]? = _ from HW6.out.get (i := 0) rfl)))
              have HLOW : Hid (Low e.key ∧ En64 e ∧ e.slot = σ ∧ e.off = en σ) := Lib.hid (by
                have h1 := HST.out.sm o HOM.out.1
                have h2 := (valid_iff o).1 (HST.out.wf.valid ((HST.out.mem o).1 HOM.out.1)).1
                rw [HE.out]
                refine ⟨h1.2.2, ?_, rfl, rfl⟩
                unfold En64
                simp only
                omega)
              have HBD : Hid (0 ≤ e.off ∧ e.off ≤ 6800 ∧ 0 ≤ e.size ∧ e.size ≤ 68) := Lib.hid (by
                have h1 := HST.out.sm o HOM.out.1
                have h2 := (valid_iff o).1 (HST.out.wf.valid ((HST.out.mem o).1 HOM.out.1)).1
                have h3 := HST.out.en0 (σ : Int)
                simp only at h3
                rw [HE.out]
                simp only
                omega)
              clear hne12
              go_wp2_with fail
              refine Calls.mono HC.out ?_
              rintro r w7 ⟨rfl, hg⟩
              have HW7 := Lib.hid (HW6.out.gr hg)
              clear hg HC HW6
              have d12 := (cellsOf (show w7.heap[b11 + 1]? = _ from HW7.out.get (i := 1) rfl)).1
              have l12 := blkLt (show w7.heap[b11 + 1]? = _ from HW7.out.get (i := 1) rfl)
              have d11 := (cellsOf (show w7.heap[b11]? = _ from HW7.out.get (i := 2) rfl)).1
              have l11 := blkLt (show w7.heap[b11]? = _ from HW7.out.get (i := 2) rfl)
              have d13 := (cellsOf (show w7.heap[b13]? = _ from HW7.out.get (i := 0) rfl)).1
              have l13 := blkLt (show w7.heap[b13]? = _ from HW7.out.get (i := 0) rfl)
              cases hd : all.any (dupP (σ : Int) e.seq) with
              | true =>
                have hd' : all.any (dupP (x2 % 5) (oldM ⟨X, all, en, nx⟩ ⟨x0, x1, x2, x3⟩).seq) = true := by rw [HO2.out, ← HSG.out.1]; exact hd
                obtain ⟨q1, q2, q3⟩ := FS.copyNo (m := ⟨x0, x1, x2, x3⟩) HST.out (by omega) HOM.out.2 hd'
                rw [HO2.out] at q1 q2
                have HQ := Lib.hid (And.intro q1 q2)
                have HST2 : Hid (stepF ⟨X, all, en, nx⟩ ⟨x0, x1, x2, x3⟩ = ⟨X, all, en, nx⟩) := Lib.hid (by
                  unfold stepF
                  rw [if_neg (by show ¬ (224 ≤ x0); omega), if_pos ⟨h15, HOM.out.2⟩, if_pos hd'])
                clear hd' q1 q2 q3 hd
                go_wp2_with fail
                refine (Add_any (show IXR w7 b X S from HW7.out.get (i := 3) rfl) e HLOW.out.1 HLOW.out.2.1).mono ?_
                rintro r w6 ⟨rfl, hp⟩
                obtain ⟨S6, hI6, hm6, hn6⟩ := hp
                have H6 : Hid (SW w (blkA b13 (boxF e) :: blkA (b11 + 1) (.cells #[.int .i64 σ] 3) :: blkA b11 (boxM x0 x1 x2 x3) :: fR b b8 S6 (Value.slice a7 all.length c7) ⟨X, all, en, nx⟩) w6) := Lib.hid (by
                  rw [HQ.out.2] at hI6
                  exact HW7.out.at (i := 3) rfl hm6 (fun k hk => .inl hk) (B := ixA b X S6) hI6 hn6)
                rw [HQ.out.1]
                clear hI6 hm6 hn6 HW7 d12 l12 d11 l11 d13 l13
                go_wp2_with fail
                refine ⟨⟨j + 1, S6, by omega, by simp, by rw [HNX.out, HST2.out], Lib.hid ?_⟩, by simp [intOf]; omega⟩
                rw [HNX.out, HST2.out]
                exact H6.out.sub (.cons _ (.cons _ (.cons _ (List.Sublist.refl _))))
              | false =>
                have hd' : all.any (dupP (x2 % 5) (oldM ⟨X, all, en, nx⟩ ⟨x0, x1, x2, x3⟩).seq) = false := by rw [HO2.out, ← HSG.out.1]; exact hd
                obtain ⟨q1, _⟩ := FS.copyYes (m := ⟨x0, x1, x2, x3⟩) HST.out (by omega) HOM.out.2 hd'
                rw [HO2.out] at q1
                have HQ := Lib.hid q1
                have HST2 : Hid (stepF ⟨X, all, en, nx⟩ ⟨x0, x1, x2, x3⟩ = pushF ⟨X, all, en, nx⟩ e nx) := Lib.hid (by
                  unfold stepF
                  rw [if_neg (by show ¬ (224 ≤ x0); omega), if_pos ⟨h15, HOM.out.2⟩, if_neg (by rw [hd']; decide), HO2.out])
                clear hd' q1 hd
                go_wp2_with fail
                refine (Add_any (show IXR w7 b X S from HW7.out.get (i := 3) rfl) e HLOW.out.1 HLOW.out.2.1).mono ?_
                rintro r w6 ⟨rfl, hp⟩
                obtain ⟨S6, hI6, hm6, hn6⟩ := hp
                have H6 : Hid (SW w (blkA b13 (boxF e) :: blkA (b11 + 1) (.cells #[.int .i64 σ] 3) :: blkA b11 (boxM x0 x1 x2 x3) :: fR b b8 S6 (Value.slice a7 all.length c7) ⟨addX X e, all, en, nx⟩) w6) := Lib.hid (HW7.out.at (i := 3) rfl hm6 (fun k hk => .inl hk) hI6 hn6)
                rw [HQ.out]
                clear hI6 hm6 hn6 HW7 d12 l12 d11 l11 d13 l13
                go_wp2_with fail
                obtain ⟨bd1, bd2, bd3, bd4⟩ := HBD.out
                have d12 := (cellsOf (show w6.heap[b11 + 1]? = _ from H6.out.get (i := 1) rfl)).1
                have l12 := blkLt (show w6.heap[b11 + 1]? = _ from H6.out.get (i := 1) rfl)
                have d13 := (cellsOf (show w6.heap[b13]? = _ from H6.out.get (i := 0) rfl)).1
                have l13 := blkLt (show w6.heap[b13]? = _ from H6.out.get (i := 0) rfl)
                have K8 := Lib.hid (show w6.heap[b8]? = some (.cells #[.int .i64 (en 0), .int .i64 (en 1), .int .i64 (en 2), .int .i64 (en 3), .int .i64 (en 4)] 172) from H6.out.get (i := 5) rfl)
                have HO := Lib.hid (show Own w6 43 6 (Value.slice a7 all.length c7) all.length (rowE all) from H6.out.get (i := 4) rfl)
                have HN8 : Hid (¬ (Value.slice a7 all.length c7).ownBlock = some b8) := Lib.hid (own_ne HO.out K8.out (by decide))
                have hN12 : ¬ (Value.slice a7 all.length c7).ownBlock = some (b11 + 1) := own_ne HO.out (show w6.heap[b11 + 1]? = _ from H6.out.get (i := 1) rfl) (by decide)
                have hN13 : ¬ (Value.slice a7 all.length c7).ownBlock = some b13 := fun h => (H6.out.get_ne (i := 4) (j := 0) rfl rfl (by decide)) b13 h rfl
                have HG := Gr.refl w6.drew
                refine wp_region_flt 11 (fun q => (Value.slice a7 all.length c7).ownBlock = some q) [] [] (by kernel_rfl) (by kernel_rfl) (by decide) (by kernel_rfl) (fun q hq => HO.out.lt hq) ?_
                simp only [List.take_succ_cons, List.take_zero, List.drop_succ_cons, List.drop_zero]
                refine flo_seg 3 rfl ?_
                simp only [List.take_succ_cons, List.take_zero, List.drop_succ_cons, List.drop_zero]
                repeat (go_big_quiet_step (fail))
                refine wpQuiet_nil ?_
                refine flo_eff rfl rfl rfl rfl (fun K hK => ?_)
                go_wp2
                refine ⟨by (first | (refine Gr.mdh ?_ _; (repeat (first | (with_reducible exact Gr.refl _) | assumption | (with_reducible apply Gr.from_drew) | (with_reducible apply Gr.alloc) | (with_reducible apply Gr.drew) | (with_reducible refine Gr.trans ?_ (by assumption)) | (with_reducible refine Gr.setCell ?_ (by omega) _))); done) | (repeat (first | (with_reducible exact Mdh.refl _ _) | (with_reducible refine Mdh.setCell ?_ (by simp) _) | (with_reducible refine Mdh.setNew ?_ (by simp) _) | (with_reducible apply Mdh.alloc) | (with_reducible apply Mdh.from_drew) | (with_reducible apply Mdh.drew) | (with_reducible refine Mdh.gr ?_ (by assumption))))), ?_⟩
                refine flo_eff rfl rfl rfl rfl (fun K hK => ?_)
                refine wp_appv _ (.tmp 138) (.tmp 140) 53 rfl 43 i0 _ 6 56 Try.underlying53 hi hz0 hz1 hz2 rfl (by decide) (Value.slice a7 all.length c7) all.length (rowE all) rfl (HO.out.gr (by (repeat (first | (with_reducible exact Gr.refl _) | assumption | (with_reducible apply Gr.from_drew) | (with_reducible apply Gr.alloc) | (with_reducible apply Gr.drew) | (with_reducible refine Gr.trans ?_ (by assumption)) | (with_reducible refine Gr.setCell ?_ (by omega) _))))) (some ⟨w6.heap.size, 0, none⟩) 1 1 (enC e) rfl ((show SrcAt (w6.alloc (.cells #[.int .i64 e.seq, .string e.key, .bool e.del, .int .i64 e.slot, .int .i64 e.off, .int .i64 e.size] 43)) 6 (some ⟨w6.heap.size, 0, none⟩) 1 (enC e) from src_newK w6 (enC e) _ 6 rfl (enC_one e)).gr (by (repeat (first | (with_reducible exact Gr.refl _) | assumption | (with_reducible apply Gr.from_drew) | (with_reducible apply Gr.alloc) | (with_reducible apply Gr.drew) | (with_reducible refine Gr.trans ?_ (by assumption)) | (with_reducible refine Gr.setCell ?_ (by omega) _))))) (by simp only [maxLen]; omega) (by omega) (fun v3 xa hk3 => ?_); obtain ⟨a3, c3, rfl⟩ := hk3.val; refine hK _ _ ⟨hk3.mdh (fun q hq => .inl hq), ?_⟩; simp only [Act.put, List.setIfInBounds_toArray, List.set_cons_succ, List.set_cons_zero]
                refine flo_seg 6 rfl ?_
                simp only [List.take_succ_cons, List.take_zero, List.drop_succ_cons, List.drop_zero]
                repeat (go_big_quiet_step (fail))
                refine wpQuiet_nil ?_
                refine flo_nil ?_
                have HST3 : Hid (filS (L.take (j + 1)) = ⟨addX X e, all ++ [e], upd en σ (e.off + e.size), nx⟩) := Lib.hid (by rw [HNX.out, HST2.out]; unfold pushF; rw [HLOW.out.2.2.1])
                have K8x : xa.heap[b8]? = _ := (hk3.mdh (fun g h => h)).blk ((((Gr.refl w6).alloc _).drew).blk K8.out) HN8.out
                have K8 := Lib.hid K8x
                obtain ⟨d8, f8⟩ := cellsOf K8x
                have l8 := blkLt K8x
                have H7 : Hid (SW w (blkA b13 (boxF e) :: blkA (b11 + 1) (.cells #[.int .i64 σ] 3) :: blkA b11 (boxM x0 x1 x2 x3) :: fR b b8 S6 (.slice a3 (all.length + 1) c3) ⟨addX X e, all ++ [e], en, nx⟩) xa) := Lib.hid ((H6.out.gr (((Gr.refl w6).alloc _).drew)).at (i := 4) rfl (hk3.mdh (fun g h => h)) (fun k hk => .inl hk) (B := rowA 43 6 (.slice a3 (all.length + 1) c3) (all ++ [e]).length (rowE (all ++ [e]))) (by
                  show Own _ _ _ _ _ _
                  rw [rowE_snoc, List.length_append]
                  exact hk3.1) (fun k hq => hk3.2.1 k hq))
                clear K8x hk3 d12 d13 l12 l13 HG
                go_wp2_with fail
                have h8 : (xa.setCell ⟨b8, σ, none⟩ (.int .i64 (e.off + e.size))).heap[b8]? = some (.cells #[.int .i64 (upd en σ (e.off + e.size) 0), .int .i64 (upd en σ (e.off + e.size) 1), .int .i64 (upd en σ (e.off + e.size) 2), .int .i64 (upd en σ (e.off + e.size) 3), .int .i64 (upd en σ (e.off + e.size) 4)] 172) := by
                  rw [← en_set en σ hσ5 (e.off + e.size)]
                  exact blkSet (j := σ) K8.out
                have H8 : SW w (blkA b13 (boxF e) :: blkA (b11 + 1) (.cells #[.int .i64 σ] 3) :: blkA b11 (boxM x0 x1 x2 x3) :: fR b b8 S6 (.slice a3 (all.length + 1) c3) ⟨addX X e, all ++ [e], upd en σ (e.off + e.size), nx⟩) (xa.setCell ⟨b8, σ, none⟩ (.int .i64 (e.off + e.size))) :=
                  H7.out.at (i := 5) rfl ((Mdh.refl (fun k => k = b8) xa).setCell (p := ⟨b8, σ, none⟩) rfl _) (fun k hk => .inl hk) h8 (fun k hk => .inl hk)
                refine ⟨⟨j + 1, S6, by omega, by simp, by rw [HST3.out], Lib.hid ?_⟩, by simp [intOf]; omega⟩
                rw [HST3.out]
                exact H8.sub (.cons _ (.cons _ (.cons _ (List.Sublist.refl _))))
            · skip
              have HST2 : Hid (stepF ⟨X, all, en, nx⟩ ⟨x0, x1, x2, x3⟩ = pushF ⟨X, all, en, nx⟩ e (nx + 1)) := Lib.hid (by
                unfold stepF
                rw [if_neg h224, if_neg (fun h => h150 ⟨h.1, List.length_pos_iff.2 h.2⟩), HE.out])
              obtain ⟨q1, _⟩ := FS.new HST.out (by omega) HOK.out
              rw [← HE.out] at q1
              have HQ := Lib.hid q1
              have HLOW : Hid (Low e.key ∧ En64 e ∧ e.slot = σ ∧ e.off = en σ) := Lib.hid (by
                obtain ⟨r1, r2, r3, r4⟩ := mvKey_ok x1
                rw [HE.out]
                refine ⟨r4, ?_, HSG.out.1.symm, by rw [HSG.out.1]; rfl⟩
                unfold En64 newM
                simp only
                split <;> omega)
              have HBD : Hid (0 ≤ e.off ∧ e.off ≤ 6800 ∧ 0 ≤ e.size ∧ e.size ≤ 68) := Lib.hid (by
                obtain ⟨r1, r2, r3, r4⟩ := mvKey_ok x1
                have h1 := HST.out.en0 (σ : Int)
                have h2 := HLOW.out.2.2.2
                simp only at h1
                refine ⟨by omega, by omega, ?_⟩
                rw [HE.out]
                unfold newM
                simp only
                split <;> omega)
              clear q1
              by_cases hx150 : 150 ≤ x0
              all_goals
                (first | (have hz : ¬ (0 : Int) < all.length := by omega) | skip)
                go_wp2_with fail
                refine (Add_any (show IXR wc b X S from H5.out.get (i := 3) rfl) e HLOW.out.1 HLOW.out.2.1).mono ?_
                rintro r w6 ⟨rfl, hp⟩
                obtain ⟨S6, hI6, hm6, hn6⟩ := hp
                have H6 : Hid (SW w (blkA b13 (boxF e) :: blkA (b11 + 1) (.cells #[.int .i64 σ] 3) :: blkA b11 (boxM x0 x1 x2 x3) :: fR b b8 S6 (Value.slice a7 all.length c7) ⟨addX X e, all, en, nx⟩) w6) := Lib.hid (H5.out.at (i := 3) rfl hm6 (fun k hk => .inl hk) hI6 hn6)
                rw [HQ.out]
                clear hI6 hm6 hn6 H5 d12 l12 d11 l11 d13 l13
                go_wp2_with fail
                obtain ⟨bd1, bd2, bd3, bd4⟩ := HBD.out
                have d12 := (cellsOf (show w6.heap[b11 + 1]? = _ from H6.out.get (i := 1) rfl)).1
                have l12 := blkLt (show w6.heap[b11 + 1]? = _ from H6.out.get (i := 1) rfl)
                have d13 := (cellsOf (show w6.heap[b13]? = _ from H6.out.get (i := 0) rfl)).1
                have l13 := blkLt (show w6.heap[b13]? = _ from H6.out.get (i := 0) rfl)
                have K8 := Lib.hid (show w6.heap[b8]? = some (.cells #[.int .i64 (en 0), .int .i64 (en 1), .int .i64 (en 2), .int .i64 (en 3), .int .i64 (en 4)] 172) from H6.out.get (i := 5) rfl)
                have HO := Lib.hid (show Own w6 43 6 (Value.slice a7 all.length c7) all.length (rowE all) from H6.out.get (i := 4) rfl)
                have HN8 : Hid (¬ (Value.slice a7 all.length c7).ownBlock = some b8) := Lib.hid (own_ne HO.out K8.out (by decide))
                have hN12 : ¬ (Value.slice a7 all.length c7).ownBlock = some (b11 + 1) := own_ne HO.out (show w6.heap[b11 + 1]? = _ from H6.out.get (i := 1) rfl) (by decide)
                have hN13 : ¬ (Value.slice a7 all.length c7).ownBlock = some b13 := fun h => (H6.out.get_ne (i := 4) (j := 0) rfl rfl (by decide)) b13 h rfl
                have HG := Gr.refl w6.drew
                refine wp_region_flt 11 (fun q => (Value.slice a7 all.length c7).ownBlock = some q) [] [] (by kernel_rfl) (by kernel_rfl) (by decide) (by kernel_rfl) (fun q hq => HO.out.lt hq) ?_
                simp only [List.take_succ_cons, List.take_zero, List.drop_succ_cons, List.drop_zero]
                refine flo_seg 3 rfl ?_
                simp only [List.take_succ_cons, List.take_zero, List.drop_succ_cons, List.drop_zero]
                repeat (go_big_quiet_step (fail))
                refine wpQuiet_nil ?_
                refine flo_eff rfl rfl rfl rfl (fun K hK => ?_)
                go_wp2
                refine ⟨by (first | (refine Gr.mdh ?_ _; (repeat (first | (with_reducible exact Gr.refl _) | assumption | (with_reducible apply Gr.from_drew) | (with_reducible apply Gr.alloc) | (with_reducible apply Gr.drew) | (with_reducible refine Gr.trans ?_ (by assumption)) | (with_reducible refine Gr.setCell ?_ (by omega) _))); done) | (repeat (first | (with_reducible exact Mdh.refl _ _) | (with_reducible refine Mdh.setCell ?_ (by simp) _) | (with_reducible refine Mdh.setNew ?_ (by simp) _) | (with_reducible apply Mdh.alloc) | (with_reducible apply Mdh.from_drew) | (with_reducible apply Mdh.drew) | (with_reducible refine Mdh.gr ?_ (by assumption))))), ?_⟩
                refine flo_eff rfl rfl rfl rfl (fun K hK => ?_)
                refine wp_appv _ (.tmp 138) (.tmp 140) 53 rfl 43 i0 _ 6 56 Try.underlying53 hi hz0 hz1 hz2 rfl (by decide) (Value.slice a7 all.length c7) all.length (rowE all) rfl (HO.out.gr (by (repeat (first | (with_reducible exact Gr.refl _) | assumption | (with_reducible apply Gr.from_drew) | (with_reducible apply Gr.alloc) | (with_reducible apply Gr.drew) | (with_reducible refine Gr.trans ?_ (by assumption)) | (with_reducible refine Gr.setCell ?_ (by omega) _))))) (some ⟨w6.heap.size, 0, none⟩) 1 1 (enC e) rfl ((show SrcAt (w6.alloc (.cells #[.int .i64 e.seq, .string e.key, .bool e.del, .int .i64 e.slot, .int .i64 e.off, .int .i64 e.size] 43)) 6 (some ⟨w6.heap.size, 0, none⟩) 1 (enC e) from src_newK w6 (enC e) _ 6 rfl (enC_one e)).gr (by (repeat (first | (with_reducible exact Gr.refl _) | assumption | (with_reducible apply Gr.from_drew) | (with_reducible apply Gr.alloc) | (with_reducible apply Gr.drew) | (with_reducible refine Gr.trans ?_ (by assumption)) | (with_reducible refine Gr.setCell ?_ (by omega) _))))) (by simp only [maxLen]; omega) (by omega) (fun v3 xa hk3 => ?_); obtain ⟨a3, c3, rfl⟩ := hk3.val; refine hK _ _ ⟨hk3.mdh (fun q hq => .inl hq), ?_⟩; simp only [Act.put, List.setIfInBounds_toArray, List.set_cons_succ, List.set_cons_zero]
                refine flo_seg 6 rfl ?_
                simp only [List.take_succ_cons, List.take_zero, List.drop_succ_cons, List.drop_zero]
                repeat (go_big_quiet_step (fail))
                refine wpQuiet_nil ?_
                refine flo_nil ?_
                have HST3 : Hid (filS (L.take (j + 1)) = ⟨addX X e, all ++ [e], upd en σ (e.off + e.size), nx + 1⟩) := Lib.hid (by rw [HNX.out, HST2.out]; unfold pushF; rw [HLOW.out.2.2.1])
                have K8x : xa.heap[b8]? = _ := (hk3.mdh (fun g h => h)).blk ((((Gr.refl w6).alloc _).drew).blk K8.out) HN8.out
                have K8 := Lib.hid K8x
                obtain ⟨d8, f8⟩ := cellsOf K8x
                have l8 := blkLt K8x
                have H7 : Hid (SW w (blkA b13 (boxF e) :: blkA (b11 + 1) (.cells #[.int .i64 σ] 3) :: blkA b11 (boxM x0 x1 x2 x3) :: fR b b8 S6 (.slice a3 (all.length + 1) c3) ⟨addX X e, all ++ [e], en, nx + 1⟩) xa) := Lib.hid ((H6.out.gr (((Gr.refl w6).alloc _).drew)).at (i := 4) rfl (hk3.mdh (fun g h => h)) (fun k hk => .inl hk) (B := rowA 43 6 (.slice a3 (all.length + 1) c3) (all ++ [e]).length (rowE (all ++ [e]))) (by
                  show Own _ _ _ _ _ _
                  rw [rowE_snoc, List.length_append]
                  exact hk3.1) (fun k hq => hk3.2.1 k hq))
                clear K8x hk3 d12 d13 l12 l13 HG
                go_wp2_with fail
                have h8 : (xa.setCell ⟨b8, σ, none⟩ (.int .i64 (e.off + e.size))).heap[b8]? = some (.cells #[.int .i64 (upd en σ (e.off + e.size) 0), .int .i64 (upd en σ (e.off + e.size) 1), .int .i64 (upd en σ (e.off + e.size) 2), .int .i64 (upd en σ (e.off + e.size) 3), .int .i64 (upd en σ (e.off + e.size) 4)] 172) := by
                  rw [← en_set en σ hσ5 (e.off + e.size)]
                  exact blkSet (j := σ) K8.out
                have H8 : SW w (blkA b13 (boxF e) :: blkA (b11 + 1) (.cells #[.int .i64 σ] 3) :: blkA b11 (boxM x0 x1 x2 x3) :: fR b b8 S6 (.slice a3 (all.length + 1) c3) ⟨addX X e, all ++ [e], upd en σ (e.off + e.size), nx + 1⟩) (xa.setCell ⟨b8, σ, none⟩ (.int .i64 (e.off + e.size))) :=
                  H7.out.at (i := 5) rfl ((Mdh.refl (fun k => k = b8) xa).setCell (p := ⟨b8, σ, none⟩) rfl _) (fun k hk => .inl hk) h8 (fun k hk => .inl hk)
                refine ⟨⟨j + 1, S6, by omega, by simp, by rw [HST3.out], Lib.hid ?_⟩, by simp [intOf]; omega⟩
                rw [HST3.out]
                exact H8.sub (.cons _ (.cons _ (.cons _ (List.Sublist.refl _))))
      · have hlt' : ¬ (j : Int) < n := by omega
        obtain rfl : j = n := by omega
        have HT : Hid (L.take j = L.take 80) := Lib.hid (by
          by_cases h : len ≤ 80
          · rw [List.take_of_length_le (by have := HL.out; have := HN.out; omega), List.take_of_length_le (by have := HL.out; omega)]
          · rw [show j = 80 by have := HN.out; omega])
        go_wp2
        refine bodyPost_ret (v := .tuple #[.pointer (some ⟨b, 0, none⟩), u7, .bool true]) ?_ rfl ⟨b, b8, S, _, rfl, by rw [← HT.out]; exact HR.out⟩
        simp [results, Try.results37, go_sem]
end Go.Proofs.Ytndknnhgdlgbgaa

/- Behind filled of chapter 21: what it returns as a slice of its own; an entry with a number of its own behind those of a slot. -/
set_option linter.unusedVariables false
set_option linter.unusedSimpArgs false
namespace Go.Proofs.Ytndknnhgdlgbgaa
open Go.RowKit Go.Shelf

def FilR (w : World) (L : List Mv) (e : Ending) (w' : World) : Prop := ∃ b S a cap, e = .returned (.tuple #[.pointer (some ⟨b, 0, none⟩), .slice a (filS (L.take 80)).all.length cap, .bool true]) ∧ SW w [ixA b (filS (L.take 80)).X S, rowA 43 6 (.slice a (filS (L.take 80)).all.length cap) (filS (L.take 80)).all.length (rowE (filS (L.take 80)).all)] w'
theorem FilPost.r {w w' : World} {L : List Mv} {e : Ending} (h : FilPost w L e w') : FilR w L e w' := by
  obtain ⟨b, b8, S, v, rfl, h⟩ := h
  obtain ⟨a, cap, rfl, _, _, _⟩ := ownE_at (show Own w' 43 6 v _ (rowE (filS (L.take 80)).all) from h.get (i := 1) rfl)
  exact ⟨b, S, a, cap, rfl, h.sub (.cons_cons _ (.cons_cons _ (.cons _ (List.Sublist.refl _))))⟩
theorem movesOk {w : World} {a : Option Addr} {L : List Mv} (h : MovesAt w a L) (n : Nat) : ∀ m ∈ L.take n, m.Ok := fun m hm => by
  obtain ⟨i, hi⟩ := List.mem_iff_getElem?.1 (List.mem_of_mem_take hm)
  obtain ⟨_, _, _, _, _, _, _, _, h⟩ := h i m hi
  exact h
theorem filS_fi {w : World} {a : Option Addr} {L : List Mv} (h : MovesAt w a L) {n : Nat} (hn : n ≤ 80) : FI (filS (L.take n)).X (filS (L.take n)).all (filS (L.take n)).en (filS (L.take n)).nx n 5 := by
  have h1 := filS_ok (L.take n) (by rw [List.length_take]; omega) (movesOk h n)
  exact FI.later h1 (by rw [List.length_take]; omega)
theorem FI.freshOk {X : IX} {all : List En} {en : Int → Int} {nx j n : Int} (h : FI X all en nx j n) {e : En} (hq : nx ≤ e.seq) (hq2 : e.seq ≤ 1099511627776) (h0 : 0 ≤ e.slot) (h1 : e.slot < n) (ho : en e.slot ≤ e.off) (hk : keyChk e.key = 0) (hz : 16 + (e.key.size : Int) ≤ e.size) (hz2 : e.size = 16 + (e.key.size : Int) ∨ e.del = false) (hs : e.size ≤ 8192) (hs2 : e.off ≤ 8192 - e.size) : AddOk X e := by
  have he := h.en0 e.slot
  have hx := h.nx0
  refine ⟨h.ne, h.has h0 h1, (valid_iff e).2 ⟨hk, by omega, by omega, by omega, hz, hz2, by omega, by omega⟩, fun o hm => ?_, fun o hm => ?_, clash_end (fun o hm => ?_) (fun o hm => ?_)⟩
  · have := h.sq o ((h.of _ o).1 hm).1
    exact badE_no (fun hh => by omega)
  · have := h.sq o ((h.of _ o).1 hm).1
    unfold sameE
    exact decide_eq_false (fun hh => by omega)
  · obtain ⟨h1, h2⟩ := (h.slot _ o).1 hm
    have := h.up o h1
    rw [h2] at this
    omega
  · obtain ⟨h1, h2⟩ := (h.slot _ o).1 hm
    have := (valid_iff o).1 (h.wf.valid ((h.mem o).1 h1)).1
    omega
theorem FI.len {X : IX} {all : List En} {en : Int → Int} {nx j n : Int} (h : FI X all en nx j n) : (X.ents.length : Int) = all.length := by rw [h.pm.length_eq]
theorem low_key : Low ⟨#[107, 101, 121]⟩ := by unfold Low; decide
end Go.Proofs.Ytndknnhgdlgbgaa

/- How many an index can have of a key, in a slot, and keys. No walk. -/
set_option linter.unusedVariables false
set_option linter.unusedSimpArgs false
namespace Go.Proofs.Ytndknnhgdlgbgaa

theorem of_len {X : IX} (h : X.Wf) (k : ByteArray) : (X.of k).length ≤ X.ents.length := by
  rw [show X.ents.length = (X.keys.flatMap Prod.snd).length from h.v.length_eq.symm]
  unfold IX.of
  cases hl : look ltS X.keys k with
  | none => simp
  | some l =>
    have hx := look_some hl
    have h1 : l ∈ X.keys.map Prod.snd := List.mem_map.2 ⟨_, List.mem_of_getElem? hx, rfl⟩
    exact (List.sublist_flatten_of_mem h1).length_le
theorem slot_len_le (X : IX) (s : Int) : (X.slot s).length ≤ X.ents.length := by
  unfold IX.slot
  split
  · rw [List.getD_eq_getElem?_getD]
    cases hl : X.slots[s.toNat]? with
    | none => simp
    | some l => exact (List.sublist_flatten_of_mem (List.mem_of_getElem? hl)).length_le
  · simp
theorem pairs_len : ∀ (L : List (ByteArray × List En)), (∀ x ∈ L, x.2 ≠ []) → L.length ≤ (L.flatMap Prod.snd).length
  | [], _ => by simp
  | x :: L, h => by
    have h1 := pairs_len L (fun y hy => h y (List.mem_cons_of_mem _ hy))
    have h2 := List.length_pos_iff.2 (h x (by simp))
    simp only [List.flatMap_cons, List.length_append, List.length_cons]
    omega
theorem ks_len {X : IX} (h : X.Wf) : X.ks.length ≤ X.ents.length := by
  rw [show X.ents.length = (X.keys.flatMap Prod.snd).length from h.v.length_eq.symm]
  unfold IX.ks
  rw [List.length_map]
  exact pairs_len _ (fun x hx => (h.k x hx).ne)
theorem stepF_len (st : FS) (m : Mv) : (stepF st m).all.length ≤ st.all.length + 1 := by
  unfold stepF
  split
  · have := List.length_filter_le (fun o => !inSl (m.slot % 5) o) st.all
    show (st.all.filter _).length ≤ _
    omega
  · split
    · split
      · omega
      · show (st.all ++ [_]).length ≤ _
        simp
    · show (st.all ++ [_]).length ≤ _
      simp
theorem filS_len : ∀ (L : List Mv), (filS L).all.length ≤ L.length := fun L => by
  have h : ∀ (L : List Mv) (st : FS), (L.foldl stepF st).all.length ≤ st.all.length + L.length := by
    intro L
    induction L with
    | nil => intro st; simp
    | cons m L ih =>
      intro st
      have h1 := ih (stepF st m)
      have h2 := stepF_len st m
      simp only [List.foldl_cons, List.length_cons]
      omega
  have := h L ⟨ixNew 5, [], fun _ => 0, 1⟩
  simpa [filS] using this
theorem filS_ents {w : World} {a : Option Addr} {L : List Mv} (h : MovesAt w a L) {n : Nat} (hn : n ≤ 80) : (filS (L.take n)).X.ents.length ≤ 80 := by
  have h1 := filS_len (L.take n)
  have h2 := (filS_fi h hn).pm.length_eq
  rw [List.length_take] at h1
  omega
end Go.Proofs.Ytndknnhgdlgbgaa
