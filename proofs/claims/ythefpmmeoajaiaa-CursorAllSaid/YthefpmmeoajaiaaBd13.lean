/- A box of an entry; six numbers, one for each slot. -/
import Derived.Test.YthefpmmeoajaiaaBd11
import Derived.Test.YthefpmmeoajaiaaBd12
import Derived.Laws.BytesArg
import Derived.Test.YthefpmmeoajaiaaBd10
set_option linter.unusedVariables false
set_option linter.unusedSimpArgs false
namespace Go.Proofs.Ythefpmmeoajaiaa
open Go.RowKit Go.Shelf

abbrev boxF (e : En) : Obj := .cells #[.int .i64 e.seq, .string e.key, .bool e.del, .int .i64 e.slot, .int .i64 e.off, .int .i64 e.size] 43
theorem SW.put {w0 w w' : World} {R : List Asn} {b : Nat} {o o' : Obj} (h : SW w0 (blkA b o :: R) w) (m : Mdh (fun k => k = b) w w') (hB : w'.heap[b]? = some o') : SW w0 (blkA b o' :: R) w' := h.step m (fun _ hk => .inl hk) hB (fun _ hk => .inl hk)
theorem us_get (us : Int → Int) (σ : Nat) (h : σ < 6) : (#[.int .i64 (us 0), .int .i64 (us 1), .int .i64 (us 2), .int .i64 (us 3), .int .i64 (us 4), .int .i64 (us 5)] : Array Value)[σ]? = some (.int .i64 (us σ)) := by
  have h' : σ = 0 ∨ σ = 1 ∨ σ = 2 ∨ σ = 3 ∨ σ = 4 ∨ σ = 5 := by omega
  rcases h' with rfl | rfl | rfl | rfl | rfl | rfl <;> rfl
theorem us_set (us : Int → Int) (σ : Nat) (h : σ < 6) (u : Int) : (#[.int .i64 (us 0), .int .i64 (us 1), .int .i64 (us 2), .int .i64 (us 3), .int .i64 (us 4), .int .i64 (us 5)] : Array Value).setIfInBounds σ (.int .i64 u) = #[.int .i64 (upd us σ u 0), .int .i64 (upd us σ u 1), .int .i64 (upd us σ u 2), .int .i64 (upd us σ u 3), .int .i64 (upd us σ u 4), .int .i64 (upd us σ u 5)] := by
  have h' : σ = 0 ∨ σ = 1 ∨ σ = 2 ∨ σ = 3 ∨ σ = 4 ∨ σ = 5 := by omega
  rcases h' with rfl | rfl | rfl | rfl | rfl | rfl <;> simp [upd]
abbrev usA (b6 : Nat) (us : Int → Int) : Asn := blkA b6 (.cells #[.int .i64 (us 0), .int .i64 (us 1), .int .i64 (us 2), .int .i64 (us 3), .int .i64 (us 4), .int .i64 (us 5)] 33)
end Go.Proofs.Ythefpmmeoajaiaa

/- drumlinlaw21.take: the first elements of an iterator, in a row. -/
set_option linter.unusedVariables false
set_option linter.unusedSimpArgs false
namespace Go.Proofs.Ythefpmmeoajaiaa
open Go.RowKit Go.Shelf
attribute [local go_sem] OvM cell_ovm obj_ovm
attribute [local go_sem] Oper.semAt_some

theorem info_str : (Try.prog.info? 9).map (fun i => (i.zero, i.size, i.bytes)) = some (some (.string ⟨#[]⟩), 1, 16) := by kernel_rfl
theorem rowE_snoc (l : List En) (x : En) : rowE (l ++ [x]) = rowE l ++ enC x := by rw [rowE_app]; simp [rowE]
theorem enC_one (x : En) : ∀ u ∈ enC x, u.oneCell' = true := fun u hu => rowE_one [x] u (by simpa [rowE] using hu)
theorem take_pre {α : Type} {n : Nat} {pre L : List α} (h : pre <+: L) (hn : pre.length = n) : pre = L.take n := by
  obtain ⟨t, rfl⟩ := h
  rw [← hn, List.take_left']
  rfl
def kS (l : List ByteArray) : List Value := l.map Value.string
theorem kS_snoc (l : List ByteArray) (x : ByteArray) : kS (l ++ [x]) = kS l ++ [.string x] := by simp [kS]
end Go.Proofs.Ythefpmmeoajaiaa

/- slices.Equal at rows of entries and of strings. -/
set_option linter.unusedVariables false
set_option linter.unusedSimpArgs false
namespace Go.Proofs.Ythefpmmeoajaiaa
open Go.RowKit Go.Shelf
attribute [local go_sem] OvM cell_ovm obj_ovm
attribute [local go_sem] Oper.semAt_some

theorem ownS_at {w : World} {v : Value} {l : List ByteArray} (h : Own w 9 1 v l.length (kS l)) : ∃ a cap, v = .slice a l.length cap ∧ l.length ≤ cap ∧ cap ≤ maxLen ∧ ∀ i x, l[i]? = some x → ∃ g, a = some ⟨g, 0, none⟩ ∧ g < w.heap.size ∧ v.ownBlock = some g ∧ w.cell? ⟨g, i, none⟩ = some (.string x) := by
  rcases h.2 with ⟨hv, h0⟩ | ⟨g, cap, cur, hv, _, hg, h1, h2, h3, h4⟩
  · have hL : l = [] := List.eq_nil_of_length_eq_zero h0
    subst hL
    exact ⟨none, 0, hv, Nat.le_refl _, by simp [maxLen], fun i x hx => by simp at hx⟩
  · subst hv
    refine ⟨_, cap, rfl, h1, h2, fun i x hx => ⟨g, rfl, blkLt hg, rfl, ?_⟩⟩
    have hc := h.cells (g := g) rfl i (.string x) (by unfold kS; rw [List.getElem?_map, hx]; rfl)
    rwa [show (⟨g, 0, none⟩ : Addr).add i = ⟨g, i, none⟩ by unfold Addr.add; split <;> simp_all] at hc
theorem beq_len (a b : Nat) (h : a ≠ b) : ((a : Int) == (b : Int)) = false := beq_false_of_ne (by omega)
end Go.Proofs.Ythefpmmeoajaiaa

/- take at an index's own iterators; rows that a literal lays. -/
set_option linter.unusedVariables false
set_option linter.unusedSimpArgs false
namespace Go.Proofs.Ythefpmmeoajaiaa
open Go.RowKit Go.Shelf

theorem own_lit (w : World) (t : TypeId) (K n : Nat) (xs : List Value) (hx : xs.length = n * K) (hn : n ≤ 100000) : Own (w.alloc (.cells xs.toArray t)) t K (.slice (some ⟨w.heap.size, 0, none⟩) n n) n xs :=
  Own.ofParts (blkNew w _) (Nat.le_refl _) (by unfold maxLen; omega) (by simpa using hx) (by rw [List.take_of_length_le (by rw [← hx]; exact Nat.le_refl _)])
end Go.Proofs.Ythefpmmeoajaiaa

/- drumlinlaw28.built: the walk. -/
set_option linter.unusedVariables false
set_option linter.unusedSimpArgs false
namespace Go.Proofs.Ythefpmmeoajaiaa
open Go.RowKit Go.Shelf
attribute [local go_sem] OvM cell_ovm obj_ovm
attribute [local go_sem] Oper.semAt_some

/-- The triples of a list lie at a. -/
def TriAt (w : World) (a : Option Addr) (l : List Tr) : Prop :=
  ∀ i x, l[i]? = some x → ∃ b off, a = some ⟨b, off, none⟩ ∧ b < w.heap.size ∧ w.cell? ⟨b, off + i * 3, none⟩ = some (.int .u8 x.a) ∧ w.cell? ⟨b, off + i * 3 + 1, none⟩ = some (.int .u8 x.b) ∧ w.cell? ⟨b, off + i * 3 + 2, none⟩ = some (.int .u8 x.c) ∧ x.Ok
theorem cv_key {w1 : World} {B : Nat} {n : Int} {kb : ByteArray} (h : strOfNums [n] = kb) (hw : w1.cell? ⟨B, 0, none⟩ = some (.int .u8 n)) : (convert 101 9 (.slice (some ⟨B, 0, none⟩) 1 1)).run Try.prog w1 = .ok (.string kb) w1 := by
  have := run_convert_bytes_arg (P := Try.prog) (w := w1) 101 5 Try.underlying101 Try.underlying5 B 0 1 1 [n] rfl (by
    intro i hi
    obtain rfl : i = 0 := by omega
    simpa using hw) 9 Try.underlying9
  rw [h] at this
  exact this
theorem tr_str (x : Int) (κ : Nat) (h : x % 20 = (κ : Int)) : strOfNums [97 + (κ : Int)] = trKey x := by
  unfold trKey
  rw [h]
  simp [strOfNums]
def BltPost (w : World) (L : List Tr) (e : Ending) (w' : World) : Prop := ∃ b S a cap, e = .returned (.tuple #[.pointer (some ⟨b, 0, none⟩), .slice a (foldT L).all.length cap]) ∧ SW w [ixA b (foldT L).X S, rowA 43 6 (.slice a (foldT L).all.length cap) (foldT L).all.length (rowE (foldT L).all)] w'
set_option maxRecDepth 40000 in
set_option maxHeartbeats 8000000 in
theorem built28_any (a : Option Addr) (len cap : Nat) (L : List Tr) (w : World) (hl : L.length = len) (h80 : len ≤ 80) (hle : len ≤ cap) (hcap : cap ≤ maxLen) (hs : TriAt w a L) :
    Calls Try.prog 51 #[.slice a len cap] w (BltPost w L) := by
  obtain ⟨i0, hi, hz0, hz1, hz2⟩ := info_parts infoIten
  have HS := Lib.hid hs
  have HL := Lib.hid hl
  unfold maxLen at hcap
  have hlc : (len : Int) ≤ cap := by omega
  clear hs hl
  go_enter Try.func51, Try.ntmps51
  go_wp2_with fail
  refine (New_any 6 w (by decide) (by decide)).mono ?_
  rintro e w1 ⟨b, S, rfl, h1, h2, h3⟩
  have HS1 : Hid (SW w [ixA b (foldT []).X S] w1) := Lib.hid ((SW.start w).ixnew h1 h2 h3)
  clear h1 h2 h3
  go_wp2_with fail
  obtain ⟨b6, hb6⟩ : ∃ q, q = w1.heap.size := ⟨_, rfl⟩
  have HS2 : Hid (SW w [ixA b (foldT (L.take 0)).X S, rowA 43 6 (.slice none 0 0) 0 [], usA b6 (foldT (L.take 0)).us] (w1.alloc (.cells #[.int .i64 0, .int .i64 0, .int .i64 0, .int .i64 0, .int .i64 0, .int .i64 0] 33))) := Lib.hid (by
    have h1 := HS1.out.new (Gr.refl _) (A := rowA 43 6 (.slice none 0 0) 0 []) (nilRow _ _ _) (fun k hk => by cases hk)
    have h2 := h1.alloc (.cells #[.int .i64 0, .int .i64 0, .int .i64 0, .int .i64 0, .int .i64 0, .int .i64 0] 33)
    rw [← hb6] at h2
    exact h2.perm ((List.Perm.swap _ _ _).trans (((List.Perm.swap _ _ _).cons _).trans (List.Perm.swap _ _ _)) |>.trans (List.Perm.refl _)))
  rw [← hb6]
  clear hb6 HS1
  go_loopw [7, 8] (fun t7 t8 wx => ∃ (j : Nat) (S : Nat → Prop), j ≤ len ∧ t8 = .int .i64 j ∧ Hid (SW w [ixA b (foldT (L.take j)).X S, rowA 43 6 t7 (foldT (L.take j)).all.length (rowE (foldT (L.take j)).all), usA b6 (foldT (L.take j)).us] wx)) (fun _ t8 _ => len - (intOf t8).toNat)
  case atStart => exact ⟨0, S, by omega, rfl, HS2⟩
  case round =>
    obtain ⟨j, S, hj, rfl, HR⟩ := hrel
    clear HS2
    by_cases hlt : j < len
    · have hlt' : (j : Int) < len := by omega
      obtain ⟨x, hx⟩ : ∃ x, L[j]? = some x := ⟨_, List.getElem?_eq_getElem (by have := HL.out; omega)⟩
      obtain ⟨bm, off, rfl, hbm, m0, m1, m2, hok⟩ := HS.out j x hx
      have HOK := Lib.hid hok
      have hst := foldT_ok (L.take j) (by rw [List.length_take]; omega) (fun m hm => by
        obtain ⟨i, hi⟩ := List.mem_iff_getElem?.1 (List.mem_of_mem_take hm)
        obtain ⟨_, _, _, _, _, _, _, h⟩ := HS.out i m hi
        exact h)
      have hsl := foldT_len (L.take j)
      rw [List.length_take, show min j L.length = j by have := HL.out; omega] at hsl
      have HST := Lib.hid (TS.step hst (by omega) hok)
      have HST1 := Lib.hid hst
      have HNX : Hid (foldT (L.take (j + 1)) = stepT (foldT (L.take j)) x) := Lib.hid (by rw [List.take_add_one, hx]; exact foldT_snoc _ _)
      have HSL := Lib.hid hsl
      generalize foldT (L.take j) = st at *
      obtain ⟨X, all, us⟩ := st
      simp only at HSL hsl
      simp only at HR
      have e0 := HR.out.g.keep m0
      have e1 := HR.out.g.keep m1
      have e2 := HR.out.g.keep m2
      have lm : bm < wr.heap.size := Nat.lt_of_lt_of_le hbm HR.out.g.sz
      obtain ⟨x0, x1, x2⟩ := x
      simp only at e0 e1 e2
      obtain ⟨k0, k1, k2⟩ := hok
      simp only at k0 k1 k2
      obtain ⟨k0, k0'⟩ := k0
      obtain ⟨k1, k1'⟩ := k1
      obtain ⟨k2, k2'⟩ := k2
      clear m0 m1 m2 hx hst hbm hsl
      obtain ⟨σ, hσ⟩ : ∃ σ : Nat, x1 % 5 = (σ : Int) := ⟨(x1 % 5).toNat, by omega⟩
      have hσ5 : σ < 5 := by omega
      obtain ⟨κ, hκ⟩ : ∃ κ : Nat, x0 % 20 = (κ : Int) := ⟨(x0 % 20).toNat, by omega⟩
      have hκ20 : κ < 20 := by omega
      obtain ⟨γ, hγ⟩ : ∃ γ : Nat, x2 % 3 = (γ : Int) := ⟨(x2 % 3).toNat, by omega⟩
      have hγ3 : γ < 3 := by omega
      obtain ⟨δ, hδ⟩ : ∃ δ : Nat, x2 % 9 = (δ : Int) := ⟨(x2 % 9).toNat, by omega⟩
      have hδ9 : δ < 9 := by omega
      have HE : Hid (mkT ⟨X, all, us⟩ ⟨x0, x1, x2⟩ = ⟨(j : Int) + 1, trKey x0, false, σ, us σ + γ, 17 + δ⟩) := Lib.hid (by
        unfold mkT
        simp only
        rw [hσ, hγ, hδ, HSL.out])
      have HSIG := Lib.hid hσ
      have HKAP := Lib.hid hκ
      have hus := HST1.out.u (σ : Int)
      simp only at hus
      have hal := HSL.out
      have hus2 : us (σ : Int) ≤ 2160 := by omega
      have hus1 : 0 ≤ us (σ : Int) := hus.1
      clear hus hal
      have d6 := ((cellsOf (show wr.heap[b6]? = _ from HR.out.get (i := 2) rfl)).1 σ).trans (us_get us σ (by omega))
      have l6 := blkLt (show wr.heap[b6]? = _ from HR.out.get (i := 2) rfl)
      go_wp2_with fail
      have HG := Gr.refl wr.drew
      refine wp_region_flo (fun _ => False) [10] [40] (by kernel_rfl) (by kernel_rfl) (fun _ h => h.elim) ?_
      refine flo_seg 9 rfl ?_
      simp only [List.take_succ_cons, List.take_zero, List.drop_succ_cons, List.drop_zero]
      repeat (go_big_quiet_step (fail))
      refine wpQuiet_nil ?_
      refine flo_effg rfl rfl rfl (fun wg1 hgg1 K hK => ?_)
      (try replace HG := Gr.trans (Gr.trans HG (by (repeat (first | (with_reducible exact Gr.refl _) | assumption | (with_reducible apply Gr.from_drew) | (with_reducible apply Gr.alloc) | (with_reducible apply Gr.drew) | (with_reducible refine Gr.trans ?_ (by assumption)) | (with_reducible refine Gr.setCell ?_ (by omega) _))))) hgg1)
      go_wp2
      refine ⟨by (first | (refine Gr.mdh ?_ _; (repeat (first | (with_reducible exact Gr.refl _) | assumption | (with_reducible apply Gr.from_drew) | (with_reducible apply Gr.alloc) | (with_reducible apply Gr.drew) | (with_reducible refine Gr.trans ?_ (by assumption)) | (with_reducible refine Gr.setCell ?_ (by omega) _))); done) | (repeat (first | (with_reducible exact Mdh.refl _ _) | (with_reducible refine Mdh.setCell ?_ (by simp) _) | (with_reducible refine Mdh.setNew ?_ (by simp) _) | (with_reducible apply Mdh.alloc) | (with_reducible apply Mdh.from_drew) | (with_reducible apply Mdh.drew) | (with_reducible refine Mdh.gr ?_ (by assumption))))), ?_⟩
      refine flo_effg rfl rfl rfl (fun wg2 hgg2 K hK => ?_)
      (try replace HG := Gr.trans (Gr.trans HG (by (repeat (first | (with_reducible exact Gr.refl _) | assumption | (with_reducible apply Gr.from_drew) | (with_reducible apply Gr.alloc) | (with_reducible apply Gr.drew) | (with_reducible refine Gr.trans ?_ (by assumption)) | (with_reducible refine Gr.setCell ?_ (by omega) _))))) hgg2)
      have hcv := cv_key (tr_str x0 κ HKAP.out) (hgg2.keep ((cellsOf (blkNew wg1 (.cells #[.int .u8 (97 + (κ : Int))] 5))).1 0))
      go_wp2
      refine ⟨by (first | (refine Gr.mdh ?_ _; (repeat (first | (with_reducible exact Gr.refl _) | assumption | (with_reducible apply Gr.from_drew) | (with_reducible apply Gr.alloc) | (with_reducible apply Gr.drew) | (with_reducible refine Gr.trans ?_ (by assumption)) | (with_reducible refine Gr.setCell ?_ (by omega) _))); done) | (repeat (first | (with_reducible exact Mdh.refl _ _) | (with_reducible refine Mdh.setCell ?_ (by simp) _) | (with_reducible refine Mdh.setNew ?_ (by simp) _) | (with_reducible apply Mdh.alloc) | (with_reducible apply Mdh.from_drew) | (with_reducible apply Mdh.drew) | (with_reducible refine Mdh.gr ?_ (by assumption))))), ?_⟩
      refine flo_seg 21 rfl ?_
      simp only [List.take_succ_cons, List.take_zero, List.drop_succ_cons, List.drop_zero]
      repeat (go_big_quiet_step (fail))
      refine wpQuiet_nil ?_
      refine flo_float (fun b => .pointer (some ⟨b, 0, none⟩)) (.cells #[.int .i64 0, .string ⟨#[]⟩, .bool false, .int .i64 0, .int .i64 0, .int .i64 0] 43) rfl rfl (fun w => by kernel_rfl) (fun wf1 fb1 hgf1 fl1 fh1 ft1 fo1 => ?_)
      (try replace HG := Gr.trans (Gr.trans HG (by (repeat (first | (with_reducible exact Gr.refl _) | assumption | (with_reducible apply Gr.from_drew) | (with_reducible apply Gr.alloc) | (with_reducible apply Gr.drew) | (with_reducible refine Gr.trans ?_ (by assumption)) | (with_reducible refine Gr.setCell ?_ (by omega) _))))) hgf1)
      (try have fc1 := (cellsOf fo1).1)
      (try have ff1 := (cellsOf fo1).2)
      refine flo_eff rfl rfl rfl rfl (fun K hK => ?_)
      go_wp2
      refine ⟨by (first | (refine Gr.mdh ?_ _; (repeat (first | (with_reducible exact Gr.refl _) | assumption | (with_reducible apply Gr.from_drew) | (with_reducible apply Gr.alloc) | (with_reducible apply Gr.drew) | (with_reducible refine Gr.trans ?_ (by assumption)) | (with_reducible refine Gr.setCell ?_ (by omega) _))); done) | (repeat (first | (with_reducible exact Mdh.refl _ _) | (with_reducible refine Mdh.setCell ?_ (by simp) _) | (with_reducible refine Mdh.setNew ?_ (by simp) _) | (with_reducible apply Mdh.alloc) | (with_reducible apply Mdh.from_drew) | (with_reducible apply Mdh.drew) | (with_reducible refine Mdh.gr ?_ (by assumption))))), ?_⟩
      refine flo_nil ?_
      obtain ⟨W4, hW4⟩ : ∃ y, y = ((((((wf1.setCell ⟨fb1, 0, none⟩ (.int .i64 ((j : Int) + 1))).setCell ⟨fb1, 1, none⟩ (.string (trKey x0))).setCell ⟨fb1, 2, none⟩ (.bool false)).setCell ⟨fb1, 3, none⟩ (.int .i64 σ)).setCell ⟨fb1, 4, none⟩ (.int .i64 (us σ + γ))).setCell ⟨fb1, 5, none⟩ (.int .i64 (17 + (δ : Int)))) := ⟨_, rfl⟩
      obtain ⟨e, he⟩ : ∃ e, e = mkT ⟨X, all, us⟩ ⟨x0, x1, x2⟩ := ⟨_, rfl⟩
      have HEE : Hid (e = ⟨(j : Int) + 1, trKey x0, false, σ, us σ + γ, 17 + δ⟩) := Lib.hid (by rw [he, HE.out])
      have HS4 : Hid (SW w (blkA fb1 (boxF e) :: [ixA b X S, rowA 43 6 u7 all.length (rowE all), usA b6 us]) W4) := Lib.hid (by
        have h1 := HR.out.new (Gr.of_drew HG) (A := blkA fb1 (boxF ⟨0, ⟨#[]⟩, false, 0, 0, 0⟩)) fo1 (fun k hk => by rw [show k = fb1 from hk]; exact fl1)
        rw [hW4, HEE.out]
        exact h1.step (B := blkA fb1 (boxF ⟨(j : Int) + 1, trKey x0, false, σ, us σ + γ, 17 + δ⟩)) (T := fun k => k = fb1) ((((((((Mdh.refl (fun k => k = fb1) wf1).setCell (p := ⟨fb1, 0, none⟩) rfl _).setCell (p := ⟨fb1, 1, none⟩) rfl _).setCell (p := ⟨fb1, 2, none⟩) rfl _).setCell (p := ⟨fb1, 3, none⟩) rfl _).setCell (p := ⟨fb1, 4, none⟩) rfl _).setCell (p := ⟨fb1, 5, none⟩) rfl _)) (fun k hk => .inl hk) (blk6 fo1) (fun k hk => .inl hk))
      rw [← hW4]
      rw [← he] at HST
      have HNX2 : Hid (foldT (L.take (j + 1)) = ⟨addX X e, all ++ [e], upd us σ (e.off + e.size)⟩) := Lib.hid (by
        rw [HNX.out]
        unfold stepT
        simp only
        rw [HSIG.out, ← he])
      have HBD : Hid (0 ≤ e.off ∧ e.off ≤ 2200 ∧ 0 ≤ e.size ∧ e.size ≤ 25) := Lib.hid (by
        refine ⟨HST.out.2.2.2.2.1, HST.out.2.2.2.2.2, ?_, ?_⟩ <;> rw [HEE.out] <;> simp only <;> omega)
      clear hW4 he fl1 fh1 ft1 fo1 fc1 ff1 HG hgf1 d6 l6 e0 e1 e2 lm hcv hus1 hus2 HR HE HEE HNX
      generalize fb1 = b10 at *
      have d10 := (cellsOf (show W4.heap[b10]? = _ from HS4.out.get (i := 0) rfl)).1
      have l10 := blkLt (show W4.heap[b10]? = _ from HS4.out.get (i := 0) rfl)
      go_wp2_with fail
      refine (Add_any (show IXR W4 b X S from HS4.out.get (i := 1) rfl) e HST.out.2.2.1 HST.out.2.2.2.1).mono ?_
      rintro r w6 ⟨rfl, hp⟩
      obtain ⟨S6, hI6, hm6, hn6⟩ := hp
      have H6 : Hid (SW w (blkA b10 (boxF e) :: [ixA b (addX X e) S6, rowA 43 6 u7 all.length (rowE all), usA b6 us]) w6) := Lib.hid (HS4.out.at (i := 1) rfl hm6 (fun k hk => .inl hk) hI6 hn6)
      rw [HST.out.1]
      clear hI6 hm6 hn6 HS4 d10 l10
      obtain ⟨bd1, bd2, bd3, bd4⟩ := HBD.out
      have d10 := (cellsOf (show w6.heap[b10]? = _ from H6.out.get (i := 0) rfl)).1
      have l10 := blkLt (show w6.heap[b10]? = _ from H6.out.get (i := 0) rfl)
      have K6 := Lib.hid (show w6.heap[b6]? = _ from H6.out.get (i := 3) rfl)
      obtain ⟨d6, f6⟩ := cellsOf K6.out
      have l6 := blkLt K6.out
      have hN10 : ¬ b10 = b6 := fun h => (H6.out.get_ne (i := 0) (j := 3) rfl rfl (by decide)) b10 rfl h
      have h6 : (w6.setCell ⟨b6, σ, none⟩ (.int .i64 (e.off + e.size))).heap[b6]? = some (.cells #[.int .i64 (upd us σ (e.off + e.size) 0), .int .i64 (upd us σ (e.off + e.size) 1), .int .i64 (upd us σ (e.off + e.size) 2), .int .i64 (upd us σ (e.off + e.size) 3), .int .i64 (upd us σ (e.off + e.size) 4), .int .i64 (upd us σ (e.off + e.size) 5)] 33) := by
        rw [← us_set us σ (by omega) (e.off + e.size)]
        exact blkSet (j := σ) K6.out
      have H7 := Lib.hid (H6.out.at (i := 3) rfl ((Mdh.refl (fun k => k = b6) w6).setCell (p := ⟨b6, σ, none⟩) rfl (.int .i64 (e.off + e.size))) (fun k hk => .inl hk) (B := usA b6 (upd us σ (e.off + e.size))) h6 (fun k hk => .inl hk))
      clear h6
      obtain ⟨w7, hw7⟩ : ∃ y, y = w6.setCell ⟨b6, σ, none⟩ (.int .i64 (e.off + e.size)) := ⟨_, rfl⟩
      rw [← hw7] at H7
      go_upto_region 14 with fail
      rw [← hw7]
      clear hw7 K6 d6 f6 l6 hN10 d10 l10 H6
      have d10 := (cellsOf (show w7.heap[b10]? = _ from H7.out.get (i := 0) rfl)).1
      have hal : all.length ≤ 80 := by have := HSL.out; omega
      go_wp2_with (first
        | (at_builtin; go_must (refine wpList_appv _ rfl (.tmp 73) (.tmp 75) 61 rfl 43 i0 _ 6 56 Try.underlying61 hi hz0 hz1 hz2 rfl (by decide) u7 all.length (rowE all) rfl ((show Own w7 43 6 u7 all.length (rowE all) from H7.out.get (i := 2) rfl).gr (by (repeat (first | (with_reducible exact Gr.refl _) | assumption | (with_reducible apply Gr.from_drew) | (with_reducible apply Gr.alloc) | (with_reducible apply Gr.drew) | (with_reducible refine Gr.trans ?_ (by assumption)) | (with_reducible refine Gr.setCell ?_ (by omega) _))))) (some ⟨w7.heap.size, 0, none⟩) 1 1 (enC e) rfl (src_newK w7 (enC e) _ 6 rfl (enC_one e)) (by simp only [maxLen]; omega) (by omega) ?_); intro v2 w2 hA; have HAP := Lib.hid hA; clear hA)
        | fail)
      have H8 := (H7.out.gr ((Gr.refl w7).alloc (.cells (enC e).toArray 43))).at (i := 2) rfl (HAP.out.mdh (fun g h => h)) (fun k hk => .inl hk) (B := rowA 43 6 v2 (all ++ [e]).length (rowE (all ++ [e]))) (by
        show Own _ _ _ _ _ _
        rw [rowE_snoc, List.length_append]
        exact HAP.out.1) (fun k hq => HAP.out.2.1 k hq)
      refine ⟨⟨j + 1, S6, by omega, by simp, Lib.hid ?_⟩, by simp [intOf]; omega⟩
      rw [HNX2.out]
      exact H8.sub (.cons _ (List.Sublist.refl _))
    · have hlt' : ¬ (j : Int) < len := by omega
      obtain rfl : j = len := by omega
      rw [List.take_of_length_le (show L.length ≤ j by have := HL.out; omega)] at HR
      obtain ⟨a7, c7, rfl, _⟩ := ownE_at (show Own wr 43 6 u7 (foldT L).all.length (rowE (foldT L).all) from HR.out.get (i := 1) rfl)
      go_wp2
      refine bodyPost_ret (v := .tuple #[.pointer (some ⟨b, 0, none⟩), .slice a7 (foldT L).all.length c7]) ?_ rfl ⟨b, S, a7, c7, rfl, HR.out.sub (.cons_cons _ (.cons_cons _ (.cons _ (List.Sublist.refl _))))⟩
      simp [results, Try.results51, go_sem]
end Go.Proofs.Ythefpmmeoajaiaa

/- An index has each entry once: what it has of a key, or in a slot, is what it has with that key, in that slot. No walk. -/
set_option linter.unusedVariables false
set_option linter.unusedSimpArgs false
namespace Go.Proofs.Ythefpmmeoajaiaa

theorem ents_nodup {X : IX} (h : X.Wf) : X.ents.Nodup := by
  refine (h.v.nodup_iff).1 ?_
  refine List.pairwise_flatMap.2 ⟨fun x hx => (h.k x hx).p.imp (fun {a b} hab e => by subst e; rw [ltE_irr] at hab; cases hab), ?_⟩
  refine List.Pairwise.imp_of_mem (fun {x y} hx hy hxy a ha b hb e => ?_) h.k0
  have h1 := (h.k x hx).e a ha
  have h2 := (h.k y hy).e b hb
  rw [← h1, ← h2, e] at hxy
  rw [ordS.irr] at hxy
  cases hxy
theorem of_nodup {X : IX} (h : X.Wf) (k : ByteArray) : (X.of k).Nodup := (h.ofPair k).imp (fun {a b} hab e => by subst e; rw [ltE_irr] at hab; cases hab)
def keyP (k : ByteArray) (e : En) : Bool := decide (e.key = k)
def slotP (s : Int) (e : En) : Bool := decide (e.slot = s)
theorem of_perm {X : IX} (h : X.Wf) (k : ByteArray) : (X.of k).Perm (X.ents.filter (keyP k)) :=
  (List.perm_ext_iff_of_nodup (of_nodup h k) ((ents_nodup h).filter _)).2 (fun e => by rw [h.of_mem, List.mem_filter, keyP, decide_eq_true_iff])
theorem slot_perm {X : IX} (h : X.Wf) (s : Int) : (X.slot s).Perm (X.ents.filter (slotP s)) :=
  (List.perm_ext_iff_of_nodup (slot_nodup (h.slotOk s)) ((ents_nodup h).filter _)).2 (fun e => by rw [h.slot_mem, List.mem_filter, slotP, decide_eq_true_iff])
end Go.Proofs.Ythefpmmeoajaiaa

/- liveness: any, needed, Needed. -/
set_option linter.unusedVariables false
set_option linter.unusedSimpArgs false
namespace Go.Proofs.Ythefpmmeoajaiaa
open Go.RowKit Go.Shelf
attribute [local go_sem] OvM cell_ovm obj_ovm
attribute [local go_sem] Oper.semAt_some

set_option maxRecDepth 40000 in
set_option maxHeartbeats 4000000 in
theorem any_any {w : World} {p : Option Addr} {X : IX} {S : Nat → Prop} (h : IXP w p X S) (k : ByteArray) {g : Nat} {lb : Array Value} {pr : En → Bool} {T : Nat → Prop} (hp : PredC g lb pr T w) :
    Calls Try.prog 101 #[.pointer p, .string k, .func (.func g) #[] lb] w fun e w' => e = .returned (.bool ((X.of k).any pr)) ∧ Gr w w' := by
  have H := Lib.hid h
  have HP := Lib.hid hp
  have heg := hp.enter
  clear h hp
  refine calls_of_wp_marks Try.func101 rfl ?_
  simp only [Try.ntmps101, List.size_toArray, List.length_cons, List.length_nil, Nat.reduceAdd, Nat.reduceSub, Array.replicate_succ, Array.replicate_zero, List.push_toArray, List.append_toArray, List.nil_append, List.cons_append]
  go_wp2_with fail
  obtain ⟨b5, hb5⟩ : ∃ q, q = w.heap.size := ⟨_, rfl⟩
  obtain ⟨w0, hw0⟩ : ∃ y, y = (w.alloc (.cells #[.func (.func g) #[] lb] 108)).alloc (.cells #[.bool false] 4) := ⟨_, rfl⟩
  have HSW : Hid (SW w [blkA (b5 + 1) (.cells #[.bool false] 4), blkA b5 (.cells #[.func (.func g) #[] lb] 108)] w0) := Lib.hid (by
    have := ((SW.start w).alloc (.cells #[.func (.func g) #[] lb] 108)).alloc (.cells #[.bool false] 4)
    simp only [World.size_alloc] at this
    rw [hw0, hb5]
    exact this)
  rw [← hw0, ← hb5]
  clear hw0 hb5
  refine (Of_any p k _).mono ?_
  rintro e' w1 ⟨bb, bk, rfl, h1, h2, h3, h4, hg⟩
  have HS1 := Lib.hid (HSW.out.gr hg)
  have HI := Lib.hid (H.out.gr HS1.out.g)
  have HSEQ := Lib.hid (SeqOfP HI.out k bb bk h1 h2)
  have HA : Hid (∀ q, (q = bb ∨ q = bk ∨ S q) → q < w1.heap.size) := Lib.hid (fun q hq => by
    have l1 := World.block_lt_of_cell? w1 ⟨bb, 0, none⟩ h1
    have l2 := World.block_lt_of_cell? w1 ⟨bk, 0, none⟩ h2
    rcases hq with rfl | rfl | hq
    · exact l1
    · exact l2
    · exact HI.out.lt q hq)
  have HZ : Hid (SWz w w1 (fun q => q = bb ∨ q = bk ∨ S q) [blkA (b5 + 1) (.cells #[.bool false] 4), blkA b5 (.cells #[.func (.func g) #[] lb] 108)] (fun _ => False) w1) := Lib.hid (SWz.start HS1.out (fun B hB k hk ha => by
    have l1 := HSW.out.s.lt hB k hk
    have l2 := HSW.out.n B hB k hk
    rcases ha with rfl | rfl | ha
    · omega
    · omega
    · have := H.out.lt k ha; omega))
  clear h1 h2 h3 h4 hg
  go_wp2_with fail
  apply wp_rangeFunc_zx (gf := 65) (lb := #[.pointer (some ⟨bb, 0, none⟩), .pointer (some ⟨bk, 0, none⟩)]) rfl (enters_of Try.func65 (by kernel_rfl) rfl) HSEQ.out (Mdh.refl _ w1) HA.out (fun _ => rfl)
    (fun Z pre X' => pre.any pr = false ∧ SWz w w1 (fun q => q = bb ∨ q = bk ∨ S q) [blkA (b5 + 1) (.cells #[.bool false] 4), blkA b5 (.cells #[.func (.func g) #[] lb] 108)] Z X')
    (fun _ _ _ => False)
    (fun Z pre X' => pre.any pr = true ∧ SWz w w1 (fun q => q = bb ∨ q = bk ∨ S q) [blkA (b5 + 1) (.cells #[.bool true] 4), blkA b5 (.cells #[.func (.func g) #[] lb] 108)] Z X')
    ((Apart.pure (fun pre : List En => pre.any pr = false)).and (SWz.apart HS1.out.g.sz (fun _ : List En => [blkA (b5 + 1) (.cells #[.bool false] 4), blkA b5 (.cells #[.func (.func g) #[] lb] 108)]))) apart_no
    ((Apart.pure (fun pre : List En => pre.any pr = true)).and (SWz.apart HS1.out.g.sz (fun _ : List En => [blkA (b5 + 1) (.cells #[.bool true] 4), blkA b5 (.cells #[.func (.func g) #[] lb] 108)])))
    ⟨rfl, HZ.out⟩ (fun Z pre X' h => h.2.frm HS1.out.g) (fun x => .cells #[.int .i64 x.seq, .string x.key, .bool x.del, .int .i64 x.slot, .int .i64 x.off, .int .i64 x.size] 43)
    _ ?assign ?body ?hend ?hret
  case assign =>
    intro l x bx X' K hbx hK
    dsimp only [encE, enV]
    gi_wp2
    rw [← hbx]
    exact hK
  case body =>
    intro l Z pre x bx X' hI hbx hx hzx hzl hlr hsp
    have HIZ := Lib.hid hI
    have HX := Lib.hid hx
    have HB5 := Lib.hid (show X'.heap[b5]? = _ from hI.2.s.get (i := 1) rfl)
    have HB6 := Lib.hid (show X'.heap[b5 + 1]? = _ from hI.2.s.get (i := 0) rfl)
    have dx := (cellsOf HX.out).1
    have d5 := (cellsOf HB5.out).1
    have HR := Lib.hid ((HP.out.gr hI.2.s.g).run x X' (Mdh.refl _ _))
    clear hI hbx hx hzx hzl hlr hsp
    gi_wp2_with fail
    refine ⟨trivial, (CallsIn.inRound l (callsIn_wide.2 HR.out)).mono ?_⟩
    rintro e w9 ⟨rfl, hg9⟩
    have HG9 := Lib.hid hg9
    have HZ9 := Lib.hid (HIZ.out.2.gr hg9)
    obtain ⟨d6, f6⟩ := cellsOf (hg9.blk HB6.out)
    cases hpx : pr x with
    | true =>
      have HPX : Hid ((pre ++ [x]).any pr = true) := Lib.hid (by simp [hpx])
      have HB7 := Lib.hid (HZ9.out.1.box (i := 0) rfl HA.out ((Mdh.refl (fun k => k = b5 + 1) w9).setCell (p := ⟨b5 + 1, 0, none⟩) rfl (.bool true)) (blkSet (j := 0) (u := .bool true) (hg9.blk HB6.out)))
      clear hpx hg9
      gi_wp2_with fail
      exact ⟨(HZ9.out.2.trans HB7.out.2).mono (fun k h => h.2), HPX.out, HB7.out.1⟩
    | false =>
      have HPX : Hid ((pre ++ [x]).any pr = false) := Lib.hid (by rw [List.any_append, HIZ.out.1]; simp [hpx])
      clear hpx hg9
      gi_wp2_with fail
      exact ⟨HZ9.out.2, HPX.out, HZ9.out.1⟩
  case hend =>
    intro Z D xs W hD hZD hcase hdef
    obtain ⟨hxs, hI⟩ := hcase.elim (fun h => h) (fun h => h.2.elim)
    have HE : Hid ((X.of k).any pr = false) := Lib.hid (by rw [← show xs = X.of k from hxs]; exact hI.1)
    have HD := Lib.hid (And.intro hD (And.intro hZD hdef))
    have hb6 : W.heap[b5 + 1]? = _ := hI.2.s.get (i := 0) rfl
    have HB6 := Lib.hid hb6
    obtain ⟨d6, f6⟩ := cellsOf hb6
    have HIW := Lib.hid hI.2
    clear hI hcase hxs hb6 hD hZD hdef
    dsimp only
    go_wp2_with fail
    obtain ⟨hD, hZD, hdef⟩ := HD.out
    have n6 : D ≠ b5 + 1 := fun e => HIW.out.z _ (List.mem_cons_self ..) (b5 + 1) rfl (e ▸ hZD)
    have hW2 : (W.setCell ⟨b5 + 1, 0, none⟩ (.bool false)).heap[b5 + 1]? = _ := blkSet (j := 0) (u := .bool false) HB6.out
    have h4' : ((W.setCell ⟨b5 + 1, 0, none⟩ (.bool false)).putObj D (.deferred none)).heap[b5 + 1]? = _ := (World.putObj_heap_other n6.symm).trans hW2
    obtain ⟨d4, _⟩ := cellsOf h4'
    refine retM1 (D := D) (v := .bool false) rfl (blkSetO hdef n6) ?_ ⟨by rw [HE.out], (Gr.setCell HIW.out.s.g (p := ⟨b5 + 1, 0, none⟩) (HSW.out.n _ (List.mem_cons_self ..) _ rfl) _).putObj (by have := HS1.out.g.sz; omega) _⟩
    simp [results, Try.results101, go_sem, d4]
  case hret =>
    intro Z D pre W hD hZD hsp hI hdef
    have HE : Hid ((X.of k).any pr = true) := Lib.hid (by
      obtain ⟨t, ht⟩ := hsp
      rw [← show pre ++ t = X.of k from ht, List.any_append, hI.1]; rfl)
    have hb6 : W.heap[b5 + 1]? = _ := hI.2.s.get (i := 0) rfl
    have n6 : D ≠ b5 + 1 := fun e => hI.2.z _ (List.mem_cons_self ..) (b5 + 1) rfl (e ▸ hZD)
    have h4' : (W.putObj D (.deferred none)).heap[b5 + 1]? = _ := (World.putObj_heap_other n6.symm).trans hb6
    obtain ⟨d4, _⟩ := cellsOf h4'
    dsimp only
    go_wp2_with fail
    refine retM1 (D := D) (v := .bool true) rfl hdef ?_ ⟨by rw [HE.out], hI.2.s.g.putObj (by have := HS1.out.g.sz; omega) _⟩
    simp [results, Try.results101, go_sem, d4]

/-! ### needed -/
def nd1 (e y : En) : Bool := decide (e.seq < y.seq)
def nd2 (e y : En) : Bool := decide (y.seq = e.seq ∧ y.slot ≠ e.slot)
def nd3 (e y : En) : Bool := decide (y.seq < e.seq ∧ y.slot ≠ e.slot)
def IX.needs (X : IX) (e : En) : Bool := if (X.of e.key).any (nd1 e) = true then false else if (X.of e.key).any (nd2 e) = true then false else if e.del = false then true else (X.of e.key).any (nd3 e)
abbrev boxE (e : En) : Obj := .cells #[.int .i64 e.seq, .string e.key, .bool e.del, .int .i64 e.slot, .int .i64 e.off, .int .i64 e.size] 43
set_option maxRecDepth 40000 in
theorem need1 (y e : En) (be : Nat) (w : World) (h : w.heap[be]? = some (boxE e)) : Calls Try.prog 131 #[enV y, .pointer (some ⟨be, 0, none⟩)] w fun r w' => r = .returned (.bool (nd1 e y)) ∧ Gr w w' := by
  have c := (cellsOf h).1
  have l := blkLt h
  have HN : Hid (nd1 e y = decide (e.seq < y.seq)) := Lib.hid rfl
  rw [HN.out]
  simp only [enV]
  by_cases h1 : y.seq = e.seq
  all_goals by_cases h2 : y.slot = e.slot
  all_goals
    go_enter Try.func131, Try.ntmps131
    go_wp2
    all_goals
      go_ret
      exact ⟨ret_bool (by first | rfl | (simp_all; done) | (simp_all; omega)), by (repeat (first | (with_reducible exact Gr.refl _) | assumption | (with_reducible apply Gr.from_drew) | (with_reducible apply Gr.alloc) | (with_reducible apply Gr.drew) | (with_reducible refine Gr.trans ?_ (by assumption)) | (with_reducible refine Gr.setCell ?_ (by omega) _)))⟩
theorem needP1 (e : En) (be : Nat) (w : World) (h : w.heap[be]? = some (boxE e)) : PredC 131 #[.pointer (some ⟨be, 0, none⟩)] (nd1 e) (fun _ => False) w :=
  ⟨enters_of Try.func131 (by kernel_rfl) rfl, fun x w' m => need1 x e be w' (m.blk h (fun h => h))⟩
set_option maxRecDepth 40000 in
theorem need2 (y e : En) (be : Nat) (w : World) (h : w.heap[be]? = some (boxE e)) : Calls Try.prog 132 #[enV y, .pointer (some ⟨be, 0, none⟩)] w fun r w' => r = .returned (.bool (nd2 e y)) ∧ Gr w w' := by
  have c := (cellsOf h).1
  have l := blkLt h
  have HN : Hid (nd2 e y = decide (y.seq = e.seq ∧ y.slot ≠ e.slot)) := Lib.hid rfl
  rw [HN.out]
  simp only [enV]
  by_cases h1 : y.seq = e.seq
  all_goals by_cases h2 : y.slot = e.slot
  all_goals
    go_enter Try.func132, Try.ntmps132
    go_wp2
    all_goals
      go_ret
      exact ⟨ret_bool (by first | rfl | (simp_all; done) | (simp_all; omega)), by (repeat (first | (with_reducible exact Gr.refl _) | assumption | (with_reducible apply Gr.from_drew) | (with_reducible apply Gr.alloc) | (with_reducible apply Gr.drew) | (with_reducible refine Gr.trans ?_ (by assumption)) | (with_reducible refine Gr.setCell ?_ (by omega) _)))⟩
theorem needP2 (e : En) (be : Nat) (w : World) (h : w.heap[be]? = some (boxE e)) : PredC 132 #[.pointer (some ⟨be, 0, none⟩)] (nd2 e) (fun _ => False) w :=
  ⟨enters_of Try.func132 (by kernel_rfl) rfl, fun x w' m => need2 x e be w' (m.blk h (fun h => h))⟩
set_option maxRecDepth 40000 in
theorem need3 (y e : En) (be : Nat) (w : World) (h : w.heap[be]? = some (boxE e)) : Calls Try.prog 133 #[enV y, .pointer (some ⟨be, 0, none⟩)] w fun r w' => r = .returned (.bool (nd3 e y)) ∧ Gr w w' := by
  have c := (cellsOf h).1
  have l := blkLt h
  have HN : Hid (nd3 e y = decide (y.seq < e.seq ∧ y.slot ≠ e.slot)) := Lib.hid rfl
  rw [HN.out]
  simp only [enV]
  by_cases h1 : y.seq = e.seq
  all_goals by_cases h2 : y.slot = e.slot
  all_goals
    go_enter Try.func133, Try.ntmps133
    go_wp2
    all_goals
      go_ret
      exact ⟨ret_bool (by first | rfl | (simp_all; done) | (simp_all; omega)), by (repeat (first | (with_reducible exact Gr.refl _) | assumption | (with_reducible apply Gr.from_drew) | (with_reducible apply Gr.alloc) | (with_reducible apply Gr.drew) | (with_reducible refine Gr.trans ?_ (by assumption)) | (with_reducible refine Gr.setCell ?_ (by omega) _)))⟩
theorem needP3 (e : En) (be : Nat) (w : World) (h : w.heap[be]? = some (boxE e)) : PredC 133 #[.pointer (some ⟨be, 0, none⟩)] (nd3 e) (fun _ => False) w :=
  ⟨enters_of Try.func133 (by kernel_rfl) rfl, fun x w' m => need3 x e be w' (m.blk h (fun h => h))⟩
set_option maxRecDepth 40000 in
set_option maxHeartbeats 2000000 in
theorem needed_any {w : World} {p : Option Addr} {X : IX} {S : Nat → Prop} (h : IXP w p X S) (e : En) : Calls Try.prog 98 #[.pointer p, enV e] w fun r w' => r = .returned (.bool (X.needs e)) ∧ Gr w w' := by
  have H := Lib.hid h
  clear h
  simp only [enV]
  have HE : Hid (X.needs e = if (X.of e.key).any (nd1 e) = true then false else if (X.of e.key).any (nd2 e) = true then false else if e.del = false then true else (X.of e.key).any (nd3 e)) := Lib.hid rfl
  go_enter Try.func98, Try.ntmps98
  go_wp2_with fail
  obtain ⟨b, hb⟩ : ∃ q, q = w.heap.size := ⟨_, rfl⟩
  obtain ⟨w0, hw0⟩ : ∃ y, y = w.alloc (boxE e) := ⟨_, rfl⟩
  have H0 : Hid (Gr w w0 ∧ w0.heap[b]? = some (boxE e)) := Lib.hid (by rw [hw0, hb]; exact ⟨(Gr.refl w).alloc _, blkNew w _⟩)
  rw [← show w0 = w.alloc (.cells #[.int .i64 e.seq, .string e.key, .bool e.del, .int .i64 e.slot, .int .i64 e.off, .int .i64 e.size] 43) from hw0, ← hb]
  clear hw0 hb
  refine (any_any (H.out.gr H0.out.1) e.key (needP1 e b w0 H0.out.2)).mono ?_
  rintro r w1 ⟨rfl, hg⟩
  have H1 := Lib.hid (And.intro (H0.out.1.trans hg) (hg.blk H0.out.2))
  clear hg
  cases h1 : (X.of e.key).any (nd1 e) with
  | true =>
    have HR : Hid (X.needs e = false) := Lib.hid (by rw [HE.out, h1]; rfl)
    clear h1
    go_wp2
    go_ret
    exact ⟨by rw [HR.out] <;> rfl, H1.out.1⟩
  | false =>
    have HE1 : Hid (X.needs e = if (X.of e.key).any (nd2 e) = true then false else if e.del = false then true else (X.of e.key).any (nd3 e)) := Lib.hid (by rw [HE.out, h1]; rfl)
    have c1 := (cellsOf H1.out.2).1
    clear h1
    go_wp2_with fail
    refine (any_any (H.out.gr H1.out.1) e.key (needP2 e b w1 H1.out.2)).mono ?_
    rintro r w2 ⟨rfl, hg⟩
    have H2 := Lib.hid (And.intro (H1.out.1.trans hg) (hg.blk H1.out.2))
    clear hg c1
    cases h2 : (X.of e.key).any (nd2 e) with
    | true =>
      have HR : Hid (X.needs e = false) := Lib.hid (by rw [HE1.out, h2]; rfl)
      clear h2
      go_wp2
      go_ret
      exact ⟨by rw [HR.out] <;> rfl, H2.out.1⟩
    | false =>
      have HE2 : Hid (X.needs e = if e.del = false then true else (X.of e.key).any (nd3 e)) := Lib.hid (by rw [HE1.out, h2]; rfl)
      have c2 := (cellsOf H2.out.2).1
      clear h2
      cases hd : e.del with
      | false =>
        have HR : Hid (X.needs e = true) := Lib.hid (by rw [HE2.out, hd]; rfl)
        rw [hd] at c2
        clear hd
        go_wp2
        go_ret
        exact ⟨by rw [HR.out] <;> rfl, H2.out.1⟩
      | true =>
        have HR : Hid (X.needs e = (X.of e.key).any (nd3 e)) := Lib.hid (by rw [HE2.out, hd]; rfl)
        rw [hd] at c2
        clear hd
        go_wp2_with fail
        refine (any_any (H.out.gr H2.out.1) e.key (needP3 e b w2 H2.out.2)).mono ?_
        rintro r w3 ⟨rfl, hg⟩
        have HG := Lib.hid (H2.out.1.trans hg)
        clear hg
        go_wp2
        go_ret
        exact ⟨by rw [HR.out] <;> rfl, HG.out⟩
end Go.Proofs.Ythefpmmeoajaiaa

/- liveness: Needed, Keep, Size, Redundant. -/
set_option linter.unusedVariables false
set_option linter.unusedSimpArgs false
namespace Go.Proofs.Ythefpmmeoajaiaa
open Go.RowKit Go.Shelf
attribute [local go_sem] OvM cell_ovm obj_ovm
attribute [local go_sem] Oper.semAt_some

def IX.hasE (X : IX) (e : En) : Bool := (X.of e.key).any (fun o => decide (o = e))
def neededV (X : IX) (e : En) : Value := if X.slots = [] then .tuple #[.bool false, .int .i64 1] else if X.hasE e = false then .tuple #[.bool false, .int .i64 5] else .tuple #[.bool (X.needs e), .int .i64 0]
set_option maxRecDepth 40000 in
theorem Need1 (o e : En) (be : Nat) (w : World) (h : w.heap[be]? = some (boxE e)) :
    Calls Try.prog 102 #[enV o, .pointer (some ⟨be, 0, none⟩)] w fun r w' => r = .returned (.bool (decide (o = e))) ∧ Gr w w' := by
  have c := (cellsOf h).1
  have l := blkLt h
  have k1 := eqlE_run o e
  simp only [enV]
  go_enter Try.func102, Try.ntmps102
  go_wp2
  go_ret
  exact ⟨rfl, by (repeat (first | (with_reducible exact Gr.refl _) | assumption | (with_reducible apply Gr.from_drew) | (with_reducible apply Gr.alloc) | (with_reducible apply Gr.drew) | (with_reducible refine Gr.trans ?_ (by assumption)) | (with_reducible refine Gr.setCell ?_ (by omega) _)))⟩
theorem NeedP (e : En) (be : Nat) (w : World) (h : w.heap[be]? = some (boxE e)) : PredC 102 #[.pointer (some ⟨be, 0, none⟩)] (fun o => decide (o = e)) (fun _ => False) w :=
  ⟨enters_of Try.func102 (by kernel_rfl) rfl, fun x w' m => Need1 x e be w' (m.blk h (fun h => h))⟩
set_option maxRecDepth 40000 in
set_option maxHeartbeats 2000000 in
theorem Needed_any {w : World} {p : Option Addr} {X : IX} {S : Nat → Prop} (h : IXP w p X S) (e : En) : Calls Try.prog 41 #[.pointer p, enV e] w fun r w' => r = .returned (neededV X e) ∧ Gr w w' := by
  have H := Lib.hid h
  clear h
  simp only [enV]
  have HE : Hid (neededV X e = if X.slots = [] then .tuple #[.bool false, .int .i64 1] else if X.hasE e = false then .tuple #[.bool false, .int .i64 5] else .tuple #[.bool (X.needs e), .int .i64 0]) := Lib.hid rfl
  go_enter Try.func41, Try.ntmps41
  go_wp2_with fail
  obtain ⟨b, hb⟩ : ∃ q, q = w.heap.size := ⟨_, rfl⟩
  obtain ⟨w0, hw0⟩ : ∃ y, y = w.alloc (boxE e) := ⟨_, rfl⟩
  have H0 : Hid (Gr w w0 ∧ w0.heap[b]? = some (boxE e)) := Lib.hid (by rw [hw0, hb]; exact ⟨(Gr.refl w).alloc _, blkNew w _⟩)
  rw [← show w0 = w.alloc (.cells #[.int .i64 e.seq, .string e.key, .bool e.del, .int .i64 e.slot, .int .i64 e.off, .int .i64 e.size] 43) from hw0, ← hb]
  clear hw0 hb
  refine (Copy_any (H.out.gr H0.out.1)).mono ?_
  rintro r w1 ⟨q, rfl, hg, hq, _⟩
  have H1 := Lib.hid (And.intro (H0.out.1.trans hg) (hg.blk H0.out.2))
  have c1 := (cellsOf H1.out.2).1
  clear hg
  by_cases h0 : X.slots = []
  · have hq0 := hq.2 h0
    have HR : Hid (neededV X e = .tuple #[.bool false, .int .i64 1]) := Lib.hid (by rw [HE.out, if_pos h0])
    clear h0 hq
    subst hq0
    go_wp2
    go_ret2
    exact ⟨by rw [HR.out] <;> rfl, H1.out.1⟩
  · have HR : Hid (neededV X e = if X.hasE e = false then .tuple #[.bool false, .int .i64 5] else .tuple #[.bool (X.needs e), .int .i64 0]) := Lib.hid (by rw [HE.out, if_neg h0])
    obtain ⟨q', rfl⟩ : ∃ q', q = some q' := by
      cases q with
      | none => exact absurd (hq.1 rfl) h0
      | some q' => exact ⟨q', rfl⟩
    clear h0 hq
    go_wp2_with fail
    refine (any_any (H.out.gr H1.out.1) e.key (NeedP e b w1 H1.out.2)).mono ?_
    rintro r w2 ⟨rfl, hg⟩
    rw [show (X.of e.key).any (fun o => decide (o = e)) = X.hasE e from rfl]
    have H2 := Lib.hid (And.intro (H1.out.1.trans hg) (hg.blk H1.out.2))
    clear hg c1
    cases h1 : X.hasE e with
    | false =>
      have HR2 : Hid (neededV X e = .tuple #[.bool false, .int .i64 5]) := Lib.hid (by rw [HR.out, if_pos h1])
      clear h1
      go_wp2
      go_ret2
      exact ⟨by rw [HR2.out] <;> rfl, H2.out.1⟩
    | true =>
      have HR2 : Hid (neededV X e = .tuple #[.bool (X.needs e), .int .i64 0]) := Lib.hid (by rw [HR.out, if_neg (by rw [h1]; simp)])
      have c2 := (cellsOf H2.out.2).1
      clear h1
      go_wp2_with fail
      refine (needed_any (H.out.gr H2.out.1) e).mono ?_
      rintro r w3 ⟨rfl, hg⟩
      have H3 := Lib.hid (H2.out.1.trans hg)
      clear hg
      go_wp2
      go_ret2
      exact ⟨by rw [HR2.out] <;> rfl, H3.out⟩

/-! ### Keep -/
def keepL (X : IX) (s : Int) : List En := (X.slot s).filter X.needs
def keepC (X : IX) (s : Int) : Int := if X.slots = [] then 1 else if X.has s = false then 3 else 0
theorem keep_out {X : IX} {s : Int} (h : keepC X s ≠ 0) : keepL X s = [] := by
  unfold keepL
  rw [slot_out]
  · rfl
  · unfold keepC at h
    split at h
    · rename_i h0
      simp [IX.has, h0]
    · split at h
      · assumption
      · exact absurd rfl h
def KeepPost (X : IX) (s : Int) (w : World) (e : Ending) (w' : World) : Prop := ∃ v, e = .returned (.tuple #[v, .int .i64 (keepC X s)]) ∧ Nw w w' 43 6 v (keepL X s).length (rowE (keepL X s)) ∧ Gr w w'
theorem filter_yes {α : Type} {p : α → Bool} {l : List α} {x : α} (h : p x = true) : (l ++ [x]).filter p = l.filter p ++ [x] := by simp [h]
theorem filter_no {α : Type} {p : α → Bool} {l : List α} {x : α} (h : p x = false) : (l ++ [x]).filter p = l.filter p := by simp [h]
set_option maxRecDepth 40000 in
set_option maxHeartbeats 8000000 in
theorem Keep_any {w : World} {p : Option Addr} {X : IX} {S : Nat → Prop} (h : IXP w p X S) (s : Int) : Calls Try.prog 42 #[.pointer p, .int .i64 s] w (KeepPost X s w) := by
  obtain ⟨i0, hi, hz0, hz1, hz2⟩ := info_parts infoIten
  have H := Lib.hid h
  have HLE := Lib.hid (h.ok.slot_le s)
  have HHAS := Lib.hid (show X.has s = decide (0 ≤ s ∧ s < X.slots.length) from rfl)
  clear h
  refine calls_of_wp_marks Try.func42 rfl ?_
  simp only [Try.ntmps42, List.size_toArray, List.length_cons, List.length_nil, Nat.reduceAdd, Nat.reduceSub, Array.replicate_succ, Array.replicate_zero, List.push_toArray, List.append_toArray, List.nil_append, List.cons_append]
  go_wp2_with fail
  obtain ⟨b2, hb2⟩ : ∃ q, q = w.heap.size := ⟨_, rfl⟩
  obtain ⟨w0, hw0⟩ : ∃ y, y = w.alloc (.cells #[.pointer p] 32) := ⟨_, rfl⟩
  have H0 : Hid (SW w [blkA b2 (.cells #[.pointer p] 32)] w0) := Lib.hid (by rw [hw0, hb2]; exact (SW.start w).alloc _)
  rw [← hw0, ← hb2]
  clear hw0 hb2
  refine (Copy_any (H.out.gr H0.out.g)).mono ?_
  rintro r w1 ⟨q, rfl, hg, hq, _⟩
  have H1 := Lib.hid (H0.out.gr hg)
  have c1 := (cellsOf (show w1.heap[b2]? = _ from H1.out.get (i := 0) rfl)).1
  clear hg
  by_cases h0 : X.slots = []
  · have hq0 := hq.2 h0
    have HC : Hid (keepC X s = 1) := Lib.hid (by unfold keepC; rw [if_pos h0])
    have HL : Hid (keepL X s = []) := Lib.hid (keep_out (by rw [HC.out]; decide))
    clear h0 hq
    subst hq0
    go_wp2_with fail
    exact retM0 (v := .tuple #[.slice none 0 0, .int .i64 1]) (by simp [results, Try.results42, go_sem]) rfl ⟨_, by rw [HC.out], by rw [HL.out]; exact ⟨nilRow _ _ _, fun k hk => by cases hk⟩, H1.out.g⟩
  · obtain ⟨q', rfl⟩ : ∃ q', q = some q' := by
      cases q with
      | none => exact absurd (hq.1 rfl) h0
      | some q' => exact ⟨q', rfl⟩
    have HNE := Lib.hid h0
    clear h0 hq
    cases hs : X.has s with
    | false =>
      have HC : Hid (keepC X s = 3) := Lib.hid (by unfold keepC; rw [if_neg HNE.out, if_pos hs])
      have HL : Hid (keepL X s = []) := Lib.hid (keep_out (by rw [HC.out]; decide))
      have hh := HHAS.out
      rw [hs] at hh
      have hh' : ¬ (0 ≤ s ∧ s < X.slots.length) := of_decide_eq_false hh.symm
      clear hs hh
      by_cases hs0 : s < 0
      · go_wp2_with fail
        exact retM0 (v := .tuple #[.slice none 0 0, .int .i64 3]) (by simp [results, Try.results42, go_sem]) rfl ⟨_, by rw [HC.out], by rw [HL.out]; exact ⟨nilRow _ _ _, fun k hk => by cases hk⟩, H1.out.g⟩
      · have hs1 : (X.slots.length : Int) ≤ s := by omega
        clear hh'
        go_wp2_with (go_at_call 33; refine (Slots_any (H.out.gr H1.out.g)).mono ?_; rintro r w2 ⟨rfl, rfl⟩)
        exact retM0 (v := .tuple #[.slice none 0 0, .int .i64 3]) (by simp [results, Try.results42, go_sem]) rfl ⟨_, by rw [HC.out], by rw [HL.out]; exact ⟨nilRow _ _ _, fun k hk => by cases hk⟩, H1.out.g⟩
    | true =>
      have HC : Hid (keepC X s = 0) := Lib.hid (by unfold keepC; rw [if_neg HNE.out, if_neg (by rw [hs]; simp)])
      have hh := HHAS.out
      rw [hs] at hh
      obtain ⟨hs0, hs1⟩ := of_decide_eq_true hh.symm
      have hs0' : ¬ s < 0 := by omega
      have hs1' : ¬ (X.slots.length : Int) ≤ s := by omega
      clear hs hh hs0 hs1
      have lb2 := blkLt (show w1.heap[b2]? = _ from H1.out.get (i := 0) rfl)
      go_wp2_with (first
        | (go_at_call 33; refine (Slots_any (H.out.gr H1.out.g)).mono ?_; rintro r w2 ⟨rfl, rfl⟩)
        | fail)
      obtain ⟨bo, hbo⟩ : ∃ q, q = w1.heap.size := ⟨_, rfl⟩
      have HS2 : Hid (SW w [blkA bo (.cells #[.slice none 0 0] 61), rowA 43 6 (.slice none 0 0) 0 [], blkA b2 (.cells #[.pointer p] 32)] (w1.alloc (.cells #[.slice none 0 0] 61))) := Lib.hid (by
        rw [hbo]
        exact (H1.out.new (Gr.refl _) (A := rowA 43 6 (.slice none 0 0) 0 []) (nilRow _ _ _) (fun k hk => by cases hk)).alloc _)
      obtain ⟨w2, hw2⟩ : ∃ y, y = w1.alloc (.cells #[.slice none 0 0] 61) := ⟨_, rfl⟩
      rw [← hw2] at HS2
      rw [← hw2, ← hbo]
      clear hw2 hbo c1 hs0' hs1' lb2
      refine (Slot_any p s _).mono ?_
      rintro e' w3 ⟨bb, bk, rfl, h1, h2, h3, h4, hg⟩
      have HS3 := Lib.hid (HS2.out.gr hg)
      have HI := Lib.hid (H.out.gr HS3.out.g)
      have HSEQ := Lib.hid (SeqSlotP HI.out s bb bk h1 h2)
      have HA : Hid (∀ q, (q = bb ∨ q = bk ∨ S q) → q < w3.heap.size) := Lib.hid (fun q hq => by
        have l1 := World.block_lt_of_cell? w3 ⟨bb, 0, none⟩ h1
        have l2 := World.block_lt_of_cell? w3 ⟨bk, 0, none⟩ h2
        rcases hq with rfl | rfl | hq
        · exact l1
        · exact l2
        · exact HI.out.lt q hq)
      have HZ : Hid (SWz w w3 (fun q => q = bb ∨ q = bk ∨ S q) [blkA bo (.cells #[.slice none 0 0] 61), rowA 43 6 (.slice none 0 0) 0 [], blkA b2 (.cells #[.pointer p] 32)] (fun _ => False) w3) := Lib.hid (SWz.start HS3.out (fun B hB k hk ha => by
        have l1 := HS2.out.s.lt hB k hk
        have l2 := HS2.out.n B hB k hk
        rcases ha with rfl | rfl | ha
        · omega
        · omega
        · have := H.out.lt k ha; omega))
      clear h1 h2 h3 h4 hg
      go_wp2_with fail
      apply wp_rangeFunc_zx (gf := 100) (lb := #[.pointer (some ⟨bb, 0, none⟩), .pointer (some ⟨bk, 0, none⟩)]) rfl (enters_of Try.func100 (by kernel_rfl) rfl) HSEQ.out (Mdh.refl _ w3) HA.out (fun _ => rfl)
        (fun Z pre X' => ∃ v, SWz w w3 (fun q => q = bb ∨ q = bk ∨ S q) [blkA bo (.cells #[v] 61), rowA 43 6 v (pre.filter X.needs).length (rowE (pre.filter X.needs)), blkA b2 (.cells #[.pointer p] 32)] Z X')
        (fun _ _ _ => False) (fun _ _ _ => False)
        (Apart.ex fun v => SWz.apart HS3.out.g.sz (fun pre : List En => [blkA bo (.cells #[v] 61), rowA 43 6 v (pre.filter X.needs).length (rowE (pre.filter X.needs)), blkA b2 (.cells #[.pointer p] 32)])) apart_no apart_no
        ⟨_, HZ.out⟩ (fun Z pre X' ⟨v, h⟩ => h.frm HS3.out.g) (fun x => boxE x)
        _ ?assign ?body ?hend ?hret
      case hret => intro _ _ _ _ _ _ _ h; exact h.elim
      case assign =>
        intro l x bx X' K hbx hK
        dsimp only [encE, enV]
        gi_wp2
        rw [← hbx]
        exact hK
      case body =>
        intro l Z pre x bx X' hI hbx hx hzx hzl hlr hsp
        obtain ⟨v, hI⟩ := hI
        have HIZ := Lib.hid hI
        have HX := Lib.hid hx
        have HB2 := Lib.hid (show X'.heap[b2]? = _ from hI.s.get (i := 2) rfl)
        have HPL : Hid (pre.length ≤ 511) := Lib.hid (by have := hsp.length_le; have := HLE.out; simp at *; omega)
        have dx := (cellsOf HX.out).1
        have d2 := (cellsOf HB2.out).1
        have HIX : Hid (IXP X' p X S) := Lib.hid (H.out.gr hI.s.g)
        clear hI hbx hx hzx hzl hlr hsp
        gi_wp2_with fail
        refine ⟨trivial, (CallsIn.inRound l (callsIn_wide.2 (needed_any HIX.out x))).mono ?_⟩
        rintro e w9 ⟨rfl, hg9⟩
        have HZ9 := Lib.hid (HIZ.out.gr hg9)
        have HX9 := Lib.hid (hg9.blk HX.out)
        clear hg9 d2 dx
        cases hnx : X.needs x with
        | false =>
          have HN := Lib.hid (filter_no (l := pre) hnx)
          clear hnx
          gi_wp2_with fail
          exact ⟨HZ9.out.2, v, by rw [HN.out]; exact HZ9.out.1⟩
        | true =>
          have HN := Lib.hid (filter_yes (l := pre) hnx)
          have HFL : Hid ((pre.filter X.needs).length ≤ 511) := Lib.hid (Nat.le_trans (List.length_filter_le _ _) HPL.out)
          generalize pre.filter X.needs = kept at *
          have HO := Lib.hid (show Own w9 43 6 v kept.length (rowE kept) from HZ9.out.1.s.get (i := 1) rfl)
          have HB := Lib.hid (show w9.heap[bo]? = _ from HZ9.out.1.s.get (i := 0) rfl)
          have dx := (cellsOf HX9.out).1
          have lx := blkLt HX9.out
          obtain ⟨db, fb⟩ := cellsOf HB.out
          have lbb := blkLt HB.out
          have HNB : Hid (¬ v.ownBlock = some bo) := Lib.hid (own_ne HO.out HB.out (by decide))
          have hfl := HFL.out
          clear hnx
          gi_wp2_with (first
            | (gi_at_builtin; go_must (refine wpListIn_appv _ rfl (.tmp 28) (.tmp 30) 61 rfl 43 i0 _ 6 56 Try.underlying61 hi hz0 hz1 hz2 rfl (by decide) v kept.length (rowE kept) rfl (HO.out.gr (by (repeat (first | (with_reducible exact Gr.refl _) | assumption | (with_reducible apply Gr.from_drew) | (with_reducible apply Gr.alloc) | (with_reducible apply Gr.drew) | (with_reducible refine Gr.trans ?_ (by assumption)) | (with_reducible refine Gr.setCell ?_ (by omega) _))))) (some ⟨w9.heap.size, 0, none⟩) 1 1 (enC x) rfl ((src_newK w9 (enC x) _ 6 rfl (enC_one x))) (by simp only [maxLen]; omega) (by omega) ?_); intro v2 w10 hA; obtain ⟨a2, c2, rfl⟩ := hA.val; have HAV := Lib.hid hA; have HB2 := Lib.hid ((hA.mdh (fun g h => h)).blk (((Gr.refl w9).alloc _).blk HB.out) HNB.out); clear hA; obtain ⟨db2, fb2⟩ := cellsOf HB2.out)
            | fail)
          have z2 := HZ9.out.1.gr ((Gr.refl w9).alloc (.cells (enC x).toArray 43))
          have z3 := z2.1.step (i := 1) (B' := rowA 43 6 (.slice a2 (kept.length + 1) c2) (kept.length + 1) (rowE kept ++ enC x)) rfl HA.out (HAV.out.mdh (fun g h => h)) (fun k hk => .inl hk) HAV.out.1 (fun k hq => HAV.out.2.1 k hq)
          have z4 := z3.1.step (i := 0) (B' := blkA bo (.cells #[.slice a2 (kept.length + 1) c2] 61)) rfl HA.out ((Mdh.refl (fun k => k = bo) w10).setCell (p := ⟨bo, 0, none⟩) rfl (.slice a2 (kept.length + 1) c2)) (fun k hk => .inl hk) (blkSet (j := 0) (u := .slice a2 (kept.length + 1) c2) HB2.out) (fun k hk => .inl hk)
          refine ⟨((HZ9.out.2.trans z2.2).trans z3.2).trans z4.2, .slice a2 (kept.length + 1) c2, ?_⟩
          rw [HN.out, rowE_snoc, List.length_append]
          exact z4.1
      case hend =>
        intro Z D xs W hD hZD hcase hdef
        obtain ⟨hxs, v, hI⟩ := hcase.elim (fun h => h) (fun h => h.2.elim)
        have hxs' : xs = X.slot s := hxs
        subst hxs'
        have db := (cellsOf (show W.heap[bo]? = _ from hI.s.get (i := 0) rfl)).1
        have HZW := Lib.hid hI
        have HD := Lib.hid (And.intro hD (And.intro hZD hdef))
        clear hcase hI hD hZD hdef hxs
        dsimp only
        go_wp2_with fail
        obtain ⟨hD, hZD, hdef⟩ := HD.out
        have hm : Mdh (fun k => k = D) W (W.putObj D (.deferred none)) := (Mdh.refl (fun k => k = D) W).putObj rfl _
        refine retM1 (D := D) (v := .tuple #[v, .int .i64 0]) rfl hdef (by simp [results, Try.results42, go_sem]) ⟨v, by rw [HC.out], ⟨(show Own W _ _ _ _ _ from HZW.out.s.get (i := 1) rfl).mdh hm (fun k hk e => HZW.out.z _ (List.mem_cons_of_mem _ (List.mem_cons_self ..)) k hk (e ▸ hZD)), fun q hq => HZW.out.s.n _ (List.mem_cons_of_mem _ (List.mem_cons_self ..)) q hq⟩, HZW.out.s.g.putObj (Nat.le_trans HS3.out.g.sz hD) _⟩
end Go.Proofs.Ythefpmmeoajaiaa
