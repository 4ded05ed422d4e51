/- The small functions of index: made, has, how entries compare, keys, valid. -/
import Derived.Test.YtiidkehcfoajeaaIxr
import Derived.Test.YtiidkehcfoajeaaIxk
import Derived.Lib.Bytealg
import Derived.Laws.RangeString
import Derived.Laws.RangeAny
import Derived.Laws.Externs
set_option linter.unusedVariables false
set_option linter.unusedSimpArgs false
namespace Go.Proofs.Ytiidkehcfoajeaa
open Go.RowKit
attribute [local go_sem] OvM cell_ovm obj_ovm

theorem IXR.cells {w : World} {b : Nat} {X : IX} {S : Nat → Prop} (h : IXR w b X S) : ∃ bm g cap, w.cell? ⟨b, 0, none⟩ = some (.pointer (some ⟨bm, 0, none⟩)) ∧ w.cell? ⟨b, 1, none⟩ = some (.slice (some ⟨g, 0, none⟩) X.slots.length cap) ∧ X.slots.length ≤ cap ∧ cap ≤ maxLen ∧ 0 < X.slots.length := by
  obtain ⟨h1, h2, Y, h3, h4, h5⟩ := h
  have hb := Lay.blk h3
  have hp : 0 < X.slots.length := List.length_pos_iff.2 h2
  rcases (Lay.srow h3).2 with ⟨_, h0⟩ | ⟨g, cap, cur, hv, _, hg, c1, c2, c3, c4⟩
  · omega
  · rw [hv] at hb
    exact ⟨Y.bm, g, cap, ((cellsOf hb).1 0).trans rfl, ((cellsOf hb).1 1).trans rfl, c1, c2, hp⟩
/-- A pointer to no index that was made. -/
def IXN (w : World) (p : Option Addr) : Prop := p = none ∨ ∃ b, p = some ⟨b, 0, none⟩ ∧ w.heap[b]? = some (.cells #[.pointer none, .slice none 0 0] 29)
theorem IXN.gr {w w' : World} {p : Option Addr} (h : IXN w p) (g : Gr w w') : IXN w' p := h.imp (fun h => h) (fun ⟨b, e, h⟩ => ⟨b, e, g.blk h⟩)

set_option maxRecDepth 40000 in
theorem made_yes {w : World} {b : Nat} {X : IX} {S : Nat → Prop} (h : IXR w b X S) : Calls Try.prog 95 #[.pointer (some ⟨b, 0, none⟩)] w fun e w' => e = .returned (.bool true) ∧ w = w' := by
  obtain ⟨bm, g, cap, c0, c1, c2, c3, c4⟩ := h.cells
  have c5 : (0 : Int) < X.slots.length := by omega
  generalize X.slots.length = n at *
  clear h
  go_enter Try.func95, Try.ntmps95
  go_wp2
  go_ret
  exact ⟨rfl, rfl⟩
set_option maxRecDepth 40000 in
theorem made_no {w : World} {p : Option Addr} (h : IXN w p) : Calls Try.prog 95 #[.pointer p] w fun e w' => e = .returned (.bool false) ∧ w = w' := by
  rcases h with rfl | ⟨b, rfl, h⟩
  · go_enter Try.func95, Try.ntmps95
    go_wp2
    go_ret
    exact ⟨rfl, rfl⟩
  · have c1 := ((cellsOf h).1 1).trans (show _ = some (Value.slice none 0 0) from rfl)
    clear h
    go_enter Try.func95, Try.ntmps95
    go_wp2
    go_ret
    exact ⟨rfl, rfl⟩
set_option maxRecDepth 40000 in
theorem has_yes {w : World} {b : Nat} {X : IX} {S : Nat → Prop} (h : IXR w b X S) (s : Int) : Calls Try.prog 99 #[.pointer (some ⟨b, 0, none⟩), .int .i64 s] w fun e w' => e = .returned (.bool (X.has s)) ∧ w = w' := by
  obtain ⟨bm, g, cap, c0, c1, c2, c3, c4⟩ := h.cells
  have H := Lib.hid h
  have HB := Lib.hid (show X.has s = decide (0 ≤ s ∧ s < X.slots.length) from rfl)
  rw [HB.out]
  clear h
  go_enter Try.func99, Try.ntmps99
  go_wp2_with (go_at_call 95; refine (made_yes H.out).mono ?_; rintro e w1 ⟨rfl, rfl⟩)
  all_goals
    go_ret
    exact ⟨ret_bool (by first | (simp_all; done) | (simp_all; omega)), rfl⟩
set_option maxRecDepth 40000 in
theorem has_no {w : World} {p : Option Addr} (h : IXN w p) (s : Int) : Calls Try.prog 99 #[.pointer p, .int .i64 s] w fun e w' => e = .returned (.bool false) ∧ w = w' := by
  have H := Lib.hid h
  clear h
  go_enter Try.func99, Try.ntmps99
  go_wp2_with (go_at_call 95; refine (made_no H.out).mono ?_; rintro e w1 ⟨rfl, rfl⟩)
  go_ret
  exact ⟨rfl, rfl⟩

/-! ### How entries compare -/
def newerZ (a b : En) : Int := orL [cmpZ b.seq a.seq, cmpZ a.slot b.slot]
theorem newer_neg (a b : En) : newerZ a b < 0 ↔ ltE a b = true := by
  unfold newerZ ltE
  rw [orL2_neg, cmpZ_neg, cmpZ_neg, cmpZ_zero]
  simp
  omega
set_option maxRecDepth 40000 in
theorem newer_any (a b : En) (w : World) : Calls Try.prog 110 #[enV a, enV b] w fun e w' => e = .returned (.int .i64 (newerZ a b)) ∧ Gr w w' := by
  have HN := Lib.hid (show newerZ a b = orL [cmpZ b.seq a.seq, cmpZ a.slot b.slot] from rfl)
  rw [HN.out]
  obtain ⟨a1, a2, a3, a4, a5, a6⟩ := a
  obtain ⟨b1, b2, b3, b4, b5, b6⟩ := b
  simp only [enV]
  go_enter Try.func110, Try.ntmps110
  go_wp2_with fail
  have HG := Gr.refl ((w.alloc (.cells #[.int .i64 a1, .string a2, .bool a3, .int .i64 a4, .int .i64 a5, .int .i64 a6] 23)).alloc (.cells #[.int .i64 b1, .string b2, .bool b3, .int .i64 b4, .int .i64 b5, .int .i64 b6] 23)).drew
  refine wp_region_flo (fun _ => False) [] [] (by kernel_rfl) (by kernel_rfl) (fun _ h => h.elim) ?_
  refine flo_seg 4 rfl ?_
  simp only [List.take_succ_cons, List.take_zero, List.drop_succ_cons, List.drop_zero]
  repeat (go_big_quiet_step (fail))
  refine wpQuiet_nil ?_
  refine flo_eff rfl rfl rfl rfl (fun K hK => ?_)
  go_wp2_with ((go_at_call 138; refine (Compare_int64 _ _ _).mono ?_; rintro e w1 ⟨rfl, rfl⟩))
  refine ⟨by (first | (refine Gr.mdh ?_ _; (repeat (first | (with_reducible exact Gr.refl _) | assumption | (with_reducible apply Gr.from_drew) | (with_reducible apply Gr.alloc) | (with_reducible apply Gr.drew) | (with_reducible refine Gr.trans ?_ (by assumption)) | (with_reducible refine Gr.setCell ?_ (by omega) _))); done) | (repeat (first | (with_reducible exact Mdh.refl _ _) | (with_reducible refine Mdh.setCell ?_ (by simp) _) | (with_reducible refine Mdh.setNew ?_ (by simp) _) | (with_reducible apply Mdh.alloc) | (with_reducible apply Mdh.from_drew) | (with_reducible apply Mdh.drew) | (with_reducible refine Mdh.gr ?_ (by assumption))))), ?_⟩
  refine flo_seg 4 rfl ?_
  simp only [List.take_succ_cons, List.take_zero, List.drop_succ_cons, List.drop_zero]
  repeat (go_big_quiet_step (fail))
  refine wpQuiet_nil ?_
  refine flo_eff rfl rfl rfl rfl (fun K hK => ?_)
  go_wp2_with ((go_at_call 107; refine (Compare_int _ _ _).mono ?_; rintro e w1 ⟨rfl, rfl⟩))
  refine ⟨by (first | (refine Gr.mdh ?_ _; (repeat (first | (with_reducible exact Gr.refl _) | assumption | (with_reducible apply Gr.from_drew) | (with_reducible apply Gr.alloc) | (with_reducible apply Gr.drew) | (with_reducible refine Gr.trans ?_ (by assumption)) | (with_reducible refine Gr.setCell ?_ (by omega) _))); done) | (repeat (first | (with_reducible exact Mdh.refl _ _) | (with_reducible refine Mdh.setCell ?_ (by simp) _) | (with_reducible refine Mdh.setNew ?_ (by simp) _) | (with_reducible apply Mdh.alloc) | (with_reducible apply Mdh.from_drew) | (with_reducible apply Mdh.drew) | (with_reducible refine Mdh.gr ?_ (by assumption))))), ?_⟩
  refine flo_eff rfl rfl rfl rfl (fun K hK => ?_)
  go_wp2
  refine ⟨by (first | (refine Gr.mdh ?_ _; (repeat (first | (with_reducible exact Gr.refl _) | assumption | (with_reducible apply Gr.from_drew) | (with_reducible apply Gr.alloc) | (with_reducible apply Gr.drew) | (with_reducible refine Gr.trans ?_ (by assumption)) | (with_reducible refine Gr.setCell ?_ (by omega) _))); done) | (repeat (first | (with_reducible exact Mdh.refl _ _) | (with_reducible refine Mdh.setCell ?_ (by simp) _) | (with_reducible refine Mdh.setNew ?_ (by simp) _) | (with_reducible apply Mdh.alloc) | (with_reducible apply Mdh.from_drew) | (with_reducible apply Mdh.drew) | (with_reducible refine Mdh.gr ?_ (by assumption))))), ?_⟩
  refine flo_eff rfl rfl rfl rfl (fun K hK => ?_)
  go_wp2_with ((go_at_call 137; refine (Or_two _ (cmpZ b1 a1) (cmpZ a4 b4) _ (by simp [go_sem]) (by simp [go_sem])).mono ?_; rintro e w1 ⟨rfl, rfl⟩))
  refine ⟨by (first | (refine Gr.mdh ?_ _; (repeat (first | (with_reducible exact Gr.refl _) | assumption | (with_reducible apply Gr.from_drew) | (with_reducible apply Gr.alloc) | (with_reducible apply Gr.drew) | (with_reducible refine Gr.trans ?_ (by assumption)) | (with_reducible refine Gr.setCell ?_ (by omega) _))); done) | (repeat (first | (with_reducible exact Mdh.refl _ _) | (with_reducible refine Mdh.setCell ?_ (by simp) _) | (with_reducible refine Mdh.setNew ?_ (by simp) _) | (with_reducible apply Mdh.alloc) | (with_reducible apply Mdh.from_drew) | (with_reducible apply Mdh.drew) | (with_reducible refine Mdh.gr ?_ (by assumption))))), ?_⟩
  refine flo_seg 1 rfl ?_
  simp only [List.take_succ_cons, List.take_zero, List.drop_succ_cons, List.drop_zero]
  repeat (go_big_quiet_step (fail))
  refine wpQuiet_nil ?_
  refine flo_nil ?_
  go_wp2
  go_ret
  exact ⟨rfl, (((Gr.refl w).alloc _).alloc _).trans (Gr.of_drew (by (repeat (first | (with_reducible exact Gr.refl _) | assumption | (with_reducible apply Gr.from_drew) | (with_reducible apply Gr.alloc) | (with_reducible apply Gr.drew) | (with_reducible refine Gr.trans ?_ (by assumption)) | (with_reducible refine Gr.setCell ?_ (by omega) _)))))⟩
theorem cmp_off (o : En) (off : Int) (w : World) : Calls Try.prog 106 #[enV o, .int .i64 off] w fun e w' => e = .returned (.int .i64 (cmpZ o.off off)) ∧ Gr w w' := by
  obtain ⟨a1, a2, a3, a4, a5, a6⟩ := o
  simp only [enV]
  go_enter Try.func106, Try.ntmps106
  go_wp2_with (go_at_call 107; refine (Compare_int _ _ _).mono ?_; rintro e w1 ⟨rfl, rfl⟩)
  go_ret
  exact ⟨rfl, by (repeat (first | (with_reducible exact Gr.refl _) | assumption | (with_reducible apply Gr.from_drew) | (with_reducible apply Gr.alloc) | (with_reducible apply Gr.drew) | (with_reducible refine Gr.trans ?_ (by assumption)) | (with_reducible refine Gr.setCell ?_ (by omega) _)))⟩

/-! ### Keys -/
def lettersL : List UInt8 := [45, 46, 48, 49, 50, 51, 52, 53, 54, 55, 56, 57, 95, 97, 98, 99, 100, 101, 102, 103, 104, 105, 106, 107, 108, 109, 110, 111, 112, 113, 114, 115, 116, 117, 118, 119, 120, 121, 122]
theorem letters_key (c : UInt8) : decide (0 ≤ Lib.indexByte lettersL c) = keyC c := by
  have h : ∀ n : Fin 256, decide (0 ≤ Lib.indexByte lettersL (UInt8.ofNat n.val)) = keyC (UInt8.ofNat n.val) := by decide +kernel
  have := h ⟨c.toNat, c.toNat_lt⟩
  simpa using this
set_option maxRecDepth 1000000 in
theorem IndexByte_any (s : ByteArray) (c : Int) (w : World) : Calls Try.prog 157 #[.string s, .int .u8 c] w fun e w' => e = .returned (.int .i64 (Lib.indexByte s.data.toList c.toNat.toUInt8)) ∧ w = w' := by
  have h1 : Calls Try.prog 162 #[.string s, .int .u8 c] w fun e w' => e = .returned (.int .i64 (Lib.indexByte s.data.toList c.toNat.toUInt8)) ∧ w = w' := by
    go_enter Try.func162, Try.ntmps162
    go_wp2
    rw [run_callFunc_extern Try.func163 (by kernel_rfl) (by kernel_rfl) (by kernel_rfl) (e := Extern.BytealgIndexByte.indexByte) (by kernel_rfl), Lib.run_indexByteString]
    simp only [Result.andThen]
    rw [Oper.upon_value]
    go_wp2
    go_ret
    exact ⟨rfl, rfl⟩
  have H := Lib.hid h1
  clear h1
  go_enter Try.func157, Try.ntmps157
  go_wp2_with (go_at_call 162; refine H.out.mono ?_; rintro e w1 ⟨rfl, rfl⟩)
  go_ret
  exact ⟨rfl, rfl⟩
set_option maxRecDepth 1000000 in
theorem IndexRune_low (s : ByteArray) (c : Int) (h0 : 0 ≤ c) (h1 : c < 128) (w : World) : Calls Try.prog 154 #[.string s, .int .i32 c] w fun e w' => e = .returned (.int .i64 (Lib.indexByte s.data.toList c.toNat.toUInt8)) ∧ w = w' := by
  go_enter Try.func154, Try.ntmps154
  go_wp2_with (go_at_call 157; refine (IndexByte_any _ _ _).mono ?_; rintro e w1 ⟨rfl, rfl⟩)
  go_ret
  exact ⟨rfl, rfl⟩
set_option maxRecDepth 1000000 in
theorem ContainsRune_low (s : ByteArray) (c : Int) (h0 : 0 ≤ c) (h1 : c < 128) (w : World) : Calls Try.prog 147 #[.string s, .int .i32 c] w fun e w' => e = .returned (.bool (decide (0 ≤ Lib.indexByte s.data.toList c.toNat.toUInt8))) ∧ w = w' := by
  go_enter Try.func147, Try.ntmps147
  go_wp2_with (go_at_call 154; refine (IndexRune_low _ _ h0 h1 _).mono ?_; rintro e w1 ⟨rfl, rfl⟩)
  go_ret
  exact ⟨rfl, rfl⟩
theorem toList_data (k : ByteArray) : k.toList = k.data.toList := ByteArray.toList_eq k
theorem size_data (k : ByteArray) : k.size = k.data.toList.length := Array.length_toList.symm
theorem Check_next (k : ByteArray) (pos : Nat) (h : pos < k.size) : (∀ j (hj : j < k.size), j < pos + 1 → keyC (k[j]'hj) = true) ↔ ((∀ j (hj : j < k.size), j < pos → keyC (k[j]'hj) = true) ∧ keyC (k[pos]'h) = true) :=
  ⟨fun g => ⟨fun j hj hl => g j hj (by omega), g pos h (by omega)⟩, fun ⟨g1, g2⟩ j hj hl => by
    rcases Nat.lt_or_ge j pos with h1 | h1
    · exact g1 j hj h1
    · obtain rfl : j = pos := by omega
      exact g2⟩
theorem all_bytes (k : ByteArray) : k.toList.all keyC = true ↔ ∀ j (hj : j < k.size), keyC (k[j]'hj) = true := by
  rw [toList_data, List.all_eq_true]
  constructor
  · intro h j hj
    exact h _ (by
      have : k.data.toList[j]'(by rw [← size_data]; exact hj) = k[j]'hj := rfl
      rw [← this]; exact List.getElem_mem _)
  · intro h c hc
    obtain ⟨j, hj, rfl⟩ := List.mem_iff_getElem.1 hc
    exact h j (by rw [size_data]; exact hj)
theorem keyChk_bad {k : ByteArray} (j : Nat) (hj : j < k.size) (h : keyC (k[j]'hj) = false) : keyChk k = 2 := by
  unfold keyChk
  rw [if_pos]
  cases e : k.toList.all keyC with
  | false => rfl
  | true => rw [(all_bytes k).1 e j hj] at h; cases h
theorem keyChk_ok {k : ByteArray} (h : ∀ j (hj : j < k.size), keyC (k[j]'hj) = true) : keyChk k = if k.size = 0 then 2 else if 32 < k.size then 12 else 0 := by
  unfold keyChk
  rw [if_neg]
  rw [(all_bytes k).2 h]
  simp
set_option maxRecDepth 1000000 in
theorem ContainsRune_key (c : UInt8) (h : c.toNat < 128) (w : World) : Calls Try.prog 147 #[.string ⟨#[45, 46, 48, 49, 50, 51, 52, 53, 54, 55, 56, 57, 95, 97, 98, 99, 100, 101, 102, 103, 104, 105, 106, 107, 108, 109, 110, 111, 112, 113, 114, 115, 116, 117, 118, 119, 120, 121, 122]⟩, .int .i32 c.toNat] w fun e w' => e = .returned (.bool (keyC c)) ∧ w = w' :=
  (ContainsRune_low _ _ (by omega) (by omega) w).mono fun e w' ⟨he, hw⟩ => ⟨by
    rw [he, ← letters_key c, show (Int.toNat (c.toNat : Int)).toUInt8 = c from by rw [Int.toNat_natCast]; simp]
    rfl, hw⟩
def Low (k : ByteArray) : Prop := ∀ j (hj : j < k.size), (k[j]'hj).toNat < 128
set_option maxRecDepth 1000000 in
set_option maxHeartbeats 1000000 in
theorem Check_low (k : ByteArray) (hA : Low k) (hm : k.size ≤ 140737488351232) (w : World) : Calls Try.prog 133 #[.string k] w fun e w' => e = .returned (.int .i64 (keyChk k)) ∧ Gr w w' := by
  have HA := Lib.hid hA
  clear hA
  go_enter Try.func133, Try.ntmps133
  go_wp2_with fail
  go_loopw [] (fun wx => ∃ pos : Nat, pos ≤ k.size ∧ wx = w.iter k pos ∧ Hid (∀ j (hj : j < k.size), j < pos → keyC (k[j]'hj) = true)) (fun wx => k.size - wx.iterPos w.heap.size)
  case atStart => exact ⟨0, by omega, rfl, Lib.hid (fun j _ h => by omega)⟩
  case round =>
    obtain ⟨pos, hp, rfl, H⟩ := hrel
    by_cases hlt : pos < k.size
    · have hnx : ∀ ty, (Instr.next (.pointer (some ⟨w.heap.size, 0, none⟩)) true ty).run Try.prog (w.iter k pos) = _ := fun ty => run_next_ascii (P := Try.prog) w k pos ty hlt (HA.out pos hlt)
      have HN := Lib.hid (Check_next k pos hlt)
      have hc := HA.out pos hlt
      have HB := Lib.hid (fun h => keyChk_bad (k := k) pos hlt h)
      generalize k[pos]'hlt = c at *
      have h1 : c.toNat < 128 := hc
      cases hk : keyC c with
      | true =>
        have HK := Lib.hid hk
        clear hk
        go_wp2_with (go_at_call 147; refine (ContainsRune_key c h1 _).mono ?_; rintro e w1 ⟨rfl, rfl⟩; rw [HK.out])
        go_roundw
        case rel => exact ⟨pos + 1, by omega, rfl, Lib.hid (HN.out.2 ⟨H.out, HK.out⟩)⟩
        case measure => simp; omega
      | false =>
        have HK := Lib.hid hk
        clear hk
        go_wp2_with (go_at_call 147; refine (ContainsRune_key c h1 _).mono ?_; rintro e w1 ⟨rfl, rfl⟩; rw [HK.out])
        go_ret
        exact ⟨ret_int (HB.out HK.out).symm, (Gr.refl w).alloc _⟩
    · obtain rfl : pos = k.size := by omega
      have hnx : ∀ ty, (Instr.next (.pointer (some ⟨w.heap.size, 0, none⟩)) true ty).run Try.prog (w.iter k k.size) = _ := fun ty => run_next_end w k k.size ty (by omega)
      have HE := Lib.hid (keyChk_ok (k := k) (fun j hj => H.out j hj hj))
      clear H
      have hl : k.toList.length = k.size := by rw [toList_data, size_data]
      by_cases h0 : k.size = 0
      · have e0 : k.toList = [] := List.eq_nil_of_length_eq_zero (by omega)
        have HR : Hid (keyChk k = 2) := Lib.hid (by rw [HE.out, if_pos h0])
        clear HE hl h0
        go_wp2
        go_ret
        exact ⟨ret_int HR.out.symm, (Gr.refl w).alloc _⟩
      · have e0 : k.toList.isEmpty = false := by cases hk : k.toList with | nil => rw [hk] at hl; simp at hl; omega | cons a b => rfl
        by_cases h1 : 32 < k.size
        · have h2 : (32 : Int) < k.size := by omega
          have HR : Hid (keyChk k = 12) := Lib.hid (by rw [HE.out, if_neg h0, if_pos h1])
          clear HE hl h0 h1
          go_wp2
          go_ret
          exact ⟨ret_int HR.out.symm, (Gr.refl w).alloc _⟩
        · have h2 : ¬ (32 : Int) < k.size := by omega
          have HR : Hid (keyChk k = 0) := Lib.hid (by rw [HE.out, if_neg h0, if_neg h1])
          clear HE hl h0 h1
          go_wp2
          go_ret
          exact ⟨ret_int HR.out.symm, (Gr.refl w).alloc _⟩
set_option maxRecDepth 40000 in
set_option maxHeartbeats 1000000 in
theorem valid_low (e : En) (hA : Low e.key) (hm : e.key.size ≤ 140737488351232) (w : World) (hs : e.size ≤ 9223372036854775807) (hs' : -9223372036854775808 ≤ e.size) : Calls Try.prog 104 #[enV e] w fun e' w' => e' = .returned (.bool (validE e)) ∧ Gr w w' := by
  have HV := Lib.hid (valid_iff e)
  obtain ⟨a1, a2, a3, a4, a5, a6⟩ := e
  have HB : Hid (validE ⟨a1, a2, a3, a4, a5, a6⟩ = decide (keyChk a2 = 0 ∧ 1 ≤ a1 ∧ a1 ≤ 1099511627776 ∧ 0 ≤ a5 ∧ 16 + (a2.size : Int) ≤ a6 ∧ (a6 = 16 + (a2.size : Int) ∨ a3 = false) ∧ a6 ≤ 8192 ∧ a5 ≤ 8192 - a6)) := Lib.hid rfl
  simp only [enV] at *
  have HA := Lib.hid hA
  obtain ⟨c, hc⟩ : ∃ c, c = keyChk a2 := ⟨_, rfl⟩
  have HC := Lib.hid hc
  rw [← hc] at HB
  clear hA hc HV
  go_enter Try.func104, Try.ntmps104
  go_wp2_with (go_at_call 133; refine (Check_low _ HA.out hm _).mono ?_; rintro e w1 ⟨rfl, hg⟩; rw [← HC.out]; have HG := Lib.hid hg; have c0 := hg.cell; simp only [World.size_alloc] at c0; clear hg)
  all_goals
    go_ret
    have HC' := HC.out
    clear c0 HB HA
    exact ⟨ret_bool (by simp only [validE]; rw [← HC']; clear HC'; first | (simp_all; done) | (simp_all; omega)), ((Gr.refl w).alloc _).trans HG.out⟩
end Go.Proofs.Ytiidkehcfoajeaa
