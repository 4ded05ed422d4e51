/- key.Check at any string: runes of 128 and more are not among the letters. -/
import Derived.Test.YtmdfickejpeofaaBd9
import Derived.Laws.Runes
import Derived.WalkMore
import Derived.Test.YtmdfickejpeofaaBd10
import Derived.Test.YtmdfickejpeofaaBd14
import Derived.Test.YtmdfickejpeofaaBd12
set_option linter.unusedVariables false
set_option linter.unusedSimpArgs false
namespace Go.Proofs.Ytmdfickejpeofaa
open Go.RowKit
attribute [local go_sem] OvM cell_ovm obj_ovm

set_option maxRecDepth 40000 in
theorem ValidRune_any (c : Int) (h0 : 0 ≤ c) (w : World) : Calls Try.prog 191 #[.int .i32 c] w fun e w' => e = .returned (.bool (validRune c)) ∧ w = w' := by
  by_cases h1 : c < 55296
  · have HV : Hid (validRune c = true) := Lib.hid (by simp [validRune]; omega)
    go_enter Try.func191, Try.ntmps191
    go_wp2_with fail
    go_ret
    exact ⟨ret_bool HV.out.symm, rfl⟩
  · by_cases h2 : 57343 < c
    · by_cases h3 : c ≤ 1114111
      · have HV : Hid (validRune c = true) := Lib.hid (by simp [validRune]; omega)
        go_enter Try.func191, Try.ntmps191
        go_wp2_with fail
        go_ret
        exact ⟨ret_bool HV.out.symm, rfl⟩
      · have HV : Hid (validRune c = false) := Lib.hid (by simp [validRune]; omega)
        go_enter Try.func191, Try.ntmps191
        go_wp2_with fail
        go_ret
        exact ⟨ret_bool HV.out.symm, rfl⟩
    · have HV : Hid (validRune c = false) := Lib.hid (by simp [validRune]; omega)
      go_enter Try.func191, Try.ntmps191
      go_wp2_with fail
      go_ret
      exact ⟨ret_bool HV.out.symm, rfl⟩
theorem indexByte_high (s : ByteArray) (a e : Nat) (c : UInt8) (hs : ∀ j (hj : j < s.size), (s[j]'hj).toNat < 128) (hc : 128 ≤ c.toNat) : Lib.indexByte (s.extract a e).data.toList c = -1 := by
  rw [← Lib.firstIdx_eq]
  refine firstIdx_ascii s a e c (fun b hb => ?_) hc
  obtain ⟨j, hj, rfl⟩ := List.mem_iff_getElem.1 hb
  exact hs j (by rw [size_data]; exact hj)
set_option maxRecDepth 1000000 in
theorem IndexRune_high (s : ByteArray) (hs : ∀ j (hj : j < s.size), (s[j]'hj).toNat < 128) (h4 : 4 ≤ s.size) (hm : s.size ≤ 1000) (c : Int) (h0 : 128 ≤ c) (w : World) : Calls Try.prog 185 #[.string s, .int .i32 c] w fun e w' => e = .returned (.int .i64 (-1)) ∧ Gr w w' := by
  have HS := Lib.hid hs
  clear hs
  have h00 : (0 : Int) ≤ c := by omega
  have h01 : ¬ c < 128 := by omega
  by_cases he : c = 65533
  · subst he
    go_enter Try.func185, Try.ntmps185
    go_wp2_with fail
    go_loopw [5, 6] (fun t5 t6 wx => ∃ pos : Nat, pos ≤ s.size ∧ wx = w.iter s pos) (fun _ _ wx => s.size - wx.iterPos w.heap.size)
    case atStart => exact ⟨0, by omega, rfl⟩
    case round =>
      obtain ⟨pos, hp, rfl⟩ := hrel
      by_cases hlt : pos < s.size
      · have hnx : ∀ ty, (Instr.next (.pointer (some ⟨w.heap.size, 0, none⟩)) true ty).run Try.prog (w.iter s pos) = _ := fun ty => run_next_ascii (P := Try.prog) w s pos ty hlt (HS.out pos hlt)
        have hc := HS.out pos hlt
        generalize s[pos]'hlt = b at *
        have hb : ((b.toNat : Int) == 65533) = false := beq_false_of_ne (by omega)
        go_wp2_with fail
        go_roundw
        case rel => exact ⟨pos + 1, by omega, rfl⟩
        case measure => simp; omega
      · obtain rfl : pos = s.size := by omega
        have hnx : ∀ ty, (Instr.next (.pointer (some ⟨w.heap.size, 0, none⟩)) true ty).run Try.prog (w.iter s s.size) = _ := fun ty => run_next_end w s s.size ty (by omega)
        go_wp2_with fail
        go_ret
        exact ⟨rfl, (Gr.refl w).alloc _⟩
  · have hb : (c == 65533) = false := beq_false_of_ne he
    have HV := Lib.hid (validRune_eq c)
    cases hv : validRune c with
    | false =>
      have HV1 := Lib.hid hv
      clear hv
      go_enter Try.func185, Try.ntmps185
      go_wp2_with (go_at_call 191; refine (ValidRune_any _ h00 _).mono ?_; rintro e w1 ⟨rfl, rfl⟩; rw [HV1.out])
      go_ret
      exact ⟨rfl, Gr.refl w⟩
    | true =>
      have HV1 := Lib.hid hv
      clear hv
      obtain ⟨k2, k4, kl⟩ := encode_facts c (HV.out.trans HV1.out) h0
      have kl1 := kl (by omega)
      clear kl
      obtain ⟨rs, hrs⟩ : ∃ rs, rs = Utf8.encode c := ⟨_, rfl⟩
      have hcv : ∀ w : World, (convert 21 9 (.int .i32 c)).run Try.prog w = .ok (.string rs) w := fun w => by rw [hrs]; exact run_convert_int_string w _ _ .i32 c (by kernel_rfl) (by kernel_rfl)
      rw [← hrs] at k2 k4
      have k5 : rs.size - 1 < rs.size := by omega
      have kl2 : 128 ≤ (rs[rs.size - 1]'k5).toNat := by subst hrs; exact kl1
      clear kl1 hrs
      obtain ⟨m, hm⟩ : ∃ m, m = rs.size - 1 := ⟨_, rfl⟩
      have hr : rs.size = m + 1 := by omega
      have k6 : m < rs.size := by omega
      have kl3 : 128 ≤ (rs[m]'k6).toNat := by subst hm; exact kl2
      have k7 : m < s.size := by omega
      have KS := Lib.hid (HS.out m k7)
      have KI := Lib.hid (indexByte_high s (m + 1) s.size (rs[m]'k6) HS.out kl3)
      clear kl2 hm k5
      go_enter Try.func185, Try.ntmps185
      go_wp2_with (go_at_call 191; refine (ValidRune_any _ h00 _).mono ?_; rintro e w1 ⟨rfl, rfl⟩; rw [HV1.out])
      go_step3
      go_wp2_with fail
      go_loopw [9, 10] (fun t9 t10 wx => t9 = .int .i64 m ∧ t10 = .int .i64 0 ∧ w = wx) (fun _ _ _ => 0)
      case atStart => exact ⟨rfl, rfl, rfl⟩
      case round =>
        obtain ⟨rfl, rfl, rfl⟩ := hrel
        have k7' : (m : Int) < s.size := by omega
        have k6' : (m : Int) < rs.size := by omega
        have hne : (((s[m]'k7).toNat : Int) != ((rs[m]'k6).toNat : Int)) = true := by
          have := KS.out
          simp only [bne_iff_ne, ne_eq]
          omega
        clear hr k2 k4
        go_wp2_with fail
        go_step3
        go_wp2_with fail
        refine wp_region_flo (fun _ => False) [] [] (by kernel_rfl) (by kernel_rfl) (fun _ h => h.elim) ?_
        refine flo_seg 7 rfl ?_
        simp only [List.take_succ_cons, List.take_zero, List.drop_succ_cons, List.drop_zero]
        repeat (go_big_quiet_step (fail))
        refine wpQuiet_nil ?_
        refine flo_nil ?_
        go_wp2_with fail
        refine wp_region_flo (fun _ => False) [] [] (by kernel_rfl) (by kernel_rfl) (fun _ h => h.elim) ?_
        refine flo_seg 7 rfl ?_
        simp only [List.take_succ_cons, List.take_zero, List.drop_succ_cons, List.drop_zero]
        repeat (go_big_quiet_step (fail))
        refine wpQuiet_nil ?_
        refine flo_eff rfl rfl rfl rfl (fun K hK => ?_)
        go_wp2_with ((go_at_call 190; refine (IndexByte_any _ _ _).mono ?_; rintro e w1 ⟨rfl, rfl⟩))
        refine ⟨by (first | (refine Gr.mdh ?_ _; (repeat (first | (with_reducible exact Gr.refl _) | assumption | (with_reducible apply Gr.from_drew) | (with_reducible apply Gr.alloc) | (with_reducible apply Gr.drew) | (with_reducible refine Gr.trans ?_ (by assumption)) | (with_reducible refine Gr.setCell ?_ (by omega) _))); done) | (repeat (first | (with_reducible exact Mdh.refl _ _) | (with_reducible refine Mdh.setCell ?_ (by simp) _) | (with_reducible refine Mdh.setNew ?_ (by simp) _) | (with_reducible apply Mdh.alloc) | (with_reducible apply Mdh.from_drew) | (with_reducible apply Mdh.drew) | (with_reducible refine Mdh.gr ?_ (by assumption))))), ?_⟩
        refine flo_seg 1 rfl ?_
        simp only [List.take_succ_cons, List.take_zero, List.drop_succ_cons, List.drop_zero]
        repeat (go_big_quiet_step (fail))
        refine wpQuiet_nil ?_
        refine flo_nil ?_
        have HI2 := KI.out
        simp at HI2
        rw [HI2]
        go_wp2_with fail
        rw [Exit.noGoto_ret]
        go_wp2_with fail
        try rw [Exit.noGoto_ret]
        try go_wp2_with fail
        go_ret
        exact ⟨rfl, (Gr.refl w).drew.drew⟩
set_option maxRecDepth 1000000 in
theorem ContainsRune_high (s : ByteArray) (hs : ∀ j (hj : j < s.size), (s[j]'hj).toNat < 128) (h4 : 4 ≤ s.size) (hm : s.size ≤ 1000) (c : Int) (h0 : 128 ≤ c) (w : World) : Calls Try.prog 171 #[.string s, .int .i32 c] w fun e w' => e = .returned (.bool false) ∧ Gr w w' := by
  have HR := Lib.hid (fun W => IndexRune_high s hs h4 hm c h0 W)
  clear hs
  go_enter Try.func171, Try.ntmps171
  go_wp2_with (go_at_call 185; refine (HR.out _).mono ?_; rintro e w1 ⟨rfl, hg⟩; have HG := Lib.hid hg; clear hg)
  go_ret
  exact ⟨rfl, HG.out⟩
theorem letters_low : ∀ j (hj : j < (⟨#[45, 46, 48, 49, 50, 51, 52, 53, 54, 55, 56, 57, 95, 97, 98, 99, 100, 101, 102, 103, 104, 105, 106, 107, 108, 109, 110, 111, 112, 113, 114, 115, 116, 117, 118, 119, 120, 121, 122]⟩ : ByteArray).size), ((⟨#[45, 46, 48, 49, 50, 51, 52, 53, 54, 55, 56, 57, 95, 97, 98, 99, 100, 101, 102, 103, 104, 105, 106, 107, 108, 109, 110, 111, 112, 113, 114, 115, 116, 117, 118, 119, 120, 121, 122]⟩ : ByteArray)[j]'hj).toNat < 128 := by
  have h : ∀ n : Fin 39, ((⟨#[45, 46, 48, 49, 50, 51, 52, 53, 54, 55, 56, 57, 95, 97, 98, 99, 100, 101, 102, 103, 104, 105, 106, 107, 108, 109, 110, 111, 112, 113, 114, 115, 116, 117, 118, 119, 120, 121, 122]⟩ : ByteArray)[n.val]'n.isLt).toNat < 128 := by decide +kernel
  exact fun j hj => h ⟨j, hj⟩
theorem keyC_high {c : UInt8} (h : 128 ≤ c.toNat) : keyC c = false := by
  have hh : ∀ n : Fin 256, 128 ≤ n.val → keyC (UInt8.ofNat n.val) = false := by decide +kernel
  have := hh ⟨c.toNat, c.toNat_lt⟩ h
  simpa using this
theorem ContainsRune_hi (c : Int) (h : 128 ≤ c) (w : World) : Calls Try.prog 171 #[.string ⟨#[45, 46, 48, 49, 50, 51, 52, 53, 54, 55, 56, 57, 95, 97, 98, 99, 100, 101, 102, 103, 104, 105, 106, 107, 108, 109, 110, 111, 112, 113, 114, 115, 116, 117, 118, 119, 120, 121, 122]⟩, .int .i32 c] w fun e w' => e = .returned (.bool false) ∧ Gr w w' :=
  ContainsRune_high _ letters_low (by show 4 ≤ 39; decide) (by show 39 ≤ 1000; decide) c h w
theorem low_to (k : ByteArray) : ∀ n, n ≤ k.size → (∀ i (hi : i < k.size), i < n → (k[i]'hi).toNat < 128) ∨ ∃ j, ∃ hj : j < k.size, 128 ≤ (k[j]'hj).toNat ∧ ∀ i (hi : i < k.size), i < j → (k[i]'hi).toNat < 128
  | 0, _ => .inl (fun i hi h => by omega)
  | n + 1, hn => by
    rcases low_to k n (by omega) with h | h
    · have hk : n < k.size := by omega
      rcases Nat.lt_or_ge (k[n]'hk).toNat 128 with h3 | h3
      · left
        intro i hi hlt
        by_cases hin : i < n
        · exact h i hi hin
        · obtain rfl : i = n := by omega
          exact h3
      · exact .inr ⟨n, hk, h3, h⟩
    · exact .inr h
theorem low_or (k : ByteArray) : Low k ∨ ∃ j, ∃ hj : j < k.size, 128 ≤ (k[j]'hj).toNat ∧ ∀ i (hi : i < k.size), i < j → (k[i]'hi).toNat < 128 := by
  rcases low_to k k.size (Nat.le_refl _) with h | h
  · exact .inl (fun j hj => h j hj hj)
  · exact .inr h
set_option maxRecDepth 1000000 in
set_option maxHeartbeats 1000000 in
theorem Check_hi (k : ByteArray) (q : Nat) (hq : q < k.size) (hh : 128 ≤ (k[q]'hq).toNat) (hl : ∀ i (hi : i < k.size), i < q → (k[i]'hi).toNat < 128) (hm : k.size ≤ 140737488351232) (w : World) : Calls Try.prog 140 #[.string k] w fun e w' => e = .returned (.int .i64 (keyChk k)) ∧ Gr w w' := by
  have HH := Lib.hid (keyChk_bad (k := k) q hq (keyC_high hh))
  have HL := Lib.hid hl
  have HQ := Lib.hid hh
  clear hl hh
  go_enter Try.func140, Try.ntmps140
  go_wp2_with fail
  go_loopw [] (fun wx => ∃ pos : Nat, pos ≤ q ∧ wx = w.iter k pos ∧ Hid (∀ j (hj : j < k.size), j < pos → keyC (k[j]'hj) = true)) (fun wx => k.size - wx.iterPos w.heap.size)
  case atStart => exact ⟨0, by omega, rfl, Lib.hid (fun j _ h => by omega)⟩
  case round =>
    obtain ⟨pos, hp, rfl, H⟩ := hrel
    have hlt : pos < k.size := by omega
    by_cases hpq : pos < q
    · have hnx : ∀ ty, (Instr.next (.pointer (some ⟨w.heap.size, 0, none⟩)) true ty).run Try.prog (w.iter k pos) = _ := fun ty => run_next_ascii (P := Try.prog) w k pos ty hlt (HL.out pos hlt hpq)
      have HN := Lib.hid (Check_next k pos hlt)
      have hc := HL.out pos hlt hpq
      have HB := Lib.hid (fun h => keyChk_bad (k := k) pos hlt h)
      generalize k[pos]'hlt = c at *
      have h1 : c.toNat < 128 := hc
      cases hk : keyC c with
      | true =>
        have HK := Lib.hid hk
        clear hk
        go_wp2_with (go_at_call 171; refine (ContainsRune_key c h1 _).mono ?_; rintro e w1 ⟨rfl, rfl⟩; rw [HK.out])
        go_roundw
        case rel => exact ⟨pos + 1, by omega, rfl, Lib.hid (HN.out.2 ⟨H.out, HK.out⟩)⟩
        case measure => simp; omega
      | false =>
        have HK := Lib.hid hk
        clear hk
        go_wp2_with (go_at_call 171; refine (ContainsRune_key c h1 _).mono ?_; rintro e w1 ⟨rfl, rfl⟩; rw [HK.out])
        go_ret
        exact ⟨ret_int (HB.out HK.out).symm, (Gr.refl w).alloc _⟩
    · obtain rfl : pos = q := by omega
      have hnx : ∀ ty, (Instr.next (.pointer (some ⟨w.heap.size, 0, none⟩)) true ty).run Try.prog (w.iter k pos) = _ := fun ty => run_next_any (P := Try.prog) w k pos ty hlt
      have hd := decode_high k pos hlt HQ.out
      have hd2 := decode_le k pos
      generalize Utf8.decode k pos = dc at *
      obtain ⟨r, sz⟩ := dc
      simp only at hd hd2 hnx
      have hr := hd.1
      have hr' : (128 : Int) ≤ (r : Int) := by omega
      have HR := Lib.hid (fun W => ContainsRune_hi r hr' W)
      go_wp2_with (go_at_call 171; refine (HR.out _).mono ?_; rintro e w1 ⟨rfl, hg⟩; have HG := Lib.hid hg; clear hg)
      go_ret
      exact ⟨ret_int HH.out.symm, ((Gr.refl w).alloc _).trans HG.out⟩
theorem Check_all (k : ByteArray) (hm : k.size ≤ 140737488351232) (w : World) : Calls Try.prog 140 #[.string k] w fun e w' => e = .returned (.int .i64 (keyChk k)) ∧ Gr w w' := by
  rcases low_or k with h | ⟨j, hj, h1, h2⟩
  · exact Check_low k h hm w
  · exact Check_hi k j hj h1 h2 hm w
set_option maxRecDepth 40000 in
set_option maxHeartbeats 1000000 in
theorem valid_all (e : En) (hm : e.key.size ≤ 140737488351232) (w : World) (hs : e.size ≤ 9223372036854775807) (hs' : -9223372036854775808 ≤ e.size) : Calls Try.prog 74 #[enV e] w fun e' w' => e' = .returned (.bool (validE e)) ∧ Gr w w' := by
  have HV := Lib.hid (valid_iff e)
  obtain ⟨a1, a2, a3, a4, a5, a6⟩ := e
  have HB : Hid (validE ⟨a1, a2, a3, a4, a5, a6⟩ = decide (keyChk a2 = 0 ∧ 1 ≤ a1 ∧ a1 ≤ 1099511627776 ∧ 0 ≤ a5 ∧ 16 + (a2.size : Int) ≤ a6 ∧ (a6 = 16 + (a2.size : Int) ∨ a3 = false) ∧ a6 ≤ 8192 ∧ a5 ≤ 8192 - a6)) := Lib.hid rfl
  simp only [enV] at *
  obtain ⟨c, hc⟩ : ∃ c, c = keyChk a2 := ⟨_, rfl⟩
  have HC := Lib.hid hc
  rw [← hc] at HB
  clear hc HV
  go_enter Try.func74, Try.ntmps74
  go_wp2_with (go_at_call 140; refine (Check_all _ hm _).mono ?_; rintro e w1 ⟨rfl, hg⟩; rw [← HC.out]; have HG := Lib.hid hg; have c0 := hg.cell; simp only [World.size_alloc] at c0; clear hg)
  all_goals
    go_ret
    have HC' := HC.out
    clear c0 HB
    exact ⟨ret_bool (by simp only [validE]; rw [← HC']; clear HC'; first | (simp_all; done) | (simp_all; omega)), ((Gr.refl w).alloc _).trans HG.out⟩
theorem not_low {e : En} (h : ¬ Low e.key) : validE e = false := by
  cases hv : validE e with
  | false => rfl
  | true =>
    have h1 := ((valid_iff e).1 hv).1
    rcases low_or e.key with h2 | ⟨j, hj, h2, _⟩
    · exact absurd h2 h
    · rw [keyChk_bad j hj (keyC_high h2)] at h1
      cases h1
set_option maxRecDepth 40000 in
set_option maxHeartbeats 4000000 in
theorem Add_hi {w : World} {b : Nat} {X : IX} {S : Nat → Prop} (h : IXR w b X S) (e : En) (hv : validE e = false) (hB : En64 e) :
    Calls Try.prog 20 #[.pointer (some ⟨b, 0, none⟩), enV e] w fun e' w' => e' = .returned (.int .i64 (addE X e)) ∧ IXPost b (addX X e) S w w' := by
  have H := Lib.hid h
  have H64 := Lib.hid hB
  have HNE := Lib.hid h.pos
  have HV := Lib.hid hv
  have HVA := Lib.hid (fun W => valid_all e hB.2.2 W hB.1 hB.2.1)
  clear h hB hv
  simp only [enV] at HVA ⊢
  refine calls_of_wp_marks Try.func20 rfl ?_
  simp only [Try.ntmps20, List.size_toArray, List.length_cons, List.length_nil, Nat.reduceAdd, Nat.reduceSub, Array.replicate_succ, Array.replicate_zero, List.push_toArray, List.append_toArray, List.nil_append, List.cons_append]
  go_wp2_with fail
  obtain ⟨w0, hw0⟩ : ∃ y, y = (w.alloc (.cells #[.int .i64 e.seq, .string e.key, .bool e.del, .int .i64 e.slot, .int .i64 e.off, .int .i64 e.size] 53)).alloc (.cells #[.int .i64 0] 31) := ⟨_, rfl⟩
  obtain ⟨b3, hb3⟩ : ∃ q, q = w.heap.size := ⟨_, rfl⟩
  rw [← hw0, ← hb3]
  have x3 : w0.heap[b3]? = some (.cells #[.int .i64 e.seq, .string e.key, .bool e.del, .int .i64 e.slot, .int .i64 e.off, .int .i64 e.size] 53) := by rw [hw0, hb3]; exact blkOld (blkNew _ _)
  have x4 : w0.heap[b3 + 1]? = some (.cells #[.int .i64 0] 31) := by rw [hw0, hb3]; have := blkNew (w.alloc (.cells #[.int .i64 e.seq, .string e.key, .bool e.del, .int .i64 e.slot, .int .i64 e.off, .int .i64 e.size] 53)) (.cells #[.int .i64 0] 31); rwa [World.size_alloc] at this
  have HW0 : Hid (Gr w w0 ∧ b3 = w.heap.size ∧ w0.heap.size = w.heap.size + 2) := Lib.hid ⟨by rw [hw0]; exact ((Gr.refl w).alloc _).alloc _, hb3, by rw [hw0]; simp⟩
  have H0 := Lib.hid (H.out.gr HW0.out.1)
  have HX := Lib.hid (And.intro x3 x4)
  have c3 := (cellsOf x3).1
  obtain ⟨c4, f4⟩ := cellsOf x4
  have m4 : b3 + 1 ≠ b3 := by omega
  clear hw0 hb3 x3 x4
  refine (made_yes H0.out).mono ?_
  rintro e' w1 ⟨rfl, rfl⟩
  cases hh : X.has e.slot with
  | false =>
    have HE := Lib.hid (add_3 HNE.out hh)
    have HH := Lib.hid hh
    clear hh
    go_wp2_with (go_at_call 73; refine (has_yes H0.out _).mono ?_; rintro e' w1 ⟨rfl, rfl⟩; rw [HH.out])
    have d4 := (cellsOf (blkSet (j := 0) (u := .int .i64 3) HX.out.2)).1
    refine retM0 (v := .int .i64 3) ?_ rfl ⟨by rw [HE.out], add_out (w0 := w) (b4 := 0) H.out (by rw [HE.out]; decide) (HW0.out.1.setCell (by have := HW0.out; simp; omega) _)⟩
    simp [results, Try.results20, go_sem, d4]
  | true =>
    have HH := Lib.hid hh
    clear hh
    go_wp2_with fail
    refine (has_yes H0.out _).mono ?_
    rintro e' w1 ⟨rfl, rfl⟩
    rw [HH.out]
    have HE := Lib.hid (add_2 HNE.out HH.out HV.out)
    go_wp2_with fail
    refine (HVA.out _).mono ?_
    rintro e' w1 ⟨rfl, hg⟩
    rw [HV.out]
    have HG1 := Lib.hid hg
    have y4 := hg.blk HX.out.2
    obtain ⟨d4, g4⟩ := cellsOf y4
    have HY := Lib.hid y4
    clear hg y4 c3 c4 f4
    go_wp2_with fail
    have d4' := (cellsOf (blkSet (j := 0) (u := .int .i64 2) HY.out)).1
    refine retM0 (v := .int .i64 2) ?_ rfl ⟨by rw [HE.out], add_out (w0 := w) (b4 := 0) H.out (by rw [HE.out]; decide) ((HW0.out.1.trans HG1.out).setCell (by have := HW0.out; simp; omega) _)⟩
    simp [results, Try.results20, go_sem, d4']
theorem Add_all {w : World} {b : Nat} {X : IX} {S : Nat → Prop} (h : IXR w b X S) (e : En) (hB : En64 e) :
    Calls Try.prog 20 #[.pointer (some ⟨b, 0, none⟩), enV e] w fun e' w' => e' = .returned (.int .i64 (addE X e)) ∧ IXPost b (addX X e) S w w' := by
  by_cases hl : Low e.key
  · exact Add_any h e hl hB
  · exact Add_hi h e (not_low hl) hB
end Go.Proofs.Ytmdfickejpeofaa

/- What a builder of chapters 21, 23, 24, 28 keeps: an index filled by moves. No walk. -/
set_option linter.unusedVariables false
set_option linter.unusedSimpArgs false
namespace Go.Proofs.Ytmdfickejpeofaa

/-- An index behind moves: its entries in the order in which they were added, where each slot ends, the next number, how many moves. -/
structure FI (X : IX) (all : List En) (en : Int → Int) (nx j n : Int) : Prop where
  wf : X.Wf
  ln : (X.slots.length : Int) = n
  n0 : 1 ≤ n
  pm : all.Perm X.ents
  en0 : ∀ s, 0 ≤ en s ∧ en s ≤ 68 * j
  up : ∀ e ∈ all, e.off + e.size ≤ en e.slot
  j0 : 0 ≤ j
  nx0 : 1 ≤ nx
  nx1 : nx ≤ j + 1
  sq : ∀ e ∈ all, e.seq < nx
  cp : ∀ a ∈ all, ∀ b ∈ all, a.seq = b.seq → a.key = b.key ∧ a.del = b.del ∧ a.size = b.size
  sm : ∀ e ∈ all, e.size ≤ 68 ∧ e.key.size ≤ 3 ∧ Low e.key
def upd (en : Int → Int) (s v : Int) : Int → Int := fun t => if t = s then v else en t
theorem upd_same (en : Int → Int) (s v : Int) : upd en s v s = v := if_pos rfl
theorem upd_other (en : Int → Int) {s t : Int} (v : Int) (h : t ≠ s) : upd en s v t = en t := if_neg h
section
variable {X : IX} {all : List En} {en : Int → Int} {nx j n : Int}
theorem clash_end {l : List En} {e : En} (h : ∀ o ∈ l, o.off + o.size ≤ e.off) (hp : ∀ o ∈ l, 0 < o.size) : clash l e = false := by
  have hc : cnt (offP e.off) l = l.length := by
    refine (cnt_uniq (offP e.off) l l.length (Nat.le_refl _) (fun i x _ hx => ?_) (fun i x hi hx => ?_)).symm
    · have hm := List.mem_of_getElem? hx
      have := h x hm
      have := hp x hm
      unfold offP
      exact decide_eq_true (by omega)
    · have := (List.getElem?_eq_some_iff.1 hx).1; omega
  unfold clash
  rw [hc, List.getElem?_eq_none (Nat.le_refl _)]
  simp only [Bool.false_or]
  cases hl : l[l.length - 1]? with
  | none => simp
  | some o =>
    have := h o (List.mem_of_getElem? hl)
    simp only [Bool.and_eq_false_iff]
    exact .inr (decide_eq_false (by omega))
theorem FI.mem (h : FI X all en nx j n) (e : En) : e ∈ all ↔ e ∈ X.ents := h.pm.mem_iff
theorem FI.slot (h : FI X all en nx j n) (s : Int) (e : En) : e ∈ X.slot s ↔ e ∈ all ∧ e.slot = s := by rw [h.mem]; exact h.wf.slot_mem s e
theorem FI.of (h : FI X all en nx j n) (k : ByteArray) (e : En) : e ∈ X.of k ↔ e ∈ all ∧ e.key = k := by rw [h.mem]; exact h.wf.of_mem k e
theorem FI.ne (h : FI X all en nx j n) : X.slots ≠ [] := fun h0 => by have := h.ln; have := h.n0; rw [h0] at *; simp at *; omega
theorem FI.has (h : FI X all en nx j n) {s : Int} (h0 : 0 ≤ s) (h1 : s < n) : X.has s = true := by
  unfold IX.has
  exact decide_eq_true ⟨h0, by have := h.ln; omega⟩
theorem FI.clash (h : FI X all en nx j n) {e : En} (ho : e.off = en e.slot) : clash (X.slot e.slot) e = false := by
  refine clash_end (fun o hm => ?_) (fun o hm => ?_)
  · obtain ⟨h1, h2⟩ := (h.slot _ o).1 hm
    have := h.up o h1
    rw [h2] at this
    omega
  · obtain ⟨h1, h2⟩ := (h.slot _ o).1 hm
    have := (valid_iff o).1 (h.wf.valid ((h.mem o).1 h1)).1
    omega
theorem FI.later (h : FI X all en nx j n) {j' : Int} (hj : j ≤ j') : FI X all en nx j' n :=
  ⟨h.wf, h.ln, h.n0, h.pm, fun s => ⟨(h.en0 s).1, by have := (h.en0 s).2; omega⟩, h.up, by have := h.j0; omega, h.nx0, by have := h.nx1; omega, h.sq, h.cp, h.sm⟩
/-- An entry that goes behind those of its slot. -/
theorem FI.push (h : FI X all en nx j n) {e : En} {nx' : Int} (a : AddOk X e) (ho : e.off = en e.slot) (hs : e.size ≤ 68 ∧ e.key.size ≤ 3 ∧ Low e.key) (h1 : nx ≤ nx') (h2 : nx' ≤ j + 2) (h3 : e.seq < nx')
    (hc : ∀ o ∈ all, o.seq = e.seq → o.key = e.key ∧ o.del = e.del ∧ o.size = e.size) : FI (addX X e) (all ++ [e]) (upd en e.slot (e.off + e.size)) nx' (j + 1) n := by
  have hv := (valid_iff e).1 a.valid
  have he := h.en0 e.slot
  have hle : ∀ s, en s ≤ upd en e.slot (e.off + e.size) s := fun s => by
    unfold upd
    split
    · rename_i h0; subst h0; omega
    · exact Int.le_refl _
  refine ⟨add_wf h.wf a, ?_, h.n0, ?_, fun s => ?_, fun o hm => ?_, by have := h.j0; omega, by have := h.nx0; omega, by omega, fun o hm => ?_, fun x hx y hy hq => ?_, fun o hm => ?_⟩
  · rw [addX_eq a]; simp only [List.length_set]; exact h.ln
  · exact (List.perm_append_singleton e all).trans ((h.pm.cons e).trans (add_ents h.wf a).symm)
  · have := h.en0 s
    unfold upd
    split
    · omega
    · omega
  · rcases List.mem_append.1 hm with hm | hm
    · exact Int.le_trans (h.up o hm) (hle _)
    · rw [List.mem_singleton.1 hm, upd_same]
      exact Int.le_refl _
  · rcases List.mem_append.1 hm with hm | hm
    · have := h.sq o hm; omega
    · rw [List.mem_singleton.1 hm]; exact h3
  · rcases List.mem_append.1 hx with hx1 | hx1 <;> rcases List.mem_append.1 hy with hy1 | hy1
    · exact h.cp x hx1 y hy1 hq
    · obtain rfl := List.mem_singleton.1 hy1
      exact hc x hx1 hq
    · obtain rfl := List.mem_singleton.1 hx1
      obtain ⟨q1, q2, q3⟩ := hc y hy1 hq.symm
      exact ⟨q1.symm, q2.symm, q3.symm⟩
    · obtain rfl := List.mem_singleton.1 hx1
      obtain rfl := List.mem_singleton.1 hy1
      exact ⟨rfl, rfl, rfl⟩
  · rcases List.mem_append.1 hm with hm | hm
    · exact h.sm o hm
    · rw [List.mem_singleton.1 hm]; exact hs
/-- A new entry. -/
theorem FI.newOk (h : FI X all en nx j n) {e : En} (hj : j < 100) (hq : e.seq = nx) (h0 : 0 ≤ e.slot) (h1 : e.slot < n) (ho : e.off = en e.slot) (hk : keyChk e.key = 0) (hz : 16 + (e.key.size : Int) ≤ e.size) (hz2 : e.size = 16 + (e.key.size : Int) ∨ e.del = false) (hs : e.size ≤ 68) : AddOk X e := by
  have he := h.en0 e.slot
  have hx := h.nx0
  have hx1 := h.nx1
  refine ⟨h.ne, h.has h0 h1, (valid_iff e).2 ⟨hk, by omega, by omega, by omega, hz, hz2, by omega, by omega⟩, fun o hm => ?_, fun o hm => ?_, h.clash ho⟩
  · have := h.sq o ((h.of _ o).1 hm).1
    exact badE_no (fun hh => by omega)
  · have := h.sq o ((h.of _ o).1 hm).1
    unfold sameE
    exact decide_eq_false (fun hh => by omega)
theorem FI.new (h : FI X all en nx j n) {e : En} (hj : j < 100) (hq : e.seq = nx) (h0 : 0 ≤ e.slot) (h1 : e.slot < n) (ho : e.off = en e.slot) (hk : keyChk e.key = 0) (hz : 16 + (e.key.size : Int) ≤ e.size) (hz2 : e.size = 16 + (e.key.size : Int) ∨ e.del = false) (hs : e.size ≤ 68) (hkz : e.key.size ≤ 3) (hl : Low e.key) :
    addE X e = 0 ∧ FI (addX X e) (all ++ [e]) (upd en e.slot (e.off + e.size)) (nx + 1) (j + 1) n :=
  have a := h.newOk hj hq h0 h1 ho hk hz hz2 hs
  ⟨ok_add a, h.push a ho ⟨hs, hkz, hl⟩ (by omega) (by have := h.nx1; omega) (by omega) (fun o hm hh => by have := h.sq o hm; omega)⟩
/-- A copy: refused where the slot has one. -/
theorem FI.copyBad (h : FI X all en nx j n) {x e : En} (hx : x ∈ all) (he : e = { x with slot := e.slot, off := e.off }) : ∀ o ∈ X.of e.key, badE e o = false := by
  intro o hm
  obtain ⟨h1, h2⟩ := (h.of _ o).1 hm
  refine badE_no (fun hh => ?_)
  have e1 : e.seq = x.seq := by rw [he]
  have e3 : e.del = x.del := by rw [he]
  have e4 : e.size = x.size := by rw [he]
  obtain ⟨q1, q2, q3⟩ := h.cp o h1 x hx (by rw [hh, e1])
  exact En.ext' hh h2 (by rw [e3]; exact q2) rfl rfl (by rw [e4]; exact q3)
theorem FI.copyValid (h : FI X all en nx j n) {x e : En} (hj : j < 100) (hx : x ∈ all) (he : e = { x with slot := e.slot, off := e.off }) (ho : e.off = en e.slot) : validE e = true := by
  have hv := (valid_iff x).1 (h.wf.valid ((h.mem x).1 hx)).1
  have hs := h.sm x hx
  have he0 := h.en0 e.slot
  have e1 : e.seq = x.seq := by rw [he]
  have e2 : e.key = x.key := by rw [he]
  have e3 : e.del = x.del := by rw [he]
  have e4 : e.size = x.size := by rw [he]
  refine (valid_iff e).2 ⟨by rw [e2]; exact hv.1, by omega, by omega, by omega, by rw [e2]; omega, ?_, by omega, by omega⟩
  rw [e2, e3, e4]
  exact hv.2.2.2.2.2.1
theorem FI.copyNo (h : FI X all en nx j n) {x e : En} (hj : j < 100) (hx : x ∈ all) (he : e = { x with slot := e.slot, off := e.off }) (h0 : 0 ≤ e.slot) (h1 : e.slot < n) (ho : e.off = en e.slot) (hd : all.any (fun o => decide (o.slot = e.slot) && decide (o.seq = e.seq)) = true) :
    addE X e = 6 ∧ FI (addX X e) all en nx (j + 1) n := by
  have h6 : addE X e = 6 := by
    refine add_6 h.ne (h.has h0 h1) (h.copyValid hj hx he ho) (h.copyBad hx he) ?_
    rw [Bool.or_eq_true]
    refine .inl ?_
    obtain ⟨o, hm, hh⟩ := List.any_eq_true.1 hd
    simp only [Bool.and_eq_true, decide_eq_true_eq] at hh
    have e1 : e.seq = x.seq := by rw [he]
    have e2 : e.key = x.key := by rw [he]
    obtain ⟨q1, _, _⟩ := h.cp o hm x hx (by rw [hh.2, e1])
    exact List.any_eq_true.2 ⟨o, (h.of _ o).2 ⟨hm, by rw [q1, e2]⟩, decide_eq_true ⟨hh.2, hh.1⟩⟩
  refine ⟨h6, ?_⟩
  rw [addX_no (by rw [h6]; decide)]
  exact h.later (by omega)
theorem FI.copyYes (h : FI X all en nx j n) {x e : En} (hj : j < 100) (hx : x ∈ all) (he : e = { x with slot := e.slot, off := e.off }) (h0 : 0 ≤ e.slot) (h1 : e.slot < n) (ho : e.off = en e.slot) (hd : all.any (fun o => decide (o.slot = e.slot) && decide (o.seq = e.seq)) = false) :
    addE X e = 0 ∧ FI (addX X e) (all ++ [e]) (upd en e.slot (e.off + e.size)) nx (j + 1) n := by
  have e1 : e.seq = x.seq := by rw [he]
  have e2 : e.key = x.key := by rw [he]
  have e3 : e.del = x.del := by rw [he]
  have e4 : e.size = x.size := by rw [he]
  have a : AddOk X e := ⟨h.ne, h.has h0 h1, h.copyValid hj hx he ho, h.copyBad hx he, fun o hm => by
    have h2 := (h.of _ o).1 hm
    have h3 := List.any_eq_false.1 hd o h2.1
    unfold sameE
    refine decide_eq_false (fun hh => ?_)
    simp [hh.1, hh.2] at h3, h.clash ho⟩
  have hs := h.sm x hx
  refine ⟨ok_add a, h.push a ho (by rw [e4, e2]; exact hs) (Int.le_refl _) (by have := h.nx1; omega) (by rw [e1]; exact h.sq x hx) (fun o hm hh => ?_)⟩
  rw [e2, e3, e4]
  exact h.cp o hm x hx (by rw [hh, e1])
/-- A slot is emptied. -/
theorem FI.drop (h : FI X all en nx j n) {s : Int} (h0 : 0 ≤ s) (h1 : s < n) :
    dropC X s = 0 ∧ (X.slot s).length + (all.filter (fun o => !decide (o.slot = s))).length = all.length ∧ FI (dropX X s) (all.filter (fun o => !decide (o.slot = s))) (upd en s 0) nx (j + 1) n := by
  have hh := h.has h0 h1
  have hp := drop_ents h.wf hh
  have hw := drop_wf h.wf s
  have hne : ∀ o ∈ (dropX X s).ents, (!decide (o.slot = s)) = true := fun o ho => by
    simp only [Bool.not_eq_true', decide_eq_false_iff_not]
    intro e
    have h2 := (hw.slot_mem s o).2 ⟨ho, e⟩
    rw [drop_slot h.wf, if_pos rfl] at h2
    cases h2
  have hs : ∀ o ∈ X.slot s, ¬ (!decide (o.slot = s)) = true := fun o ho => by simp [((h.wf.slot_mem s o).1 ho).2]
  have hpm : (all.filter (fun o => !decide (o.slot = s))).Perm (dropX X s).ents := by
    have h2 := (h.pm.trans hp).filter (fun o => !decide (o.slot = s))
    rw [List.filter_append, List.filter_eq_nil_iff.2 hs, List.nil_append, List.filter_eq_self.2 hne] at h2
    exact h2
  refine ⟨if_pos hh, ?_, hw, ?_, h.n0, hpm, fun t => ?_, fun o ho => ?_, by have := h.j0; omega, h.nx0, by have := h.nx1; omega, fun o ho => h.sq o (List.mem_filter.1 ho).1, fun a ha b hb => h.cp a (List.mem_filter.1 ha).1 b (List.mem_filter.1 hb).1, fun o ho => h.sm o (List.mem_filter.1 ho).1⟩
  · have h2 := (h.pm.trans hp).length_eq
    have h3 := hpm.length_eq
    rw [List.length_append] at h2
    omega
  · rw [drop_yes hh]; simp only [List.length_set]; exact h.ln
  · have := h.en0 t
    have := h.j0
    unfold upd
    split <;> omega
  · obtain ⟨h2, h3⟩ := List.mem_filter.1 ho
    simp only [Bool.not_eq_true', decide_eq_false_iff_not] at h3
    rw [upd_other _ _ h3]
    exact h.up o h2
end
theorem FI.start (n : Nat) (h1 : 1 ≤ n) (h2 : n ≤ 32) : FI (ixNew n) [] (fun _ => 0) 1 0 n :=
  ⟨new_wf h2, by simp [ixNew], by omega, by simp [ixNew, IX.ents], fun _ => ⟨by omega, by omega⟩, (fun _ h => by cases h), by omega, by omega, by omega, (fun _ h => by cases h), (fun _ h => by cases h), (fun _ h => by cases h)⟩
end Go.Proofs.Ytmdfickejpeofaa

/- An index that was not made: Add, Drop, Copy; an index among other things. -/
set_option linter.unusedVariables false
set_option linter.unusedSimpArgs false
namespace Go.Proofs.Ytmdfickejpeofaa
open Go.RowKit Go.Shelf
attribute [local go_sem] OvM cell_ovm obj_ovm
attribute [local go_sem] Oper.semAt_some

set_option maxRecDepth 40000 in
set_option maxHeartbeats 2000000 in
theorem AddN {w : World} {p : Option Addr} (h : IXN w p) (e : En) : Calls Try.prog 20 #[.pointer p, enV e] w fun e' w' => e' = .returned (.int .i64 1) ∧ Gr w w' := by
  have H := Lib.hid h
  clear h
  obtain ⟨e1, e2, e3, e4, e5, e6⟩ := e
  simp only [enV]
  refine calls_of_wp_marks Try.func20 rfl ?_
  simp only [Try.ntmps20, List.size_toArray, List.length_cons, List.length_nil, Nat.reduceAdd, Nat.reduceSub, Array.replicate_succ, Array.replicate_zero, List.push_toArray, List.append_toArray, List.nil_append, List.cons_append]
  go_wp2_with (go_at_call 72; refine (made_no (H.out.gr (by (repeat (first | (with_reducible exact Gr.refl _) | assumption | (with_reducible apply Gr.from_drew) | (with_reducible apply Gr.alloc) | (with_reducible apply Gr.drew) | (with_reducible refine Gr.trans ?_ (by assumption)) | (with_reducible refine Gr.setCell ?_ (by omega) _)))))).mono ?_; rintro e w1 ⟨rfl, rfl⟩)
  exact retM0 (v := .int .i64 1) (by simp [results, Try.results20, go_sem]) rfl ⟨rfl, by (repeat (first | (with_reducible exact Gr.refl _) | assumption | (with_reducible apply Gr.from_drew) | (with_reducible apply Gr.alloc) | (with_reducible apply Gr.drew) | (with_reducible refine Gr.trans ?_ (by assumption)) | (with_reducible refine Gr.setCell ?_ (by omega) _)))⟩
set_option maxRecDepth 40000 in
theorem DropN {w : World} {p : Option Addr} (h : IXN w p) (s : Int) : Calls Try.prog 31 #[.pointer p, .int .i64 s] w fun e' w' => e' = .returned (.tuple #[.int .i64 0, .int .i64 1]) ∧ Gr w w' := by
  have H := Lib.hid h
  clear h
  refine calls_of_wp_marks Try.func31 rfl ?_
  simp only [Try.ntmps31, List.size_toArray, List.length_cons, List.length_nil, Nat.reduceAdd, Nat.reduceSub, Array.replicate_succ, Array.replicate_zero, List.push_toArray, List.append_toArray, List.nil_append, List.cons_append]
  go_wp2_with (go_at_call 72; refine (made_no (H.out.gr (by (repeat (first | (with_reducible exact Gr.refl _) | assumption | (with_reducible apply Gr.from_drew) | (with_reducible apply Gr.alloc) | (with_reducible apply Gr.drew) | (with_reducible refine Gr.trans ?_ (by assumption)) | (with_reducible refine Gr.setCell ?_ (by omega) _)))))).mono ?_; rintro e w1 ⟨rfl, rfl⟩)
  exact retM0 (v := .tuple #[.int .i64 0, .int .i64 1]) (by simp [results, Try.results31, go_sem]) rfl ⟨rfl, by (repeat (first | (with_reducible exact Gr.refl _) | assumption | (with_reducible apply Gr.from_drew) | (with_reducible apply Gr.alloc) | (with_reducible apply Gr.drew) | (with_reducible refine Gr.trans ?_ (by assumption)) | (with_reducible refine Gr.setCell ?_ (by omega) _)))⟩
set_option maxRecDepth 40000 in
theorem CopyN {w : World} {p : Option Addr} (h : IXN w p) : Calls Try.prog 33 #[.pointer p] w fun e' w' => e' = .returned (.pointer none) ∧ Gr w w' := by
  have H := Lib.hid h
  clear h
  refine calls_of_wp_marks Try.func33 rfl ?_
  simp only [Try.ntmps33, List.size_toArray, List.length_cons, List.length_nil, Nat.reduceAdd, Nat.reduceSub, Array.replicate_succ, Array.replicate_zero, List.push_toArray, List.append_toArray, List.nil_append, List.cons_append]
  go_wp2_with (go_at_call 72; refine (made_no H.out).mono ?_; rintro e w1 ⟨rfl, rfl⟩)
  exact retM0 (v := .pointer none) (by simp [results, Try.results33, go_sem]) rfl ⟨rfl, by (repeat (first | (with_reducible exact Gr.refl _) | assumption | (with_reducible apply Gr.from_drew) | (with_reducible apply Gr.alloc) | (with_reducible apply Gr.drew) | (with_reducible refine Gr.trans ?_ (by assumption)) | (with_reducible refine Gr.setCell ?_ (by omega) _)))⟩
theorem ixp_none {w : World} {p : Option Addr} {X : IX} {S : Nat → Prop} (h : IXP w p X S) (h0 : X.slots = []) : IXN w p := by
  rcases h with ⟨b, e, h⟩ | ⟨h, _⟩
  · exact absurd h0 h.pos
  · exact h
theorem ixp_some {w : World} {p : Option Addr} {X : IX} {S : Nat → Prop} (h : IXP w p X S) (h0 : X.slots ≠ []) : ∃ b, p = some ⟨b, 0, none⟩ ∧ IXR w b X S := by
  rcases h with ⟨b, e, h⟩ | ⟨h, h1, _⟩
  · exact ⟨b, e, h⟩
  · rw [h1] at h0; exact absurd rfl h0
/-- What Copy returns. -/
def CopyQ (X : IX) (w : World) (e : Ending) (w' : World) : Prop := ∃ q, e = .returned (.pointer q) ∧ Gr w w' ∧ (q = none ↔ X.slots = []) ∧ ∃ S', IXP w' q X S' ∧ ∀ k, S' k → w.heap.size ≤ k
theorem Copy_any {w : World} {p : Option Addr} {X : IX} {S : Nat → Prop} (h : IXP w p X S) : Calls Try.prog 33 #[.pointer p] w (CopyQ X w) := by
  rcases h with ⟨b, rfl, h⟩ | ⟨h, h1, _⟩
  · refine (CopyX h).mono ?_
    rintro e w' ⟨b', S', rfl, h1, h2, h3⟩
    exact ⟨_, rfl, h3, ⟨(fun h0 => by cases h0), fun h0 => absurd h0 h.pos⟩, S', .inl ⟨b', rfl, h1⟩, h2⟩
  · refine (CopyN h).mono ?_
    rintro e w' ⟨rfl, hg⟩
    exact ⟨none, rfl, hg, ⟨fun _ => by rw [h1], fun _ => rfl⟩, fun _ => False, .inr ⟨.inl rfl, h1, fun k => ⟨fun h => h.elim, (fun ⟨a, ha, _⟩ => by cases ha)⟩⟩, fun k hk => hk.elim⟩
/-- An index among other things turns. -/
theorem SW.post {w0 w w' : World} {R : List Asn} {b : Nat} {X X' : IX} {S : Nat → Prop} (h : SW w0 (ixA b X S :: R) w) (p : IXPost b X' S w w') : ∃ S', SW w0 (ixA b X' S' :: R) w' := by
  obtain ⟨S', h1, h2, h3⟩ := p
  exact ⟨S', h.step h2 (fun k hk => .inl hk) h1 h3⟩
theorem SW.ix {w0 w : World} {R : List Asn} {b : Nat} {X : IX} {S : Nat → Prop} (h : SW w0 (ixA b X S :: R) w) : IXR w b X S := h.s.head
theorem SW.ixp {w0 w : World} {R : List Asn} {b : Nat} {X : IX} {S : Nat → Prop} (h : SW w0 (ixA b X S :: R) w) : IXP w (some ⟨b, 0, none⟩) X S := .inl ⟨b, rfl, h.s.head⟩
theorem SW.ixnew {w0 w w' : World} {R : List Asn} {b : Nat} {X : IX} {S : Nat → Prop} (h : SW w0 R w) (h1 : IXR w' b X S) (h2 : ∀ k, S k → w.heap.size ≤ k) (g : Gr w w') : SW w0 (ixA b X S :: R) w' := h.new g h1 h2
/-- A row behind an index. -/
theorem SW.row {w0 w w' : World} {R : List Asn} {A : Asn} {t : TypeId} {K n : Nat} {v : Value} {xs : List Value} (h : SW w0 (A :: R) w) (hr : Nw w w' t K v n xs) (g : Gr w w') : SW w0 (A :: rowA t K v n xs :: R) w' :=
  (h.new g (A := rowA t K v n xs) hr.own (fun k hk => hr.new k hk)).perm (List.Perm.swap _ _ _)
theorem SW.allocT {w0 w : World} {R : List Asn} {A : Asn} (h : SW w0 (A :: R) w) (o : Obj) : SW w0 (A :: blkA w.heap.size o :: R) (w.alloc o) := (h.alloc o).perm (List.Perm.swap _ _ _)
end Go.Proofs.Ytmdfickejpeofaa

/- A box of an entry; six numbers, one for each slot. -/
set_option linter.unusedVariables false
set_option linter.unusedSimpArgs false
namespace Go.Proofs.Ytmdfickejpeofaa
open Go.RowKit Go.Shelf

abbrev boxF (e : En) : Obj := .cells #[.int .i64 e.seq, .string e.key, .bool e.del, .int .i64 e.slot, .int .i64 e.off, .int .i64 e.size] 53
theorem SW.put {w0 w w' : World} {R : List Asn} {b : Nat} {o o' : Obj} (h : SW w0 (blkA b o :: R) w) (m : Mdh (fun k => k = b) w w') (hB : w'.heap[b]? = some o') : SW w0 (blkA b o' :: R) w' := h.step m (fun _ hk => .inl hk) hB (fun _ hk => .inl hk)
theorem us_get (us : Int → Int) (σ : Nat) (h : σ < 6) : (#[.int .i64 (us 0), .int .i64 (us 1), .int .i64 (us 2), .int .i64 (us 3), .int .i64 (us 4), .int .i64 (us 5)] : Array Value)[σ]? = some (.int .i64 (us σ)) := by
  have h' : σ = 0 ∨ σ = 1 ∨ σ = 2 ∨ σ = 3 ∨ σ = 4 ∨ σ = 5 := by omega
  rcases h' with rfl | rfl | rfl | rfl | rfl | rfl <;> rfl
theorem us_set (us : Int → Int) (σ : Nat) (h : σ < 6) (u : Int) : (#[.int .i64 (us 0), .int .i64 (us 1), .int .i64 (us 2), .int .i64 (us 3), .int .i64 (us 4), .int .i64 (us 5)] : Array Value).setIfInBounds σ (.int .i64 u) = #[.int .i64 (upd us σ u 0), .int .i64 (upd us σ u 1), .int .i64 (upd us σ u 2), .int .i64 (upd us σ u 3), .int .i64 (upd us σ u 4), .int .i64 (upd us σ u 5)] := by
  have h' : σ = 0 ∨ σ = 1 ∨ σ = 2 ∨ σ = 3 ∨ σ = 4 ∨ σ = 5 := by omega
  rcases h' with rfl | rfl | rfl | rfl | rfl | rfl <;> simp [upd]
end Go.Proofs.Ytmdfickejpeofaa

/- slices.Equal at rows of entries and of strings. -/
set_option linter.unusedVariables false
set_option linter.unusedSimpArgs false
namespace Go.Proofs.Ytmdfickejpeofaa
open Go.RowKit Go.Shelf
attribute [local go_sem] OvM cell_ovm obj_ovm
attribute [local go_sem] Oper.semAt_some

theorem ownS_at {w : World} {v : Value} {l : List ByteArray} (h : Own w 9 1 v l.length (kS l)) : ∃ a cap, v = .slice a l.length cap ∧ l.length ≤ cap ∧ cap ≤ maxLen ∧ ∀ i x, l[i]? = some x → ∃ g, a = some ⟨g, 0, none⟩ ∧ g < w.heap.size ∧ v.ownBlock = some g ∧ w.cell? ⟨g, i, none⟩ = some (.string x) := by
  rcases h.2 with ⟨hv, h0⟩ | ⟨g, cap, cur, hv, _, hg, h1, h2, h3, h4⟩
  · have hL : l = [] := List.eq_nil_of_length_eq_zero h0
    subst hL
    exact ⟨none, 0, hv, Nat.le_refl _, by simp [maxLen], fun i x hx => by simp at hx⟩
  · subst hv
    refine ⟨_, cap, rfl, h1, h2, fun i x hx => ⟨g, rfl, blkLt hg, rfl, ?_⟩⟩
    have hc := h.cells (g := g) rfl i (.string x) (by unfold kS; rw [List.getElem?_map, hx]; rfl)
    rwa [show (⟨g, 0, none⟩ : Addr).add i = ⟨g, i, none⟩ by unfold Addr.add; split <;> simp_all] at hc
theorem beq_len (a b : Nat) (h : a ≠ b) : ((a : Int) == (b : Int)) = false := beq_false_of_ne (by omega)
set_option maxRecDepth 40000 in
set_option maxHeartbeats 2000000 in
theorem EqualE (l1 l2 : List En) (v1 v2 : Value) (w : World) (h1 : Own w 53 6 v1 l1.length (rowE l1)) (h2 : Own w 53 6 v2 l2.length (rowE l2)) (hn : l1.length ≤ 1000000) :
    Calls Try.prog 100 #[v1, v2] w fun e w' => e = .returned (.bool (decide (l1 = l2))) ∧ Gr w w' := by
  obtain ⟨a1, cap1, rfl, hc1, hm1, hat1⟩ := ownE_at h1
  obtain ⟨a2, cap2, rfl, hc2, hm2, hat2⟩ := ownE_at h2
  have HA1 := Lib.hid hat1
  have HA2 := Lib.hid hat2
  clear h1 h2 hat1 hat2
  unfold maxLen at hm1 hm2
  by_cases hl : l1.length = l2.length
  · go_enter Try.func100, Try.ntmps100
    rw [← hl]
    rw [← hl] at hc2
    have HL := Lib.hid hl
    clear hl
    go_wp2_with fail
    go_loopw [13] (fun i wx => ∃ k : Nat, k ≤ l1.length ∧ i = .int .i64 k ∧ Hid (Gr w wx) ∧ Hid (l1.take k = l2.take k)) (fun i _ => l1.length - (intOf i).toNat)
    case atStart => exact ⟨0, by omega, rfl, Lib.hid (by (repeat (first | (with_reducible exact Gr.refl _) | assumption | (with_reducible apply Gr.from_drew) | (with_reducible apply Gr.alloc) | (with_reducible apply Gr.drew) | (with_reducible refine Gr.trans ?_ (by assumption)) | (with_reducible refine Gr.setCell ?_ (by omega) _)))), Lib.hid (by simp)⟩
    case round =>
      obtain ⟨k, hk, rfl, HG, HT⟩ := hrel
      by_cases hlt : k < l1.length
      · have hlt' : (k : Int) < l1.length := by omega
        have hx : l1[k]? = some (l1[k]'hlt) := List.getElem?_eq_getElem hlt
        have hy : l2[k]? = some (l2[k]'(by rw [← HL.out]; exact hlt)) := List.getElem?_eq_getElem _
        obtain ⟨g, rfl, z1, z2, c0⟩ := HA1.out k _ hx
        obtain ⟨g', rfl, z3, z4, c1⟩ := HA2.out k _ hy
        clear z1 z2 z3 z4
        have HX := Lib.hid hx
        have HY := Lib.hid hy
        generalize l1[k]'hlt = x at *
        generalize l2[k]'(by rw [← HL.out]; exact hlt) = y at *
        have hr : ∀ i u, (enC x)[i]? = some u → wr.cell? ⟨g, k * 6 + i, none⟩ = some u := fun i u hu => HG.out.keep (c0 i u hu)
        have hs : ∀ i u, (enC y)[i]? = some u → wr.cell? ⟨g', k * 6 + i, none⟩ = some u := fun i u hu => HG.out.keep (c1 i u hu)
        have d0 := hr 0 _ rfl
        have d1 := hr 1 _ rfl
        have d2 := hr 2 _ rfl
        have d3 := hr 3 _ rfl
        have d4 := hr 4 _ rfl
        have d5 := hr 5 _ rfl
        have e0 := hs 0 _ rfl
        have e1 := hs 1 _ rfl
        have e2 := hs 2 _ rfl
        have e3 := hs 3 _ rfl
        have e4 := hs 4 _ rfl
        have e5 := hs 5 _ rfl
        simp only [Nat.add_zero] at d0 d1 d2 d3 d4 d5 e0 e1 e2 e3 e4 e5
        have k1 := fun w => neqE_run x y w
        clear hr hs
        clear c0 c1 hx hy
        by_cases hxy : x = y
        · have hd : decide (x = y) = true := decide_eq_true hxy
          have HXY := Lib.hid hxy
          clear hxy
          go_wp2
          refine wp_region_flo (fun _ => False) [] [] (by kernel_rfl) (by kernel_rfl) (fun _ h => h.elim) ?_
          refine flo_seg 9 rfl ?_
          simp only [List.take_succ_cons, List.take_zero, List.drop_succ_cons, List.drop_zero]
          repeat (go_big_quiet_step (fail))
          refine wpQuiet_nil ?_
          refine flo_nil ?_
          go_wp2
          go_roundw
          case rel => exact ⟨k + 1, by omega, by go_num, Lib.hid (HG.out.trans (by (repeat (first | (with_reducible exact Gr.refl _) | assumption | (with_reducible apply Gr.from_drew) | (with_reducible apply Gr.alloc) | (with_reducible apply Gr.drew) | (with_reducible refine Gr.trans ?_ (by assumption)) | (with_reducible refine Gr.setCell ?_ (by omega) _))))), Lib.hid (by rw [List.take_add_one, List.take_add_one, HT.out, HX.out, HY.out, HXY.out])⟩
          case measure => simp [intOf]; omega
        · have hd : decide (x = y) = false := decide_eq_false hxy
          have HXY := Lib.hid hxy
          clear hxy
          have HNE : Hid (decide (l1 = l2) = false) := Lib.hid (by
            apply decide_eq_false
            rintro rfl
            rw [HX.out] at HY
            exact HXY.out (Option.some.inj HY.out))
          go_wp2
          refine wp_region_flo (fun _ => False) [] [] (by kernel_rfl) (by kernel_rfl) (fun _ h => h.elim) ?_
          refine flo_seg 9 rfl ?_
          simp only [List.take_succ_cons, List.take_zero, List.drop_succ_cons, List.drop_zero]
          repeat (go_big_quiet_step (fail))
          refine wpQuiet_nil ?_
          refine flo_nil ?_
          go_wp2
          go_ret
          exact ⟨ret_bool HNE.out.symm, HG.out.trans (by (repeat (first | (with_reducible exact Gr.refl _) | assumption | (with_reducible apply Gr.from_drew) | (with_reducible apply Gr.alloc) | (with_reducible apply Gr.drew) | (with_reducible refine Gr.trans ?_ (by assumption)) | (with_reducible refine Gr.setCell ?_ (by omega) _))))⟩
      · have hlt' : ¬ (k : Int) < l1.length := by omega
        have hkl : k = l1.length := by omega
        have HEQ : Hid (decide (l1 = l2) = true) := Lib.hid (by
          apply decide_eq_true
          have := HT.out
          rwa [List.take_of_length_le (by omega), List.take_of_length_le (by have := HL.out; omega)] at this)
        clear hkl
        go_wp2
        go_ret
        exact ⟨ret_bool HEQ.out.symm, HG.out⟩
  · have hb := beq_len _ _ hl
    have HNE : Hid (decide (l1 = l2) = false) := Lib.hid (decide_eq_false (fun e => hl (by rw [e])))
    clear hl
    go_enter Try.func100, Try.ntmps100
    go_wp2
    go_ret
    exact ⟨ret_bool HNE.out.symm, Gr.refl _⟩
set_option maxRecDepth 40000 in
set_option maxHeartbeats 2000000 in
theorem EqualS (l1 l2 : List ByteArray) (v1 v2 : Value) (w : World) (h1 : Own w 9 1 v1 l1.length (kS l1)) (h2 : Own w 9 1 v2 l2.length (kS l2)) (hn : l1.length ≤ 1000000) :
    Calls Try.prog 101 #[v1, v2] w fun e w' => e = .returned (.bool (decide (l1 = l2))) ∧ Gr w w' := by
  obtain ⟨a1, cap1, rfl, hc1, hm1, hat1⟩ := ownS_at h1
  obtain ⟨a2, cap2, rfl, hc2, hm2, hat2⟩ := ownS_at h2
  have HA1 := Lib.hid hat1
  have HA2 := Lib.hid hat2
  clear h1 h2 hat1 hat2
  unfold maxLen at hm1 hm2
  by_cases hl : l1.length = l2.length
  · go_enter Try.func101, Try.ntmps101
    rw [← hl]
    rw [← hl] at hc2
    have HL := Lib.hid hl
    clear hl
    go_wp2_with fail
    go_loopw [13] (fun i wx => ∃ k : Nat, k ≤ l1.length ∧ i = .int .i64 k ∧ Hid (Gr w wx) ∧ Hid (l1.take k = l2.take k)) (fun i _ => l1.length - (intOf i).toNat)
    case atStart => exact ⟨0, by omega, rfl, Lib.hid (by (repeat (first | (with_reducible exact Gr.refl _) | assumption | (with_reducible apply Gr.from_drew) | (with_reducible apply Gr.alloc) | (with_reducible apply Gr.drew) | (with_reducible refine Gr.trans ?_ (by assumption)) | (with_reducible refine Gr.setCell ?_ (by omega) _)))), Lib.hid (by simp)⟩
    case round =>
      obtain ⟨k, hk, rfl, HG, HT⟩ := hrel
      by_cases hlt : k < l1.length
      · have hlt' : (k : Int) < l1.length := by omega
        have hx : l1[k]? = some (l1[k]'hlt) := List.getElem?_eq_getElem hlt
        have hy : l2[k]? = some (l2[k]'(by rw [← HL.out]; exact hlt)) := List.getElem?_eq_getElem _
        obtain ⟨g, rfl, z1, z2, c0⟩ := HA1.out k _ hx
        obtain ⟨g', rfl, z3, z4, c1⟩ := HA2.out k _ hy
        clear z1 z2 z3 z4
        have HX := Lib.hid hx
        have HY := Lib.hid hy
        generalize l1[k]'hlt = x at *
        generalize l2[k]'(by rw [← HL.out]; exact hlt) = y at *
        have d0 := HG.out.keep c0
        have e0 := HG.out.keep c1
        clear c0 c1 hx hy
        by_cases hxy : x = y
        · have hd : (x.toList == y.toList) = true := by rw [str_beq]; exact decide_eq_true hxy
          have HXY := Lib.hid hxy
          clear hxy
          go_wp2
          refine wp_region_flo (fun _ => False) [] [] (by kernel_rfl) (by kernel_rfl) (fun _ h => h.elim) ?_
          refine flo_seg 9 rfl ?_
          simp only [List.take_succ_cons, List.take_zero, List.drop_succ_cons, List.drop_zero]
          repeat (go_big_quiet_step (fail))
          refine wpQuiet_nil ?_
          refine flo_nil ?_
          go_wp2
          go_roundw
          case rel => exact ⟨k + 1, by omega, by go_num, Lib.hid (HG.out.trans (by (repeat (first | (with_reducible exact Gr.refl _) | assumption | (with_reducible apply Gr.from_drew) | (with_reducible apply Gr.alloc) | (with_reducible apply Gr.drew) | (with_reducible refine Gr.trans ?_ (by assumption)) | (with_reducible refine Gr.setCell ?_ (by omega) _))))), Lib.hid (by rw [List.take_add_one, List.take_add_one, HT.out, HX.out, HY.out, HXY.out])⟩
          case measure => simp [intOf]; omega
        · have hd : (x.toList == y.toList) = false := by rw [str_beq]; exact decide_eq_false hxy
          have HXY := Lib.hid hxy
          clear hxy
          have HNE : Hid (decide (l1 = l2) = false) := Lib.hid (by
            apply decide_eq_false
            rintro rfl
            rw [HX.out] at HY
            exact HXY.out (Option.some.inj HY.out))
          go_wp2
          refine wp_region_flo (fun _ => False) [] [] (by kernel_rfl) (by kernel_rfl) (fun _ h => h.elim) ?_
          refine flo_seg 9 rfl ?_
          simp only [List.take_succ_cons, List.take_zero, List.drop_succ_cons, List.drop_zero]
          repeat (go_big_quiet_step (fail))
          refine wpQuiet_nil ?_
          refine flo_nil ?_
          go_wp2
          go_ret
          exact ⟨ret_bool HNE.out.symm, HG.out.trans (by (repeat (first | (with_reducible exact Gr.refl _) | assumption | (with_reducible apply Gr.from_drew) | (with_reducible apply Gr.alloc) | (with_reducible apply Gr.drew) | (with_reducible refine Gr.trans ?_ (by assumption)) | (with_reducible refine Gr.setCell ?_ (by omega) _))))⟩
      · have hlt' : ¬ (k : Int) < l1.length := by omega
        have hkl : k = l1.length := by omega
        have HEQ : Hid (decide (l1 = l2) = true) := Lib.hid (by
          apply decide_eq_true
          have := HT.out
          rwa [List.take_of_length_le (by omega), List.take_of_length_le (by have := HL.out; omega)] at this)
        clear hkl
        go_wp2
        go_ret
        exact ⟨ret_bool HEQ.out.symm, HG.out⟩
  · have hb := beq_len _ _ hl
    have HNE : Hid (decide (l1 = l2) = false) := Lib.hid (decide_eq_false (fun e => hl (by rw [e])))
    clear hl
    go_enter Try.func101, Try.ntmps101
    go_wp2
    go_ret
    exact ⟨ret_bool HNE.out.symm, Gr.refl _⟩
end Go.Proofs.Ytmdfickejpeofaa

/- take at an index's own iterators; rows that a literal lays. -/
set_option linter.unusedVariables false
set_option linter.unusedSimpArgs false
namespace Go.Proofs.Ytmdfickejpeofaa
open Go.RowKit Go.Shelf

theorem take_of {w : World} {p : Option Addr} {X : IX} {S : Nat → Prop} (h : IXP w p X S) (k : ByteArray) (bb bk : Nat) (hbb : w.cell? ⟨bb, 0, none⟩ = some (.pointer p)) (hbk : w.cell? ⟨bk, 0, none⟩ = some (.string k)) :
    Calls Try.prog 96 #[.func (.func 142) #[] #[.pointer (some ⟨bb, 0, none⟩), .pointer (some ⟨bk, 0, none⟩)]] w fun e w' => ∃ v, e = .returned v ∧ Nw w w' 53 6 v ((X.of k).take 5000).length (rowE ((X.of k).take 5000)) ∧ Gr w w' :=
  TakeE (enters_of Try.func142 (by kernel_rfl) rfl) (SeqOfP h k bb bk hbb hbk) (fun q hq => by
    rcases hq with rfl | rfl | hq
    · exact World.block_lt_of_cell? w _ hbb
    · exact World.block_lt_of_cell? w _ hbk
    · exact h.lt q hq)
theorem take_slot {w : World} {p : Option Addr} {X : IX} {S : Nat → Prop} (h : IXP w p X S) (s : Int) (bb bk : Nat) (hbb : w.cell? ⟨bb, 0, none⟩ = some (.pointer p)) (hbk : w.cell? ⟨bk, 0, none⟩ = some (.int .i64 s)) :
    Calls Try.prog 96 #[.func (.func 152) #[] #[.pointer (some ⟨bb, 0, none⟩), .pointer (some ⟨bk, 0, none⟩)]] w fun e w' => ∃ v, e = .returned v ∧ Nw w w' 53 6 v ((X.slot s).take 5000).length (rowE ((X.slot s).take 5000)) ∧ Gr w w' :=
  TakeE (enters_of Try.func152 (by kernel_rfl) rfl) (SeqSlotP h s bb bk hbb hbk) (fun q hq => by
    rcases hq with rfl | rfl | hq
    · exact World.block_lt_of_cell? w _ hbb
    · exact World.block_lt_of_cell? w _ hbk
    · exact h.lt q hq)
theorem take_keys {w : World} {p : Option Addr} {X : IX} {S : Nat → Prop} (h : IXP w p X S) (bb : Nat) (hbb : w.cell? ⟨bb, 0, none⟩ = some (.pointer p)) :
    Calls Try.prog 98 #[.func (.func 153) #[] #[.pointer (some ⟨bb, 0, none⟩)]] w fun e w' => ∃ v, e = .returned v ∧ Nw w w' 9 1 v (X.ks.take 5000).length (kS (X.ks.take 5000)) ∧ Gr w w' :=
  TakeS (enters_of Try.func153 (by kernel_rfl) rfl) (SeqKeysP h bb hbb) (fun q hq => by
    rcases hq with rfl | hq
    · exact World.block_lt_of_cell? w _ hbb
    · exact h.lt q hq)
theorem own_lit (w : World) (t : TypeId) (K n : Nat) (xs : List Value) (hx : xs.length = n * K) (hn : n ≤ 100000) : Own (w.alloc (.cells xs.toArray t)) t K (.slice (some ⟨w.heap.size, 0, none⟩) n n) n xs :=
  Own.ofParts (blkNew w _) (Nat.le_refl _) (by unfold maxLen; omega) (by simpa using hx) (by rw [List.take_of_length_le (by rw [← hx]; exact Nat.le_refl _)])
end Go.Proofs.Ytmdfickejpeofaa
