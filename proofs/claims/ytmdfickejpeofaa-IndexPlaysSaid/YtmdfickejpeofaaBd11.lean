/- key.Check at any string: runes of 128 and more are not among the letters. -/
import Derived.Test.YtmdfickejpeofaaBd9
import Derived.Laws.Runes
import Derived.WalkMore
import Derived.Test.YtmdfickejpeofaaBd7
import Derived.Test.YtmdfickejpeofaaBd6
import Derived.Test.YtmdfickejpeofaaBd3
import Derived.Test.YtmdfickejpeofaaBd10
set_option linter.unusedVariables false
set_option linter.unusedSimpArgs false
namespace Go.Proofs.Ytmdfickejpeofaa
open Go.RowKit
attribute [local go_sem] OvM cell_ovm obj_ovm

set_option maxRecDepth 40000 in
theorem ValidRune_any (c : Int) (h0 : 0 ≤ c) (w : World) : Calls Try.prog 191 #[.int .i32 c] w fun e w' => e = .returned (.bool (validRune c)) ∧ w = w' := by
  by_cases h1 : c < 55296
  · have HV : Hid (validRune c = true) := Lib.hid (by simp [validRune]; omega)
    go_enter Try.func191, Try.ntmps191
    go_wp2_with fail
    go_ret
    exact ⟨ret_bool HV.out.symm, rfl⟩
  · by_cases h2 : 57343 < c
    · by_cases h3 : c ≤ 1114111
      · have HV : Hid (validRune c = true) := Lib.hid (by simp [validRune]; omega)
        go_enter Try.func191, Try.ntmps191
        go_wp2_with fail
        go_ret
        exact ⟨ret_bool HV.out.symm, rfl⟩
      · have HV : Hid (validRune c = false) := Lib.hid (by simp [validRune]; omega)
        go_enter Try.func191, Try.ntmps191
        go_wp2_with fail
        go_ret
        exact ⟨ret_bool HV.out.symm, rfl⟩
    · have HV : Hid (validRune c = false) := Lib.hid (by simp [validRune]; omega)
      go_enter Try.func191, Try.ntmps191
      go_wp2_with fail
      go_ret
      exact ⟨ret_bool HV.out.symm, rfl⟩
theorem indexByte_high (s : ByteArray) (a e : Nat) (c : UInt8) (hs : ∀ j (hj : j < s.size), (s[j]'hj).toNat < 128) (hc : 128 ≤ c.toNat) : Lib.indexByte (s.extract a e).data.toList c = -1 := by
  rw [← Lib.firstIdx_eq]
  refine firstIdx_ascii s a e c (fun b hb => ?_) hc
  obtain ⟨j, hj, rfl⟩ := List.mem_iff_getElem.1 hb
  exact hs j (by rw [size_data]; exact hj)
set_option maxRecDepth 1000000 in
theorem IndexRune_high (s : ByteArray) (hs : ∀ j (hj : j < s.size), (s[j]'hj).toNat < 128) (h4 : 4 ≤ s.size) (hm : s.size ≤ 1000) (c : Int) (h0 : 128 ≤ c) (w : World) : Calls Try.prog 185 #[.string s, .int .i32 c] w fun e w' => e = .returned (.int .i64 (-1)) ∧ Gr w w' := by
  have HS := Lib.hid hs
  clear hs
  have h00 : (0 : Int) ≤ c := by omega
  have h01 : ¬ c < 128 := by omega
  by_cases he : c = 65533
  · subst he
    go_enter Try.func185, Try.ntmps185
    go_wp2_with fail
    go_loopw [5, 6] (fun t5 t6 wx => ∃ pos : Nat, pos ≤ s.size ∧ wx = w.iter s pos) (fun _ _ wx => s.size - wx.iterPos w.heap.size)
    case atStart => exact ⟨0, by omega, rfl⟩
    case round =>
      obtain ⟨pos, hp, rfl⟩ := hrel
      by_cases hlt : pos < s.size
      · have hnx : ∀ ty, (Instr.next (.pointer (some ⟨w.heap.size, 0, none⟩)) true ty).run Try.prog (w.iter s pos) = _ := fun ty => run_next_ascii (P := Try.prog) w s pos ty hlt (HS.out pos hlt)
        have hc := HS.out pos hlt
        generalize s[pos]'hlt = b at *
        have hb : ((b.toNat : Int) == 65533) = false := beq_false_of_ne (by omega)
        go_wp2_with fail
        go_roundw
        case rel => exact ⟨pos + 1, by omega, rfl⟩
        case measure => simp; omega
      · obtain rfl : pos = s.size := by omega
        have hnx : ∀ ty, (Instr.next (.pointer (some ⟨w.heap.size, 0, none⟩)) true ty).run Try.prog (w.iter s s.size) = _ := fun ty => run_next_end w s s.size ty (by omega)
        go_wp2_with fail
        go_ret
        exact ⟨rfl, (Gr.refl w).alloc _⟩
  · have hb : (c == 65533) = false := beq_false_of_ne he
    have HV := Lib.hid (validRune_eq c)
    cases hv : validRune c with
    | false =>
      have HV1 := Lib.hid hv
      clear hv
      go_enter Try.func185, Try.ntmps185
      go_wp2_with (go_at_call 191; refine (ValidRune_any _ h00 _).mono ?_; rintro e w1 ⟨rfl, rfl⟩; rw [HV1.out])
      go_ret
      exact ⟨rfl, Gr.refl w⟩
    | true =>
      have HV1 := Lib.hid hv
      clear hv
      obtain ⟨k2, k4, kl⟩ := encode_facts c (HV.out.trans HV1.out) h0
      have kl1 := kl (by omega)
      clear kl
      obtain ⟨rs, hrs⟩ : ∃ rs, rs = Utf8.encode c := ⟨_, rfl⟩
      have hcv : ∀ w : World, (convert 21 9 (.int .i32 c)).run Try.prog w = .ok (.string rs) w := fun w => by rw [hrs]; exact run_convert_int_string w _ _ .i32 c (by kernel_rfl) (by kernel_rfl)
      rw [← hrs] at k2 k4
      have k5 : rs.size - 1 < rs.size := by omega
      have kl2 : 128 ≤ (rs[rs.size - 1]'k5).toNat := by subst hrs; exact kl1
      clear kl1 hrs
      obtain ⟨m, hm⟩ : ∃ m, m = rs.size - 1 := ⟨_, rfl⟩
      have hr : rs.size = m + 1 := by omega
      have k6 : m < rs.size := by omega
      have kl3 : 128 ≤ (rs[m]'k6).toNat := by subst hm; exact kl2
      have k7 : m < s.size := by omega
      have KS := Lib.hid (HS.out m k7)
      have KI := Lib.hid (indexByte_high s (m + 1) s.size (rs[m]'k6) HS.out kl3)
      clear kl2 hm k5
      go_enter Try.func185, Try.ntmps185
      go_wp2_with (go_at_call 191; refine (ValidRune_any _ h00 _).mono ?_; rintro e w1 ⟨rfl, rfl⟩; rw [HV1.out])
      go_step3
      go_wp2_with fail
      go_loopw [9, 10] (fun t9 t10 wx => t9 = .int .i64 m ∧ t10 = .int .i64 0 ∧ w = wx) (fun _ _ _ => 0)
      case atStart => exact ⟨rfl, rfl, rfl⟩
      case round =>
        obtain ⟨rfl, rfl, rfl⟩ := hrel
        have k7' : (m : Int) < s.size := by omega
        have k6' : (m : Int) < rs.size := by omega
        have hne : (((s[m]'k7).toNat : Int) != ((rs[m]'k6).toNat : Int)) = true := by
          have := KS.out
          simp only [bne_iff_ne, ne_eq]
          omega
        clear hr k2 k4
        go_wp2_with fail
        go_step3
        go_wp2_with fail
        refine wp_region_flo (fun _ => False) [] [] (by kernel_rfl) (by kernel_rfl) (fun _ h => h.elim) ?_
        refine flo_seg 7 rfl ?_
        simp only [List.take_succ_cons, List.take_zero, List.drop_succ_cons, List.drop_zero]
        repeat (go_big_quiet_step (fail))
        refine wpQuiet_nil ?_
        refine flo_nil ?_
        go_wp2_with fail
        refine wp_region_flo (fun _ => False) [] [] (by kernel_rfl) (by kernel_rfl) (fun _ h => h.elim) ?_
        refine flo_seg 7 rfl ?_
        simp only [List.take_succ_cons, List.take_zero, List.drop_succ_cons, List.drop_zero]
        repeat (go_big_quiet_step (fail))
        refine wpQuiet_nil ?_
        refine flo_eff rfl rfl rfl rfl (fun K hK => ?_)
        go_wp2_with ((go_at_call 190; refine (IndexByte_any _ _ _).mono ?_; rintro e w1 ⟨rfl, rfl⟩))
        refine ⟨by (first | (refine Gr.mdh ?_ _; (repeat (first | (with_reducible exact Gr.refl _) | assumption | (with_reducible apply Gr.from_drew) | (with_reducible apply Gr.alloc) | (with_reducible apply Gr.drew) | (with_reducible refine Gr.trans ?_ (by assumption)) | (with_reducible refine Gr.setCell ?_ (by omega) _))); done) | (repeat (first | (with_reducible exact Mdh.refl _ _) | (with_reducible refine Mdh.setCell ?_ (by simp) _) | (with_reducible refine Mdh.setNew ?_ (by simp) _) | (with_reducible apply Mdh.alloc) | (with_reducible apply Mdh.from_drew) | (with_reducible apply Mdh.drew) | (with_reducible refine Mdh.gr ?_ (by assumption))))), ?_⟩
        refine flo_seg 1 rfl ?_
        simp only [List.take_succ_cons, List.take_zero, List.drop_succ_cons, List.drop_zero]
        repeat (go_big_quiet_step (fail))
        refine wpQuiet_nil ?_
        refine flo_nil ?_
        have HI2 := KI.out
        simp at HI2
        rw [HI2]
        go_wp2_with fail
        rw [Exit.noGoto_ret]
        go_wp2_with fail
        try rw [Exit.noGoto_ret]
        try go_wp2_with fail
        go_ret
        exact ⟨rfl, (Gr.refl w).drew.drew⟩
set_option maxRecDepth 1000000 in
theorem ContainsRune_high (s : ByteArray) (hs : ∀ j (hj : j < s.size), (s[j]'hj).toNat < 128) (h4 : 4 ≤ s.size) (hm : s.size ≤ 1000) (c : Int) (h0 : 128 ≤ c) (w : World) : Calls Try.prog 171 #[.string s, .int .i32 c] w fun e w' => e = .returned (.bool false) ∧ Gr w w' := by
  have HR := Lib.hid (fun W => IndexRune_high s hs h4 hm c h0 W)
  clear hs
  go_enter Try.func171, Try.ntmps171
  go_wp2_with (go_at_call 185; refine (HR.out _).mono ?_; rintro e w1 ⟨rfl, hg⟩; have HG := Lib.hid hg; clear hg)
  go_ret
  exact ⟨rfl, HG.out⟩
theorem letters_low : ∀ j (hj : j < (⟨#[45, 46, 48, 49, 50, 51, 52, 53, 54, 55, 56, 57, 95, 97, 98, 99, 100, 101, 102, 103, 104, 105, 106, 107, 108, 109, 110, 111, 112, 113, 114, 115, 116, 117, 118, 119, 120, 121, 122]⟩ : ByteArray).size), ((⟨#[45, 46, 48, 49, 50, 51, 52, 53, 54, 55, 56, 57, 95, 97, 98, 99, 100, 101, 102, 103, 104, 105, 106, 107, 108, 109, 110, 111, 112, 113, 114, 115, 116, 117, 118, 119, 120, 121, 122]⟩ : ByteArray)[j]'hj).toNat < 128 := by
  have h : ∀ n : Fin 39, ((⟨#[45, 46, 48, 49, 50, 51, 52, 53, 54, 55, 56, 57, 95, 97, 98, 99, 100, 101, 102, 103, 104, 105, 106, 107, 108, 109, 110, 111, 112, 113, 114, 115, 116, 117, 118, 119, 120, 121, 122]⟩ : ByteArray)[n.val]'n.isLt).toNat < 128 := by decide +kernel
  exact fun j hj => h ⟨j, hj⟩
theorem keyC_high {c : UInt8} (h : 128 ≤ c.toNat) : keyC c = false := by
  have hh : ∀ n : Fin 256, 128 ≤ n.val → keyC (UInt8.ofNat n.val) = false := by decide +kernel
  have := hh ⟨c.toNat, c.toNat_lt⟩ h
  simpa using this
theorem ContainsRune_hi (c : Int) (h : 128 ≤ c) (w : World) : Calls Try.prog 171 #[.string ⟨#[45, 46, 48, 49, 50, 51, 52, 53, 54, 55, 56, 57, 95, 97, 98, 99, 100, 101, 102, 103, 104, 105, 106, 107, 108, 109, 110, 111, 112, 113, 114, 115, 116, 117, 118, 119, 120, 121, 122]⟩, .int .i32 c] w fun e w' => e = .returned (.bool false) ∧ Gr w w' :=
  ContainsRune_high _ letters_low (by show 4 ≤ 39; decide) (by show 39 ≤ 1000; decide) c h w
theorem low_to (k : ByteArray) : ∀ n, n ≤ k.size → (∀ i (hi : i < k.size), i < n → (k[i]'hi).toNat < 128) ∨ ∃ j, ∃ hj : j < k.size, 128 ≤ (k[j]'hj).toNat ∧ ∀ i (hi : i < k.size), i < j → (k[i]'hi).toNat < 128
  | 0, _ => .inl (fun i hi h => by omega)
  | n + 1, hn => by
    rcases low_to k n (by omega) with h | h
    · have hk : n < k.size := by omega
      rcases Nat.lt_or_ge (k[n]'hk).toNat 128 with h3 | h3
      · left
        intro i hi hlt
        by_cases hin : i < n
        · exact h i hi hin
        · obtain rfl : i = n := by omega
          exact h3
      · exact .inr ⟨n, hk, h3, h⟩
    · exact .inr h
theorem low_or (k : ByteArray) : Low k ∨ ∃ j, ∃ hj : j < k.size, 128 ≤ (k[j]'hj).toNat ∧ ∀ i (hi : i < k.size), i < j → (k[i]'hi).toNat < 128 := by
  rcases low_to k k.size (Nat.le_refl _) with h | h
  · exact .inl (fun j hj => h j hj hj)
  · exact .inr h
set_option maxRecDepth 1000000 in
set_option maxHeartbeats 1000000 in
theorem Check_hi (k : ByteArray) (q : Nat) (hq : q < k.size) (hh : 128 ≤ (k[q]'hq).toNat) (hl : ∀ i (hi : i < k.size), i < q → (k[i]'hi).toNat < 128) (hm : k.size ≤ 140737488351232) (w : World) : Calls Try.prog 140 #[.string k] w fun e w' => e = .returned (.int .i64 (keyChk k)) ∧ Gr w w' := by
  have HH := Lib.hid (keyChk_bad (k := k) q hq (keyC_high hh))
  have HL := Lib.hid hl
  have HQ := Lib.hid hh
  clear hl hh
  go_enter Try.func140, Try.ntmps140
  go_wp2_with fail
  go_loopw [] (fun wx => ∃ pos : Nat, pos ≤ q ∧ wx = w.iter k pos ∧ Hid (∀ j (hj : j < k.size), j < pos → keyC (k[j]'hj) = true)) (fun wx => k.size - wx.iterPos w.heap.size)
  case atStart => exact ⟨0, by omega, rfl, Lib.hid (fun j _ h => by omega)⟩
  case round =>
    obtain ⟨pos, hp, rfl, H⟩ := hrel
    have hlt : pos < k.size := by omega
    by_cases hpq : pos < q
    · have hnx : ∀ ty, (Instr.next (.pointer (some ⟨w.heap.size, 0, none⟩)) true ty).run Try.prog (w.iter k pos) = _ := fun ty => run_next_ascii (P := Try.prog) w k pos ty hlt (HL.out pos hlt hpq)
      have HN := Lib.hid (Check_next k pos hlt)
      have hc := HL.out pos hlt hpq
      have HB := Lib.hid (fun h => keyChk_bad (k := k) pos hlt h)
      generalize k[pos]'hlt = c at *
      have h1 : c.toNat < 128 := hc
      cases hk : keyC c with
      | true =>
        have HK := Lib.hid hk
        clear hk
        go_wp2_with (go_at_call 171; refine (ContainsRune_key c h1 _).mono ?_; rintro e w1 ⟨rfl, rfl⟩; rw [HK.out])
        go_roundw
        case rel => exact ⟨pos + 1, by omega, rfl, Lib.hid (HN.out.2 ⟨H.out, HK.out⟩)⟩
        case measure => simp; omega
      | false =>
        have HK := Lib.hid hk
        clear hk
        go_wp2_with (go_at_call 171; refine (ContainsRune_key c h1 _).mono ?_; rintro e w1 ⟨rfl, rfl⟩; rw [HK.out])
        go_ret
        exact ⟨ret_int (HB.out HK.out).symm, (Gr.refl w).alloc _⟩
    · obtain rfl : pos = q := by omega
      have hnx : ∀ ty, (Instr.next (.pointer (some ⟨w.heap.size, 0, none⟩)) true ty).run Try.prog (w.iter k pos) = _ := fun ty => run_next_any (P := Try.prog) w k pos ty hlt
      have hd := decode_high k pos hlt HQ.out
      have hd2 := decode_le k pos
      generalize Utf8.decode k pos = dc at *
      obtain ⟨r, sz⟩ := dc
      simp only at hd hd2 hnx
      have hr := hd.1
      have hr' : (128 : Int) ≤ (r : Int) := by omega
      have HR := Lib.hid (fun W => ContainsRune_hi r hr' W)
      go_wp2_with (go_at_call 171; refine (HR.out _).mono ?_; rintro e w1 ⟨rfl, hg⟩; have HG := Lib.hid hg; clear hg)
      go_ret
      exact ⟨ret_int HH.out.symm, ((Gr.refl w).alloc _).trans HG.out⟩
theorem Check_all (k : ByteArray) (hm : k.size ≤ 140737488351232) (w : World) : Calls Try.prog 140 #[.string k] w fun e w' => e = .returned (.int .i64 (keyChk k)) ∧ Gr w w' := by
  rcases low_or k with h | ⟨j, hj, h1, h2⟩
  · exact Check_low k h hm w
  · exact Check_hi k j hj h1 h2 hm w
set_option maxRecDepth 40000 in
set_option maxHeartbeats 1000000 in
theorem valid_all (e : En) (hm : e.key.size ≤ 140737488351232) (w : World) (hs : e.size ≤ 9223372036854775807) (hs' : -9223372036854775808 ≤ e.size) : Calls Try.prog 74 #[enV e] w fun e' w' => e' = .returned (.bool (validE e)) ∧ Gr w w' := by
  have HV := Lib.hid (valid_iff e)
  obtain ⟨a1, a2, a3, a4, a5, a6⟩ := e
  have HB : Hid (validE ⟨a1, a2, a3, a4, a5, a6⟩ = decide (keyChk a2 = 0 ∧ 1 ≤ a1 ∧ a1 ≤ 1099511627776 ∧ 0 ≤ a5 ∧ 16 + (a2.size : Int) ≤ a6 ∧ (a6 = 16 + (a2.size : Int) ∨ a3 = false) ∧ a6 ≤ 8192 ∧ a5 ≤ 8192 - a6)) := Lib.hid rfl
  simp only [enV] at *
  obtain ⟨c, hc⟩ : ∃ c, c = keyChk a2 := ⟨_, rfl⟩
  have HC := Lib.hid hc
  rw [← hc] at HB
  clear hc HV
  go_enter Try.func74, Try.ntmps74
  go_wp2_with (go_at_call 140; refine (Check_all _ hm _).mono ?_; rintro e w1 ⟨rfl, hg⟩; rw [← HC.out]; have HG := Lib.hid hg; have c0 := hg.cell; simp only [World.size_alloc] at c0; clear hg)
  all_goals
    go_ret
    have HC' := HC.out
    clear c0 HB
    exact ⟨ret_bool (by simp only [validE]; rw [← HC']; clear HC'; first | (simp_all; done) | (simp_all; omega)), ((Gr.refl w).alloc _).trans HG.out⟩
theorem not_low {e : En} (h : ¬ Low e.key) : validE e = false := by
  cases hv : validE e with
  | false => rfl
  | true =>
    have h1 := ((valid_iff e).1 hv).1
    rcases low_or e.key with h2 | ⟨j, hj, h2, _⟩
    · exact absurd h2 h
    · rw [keyChk_bad j hj (keyC_high h2)] at h1
      cases h1
set_option maxRecDepth 40000 in
set_option maxHeartbeats 4000000 in
theorem Add_hi {w : World} {b : Nat} {X : IX} {S : Nat → Prop} (h : IXR w b X S) (e : En) (hv : validE e = false) (hB : En64 e) :
    Calls Try.prog 20 #[.pointer (some ⟨b, 0, none⟩), enV e] w fun e' w' => e' = .returned (.int .i64 (addE X e)) ∧ IXPost b (addX X e) S w w' := by
  have H := Lib.hid h
  have H64 := Lib.hid hB
  have HNE := Lib.hid h.pos
  have HV := Lib.hid hv
  have HVA := Lib.hid (fun W => valid_all e hB.2.2 W hB.1 hB.2.1)
  clear h hB hv
  simp only [enV] at HVA ⊢
  refine calls_of_wp_marks Try.func20 rfl ?_
  simp only [Try.ntmps20, List.size_toArray, List.length_cons, List.length_nil, Nat.reduceAdd, Nat.reduceSub, Array.replicate_succ, Array.replicate_zero, List.push_toArray, List.append_toArray, List.nil_append, List.cons_append]
  go_wp2_with fail
  obtain ⟨w0, hw0⟩ : ∃ y, y = (w.alloc (.cells #[.int .i64 e.seq, .string e.key, .bool e.del, .int .i64 e.slot, .int .i64 e.off, .int .i64 e.size] 53)).alloc (.cells #[.int .i64 0] 31) := ⟨_, rfl⟩
  obtain ⟨b3, hb3⟩ : ∃ q, q = w.heap.size := ⟨_, rfl⟩
  rw [← hw0, ← hb3]
  have x3 : w0.heap[b3]? = some (.cells #[.int .i64 e.seq, .string e.key, .bool e.del, .int .i64 e.slot, .int .i64 e.off, .int .i64 e.size] 53) := by rw [hw0, hb3]; exact blkOld (blkNew _ _)
  have x4 : w0.heap[b3 + 1]? = some (.cells #[.int .i64 0] 31) := by rw [hw0, hb3]; have := blkNew (w.alloc (.cells #[.int .i64 e.seq, .string e.key, .bool e.del, .int .i64 e.slot, .int .i64 e.off, .int .i64 e.size] 53)) (.cells #[.int .i64 0] 31); rwa [World.size_alloc] at this
  have HW0 : Hid (Gr w w0 ∧ b3 = w.heap.size ∧ w0.heap.size = w.heap.size + 2) := Lib.hid ⟨by rw [hw0]; exact ((Gr.refl w).alloc _).alloc _, hb3, by rw [hw0]; simp⟩
  have H0 := Lib.hid (H.out.gr HW0.out.1)
  have HX := Lib.hid (And.intro x3 x4)
  have c3 := (cellsOf x3).1
  obtain ⟨c4, f4⟩ := cellsOf x4
  have m4 : b3 + 1 ≠ b3 := by omega
  clear hw0 hb3 x3 x4
  refine (made_yes H0.out).mono ?_
  rintro e' w1 ⟨rfl, rfl⟩
  cases hh : X.has e.slot with
  | false =>
    have HE := Lib.hid (add_3 HNE.out hh)
    have HH := Lib.hid hh
    clear hh
    go_wp2_with (go_at_call 73; refine (has_yes H0.out _).mono ?_; rintro e' w1 ⟨rfl, rfl⟩; rw [HH.out])
    have d4 := (cellsOf (blkSet (j := 0) (u := .int .i64 3) HX.out.2)).1
    refine retM0 (v := .int .i64 3) ?_ rfl ⟨by rw [HE.out], add_out (w0 := w) (b4 := 0) H.out (by rw [HE.out]; decide) (HW0.out.1.setCell (by have := HW0.out; simp; omega) _)⟩
    simp [results, Try.results20, go_sem, d4]
  | true =>
    have HH := Lib.hid hh
    clear hh
    go_wp2_with fail
    refine (has_yes H0.out _).mono ?_
    rintro e' w1 ⟨rfl, rfl⟩
    rw [HH.out]
    have HE := Lib.hid (add_2 HNE.out HH.out HV.out)
    go_wp2_with fail
    refine (HVA.out _).mono ?_
    rintro e' w1 ⟨rfl, hg⟩
    rw [HV.out]
    have HG1 := Lib.hid hg
    have y4 := hg.blk HX.out.2
    obtain ⟨d4, g4⟩ := cellsOf y4
    have HY := Lib.hid y4
    clear hg y4 c3 c4 f4
    go_wp2_with fail
    have d4' := (cellsOf (blkSet (j := 0) (u := .int .i64 2) HY.out)).1
    refine retM0 (v := .int .i64 2) ?_ rfl ⟨by rw [HE.out], add_out (w0 := w) (b4 := 0) H.out (by rw [HE.out]; decide) ((HW0.out.1.trans HG1.out).setCell (by have := HW0.out; simp; omega) _)⟩
    simp [results, Try.results20, go_sem, d4']
theorem Add_all {w : World} {b : Nat} {X : IX} {S : Nat → Prop} (h : IXR w b X S) (e : En) (hB : En64 e) :
    Calls Try.prog 20 #[.pointer (some ⟨b, 0, none⟩), enV e] w fun e' w' => e' = .returned (.int .i64 (addE X e)) ∧ IXPost b (addX X e) S w w' := by
  by_cases hl : Low e.key
  · exact Add_any h e hl hB
  · exact Add_hi h e (not_low hl) hB
end Go.Proofs.Ytmdfickejpeofaa

/- A choice of things that lie side by side, in any order. No program in sight. -/
set_option linter.unusedVariables false
set_option linter.unusedSimpArgs false
namespace Go.Proofs.Ytmdfickejpeofaa
open Go.RowKit
theorem SW.sel {w0 w : World} {R R' : List Asn} (h : SW w0 R w) (is : List Nat) (hd : is.Nodup) (he : is.map (fun i => R[i]?) = R'.map some) : SW w0 R' w := by
  have hm : ∀ A ∈ R', A ∈ R := fun A hA => by
    have h1 : some A ∈ R'.map some := List.mem_map.2 ⟨A, hA, rfl⟩
    rw [← he] at h1
    obtain ⟨i, _, h2⟩ := List.mem_map.1 h1
    exact List.mem_of_getElem? h2
  have hp : (R'.map some).Pairwise (fun a b => ∀ A B, a = some A → b = some B → Dis A B) := by
    rw [← he]
    exact List.pairwise_map.2 (hd.imp (fun {i j} hij A B ha hb => h.get_ne ha hb hij))
  exact ⟨h.g, ⟨fun A hA => h.s.1 A (hm A hA), (List.pairwise_map.1 hp).imp (fun {A B} hab => hab A B rfl rfl)⟩, fun A hA => h.n A (hm A hA)⟩
/-- What a callee has laid beside what the caller held. -/
theorem SW.both {w w0 w1 : World} {R R2 : List Asn} (h : SW w R w0) (h2 : SW w0 R2 w1) : SW w (R2 ++ R) w1 := by
  have hr := h.s.gr h2.g
  refine ⟨h.g.trans h2.g, ⟨fun A hA => (List.mem_append.1 hA).elim (h2.s.1 A) (hr.1 A), List.pairwise_append.2 ⟨h2.s.2, h.s.2, fun A hA B hB k ka kb => ?_⟩⟩, fun A hA k hk => (List.mem_append.1 hA).elim (fun e => Nat.le_trans h.g.sz (h2.n A e k hk)) (fun e => h.n A e k hk)⟩
  have h3 := h2.n A hA k ka
  have h4 := h.s.lt hB k kb
  omega
/-- A block that lies apart from all of them. -/
theorem SW.addD {w0 W : World} {R : List Asn} {D : Nat} {o : Obj} (h : SW w0 R W) (hd : W.heap[D]? = some o) (hn : ∀ B ∈ R, ∀ k, B.S k → k ≠ D) (h0 : w0.heap.size ≤ D) : SW w0 (blkA D o :: R) W :=
  ⟨h.g, ⟨fun A hA => (List.mem_cons.1 hA).elim (fun e => by rw [e]; exact hd) (h.s.1 A), List.pairwise_cons.2 ⟨fun B hB k ka kb => hn B hB k kb ka, h.s.2⟩⟩, fun A hA k hk => (List.mem_cons.1 hA).elim (fun e => by rw [e] at hk; rw [show k = D from hk]; exact h0) (fun e => h.n A e k hk)⟩
end Go.Proofs.Ytmdfickejpeofaa

/- drumlinref05.Check and the small functions of drumlinref21: the walks. -/
set_option linter.unusedVariables false
set_option linter.unusedSimpArgs false
namespace Go.Proofs.Ytmdfickejpeofaa
open Go.RowKit Go.Shelf
attribute [local go_sem] OvM cell_ovm obj_ovm

theorem keyC_mem (c : UInt8) : keyC c = decide (c ∈ lettersL) := by
  have h : ∀ n : Fin 256, keyC (UInt8.ofNat n.val) = decide (UInt8.ofNat n.val ∈ lettersL) := by decide +kernel
  have := h ⟨c.toNat, c.toNat_lt⟩
  simpa using this
set_option maxRecDepth 40000 in
theorem letters5 (w : World) : Calls Try.prog 188 #[] w fun e w' => e = .returned (.string ⟨lettersL.toArray⟩) ∧ w = w' := by
  go_enter Try.func188, Try.ntmps188
  go_wp2
  go_ret
  exact ⟨rfl, rfl⟩
set_option maxRecDepth 40000 in
set_option maxHeartbeats 4000000 in
theorem place5 (c : UInt8) (w : World) : Calls Try.prog 178 #[.int .u8 c.toNat] w fun e w' => ∃ r : Int, e = .returned (.int .i64 r) ∧ decide (r < 0) = !keyC c ∧ w = w' := by
  obtain ⟨sB, hsB⟩ : ∃ s : ByteArray, s = ⟨lettersL.toArray⟩ := ⟨_, rfl⟩
  have HL : Hid (∀ w, Calls Try.prog 188 #[] w fun e w' => e = .returned (.string sB) ∧ w = w') := Lib.hid (fun w => by rw [hsB]; exact letters5 w)
  have hz : sB.size = 39 := by rw [hsB]; rfl
  go_enter Try.func178, Try.ntmps178
  go_wp2_with fail
  go_loopw [3] (fun t3 wx => ∃ i : Nat, i ≤ 39 ∧ t3 = .int .i64 i ∧ (∀ j, j < i → lettersL[j]? ≠ some c) ∧ w = wx) (fun t3 _ => 39 - (intOf t3).toNat)
  case atStart => exact ⟨0, by omega, rfl, fun j hj => by omega, rfl⟩
  case round =>
    obtain ⟨i, hi, rfl, hj, rfl⟩ := hrel
    go_wp2_with (go_at_call 188; refine (HL.out _).mono ?_; rintro e w1 ⟨rfl, rfl⟩)
    · rename_i h1 _ _ h2
      have h3 : ((lettersL[i]'h1).toNat : Int) = c.toNat := beq_iff_eq.1 h2
      have h4 : lettersL[i]'h1 = c := UInt8.toNat_inj.1 (by omega)
      go_ret
      have hk : keyC c = true := by rw [keyC_mem, ← h4]; exact decide_eq_true (List.getElem_mem h1)
      exact ⟨i, rfl, by rw [hk]; exact decide_eq_false (by omega), rfl⟩
    · rename_i h1 h2
      have h1' : i < 39 := h1
      refine ⟨⟨i + 1, by omega, by simp, fun j hji hc => ?_, trivial⟩, by simp [intOf]; omega⟩
      by_cases hji' : j < i
      · exact hj j hji' hc
      · obtain rfl : j = i := by omega
        rw [List.getElem?_eq_getElem h1] at hc
        have h4 := Option.some.inj hc
        exact beq_eq_false_iff_ne.1 h2 (by show ((lettersL[j]'h1).toNat : Int) = c.toNat; rw [h4])
    · rename_i h1
      have h1' : ¬ i < 39 := h1
      go_ret
      refine ⟨-1, rfl, ?_, rfl⟩
      have hk : keyC c = false := by
        rw [keyC_mem]
        refine decide_eq_false (fun hm => ?_)
        obtain ⟨j, hj1, hj2⟩ := List.mem_iff_getElem.1 hm
        have hj3 : j < 39 := hj1
        exact hj j (by omega) (by rw [List.getElem?_eq_getElem hj1, hj2])
      rw [hk]
      rfl
end Go.Proofs.Ytmdfickejpeofaa

/- drumlinref21's index in plain Lean: what Add says is what the program's index says. No walk. -/
set_option linter.unusedVariables false
set_option linter.unusedSimpArgs false
namespace Go.Proofs.Ytmdfickejpeofaa

def rBad (e o : En) : Bool := decide (o.seq = e.seq ∧ o.key = e.key ∧ (o.del ≠ e.del ∨ o.size ≠ e.size))
def rHav (e o : En) : Bool := decide (o.slot = e.slot ∧ ((o.seq = e.seq ∧ o.key = e.key) ∨ (o.off < e.off + e.size ∧ e.off < o.off + o.size)))
/-- What Add says of an index with these entries. -/
def rAddC (N : Int) (all : List En) (e : En) : Int := if e.slot < 0 ∨ N ≤ e.slot then 3 else if validE e = false then 2 else if all.any (rBad e) = true then 2 else if all.any (rHav e) = true then 6 else 0
def rAddL (N : Int) (all : List En) (e : En) : List En := if rAddC N all e = 0 then all ++ [e] else all
section
variable {X : IX} {all : List En} {e : En} {N : Int}
theorem clash_iff {i : Int} {s : List En} (hs : SlotOk i s) (he : 0 < e.size) : clash s e = true ↔ ∃ o ∈ s, o.off < e.off + e.size ∧ e.off < o.off + o.size := by
  constructor
  · intro h
    refine Classical.byContradiction (fun hn => ?_)
    have hno : ∀ o ∈ s, ¬ (o.off < e.off + e.size ∧ e.off < o.off + o.size) := fun o ho hh => hn ⟨o, ho, hh⟩
    have hz : ∀ o ∈ s, 16 ≤ o.size := fun o ho => by have := (valid_iff o).1 (hs.e o ho).2; omega
    unfold clash at h
    rw [Bool.or_eq_true] at h
    rcases h with h | h
    · cases hg : s[cnt (offP e.off) s]? with
      | none => rw [hg] at h; cases h
      | some o =>
        rw [hg] at h
        have h1 := cnt_at _ _ o hg
        have hm := List.mem_of_getElem? hg
        have h2 := hno o hm
        have h3 := hz o hm
        simp only [offP, decide_eq_false_iff_not] at h1
        simp only [Bool.or_eq_true, decide_eq_true_eq] at h
        omega
    · rw [Bool.and_eq_true] at h
      obtain ⟨h0, h⟩ := h
      have h0 := of_decide_eq_true h0
      cases hg : s[cnt (offP e.off) s - 1]? with
      | none => rw [hg] at h; cases h
      | some o =>
        rw [hg] at h
        have h1 := cnt_lo _ _ _ o (show cnt (offP e.off) s - 1 < cnt (offP e.off) s by omega) hg
        have hm := List.mem_of_getElem? hg
        have h2 := hno o hm
        simp only [offP, decide_eq_true_eq] at h1
        simp only [decide_eq_true_eq] at h
        omega
  · rintro ⟨o, ho, h1, h2⟩
    cases hc : clash s e with
    | true => rfl
    | false =>
      have h3 := clash_lo hs hc o ho
      have h4 := clash_hi hs hc o ho
      unfold offP at h3 h4
      by_cases h5 : o.off < e.off
      · have := h3 (decide_eq_true h5); omega
      · have := h4 (decide_eq_false h5); omega
theorem rAddC_eq (h : X.Wf) (hl : (X.slots.length : Int) = N) (hN : 1 ≤ N) (hp : all.Perm X.ents) (e : En) : rAddC N all e = addE X e := by
  have hne : X.slots ≠ [] := fun h0 => by rw [h0] at hl; simp at hl; omega
  unfold rAddC addE
  rw [if_neg hne]
  by_cases h1 : e.slot < 0 ∨ N ≤ e.slot
  · rw [if_pos h1, if_pos (by unfold IX.has; exact decide_eq_false (by omega))]
  · have hh : X.has e.slot = true := by unfold IX.has; exact decide_eq_true (by omega)
    rw [if_neg h1, if_neg (show ¬ X.has e.slot = false by rw [hh]; decide)]
    cases hv : validE e with
    | false => rw [if_pos rfl, if_pos rfl]
    | true =>
      have hz : 0 < e.size := by have := (valid_iff e).1 hv; omega
      rw [if_neg (show ¬ true = false by decide), if_neg (show ¬ true = false by decide)]
      have e1 : all.any (rBad e) = (X.of e.key).any (badE e) := by
        rw [Bool.eq_iff_iff, List.any_eq_true, List.any_eq_true]
        unfold rBad badE
        constructor
        · rintro ⟨o, ho, h2⟩
          obtain ⟨h3, h4, h5⟩ := of_decide_eq_true h2
          refine ⟨o, (h.of_mem _ _).2 ⟨(hp.mem_iff).1 ho, h4⟩, decide_eq_true ⟨h3, fun h6 => ?_⟩⟩
          have := congrArg En.del h6
          have := congrArg En.size h6
          simp only at *
          rcases h5 with h5 | h5 <;> exact h5 (by assumption)
        · rintro ⟨o, ho, h2⟩
          obtain ⟨h3, h5⟩ := of_decide_eq_true h2
          obtain ⟨h6, h4⟩ := (h.of_mem _ _).1 ho
          refine ⟨o, (hp.mem_iff).2 h6, decide_eq_true ⟨h3, h4, ?_⟩⟩
          by_cases h7 : o.del = e.del
          · by_cases h8 : o.size = e.size
            · exact absurd (show ({ o with slot := e.slot, off := e.off } : En) = e from En.ext' h3 h4 h7 rfl rfl h8) h5
            · exact .inr h8
          · exact .inl h7
      have e2 : all.any (rHav e) = ((X.of e.key).any (sameE e) || clash (X.slot e.slot) e) := by
        rw [Bool.eq_iff_iff, Bool.or_eq_true, List.any_eq_true, List.any_eq_true, clash_iff (h.slotOk e.slot) hz]
        unfold rHav sameE
        constructor
        · rintro ⟨o, ho, h2⟩
          obtain ⟨h3, h4⟩ := of_decide_eq_true h2
          rcases h4 with ⟨h4, h5⟩ | h4
          · exact .inl ⟨o, (h.of_mem _ _).2 ⟨(hp.mem_iff).1 ho, h5⟩, decide_eq_true ⟨h4, h3⟩⟩
          · exact .inr ⟨o, (h.slot_mem _ _).2 ⟨(hp.mem_iff).1 ho, h3⟩, h4⟩
        · rintro (⟨o, ho, h2⟩ | ⟨o, ho, h2⟩)
          · obtain ⟨h3, h4⟩ := of_decide_eq_true h2
            obtain ⟨h6, h5⟩ := (h.of_mem _ _).1 ho
            exact ⟨o, (hp.mem_iff).2 h6, decide_eq_true ⟨h4, .inl ⟨h3, h5⟩⟩⟩
          · obtain ⟨h6, h5⟩ := (h.slot_mem _ _).1 ho
            exact ⟨o, (hp.mem_iff).2 h6, decide_eq_true ⟨h5, .inr h2⟩⟩
      rw [e1, e2]
end
/-- Where the loop of Add stands behind some entries. -/
theorem rany_snoc {p : En → Bool} {l : List En} {i : Nat} {o : En} (h : l[i]? = some o) : (l.take (i + 1)).any p = ((l.take i).any p || p o) := by
  rw [List.take_add_one, h, List.any_append]
  simp
theorem rany_take {p : En → Bool} {l : List En} {i : Nat} (h : (l.take i).any p = true) : l.any p = true := by
  obtain ⟨o, ho, hp⟩ := List.any_eq_true.1 h
  exact List.any_eq_true.2 ⟨o, List.mem_of_mem_take ho, hp⟩
end Go.Proofs.Ytmdfickejpeofaa

/- An append of however many elements to a row of the call's own; what a slice of a row is made of. No program in sight. -/
set_option linter.unusedVariables false
set_option linter.unusedSimpArgs false
namespace Go.Proofs.Ytmdfickejpeofaa
open Go.RowKit

/-- What is appended: m elements; they lie at xa, where there are any. -/
def SrcAt (w : World) (size : Nat) (xa : Option Addr) (m : Nat) (news : List Value) : Prop :=
  news.length = m * size ∧ (∀ u ∈ news, u.oneCell' = true) ∧ (m = 0 ∨ ∃ ad, xa = some ad ∧ ∀ j u, news[j]? = some u → w.cell? (ad.add j) = some u)
/-- What an append leaves. -/
def AppV (w : World) (e : TypeId) (size : Nat) (v : Value) (n : Nat) (xs : List Value) (v' : Value) (w' : World) : Prop :=
  Own w' e size v' n xs ∧ (∀ g, v'.ownBlock = some g → v.ownBlock = some g ∨ w.heap.size ≤ g) ∧ w.grownBy w' v.ownBlock
theorem addr_add (b o j : Nat) : (⟨b, o, none⟩ : Addr).add j = ⟨b, o + j, none⟩ := by unfold Addr.add; split <;> simp_all
theorem keepAdd {w w' : World} {S : Nat → Prop} (m : Mdh S w w') {b o j : Nat} {u : Value} (h : w.cell? ((⟨b, o, none⟩ : Addr).add j) = some u) (hs : ¬ S b) : w'.cell? ((⟨b, o, none⟩ : Addr).add j) = some u := by
  rw [addr_add] at h ⊢
  exact m.keep h hs
theorem SrcAt.gr {w w' : World} {K m : Nat} {xa : Option Addr} {news : List Value} (h : SrcAt w K xa m news) (g : Gr w w') : SrcAt w' K xa m news :=
  ⟨h.1, h.2.1, h.2.2.imp id (fun ⟨ad, e, hc⟩ => ⟨ad, e, fun j u hj => (World.cell?_of_block (Below.block g _ (World.block_lt_of_cell? w _ (hc j u hj)))).trans (hc j u hj)⟩)⟩
theorem SrcAt.mdh {w w' : World} {S : Nat → Prop} {K m : Nat} {xa : Option Addr} {news : List Value} (h : SrcAt w K xa m news) (g : Mdh S w w') (hs : ∀ ad, xa = some ad → ¬ S ad.block) : SrcAt w' K xa m news :=
  ⟨h.1, h.2.1, h.2.2.imp id (fun ⟨ad, e, hc⟩ => ⟨ad, e, fun j u hj => by
    have h0 : (ad.add j).block = ad.block := by unfold Addr.add; split <;> rfl
    have h1 := World.block_lt_of_cell? w _ (hc j u hj)
    exact (World.cell?_of_block (g.blocks _ h1 (by rw [h0]; exact hs ad e))).trans (hc j u hj)⟩)⟩
/-- A whole row, as a source. -/
theorem src_all {w : World} {e : TypeId} {K n cap : Nat} {a : Option Addr} {xs : List Value} (h : Own w e K (.slice a n cap) n xs) (h1 : ∀ u ∈ xs, u.oneCell' = true) : SrcAt w K a n xs := by
  refine ⟨h.1, h1, ?_⟩
  rcases h.2 with ⟨_, h0⟩ | ⟨g, cap', cur, hv, _⟩
  · exact .inl h0
  · simp only [Value.slice.injEq] at hv
    obtain ⟨rfl, _, _⟩ := hv
    exact .inr ⟨_, rfl, h.cells rfl⟩
/-- Its first elements. -/
theorem src_take {w : World} {e : TypeId} {K n cap i : Nat} {a : Option Addr} {xs : List Value} (h : Own w e K (.slice a n cap) n xs) (h1 : ∀ u ∈ xs, u.oneCell' = true) (hi : i ≤ n) : SrcAt w K a i (xs.take (i * K)) := by
  have hl := h.1
  have hm := Nat.mul_le_mul_right K hi
  refine ⟨by rw [List.length_take]; omega, fun u hu => h1 u (List.mem_of_mem_take hu), ?_⟩
  rcases (src_all h h1).2.2 with h0 | ⟨ad, rfl, hc⟩
  · exact .inl (by omega)
  · exact .inr ⟨ad, rfl, fun j u hj => hc j u (by
      rw [List.getElem?_take] at hj
      split at hj
      · exact hj
      · cases hj)⟩
/-- Its last ones. -/
theorem src_drop {w : World} {e : TypeId} {K n cap i : Nat} {a : Option Addr} {xs : List Value} (h : Own w e K (.slice a n cap) n xs) (h1 : ∀ u ∈ xs, u.oneCell' = true) (hi : i ≤ n) (xa : Option Addr) (hxa : ∀ g, a = some ⟨g, 0, none⟩ → i < n → xa = some ⟨g, i * K, none⟩) : SrcAt w K xa (n - i) (xs.drop (i * K)) := by
  have hl := h.1
  refine ⟨by rw [List.length_drop, hl, Nat.sub_mul], fun u hu => h1 u (List.mem_of_mem_drop hu), ?_⟩
  by_cases e0 : i = n
  · exact .inl (by omega)
  · rcases h.2 with ⟨_, h0⟩ | ⟨g, cap', cur, hv, _⟩
    · omega
    · simp only [Value.slice.injEq] at hv
      obtain ⟨rfl, _, _⟩ := hv
      refine .inr ⟨_, hxa g rfl (by omega), fun j u hj => ?_⟩
      rw [List.getElem?_drop] at hj
      have := h.cells (g := g) rfl _ u hj
      rw [addr_add] at this ⊢
      rwa [Nat.zero_add] at this
section
variable {P : Program} (w : World)
theorem run_app_none (t ty e : TypeId) (i : TypeInfo) (size : Nat) (ht : P.underlying t = some (.slice e)) (hi : P.info? e = some i) (_hsize : i.size = size)
    (v : Value) (n : Nat) (xs : List Value) (hown : Own w e size v n xs) (xa : Option Addr) (c : Nat) : (Builtin.append_ #[t, t] ty #[v, .slice xa 0 c]).run P w = .ok v w := by
  rcases hown.2 with ⟨rfl, rfl⟩ | ⟨g, cap, cur, rfl, _, _, hnc, _⟩
  · cases xa <;> simp [Builtin.append_, run_underlying ht, sizeOf, typeInfo, hi, Builtin.firstCells, Builtin.lenOf, loadCells, loadCellsFrom]
  · cases xa <;> simp [Builtin.append_, run_underlying ht, sizeOf, typeInfo, hi, Builtin.firstCells, Builtin.lenOf, storeCells, loadCells, loadCellsFrom, hnc]
theorem run_appv (t ty e : TypeId) (i : TypeInfo) (z : Value) (size bytes : Nat) (ht : P.underlying t = some (.slice e)) (hi : P.info? e = some i) (hz : i.zero = some z)
    (hsize : i.size = size) (hby : i.bytes = bytes) (hzs : z.cells.size = size) (hsz : 0 < size)
    (v : Value) (n : Nat) (xs : List Value) (hown : Own w e size v n xs) (xa : Option Addr) (m c : Nat) (news : List Value) (hsrc : SrcAt w size xa m news) (h63 : n + m ≤ maxLen) (hbytes : (n + m) * bytes ≤ 140737488355328) :
    ∃ v' w', (Builtin.append_ #[t, t] ty #[v, .slice xa m c]).run P w = .ok v' w' ∧ AppV w e size v (n + m) (xs ++ news) v' w' := by
  obtain ⟨hl, h1, hs⟩ := hsrc
  by_cases hm : m = 0
  · subst hm
    obtain rfl : news = [] := List.eq_nil_of_length_eq_zero (by omega)
    exact ⟨v, w, run_app_none w t ty e i size ht hi hsize v n xs hown xa c, by simpa using hown, fun g hg => .inl hg, ⟨rfl, rfl, rfl, Nat.le_refl _, fun _ _ _ => rfl⟩⟩
  · obtain ⟨ad, rfl, hc⟩ := hs.resolve_left hm
    obtain ⟨g, cap, w', hr, h2, h3, h4⟩ := run_app w t ty e i z size bytes ht hi hz hsize hby hzs hsz v n xs hown ad m c news hl hc h1 (by omega) h63 hbytes
    exact ⟨_, w', hr, h2, fun k hk => (by simpa [Value.ownBlock] using hk : g = k) ▸ h3, h4⟩
theorem wp_appv {o : Oper} {a : Act} {K : Act → World → Prop} {Q : Exit → Act → World → Prop} (s x : Operand) (t : TypeId)
    (ho : o.op = .call { callee := .builtin .append, args := #[s, x], argTypes := #[t, t] })
    (e : TypeId) (i : TypeInfo) (z : Value) (size bytes : Nat) (ht : P.underlying t = some (.slice e)) (hi : P.info? e = some i) (hz : i.zero = some z)
    (hsize : i.size = size) (hby : i.bytes = bytes) (hzs : z.cells.size = size) (hsz : 0 < size)
    (v : Value) (n : Nat) (xs : List Value) (hs : a.eval s = v) (hown : Own w e size v n xs)
    (xa : Option Addr) (m c : Nat) (news : List Value) (hx : a.eval x = .slice xa m c) (hsrc : SrcAt w size xa m news) (h63 : n + m ≤ maxLen) (hbytes : (n + m) * bytes ≤ 140737488355328)
    (h : ∀ v' w', AppV w e size v (n + m) (xs ++ news) v' w' → K (a.put o.dst v') w') : o.wp P a w K Q := by
  obtain ⟨v', w', hr, h2⟩ := run_appv (P := P) w t o.type e i z size bytes ht hi hz hsize hby hzs hsz v n xs hown xa m c news hsrc h63 hbytes
  unfold Oper.wp execOp
  simp only [ho, resolve, invoke, builtin, Sem.run_bind, Sem.run_pure, Result.andThen_ok, List.map_toArray, List.map_cons, List.map_nil, hs, hx, hr]
  exact h v' w' h2
theorem wpList_appv {ops : Array Oper} {rest : List Oper} {o : Oper} {a : Act} {Q : Exit → Act → World → Prop} (hgd : o.guard = none) (s x : Operand) (t : TypeId)
    (ho : o.op = .call { callee := .builtin .append, args := #[s, x], argTypes := #[t, t] })
    (e : TypeId) (i : TypeInfo) (z : Value) (size bytes : Nat) (ht : P.underlying t = some (.slice e)) (hi : P.info? e = some i) (hz : i.zero = some z)
    (hsize : i.size = size) (hby : i.bytes = bytes) (hzs : z.cells.size = size) (hsz : 0 < size)
    (v : Value) (n : Nat) (xs : List Value) (hs : a.eval s = v) (hown : Own w e size v n xs)
    (xa : Option Addr) (m c : Nat) (news : List Value) (hx : a.eval x = .slice xa m c) (hsrc : SrcAt w size xa m news) (h63 : n + m ≤ maxLen) (hbytes : (n + m) * bytes ≤ 140737488355328)
    (h : ∀ v' w', AppV w e size v (n + m) (xs ++ news) v' w' → wpList P ops Q rest (a.put o.dst v') w') : wpList P ops Q (o :: rest) a w :=
  wpList_plain hgd fun _ hK => wp_appv w s x t ho e i z size bytes ht hi hz hsize hby hzs hsz v n xs hs hown xa m c news hx hsrc h63 hbytes fun v' w' h2 => hK _ _ (h v' w' h2)
theorem wpIn_appv {F : Fence} {f : Nat} {o : Oper} {a : Act} {K : Act → World → Prop} {Q : Exit → Act → World → Prop} (s x : Operand) (t : TypeId)
    (ho : o.op = .call { callee := .builtin .append, args := #[s, x], argTypes := #[t, t] })
    (e : TypeId) (i : TypeInfo) (z : Value) (size bytes : Nat) (ht : P.underlying t = some (.slice e)) (hi : P.info? e = some i) (hz : i.zero = some z)
    (hsize : i.size = size) (hby : i.bytes = bytes) (hzs : z.cells.size = size) (hsz : 0 < size)
    (v : Value) (n : Nat) (xs : List Value) (hs : a.eval s = v) (hown : Own w e size v n xs)
    (xa : Option Addr) (m c : Nat) (news : List Value) (hx : a.eval x = .slice xa m c) (hsrc : SrcAt w size xa m news) (h63 : n + m ≤ maxLen) (hbytes : (n + m) * bytes ≤ 140737488355328)
    (h : ∀ v' w', AppV w e size v (n + m) (xs ++ news) v' w' → K (a.put o.dst v') w') : o.wpIn F f P a w K Q := by
  obtain ⟨v', w', hr, h2⟩ := run_appv (P := P) w t o.type e i z size bytes ht hi hz hsize hby hzs hsz v n xs hown xa m c news hsrc h63 hbytes
  unfold Oper.wpIn
  refine ⟨?_, ?_⟩
  · simp [Oper.about, ho, resolve, Target.leads, Sem.run_pure]
  · rw [Oper.semAt_plain F _ _ (by rw [ho]; intro c hc'; cases hc')]
    simp only [execOp, ho, resolve, invoke, builtin, Sem.run_bind, Sem.run_pure, Result.andThen_ok, List.map_toArray, List.map_cons, List.map_nil, hs, hx, hr]
    exact h v' w' h2
theorem wpListIn_appv {F : Fence} {f : Nat} {ops : Array Oper} {rest : List Oper} {o : Oper} {a : Act} {Q : Exit → Act → World → Prop} (hgd : o.guard = none) (s x : Operand) (t : TypeId)
    (ho : o.op = .call { callee := .builtin .append, args := #[s, x], argTypes := #[t, t] })
    (e : TypeId) (i : TypeInfo) (z : Value) (size bytes : Nat) (ht : P.underlying t = some (.slice e)) (hi : P.info? e = some i) (hz : i.zero = some z)
    (hsize : i.size = size) (hby : i.bytes = bytes) (hzs : z.cells.size = size) (hsz : 0 < size)
    (v : Value) (n : Nat) (xs : List Value) (hs : a.eval s = v) (hown : Own w e size v n xs)
    (xa : Option Addr) (m c : Nat) (news : List Value) (hx : a.eval x = .slice xa m c) (hsrc : SrcAt w size xa m news) (h63 : n + m ≤ maxLen) (hbytes : (n + m) * bytes ≤ 140737488355328)
    (h : ∀ v' w', AppV w e size v (n + m) (xs ++ news) v' w' → wpListIn F f P ops Q rest (a.put o.dst v') w') : wpListIn F f P ops Q (o :: rest) a w :=
  wpListIn_plain hgd fun _ hK => wpIn_appv w s x t ho e i z size bytes ht hi hz hsize hby hzs hsz v n xs hs hown xa m c news hx hsrc h63 hbytes fun v' w' h2 => hK _ _ (h v' w' h2)
end
/-- Slices of a row of the call's own, whatever its value looks like. -/
theorem slice_take {P : Program} {w : World} {t e : TypeId} {i0 : TypeInfo} (ht : P.underlying t = some (.slice e)) (hi : P.info? e = some i0) {K : Nat} (hs : i0.size = K) {v : Value} {n : Nat} {xs : List Value} (h : Own w e K v n xs) (h1 : ∀ u ∈ xs, u.oneCell' = true) {i : Nat} (hin : i ≤ n) :
    ∃ xa c, (∀ w', (Instr.slice t v none (some (.int .i64 (i : Int))) none).run P w' = .ok (.slice xa i c) w') ∧ SrcAt w K xa i (xs.take (i * K)) ∧ ∀ ad, xa = some ad → v.ownBlock = some ad.block := by
  have he : P.elem t = e := by simp [Program.elem, ht]
  have ht' : P.underlying t = some (.slice (P.elem t)) := by rw [he]; exact ht
  have hz : ∀ w', (sizeOf (P.elem t)).run P w' = .ok K w' := fun w' => by rw [he]; simp [sizeOf, typeInfo, hi, hs]
  rcases h.2 with ⟨rfl, h0⟩ | ⟨g, cap, cur, rfl, _, _, hnc, _⟩
  · obtain rfl : i = 0 := by omega
    refine ⟨none, 0, fun w' => ?_, by simpa using (show SrcAt w K none 0 [] from ⟨by simp, by simp, .inl rfl⟩), fun ad e => by cases e⟩
    rw [run_slice_h w' t none 0 0 ht' .i64 _ (by omega) (by simp), hz]
    simp [Result.andThen, sliced]
  · refine ⟨some ⟨g, 0, none⟩, cap, fun w' => ?_, src_take h h1 hin, fun ad e => by obtain rfl := Option.some.inj e; rfl⟩
    rw [run_slice_h w' t _ n cap ht' .i64 _ (by omega) (by omega), hz]
    simp [Result.andThen, sliced, addr_add]
theorem slice_drop {P : Program} {w : World} {t e : TypeId} {i0 : TypeInfo} (ht : P.underlying t = some (.slice e)) (hi : P.info? e = some i0) {K : Nat} (hs : i0.size = K) {v : Value} {n : Nat} {xs : List Value} (h : Own w e K v n xs) (h1 : ∀ u ∈ xs, u.oneCell' = true) {i : Nat} (hin : i ≤ n) :
    ∃ xa c, (∀ w', (Instr.slice t v (some (.int .i64 (i : Int))) none none).run P w' = .ok (.slice xa (n - i) c) w') ∧ SrcAt w K xa (n - i) (xs.drop (i * K)) ∧ ∀ ad, xa = some ad → v.ownBlock = some ad.block := by
  have he : P.elem t = e := by simp [Program.elem, ht]
  have ht' : P.underlying t = some (.slice (P.elem t)) := by rw [he]; exact ht
  have hz : ∀ w', (sizeOf (P.elem t)).run P w' = .ok K w' := fun w' => by rw [he]; simp [sizeOf, typeInfo, hi, hs]
  rcases h.2 with ⟨rfl, h0⟩ | ⟨g, cap, cur, rfl, _, _, hnc, _⟩
  · obtain rfl : i = 0 := by omega
    have hx : xs = [] := List.eq_nil_of_length_eq_zero (by rw [h.1, h0]; simp)
    refine ⟨none, 0, fun w' => ?_, by subst h0 hx; simpa using (show SrcAt w K none 0 [] from ⟨by simp, by simp, .inl rfl⟩), fun ad e => by cases e⟩
    subst h0
    rw [run_slice_l w' t none 0 0 ht' .i64 _ (by omega) (by simp), hz]
    simp [Result.andThen, sliced]
  · refine ⟨if cap = i then some ⟨g, 0, none⟩ else some ⟨g, i * K, none⟩, cap - i, fun w' => ?_, src_drop h h1 hin _ (fun g' hg' hlt => ?_), fun ad e => ?_⟩
    · rw [run_slice_l w' t _ n cap ht' .i64 _ (by omega) (by omega), hz]
      simp [Result.andThen, sliced, addr_add]
    · obtain rfl : g = g' := by simpa using hg'
      rw [if_neg (by omega)]
    · split at e <;> (obtain rfl := Option.some.inj e; rfl)
theorem src_new (w : World) (x : Value) (t : TypeId) (hx : x.oneCell' = true) : SrcAt (w.alloc (.cells #[x] t)) 1 (some ⟨w.heap.size, 0, none⟩) 1 [x] := by
  refine ⟨rfl, fun u hu => by obtain rfl := List.mem_singleton.1 hu; exact hx, .inr ⟨_, rfl, fun j u hj => ?_⟩⟩
  match j with
  | 0 => simp at hj; subst hj; simp [go_sem, Addr.add]
  | j + 1 => simp at hj
theorem src_newK (w : World) (cs : List Value) (t : TypeId) (K : Nat) (hK : cs.length = K) (hx : ∀ u ∈ cs, u.oneCell' = true) : SrcAt (w.alloc (.cells cs.toArray t)) K (some ⟨w.heap.size, 0, none⟩) 1 cs := by
  refine ⟨by omega, hx, .inr ⟨_, rfl, fun j u hj => ?_⟩⟩
  rw [addr_add, Nat.zero_add, (cellsOf (blkNew w (.cells cs.toArray t))).1 j]
  simpa using hj
theorem own_ne {w : World} {e t : TypeId} {K n b : Nat} {v : Value} {xs : List Value} {cs : Array Value} (h : Own w e K v n xs) (hb : w.heap[b]? = some (.cells cs t)) (hte : t ≠ e) : v.ownBlock ≠ some b := by
  rcases h.2 with ⟨rfl, _⟩ | ⟨g, cap, cur, rfl, _, hg, _⟩
  · intro h; cases h
  · intro h
    obtain rfl : g = b := by simpa [Value.ownBlock] using h
    rw [hg] at hb
    simp only [Option.some.injEq, Obj.cells.injEq] at hb
    exact hte hb.2.1.symm
theorem own_ne2 {w : World} {e e' : TypeId} {K K' n n' : Nat} {v v' : Value} {xs xs' : List Value} (h : Own w e K v n xs) (h' : Own w e' K' v' n' xs') (hte : e ≠ e') : ∀ g, v.ownBlock = some g → v'.ownBlock ≠ some g := by
  intro g hg
  rcases h.2 with ⟨rfl, _⟩ | ⟨g1, cap, cur, rfl, _, hc, _⟩
  · cases hg
  · obtain rfl : g1 = g := Option.some.inj hg
    exact own_ne h' hc hte
theorem own_blk {w : World} {e : TypeId} {K n g : Nat} {v : Value} {xs : List Value} (h : Own w e K v n xs) (hg : v.ownBlock = some g) : ∃ cs, w.heap[g]? = some (.cells cs e) := by
  rcases h.2 with ⟨rfl, _⟩ | ⟨g1, cap, cur, rfl, _, hc, _⟩
  · cases hg
  · obtain rfl : g1 = g := Option.some.inj hg
    exact ⟨cur, hc⟩
theorem ownB {b n c q : Nat} (h : Value.ownBlock (.slice (some ⟨b, 0, none⟩) n c) = some q) : q = b := (Option.some.inj h).symm
/-- A row whose block is new since w0. -/
structure Nw (w0 w : World) (e : TypeId) (K : Nat) (v : Value) (n : Nat) (xs : List Value) : Prop where
  own : Own w e K v n xs
  new : ∀ q, v.ownBlock = some q → w0.heap.size ≤ q
theorem Nw.gr {w0 w w' : World} {e : TypeId} {K n : Nat} {v : Value} {xs : List Value} (h : Nw w0 w e K v n xs) (g : Gr w w') : Nw w0 w' e K v n xs := ⟨h.own.gr g, h.new⟩
theorem Nw.mdh {S : Nat → Prop} {w0 w w' : World} {e : TypeId} {K n : Nat} {v : Value} {xs : List Value} (h : Nw w0 w e K v n xs) (m : Mdh S w w') (hs : ∀ q, v.ownBlock = some q → ¬ S q) : Nw w0 w' e K v n xs := ⟨h.own.mdh m hs, h.new⟩
theorem Nw.made {w0 w : World} {e : TypeId} {K : Nat} (hz : w0.heap.size ≤ w.heap.size) : Nw w0 (w.alloc (.cells #[] e)) e K (.slice (some ⟨w.heap.size, 0, none⟩) 0 0) 0 [] :=
  ⟨Own.ofParts (blkNew w _) (Nat.le_refl _) (by simp [maxLen]) (by simp) (by simp), fun q hq => (by simpa [Value.ownBlock] using hq : w.heap.size = q) ▸ hz⟩
/-- What an append to such a row leaves. -/
theorem AppV.nw {w0 w w' : World} {e : TypeId} {K n m : Nat} {v v' : Value} {xs ys : List Value} (h : AppV w e K v n xs v' w') (hv : Nw w0 w e K v m ys) (hz : w0.heap.size ≤ w.heap.size) : Nw w0 w' e K v' n xs :=
  ⟨h.1, fun q hq => (h.2.1 q hq).elim (hv.new q) (Nat.le_trans hz)⟩
theorem AppV.gw {w0 w w' : World} {e : TypeId} {K n m : Nat} {v v' : Value} {xs ys : List Value} (h : AppV w e K v n xs v' w') (hv : Nw w0 w e K v m ys) (g : Gr w0 w) : Gr w0 w' :=
  g.md ((Mdh.refl _ w).grown h.2.2 (fun _ hr => hr)) hv.new
theorem AppV.mw {S : Nat → Prop} {w0 w w' : World} {e : TypeId} {K n m : Nat} {v v' : Value} {xs ys : List Value} (h : AppV w e K v n xs v' w') (hv : Nw w0 w e K v m ys) (g : Mdh S w0 w) : Mdh S w0 w' :=
  g.then ((Mdh.refl _ w).grown h.2.2 (fun _ hr => hr)) (fun q hq => .inr (hv.new q hq))
theorem AppV.val {w w' : World} {e : TypeId} {K n : Nat} {v v' : Value} {xs : List Value} (h : AppV w e K v n xs v' w') : ∃ a c, v' = .slice a n c := by
  rcases h.1.2 with ⟨rfl, rfl⟩ | ⟨g, cap, cur, rfl, _⟩
  · exact ⟨none, 0, rfl⟩
  · exact ⟨_, cap, rfl⟩
theorem AppV.mdh {w w' : World} {e : TypeId} {size n : Nat} {v v' : Value} {xs : List Value} (h : AppV w e size v n xs v' w') {S : Nat → Prop} (hS : ∀ g, v.ownBlock = some g → S g) : Mdh S w w' :=
  (Mdh.refl _ w).grown h.2.2 hS
end Go.Proofs.Ytmdfickejpeofaa

/- drumlinref21's index: the walks of New, Slots, Valid. -/
set_option linter.unusedVariables false
set_option linter.unusedSimpArgs false
namespace Go.Proofs.Ytmdfickejpeofaa
open Go.RowKit Go.Shelf
attribute [local go_sem] OvM cell_ovm obj_ovm
attribute [local go_sem] Oper.semAt_some

set_option maxRecDepth 40000 in
set_option maxHeartbeats 4000000 in
theorem Check5 (k : ByteArray) (hm : k.size ≤ 140737488351232) (w : World) : Calls Try.prog 150 #[.string k] w fun e w' => e = .returned (.int .i64 (keyChk k)) ∧ w = w' := by
  have hl : k.toList.length = k.size := by rw [toList_data, size_data]
  by_cases h0 : k.size = 0
  · have e0 : k.toList = [] := List.eq_nil_of_length_eq_zero (by omega)
    have HR : Hid (keyChk k = 2) := Lib.hid (by rw [keyChk_ok (k := k) (fun j hj => by omega), if_pos h0])
    clear hl h0
    go_enter Try.func150, Try.ntmps150
    go_wp2
    go_ret
    exact ⟨ret_int HR.out.symm, rfl⟩
  · have e0 : (k.toList == []) = false := by cases hk : k.toList with | nil => rw [hk] at hl; simp at hl; omega | cons a b => rfl
    have e1 : k.toList.isEmpty = false := by cases hk : k.toList with | nil => rw [hk] at e0; cases e0 | cons a b => rfl
    have HBAD := Lib.hid (fun (i : Nat) (hi : i < k.size) (h : keyC (k[i]'hi) = false) => keyChk_bad (k := k) i hi h)
    have HOK := Lib.hid (fun (h : ∀ j (hj : j < k.size), keyC (k[j]'hj) = true) => keyChk_ok (k := k) h)
    go_enter Try.func150, Try.ntmps150
    go_wp2_with fail
    go_loopw [3] (fun t3 wx => ∃ i : Nat, i ≤ k.size ∧ t3 = .int .i64 i ∧ Hid (∀ j (hj : j < k.size), j < i → keyC (k[j]'hj) = true) ∧ w = wx) (fun t3 _ => k.size - (intOf t3).toNat)
    case atStart => exact ⟨0, by omega, rfl, Lib.hid (fun j hj h => by omega), rfl⟩
    case round =>
      obtain ⟨i, hi, rfl, HJ, rfl⟩ := hrel
      by_cases hlt : i < k.size
      · have hlt' : (i : Int) < k.size := by omega
        have HP := Lib.hid (place5 (k[i]'hlt) w)
        cases hk : keyC (k[i]'hlt) with
        | true =>
          have HK := Lib.hid hk
          clear hk
          go_wp2_with (go_at_call 178; refine Calls.mono HP.out ?_; rintro e w1 ⟨r, rfl, hr, rfl⟩; (have hr0 : ¬ r < 0 := by rw [HK.out] at hr; exact of_decide_eq_false hr); clear hr)
          exact ⟨⟨i + 1, by omega, by simp, Lib.hid (fun j hj h => by
            by_cases hji : j < i
            · exact HJ.out j hj hji
            · obtain rfl : j = i := by omega
              exact HK.out), trivial⟩, by simp [intOf]; omega⟩
        | false =>
          have HK := Lib.hid hk
          clear hk
          go_wp2_with (go_at_call 178; refine Calls.mono HP.out ?_; rintro e w1 ⟨r, rfl, hr, rfl⟩; (have hr0 : r < 0 := by rw [HK.out] at hr; exact of_decide_eq_true hr); clear hr)
          go_ret
          exact ⟨ret_int (HBAD.out i hlt HK.out).symm, rfl⟩
      · have hlt' : ¬ (i : Int) < k.size := by omega
        have HE := Lib.hid (HOK.out (fun j hj => HJ.out j hj (by omega)))
        by_cases h1 : 32 < k.size
        · have h2 : (32 : Int) < k.size := by omega
          have HR : Hid (keyChk k = 12) := Lib.hid (by rw [HE.out, if_neg h0, if_pos h1])
          go_wp2
          go_ret
          exact ⟨ret_int HR.out.symm, rfl⟩
        · have h2 : ¬ (32 : Int) < k.size := by omega
          have HR : Hid (keyChk k = 0) := Lib.hid (by rw [HE.out, if_neg h0, if_neg h1])
          go_wp2
          go_ret
          exact ⟨ret_int HR.out.symm, rfl⟩

abbrev rmO (N : Int) (v : Value) : Obj := .cells #[.int .i64 N, v] 142
set_option maxRecDepth 40000 in
theorem rvalid {w : World} {rb : Nat} {N : Int} {v : Value} (h : w.heap[rb]? = some (rmO N v)) (hN : 0 < N) : Calls Try.prog 85 #[.pointer (some ⟨rb, 0, none⟩)] w fun e w' => e = .returned (.bool true) ∧ w = w' := by
  have c0 := ((cellsOf h).1 0).trans (show _ = some (Value.int .i64 N) from rfl)
  clear h
  go_enter Try.func85, Try.ntmps85
  go_wp2
  go_ret
  exact ⟨rfl, rfl⟩
set_option maxRecDepth 40000 in
theorem rSlots {w : World} {rb : Nat} {N : Int} {v : Value} (h : w.heap[rb]? = some (rmO N v)) (hN : 0 < N) : Calls Try.prog 90 #[.pointer (some ⟨rb, 0, none⟩)] w fun e w' => e = .returned (.int .i64 N) ∧ w = w' := by
  have c0 := ((cellsOf h).1 0).trans (show _ = some (Value.int .i64 N) from rfl)
  have HV := Lib.hid (rvalid h hN)
  clear h
  go_enter Try.func90, Try.ntmps90
  go_wp2_with (go_at_call 85; refine Calls.mono HV.out ?_; rintro e w1 ⟨rfl, rfl⟩)
  go_ret
  exact ⟨rfl, rfl⟩
set_option maxRecDepth 40000 in
theorem rNew (n : Nat) (h1 : 1 ≤ n) (h2 : n ≤ 32) (w : World) : Calls Try.prog 19 #[.int .i64 n] w fun e w' => e = .returned (.tuple #[.pointer (some ⟨w.heap.size, 0, none⟩), .int .i64 0]) ∧ w' = w.alloc (rmO n (.slice none 0 0)) := by
  have h1' : ¬ (n : Int) < 1 := by omega
  have h2' : ¬ (32 : Int) < (n : Int) := by omega
  go_enter Try.func19, Try.ntmps19
  go_wp2
  go_ret2
  exact ⟨rfl, rfl⟩
set_option maxRecDepth 40000 in
set_option maxHeartbeats 4000000 in
theorem rValid (e : En) (hk : e.key.size ≤ 140737488351232) (w : World) : Calls Try.prog 86 #[enV e] w fun r w' => r = .returned (.bool (validE e)) ∧ Gr w w' := by
  have HV := Lib.hid (valid_iff e)
  obtain ⟨vb, hvb⟩ : ∃ vb, vb = validE e := ⟨_, rfl⟩
  rw [← hvb] at HV ⊢
  clear hvb
  obtain ⟨a1, a2, a3, a4, a5, a6⟩ := e
  simp only at hk
  have HC : Hid (∀ w, Calls Try.prog 150 #[.string a2] w fun e w' => e = .returned (.int .i64 (keyChk a2)) ∧ w = w') := Lib.hid (fun w => Check5 a2 (by omega) w)
  simp only [enV]
  go_enter Try.func86, Try.ntmps86
  go_wp2_with (go_at_call 150; refine (HC.out _).mono ?_; rintro e w1 ⟨rfl, rfl⟩)
  all_goals
    go_ret
    refine ⟨ret_bool ?_, (Gr.refl w).alloc _⟩
    rw [Bool.eq_iff_iff, HV.out]
    clear HV HC
    first
    | (simp only [Bool.false_eq_true, false_iff]; rintro ⟨q1, q2, q3, q4, q5, q6, q7, q8⟩; first | omega | (rcases q6 with q6 | q6 <;> simp_all <;> omega) | simp_all)
    | (simp only [decide_eq_true_eq]; constructor <;> intro hh <;> first | omega | (simp_all; done) | (simp_all; omega))
end Go.Proofs.Ytmdfickejpeofaa

/- What a builder of chapters 21, 23, 24, 28 keeps: an index filled by moves. No walk. -/
set_option linter.unusedVariables false
set_option linter.unusedSimpArgs false
namespace Go.Proofs.Ytmdfickejpeofaa

/-- An index behind moves: its entries in the order in which they were added, where each slot ends, the next number, how many moves. -/
structure FI (X : IX) (all : List En) (en : Int → Int) (nx j n : Int) : Prop where
  wf : X.Wf
  ln : (X.slots.length : Int) = n
  n0 : 1 ≤ n
  pm : all.Perm X.ents
  en0 : ∀ s, 0 ≤ en s ∧ en s ≤ 68 * j
  up : ∀ e ∈ all, e.off + e.size ≤ en e.slot
  j0 : 0 ≤ j
  nx0 : 1 ≤ nx
  nx1 : nx ≤ j + 1
  sq : ∀ e ∈ all, e.seq < nx
  cp : ∀ a ∈ all, ∀ b ∈ all, a.seq = b.seq → a.key = b.key ∧ a.del = b.del ∧ a.size = b.size
  sm : ∀ e ∈ all, e.size ≤ 68 ∧ e.key.size ≤ 3 ∧ Low e.key
def upd (en : Int → Int) (s v : Int) : Int → Int := fun t => if t = s then v else en t
theorem upd_same (en : Int → Int) (s v : Int) : upd en s v s = v := if_pos rfl
theorem upd_other (en : Int → Int) {s t : Int} (v : Int) (h : t ≠ s) : upd en s v t = en t := if_neg h
section
variable {X : IX} {all : List En} {en : Int → Int} {nx j n : Int}
theorem clash_end {l : List En} {e : En} (h : ∀ o ∈ l, o.off + o.size ≤ e.off) (hp : ∀ o ∈ l, 0 < o.size) : clash l e = false := by
  have hc : cnt (offP e.off) l = l.length := by
    refine (cnt_uniq (offP e.off) l l.length (Nat.le_refl _) (fun i x _ hx => ?_) (fun i x hi hx => ?_)).symm
    · have hm := List.mem_of_getElem? hx
      have := h x hm
      have := hp x hm
      unfold offP
      exact decide_eq_true (by omega)
    · have := (List.getElem?_eq_some_iff.1 hx).1; omega
  unfold clash
  rw [hc, List.getElem?_eq_none (Nat.le_refl _)]
  simp only [Bool.false_or]
  cases hl : l[l.length - 1]? with
  | none => simp
  | some o =>
    have := h o (List.mem_of_getElem? hl)
    simp only [Bool.and_eq_false_iff]
    exact .inr (decide_eq_false (by omega))
theorem FI.mem (h : FI X all en nx j n) (e : En) : e ∈ all ↔ e ∈ X.ents := h.pm.mem_iff
theorem FI.slot (h : FI X all en nx j n) (s : Int) (e : En) : e ∈ X.slot s ↔ e ∈ all ∧ e.slot = s := by rw [h.mem]; exact h.wf.slot_mem s e
theorem FI.of (h : FI X all en nx j n) (k : ByteArray) (e : En) : e ∈ X.of k ↔ e ∈ all ∧ e.key = k := by rw [h.mem]; exact h.wf.of_mem k e
theorem FI.ne (h : FI X all en nx j n) : X.slots ≠ [] := fun h0 => by have := h.ln; have := h.n0; rw [h0] at *; simp at *; omega
theorem FI.has (h : FI X all en nx j n) {s : Int} (h0 : 0 ≤ s) (h1 : s < n) : X.has s = true := by
  unfold IX.has
  exact decide_eq_true ⟨h0, by have := h.ln; omega⟩
theorem FI.clash (h : FI X all en nx j n) {e : En} (ho : e.off = en e.slot) : clash (X.slot e.slot) e = false := by
  refine clash_end (fun o hm => ?_) (fun o hm => ?_)
  · obtain ⟨h1, h2⟩ := (h.slot _ o).1 hm
    have := h.up o h1
    rw [h2] at this
    omega
  · obtain ⟨h1, h2⟩ := (h.slot _ o).1 hm
    have := (valid_iff o).1 (h.wf.valid ((h.mem o).1 h1)).1
    omega
theorem FI.later (h : FI X all en nx j n) {j' : Int} (hj : j ≤ j') : FI X all en nx j' n :=
  ⟨h.wf, h.ln, h.n0, h.pm, fun s => ⟨(h.en0 s).1, by have := (h.en0 s).2; omega⟩, h.up, by have := h.j0; omega, h.nx0, by have := h.nx1; omega, h.sq, h.cp, h.sm⟩
/-- An entry that goes behind those of its slot. -/
theorem FI.push (h : FI X all en nx j n) {e : En} {nx' : Int} (a : AddOk X e) (ho : e.off = en e.slot) (hs : e.size ≤ 68 ∧ e.key.size ≤ 3 ∧ Low e.key) (h1 : nx ≤ nx') (h2 : nx' ≤ j + 2) (h3 : e.seq < nx')
    (hc : ∀ o ∈ all, o.seq = e.seq → o.key = e.key ∧ o.del = e.del ∧ o.size = e.size) : FI (addX X e) (all ++ [e]) (upd en e.slot (e.off + e.size)) nx' (j + 1) n := by
  have hv := (valid_iff e).1 a.valid
  have he := h.en0 e.slot
  have hle : ∀ s, en s ≤ upd en e.slot (e.off + e.size) s := fun s => by
    unfold upd
    split
    · rename_i h0; subst h0; omega
    · exact Int.le_refl _
  refine ⟨add_wf h.wf a, ?_, h.n0, ?_, fun s => ?_, fun o hm => ?_, by have := h.j0; omega, by have := h.nx0; omega, by omega, fun o hm => ?_, fun x hx y hy hq => ?_, fun o hm => ?_⟩
  · rw [addX_eq a]; simp only [List.length_set]; exact h.ln
  · exact (List.perm_append_singleton e all).trans ((h.pm.cons e).trans (add_ents h.wf a).symm)
  · have := h.en0 s
    unfold upd
    split
    · omega
    · omega
  · rcases List.mem_append.1 hm with hm | hm
    · exact Int.le_trans (h.up o hm) (hle _)
    · rw [List.mem_singleton.1 hm, upd_same]
      exact Int.le_refl _
  · rcases List.mem_append.1 hm with hm | hm
    · have := h.sq o hm; omega
    · rw [List.mem_singleton.1 hm]; exact h3
  · rcases List.mem_append.1 hx with hx1 | hx1 <;> rcases List.mem_append.1 hy with hy1 | hy1
    · exact h.cp x hx1 y hy1 hq
    · obtain rfl := List.mem_singleton.1 hy1
      exact hc x hx1 hq
    · obtain rfl := List.mem_singleton.1 hx1
      obtain ⟨q1, q2, q3⟩ := hc y hy1 hq.symm
      exact ⟨q1.symm, q2.symm, q3.symm⟩
    · obtain rfl := List.mem_singleton.1 hx1
      obtain rfl := List.mem_singleton.1 hy1
      exact ⟨rfl, rfl, rfl⟩
  · rcases List.mem_append.1 hm with hm | hm
    · exact h.sm o hm
    · rw [List.mem_singleton.1 hm]; exact hs
/-- A new entry. -/
theorem FI.newOk (h : FI X all en nx j n) {e : En} (hj : j < 100) (hq : e.seq = nx) (h0 : 0 ≤ e.slot) (h1 : e.slot < n) (ho : e.off = en e.slot) (hk : keyChk e.key = 0) (hz : 16 + (e.key.size : Int) ≤ e.size) (hz2 : e.size = 16 + (e.key.size : Int) ∨ e.del = false) (hs : e.size ≤ 68) : AddOk X e := by
  have he := h.en0 e.slot
  have hx := h.nx0
  have hx1 := h.nx1
  refine ⟨h.ne, h.has h0 h1, (valid_iff e).2 ⟨hk, by omega, by omega, by omega, hz, hz2, by omega, by omega⟩, fun o hm => ?_, fun o hm => ?_, h.clash ho⟩
  · have := h.sq o ((h.of _ o).1 hm).1
    exact badE_no (fun hh => by omega)
  · have := h.sq o ((h.of _ o).1 hm).1
    unfold sameE
    exact decide_eq_false (fun hh => by omega)
theorem FI.new (h : FI X all en nx j n) {e : En} (hj : j < 100) (hq : e.seq = nx) (h0 : 0 ≤ e.slot) (h1 : e.slot < n) (ho : e.off = en e.slot) (hk : keyChk e.key = 0) (hz : 16 + (e.key.size : Int) ≤ e.size) (hz2 : e.size = 16 + (e.key.size : Int) ∨ e.del = false) (hs : e.size ≤ 68) (hkz : e.key.size ≤ 3) (hl : Low e.key) :
    addE X e = 0 ∧ FI (addX X e) (all ++ [e]) (upd en e.slot (e.off + e.size)) (nx + 1) (j + 1) n :=
  have a := h.newOk hj hq h0 h1 ho hk hz hz2 hs
  ⟨ok_add a, h.push a ho ⟨hs, hkz, hl⟩ (by omega) (by have := h.nx1; omega) (by omega) (fun o hm hh => by have := h.sq o hm; omega)⟩
/-- A copy: refused where the slot has one. -/
theorem FI.copyBad (h : FI X all en nx j n) {x e : En} (hx : x ∈ all) (he : e = { x with slot := e.slot, off := e.off }) : ∀ o ∈ X.of e.key, badE e o = false := by
  intro o hm
  obtain ⟨h1, h2⟩ := (h.of _ o).1 hm
  refine badE_no (fun hh => ?_)
  have e1 : e.seq = x.seq := by rw [he]
  have e3 : e.del = x.del := by rw [he]
  have e4 : e.size = x.size := by rw [he]
  obtain ⟨q1, q2, q3⟩ := h.cp o h1 x hx (by rw [hh, e1])
  exact En.ext' hh h2 (by rw [e3]; exact q2) rfl rfl (by rw [e4]; exact q3)
theorem FI.copyValid (h : FI X all en nx j n) {x e : En} (hj : j < 100) (hx : x ∈ all) (he : e = { x with slot := e.slot, off := e.off }) (ho : e.off = en e.slot) : validE e = true := by
  have hv := (valid_iff x).1 (h.wf.valid ((h.mem x).1 hx)).1
  have hs := h.sm x hx
  have he0 := h.en0 e.slot
  have e1 : e.seq = x.seq := by rw [he]
  have e2 : e.key = x.key := by rw [he]
  have e3 : e.del = x.del := by rw [he]
  have e4 : e.size = x.size := by rw [he]
  refine (valid_iff e).2 ⟨by rw [e2]; exact hv.1, by omega, by omega, by omega, by rw [e2]; omega, ?_, by omega, by omega⟩
  rw [e2, e3, e4]
  exact hv.2.2.2.2.2.1
theorem FI.copyNo (h : FI X all en nx j n) {x e : En} (hj : j < 100) (hx : x ∈ all) (he : e = { x with slot := e.slot, off := e.off }) (h0 : 0 ≤ e.slot) (h1 : e.slot < n) (ho : e.off = en e.slot) (hd : all.any (fun o => decide (o.slot = e.slot) && decide (o.seq = e.seq)) = true) :
    addE X e = 6 ∧ FI (addX X e) all en nx (j + 1) n := by
  have h6 : addE X e = 6 := by
    refine add_6 h.ne (h.has h0 h1) (h.copyValid hj hx he ho) (h.copyBad hx he) ?_
    rw [Bool.or_eq_true]
    refine .inl ?_
    obtain ⟨o, hm, hh⟩ := List.any_eq_true.1 hd
    simp only [Bool.and_eq_true, decide_eq_true_eq] at hh
    have e1 : e.seq = x.seq := by rw [he]
    have e2 : e.key = x.key := by rw [he]
    obtain ⟨q1, _, _⟩ := h.cp o hm x hx (by rw [hh.2, e1])
    exact List.any_eq_true.2 ⟨o, (h.of _ o).2 ⟨hm, by rw [q1, e2]⟩, decide_eq_true ⟨hh.2, hh.1⟩⟩
  refine ⟨h6, ?_⟩
  rw [addX_no (by rw [h6]; decide)]
  exact h.later (by omega)
theorem FI.copyYes (h : FI X all en nx j n) {x e : En} (hj : j < 100) (hx : x ∈ all) (he : e = { x with slot := e.slot, off := e.off }) (h0 : 0 ≤ e.slot) (h1 : e.slot < n) (ho : e.off = en e.slot) (hd : all.any (fun o => decide (o.slot = e.slot) && decide (o.seq = e.seq)) = false) :
    addE X e = 0 ∧ FI (addX X e) (all ++ [e]) (upd en e.slot (e.off + e.size)) nx (j + 1) n := by
  have e1 : e.seq = x.seq := by rw [he]
  have e2 : e.key = x.key := by rw [he]
  have e3 : e.del = x.del := by rw [he]
  have e4 : e.size = x.size := by rw [he]
  have a : AddOk X e := ⟨h.ne, h.has h0 h1, h.copyValid hj hx he ho, h.copyBad hx he, fun o hm => by
    have h2 := (h.of _ o).1 hm
    have h3 := List.any_eq_false.1 hd o h2.1
    unfold sameE
    refine decide_eq_false (fun hh => ?_)
    simp [hh.1, hh.2] at h3, h.clash ho⟩
  have hs := h.sm x hx
  refine ⟨ok_add a, h.push a ho (by rw [e4, e2]; exact hs) (Int.le_refl _) (by have := h.nx1; omega) (by rw [e1]; exact h.sq x hx) (fun o hm hh => ?_)⟩
  rw [e2, e3, e4]
  exact h.cp o hm x hx (by rw [hh, e1])
/-- A slot is emptied. -/
theorem FI.drop (h : FI X all en nx j n) {s : Int} (h0 : 0 ≤ s) (h1 : s < n) :
    dropC X s = 0 ∧ (X.slot s).length + (all.filter (fun o => !decide (o.slot = s))).length = all.length ∧ FI (dropX X s) (all.filter (fun o => !decide (o.slot = s))) (upd en s 0) nx (j + 1) n := by
  have hh := h.has h0 h1
  have hp := drop_ents h.wf hh
  have hw := drop_wf h.wf s
  have hne : ∀ o ∈ (dropX X s).ents, (!decide (o.slot = s)) = true := fun o ho => by
    simp only [Bool.not_eq_true', decide_eq_false_iff_not]
    intro e
    have h2 := (hw.slot_mem s o).2 ⟨ho, e⟩
    rw [drop_slot h.wf, if_pos rfl] at h2
    cases h2
  have hs : ∀ o ∈ X.slot s, ¬ (!decide (o.slot = s)) = true := fun o ho => by simp [((h.wf.slot_mem s o).1 ho).2]
  have hpm : (all.filter (fun o => !decide (o.slot = s))).Perm (dropX X s).ents := by
    have h2 := (h.pm.trans hp).filter (fun o => !decide (o.slot = s))
    rw [List.filter_append, List.filter_eq_nil_iff.2 hs, List.nil_append, List.filter_eq_self.2 hne] at h2
    exact h2
  refine ⟨if_pos hh, ?_, hw, ?_, h.n0, hpm, fun t => ?_, fun o ho => ?_, by have := h.j0; omega, h.nx0, by have := h.nx1; omega, fun o ho => h.sq o (List.mem_filter.1 ho).1, fun a ha b hb => h.cp a (List.mem_filter.1 ha).1 b (List.mem_filter.1 hb).1, fun o ho => h.sm o (List.mem_filter.1 ho).1⟩
  · have h2 := (h.pm.trans hp).length_eq
    have h3 := hpm.length_eq
    rw [List.length_append] at h2
    omega
  · rw [drop_yes hh]; simp only [List.length_set]; exact h.ln
  · have := h.en0 t
    have := h.j0
    unfold upd
    split <;> omega
  · obtain ⟨h2, h3⟩ := List.mem_filter.1 ho
    simp only [Bool.not_eq_true', decide_eq_false_iff_not] at h3
    rw [upd_other _ _ h3]
    exact h.up o h2
end
theorem FI.start (n : Nat) (h1 : 1 ≤ n) (h2 : n ≤ 32) : FI (ixNew n) [] (fun _ => 0) 1 0 n :=
  ⟨new_wf h2, by simp [ixNew], by omega, by simp [ixNew, IX.ents], fun _ => ⟨by omega, by omega⟩, (fun _ h => by cases h), by omega, by omega, by omega, (fun _ h => by cases h), (fun _ h => by cases h), (fun _ h => by cases h)⟩
end Go.Proofs.Ytmdfickejpeofaa
