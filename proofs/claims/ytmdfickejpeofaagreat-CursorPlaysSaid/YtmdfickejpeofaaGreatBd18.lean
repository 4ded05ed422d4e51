/- key.Check at any string: runes of 128 and more are not among the letters. -/
import Derived.Test.YtmdfickejpeofaaGreatBd9
import Derived.Laws.Runes
import Derived.WalkMore
import Derived.Test.YtmdfickejpeofaaGreatBd15
import Derived.Test.YtmdfickejpeofaaGreatBd16
import Derived.Test.YtmdfickejpeofaaGreatBd12
set_option linter.unusedVariables false
set_option linter.unusedSimpArgs false
namespace Go.Proofs.YtmdfickejpeofaaGreat
open Go.RowKit
attribute [local go_sem] OvM cell_ovm obj_ovm

set_option maxRecDepth 40000 in
theorem ValidRune_any (c : Int) (h0 : 0 ≤ c) (w : World) : Calls Tryz.prog 212 #[.int .i32 c] w fun e w' => e = .returned (.bool (validRune c)) ∧ w = w' := by
  by_cases h1 : c < 55296
  · have HV : Hid (validRune c = true) := Lib.hid (by simp [validRune]; omega)
    go_enter Tryz.func212, Tryz.ntmps212
    go_wp2_with fail
    go_ret
    exact ⟨ret_bool HV.out.symm, rfl⟩
  · by_cases h2 : 57343 < c
    · by_cases h3 : c ≤ 1114111
      · have HV : Hid (validRune c = true) := Lib.hid (by simp [validRune]; omega)
        go_enter Tryz.func212, Tryz.ntmps212
        go_wp2_with fail
        go_ret
        exact ⟨ret_bool HV.out.symm, rfl⟩
      · have HV : Hid (validRune c = false) := Lib.hid (by simp [validRune]; omega)
        go_enter Tryz.func212, Tryz.ntmps212
        go_wp2_with fail
        go_ret
        exact ⟨ret_bool HV.out.symm, rfl⟩
    · have HV : Hid (validRune c = false) := Lib.hid (by simp [validRune]; omega)
      go_enter Tryz.func212, Tryz.ntmps212
      go_wp2_with fail
      go_ret
      exact ⟨ret_bool HV.out.symm, rfl⟩
theorem indexByte_high (s : ByteArray) (a e : Nat) (c : UInt8) (hs : ∀ j (hj : j < s.size), (s[j]'hj).toNat < 128) (hc : 128 ≤ c.toNat) : Lib.indexByte (s.extract a e).data.toList c = -1 := by
  rw [← Lib.firstIdx_eq]
  refine firstIdx_ascii s a e c (fun b hb => ?_) hc
  obtain ⟨j, hj, rfl⟩ := List.mem_iff_getElem.1 hb
  exact hs j (by rw [size_data]; exact hj)
set_option maxRecDepth 1000000 in
theorem IndexRune_high (s : ByteArray) (hs : ∀ j (hj : j < s.size), (s[j]'hj).toNat < 128) (h4 : 4 ≤ s.size) (hm : s.size ≤ 1000) (c : Int) (h0 : 128 ≤ c) (w : World) : Calls Tryz.prog 203 #[.string s, .int .i32 c] w fun e w' => e = .returned (.int .i64 (-1)) ∧ Gr w w' := by
  have HS := Lib.hid hs
  clear hs
  have h00 : (0 : Int) ≤ c := by omega
  have h01 : ¬ c < 128 := by omega
  by_cases he : c = 65533
  · subst he
    go_enter Tryz.func203, Tryz.ntmps203
    go_wp2_with fail
    go_loopw [5, 6] (fun t5 t6 wx => ∃ pos : Nat, pos ≤ s.size ∧ wx = w.iter s pos) (fun _ _ wx => s.size - wx.iterPos w.heap.size)
    case atStart => exact ⟨0, by omega, rfl⟩
    case round =>
      obtain ⟨pos, hp, rfl⟩ := hrel
      by_cases hlt : pos < s.size
      · have hnx : ∀ ty, (Instr.next (.pointer (some ⟨w.heap.size, 0, none⟩)) true ty).run Tryz.prog (w.iter s pos) = _ := fun ty => run_next_ascii (P := Tryz.prog) w s pos ty hlt (HS.out pos hlt)
        have hc := HS.out pos hlt
        generalize s[pos]'hlt = b at *
        have hb : ((b.toNat : Int) == 65533) = false := beq_false_of_ne (by omega)
        go_wp2_with fail
        go_roundw
        case rel => exact ⟨pos + 1, by omega, rfl⟩
        case measure => simp; omega
      · obtain rfl : pos = s.size := by omega
        have hnx : ∀ ty, (Instr.next (.pointer (some ⟨w.heap.size, 0, none⟩)) true ty).run Tryz.prog (w.iter s s.size) = _ := fun ty => run_next_end w s s.size ty (by omega)
        go_wp2_with fail
        go_ret
        exact ⟨rfl, (Gr.refl w).alloc _⟩
  · have hb : (c == 65533) = false := beq_false_of_ne he
    have HV := Lib.hid (validRune_eq c)
    cases hv : validRune c with
    | false =>
      have HV1 := Lib.hid hv
      clear hv
      go_enter Tryz.func203, Tryz.ntmps203
      go_wp2_with (go_at_call 212; refine (ValidRune_any _ h00 _).mono ?_; rintro e w1 ⟨rfl, rfl⟩; rw [HV1.out])
      go_ret
      exact ⟨rfl, Gr.refl w⟩
    | true =>
      have HV1 := Lib.hid hv
      clear hv
      obtain ⟨k2, k4, kl⟩ := encode_facts c (HV.out.trans HV1.out) h0
      have kl1 := kl (by omega)
      clear kl
      obtain ⟨rs, hrs⟩ : ∃ rs, rs = Utf8.encode c := ⟨_, rfl⟩
      have hcv : ∀ w : World, (convert 21 9 (.int .i32 c)).run Tryz.prog w = .ok (.string rs) w := fun w => by rw [hrs]; exact run_convert_int_string w _ _ .i32 c (by kernel_rfl) (by kernel_rfl)
      rw [← hrs] at k2 k4
      have k5 : rs.size - 1 < rs.size := by omega
      have kl2 : 128 ≤ (rs[rs.size - 1]'k5).toNat := by subst hrs; exact kl1
      clear kl1 hrs
      obtain ⟨m, hm⟩ : ∃ m, m = rs.size - 1 := ⟨_, rfl⟩
      have hr : rs.size = m + 1 := by omega
      have k6 : m < rs.size := by omega
      have kl3 : 128 ≤ (rs[m]'k6).toNat := by subst hm; exact kl2
      have k7 : m < s.size := by omega
      have KS := Lib.hid (HS.out m k7)
      have KI := Lib.hid (indexByte_high s (m + 1) s.size (rs[m]'k6) HS.out kl3)
      clear kl2 hm k5
      go_enter Tryz.func203, Tryz.ntmps203
      go_wp2_with (go_at_call 212; refine (ValidRune_any _ h00 _).mono ?_; rintro e w1 ⟨rfl, rfl⟩; rw [HV1.out])
      go_step3
      go_wp2_with fail
      go_loopw [9, 10] (fun t9 t10 wx => t9 = .int .i64 m ∧ t10 = .int .i64 0 ∧ w = wx) (fun _ _ _ => 0)
      case atStart => exact ⟨rfl, rfl, rfl⟩
      case round =>
        obtain ⟨rfl, rfl, rfl⟩ := hrel
        have k7' : (m : Int) < s.size := by omega
        have k6' : (m : Int) < rs.size := by omega
        have hne : (((s[m]'k7).toNat : Int) != ((rs[m]'k6).toNat : Int)) = true := by
          have := KS.out
          simp only [bne_iff_ne, ne_eq]
          omega
        clear hr k2 k4
        go_wp2_with fail
        go_step3
        go_wp2_with fail
        refine wp_region_flo (fun _ => False) [] [] (by kernel_rfl) (by kernel_rfl) (fun _ h => h.elim) ?_
        refine flo_seg 7 rfl ?_
        simp only [List.take_succ_cons, List.take_zero, List.drop_succ_cons, List.drop_zero]
        repeat (go_big_quiet_step (fail))
        refine wpQuiet_nil ?_
        refine flo_nil ?_
        go_wp2_with fail
        refine wp_region_flo (fun _ => False) [] [] (by kernel_rfl) (by kernel_rfl) (fun _ h => h.elim) ?_
        refine flo_seg 7 rfl ?_
        simp only [List.take_succ_cons, List.take_zero, List.drop_succ_cons, List.drop_zero]
        repeat (go_big_quiet_step (fail))
        refine wpQuiet_nil ?_
        refine flo_eff rfl rfl rfl rfl (fun K hK => ?_)
        go_wp2_with ((go_at_call 211; refine (IndexByte_any _ _ _).mono ?_; rintro e w1 ⟨rfl, rfl⟩))
        refine ⟨by (first | (refine Gr.mdh ?_ _; (repeat (first | (with_reducible exact Gr.refl _) | assumption | (with_reducible apply Gr.from_drew) | (with_reducible apply Gr.alloc) | (with_reducible apply Gr.drew) | (with_reducible refine Gr.trans ?_ (by assumption)) | (with_reducible refine Gr.setCell ?_ (by omega) _))); done) | (repeat (first | (with_reducible exact Mdh.refl _ _) | (with_reducible refine Mdh.setCell ?_ (by simp) _) | (with_reducible refine Mdh.setNew ?_ (by simp) _) | (with_reducible apply Mdh.alloc) | (with_reducible apply Mdh.from_drew) | (with_reducible apply Mdh.drew) | (with_reducible refine Mdh.gr ?_ (by assumption))))), ?_⟩
        refine flo_seg 1 rfl ?_
        simp only [List.take_succ_cons, List.take_zero, List.drop_succ_cons, List.drop_zero]
        repeat (go_big_quiet_step (fail))
        refine wpQuiet_nil ?_
        refine flo_nil ?_
        have HI2 := KI.out
        simp at HI2
        rw [HI2]
        go_wp2_with fail
        rw [Exit.noGoto_ret]
        go_wp2_with fail
        try rw [Exit.noGoto_ret]
        try go_wp2_with fail
        go_ret
        exact ⟨rfl, (Gr.refl w).drew.drew⟩
set_option maxRecDepth 1000000 in
theorem ContainsRune_high (s : ByteArray) (hs : ∀ j (hj : j < s.size), (s[j]'hj).toNat < 128) (h4 : 4 ≤ s.size) (hm : s.size ≤ 1000) (c : Int) (h0 : 128 ≤ c) (w : World) : Calls Tryz.prog 180 #[.string s, .int .i32 c] w fun e w' => e = .returned (.bool false) ∧ Gr w w' := by
  have HR := Lib.hid (fun W => IndexRune_high s hs h4 hm c h0 W)
  clear hs
  go_enter Tryz.func180, Tryz.ntmps180
  go_wp2_with (go_at_call 203; refine (HR.out _).mono ?_; rintro e w1 ⟨rfl, hg⟩; have HG := Lib.hid hg; clear hg)
  go_ret
  exact ⟨rfl, HG.out⟩
theorem letters_low : ∀ j (hj : j < (⟨#[45, 46, 48, 49, 50, 51, 52, 53, 54, 55, 56, 57, 95, 97, 98, 99, 100, 101, 102, 103, 104, 105, 106, 107, 108, 109, 110, 111, 112, 113, 114, 115, 116, 117, 118, 119, 120, 121, 122]⟩ : ByteArray).size), ((⟨#[45, 46, 48, 49, 50, 51, 52, 53, 54, 55, 56, 57, 95, 97, 98, 99, 100, 101, 102, 103, 104, 105, 106, 107, 108, 109, 110, 111, 112, 113, 114, 115, 116, 117, 118, 119, 120, 121, 122]⟩ : ByteArray)[j]'hj).toNat < 128 := by
  have h : ∀ n : Fin 39, ((⟨#[45, 46, 48, 49, 50, 51, 52, 53, 54, 55, 56, 57, 95, 97, 98, 99, 100, 101, 102, 103, 104, 105, 106, 107, 108, 109, 110, 111, 112, 113, 114, 115, 116, 117, 118, 119, 120, 121, 122]⟩ : ByteArray)[n.val]'n.isLt).toNat < 128 := by decide +kernel
  exact fun j hj => h ⟨j, hj⟩
theorem keyC_high {c : UInt8} (h : 128 ≤ c.toNat) : keyC c = false := by
  have hh : ∀ n : Fin 256, 128 ≤ n.val → keyC (UInt8.ofNat n.val) = false := by decide +kernel
  have := hh ⟨c.toNat, c.toNat_lt⟩ h
  simpa using this
theorem ContainsRune_hi (c : Int) (h : 128 ≤ c) (w : World) : Calls Tryz.prog 180 #[.string ⟨#[45, 46, 48, 49, 50, 51, 52, 53, 54, 55, 56, 57, 95, 97, 98, 99, 100, 101, 102, 103, 104, 105, 106, 107, 108, 109, 110, 111, 112, 113, 114, 115, 116, 117, 118, 119, 120, 121, 122]⟩, .int .i32 c] w fun e w' => e = .returned (.bool false) ∧ Gr w w' :=
  ContainsRune_high _ letters_low (by show 4 ≤ 39; decide) (by show 39 ≤ 1000; decide) c h w
theorem low_to (k : ByteArray) : ∀ n, n ≤ k.size → (∀ i (hi : i < k.size), i < n → (k[i]'hi).toNat < 128) ∨ ∃ j, ∃ hj : j < k.size, 128 ≤ (k[j]'hj).toNat ∧ ∀ i (hi : i < k.size), i < j → (k[i]'hi).toNat < 128
  | 0, _ => .inl (fun i hi h => by omega)
  | n + 1, hn => by
    rcases low_to k n (by omega) with h | h
    · have hk : n < k.size := by omega
      rcases Nat.lt_or_ge (k[n]'hk).toNat 128 with h3 | h3
      · left
        intro i hi hlt
        by_cases hin : i < n
        · exact h i hi hin
        · obtain rfl : i = n := by omega
          exact h3
      · exact .inr ⟨n, hk, h3, h⟩
    · exact .inr h
theorem low_or (k : ByteArray) : Low k ∨ ∃ j, ∃ hj : j < k.size, 128 ≤ (k[j]'hj).toNat ∧ ∀ i (hi : i < k.size), i < j → (k[i]'hi).toNat < 128 := by
  rcases low_to k k.size (Nat.le_refl _) with h | h
  · exact .inl (fun j hj => h j hj hj)
  · exact .inr h
set_option maxRecDepth 1000000 in
set_option maxHeartbeats 1000000 in
theorem Check_hi (k : ByteArray) (q : Nat) (hq : q < k.size) (hh : 128 ≤ (k[q]'hq).toNat) (hl : ∀ i (hi : i < k.size), i < q → (k[i]'hi).toNat < 128) (hm : k.size ≤ 140737488351232) (w : World) : Calls Tryz.prog 134 #[.string k] w fun e w' => e = .returned (.int .i64 (keyChk k)) ∧ Gr w w' := by
  have HH := Lib.hid (keyChk_bad (k := k) q hq (keyC_high hh))
  have HL := Lib.hid hl
  have HQ := Lib.hid hh
  clear hl hh
  go_enter Tryz.func134, Tryz.ntmps134
  go_wp2_with fail
  go_loopw [] (fun wx => ∃ pos : Nat, pos ≤ q ∧ wx = w.iter k pos ∧ Hid (∀ j (hj : j < k.size), j < pos → keyC (k[j]'hj) = true)) (fun wx => k.size - wx.iterPos w.heap.size)
  case atStart => exact ⟨0, by omega, rfl, Lib.hid (fun j _ h => by omega)⟩
  case round =>
    obtain ⟨pos, hp, rfl, H⟩ := hrel
    have hlt : pos < k.size := by omega
    by_cases hpq : pos < q
    · have hnx : ∀ ty, (Instr.next (.pointer (some ⟨w.heap.size, 0, none⟩)) true ty).run Tryz.prog (w.iter k pos) = _ := fun ty => run_next_ascii (P := Tryz.prog) w k pos ty hlt (HL.out pos hlt hpq)
      have HN := Lib.hid (Check_next k pos hlt)
      have hc := HL.out pos hlt hpq
      have HB := Lib.hid (fun h => keyChk_bad (k := k) pos hlt h)
      generalize k[pos]'hlt = c at *
      have h1 : c.toNat < 128 := hc
      cases hk : keyC c with
      | true =>
        have HK := Lib.hid hk
        clear hk
        go_wp2_with (go_at_call 180; refine (ContainsRune_key c h1 _).mono ?_; rintro e w1 ⟨rfl, rfl⟩; rw [HK.out])
        go_roundw
        case rel => exact ⟨pos + 1, by omega, rfl, Lib.hid (HN.out.2 ⟨H.out, HK.out⟩)⟩
        case measure => simp; omega
      | false =>
        have HK := Lib.hid hk
        clear hk
        go_wp2_with (go_at_call 180; refine (ContainsRune_key c h1 _).mono ?_; rintro e w1 ⟨rfl, rfl⟩; rw [HK.out])
        go_ret
        exact ⟨ret_int (HB.out HK.out).symm, (Gr.refl w).alloc _⟩
    · obtain rfl : pos = q := by omega
      have hnx : ∀ ty, (Instr.next (.pointer (some ⟨w.heap.size, 0, none⟩)) true ty).run Tryz.prog (w.iter k pos) = _ := fun ty => run_next_any (P := Tryz.prog) w k pos ty hlt
      have hd := decode_high k pos hlt HQ.out
      have hd2 := decode_le k pos
      generalize Utf8.decode k pos = dc at *
      obtain ⟨r, sz⟩ := dc
      simp only at hd hd2 hnx
      have hr := hd.1
      have hr' : (128 : Int) ≤ (r : Int) := by omega
      have HR := Lib.hid (fun W => ContainsRune_hi r hr' W)
      go_wp2_with (go_at_call 180; refine (HR.out _).mono ?_; rintro e w1 ⟨rfl, hg⟩; have HG := Lib.hid hg; clear hg)
      go_ret
      exact ⟨ret_int HH.out.symm, ((Gr.refl w).alloc _).trans HG.out⟩
theorem Check_all (k : ByteArray) (hm : k.size ≤ 140737488351232) (w : World) : Calls Tryz.prog 134 #[.string k] w fun e w' => e = .returned (.int .i64 (keyChk k)) ∧ Gr w w' := by
  rcases low_or k with h | ⟨j, hj, h1, h2⟩
  · exact Check_low k h hm w
  · exact Check_hi k j hj h1 h2 hm w
set_option maxRecDepth 40000 in
set_option maxHeartbeats 1000000 in
theorem valid_all (e : En) (hm : e.key.size ≤ 140737488351232) (w : World) (hs : e.size ≤ 9223372036854775807) (hs' : -9223372036854775808 ≤ e.size) : Calls Tryz.prog 89 #[enV e] w fun e' w' => e' = .returned (.bool (validE e)) ∧ Gr w w' := by
  have HV := Lib.hid (valid_iff e)
  obtain ⟨a1, a2, a3, a4, a5, a6⟩ := e
  have HB : Hid (validE ⟨a1, a2, a3, a4, a5, a6⟩ = decide (keyChk a2 = 0 ∧ 1 ≤ a1 ∧ a1 ≤ 1099511627776 ∧ 0 ≤ a5 ∧ 16 + (a2.size : Int) ≤ a6 ∧ (a6 = 16 + (a2.size : Int) ∨ a3 = false) ∧ a6 ≤ 8192 ∧ a5 ≤ 8192 - a6)) := Lib.hid rfl
  simp only [enV] at *
  obtain ⟨c, hc⟩ : ∃ c, c = keyChk a2 := ⟨_, rfl⟩
  have HC := Lib.hid hc
  rw [← hc] at HB
  clear hc HV
  go_enter Tryz.func89, Tryz.ntmps89
  go_wp2_with (go_at_call 134; refine (Check_all _ hm _).mono ?_; rintro e w1 ⟨rfl, hg⟩; rw [← HC.out]; have HG := Lib.hid hg; have c0 := hg.cell; simp only [World.size_alloc] at c0; clear hg)
  all_goals
    go_ret
    have HC' := HC.out
    clear c0 HB
    exact ⟨ret_bool (by simp only [validE]; rw [← HC']; clear HC'; first | (simp_all; done) | (simp_all; omega)), ((Gr.refl w).alloc _).trans HG.out⟩
theorem not_low {e : En} (h : ¬ Low e.key) : validE e = false := by
  cases hv : validE e with
  | false => rfl
  | true =>
    have h1 := ((valid_iff e).1 hv).1
    rcases low_or e.key with h2 | ⟨j, hj, h2, _⟩
    · exact absurd h2 h
    · rw [keyChk_bad j hj (keyC_high h2)] at h1
      cases h1
set_option maxRecDepth 40000 in
set_option maxHeartbeats 4000000 in
theorem Add_hi {w : World} {b : Nat} {X : IX} {S : Nat → Prop} (h : IXR w b X S) (e : En) (hv : validE e = false) (hB : En64 e) :
    Calls Tryz.prog 44 #[.pointer (some ⟨b, 0, none⟩), enV e] w fun e' w' => e' = .returned (.int .i64 (addE X e)) ∧ IXPost b (addX X e) S w w' := by
  have H := Lib.hid h
  have H64 := Lib.hid hB
  have HNE := Lib.hid h.pos
  have HV := Lib.hid hv
  have HVA := Lib.hid (fun W => valid_all e hB.2.2 W hB.1 hB.2.1)
  clear h hB hv
  simp only [enV] at HVA ⊢
  refine calls_of_wp_marks Tryz.func44 rfl ?_
  simp only [Tryz.ntmps44, List.size_toArray, List.length_cons, List.length_nil, Nat.reduceAdd, Nat.reduceSub, Array.replicate_succ, Array.replicate_zero, List.push_toArray, List.append_toArray, List.nil_append, List.cons_append]
  go_wp2_with fail
  obtain ⟨w0, hw0⟩ : ∃ y, y = (w.alloc (.cells #[.int .i64 e.seq, .string e.key, .bool e.del, .int .i64 e.slot, .int .i64 e.off, .int .i64 e.size] 56)).alloc (.cells #[.int .i64 0] 32) := ⟨_, rfl⟩
  obtain ⟨b3, hb3⟩ : ∃ q, q = w.heap.size := ⟨_, rfl⟩
  rw [← hw0, ← hb3]
  have x3 : w0.heap[b3]? = some (.cells #[.int .i64 e.seq, .string e.key, .bool e.del, .int .i64 e.slot, .int .i64 e.off, .int .i64 e.size] 56) := by rw [hw0, hb3]; exact blkOld (blkNew _ _)
  have x4 : w0.heap[b3 + 1]? = some (.cells #[.int .i64 0] 32) := by rw [hw0, hb3]; have := blkNew (w.alloc (.cells #[.int .i64 e.seq, .string e.key, .bool e.del, .int .i64 e.slot, .int .i64 e.off, .int .i64 e.size] 56)) (.cells #[.int .i64 0] 32); rwa [World.size_alloc] at this
  have HW0 : Hid (Gr w w0 ∧ b3 = w.heap.size ∧ w0.heap.size = w.heap.size + 2) := Lib.hid ⟨by rw [hw0]; exact ((Gr.refl w).alloc _).alloc _, hb3, by rw [hw0]; simp⟩
  have H0 := Lib.hid (H.out.gr HW0.out.1)
  have HX := Lib.hid (And.intro x3 x4)
  have c3 := (cellsOf x3).1
  obtain ⟨c4, f4⟩ := cellsOf x4
  have m4 : b3 + 1 ≠ b3 := by omega
  clear hw0 hb3 x3 x4
  refine (made_yes H0.out).mono ?_
  rintro e' w1 ⟨rfl, rfl⟩
  cases hh : X.has e.slot with
  | false =>
    have HE := Lib.hid (add_3 HNE.out hh)
    have HH := Lib.hid hh
    clear hh
    go_wp2_with (go_at_call 88; refine (has_yes H0.out _).mono ?_; rintro e' w1 ⟨rfl, rfl⟩; rw [HH.out])
    have d4 := (cellsOf (blkSet (j := 0) (u := .int .i64 3) HX.out.2)).1
    refine retM0 (v := .int .i64 3) ?_ rfl ⟨by rw [HE.out], add_out (w0 := w) (b4 := 0) H.out (by rw [HE.out]; decide) (HW0.out.1.setCell (by have := HW0.out; simp; omega) _)⟩
    simp [results, Tryz.results44, go_sem, d4]
  | true =>
    have HH := Lib.hid hh
    clear hh
    go_wp2_with fail
    refine (has_yes H0.out _).mono ?_
    rintro e' w1 ⟨rfl, rfl⟩
    rw [HH.out]
    have HE := Lib.hid (add_2 HNE.out HH.out HV.out)
    go_wp2_with fail
    refine (HVA.out _).mono ?_
    rintro e' w1 ⟨rfl, hg⟩
    rw [HV.out]
    have HG1 := Lib.hid hg
    have y4 := hg.blk HX.out.2
    obtain ⟨d4, g4⟩ := cellsOf y4
    have HY := Lib.hid y4
    clear hg y4 c3 c4 f4
    go_wp2_with fail
    have d4' := (cellsOf (blkSet (j := 0) (u := .int .i64 2) HY.out)).1
    refine retM0 (v := .int .i64 2) ?_ rfl ⟨by rw [HE.out], add_out (w0 := w) (b4 := 0) H.out (by rw [HE.out]; decide) ((HW0.out.1.trans HG1.out).setCell (by have := HW0.out; simp; omega) _)⟩
    simp [results, Tryz.results44, go_sem, d4']
theorem Add_all {w : World} {b : Nat} {X : IX} {S : Nat → Prop} (h : IXR w b X S) (e : En) (hB : En64 e) :
    Calls Tryz.prog 44 #[.pointer (some ⟨b, 0, none⟩), enV e] w fun e' w' => e' = .returned (.int .i64 (addE X e)) ∧ IXPost b (addX X e) S w w' := by
  by_cases hl : Low e.key
  · exact Add_any h e hl hB
  · exact Add_hi h e (not_low hl) hB
end Go.Proofs.YtmdfickejpeofaaGreat

/- drumlinref21's index: the walk of Add. -/
set_option linter.unusedVariables false
set_option linter.unusedSimpArgs false
namespace Go.Proofs.YtmdfickejpeofaaGreat
open Go.RowKit Go.Shelf
attribute [local go_sem] OvM cell_ovm obj_ovm
attribute [local go_sem] Oper.semAt_some

/-- An element of a new block, as a source of an append. -/
theorem src_blk {w : World} {b : Nat} {e : En} {t : TypeId} (h : w.heap[b]? = some (.cells #[.int .i64 e.seq, .string e.key, .bool e.del, .int .i64 e.slot, .int .i64 e.off, .int .i64 e.size] t)) : SrcAt w 6 (some ⟨b, 0, none⟩) 1 (enC e) :=
  ⟨rfl, enC_one e, .inr ⟨_, rfl, fun j u hj => by
    rw [addr_add, Nat.zero_add]
    refine ((cellsOf h).1 j).trans ?_
    rw [← hj, List.getElem?_toArray]
    rfl⟩⟩
abbrev rIx (rb : Nat) (N : Int) (v : Value) (all : List En) (R : List Asn) : List Asn := blkA rb (rmO N v) :: rowA 56 6 v all.length (rowE all) :: R
def RAddP (w0 w : World) (rb : Nat) (N : Int) (all : List En) (R : List Asn) (e : En) (r : Ending) (w' : World) : Prop :=
  r = .returned (.int .i64 (rAddC N all e)) ∧ Mdh (fun k => k = rb) w w' ∧ ∃ v', SW w0 (rIx rb N v' (rAddL N all e) R) w'
theorem rAddP_no {w0 w w' : World} {rb : Nat} {N : Int} {v : Value} {all : List En} {R : List Asn} {e : En} {b : Nat} {o : Obj} {c : Int} (h : SW w0 (blkA b o :: rIx rb N v all R) w') (g : Gr w w') (hc : rAddC N all e = c) (h0 : c ≠ 0) : RAddP w0 w rb N all R e (.returned (.int .i64 c)) w' := by
  refine ⟨ret_int hc.symm, g.mdh _, v, ?_⟩
  unfold rAddL
  rw [hc, if_neg h0]
  exact h.sub (.cons _ (List.Sublist.refl _))
set_option maxRecDepth 40000 in
set_option maxHeartbeats 8000000 in
theorem rAdd {w0 w : World} {rb : Nat} {N : Int} {v : Value} {all : List En} {R : List Asn} (e : En) (h : SW w0 (rIx rb N v all R) w) (hN : 1 ≤ N) (hb : ∀ o ∈ all, 0 ≤ o.off ∧ o.off ≤ 8192 ∧ 0 ≤ o.size ∧ o.size ≤ 8192) (hk : e.key.size ≤ 140737488351232) (hn : all.length ≤ 200) :
    Calls Tryz.prog 45 #[.pointer (some ⟨rb, 0, none⟩), enV e] w (RAddP w0 w rb N all R e) := by
  obtain ⟨i0, hi, hz0, hz1, hz2⟩ := info_parts infoIten
  have H := Lib.hid h
  have HB := Lib.hid hb
  have HVE := Lib.hid (rValid e hk)
  have hN0 : 0 < N := by omega
  obtain ⟨av, cv, rfl, hcv, hmv, _⟩ := ownE_at (show Own w 56 6 v all.length (rowE all) from h.get (i := 1) rfl)
  unfold maxLen at hmv
  have HVI := Lib.hid (valid_iff e)
  have HRC : Hid (rAddC N all e = if e.slot < 0 ∨ N ≤ e.slot then 3 else if validE e = false then 2 else if all.any (rBad e) = true then 2 else if all.any (rHav e) = true then 6 else 0) := Lib.hid rfl
  have HRL : Hid (rAddC N all e = 0 → rAddL N all e = all ++ [e]) := Lib.hid (fun h => if_pos h)
  have HTB := Lib.hid (fun (i : Nat) (x : En) (hx : all[i]? = some x) => rany_snoc (p := rBad e) hx)
  have HTH := Lib.hid (fun (i : Nat) (x : En) (hx : all[i]? = some x) => rany_snoc (p := rHav e) hx)
  have HBE : Hid (∀ x : En, rBad e x = decide (x.seq = e.seq ∧ x.key = e.key ∧ (x.del ≠ e.del ∨ x.size ≠ e.size))) := Lib.hid (fun x => rfl)
  have HHE : Hid (∀ x : En, rHav e x = decide (x.slot = e.slot ∧ ((x.seq = e.seq ∧ x.key = e.key) ∨ (x.off < e.off + e.size ∧ e.off < x.off + x.size)))) := Lib.hid (fun x => rfl)
  have HTK := Lib.hid (fun (i : Nat) => rany_take (p := rBad e) (l := all) (i := i))
  clear h hb hk
  obtain ⟨rB, hrB⟩ : ∃ f, f = rBad e := ⟨_, rfl⟩
  obtain ⟨rH, hrH⟩ : ∃ f, f = rHav e := ⟨_, rfl⟩
  rw [← hrB] at HRC HTB HBE HTK
  rw [← hrH] at HRC HTH HHE
  clear hrB hrH
  obtain ⟨e0, e1, e2, e3, e4, e5⟩ := e
  simp only [enV] at HVE HVI HRC HHE HBE ⊢
  go_enter Tryz.func45, Tryz.ntmps45
  go_upto_region 1 with fail
  obtain ⟨b3, hb3⟩ : ∃ q, q = w.heap.size := ⟨_, rfl⟩
  obtain ⟨w1, hw1⟩ : ∃ y, y = w.alloc (boxF ⟨e0, e1, e2, e3, e4, e5⟩) := ⟨_, rfl⟩
  have H1 : Hid (SW w0 (blkA b3 (boxF ⟨e0, e1, e2, e3, e4, e5⟩) :: rIx rb N (.slice av all.length cv) all R) w1 ∧ Gr w w1) := Lib.hid (by rw [hw1, hb3]; exact ⟨H.out.alloc _, (Gr.refl w).alloc _⟩)
  simp only [boxF] at hw1
  rw [← hb3, ← hw1]
  clear hw1 hb3 H
  have d3 := (cellsOf (show w1.heap[b3]? = _ from H1.out.1.get (i := 0) rfl)).1
  have l3 := blkLt (show w1.heap[b3]? = _ from H1.out.1.get (i := 0) rfl)
  simp only [boxF] at d3
  have dr0 := ((cellsOf (show w1.heap[rb]? = _ from H1.out.1.get (i := 1) rfl)).1 0).trans (show _ = some (Value.int .i64 N) from rfl)
  go_wp2_with (go_at_call 71; refine (rvalid (H1.out.1.get (i := 1) rfl) hN0).mono ?_; rintro e w2 ⟨rfl, rfl⟩)
  have HD1 : Hid (SW w0 (blkA b3 (boxF ⟨e0, e1, e2, e3, e4, e5⟩) :: rIx rb N (.slice av all.length cv) all R) w1.drew ∧ Gr w w1.drew) := Lib.hid ⟨H1.out.1.gr (Gr.refl w1).drew, H1.out.2.drew⟩
  clear H1
  by_cases n0 : e3 < 0
  · have HR3 : Hid (rAddC N all ⟨e0, e1, e2, e3, e4, e5⟩ = 3) := Lib.hid (by rw [HRC.out, if_pos (.inl n0)])
    refine wp_region_flo (fun _ => False) [] [] (by kernel_rfl) (by kernel_rfl) (fun _ h => h.elim) ?_
    refine flo_seg 12 rfl ?_
    simp only [List.take_succ_cons, List.take_zero, List.drop_succ_cons, List.drop_zero]
    repeat (go_big_quiet_step (fail))
    refine wpQuiet_nil ?_
    refine flo_nil ?_
    go_wp2_with fail
    go_ret
    exact rAddP_no HD1.out.1 HD1.out.2 HR3.out (by decide)
  by_cases n1 : N ≤ e3
  · have HR3 : Hid (rAddC N all ⟨e0, e1, e2, e3, e4, e5⟩ = 3) := Lib.hid (by rw [HRC.out, if_pos (.inr n1)])
    refine wp_region_flo (fun _ => False) [] [] (by kernel_rfl) (by kernel_rfl) (fun _ h => h.elim) ?_
    refine flo_seg 12 rfl ?_
    simp only [List.take_succ_cons, List.take_zero, List.drop_succ_cons, List.drop_zero]
    repeat (go_big_quiet_step (fail))
    refine wpQuiet_nil ?_
    refine flo_nil ?_
    go_wp2_with fail
    go_ret
    exact rAddP_no HD1.out.1 HD1.out.2 HR3.out (by decide)
  have HRC2 : Hid (rAddC N all ⟨e0, e1, e2, e3, e4, e5⟩ = if validE ⟨e0, e1, e2, e3, e4, e5⟩ = false then 2 else if all.any rB = true then 2 else if all.any rH = true then 6 else 0) := Lib.hid (by rw [HRC.out, if_neg (by omega)])
  clear HRC
  refine wp_region_flo (fun _ => False) [] [] (by kernel_rfl) (by kernel_rfl) (fun _ h => h.elim) ?_
  refine flo_seg 12 rfl ?_
  simp only [List.take_succ_cons, List.take_zero, List.drop_succ_cons, List.drop_zero]
  repeat (go_big_quiet_step (fail))
  refine wpQuiet_nil ?_
  refine flo_nil ?_
  cases hv : validE ⟨e0, e1, e2, e3, e4, e5⟩ with
  | false =>
    rw [hv] at HVE
    have HR3 : Hid (rAddC N all ⟨e0, e1, e2, e3, e4, e5⟩ = 2) := Lib.hid (by rw [HRC2.out, if_pos hv])
    clear hv
    go_wp2_with (go_at_call 99; refine (HVE.out _).mono ?_; rintro e w2 ⟨rfl, hg⟩; have HG2 := Lib.hid hg; clear hg)
    go_ret
    exact rAddP_no (HD1.out.1.gr HG2.out) (HD1.out.2.trans HG2.out) HR3.out (by decide)
  | true =>
    have HRC3 : Hid (rAddC N all ⟨e0, e1, e2, e3, e4, e5⟩ = if all.any rB = true then 2 else if all.any rH = true then 6 else 0) := Lib.hid (by rw [HRC2.out, hv, if_neg (by decide)])
    have hvi := HVI.out.1 hv
    rw [hv] at HVE
    have hb4 : 0 ≤ e4 ∧ e4 ≤ 8192 ∧ 0 ≤ e5 ∧ e5 ≤ 8192 := by omega
    obtain ⟨v1, v2, v3, v4⟩ := hb4
    clear hv hvi HVI HRC2
    go_wp2_with (go_at_call 99; refine (HVE.out _).mono ?_; rintro e w2 ⟨rfl, hg⟩; have HD2 : Hid (SW w0 (blkA b3 (boxF ⟨e0, e1, e2, e3, e4, e5⟩) :: rIx rb N (.slice av all.length cv) all R) w2 ∧ Gr w w2) := Lib.hid ⟨HD1.out.1.gr hg, HD1.out.2.trans hg⟩; clear hg)
    clear HD1 HVE d3 l3 dr0
    go_loopw [5, 6] (fun t5 t6 wx => ∃ i : Nat, i ≤ all.length ∧ t5 = .bool ((all.take i).any rH) ∧ t6 = .int .i64 i ∧ Hid ((all.take i).any rB = false) ∧ Hid (SW w0 (blkA b3 (boxF ⟨e0, e1, e2, e3, e4, e5⟩) :: rIx rb N (.slice av all.length cv) all R) wx ∧ Gr w wx)) (fun _ t6 _ => all.length - (intOf t6).toNat)
    case atStart => exact ⟨0, by omega, rfl, rfl, Lib.hid rfl, HD2⟩
    case round =>
      obtain ⟨i, hil, rfl, rfl, HNB, HI⟩ := hrel
      clear HD2
      have hrb : wr.heap[rb]? = _ := HI.out.1.get (i := 1) rfl
      have dr1 := ((cellsOf hrb).1 1).trans (show _ = some (Value.slice av all.length cv) from rfl)
      clear hrb
      by_cases hli : i < all.length
      · have hli' : (i : Int) < all.length := by omega
        obtain ⟨x, hx⟩ : ∃ x, all[i]? = some x := ⟨_, List.getElem?_eq_getElem hli⟩
        obtain ⟨_, _, hve, _, _, hat⟩ := ownE_at (show Own wr 56 6 (.slice av all.length cv) all.length (rowE all) from HI.out.1.get (i := 2) rfl)
        injection hve with g1 g2 g3
        subst g1
        obtain ⟨g0, rfl, hg0, _, hc⟩ := hat i _ hx
        have y0 := hc 0 _ rfl
        have y1 := hc 1 _ rfl
        have y2 := hc 2 _ rfl
        have y3 := hc 3 _ rfl
        have y4 := hc 4 _ rfl
        have y5 := hc 5 _ rfl
        simp only [Nat.add_zero] at y0 y1 y2 y3 y4 y5
        have HTB1 := Lib.hid (HTB.out i x hx)
        have HTH1 := Lib.hid (HTH.out i x hx)
        have HBE1 := Lib.hid (HBE.out x)
        have HHE1 := Lib.hid (HHE.out x)
        obtain ⟨q1, q2, q3, q4⟩ := HB.out x (List.mem_of_getElem? hx)
        clear hat hc g2 g3 hx
        obtain ⟨bB, hbB⟩ : ∃ b, b = rB x := ⟨_, rfl⟩
        obtain ⟨bH, hbH⟩ : ∃ b, b = rH x := ⟨_, rfl⟩
        rw [← hbB] at HTB1 HBE1
        rw [← hbH] at HTH1 HHE1
        clear hbB hbH
        obtain ⟨x0, x1, x2, x3, x4, x5⟩ := x
        simp only at y0 y1 y2 y3 y4 y5 q1 q2 q3 q4 HBE1 HHE1
        go_upto_region 12 with fail
        obtain ⟨b7, hb7⟩ : ∃ q, q = wr.heap.size := ⟨_, rfl⟩
        obtain ⟨w9, hw9⟩ : ∃ y, y = wr.alloc (boxF ⟨x0, x1, x2, x3, x4, x5⟩) := ⟨_, rfl⟩
        have H9 : Hid (SW w0 (blkA b7 (boxF ⟨x0, x1, x2, x3, x4, x5⟩) :: blkA b3 (boxF ⟨e0, e1, e2, e3, e4, e5⟩) :: rIx rb N (.slice (some ⟨g0, 0, none⟩) all.length cv) all R) w9 ∧ Gr w w9) := Lib.hid (by rw [hw9, hb7]; exact ⟨HI.out.1.alloc _, HI.out.2.alloc _⟩)
        simp only [boxF] at hw9
        rw [← hb7, ← hw9]
        clear hw9 hb7 HI y0 y1 y2 y3 y4 y5 hg0 dr1
        have d3 := (cellsOf (show w9.heap[b3]? = _ from H9.out.1.get (i := 1) rfl)).1
        have d7 := (cellsOf (show w9.heap[b7]? = _ from H9.out.1.get (i := 0) rfl)).1
        simp only [boxF] at d3 d7
        have H10 : Hid (SW w0 (blkA b3 (boxF ⟨e0, e1, e2, e3, e4, e5⟩) :: rIx rb N (.slice (some ⟨g0, 0, none⟩) all.length cv) all R) w9 ∧ Gr w w9) := Lib.hid ⟨H9.out.1.sub (.cons _ (List.Sublist.refl _)), H9.out.2⟩
        clear H9
        obtain ⟨bb, hbb⟩ : ∃ b, b = (all.take i).any rH := ⟨_, rfl⟩
        rw [← hbb] at HTH1 ⊢
        clear hbb
        have hcl : ∀ (c : Prop) [Decidable c], (c → False) → decide c = false := fun c _ h => decide_eq_false h
        by_cases hcp : x0 = e0 ∧ x1 = e1
        · obtain ⟨hq, hk⟩ := hcp
          subst hq hk
          clear hcl
          go_wp2_with fail
          all_goals
            try
              (refine ⟨⟨i + 1, by omega, ?_, by simp, Lib.hid ?_, H10⟩, by simp [intOf]; omega⟩
               · rw [HTH1.out, HHE1.out]
                 first
                 | (rw [decide_eq_true ⟨by assumption, .inl ⟨rfl, rfl⟩⟩, Bool.or_true]; done)
                 | (rw [decide_eq_false (fun hh => by have := hh.1; first | (exact absurd this (by assumption)) | (simp_all; done)), Bool.or_false]; done)
               · rw [HTB1.out, HNB.out, HBE1.out, Bool.false_or]
                 refine decide_eq_false (fun hh => ?_)
                 have hh2 := hh.2.2
                 clear hh HTB HTH HBE HHE HTK HRC3
                 simp_all)
          all_goals
            go_ret
            refine rAddP_no H10.out.1 H10.out.2 (c := 2) ?_ (by decide)
            rw [HRC3.out, if_pos]
            refine HTK.out (i + 1) ?_
            rw [HTB1.out, HBE1.out, Bool.or_eq_true]
            refine .inr (decide_eq_true (And.intro (by first | trivial | rfl) (And.intro (by first | trivial | rfl) ?_)))
            first | exact .inl (by assumption) | exact .inr (bne_iff_ne.1 (by assumption)) | (simp_all; done)
        · have HNC := Lib.hid hcp
          have HB2 : Hid (bB = false) := Lib.hid (HBE1.out.trans (decide_eq_false (fun hh => hcp ⟨hh.1, hh.2.1⟩)))
          have HH2 : Hid (bH = decide (x3 = e3 ∧ x4 < e4 + e5 ∧ e4 < x4 + x5)) := Lib.hid (HHE1.out.trans (by
            congr 1
            exact propext ⟨fun hh => ⟨hh.1, hh.2.resolve_left hcp⟩, fun hh => ⟨hh.1, .inr hh.2⟩⟩))
          clear HBE1 HHE1 hcl
          have fin : ∀ b : Bool, (b = (bb || bH)) → ∃ i', i' ≤ all.length ∧ Value.bool b = Value.bool ((all.take i').any rH) ∧ Value.int .i64 ((i : Int) + 1) = .int .i64 (i' : Nat) ∧ Hid ((all.take i').any rB = false) ∧ Hid (SW w0 (blkA b3 (boxF ⟨e0, e1, e2, e3, e4, e5⟩) :: rIx rb N (.slice (some ⟨g0, 0, none⟩) all.length cv) all R) w9 ∧ Gr w w9) := fun b hb =>
            ⟨i + 1, by omega, by rw [HTH1.out, hb], by simp, Lib.hid (by rw [HTB1.out, HNB.out, HB2.out]; rfl), H10⟩
          have HF := Lib.hid fin
          clear fin
          by_cases hq : x0 = e0
          · have hk : ¬ x1 = e1 := fun h => hcp ⟨hq, h⟩
            have hkb : (x1.toList == e1.toList) = false := (str_beq x1 e1).trans (decide_eq_false hk)
            clear hcp hk
            subst hq
            go_wp2_with fail
            all_goals
              refine ⟨HF.out _ ?_, by simp [intOf]; omega⟩
              rw [HH2.out]
              first
              | (rw [decide_eq_true (by omega), Bool.or_true]; done)
              | (rw [decide_eq_false (by omega), Bool.or_false]; done)
          · have hqb : (x0 == e0) = false := beq_false_of_ne hq
            clear hcp hq
            go_wp2_with fail
            all_goals
              refine ⟨HF.out _ ?_, by simp [intOf]; omega⟩
              rw [HH2.out]
              first
              | (rw [decide_eq_true (by omega), Bool.or_true]; done)
              | (rw [decide_eq_false (by omega), Bool.or_false]; done)
      · have hli' : ¬ (i : Int) < all.length := by omega
        obtain rfl : i = all.length := by omega
        rw [List.take_length] at HNB ⊢
        cases hH : all.any rH with
        | true =>
          have HR6 : Hid (rAddC N all ⟨e0, e1, e2, e3, e4, e5⟩ = 6) := Lib.hid (by rw [HRC3.out, HNB.out, hH, if_neg (by decide), if_pos rfl])
          clear hH
          go_wp2_with fail
          go_ret
          exact rAddP_no HI.out.1 HI.out.2 HR6.out (by decide)
        | false =>
          have HR0 : Hid (rAddC N all ⟨e0, e1, e2, e3, e4, e5⟩ = 0) := Lib.hid (by rw [HRC3.out, HNB.out, hH, if_neg (by decide), if_neg (by decide)])
          clear hH
          have d3 := (cellsOf (show wr.heap[b3]? = _ from HI.out.1.get (i := 0) rfl)).1
          simp only [boxF] at d3
          have SRC : Hid (SrcAt wr.drew 6 av all.length (rowE all)) := Lib.hid ((src_all (show Own wr 56 6 (.slice av all.length cv) all.length (rowE all) from HI.out.1.get (i := 2) rfl) (rowE_one all)).gr (Gr.refl wr).drew)
          go_wp2_with fail
          have HG := Gr.refl wr.drew
          refine wp_region_flt 10 (fun _ => False) [107] [] (by kernel_rfl) (by kernel_rfl) (by decide) (by kernel_rfl) (fun _ h => h.elim) ?_
          simp only [List.take_succ_cons, List.take_zero, List.drop_succ_cons, List.drop_zero]
          refine flo_seg 1 rfl ?_
          simp only [List.take_succ_cons, List.take_zero, List.drop_succ_cons, List.drop_zero]
          repeat (go_big_quiet_step (fail))
          refine wpQuiet_nil ?_
          refine flo_effg rfl rfl rfl (fun wg1 hgg1 K hK => ?_)
          (try replace HG := Gr.trans (Gr.trans HG (by (repeat (first | (with_reducible exact Gr.refl _) | assumption | (with_reducible apply Gr.from_drew) | (with_reducible apply Gr.alloc) | (with_reducible apply Gr.drew) | (with_reducible refine Gr.trans ?_ (by assumption)) | (with_reducible refine Gr.setCell ?_ (by omega) _))))) hgg1)
          go_wp2
          refine ⟨by (first | (refine Gr.mdh ?_ _; (repeat (first | (with_reducible exact Gr.refl _) | assumption | (with_reducible apply Gr.from_drew) | (with_reducible apply Gr.alloc) | (with_reducible apply Gr.drew) | (with_reducible refine Gr.trans ?_ (by assumption)) | (with_reducible refine Gr.setCell ?_ (by omega) _))); done) | (repeat (first | (with_reducible exact Mdh.refl _ _) | (with_reducible refine Mdh.setCell ?_ (by simp) _) | (with_reducible refine Mdh.setNew ?_ (by simp) _) | (with_reducible apply Mdh.alloc) | (with_reducible apply Mdh.from_drew) | (with_reducible apply Mdh.drew) | (with_reducible refine Mdh.gr ?_ (by assumption))))), ?_⟩
          refine flo_seg 4 rfl ?_
          simp only [List.take_succ_cons, List.take_zero, List.drop_succ_cons, List.drop_zero]
          repeat (go_big_quiet_step (fail))
          refine wpQuiet_nil ?_
          refine flo_effg rfl rfl rfl (fun wg2 hgg2 K hK => ?_)
          (try replace HG := Gr.trans (Gr.trans HG (by (repeat (first | (with_reducible exact Gr.refl _) | assumption | (with_reducible apply Gr.from_drew) | (with_reducible apply Gr.alloc) | (with_reducible apply Gr.drew) | (with_reducible refine Gr.trans ?_ (by assumption)) | (with_reducible refine Gr.setCell ?_ (by omega) _))))) hgg2)
          refine wp_appv _ (.tmp 100) (.tmp 104) 37 rfl 56 i0 _ 6 56 Tryz.underlying37 hi hz0 hz1 hz2 rfl (by decide) (.slice (some ⟨wg1.heap.size, 0, none⟩) 0 0) 0 [] rfl ((Nw.made (w0 := wr.drew) (w := wg1) hgg1.sz).own.gr hgg2) av all.length cv (rowE all) rfl (SRC.out.gr HG) (by simp only [maxLen]; omega) (by omega) (fun k1 x1 hk1 => ?_); rw [Nat.zero_add, List.nil_append] at hk1; (have n1 := hk1.nw ((Nw.made (w0 := wr.drew) (w := wg1) hgg1.sz).gr hgg2) HG.sz); (replace HG := hk1.gw ((Nw.made (w0 := wr.drew) (w := wg1) hgg1.sz).gr hgg2) HG); obtain ⟨a1, c1, rfl⟩ := hk1.val; refine hK _ _ ⟨hk1.mdh (fun q hq => by rw [ownB hq]; simp), ?_⟩; simp only [Act.put, List.setIfInBounds_toArray, List.set_cons_succ, List.set_cons_zero]
          refine flo_seg 1 rfl ?_
          simp only [List.take_succ_cons, List.take_zero, List.drop_succ_cons, List.drop_zero]
          repeat (go_big_quiet_step (fail))
          refine wpQuiet_nil ?_
          refine flo_float (fun b => .slice (some ⟨b, 0, none⟩) 1 1) (_) rfl rfl (fun w => by simp [go_sem]; rfl) (fun wf1 fb1 hgf1 fl1 fh1 ft1 fo1 => ?_)
          (try replace HG := Gr.trans (Gr.trans HG (by (repeat (first | (with_reducible exact Gr.refl _) | assumption | (with_reducible apply Gr.from_drew) | (with_reducible apply Gr.alloc) | (with_reducible apply Gr.drew) | (with_reducible refine Gr.trans ?_ (by assumption)) | (with_reducible refine Gr.setCell ?_ (by omega) _))))) hgf1)
          (try have fc1 := (cellsOf fo1).1)
          (try have ff1 := (cellsOf fo1).2)
          refine flo_eff rfl rfl rfl rfl (fun K hK => ?_)
          refine wp_appv _ (.tmp 105) (.tmp 107) 37 rfl 56 i0 _ 6 56 Tryz.underlying37 hi hz0 hz1 hz2 rfl (by decide) (.slice a1 all.length c1) all.length (rowE all) rfl (n1.own.gr hgf1) (some ⟨fb1, 0, none⟩) 1 1 (enC ⟨e0, e1, e2, e3, e4, e5⟩) rfl (src_blk (e := ⟨e0, e1, e2, e3, e4, e5⟩) fo1) (by simp only [maxLen]; omega) (by omega) (fun k2 x2 hk2 => ?_); (have n2 := hk2.nw (n1.gr hgf1) HG.sz); (have m2 := hk2.gw (n1.gr hgf1) HG); obtain ⟨a2, c2, rfl⟩ := hk2.val; refine hK _ _ ⟨hk2.mdh (fun q hq => (hk1.2.1 q hq).elim (fun h => by rw [ownB h]; exact .inr (.inl (.inl (.inr ⟨Nat.le_refl _, by simp⟩)))) (fun h => .inr (.inl (.inr ⟨h, hk1.1.lt hq⟩)))), ?_⟩; simp only [Act.put, List.setIfInBounds_toArray, List.set_cons_succ, List.set_cons_zero]
          refine flo_nil ?_
          have g0 : Gr wr x2 := (Gr.refl wr).drew.trans m2
          have h1 := HI.out.1.new g0 (A := rowA 56 6 (.slice a2 (all.length + 1) c2) (all ++ [(⟨e0, e1, e2, e3, e4, e5⟩ : En)]).length (rowE (all ++ [(⟨e0, e1, e2, e3, e4, e5⟩ : En)]))) (by
            show Own _ _ _ _ _ _
            rw [rowE_snoc, List.length_append]
            exact n2.own) (fun k hk => by have := n2.new k hk; simpa using this)
          have hb2 : x2.heap[rb]? = some (rmO N (.slice av all.length cv)) := h1.get (i := 2) rfl
          have h2 := h1.at (i := 2) rfl ((Mdh.refl (fun k => k = rb) x2).setCell (p := ⟨rb, 1, none⟩) rfl (.slice a2 (all.length + 1) c2)) (fun k hk => .inl hk) (B := blkA rb (rmO N (.slice a2 (all.length + 1) c2))) (blkSet (j := 1) hb2) (fun k hk => .inl hk)
          have HE := Lib.hid ((h2.sub (.cons_cons _ (.cons _ (.cons_cons _ (.cons _ (List.Sublist.refl _)))))).perm (List.Perm.swap _ _ _))
          have HM : Hid (Mdh (fun k => k = rb) w (x2.setCell ⟨rb, 1, none⟩ (.slice a2 (all.length + 1) c2))) := Lib.hid (((HI.out.2.trans g0).mdh (fun k => k = rb)).setCell (p := ⟨rb, 1, none⟩) rfl _)
          obtain ⟨_, f2⟩ := cellsOf hb2
          have l2 := blkLt hb2
          clear h1 h2 hb2 g0 n1 n2 m2 hk1 hk2 HG d3
          go_wp2_with fail
          go_ret
          exact ⟨ret_int HR0.out.symm, HM.out, _, by rw [HRL.out HR0.out]; exact HE.out⟩
end Go.Proofs.YtmdfickejpeofaaGreat

/- An index that grows entry by entry, each behind those of its slot: what every builder of chapters 22, 23, 24, 28 keeps, without bounds. No walk. -/
set_option linter.unusedVariables false
set_option linter.unusedSimpArgs false
namespace Go.Proofs.YtmdfickejpeofaaGreat

structure FG (X : IX) (all : List En) (en : Int → Int) (n : Int) : Prop where
  wf : X.Wf
  ln : (X.slots.length : Int) = n
  n0 : 1 ≤ n
  pm : all.Perm X.ents
  up : ∀ e ∈ all, e.off + e.size ≤ en e.slot
  cp : ∀ a ∈ all, ∀ b ∈ all, a.seq = b.seq → a.key = b.key ∧ a.del = b.del ∧ a.size = b.size
section
variable {X : IX} {all : List En} {en : Int → Int} {n : Int}
theorem FG.mem (h : FG X all en n) (e : En) : e ∈ all ↔ e ∈ X.ents := h.pm.mem_iff
theorem FG.slot (h : FG X all en n) (s : Int) (e : En) : e ∈ X.slot s ↔ e ∈ all ∧ e.slot = s := by rw [h.mem]; exact h.wf.slot_mem s e
theorem FG.of (h : FG X all en n) (k : ByteArray) (e : En) : e ∈ X.of k ↔ e ∈ all ∧ e.key = k := by rw [h.mem]; exact h.wf.of_mem k e
theorem FG.ne (h : FG X all en n) : X.slots ≠ [] := fun h0 => by have := h.ln; have := h.n0; rw [h0] at *; simp at *; omega
theorem FG.has (h : FG X all en n) {s : Int} (h0 : 0 ≤ s) (h1 : s < n) : X.has s = true := by
  unfold IX.has
  exact decide_eq_true ⟨h0, by have := h.ln; omega⟩
theorem FG.no (h : FG X all en n) {s : Int} (h0 : s < 0 ∨ n ≤ s) : X.has s = false := by
  unfold IX.has
  exact decide_eq_false (by have := h.ln; omega)
theorem FG.len (h : FG X all en n) : (X.ents.length : Int) = all.length := by rw [h.pm.length_eq]
theorem FG.val (h : FG X all en n) {e : En} (he : e ∈ all) : keyChk e.key = 0 ∧ 1 ≤ e.seq ∧ e.seq ≤ 1099511627776 ∧ 0 ≤ e.off ∧ 16 + (e.key.size : Int) ≤ e.size ∧ (e.size = 16 + (e.key.size : Int) ∨ e.del = false) ∧ e.size ≤ 8192 ∧ e.off ≤ 8192 - e.size := (valid_iff e).1 (h.wf.valid ((h.mem e).1 he)).1
theorem FG.slots (h : FG X all en n) {e : En} (he : e ∈ all) : 0 ≤ e.slot ∧ e.slot < n := by
  have h1 := (h.wf.valid ((h.mem e).1 he)).2
  unfold IX.has at h1
  have := of_decide_eq_true h1
  have := h.ln
  omega
theorem FG.clash (h : FG X all en n) {e : En} (ho : en e.slot ≤ e.off) : clash (X.slot e.slot) e = false := by
  refine clash_end (fun o hm => ?_) (fun o hm => ?_)
  · obtain ⟨h1, h2⟩ := (h.slot _ o).1 hm
    have := h.up o h1
    rw [h2] at this
    omega
  · have := h.val ((h.slot _ o).1 hm).1
    omega
/-- An entry that goes behind those of its slot. -/
theorem FG.push (h : FG X all en n) {e : En} (a : AddOk X e) (ho : en e.slot ≤ e.off) (hc : ∀ o ∈ all, o.seq = e.seq → o.key = e.key ∧ o.del = e.del ∧ o.size = e.size) :
    FG (addX X e) (all ++ [e]) (upd en e.slot (e.off + e.size)) n := by
  have hv := (valid_iff e).1 a.valid
  have hle : ∀ s, en s ≤ upd en e.slot (e.off + e.size) s := fun s => by
    unfold upd
    split
    · rename_i h0; subst h0; omega
    · exact Int.le_refl _
  refine ⟨add_wf h.wf a, ?_, h.n0, ?_, fun o hm => ?_, fun x hx y hy hq => ?_⟩
  · rw [addX_eq a]; simp only [List.length_set]; exact h.ln
  · exact (List.perm_append_singleton e all).trans ((h.pm.cons e).trans (add_ents h.wf a).symm)
  · rcases List.mem_append.1 hm with hm | hm
    · exact Int.le_trans (h.up o hm) (hle _)
    · rw [List.mem_singleton.1 hm, upd_same]
      exact Int.le_refl _
  · rcases List.mem_append.1 hx with hx1 | hx1 <;> rcases List.mem_append.1 hy with hy1 | hy1
    · exact h.cp x hx1 y hy1 hq
    · obtain rfl := List.mem_singleton.1 hy1
      exact hc x hx1 hq
    · obtain rfl := List.mem_singleton.1 hx1
      obtain ⟨q1, q2, q3⟩ := hc y hy1 hq.symm
      exact ⟨q1.symm, q2.symm, q3.symm⟩
    · obtain rfl := List.mem_singleton.1 hx1
      obtain rfl := List.mem_singleton.1 hy1
      exact ⟨rfl, rfl, rfl⟩
/-- A new entry can be added. -/
theorem FG.okNew (h : FG X all en n) {e : En} (hq : ∀ o ∈ all, o.seq ≠ e.seq) (h0 : 0 ≤ e.slot) (h1 : e.slot < n) (hv : validE e = true) (ho : en e.slot ≤ e.off) : AddOk X e := by
  refine ⟨h.ne, h.has h0 h1, hv, fun o hm => badE_no (fun hh => absurd hh (hq o ((h.of _ o).1 hm).1)), fun o hm => ?_, h.clash ho⟩
  unfold sameE
  exact decide_eq_false (fun hh => hq o ((h.of _ o).1 hm).1 hh.1)
theorem FG.new (h : FG X all en n) {e : En} (hq : ∀ o ∈ all, o.seq ≠ e.seq) (h0 : 0 ≤ e.slot) (h1 : e.slot < n) (hv : validE e = true) (ho : en e.slot ≤ e.off) :
    addE X e = 0 ∧ FG (addX X e) (all ++ [e]) (upd en e.slot (e.off + e.size)) n :=
  have a := h.okNew hq h0 h1 hv ho
  ⟨ok_add a, h.push a ho (fun o hm hh => absurd hh (hq o hm))⟩
/-- A copy of what there is differs from no entry with its number. -/
theorem FG.copyBad (h : FG X all en n) {x e : En} (hx : x ∈ all) (he : e = { x with slot := e.slot, off := e.off }) : ∀ o ∈ X.of e.key, badE e o = false := by
  intro o hm
  obtain ⟨h1, h2⟩ := (h.of _ o).1 hm
  refine badE_no (fun hh => ?_)
  have e1 : e.seq = x.seq := by rw [he]
  have e3 : e.del = x.del := by rw [he]
  have e4 : e.size = x.size := by rw [he]
  obtain ⟨q1, q2, q3⟩ := h.cp o h1 x hx (by rw [hh, e1])
  exact En.ext' hh h2 (by rw [e3]; exact q2) rfl rfl (by rw [e4]; exact q3)
theorem FG.copyNo (h : FG X all en n) {x e : En} (hx : x ∈ all) (he : e = { x with slot := e.slot, off := e.off }) (h0 : 0 ≤ e.slot) (h1 : e.slot < n) (hv : validE e = true) (hd : ∃ o ∈ all, o.slot = e.slot ∧ o.seq = e.seq) : addE X e = 6 := by
  refine add_6 h.ne (h.has h0 h1) hv (h.copyBad hx he) ?_
  rw [Bool.or_eq_true]
  refine .inl ?_
  obtain ⟨o, hm, hh⟩ := hd
  have e1 : e.seq = x.seq := by rw [he]
  have e2 : e.key = x.key := by rw [he]
  obtain ⟨q1, _, _⟩ := h.cp o hm x hx (by rw [hh.2, e1])
  exact List.any_eq_true.2 ⟨o, (h.of _ o).2 ⟨hm, by rw [q1, e2]⟩, decide_eq_true ⟨hh.2, hh.1⟩⟩
theorem FG.copyYes (h : FG X all en n) {x e : En} (hx : x ∈ all) (he : e = { x with slot := e.slot, off := e.off }) (h0 : 0 ≤ e.slot) (h1 : e.slot < n) (hv : validE e = true) (ho : en e.slot ≤ e.off) (hd : ¬ ∃ o ∈ all, o.slot = e.slot ∧ o.seq = e.seq) :
    addE X e = 0 ∧ FG (addX X e) (all ++ [e]) (upd en e.slot (e.off + e.size)) n := by
  have e1 : e.seq = x.seq := by rw [he]
  have e2 : e.key = x.key := by rw [he]
  have e3 : e.del = x.del := by rw [he]
  have e4 : e.size = x.size := by rw [he]
  have a : AddOk X e := ⟨h.ne, h.has h0 h1, hv, h.copyBad hx he, fun o hm => by
    have h2 := (h.of _ o).1 hm
    unfold sameE
    exact decide_eq_false (fun hh => hd ⟨o, h2.1, hh.2, hh.1⟩), h.clash ho⟩
  refine ⟨ok_add a, h.push a ho (fun o hm hh => ?_)⟩
  rw [e2, e3, e4]
  exact h.cp o hm x hx (by rw [hh, e1])
/-- A slot is emptied. -/
theorem FG.drop (h : FG X all en n) {s : Int} (h0 : 0 ≤ s) (h1 : s < n) {en' : Int → Int} (he : ∀ t, t ≠ s → en t ≤ en' t) :
    dropC X s = 0 ∧ (X.slot s).length + (all.filter (fun o => !decide (o.slot = s))).length = all.length ∧ FG (dropX X s) (all.filter (fun o => !decide (o.slot = s))) en' n := by
  have hh := h.has h0 h1
  have hp := drop_ents h.wf hh
  have hw := drop_wf h.wf s
  have hne : ∀ o ∈ (dropX X s).ents, (!decide (o.slot = s)) = true := fun o ho => by
    simp only [Bool.not_eq_true', decide_eq_false_iff_not]
    intro e
    have h2 := (hw.slot_mem s o).2 ⟨ho, e⟩
    rw [drop_slot h.wf, if_pos rfl] at h2
    cases h2
  have hs : ∀ o ∈ X.slot s, ¬ (!decide (o.slot = s)) = true := fun o ho => by simp [((h.wf.slot_mem s o).1 ho).2]
  have hpm : (all.filter (fun o => !decide (o.slot = s))).Perm (dropX X s).ents := by
    have h2 := (h.pm.trans hp).filter (fun o => !decide (o.slot = s))
    rw [List.filter_append, List.filter_eq_nil_iff.2 hs, List.nil_append, List.filter_eq_self.2 hne] at h2
    exact h2
  refine ⟨if_pos hh, ?_, hw, ?_, h.n0, hpm, fun o ho => ?_, fun a ha b hb => h.cp a (List.mem_filter.1 ha).1 b (List.mem_filter.1 hb).1⟩
  · have h2 := (h.pm.trans hp).length_eq
    have h3 := hpm.length_eq
    rw [List.length_append] at h2
    omega
  · rw [drop_yes hh]; simp only [List.length_set]; exact h.ln
  · obtain ⟨h2, h3⟩ := List.mem_filter.1 ho
    simp only [Bool.not_eq_true', decide_eq_false_iff_not] at h3
    exact Int.le_trans (h.up o h2) (he _ h3)
end
theorem FG.start (n : Nat) (h1 : 1 ≤ n) (h2 : n ≤ 32) (en : Int → Int) : FG (ixNew n) [] en n :=
  ⟨new_wf h2, by simp [ixNew], by omega, by simp [ixNew, IX.ents], (fun _ h => by cases h), (fun _ h => by cases h)⟩
end Go.Proofs.YtmdfickejpeofaaGreat

/- drumlinlaw22.Made in plain Lean. No walk. -/
set_option linter.unusedVariables false
set_option linter.unusedSimpArgs false
namespace Go.Proofs.YtmdfickejpeofaaGreat

structure Tn where
  kind : Int
  slot : Int
  n : Int
  size : Int
structure Tn.Ok (t : Tn) : Prop where
  kind : 0 ≤ t.kind ∧ t.kind ≤ 255
  slot : 0 ≤ t.slot ∧ t.slot ≤ 255
  n : 0 ≤ t.n ∧ t.n ≤ 255
  size : 0 ≤ t.size ∧ t.size ≤ 255
def nmL : List ByteArray := [⟨#[97]⟩, ⟨#[98]⟩, ⟨#[97, 98]⟩, ⟨#[107, 49]⟩, ⟨#[120, 46, 121]⟩, ⟨#[122, 122]⟩]
def tnKey (n : Int) : ByteArray := nmL.getD (n % 6).toNat ⟨#[97]⟩
theorem tnKey_ok (n : Int) : keyChk (tnKey n) = 0 ∧ 1 ≤ (tnKey n).size ∧ (tnKey n).size ≤ 3 ∧ Low (tnKey n) := by
  have hl : ∀ x ∈ nmL, keyChk x = 0 ∧ 1 ≤ x.size ∧ x.size ≤ 3 ∧ Low x := by
    intro x hx
    simp only [nmL, List.mem_cons, List.not_mem_nil, or_false] at hx
    rcases hx with rfl | rfl | rfl | rfl | rfl | rfl
    all_goals
      refine ⟨by kernel_rfl, by decide, by decide, ?_⟩
      unfold Low
      decide
  have hk : (n % 6).toNat < nmL.length := by
    have h1 : 0 ≤ n % 6 ∧ n % 6 < 6 := by omega
    have h2 : nmL.length = 6 := rfl
    omega
  unfold tnKey
  rw [List.getD_eq_getElem?_getD, List.getElem?_eq_getElem hk]
  exact hl _ (List.getElem_mem hk)
structure MS where
  X : IX
  all : List En
  nx : Int
/-- Where the entries of a slot end. -/
def endF (s : Int) (a : Int) (e : En) : Int := if e.slot = s then max a (e.off + e.size) else a
def endL (all : List En) (s : Int) : Int := all.foldl (endF s) 0
theorem endL_snoc (all : List En) (e : En) (s : Int) : endL (all ++ [e]) s = endF s (endL all s) e := by simp [endL]
theorem endL_nn (all : List En) (s : Int) : 0 ≤ endL all s := by
  have h : ∀ (l : List En) (a : Int), a ≤ l.foldl (endF s) a := by
    intro l
    induction l with
    | nil => intro a; exact Int.le_refl _
    | cons e l ih =>
      intro a
      refine Int.le_trans ?_ (ih _)
      unfold endF
      split <;> omega
  exact h all 0
theorem endL_filter (all : List En) {s t : Int} (h : t ≠ s) : endL (all.filter (fun o => !decide (o.slot = s))) t = endL all t := by
  have h : ∀ (l : List En) (a : Int), (l.filter (fun o => !decide (o.slot = s))).foldl (endF t) a = l.foldl (endF t) a := by
    intro l
    induction l with
    | nil => intro a; rfl
    | cons e l ih =>
      intro a
      rw [List.filter_cons]
      by_cases he : e.slot = s
      · rw [if_neg (by simp [he]), ih, List.foldl_cons]
        congr 1
        unfold endF
        rw [if_neg (by omega)]
      · rw [if_pos (by simp [he]), List.foldl_cons, List.foldl_cons, ih]
  exact h all 0
theorem endL_zero (all : List En) (s : Int) : endL (all.filter (fun o => !decide (o.slot = s))) s = 0 := by
  have h : ∀ (l : List En), (l.filter (fun o => !decide (o.slot = s))).foldl (endF s) 0 = 0 := by
    intro l
    induction l with
    | nil => rfl
    | cons e l ih =>
      rw [List.filter_cons]
      by_cases he : e.slot = s
      · rw [if_neg (by simp [he]), ih]
      · rw [if_pos (by simp [he]), List.foldl_cons, show endF s 0 e = 0 from if_neg he, ih]
  exact h all
/-- An entry behind those of its slot. -/
def atM (st : MS) (e : En) : En := { e with off := endL st.all e.slot }
def dupM (st : MS) (e : En) : Bool := st.all.any (fun o => decide (o.slot = e.slot) && decide (o.seq = e.seq))
def addM (st : MS) (e : En) : MS := if dupM st e = true then st else ⟨addX st.X (atM st e), st.all ++ [atM st e], st.nx⟩
def newM (N : Int) (st : MS) (t : Tn) : En := ⟨st.nx, tnKey t.n, decide (t.kind % 8 = 4), t.slot % N, 0, 16 + ((tnKey t.n).size : Int) + if t.kind % 8 = 4 then 0 else t.size % 60⟩
def cpM (N : Int) (st : MS) (t : Tn) : En := { (st.all.getD (t.n % st.all.length).toNat zE) with slot := t.slot % N }
def nextM (st : MS) : MS := { st with nx := st.nx + 1 }
def dropM (st : MS) (s : Int) : MS := ⟨dropX st.X s, st.all.filter (fun o => !decide (o.slot = s)), st.nx⟩
def stepM (N : Int) (st : MS) (t : Tn) : MS :=
  if t.kind % 8 < 5 then addM (nextM st) (newM N st t)
  else if t.kind % 8 < 7 then (if st.all = [] then st else addM st (cpM N st t))
  else dropM st (t.slot % N)
def foldM (n : Nat) (L : List Tn) : MS := L.foldl (stepM n) ⟨ixNew n, [], 1⟩
theorem foldM_snoc (n : Nat) (L : List Tn) (t : Tn) : foldM n (L ++ [t]) = stepM n (foldM n L) t := by simp [foldM]
structure MS.Ok (st : MS) (N : Int) (j : Nat) : Prop where
  g : FG st.X st.all (endL st.all) N
  n : st.all.length ≤ j
  q0 : 1 ≤ st.nx
  q1 : st.nx ≤ j + 1
  u : ∀ s, endL st.all s ≤ 78 * j
  e : ∀ e ∈ st.all, 1 ≤ e.seq ∧ e.seq < st.nx ∧ Low e.key ∧ 1 ≤ e.key.size ∧ e.key.size ≤ 3 ∧ e.size ≤ 78
theorem MS.later {st : MS} {N : Int} {j j' : Nat} (h : st.Ok N j) (hj : j ≤ j') : st.Ok N j' := ⟨h.g, Nat.le_trans h.n hj, h.q0, by have := h.q1; omega, fun s => by have := h.u s; omega, h.e⟩
structure AddM (st : MS) (N : Int) (e : En) : Prop where
  slot : 0 ≤ e.slot ∧ e.slot < N
  sq : e.seq < st.nx ∧ 1 ≤ e.seq
  k : keyChk e.key = 0 ∧ 1 ≤ e.key.size ∧ e.key.size ≤ 3 ∧ Low e.key
  z : 16 + (e.key.size : Int) ≤ e.size ∧ e.size ≤ 78 ∧ (e.size = 16 + (e.key.size : Int) ∨ e.del = false)
  o : (∀ o ∈ st.all, o.seq ≠ e.seq) ∨ ∃ x ∈ st.all, x.seq = e.seq ∧ x.key = e.key ∧ x.del = e.del ∧ x.size = e.size
theorem dupM_iff {st : MS} {e : En} : dupM st e = true ↔ ∃ o ∈ st.all, o.slot = (atM st e).slot ∧ o.seq = (atM st e).seq := by
  unfold dupM
  rw [List.any_eq_true]
  simp only [Bool.and_eq_true, decide_eq_true_eq]
  exact Iff.rfl
theorem endM_upd {st : MS} {e : En} (hz : 0 ≤ e.size) : upd (endL st.all) e.slot (endL st.all e.slot + e.size) = endL (st.all ++ [atM st e]) := by
  funext s
  rw [endL_snoc]
  unfold upd endF
  by_cases h : s = e.slot
  · subst h
    rw [if_pos rfl, if_pos (show (atM st e).slot = e.slot from rfl)]
    show _ = max (endL st.all e.slot) (endL st.all e.slot + e.size)
    omega
  · rw [if_neg h, if_neg (show ¬ (atM st e).slot = s from fun hh => h hh.symm)]
theorem addM_ok {st : MS} {N : Int} {j : Nat} {e : En} (h : st.Ok N j) (hj : j ≤ 101) (a : AddM st N e) :
    (dupM st e = true → addE st.X (atM st e) = 6) ∧ (dupM st e = false → addE st.X (atM st e) = 0) ∧ (addM st e).Ok N (j + 1) ∧ Low (atM st e).key ∧ En64 (atM st e) ∧ validE (atM st e) = true ∧ 0 ≤ endL st.all e.slot ∧ endL st.all e.slot ≤ 7878 := by
  have hu := h.u e.slot
  have hu0 := endL_nn st.all e.slot
  have q1 := h.q1
  obtain ⟨z1, z2, z3⟩ := a.z
  obtain ⟨k1, k2, k3, k4⟩ := a.k
  have hv : validE (atM st e) = true := (valid_iff _).2 ⟨k1, a.sq.2, show e.seq ≤ 1099511627776 by have := a.sq.1; omega, hu0, z1, z3, show e.size ≤ (8192 : Int) by omega, show endL st.all e.slot ≤ 8192 - e.size by omega⟩
  have hpush : FG (addX st.X (atM st e)) (st.all ++ [atM st e]) (upd (endL st.all) e.slot (endL st.all e.slot + e.size)) N → (⟨addX st.X (atM st e), st.all ++ [atM st e], st.nx⟩ : MS).Ok N (j + 1) := fun g => by
    rw [endM_upd (by omega)] at g
    refine ⟨g, ?_, h.q0, by show st.nx ≤ ((j + 1 : Nat) : Int) + 1; omega, fun s => ?_, fun o ho => ?_⟩
    · show (st.all ++ [_]).length ≤ j + 1
      have := h.n
      rw [List.length_append]; simp; omega
    · have hs := h.u s
      show endL (st.all ++ [atM st e]) s ≤ 78 * ((j + 1 : Nat) : Int)
      rw [endL_snoc]
      unfold endF
      split
      · show max _ (endL st.all e.slot + e.size) ≤ _
        omega
      · omega
    · rcases List.mem_append.1 ho with ho | ho
      · exact h.e o ho
      · rw [List.mem_singleton.1 ho]
        exact ⟨a.sq.2, a.sq.1, k4, k2, k3, z2⟩
  refine ⟨fun hd => ?_, fun hd => ?_, ?_, k4, ⟨by show e.size ≤ 9223372036854775807; omega, by show -9223372036854775808 ≤ e.size; omega, by show e.key.size ≤ 140737488351232; omega⟩, hv, hu0, by omega⟩
  · have hd := dupM_iff.1 hd
    rcases a.o with ho | ⟨x, hx, e1, e2, e3, e4⟩
    · obtain ⟨o, hm, _, hq⟩ := hd
      exact absurd hq (ho o hm)
    · exact h.g.copyNo hx (En.ext' (show e.seq = x.seq from e1.symm) (show e.key = x.key from e2.symm) (show e.del = x.del from e3.symm) rfl rfl (show e.size = x.size from e4.symm)) a.slot.1 a.slot.2 hv hd
  · have hd' : ¬ ∃ o ∈ st.all, o.slot = (atM st e).slot ∧ o.seq = (atM st e).seq := fun hh => by rw [dupM_iff.2 hh] at hd; cases hd
    rcases a.o with ho | ⟨x, hx, e1, e2, e3, e4⟩
    · exact (h.g.new (e := atM st e) ho a.slot.1 a.slot.2 hv (Int.le_refl _)).1
    · exact (h.g.copyYes (e := atM st e) hx (En.ext' (show e.seq = x.seq from e1.symm) (show e.key = x.key from e2.symm) (show e.del = x.del from e3.symm) rfl rfl (show e.size = x.size from e4.symm)) a.slot.1 a.slot.2 hv (Int.le_refl _) hd').1
  · unfold addM
    split
    · exact MS.later h (by omega)
    · rename_i hd
      have hd' : ¬ ∃ o ∈ st.all, o.slot = (atM st e).slot ∧ o.seq = (atM st e).seq := fun hh => hd (dupM_iff.2 hh)
      rcases a.o with ho | ⟨x, hx, e1, e2, e3, e4⟩
      · exact hpush (h.g.new (e := atM st e) ho a.slot.1 a.slot.2 hv (Int.le_refl _)).2
      · exact hpush (h.g.copyYes (e := atM st e) hx (En.ext' (show e.seq = x.seq from e1.symm) (show e.key = x.key from e2.symm) (show e.del = x.del from e3.symm) rfl rfl (show e.size = x.size from e4.symm)) a.slot.1 a.slot.2 hv (Int.le_refl _) hd').2
theorem newM_ok {st : MS} {N : Int} {j : Nat} (h : st.Ok N j) (hN : 1 ≤ N) {t : Tn} (ht : t.Ok) : AddM (nextM st) N (newM N st t) ∧ (∀ o ∈ st.all, o.seq ≠ st.nx) := by
  obtain ⟨k1, k2, k3, k4⟩ := tnKey_ok t.n
  have hq := h.q0
  have hn : ∀ o ∈ st.all, o.seq ≠ st.nx := fun o ho => by have := (h.e o ho).2.1; omega
  refine ⟨⟨⟨Int.emod_nonneg _ (by omega), Int.emod_lt_of_pos _ (by omega)⟩, ⟨by show st.nx < st.nx + 1; omega, hq⟩, ⟨k1, k2, k3, k4⟩, ?_, .inl hn⟩, hn⟩
  show 16 + ((tnKey t.n).size : Int) ≤ 16 + ((tnKey t.n).size : Int) + (if t.kind % 8 = 4 then 0 else t.size % 60) ∧ 16 + ((tnKey t.n).size : Int) + (if t.kind % 8 = 4 then 0 else t.size % 60) ≤ 78 ∧ (16 + ((tnKey t.n).size : Int) + (if t.kind % 8 = 4 then 0 else t.size % 60) = 16 + ((tnKey t.n).size : Int) ∨ decide (t.kind % 8 = 4) = false)
  by_cases hd : t.kind % 8 = 4
  · rw [if_pos hd]
    exact ⟨by omega, by omega, .inl (by omega)⟩
  · rw [if_neg hd]
    exact ⟨by omega, by omega, .inr (decide_eq_false hd)⟩
theorem cpM_mem {st : MS} (hne : st.all ≠ []) (n : Int) (hn : 0 ≤ n) : st.all.getD (n % st.all.length).toNat zE ∈ st.all := by
  have hl : 0 < st.all.length := List.length_pos_iff.2 hne
  have h1 := Int.emod_lt_of_pos n (show (0 : Int) < st.all.length by omega)
  have h2 := Int.emod_nonneg n (show (st.all.length : Int) ≠ 0 by omega)
  have h3 : (n % st.all.length).toNat < st.all.length := by omega
  rw [List.getD_eq_getElem?_getD, List.getElem?_eq_getElem h3]
  exact List.getElem_mem h3
theorem cpM_ok {st : MS} {N : Int} {j : Nat} (h : st.Ok N j) (hN : 1 ≤ N) (hne : st.all ≠ []) {t : Tn} (ht : t.Ok) : AddM st N (cpM N st t) := by
  have hx := cpM_mem hne t.n ht.n.1
  unfold cpM
  generalize st.all.getD (t.n % st.all.length).toNat zE = x at *
  obtain ⟨h1, h2, h3, h4, h5, h6⟩ := h.e x hx
  have hv := h.g.val hx
  exact ⟨⟨Int.emod_nonneg _ (by omega), Int.emod_lt_of_pos _ (by omega)⟩, ⟨h2, h1⟩, ⟨hv.1, h4, h5, h3⟩, ⟨hv.2.2.2.2.1, h6, hv.2.2.2.2.2.1⟩, .inr ⟨x, hx, rfl, rfl, rfl, rfl⟩⟩
theorem dropM_ok {st : MS} {N : Int} {j : Nat} (h : st.Ok N j) {s : Int} (h0 : 0 ≤ s) (h1 : s < N) : (dropM st s).Ok N j ∧ dropC st.X s = 0 ∧ (st.X.slot s).length + (st.all.filter (fun o => !decide (o.slot = s))).length = st.all.length := by
  obtain ⟨d1, d2, d3⟩ := h.g.drop h0 h1 (en' := endL (st.all.filter (fun o => !decide (o.slot = s)))) (fun t ht => by rw [endL_filter _ ht]; exact Int.le_refl _)
  refine ⟨⟨d3, Nat.le_trans (List.length_filter_le _ _) h.n, h.q0, h.q1, fun t => ?_, fun e he => h.e e (List.mem_filter.1 he).1⟩, d1, d2⟩
  show endL (st.all.filter (fun o => !decide (o.slot = s))) t ≤ _
  by_cases ht : t = s
  · subst ht; rw [endL_zero]; omega
  · rw [endL_filter _ ht]; exact h.u t
theorem nextM_ok {st : MS} {N : Int} {j : Nat} (h : st.Ok N j) : st.nx + 1 ≤ (j + 1 : Nat) + 1 := by have := h.q1; omega
/-- One turn more. -/
theorem stepM_ok {st : MS} {N : Int} {j : Nat} (h : st.Ok N j) (hj : j < 100) (hN : 1 ≤ N) {t : Tn} (ht : t.Ok) : (stepM N st t).Ok N (j + 1) := by
  unfold stepM
  split
  · have hn : (nextM st).Ok N (j + 1) := ⟨h.g, Nat.le_succ_of_le h.n, by have := h.q0; show 1 ≤ st.nx + 1; omega, by have := h.q1; show st.nx + 1 ≤ ((j + 1 : Nat) : Int) + 1; omega, fun s => by have := h.u s; show endL st.all s ≤ _; omega, fun e he => by
      obtain ⟨h1, h2, h3⟩ := h.e e he
      exact ⟨h1, by show e.seq < st.nx + 1; omega, h3⟩⟩
    obtain ⟨a, hq⟩ := newM_ok h hN ht
    -- the sizes are those of the state before
    have hn0 : addM (nextM st) (newM N st t) = ⟨addX st.X (atM st (newM N st t)), st.all ++ [atM st (newM N st t)], st.nx + 1⟩ := by
      unfold addM
      rw [if_neg (fun hd => by
        obtain ⟨o, ho, _, h2⟩ := dupM_iff.1 hd
        exact hq o ho h2)]
      rfl
    obtain ⟨_, _, b3, _⟩ := addM_ok (st := ⟨st.X, st.all, st.nx + 1⟩) (j := j + 1) hn (by omega) a
    rw [hn0]
    refine ⟨(show (addM (nextM st) (newM N st t)).Ok N (j + 1 + 1) from b3).g |> (fun g => by rw [hn0] at g; exact g), ?_, ?_, ?_, fun s => ?_, ?_⟩
    · show (st.all ++ [_]).length ≤ j + 1
      have := h.n
      rw [List.length_append]; simp; omega
    · have := h.q0; show 1 ≤ st.nx + 1; omega
    · have := h.q1; show st.nx + 1 ≤ ((j + 1 : Nat) : Int) + 1; omega
    · show endL (st.all ++ [atM st (newM N st t)]) s ≤ 78 * ((j + 1 : Nat) : Int)
      rw [endL_snoc]
      have hs := h.u s
      have hz := a.z
      unfold endF
      split
      · rename_i he
        have hs2 : (newM N st t).slot = s := he
        show max _ (endL st.all (newM N st t).slot + (newM N st t).size) ≤ _
        rw [hs2]
        omega
      · omega
    · have := (show (addM (nextM st) (newM N st t)).Ok N (j + 1 + 1) from b3).e
      rw [hn0] at this
      exact this
  · split
    · split
      · exact MS.later h (by omega)
      · rename_i hne
        exact (addM_ok h (by omega) (cpM_ok h hN hne ht)).2.2.1
    · exact MS.later (dropM_ok h (Int.emod_nonneg _ (by omega)) (Int.emod_lt_of_pos _ (by omega))).1 (by omega)
theorem foldM_ok (n : Nat) (h1 : 1 ≤ n) (h2 : n ≤ 32) : ∀ (j : Nat) (L : List Tn), L.length = j → j ≤ 100 → (∀ t ∈ L, t.Ok) → (foldM n L).Ok n j
  | 0, L, hL, _, _ => by
    rw [List.eq_nil_of_length_eq_zero hL]
    exact ⟨FG.start n h1 h2 _, by show 0 ≤ 0; omega, by show (1 : Int) ≤ 1; omega, by show (1 : Int) ≤ 0 + 1; omega, fun s => by show (0 : Int) ≤ 78 * 0; omega, (fun _ h => by cases h)⟩
  | j + 1, L, hL, hj, ht => by
    have hne : L ≠ [] := fun h => by rw [h] at hL; cases hL
    have e := List.dropLast_concat_getLast hne
    have h3 := foldM_ok n h1 h2 j L.dropLast (by rw [List.length_dropLast]; omega) (by omega) (fun m h => ht m (List.dropLast_subset L h))
    rw [← e, foldM_snoc]
    exact stepM_ok h3 (by omega) (by omega) (ht _ (List.getLast_mem hne))
end Go.Proofs.YtmdfickejpeofaaGreat
