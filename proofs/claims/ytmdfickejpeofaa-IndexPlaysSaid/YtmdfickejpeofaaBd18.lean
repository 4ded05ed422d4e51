/- drumlinref05's Common and Order: how two keys compare. -/
import Derived.Test.YtmdfickejpeofaaBd11
import Derived.Test.YtmdfickejpeofaaBd17
import Derived.Test.YtmdfickejpeofaaBd15
import Derived.Test.YtmdfickejpeofaaBd16
import Derived.Test.YtmdfickejpeofaaBd13
import Derived.Test.YtmdfickejpeofaaBd10
import Derived.Test.YtmdfickejpeofaaBd12
import Derived.Test.YtmdfickejpeofaaBd2
import Derived.Deep.Slices
import Derived.Deep.Fields
import Derived.ChangeSame
import Derived.ChangeArms
import Derived.OpenShut
import Derived.ShutString
import Derived.ChangeOld
import Derived.Lib.SmallJoins
import Derived.Test.YtmdfickejpeofaaBd6
set_option linter.unusedVariables false
set_option linter.unusedSimpArgs false
namespace Go.Proofs.Ytmdfickejpeofaa
open Go.RowKit Go.Shelf
attribute [local go_sem] OvM cell_ovm obj_ovm

theorem bl_at : ∀ (i : Nat) (l m : List UInt8), i ≤ l.length → i ≤ m.length → (∀ j, j < i → l[j]? = m[j]?) → Op.bytesLess l m = Op.bytesLess (l.drop i) (m.drop i)
  | 0, _, _, _, _, _ => rfl
  | i + 1, [], _, h, _, _ => by simp at h
  | i + 1, _ :: _, [], _, h, _ => by simp at h
  | i + 1, a :: l, b :: m, h1, h2, h3 => by
    have e : a = b := by simpa using h3 0 (by omega)
    subst e
    have hr := bl_at i l m (by simpa using h1) (by simpa using h2) (fun j hj => by simpa using h3 (j + 1) (by omega))
    rw [List.drop_succ_cons, List.drop_succ_cons, ← hr]
    simp [Op.bytesLess]
/-- What Common returns. -/
structure ComP (a b : ByteArray) (i : Nat) : Prop where
  l : i ≤ a.size
  r : i ≤ b.size
  e : ∀ j (h1 : j < a.size) (h2 : j < b.size), j < i → a[j]'h1 = b[j]'h2
  n : ∀ (h1 : i < a.size) (h2 : i < b.size), a[i]'h1 ≠ b[i]'h2
theorem ba_at {a : ByteArray} {j : Nat} (h : j < a.size) : a.toList[j]? = some (a[j]'h) := by
  rw [toList_data, List.getElem?_eq_getElem (by rw [← size_data]; exact h)]
  rfl
theorem ba_len (a : ByteArray) : a.toList.length = a.size := by rw [toList_data, size_data]
section
variable {a b : ByteArray} {i : Nat}
theorem ComP.symm (h : ComP a b i) : ComP b a i := ⟨h.r, h.l, fun j h1 h2 hj => (h.e j h2 h1 hj).symm, fun h1 h2 => (h.n h2 h1).symm⟩
theorem ComP.bl (h : ComP a b i) : ltS a b = Op.bytesLess (a.toList.drop i) (b.toList.drop i) :=
  bl_at i _ _ (by rw [ba_len]; exact h.l) (by rw [ba_len]; exact h.r) (fun j hj => by
    have h1 : j < a.size := Nat.lt_of_lt_of_le hj h.l
    have h2 : j < b.size := Nat.lt_of_lt_of_le hj h.r
    rw [ba_at h1, ba_at h2, h.e j h1 h2 hj])
theorem ComP.endL (h : ComP a b i) (h1 : i = a.size) : ltS a b = decide (i < b.size) := by
  rw [h.bl, List.drop_eq_nil_of_le (by rw [ba_len]; omega)]
  by_cases h2 : i < b.size
  · rw [List.drop_eq_getElem_cons (by rw [ba_len]; exact h2), decide_eq_true h2]
    rfl
  · rw [List.drop_eq_nil_of_le (by rw [ba_len]; omega), decide_eq_false h2]
    rfl
theorem ComP.mid (h : ComP a b i) (h1 : i < a.size) (h2 : i < b.size) : ltS a b = decide (a[i]'h1 < b[i]'h2) := by
  have e1 : a.toList[i]'(by rw [ba_len]; exact h1) = a[i]'h1 := by
    have := ba_at h1
    rw [List.getElem?_eq_getElem (by rw [ba_len]; exact h1)] at this
    exact Option.some.inj this
  have e2 : b.toList[i]'(by rw [ba_len]; exact h2) = b[i]'h2 := by
    have := ba_at h2
    rw [List.getElem?_eq_getElem (by rw [ba_len]; exact h2)] at this
    exact Option.some.inj this
  rw [h.bl, List.drop_eq_getElem_cons (l := a.toList) (i := i) (by rw [ba_len]; exact h1), List.drop_eq_getElem_cons (l := b.toList) (i := i) (by rw [ba_len]; exact h2), e1, e2, Op.bytesLess]
  have hn := h.n h1 h2
  have : (a[i]'h1 == b[i]'h2) = false := beq_false_of_ne hn
  rw [this, Bool.false_and, Bool.or_false]
theorem ComP.endR (h : ComP a b i) (h1 : i < a.size) (h2 : i = b.size) : ltS a b = false ∧ ltS b a = true := by
  have h3 : ltS b a = true := by rw [h.symm.endL h2, decide_eq_true h1]
  refine ⟨?_, h3⟩
  cases h4 : ltS a b with
  | false => rfl
  | true => have h5 := ordS.trn h4 h3; rw [ordS.irr] at h5; cases h5
end
/-- What Order says. -/
def ordB (a b : ByteArray) : Int := if ltS a b = true then -1 else if ltS b a = true then 1 else 0
theorem ordB_neg (a b : ByteArray) : decide (ordB a b < 0) = ltS a b := by
  unfold ordB
  cases ltS a b <;> cases ltS b a <;> rfl
theorem ordB_pos (a b : ByteArray) : decide (0 < ordB a b) = ltS b a := by
  unfold ordB
  cases h : ltS a b with
  | true =>
    cases h2 : ltS b a with
    | false => rfl
    | true => have h5 := ordS.trn h h2; rw [ordS.irr] at h5; cases h5
  | false => cases ltS b a <;> rfl
set_option maxRecDepth 40000 in
set_option maxHeartbeats 2000000 in
theorem Common5 (a b : ByteArray) (ha : a.size ≤ 140737488351232) (hb : b.size ≤ 140737488351232) (w : World) : Calls Try.prog 181 #[.string a, .string b] w fun e w' => (∃ i : Nat, e = .returned (.int .i64 i) ∧ ComP a b i) ∧ Gr w w' := by
  go_enter Try.func181, Try.ntmps181
  go_wp2_with fail
  go_loopw [5] (fun t5 wx => ∃ i : Nat, i ≤ a.size ∧ i ≤ b.size ∧ t5 = .int .i64 i ∧ Hid ((∀ j (h1 : j < a.size) (h2 : j < b.size), j < i → a[j]'h1 = b[j]'h2) ∧ Gr w wx)) (fun t5 _ => a.size - (intOf t5).toNat)
  case atStart => exact ⟨0, by omega, by omega, rfl, Lib.hid ⟨fun j h1 h2 h => by omega, Gr.refl w⟩⟩
  case round =>
    obtain ⟨i, hi1, hi2, rfl, HR⟩ := hrel
    have HG := Lib.hid HR.out.2
    by_cases h1 : i < a.size
    · have h1' : (i : Int) < a.size := by omega
      by_cases h2 : i < b.size
      · have h2' : (i : Int) < b.size := by omega
        by_cases he : a[i]'h1 = b[i]'h2
        · have he' : (((a[i]'h1).toNat : Int) == ((b[i]'h2).toNat : Int)) = true := by rw [he]; exact beq_iff_eq.2 rfl
          have HE := Lib.hid he
          clear he
          go_wp2_with fail
          refine wp_region_flo (fun _ => False) [] [] (by kernel_rfl) (by kernel_rfl) (fun _ h => h.elim) ?_
          refine flo_seg 19 rfl ?_
          simp only [List.take_succ_cons, List.take_zero, List.drop_succ_cons, List.drop_zero]
          repeat (go_big_quiet_step (fail))
          refine wpQuiet_nil ?_
          refine flo_nil ?_
          go_wp2_with fail
          go_roundw
          case rel => exact ⟨i + 1, by omega, by omega, by go_num, Lib.hid ⟨fun j q1 q2 hj => by
            by_cases hji : j < i
            · exact HR.out.1 j q1 q2 hji
            · obtain rfl : j = i := by omega
              exact HE.out, HG.out.trans (Gr.refl wr).drew⟩⟩
          case measure => simp [intOf]; omega
        · have he' : (((a[i]'h1).toNat : Int) == ((b[i]'h2).toNat : Int)) = false := beq_false_of_ne (fun h => he (UInt8.toNat_inj.1 (by omega)))
          have HC : Hid (ComP a b i) := Lib.hid ⟨hi1, hi2, HR.out.1, fun _ _ => he⟩
          clear he
          go_wp2_with fail
          refine wp_region_flo (fun _ => False) [] [] (by kernel_rfl) (by kernel_rfl) (fun _ h => h.elim) ?_
          refine flo_seg 19 rfl ?_
          simp only [List.take_succ_cons, List.take_zero, List.drop_succ_cons, List.drop_zero]
          repeat (go_big_quiet_step (fail))
          refine wpQuiet_nil ?_
          refine flo_nil ?_
          go_wp2_with fail
          go_ret
          exact ⟨⟨i, rfl, HC.out⟩, HG.out.trans (Gr.refl wr).drew⟩
      · have h2' : ¬ (i : Int) < b.size := by omega
        have HC : Hid (ComP a b i) := Lib.hid ⟨hi1, hi2, HR.out.1, fun _ q => absurd q h2⟩
        go_wp2_with fail
        refine wp_region_flo (fun _ => False) [] [] (by kernel_rfl) (by kernel_rfl) (fun _ h => h.elim) ?_
        refine flo_seg 19 rfl ?_
        simp only [List.take_succ_cons, List.take_zero, List.drop_succ_cons, List.drop_zero]
        repeat (go_big_quiet_step (fail))
        refine wpQuiet_nil ?_
        refine flo_nil ?_
        go_wp2_with fail
        go_ret
        exact ⟨⟨i, rfl, HC.out⟩, HG.out.trans (Gr.refl wr).drew⟩
    · have h1' : ¬ (i : Int) < a.size := by omega
      have HC : Hid (ComP a b i) := Lib.hid ⟨hi1, hi2, HR.out.1, fun q _ => absurd q h1⟩
      go_wp2_with fail
      refine wp_region_flo (fun _ => False) [] [] (by kernel_rfl) (by kernel_rfl) (fun _ h => h.elim) ?_
      refine flo_seg 19 rfl ?_
      simp only [List.take_succ_cons, List.take_zero, List.drop_succ_cons, List.drop_zero]
      repeat (go_big_quiet_step (fail))
      refine wpQuiet_nil ?_
      refine flo_nil ?_
      go_wp2_with fail
      go_ret
      exact ⟨⟨i, rfl, HC.out⟩, HG.out.trans (Gr.refl wr).drew⟩
set_option maxRecDepth 40000 in
set_option maxHeartbeats 2000000 in
theorem Order5 (a b : ByteArray) (ha : a.size ≤ 140737488351232) (hb : b.size ≤ 140737488351232) (w : World) : Calls Try.prog 159 #[.string a, .string b] w fun e w' => e = .returned (.int .i64 (ordB a b)) ∧ Gr w w' := by
  have HZ : Hid (ordB a b = if ltS a b = true then -1 else if ltS b a = true then 1 else 0) := Lib.hid rfl
  generalize ordB a b = z at *
  go_enter Try.func159, Try.ntmps159
  go_upto_region 2 with (go_at_call 181; refine (Common5 a b ha hb _).mono ?_; rintro e w1 ⟨⟨i, rfl, hc⟩, hg⟩; have HC := Lib.hid hc; have HG := Lib.hid hg; clear hc hg)
  have hi1 := HC.out.l
  have hi2 := HC.out.r
  by_cases h1 : i = a.size
  · have b1 : ((i : Int) == (a.size : Int)) = true := beq_iff_eq.2 (by omega)
    by_cases h2 : i = b.size
    · have b2 : ((i : Int) == (b.size : Int)) = true := beq_iff_eq.2 (by omega)
      have HR : Hid (z = 0) := Lib.hid (by rw [HZ.out, HC.out.endL h1, HC.out.symm.endL h2, decide_eq_false (by omega), decide_eq_false (by omega)]; rfl)
      go_wp2_with fail
      go_ret
      exact ⟨ret_int HR.out.symm, HG.out⟩
    · have b2 : ((i : Int) == (b.size : Int)) = false := beq_false_of_ne (by omega)
      have HR : Hid (z = -1) := Lib.hid (by rw [HZ.out, HC.out.endL h1, decide_eq_true (by omega), if_pos rfl])
      go_wp2_with fail
      refine wp_region_flo (fun _ => False) [] [] (by kernel_rfl) (by kernel_rfl) (fun _ h => h.elim) ?_
      refine flo_seg 19 rfl ?_
      simp only [List.take_succ_cons, List.take_zero, List.drop_succ_cons, List.drop_zero]
      repeat (go_big_quiet_step (fail))
      refine wpQuiet_nil ?_
      refine flo_nil ?_
      go_wp2_with fail
      go_ret
      exact ⟨ret_int HR.out.symm, HG.out.trans (Gr.refl _).drew⟩
  · have b1 : ((i : Int) == (a.size : Int)) = false := beq_false_of_ne (by omega)
    have h1s : i < a.size := by omega
    by_cases h2 : i < b.size
    · have b2 : (i : Int) < b.size := by omega
      by_cases h3 : a[i]'h1s < b[i]'h2
      · have b3 : (((a[i]'h1s).toNat : Int) < ((b[i]'h2).toNat : Int)) := by have := UInt8.lt_iff_toNat_lt.1 h3; omega
        have HR : Hid (z = -1) := Lib.hid (by rw [HZ.out, HC.out.mid h1s h2, decide_eq_true h3, if_pos rfl])
        clear h3
        go_wp2_with fail
        refine wp_region_flo (fun _ => False) [] [] (by kernel_rfl) (by kernel_rfl) (fun _ h => h.elim) ?_
        refine flo_seg 19 rfl ?_
        simp only [List.take_succ_cons, List.take_zero, List.drop_succ_cons, List.drop_zero]
        repeat (go_big_quiet_step (fail))
        refine wpQuiet_nil ?_
        refine flo_nil ?_
        go_wp2_with fail
        go_ret
        exact ⟨ret_int HR.out.symm, HG.out.trans (Gr.refl _).drew⟩
      · have b3 : ¬ (((a[i]'h1s).toNat : Int) < ((b[i]'h2).toNat : Int)) := fun h => h3 (UInt8.lt_iff_toNat_lt.2 (by omega))
        have h4 : b[i]'h2 < a[i]'h1s := UInt8.lt_iff_toNat_lt.2 (by
          have h5 : (a[i]'h1s).toNat ≠ (b[i]'h2).toNat := fun h => HC.out.n h1s h2 (UInt8.toNat_inj.1 h)
          omega)
        have HR : Hid (z = 1) := Lib.hid (by rw [HZ.out, HC.out.mid h1s h2, HC.out.symm.mid h2 h1s, decide_eq_false h3, decide_eq_true h4]; rfl)
        clear h3 h4
        go_wp2_with fail
        refine wp_region_flo (fun _ => False) [] [] (by kernel_rfl) (by kernel_rfl) (fun _ h => h.elim) ?_
        refine flo_seg 19 rfl ?_
        simp only [List.take_succ_cons, List.take_zero, List.drop_succ_cons, List.drop_zero]
        repeat (go_big_quiet_step (fail))
        refine wpQuiet_nil ?_
        refine flo_nil ?_
        go_wp2_with fail
        go_ret
        exact ⟨ret_int HR.out.symm, HG.out.trans (Gr.refl _).drew⟩
    · have b2 : ¬ (i : Int) < b.size := by omega
      have h2e : i = b.size := by omega
      have HR : Hid (z = 1) := Lib.hid (by rw [HZ.out, (HC.out.endR h1s h2e).1, (HC.out.endR h1s h2e).2]; rfl)
      clear h2e
      go_wp2_with fail
      refine wp_region_flo (fun _ => False) [] [] (by kernel_rfl) (by kernel_rfl) (fun _ h => h.elim) ?_
      refine flo_seg 19 rfl ?_
      simp only [List.take_succ_cons, List.take_zero, List.drop_succ_cons, List.drop_zero]
      repeat (go_big_quiet_step (fail))
      refine wpQuiet_nil ?_
      refine flo_nil ?_
      go_wp2_with fail
      go_ret
      exact ⟨ret_int HR.out.symm, HG.out.trans (Gr.refl _).drew⟩
end Go.Proofs.Ytmdfickejpeofaa

/- drumlinref21's Keys: again and again the least key that is greater than the last one. -/
set_option linter.unusedVariables false
set_option linter.unusedSimpArgs false
namespace Go.Proofs.Ytmdfickejpeofaa
open Go.RowKit Go.Shelf
attribute [local go_sem] OvM cell_ovm obj_ovm
attribute [local go_sem] Oper.semAt_some

def KyP (X : IX) (w : World) (e : Ending) (w' : World) : Prop := ∃ v, e = .returned v ∧ Nw w w' 9 1 v X.ks.length (kS X.ks) ∧ Gr w w'
theorem key_32 {e : En} (h : validE e = true) : e.key.size ≤ 32 := by
  have h1 := ((valid_iff e).1 h).1
  unfold keyChk at h1
  split at h1
  · cases h1
  · split at h1
    · cases h1
    · split at h1
      · cases h1
      · omega
set_option maxRecDepth 40000 in
set_option maxHeartbeats 8000000 in
theorem rKeys_any {w : World} {rb : Nat} {N : Int} {v : Value} {all : List En} {X : IX} (h : w.heap[rb]? = some (rmO N v)) (hN : 0 < N) (ho : Own w 53 6 v all.length (rowE all)) (hw : X.Wf) (hp : all.Perm X.ents) (h1000 : all.length ≤ 1000) :
    Calls Try.prog 109 #[.pointer (some ⟨rb, 0, none⟩)] w (KyP X w) := by
  have HB := Lib.hid h
  have HO := Lib.hid ho
  have HV := Lib.hid (fun W (g : Gr w W) => rvalid (g.blk h) hN)
  have HDN := Lib.hid (fun (n : Nat) (best : ByteArray) (hk : KyI all (lastK X n) best all.length) hn hb => KyI.done hw hp (n := n) (best := best) hk hn hb)
  have HNX := Lib.hid (fun (n : Nat) (best : ByteArray) (hk : KyI all (lastK X n) best all.length) hn hb => KyI.next hw hp (n := n) (best := best) hk hn hb)
  have H32 := Lib.hid (fun (e : En) (he : e ∈ all) => key_32 (hw.valid (hp.mem_iff.1 he)).1)
  have H32L : Hid (∀ n, (lastK X n).size ≤ 32) := Lib.hid (fun n => by
    cases n with
    | zero => exact Nat.zero_le _
    | succ n =>
      show (X.ks.getD n ⟨#[]⟩).size ≤ 32
      rw [List.getD_eq_getElem?_getD]
      cases hk : X.ks[n]? with
      | none => exact Nat.zero_le _
      | some k =>
        obtain ⟨x, hx, hxk⟩ := (ks_all hw hp k).1 (List.mem_of_getElem? hk)
        rw [Option.getD_some, ← hxk]
        exact key_32 (hw.valid (hp.mem_iff.1 hx)).1)
  have hks := ks_le hw hp
  have hks2 : X.ks.length ≤ 1000 := by omega
  obtain ⟨a, c, rfl, hc, hm, _⟩ := ownE_at ho
  unfold maxLen at hm
  obtain ⟨i0, hi, hz0, hz1, hz2⟩ := info_parts info_str
  clear h ho hw hp hks
  go_enter Try.func109, Try.ntmps109
  go_wp2_with (go_at_call 85; refine Calls.mono (HV.out _ (Gr.refl _)) ?_; rintro e w1 ⟨rfl, rfl⟩)
  go_loopw [3, 4] (fun t3 t4 wx => ∃ (n : Nat) (a3 : Option Addr) (c3 : Nat), n ≤ X.ks.length ∧ t3 = .slice a3 n c3 ∧ t4 = .string (lastK X n) ∧ Hid (Nw w wx 9 1 (.slice a3 n c3) n (kS (X.ks.take n)) ∧ Gr w wx)) (fun t3 _ _ => X.ks.length - (match t3 with | .slice _ m _ => m | _ => 0))
  case atStart => exact ⟨0, none, 0, by omega, rfl, rfl, Lib.hid ⟨Nw.nil w _ _, Gr.refl _⟩⟩
  case round =>
    obtain ⟨n, a3, c3, hn, rfl, rfl, HR⟩ := hrel
    have HL := Lib.hid (show lastK X n = lastK X n from rfl)
    obtain ⟨last, hlast⟩ : ∃ l, l = lastK X n := ⟨_, rfl⟩
    have HLA := Lib.hid hlast
    have hl32 : last.size ≤ 32 := by rw [hlast]; exact H32L.out n
    rw [← hlast]
    clear hlast HL
    go_wp2_with fail
    go_loopw [5, 6] (fun t5 t6 wx => ∃ (i : Nat) (best : ByteArray), i ≤ all.length ∧ t5 = .string best ∧ t6 = .int .i64 i ∧ Hid (KyI all last best i ∧ best.size ≤ 32 ∧ Gr wr wx)) (fun _ t6 _ => all.length - (intOf t6).toNat)
    case atStart => exact ⟨0, ⟨#[]⟩, by omega, rfl, rfl, Lib.hid ⟨KyI.start, Nat.zero_le _, Gr.refl _⟩⟩
    case round =>
      obtain ⟨i, best, hil, rfl, rfl, HI⟩ := hrel
      have c1 := ((cellsOf ((HR.out.2.trans HI.out.2.2).blk HB.out)).1 1).trans (show _ = some (Value.slice a all.length c) from rfl)
      have hb32 := HI.out.2.1
      by_cases hlt : i < all.length
      · have hlt' : (i : Int) < all.length := by omega
        obtain ⟨x, hx⟩ : ∃ x, all[i]? = some x := ⟨_, List.getElem?_eq_getElem hlt⟩
        have hx32 := H32.out x (List.mem_of_getElem? hx)
        obtain ⟨g0, rfl, hg0, _, y1, _, _, _, _⟩ := ent6 (HO.out.gr (HR.out.2.trans HI.out.2.2)) hx
        have HLOW := Lib.hid (fun h => HI.out.1.low hx h)
        have HKEEP := Lib.hid (fun h1 h2 => HI.out.1.keep hx h1 h2)
        have HTAKE := Lib.hid (fun h1 h2 => HI.out.1.take hx h1 h2)
        clear hx
        generalize x.key = k at *
        have HP1 := Lib.hid (ordB_pos k last)
        have HP2 := Lib.hid (ordB_neg k best)
        by_cases q1 : 0 < ordB k last
        · have hl1 : Hid (ltS last k = true) := Lib.hid (by rw [← HP1.out]; exact decide_eq_true q1)
          by_cases q2 : best.size = 0
          · obtain rfl := size_emp q2
            go_wp2_with (go_at_call 159; refine (Order5 _ _ (by omega) (by omega) _).mono ?_; rintro e w5 ⟨rfl, hg⟩; first | (have HG6 := Lib.hid (HG5.out.trans hg); clear hg) | (have HG5 := Lib.hid hg; clear hg))
            go_roundw
            case rel => exact ⟨i + 1, k, by omega, rfl, by go_num, Lib.hid ⟨HTAKE.out hl1.out (.inl rfl), hx32, HI.out.2.2.trans HG5.out⟩⟩
            case measure => simp [intOf]; omega
          · have e1 : best.toList.isEmpty = false := by
              have hl := ba_len best
              cases hk : best.toList with
              | nil => rw [hk] at hl; exact absurd hl.symm q2
              | cons a b => rfl
            have Q2 := Lib.hid q2
            clear q2
            by_cases q3 : ordB k best < 0
            · have hg1 : Hid (ltS k best = true) := Lib.hid (by rw [← HP2.out]; exact decide_eq_true q3)
              go_wp2_with (go_at_call 159; refine (Order5 _ _ (by omega) (by omega) _).mono ?_; rintro e w5 ⟨rfl, hg⟩; first | (have HG6 := Lib.hid (HG5.out.trans hg); clear hg) | (have HG5 := Lib.hid hg; clear hg))
              go_roundw
              case rel => exact ⟨i + 1, k, by omega, rfl, by go_num, Lib.hid ⟨HTAKE.out hl1.out (.inr hg1.out), hx32, HI.out.2.2.trans HG6.out⟩⟩
              case measure => simp [intOf]; omega
            · have hg1 : Hid (ltS k best = false) := Lib.hid (by rw [← HP2.out]; exact decide_eq_false q3)
              go_wp2_with (go_at_call 159; refine (Order5 _ _ (by omega) (by omega) _).mono ?_; rintro e w5 ⟨rfl, hg⟩; first | (have HG6 := Lib.hid (HG5.out.trans hg); clear hg) | (have HG5 := Lib.hid hg; clear hg))
              go_roundw
              case rel => exact ⟨i + 1, best, by omega, rfl, by go_num, Lib.hid ⟨HKEEP.out Q2.out hg1.out, hb32, HI.out.2.2.trans HG6.out⟩⟩
              case measure => simp [intOf]; omega
        · have hl1 : Hid (ltS last k = false) := Lib.hid (by rw [← HP1.out]; exact decide_eq_false q1)
          go_wp2_with (go_at_call 159; refine (Order5 _ _ (by omega) (by omega) _).mono ?_; rintro e w5 ⟨rfl, hg⟩; first | (have HG6 := Lib.hid (HG5.out.trans hg); clear hg) | (have HG5 := Lib.hid hg; clear hg))
          go_roundw
          case rel => exact ⟨i + 1, best, by omega, rfl, by go_num, Lib.hid ⟨HLOW.out hl1.out, hb32, HI.out.2.2.trans HG5.out⟩⟩
          case measure => simp [intOf]; omega
      · have hlt' : ¬ (i : Int) < all.length := by omega
        have hie : i = all.length := by omega
        have HK : Hid (KyI all last best all.length) := Lib.hid (hie ▸ HI.out.1)
        have HGI := Lib.hid (HR.out.2.trans HI.out.2.2)
        have HG2 := Lib.hid HI.out.2.2
        clear hie HI
        by_cases q2 : best.size = 0
        · have HE : Hid (KyP X w (.returned (.slice a3 n c3)) wr) := Lib.hid (by
            have hne := HDN.out n best (HLA.out ▸ HK.out) hn q2
            refine ⟨_, rfl, ?_, HGI.out⟩
            have h1 := HR.out.1.gr HG2.out
            rw [hne, List.take_length] at h1
            rw [hne]
            exact h1)
          obtain rfl := size_emp q2
          go_wp2_with fail
          go_ret
          exact HE.out
        · have e1 : best.toList.isEmpty = false := by
            have hl := ba_len best
            cases hk : best.toList with
            | nil => rw [hk] at hl; exact absurd hl.symm q2
            | cons a b => rfl
          have HX := Lib.hid (HNX.out n best (HLA.out ▸ HK.out) hn q2)
          have hnl : n < X.ks.length := (List.getElem?_eq_some_iff.1 HX.out).1
          have HR2 : Hid (Nw w wr 9 1 (.slice a3 n c3) n (kS (X.ks.take n))) := Lib.hid (HR.out.1.gr HG2.out)
          clear q2 HK
          go_wp2_with (first
            | (at_builtin; go_must (refine wpList_appv _ rfl (.tmp 46) (.tmp 48) 171 rfl 9 i0 _ 1 16 Try.underlying171 hi hz0 hz1 hz2 rfl (by decide) (.slice a3 n c3) n (kS (X.ks.take n)) rfl (HR2.out.own.gr (by (repeat (first | (with_reducible exact Gr.refl _) | assumption | (with_reducible apply Gr.from_drew) | (with_reducible apply Gr.alloc) | (with_reducible apply Gr.drew) | (with_reducible refine Gr.trans ?_ (by assumption)) | (with_reducible refine Gr.setCell ?_ (by omega) _))))) (some ⟨wr.heap.size, 0, none⟩) 1 1 ([Value.string best]) rfl ((src_newK wr ([Value.string best]) _ 1 rfl (by simp [Value.oneCell']))) (by simp only [maxLen]; omega) (by omega) ?_); intro v2 w2 hA; have N6 := Lib.hid (hA.nw (HR2.out.gr ((Gr.refl wr).alloc _)) (by have := HGI.out.sz; simp; omega)); have HG6 := Lib.hid (hA.gw (HR2.out.gr ((Gr.refl wr).alloc _)) (HGI.out.alloc _)); obtain ⟨a2, c2, rfl⟩ := hA.val; clear hA)
            | fail)
          refine ⟨⟨n + 1, a2, c2, by omega, rfl, by rw [lastK_next HX.out], Lib.hid ⟨?_, HG6.out⟩⟩, by show X.ks.length - (n + 1) < X.ks.length - n; omega⟩
          rw [ks_take HX.out, kS_snoc]
          exact N6.out
theorem rpKeys {w : World} {p : Option Addr} {X : IX} (h : RP w p X) : Calls Try.prog 109 #[.pointer p] w (KyP X w) := by
  rcases h with ⟨rfl, rfl⟩ | ⟨rb, rfl, h⟩
  · have HE : Hid (KyP ⟨[], []⟩ w (.returned (.slice none 0 0)) w) := Lib.hid ⟨_, rfl, Nw.nil w _ _, Gr.refl w⟩
    generalize KyP ⟨[], []⟩ w = Q at *
    go_enter Try.func109, Try.ntmps109
    go_wp2_with (go_at_call 85; refine Calls.mono (rvalid_no _) ?_; rintro e w1 ⟨rfl, rfl⟩)
    exact HE.out
  · have hN := h.pos
    obtain ⟨v, all, h1, _, h3, h4, h5, h6⟩ := h
    exact rKeys_any h1 hN h3 h4 h5 h6
end Go.Proofs.Ytmdfickejpeofaa

/- drumlinref21's Len, Last, Copy; which entries it has, as drumlinref22 and drumlinref24 ask. -/
set_option linter.unusedVariables false
set_option linter.unusedSimpArgs false
namespace Go.Proofs.Ytmdfickejpeofaa
open Go.RowKit Go.Shelf
attribute [local go_sem] OvM cell_ovm obj_ovm
attribute [local go_sem] Oper.semAt_some

set_option maxRecDepth 40000 in
theorem rLen_any {w : World} {rb : Nat} {N : Int} {a : Option Addr} {k cap : Nat} (h : w.heap[rb]? = some (rmO N (.slice a k cap))) (hN : 0 < N) : Calls Try.prog 110 #[.pointer (some ⟨rb, 0, none⟩)] w fun e w' => e = .returned (.int .i64 k) ∧ w = w' := by
  have c1 := ((cellsOf h).1 1).trans (show _ = some (Value.slice a k cap) from rfl)
  have HV := Lib.hid (rvalid h hN)
  clear h
  go_enter Try.func110, Try.ntmps110
  go_wp2_with (go_at_call 85; refine Calls.mono HV.out ?_; rintro e w1 ⟨rfl, rfl⟩)
  go_ret
  exact ⟨rfl, rfl⟩
theorem rpLen {w : World} {p : Option Addr} {X : IX} (h : RP w p X) : Calls Try.prog 110 #[.pointer p] w fun e w' => e = .returned (.int .i64 X.ents.length) ∧ w = w' := by
  rcases h with ⟨rfl, rfl⟩ | ⟨rb, rfl, h⟩
  · go_enter Try.func110, Try.ntmps110
    go_wp2_with (go_at_call 85; refine Calls.mono (rvalid_no _) ?_; rintro e w1 ⟨rfl, rfl⟩)
    go_ret
    exact ⟨rfl, rfl⟩
  · have hN := h.pos
    obtain ⟨v, all, h1, _, h3, h4, h5, h6⟩ := h
    obtain ⟨a, c, rfl, _, _, _⟩ := ownE_at h3
    rw [← h5.length_eq]
    exact rLen_any h1 hN
set_option maxRecDepth 40000 in
set_option maxHeartbeats 2000000 in
theorem rCopy_any {w : World} {rb : Nat} {N : Int} {v : Value} {all : List En} (h : w.heap[rb]? = some (rmO N v)) (hN : 0 < N) (ho : Own w 53 6 v all.length (rowE all)) (h1000 : all.length ≤ 1000) :
    Calls Try.prog 34 #[.pointer (some ⟨rb, 0, none⟩)] w fun e w' => ∃ rb' v', e = .returned (.pointer (some ⟨rb', 0, none⟩)) ∧ w.heap.size ≤ rb' ∧ w'.heap[rb']? = some (rmO N v') ∧ Nw w w' 53 6 v' all.length (rowE all) ∧ v'.ownBlock ≠ some rb' ∧ Gr w w' := by
  obtain ⟨i0, hi, hz0, hz1, hz2⟩ := info_parts infoIten
  have HO := Lib.hid ho
  have HV := Lib.hid (rvalid h hN)
  obtain ⟨a, c, rfl, hc, hm, _⟩ := ownE_at ho
  unfold maxLen at hm
  have c0 := ((cellsOf h).1 0).trans (show _ = some (Value.int .i64 N) from rfl)
  have c1 := ((cellsOf h).1 1).trans (show _ = some (Value.slice a all.length c) from rfl)
  clear h ho
  go_enter Try.func34, Try.ntmps34
  go_wp2_with (go_at_call 85; refine Calls.mono HV.out ?_; rintro e w1 ⟨rfl, rfl⟩)
  have SRC := Lib.hid (src_all HO.out (rowE_one all))
  refine wp_region_flo (fun _ => False) [] [] (by kernel_rfl) (by kernel_rfl) (fun _ h => h.elim) ?_
  refine flo_seg 4 rfl ?_
  simp only [List.take_succ_cons, List.take_zero, List.drop_succ_cons, List.drop_zero]
  repeat (go_big_quiet_step (fail))
  refine wpQuiet_nil ?_
  refine flo_eff rfl rfl rfl rfl (fun K hK => ?_)
  go_wp2
  refine ⟨by (first | (refine Gr.mdh ?_ _; (repeat (first | (with_reducible exact Gr.refl _) | assumption | (with_reducible apply Gr.from_drew) | (with_reducible apply Gr.alloc) | (with_reducible apply Gr.drew) | (with_reducible refine Gr.trans ?_ (by assumption)) | (with_reducible refine Gr.setCell ?_ (by omega) _))); done) | (repeat (first | (with_reducible exact Mdh.refl _ _) | (with_reducible refine Mdh.setCell ?_ (by simp) _) | (with_reducible refine Mdh.setNew ?_ (by simp) _) | (with_reducible apply Mdh.alloc) | (with_reducible apply Mdh.from_drew) | (with_reducible apply Mdh.drew) | (with_reducible refine Mdh.gr ?_ (by assumption))))), ?_⟩
  refine flo_seg 4 rfl ?_
  simp only [List.take_succ_cons, List.take_zero, List.drop_succ_cons, List.drop_zero]
  repeat (go_big_quiet_step (fail))
  refine wpQuiet_nil ?_
  refine flo_eff rfl rfl rfl rfl (fun K hK => ?_)
  refine wp_appv _ (.tmp 10) (.tmp 14) 45 rfl 53 i0 _ 6 56 Try.underlying45 hi hz0 hz1 hz2 rfl (by decide) (.slice (some ⟨w.heap.size, 0, none⟩) 0 0) 0 [] rfl ((Nw.made (w0 := w) (w := w) (Nat.le_refl _)).own.gr (by (repeat (first | (with_reducible exact Gr.refl _) | assumption | (with_reducible apply Gr.from_drew) | (with_reducible apply Gr.alloc) | (with_reducible apply Gr.drew) | (with_reducible refine Gr.trans ?_ (by assumption)) | (with_reducible refine Gr.setCell ?_ (by omega) _))))) a all.length _ (rowE all) rfl (SRC.out.gr (by (repeat (first | (with_reducible exact Gr.refl _) | assumption | (with_reducible apply Gr.from_drew) | (with_reducible apply Gr.alloc) | (with_reducible apply Gr.drew) | (with_reducible refine Gr.trans ?_ (by assumption)) | (with_reducible refine Gr.setCell ?_ (by omega) _))))) (by simp only [maxLen]; omega) (by omega) (fun k3 xa hk3 => ?_); rw [Nat.zero_add, List.nil_append] at hk3; (have n3 := hk3.nw (w0 := w) ((Nw.made (w0 := w) (w := w) (e := 53) (K := 6) (Nat.le_refl _)).gr (by (repeat (first | (with_reducible exact Gr.refl _) | assumption | (with_reducible apply Gr.from_drew) | (with_reducible apply Gr.alloc) | (with_reducible apply Gr.drew) | (with_reducible refine Gr.trans ?_ (by assumption)) | (with_reducible refine Gr.setCell ?_ (by omega) _))))) (Gr.sz (by (repeat (first | (with_reducible exact Gr.refl _) | assumption | (with_reducible apply Gr.from_drew) | (with_reducible apply Gr.alloc) | (with_reducible apply Gr.drew) | (with_reducible refine Gr.trans ?_ (by assumption)) | (with_reducible refine Gr.setCell ?_ (by omega) _)))))); (have m3 := hk3.gw (w0 := w) ((Nw.made (w0 := w) (w := w) (e := 53) (K := 6) (Nat.le_refl _)).gr (by (repeat (first | (with_reducible exact Gr.refl _) | assumption | (with_reducible apply Gr.from_drew) | (with_reducible apply Gr.alloc) | (with_reducible apply Gr.drew) | (with_reducible refine Gr.trans ?_ (by assumption)) | (with_reducible refine Gr.setCell ?_ (by omega) _))))) (by (repeat (first | (with_reducible exact Gr.refl _) | assumption | (with_reducible apply Gr.from_drew) | (with_reducible apply Gr.alloc) | (with_reducible apply Gr.drew) | (with_reducible refine Gr.trans ?_ (by assumption)) | (with_reducible refine Gr.setCell ?_ (by omega) _))))); obtain ⟨a3, c3, rfl⟩ := hk3.val; refine hK _ _ ⟨hk3.mdh (fun q hq => by rw [ownB hq]; right; right; exact ⟨Nat.le_refl _, by simp⟩), ?_⟩; simp only [Act.put, List.setIfInBounds_toArray, List.set_cons_succ, List.set_cons_zero]
  refine flo_seg 1 rfl ?_
  simp only [List.take_succ_cons, List.take_zero, List.drop_succ_cons, List.drop_zero]
  repeat (go_big_quiet_step (fail))
  refine wpQuiet_nil ?_
  refine flo_eff rfl rfl rfl rfl (fun K hK => ?_)
  go_wp2
  refine ⟨by (first | (refine Gr.mdh ?_ _; (repeat (first | (with_reducible exact Gr.refl _) | assumption | (with_reducible apply Gr.from_drew) | (with_reducible apply Gr.alloc) | (with_reducible apply Gr.drew) | (with_reducible refine Gr.trans ?_ (by assumption)) | (with_reducible refine Gr.setCell ?_ (by omega) _))); done) | (repeat (first | (with_reducible exact Mdh.refl _ _) | (with_reducible refine Mdh.setCell ?_ (by simp) _) | (with_reducible refine Mdh.setNew ?_ (by simp) _) | (with_reducible apply Mdh.alloc) | (with_reducible apply Mdh.from_drew) | (with_reducible apply Mdh.drew) | (with_reducible refine Mdh.gr ?_ (by assumption))))), ?_⟩
  refine flo_seg 1 rfl ?_
  simp only [List.take_succ_cons, List.take_zero, List.drop_succ_cons, List.drop_zero]
  repeat (go_big_quiet_step (fail))
  refine wpQuiet_nil ?_
  refine flo_nil ?_
  have N3 := Lib.hid n3
  have M3 := Lib.hid m3
  clear hK hk3 n3 m3
  go_wp2_with fail
  go_ret
  exact ⟨xa.heap.size, .slice a3 all.length c3, rfl, M3.out.sz, blkNew _ _, N3.out.gr ((Gr.refl xa).alloc _), fun h => absurd (N3.out.own.lt h) (Nat.lt_irrefl _), M3.out.alloc _⟩
theorem rCopy_no (w : World) : Calls Try.prog 34 #[.pointer none] w fun e w' => e = .returned (.pointer none) ∧ w = w' := by
  go_enter Try.func34, Try.ntmps34
  go_wp2_with (go_at_call 85; refine Calls.mono (rvalid_no _) ?_; rintro e w1 ⟨rfl, rfl⟩)
  go_ret
  exact ⟨rfl, rfl⟩
/-- Whether there is a copy. -/
theorem rpCopy {w : World} {p : Option Addr} {X : IX} (h : RP w p X) : Calls Try.prog 34 #[.pointer p] w fun e w' => (∃ q, e = .returned (.pointer q) ∧ (q = none ↔ X.slots = [])) ∧ Gr w w' := by
  rcases h with ⟨rfl, rfl⟩ | ⟨rb, rfl, h⟩
  · refine (rCopy_no w).mono ?_
    rintro e w' ⟨rfl, rfl⟩
    exact ⟨⟨none, rfl, ⟨fun _ => rfl, fun _ => rfl⟩⟩, Gr.refl w⟩
  · have hN := h.pos
    obtain ⟨v, all, h1, h2, h3, h4, h5, h6⟩ := h
    refine (rCopy_any h1 hN h3 h6).mono ?_
    rintro e w' ⟨rb', v', rfl, _, _, _, _, hg⟩
    exact ⟨⟨_, rfl, ⟨(fun h => by cases h), fun h => absurd h h2⟩⟩, hg⟩
set_option maxRecDepth 40000 in
set_option maxHeartbeats 2000000 in
theorem rHas24 {w : World} {p : Option Addr} {X : IX} (h : RP w p X) (e : En) : Calls Try.prog 119 #[.pointer p, enV e] w fun r w' => r = .returned (.bool (X.hasE e)) ∧ Gr w w' := by
  have HHE : Hid (X.hasE e = (X.of e.key).any (fun o => decide (o = e))) := Lib.hid rfl
  have hle : (X.of e.key).length ≤ 16384 := h.ok.of_le e.key
  have HOF : Hid (∀ W, Gr w W → Calls Try.prog 108 #[.pointer p, .string e.key] W (fun r w' => ∃ v, r = .returned v ∧ Nw W w' 53 6 v (X.of e.key).length (rowE (X.of e.key)) ∧ Gr W w')) := Lib.hid (fun W g => rpOf (h.gr g) e.key)
  generalize X.hasE e = B at *
  generalize X.of e.key = L at *
  clear h
  obtain ⟨e0, e1, e2, e3, e4, e5⟩ := e
  simp only [enV] at *
  obtain ⟨w1, hw1⟩ : ∃ y, y = w.alloc (.cells #[.int .i64 e0, .string e1, .bool e2, .int .i64 e3, .int .i64 e4, .int .i64 e5] 53) := ⟨_, rfl⟩
  obtain ⟨b3, hb3⟩ : ∃ q, q = w.heap.size := ⟨_, rfl⟩
  have HG1 : Hid (Gr w w1) := Lib.hid (by rw [hw1]; exact (Gr.refl w).alloc _)
  have HX1 : Hid (w1.heap[b3]? = some (.cells #[.int .i64 e0, .string e1, .bool e2, .int .i64 e3, .int .i64 e4, .int .i64 e5] 53)) := Lib.hid (by rw [hw1, hb3]; exact blkNew _ _)
  go_enter Try.func119, Try.ntmps119
  go_upto_region 1 with fail
  rw [← hw1, ← hb3]
  clear hw1 hb3
  have d3 := (cellsOf HX1.out).1
  have d31 : w1.cell? ⟨b3, 1, none⟩ = some (.string e1) := d3 1
  clear d3
  go_upto_region 2 with (first
    | (go_at_call 108; refine Calls.mono (HOF.out _ HG1.out) ?_; rintro r w2 ⟨v, rfl, hn, hg⟩; have HN2 := Lib.hid hn; have HG2 := Lib.hid (HG1.out.trans hg); have HX2 := Lib.hid (hg.blk HX1.out); clear hn hg d31; obtain ⟨a5, c5, rfl, hc5, hm5, _⟩ := ownE_at HN2.out.own)
    | fail)
  unfold maxLen at hm5
  go_wp2_with fail
  go_loopw [6] (fun t6 wx => ∃ i : Nat, i ≤ L.length ∧ t6 = .int .i64 i ∧ Hid ((∀ (j : Nat) x, j < i → L[j]? = some x → x ≠ (⟨e0, e1, e2, e3, e4, e5⟩ : En)) ∧ Gr w2 wx)) (fun t6 _ => L.length - (intOf t6).toNat)
  case atStart => exact ⟨0, by omega, by go_num, Lib.hid ⟨fun j x h => by omega, Gr.refl _⟩⟩
  case round =>
    obtain ⟨i, hil, rfl, HR⟩ := hrel
    by_cases hlt : i < L.length
    · have hlt' : (i : Int) < L.length := by omega
      obtain ⟨x, hx⟩ : ∃ x, L[i]? = some x := ⟨_, List.getElem?_eq_getElem hlt⟩
      obtain ⟨g0, rfl, hg0, y0, y1, y2, y3, y4, y5⟩ := ent6 (HN2.out.own.gr HR.out.2) hx
      have HXI := Lib.hid hx
      have z3 := (cellsOf (HR.out.2.blk HX2.out)).1
      have z30 := (z3 0).trans (show _ = some (Value.int .i64 e0) from rfl)
      have z31 := (z3 1).trans (show _ = some (Value.string e1) from rfl)
      have z32 := (z3 2).trans (show _ = some (Value.bool e2) from rfl)
      have z33 := (z3 3).trans (show _ = some (Value.int .i64 e3) from rfl)
      have z34 := (z3 4).trans (show _ = some (Value.int .i64 e4) from rfl)
      have z35 := (z3 5).trans (show _ = some (Value.int .i64 e5) from rfl)
      clear hx z3
      by_cases hxe : x = (⟨e0, e1, e2, e3, e4, e5⟩ : En)
      · have HB : Hid (B = true) := Lib.hid (by rw [HHE.out]; exact List.any_eq_true.2 ⟨x, List.mem_of_getElem? HXI.out, decide_eq_true hxe⟩)
        have k1 := fun w => (eqlE_run x (⟨e0, e1, e2, e3, e4, e5⟩ : En) w).trans (by rw [decide_eq_true hxe])
        clear hxe
        obtain ⟨x0, x1, x2, x3, x4, x5⟩ := x
        simp only at k1 y0 y1 y2 y3 y4 y5
        go_wp2_with fail
        refine wp_region_flo (fun _ => False) [] [] (by kernel_rfl) (by kernel_rfl) (fun _ h => h.elim) ?_
        refine flo_seg 6 rfl ?_
        simp only [List.take_succ_cons, List.take_zero, List.drop_succ_cons, List.drop_zero]
        repeat (go_big_quiet_step (fail))
        refine wpQuiet_nil ?_
        refine flo_nil ?_
        go_wp2_with fail
        go_ret
        exact ⟨ret_bool HB.out.symm, (HG2.out.trans HR.out.2).trans (Gr.refl _).drew⟩
      · have HNX : Hid (x ≠ (⟨e0, e1, e2, e3, e4, e5⟩ : En)) := Lib.hid hxe
        have k1 := fun w => (eqlE_run x (⟨e0, e1, e2, e3, e4, e5⟩ : En) w).trans (by rw [decide_eq_false hxe])
        clear hxe
        obtain ⟨x0, x1, x2, x3, x4, x5⟩ := x
        simp only at k1 y0 y1 y2 y3 y4 y5
        go_wp2_with fail
        refine wp_region_flo (fun _ => False) [] [] (by kernel_rfl) (by kernel_rfl) (fun _ h => h.elim) ?_
        refine flo_seg 6 rfl ?_
        simp only [List.take_succ_cons, List.take_zero, List.drop_succ_cons, List.drop_zero]
        repeat (go_big_quiet_step (fail))
        refine wpQuiet_nil ?_
        refine flo_nil ?_
        go_wp2_with fail
        go_roundw
        case rel => exact ⟨i + 1, by omega, by go_num, Lib.hid ⟨fun j y hj hy => by
          by_cases hji : j < i
          · exact HR.out.1 j y hji hy
          · obtain rfl : j = i := by omega
            rw [HXI.out] at hy
            exact (Option.some.inj hy) ▸ HNX.out, HR.out.2.trans (Gr.refl _).drew⟩⟩
        case measure => simp [intOf]; omega
    · have hlt' : ¬ (i : Int) < L.length := by omega
      have HB : Hid (B = false) := Lib.hid (by
        rw [HHE.out]
        refine List.any_eq_false.2 (fun x hx => ?_)
        obtain ⟨j, hj⟩ := List.mem_iff_getElem?.1 hx
        have := HR.out.1 j x (by have := (List.getElem?_eq_some_iff.1 hj).1; omega) hj
        simpa using this)
      go_wp2_with fail
      go_ret
      exact ⟨ret_bool HB.out.symm, HG2.out.trans HR.out.2⟩
end Go.Proofs.Ytmdfickejpeofaa

/- The last number of the reference; what shows of chapter 21 says of an index beside the reference's. -/
set_option linter.unusedVariables false
set_option linter.unusedSimpArgs false
namespace Go.Proofs.Ytmdfickejpeofaa
open Go.RowKit Go.Shelf
attribute [local go_sem] OvM cell_ovm obj_ovm
attribute [local go_sem] Oper.semAt_some

def mxQ (l : List En) : Int := l.foldl (fun m e => max m e.seq) 0
theorem mxQ_snoc (l : List En) (e : En) : mxQ (l ++ [e]) = max (mxQ l) e.seq := by simp [mxQ]
theorem mxQ_max : ∀ (n : Nat) (l : List En), l.length = n → (∀ e ∈ l, 1 ≤ e.seq) → MaxQ l (mxQ l)
  | 0, l, hl, _ => by rw [List.eq_nil_of_length_eq_zero hl]; exact MaxQ.nil
  | n + 1, l, hl, h0 => by
    have hne : l ≠ [] := fun h => by rw [h] at hl; cases hl
    obtain ⟨d, x, rfl⟩ : ∃ d x, l = d ++ [x] := ⟨_, _, (List.dropLast_concat_getLast hne).symm⟩
    rw [List.length_append] at hl
    have h1 := mxQ_max n d (by simpa using hl) (fun y hy => h0 y (List.mem_append_left _ hy))
    have h3 := h0 x (by simp)
    have h2 : MaxQ [x] x.seq := ⟨fun y hy => by rw [List.mem_singleton.1 hy]; exact Int.le_refl _, by omega, .inr ⟨_, by simp, rfl⟩⟩
    rw [mxQ_snoc]
    exact h1.app h2
theorem mxQ_last {X : IX} {all : List En} (h : X.Wf) (hp : all.Perm X.ents) : mxQ all = X.last := by
  have h1 := mxQ_max _ all rfl (fun e he => by
    have := (valid_iff e).1 (h.valid (hp.mem_iff.1 he)).1
    omega)
  exact (h1.perm hp).uniq (last_max h)
theorem mxQ_take {all : List En} {i : Nat} {x : En} (hx : all[i]? = some x) : mxQ (all.take (i + 1)) = max (mxQ (all.take i)) x.seq := by
  rw [List.take_add_one, hx]
  exact mxQ_snoc _ _
set_option maxRecDepth 40000 in
set_option maxHeartbeats 2000000 in
theorem rpLast {w : World} {p : Option Addr} {X : IX} (h : RP w p X) : Calls Try.prog 111 #[.pointer p] w fun e w' => e = .returned (.int .i64 X.last) ∧ Gr w w' := by
  rcases h with ⟨rfl, rfl⟩ | ⟨rb, rfl, h⟩
  · have hl : (⟨[], []⟩ : IX).last = 0 := rfl
    rw [hl]
    clear hl
    go_enter Try.func111, Try.ntmps111
    go_wp2_with (go_at_call 85; refine Calls.mono (rvalid_no _) ?_; rintro e w1 ⟨rfl, rfl⟩)
    go_ret
    exact ⟨rfl, Gr.refl _⟩
  · have hN := h.pos
    obtain ⟨v, all, h1, _, h3, h4, h5, h6⟩ := h
    have HML := Lib.hid (mxQ_last h4 h5)
    have HV := Lib.hid (fun W (g : Gr w W) => rvalid (g.blk h1) hN)
    have HB := Lib.hid h1
    obtain ⟨a, c, rfl, hc, hm, hat⟩ := ownE_at h3
    have HO := Lib.hid h3
    unfold maxLen at hm
    generalize X.last = LL at *
    clear h1 h3 h4 h5 hat
    go_enter Try.func111, Try.ntmps111
    go_wp2_with (go_at_call 85; refine Calls.mono (HV.out _ (Gr.refl _)) ?_; rintro e w1 ⟨rfl, rfl⟩)
    go_loopw [3, 4] (fun t3 t4 wx => ∃ i : Nat, i ≤ all.length ∧ t3 = .int .i64 (mxQ (all.take i)) ∧ t4 = .int .i64 i ∧ Hid (Gr w wx)) (fun _ t4 _ => all.length - (intOf t4).toNat)
    case atStart => exact ⟨0, by omega, by simp [mxQ], rfl, Lib.hid (Gr.refl _)⟩
    case round =>
      obtain ⟨i, hil, rfl, rfl, HR⟩ := hrel
      have c1 := ((cellsOf (HR.out.blk HB.out)).1 1).trans (show _ = some (Value.slice a all.length c) from rfl)
      by_cases hlt : i < all.length
      · have hlt' : (i : Int) < all.length := by omega
        obtain ⟨x, hx⟩ : ∃ x, all[i]? = some x := ⟨_, List.getElem?_eq_getElem hlt⟩
        obtain ⟨g0, rfl, hg0, y0, y1, y2, y3, y4, y5⟩ := ent6 (HO.out.gr HR.out) hx
        have HTK := Lib.hid (mxQ_take hx)
        generalize mxQ (all.take i) = m at *
        clear hx y1 y2 y3 y4 y5
        go_wp2_with fail
        go_roundw
        case rel => exact ⟨i + 1, by omega, by rw [HTK.out, show max m x.seq = if m < x.seq then x.seq else m by split <;> omega], by go_num, HR⟩
        case measure => simp [intOf]; omega
      · have hlt' : ¬ (i : Int) < all.length := by omega
        have hE : mxQ (all.take i) = LL := by rw [List.take_of_length_le (by omega)]; exact HML.out
        rw [hE]
        clear hE
        go_wp2_with fail
        go_ret
        exact ⟨rfl, HR.out⟩
theorem newV_at (L : List En) : ∃ (x : En) (b : Bool), newV L = .tuple #[.agg #[.int .i64 x.seq, .string x.key, .bool x.del, .int .i64 x.slot, .int .i64 x.off, .int .i64 x.size], .bool b] := by
  cases L with
  | nil => exact ⟨zE, _, rfl⟩
  | cons e _ => exact ⟨e, _, rfl⟩
set_option maxRecDepth 40000 in
set_option maxHeartbeats 4000000 in
theorem shows_any {w : World} {p q : Option Addr} {X : IX} {S : Nat → Prop} (h : IXP w p X S) (hr : RP w q X) (h5 : X.ents.length ≤ 1000) (k : ByteArray) (s : Int) :
    Calls Try.prog 35 #[.pointer p, .pointer q, .string k, .int .i64 s] w fun e w' => e = .returned (.bool true) ∧ Gr w w' := by
  have HI := Lib.hid h
  have HR := Lib.hid hr
  have hwf := hr.ok
  have l1 := of_len hwf k
  have l2 := slot_len_le X s
  have l3 := ks_len hwf
  have t1 : (X.of k).take 5000 = X.of k := List.take_of_length_le (by omega)
  have t2 : (X.slot s).take 5000 = X.slot s := List.take_of_length_le (by omega)
  have t3 : X.ks.take 5000 = X.ks := List.take_of_length_le (by omega)
  have HO1 : Hid (∀ W, Gr w W → ∀ (bb bk : Nat), W.cell? ⟨bb, 0, none⟩ = some (.pointer p) → W.cell? ⟨bk, 0, none⟩ = some (.string k) → Calls Try.prog 96 #[.func (.func 142) #[] #[.pointer (some ⟨bb, 0, none⟩), .pointer (some ⟨bk, 0, none⟩)]] W fun e w' => ∃ v, e = .returned v ∧ Nw W w' 53 6 v (X.of k).length (rowE (X.of k)) ∧ Gr W w') := Lib.hid (fun W g bb bk h1 h2 => by
    have := take_of (h.gr g) k bb bk h1 h2
    rwa [t1] at this)
  have HO2 : Hid (∀ W, Gr w W → Calls Try.prog 108 #[.pointer q, .string k] W fun e w' => ∃ v, e = .returned v ∧ Nw W w' 53 6 v (X.of k).length (rowE (X.of k)) ∧ Gr W w') := Lib.hid (fun W g => rpOf (hr.gr g) k)
  have HS1 : Hid (∀ W, Gr w W → ∀ (bb bk : Nat), W.cell? ⟨bb, 0, none⟩ = some (.pointer p) → W.cell? ⟨bk, 0, none⟩ = some (.int .i64 s) → Calls Try.prog 96 #[.func (.func 152) #[] #[.pointer (some ⟨bb, 0, none⟩), .pointer (some ⟨bk, 0, none⟩)]] W fun e w' => ∃ v, e = .returned v ∧ Nw W w' 53 6 v (X.slot s).length (rowE (X.slot s)) ∧ Gr W w') := Lib.hid (fun W g bb bk h1 h2 => by
    have := take_slot (h.gr g) s bb bk h1 h2
    rwa [t2] at this)
  have HS2 : Hid (∀ W, Gr w W → Calls Try.prog 91 #[.pointer q, .int .i64 s] W fun e w' => ∃ v, e = .returned v ∧ Nw W w' 53 6 v (X.slot s).length (rowE (X.slot s)) ∧ Gr W w') := Lib.hid (fun W g => rpSlot (hr.gr g) s)
  have HK1 : Hid (∀ W, Gr w W → ∀ (bb : Nat), W.cell? ⟨bb, 0, none⟩ = some (.pointer p) → Calls Try.prog 98 #[.func (.func 153) #[] #[.pointer (some ⟨bb, 0, none⟩)]] W fun e w' => ∃ v, e = .returned v ∧ Nw W w' 9 1 v X.ks.length (kS X.ks) ∧ Gr W w') := Lib.hid (fun W g bb h1 => by
    have := take_keys (h.gr g) bb h1
    rwa [t3] at this)
  have HK2 : Hid (∀ W, Gr w W → Calls Try.prog 109 #[.pointer q] W fun e w' => ∃ v, e = .returned v ∧ Nw W w' 9 1 v X.ks.length (kS X.ks) ∧ Gr W w') := Lib.hid (fun W g => rpKeys (hr.gr g))
  have hn1 := fun W (g : Gr w W) => Newest_any (h.gr g) k
  have hn2 := fun W (g : Gr w W) => rpNewest (hr.gr g) k
  obtain ⟨⟨x0, x1, x2, x3, x4, x5⟩, nb, hnv⟩ := newV_at (X.of k)
  rw [hnv] at hn1 hn2
  simp only at hn1 hn2
  have HN1 := Lib.hid hn1
  have HN2 := Lib.hid hn2
  have HL1 := Lib.hid (fun W (g : Gr w W) => Len_any (h.gr g))
  have HL2 := Lib.hid (fun W (g : Gr w W) => rpLen (hr.gr g))
  have HM1 := Lib.hid (fun W (g : Gr w W) => Last_any (h.gr g))
  have HM2 := Lib.hid (fun W (g : Gr w W) => rpLast (hr.gr g))
  have HT1 := Lib.hid (fun W (g : Gr w W) => Slots_any (h.gr g))
  have HT2 := Lib.hid (fun W (g : Gr w W) => rpSlots (hr.gr g))
  clear h hr hwf t1 t2 t3 hn1 hn2 hnv HI HR
  generalize X.of k = L1 at *
  generalize X.slot s = L2 at *
  generalize X.ks = L3 at *
  generalize X.ents.length = N at *
  generalize X.last = M at *
  generalize X.slots.length = T at *
  go_enter Try.func35, Try.ntmps35
  go_wp2_with fail
  refine Calls.mono (HN1.out _ (Gr.refl _)) ?_
  rintro r wa ⟨rfl, hg⟩
  have HGA := Lib.hid hg
  clear hg
  go_upto_region 2 with fail
  obtain ⟨b9, hb9⟩ : ∃ q, q = wa.heap.size := ⟨_, rfl⟩
  obtain ⟨wa2, hwa2⟩ : ∃ y, y = wa.alloc (.cells #[.int .i64 x0, .string x1, .bool x2, .int .i64 x3, .int .i64 x4, .int .i64 x5] 53) := ⟨_, rfl⟩
  have HX9 : Hid (wa2.heap[b9]? = some (.cells #[.int .i64 x0, .string x1, .bool x2, .int .i64 x3, .int .i64 x4, .int .i64 x5] 53)) := Lib.hid (by rw [hwa2, hb9]; exact blkNew _ _)
  have HGA2 : Hid (Gr w wa2) := Lib.hid (by rw [hwa2]; exact HGA.out.alloc _)
  rw [← hb9, ← hwa2]
  clear hb9 hwa2
  go_wp2_with fail
  refine Calls.mono (HN2.out _ HGA2.out) ?_
  rintro r wb ⟨rfl, hg⟩
  have HGB := Lib.hid hg
  clear hg
  go_upto_region 3 with fail
  obtain ⟨b11, hb11⟩ : ∃ q, q = wb.heap.size := ⟨_, rfl⟩
  obtain ⟨wb2, hwb2⟩ : ∃ y, y = wb.alloc (.cells #[.int .i64 x0, .string x1, .bool x2, .int .i64 x3, .int .i64 x4, .int .i64 x5] 53) := ⟨_, rfl⟩
  have HX11 : Hid (wb2.heap[b11]? = some (.cells #[.int .i64 x0, .string x1, .bool x2, .int .i64 x3, .int .i64 x4, .int .i64 x5] 53)) := Lib.hid (by rw [hwb2, hb11]; exact blkNew _ _)
  have HGB2 : Hid (Gr wa2 wb2) := Lib.hid (by rw [hwb2]; exact HGB.out.alloc _)
  rw [← hb11, ← hwb2]
  clear hb11 hwb2
  have HW := Lib.hid (HGA2.out.trans HGB2.out)
  have d9 := (cellsOf (HGB2.out.blk HX9.out)).1
  have d11 := (cellsOf HX11.out).1
  have k1 := fun w => (eqlE_run (⟨x0, x1, x2, x3, x4, x5⟩ : En) ⟨x0, x1, x2, x3, x4, x5⟩ w).trans (by rw [decide_eq_true rfl])
  simp only at k1
  go_wp2_with fail
  refine Calls.mono (Of_any p k _) ?_
  rintro r wc1 ⟨bb1, bk1, rfl, hc1, hc2, _, _, hg⟩
  have HC1 := Lib.hid (HW.out.trans hg)
  have HB1 := Lib.hid (And.intro hc1 hc2)
  clear hg hc1 hc2
  go_wp2_with fail
  refine Calls.mono (HO1.out _ HC1.out _ _ HB1.out.1 HB1.out.2) ?_
  rintro r wd1 ⟨v1, rfl, hn, hg⟩
  have HD1 := Lib.hid (HC1.out.trans hg)
  have HV1 := Lib.hid hn.own
  clear hg hn
  go_wp2_with fail
  refine Calls.mono (HO2.out _ HD1.out) ?_
  rintro r we1 ⟨u1, rfl, hn, hg⟩
  have HE1 := Lib.hid (HD1.out.trans hg)
  have hq := EqualE L1 L1 v1 u1 we1 (HV1.out.gr hg) hn.own (by omega)
  rw [decide_eq_true rfl] at hq
  have HQ1 := Lib.hid hq
  clear hg hn hq
  go_wp2_with fail
  refine Calls.mono HQ1.out ?_
  rintro r wf1 ⟨rfl, hg⟩
  have HF1 := Lib.hid (HE1.out.trans hg)
  clear hg
  go_wp2_with fail
  refine Calls.mono (Slot_any p s _) ?_
  rintro r wc2 ⟨bb2, bk2, rfl, hc1, hc2, _, _, hg⟩
  have HC2 := Lib.hid (HF1.out.trans hg)
  have HB2 := Lib.hid (And.intro hc1 hc2)
  clear hg hc1 hc2
  go_wp2_with fail
  refine Calls.mono (HS1.out _ HC2.out _ _ HB2.out.1 HB2.out.2) ?_
  rintro r wd2 ⟨v2, rfl, hn, hg⟩
  have HD2 := Lib.hid (HC2.out.trans hg)
  have HV2 := Lib.hid hn.own
  clear hg hn
  go_wp2_with fail
  refine Calls.mono (HS2.out _ HD2.out) ?_
  rintro r we2 ⟨u2, rfl, hn, hg⟩
  have HE2 := Lib.hid (HD2.out.trans hg)
  have hq := EqualE L2 L2 v2 u2 we2 (HV2.out.gr hg) hn.own (by omega)
  rw [decide_eq_true rfl] at hq
  have HQ2 := Lib.hid hq
  clear hg hn hq
  go_wp2_with fail
  refine Calls.mono HQ2.out ?_
  rintro r wf2 ⟨rfl, hg⟩
  have HF2 := Lib.hid (HE2.out.trans hg)
  clear hg
  go_wp2_with fail
  refine Calls.mono (Keys_any p _) ?_
  rintro r wc3 ⟨bb3, rfl, hc1, _, hg⟩
  have HC3 := Lib.hid (HF2.out.trans hg)
  have HB3 := Lib.hid (hc1)
  clear hg hc1
  go_wp2_with fail
  refine Calls.mono (HK1.out _ HC3.out _ HB3.out) ?_
  rintro r wd3 ⟨v3, rfl, hn, hg⟩
  have HD3 := Lib.hid (HC3.out.trans hg)
  have HV3 := Lib.hid hn.own
  clear hg hn
  go_wp2_with fail
  refine Calls.mono (HK2.out _ HD3.out) ?_
  rintro r we3 ⟨u3, rfl, hn, hg⟩
  have HE3 := Lib.hid (HD3.out.trans hg)
  have hq := EqualS L3 L3 v3 u3 we3 (HV3.out.gr hg) hn.own (by omega)
  rw [decide_eq_true rfl] at hq
  have HQ3 := Lib.hid hq
  clear hg hn hq
  go_wp2_with fail
  refine Calls.mono HQ3.out ?_
  rintro r wf3 ⟨rfl, hg⟩
  have HF3 := Lib.hid (HE3.out.trans hg)
  clear hg
  go_wp2_with fail
  refine Calls.mono (HL1.out _ HF3.out) ?_
  rintro r wHL1 ⟨rfl, rfl⟩
  go_wp2_with fail
  refine Calls.mono (HL2.out _ HF3.out) ?_
  rintro r wHL2 ⟨rfl, rfl⟩
  go_wp2_with fail
  refine Calls.mono (HM1.out _ HF3.out) ?_
  rintro r wHM1 ⟨rfl, hg⟩
  have GHM1 := Lib.hid (HF3.out.trans hg)
  clear hg
  go_wp2_with fail
  refine Calls.mono (HM2.out _ GHM1.out) ?_
  rintro r wHM2 ⟨rfl, hg⟩
  have GHM2 := Lib.hid (GHM1.out.trans hg)
  clear hg
  go_wp2_with fail
  refine Calls.mono (HT1.out _ GHM2.out) ?_
  rintro r wHT1 ⟨rfl, rfl⟩
  go_wp2_with fail
  refine Calls.mono (HT2.out _ GHM2.out) ?_
  rintro r wHT2 ⟨rfl, rfl⟩
  go_wp2_with fail
  go_ret
  exact ⟨rfl, GHM2.out⟩
end Go.Proofs.Ytmdfickejpeofaa

/- Both indexes copied; an older pair that stays. -/
set_option linter.unusedVariables false
set_option linter.unusedSimpArgs false
namespace Go.Proofs.Ytmdfickejpeofaa
open Go.RowKit Go.Shelf
/-- A pair that was copied: none, or among what lies apart. -/
def OldR (op oq : Option Addr) (R : List Asn) : Prop :=
  (op = none ∧ oq = none) ∨ ∃ b rb Y S v all, op = some ⟨b, 0, none⟩ ∧ oq = some ⟨rb, 0, none⟩ ∧ Y.slots ≠ [] ∧ RelX Y all ∧ all.length ≤ 100 ∧ ∀ A ∈ pxL b rb Y S v all [], A ∈ R
section
variable {w0 w w' : World} {p q op oq : Option Addr} {X : IX} {all : List En} {R : List Asn}
theorem OldR.cons (h : OldR op oq R) (A : Asn) : OldR op oq (A :: R) := by
  rcases h with h | ⟨b, rb, Y, S, v, l, h1, h2, h3, h4, h5, h6⟩
  · exact .inl h
  · exact .inr ⟨b, rb, Y, S, v, l, h1, h2, h3, h4, h5, fun B hB => List.mem_cons_of_mem _ (h6 B hB)⟩
theorem OldR.get (h : OldR op oq R) (hp : PX w0 p q X all R w) : (op = none ∧ oq = none) ∨ ∃ a b Y S, op = some a ∧ oq = some b ∧ IXP w op Y S ∧ RP w oq Y ∧ Y.ents.length ≤ 1000 := by
  rcases h with h | ⟨b, rb, Y, S, v, l, rfl, rfl, h3, h4, h5, h6⟩
  · exact .inl h
  · refine .inr ⟨_, _, Y, S, rfl, rfl, .inl ⟨b, rfl, ?_⟩, .inr ⟨rb, rfl, v, l, ?_, h3, ?_, h4.wf, h4.pm, by omega⟩, by rw [← h4.pm.length_eq]; omega⟩
    · exact hp.part (h6 _ (List.mem_cons_self ..))
    · exact hp.part (h6 _ (List.mem_cons_of_mem _ (List.mem_cons_self ..)))
    · exact hp.part (h6 _ (List.mem_cons_of_mem _ (List.mem_cons_of_mem _ (List.mem_cons_self ..))))
def PC (w0 : World) (p q p' : Option Addr) (X : IX) (all : List En) (R : List Asn) (w : World) : Prop :=
  ∃ b rb b' S S' v, p = some ⟨b, 0, none⟩ ∧ q = some ⟨rb, 0, none⟩ ∧ p' = some ⟨b', 0, none⟩ ∧ X.slots ≠ [] ∧ SW w0 (ixA b' X S' :: pxL b rb X S v all R) w
theorem pCopyI (h : PX w0 p q X all R w) (h0 : X.slots ≠ []) :
    Calls Try.prog 33 #[.pointer p] w fun r w' => ∃ p', r = .returned (.pointer (some p')) ∧ PC w0 p q (some p') X all R w' ∧ Gr w w' := by
  rcases h with ⟨_, _, h2, _, _⟩ | ⟨b, rb, S, v, rfl, rfl, h3, h4⟩
  · exact absurd (by rw [h2]) h0
  · refine (CopyX h4.ix).mono ?_
    rintro r w' ⟨b', S', rfl, h5, h6, h7⟩
    exact ⟨_, rfl, ⟨b, rb, b', S, S', v, rfl, rfl, rfl, h3, h4.new h7 (A := ixA b' X S') h5 h6⟩, h7⟩
theorem pCopyR {p' : Option Addr} (h : PC w0 p q p' X all R w) (hr : RelX X all) (hn : all.length ≤ 100) :
    Calls Try.prog 34 #[.pointer q] w fun r w' => ∃ q' R', r = .returned (.pointer q') ∧ PX w0 p' q' X all R' w' ∧ OldR p q R' ∧ (∀ A ∈ R, A ∈ R') ∧ Gr w w' := by
  obtain ⟨b, rb, b', S, S', v, rfl, rfl, rfl, h3, h4⟩ := h
  have hN : (0 : Int) < X.slots.length := by have := List.length_pos_iff.2 h3; omega
  refine (rCopy_any (h4.get (i := 2) rfl) hN (h4.get (i := 3) rfl) (by omega)).mono ?_
  rintro r w' ⟨rb', v', rfl, h5, h6, h7, h8, h9⟩
  have k1 : SW w [rowA 53 6 v' all.length (rowE all), blkA rb' (rmO X.slots.length v')] w' := by
    refine ⟨h9, ⟨fun A hA => ?_, List.pairwise_cons.2 ⟨fun B hB k ka kb => ?_, List.pairwise_singleton _ _⟩⟩, fun A hA k hk => ?_⟩
    · rcases List.mem_cons.1 hA with rfl | hA
      · exact h7.own
      · rw [List.mem_singleton.1 hA]; exact h6
    · rw [List.mem_singleton.1 hB] at kb
      have e : k = rb' := kb
      subst e
      exact h8 ka
    · rcases List.mem_cons.1 hA with rfl | hA
      · exact h7.new k hk
      · rw [List.mem_singleton.1 hA] at hk
        have e : k = rb' := hk
        rw [e]; exact h5
  have k2 : SW w0 (rowA 53 6 v' all.length (rowE all) :: blkA rb' (rmO X.slots.length v') :: ixA b' X S' :: pxL b rb X S v all R) w' := h4.both k1
  refine ⟨_, pxL b rb X S v all R, rfl, .inr ⟨b', rb', S', v', rfl, rfl, h3, (k2.pick (i := 1) rfl).pick (i := 2) rfl⟩, .inr ⟨b, rb, X, S, v, all, rfl, rfl, h3, hr, hn, fun A hA => ?_⟩, fun A hA => List.mem_cons_of_mem _ (List.mem_cons_of_mem _ (List.mem_cons_of_mem _ hA)), h9⟩
  rcases List.mem_cons.1 hA with rfl | hA
  · exact List.mem_cons_self ..
  · rcases List.mem_cons.1 hA with rfl | hA
    · exact List.mem_cons_of_mem _ (List.mem_cons_self ..)
    · rcases List.mem_cons.1 hA with rfl | hA
      · exact List.mem_cons_of_mem _ (List.mem_cons_of_mem _ (List.mem_cons_self ..))
      · cases hA
end
end Go.Proofs.Ytmdfickejpeofaa

/- For rows: slices of structs, and bytes. -/
set_option linter.unusedVariables false
set_option linter.unusedSimpArgs false
namespace Go.Proofs.Ytmdfickejpeofaa
open Go.ChangeShapes Go.WideShapes Go.Deep
section
variable {H : Type} {enc : TypeId × Value → H} {P : Program} {w : World} {base : Nat} {spare : Nat → Bool} {held : Bool}
theorem open_slice_fields {t e : TypeId} {fs : Array Field} {fuel : Nat} {cs : List Value} {x : DataW H × List MemPlace} (ht : P.underlying t = some (.slice e)) (he : P.underlying e = some (.struct fs))
    (hone : oneCellFields P fs = true) (hC : P.cellsOf e = fs.size) (h : DataW.trod enc P w base spare held fuel t cs = some x) :
    (cs = [.slice none 0 0] ∧ x = (.nil, [])) ∨
    ∃ (a : Addr) (len cap m : Nat) (D : Nat → DataW H) (Pl : Nat → List MemPlace), cs = [.slice (some a) len cap] ∧ base ≤ a.block ∧ len ≤ cap ∧ cap ≤ maxLen ∧ m = (if spare a.block then cap else len) ∧
      x = (.slice ((List.range len).map D) ((List.range (m - len)).map fun j => D (len + j)), MemPlace.row a (m * fs.size) ++ (List.range m).flatMap Pl) ∧
      ∀ i, i < m → ∃ (ys : List (DataW H × List MemPlace)) (n : Nat), D i = .agg (ys.map (·.1)) ∧ Pl i = ys.flatMap (·.2) ∧ ys.length = fs.size ∧
        ∀ (j : Nat) (f : Field), fs[j]? = some f → ∃ (v : Value) (y : DataW H × List MemPlace), w.cell? (a.add (i * fs.size + j)) = some v ∧ ys[j]? = some y ∧ DataW.trod enc P w base spare held n f.type [v] = some y := by
  rcases open_slice ht h with h0 | ⟨a, len, cap, m, n, D, Pl, hcs, hb, hl, hm, hmm, hx, hi⟩
  · exact .inl h0
  · refine .inr ⟨a, len, cap, m, D, Pl, hcs, hb, hl, hm, hmm, by rw [hC] at hx; exact hx, fun i him => ?_⟩
    obtain ⟨cs', hc, ht'⟩ := hi i him
    rw [hC] at hc
    obtain ⟨ys, n', hn', hy, hlen, hyl, hf⟩ := DataW.trod_struct he ht'
    obtain ⟨_, hcl, hat⟩ := World.cells?_some hc
    simp only [Prod.mk.injEq] at hy
    refine ⟨ys, n', hy.1, hy.2, hyl, fun j f hj => ?_⟩
    obtain ⟨ho, hk⟩ := hone_of hone j f hj
    have hjl : j < fs.size := (Array.getElem?_eq_some_iff.1 hj).1
    have hcell := hat j hjl
    have hv : cs'[j]? = some (cs'[j]'(by omega)) := List.getElem?_eq_getElem (by omega)
    have h1 := hf j f hj
    rw [ho, hk] at h1
    have hone' : (cs'.drop j).take 1 = [cs'[j]'(by omega)] := by
      rw [List.drop_eq_getElem_cons (by omega)]
      rfl
    rw [hone'] at h1
    have hys : ys[j]? = some (ys[j]'(by omega)) := List.getElem?_eq_getElem (by omega)
    refine ⟨_, _, ?_, hys, h1.trans hys⟩
    rw [← Go.Deep.add_add, hcell, hv]
end

open Go.RowKit
theorem list_of {α : Type} (len : Nat) (d : α) (R : Nat → α → Prop) (h : ∀ i, i < len → ∃ x, R i x) : ∃ l : List α, l.length = len ∧ ∀ i, i < l.length → R i (l[i]?.getD d) := by
  classical
  refine ⟨(List.range len).map (fun i => if hi : i < len then Classical.choose (h i hi) else d), by simp, fun i hi => ?_⟩
  have hi' : i < len := by simpa using hi
  simp only [List.getElem?_map, List.getElem?_range hi', Option.map_some, Option.getD_some, dif_pos hi']
  exact Classical.choose_spec (h i hi')
theorem u8_of {a : Int} (h : (Lit.int .u8 a).wf = true) : ∃ c : UInt8, a = (c.toNat : Int) := by
  have h' : (decide (IntKind.u8.min ≤ a) && decide (a ≤ IntKind.u8.max)) = true := h
  have : 0 ≤ a ∧ a ≤ 255 := by simpa [IntKind.min, IntKind.max, IntKind.signed, IntKind.bits] using h'
  refine ⟨UInt8.ofNat a.toNat, ?_⟩
  rw [UInt8.toNat_ofNat_of_lt' (by have : UInt8.size = 256 := rfl; omega)]
  omega
theorem at_add {w : World} {a : Addr} {k : Nat} {v : Value} (h : w.cell? (a.add k) = some v) (hs : a.spot = none) : a.block < w.heap.size ∧ w.cell? ⟨a.block, a.off + k, none⟩ = some v := by
  have e : a.add k = ⟨a.block, a.off + k, none⟩ := by
    unfold Addr.add
    obtain ⟨b, o, s⟩ := a
    split
    · simp_all
    · rfl
  rw [e] at h
  refine ⟨?_, h⟩
  unfold World.cell? at h
  refine Classical.byContradiction fun hc => ?_
  rw [Array.getElem?_eq_none (by simpa using hc)] at h
  cases h
theorem spot_add {w : World} {a : Addr} {v : Value} (h : w.cell? (a.add 0) = some v) : a.spot = none := by
  simpa [Addr.add] using World.cell?_spot h
end Go.Proofs.Ytmdfickejpeofaa

/- Rows of entries. -/
set_option linter.unusedVariables false
set_option linter.unusedSimpArgs false
namespace Go.Proofs.Ytmdfickejpeofaa
open Go.ChangeShapes Go.WideShapes Go.Deep Go.RowKit
theorem i64e {a : Int} (h : (Lit.int .i64 a).wf = true) : -9223372036854775808 ≤ a ∧ a ≤ 9223372036854775807 := by
  simp only [Lit.wf, Bool.and_eq_true, decide_eq_true_eq] at h
  exact h
/-- The entries of a list lie at a. -/
def EntAt (w : World) (a : Option Addr) (l : List En) : Prop :=
  ∀ i x, l[i]? = some x → ∃ b off, a = some ⟨b, off, none⟩ ∧ b < w.heap.size ∧ w.cell? ⟨b, off + i * 6, none⟩ = some (.int .i64 x.seq) ∧ w.cell? ⟨b, off + i * 6 + 1, none⟩ = some (.string x.key) ∧ w.cell? ⟨b, off + i * 6 + 2, none⟩ = some (.bool x.del) ∧ w.cell? ⟨b, off + i * 6 + 3, none⟩ = some (.int .i64 x.slot) ∧ w.cell? ⟨b, off + i * 6 + 4, none⟩ = some (.int .i64 x.off) ∧ w.cell? ⟨b, off + i * 6 + 5, none⟩ = some (.int .i64 x.size) ∧ -9223372036854775808 ≤ x.size ∧ x.size ≤ 9223372036854775807
theorem open_entries {H : Type} {enc : TypeId × Value → H} {w : World} {base : Nat} {spare : Nat → Bool} {held : Bool} {fuel : Nat} {a : Option Addr} {len cap : Nat} {x : DataW H × List MemPlace}
    (h : DataW.trod enc Try.prog w base spare held fuel 45 (Value.slice a len cap).cells.toList = some x) : len ≤ cap ∧ cap ≤ maxLen ∧ ∃ l : List En, l.length = len ∧ EntAt w a l := by
  rcases open_slice_fields Try.underlying45 Try.underlying53 (by kernel_rfl) (show Try.prog.cellsOf 53 = 6 by kernel_rfl) h with ⟨hcs, _⟩ | ⟨a', l, c, m, D, Pl, hcs, _, hl, hm, hmm, _, hi⟩
  · simp [Value.cells] at hcs
    obtain ⟨rfl, rfl, rfl⟩ := hcs
    exact ⟨by omega, by simp [maxLen], [], rfl, fun i x hx => by simp at hx⟩
  · simp [Value.cells] at hcs
    obtain ⟨rfl, rfl, rfl⟩ := hcs
    refine ⟨hl, hm, ?_⟩
    by_cases h0 : 0 < len
    · have hml : len ≤ m := by rw [hmm]; split <;> omega
      have hsp : a'.spot = none := by
        obtain ⟨ys, n, _, _, _, hf⟩ := hi 0 (by omega)
        obtain ⟨v, y, hc, _, _⟩ := hf 0 _ rfl
        exact spot_add (by simpa using hc)
      obtain ⟨l, hl1, hl2⟩ := list_of len (⟨0, ⟨#[]⟩, false, 0, 0, 0⟩ : En) (fun i t => w.cell? ⟨a'.block, a'.off + i * 6, none⟩ = some (.int .i64 t.seq) ∧ w.cell? ⟨a'.block, a'.off + i * 6 + 1, none⟩ = some (.string t.key) ∧ w.cell? ⟨a'.block, a'.off + i * 6 + 2, none⟩ = some (.bool t.del) ∧ w.cell? ⟨a'.block, a'.off + i * 6 + 3, none⟩ = some (.int .i64 t.slot) ∧ w.cell? ⟨a'.block, a'.off + i * 6 + 4, none⟩ = some (.int .i64 t.off) ∧ w.cell? ⟨a'.block, a'.off + i * 6 + 5, none⟩ = some (.int .i64 t.size) ∧ a'.block < w.heap.size ∧ -9223372036854775808 ≤ t.size ∧ t.size ≤ 9223372036854775807) (fun i hil => by
        obtain ⟨ys, n, _, _, _, hf⟩ := hi i (by omega)
        obtain ⟨v0, y0, c0, _, t0⟩ := hf 0 _ rfl
        obtain ⟨v1, y1, c1, _, t1⟩ := hf 1 _ rfl
        obtain ⟨v2, y2, c2, _, t2⟩ := hf 2 _ rfl
        obtain ⟨v3, y3, c3, _, t3⟩ := hf 3 _ rfl
        obtain ⟨v4, y4, c4, _, t4⟩ := hf 4 _ rfl
        obtain ⟨v5, y5, c5, _, t5⟩ := hf 5 _ rfl
        obtain ⟨x0, e0, _, w0⟩ := DataW.trod_int Try.underlying2 t0
        obtain ⟨x1, e1, _⟩ := DataW.trod_string Try.underlying9 t1
        obtain ⟨x2, e2, _⟩ := DataW.trod_bool Try.underlying4 t2
        obtain ⟨x3, e3, _, w3⟩ := DataW.trod_int Try.underlying3 t3
        obtain ⟨x4, e4, _, w4⟩ := DataW.trod_int Try.underlying3 t4
        obtain ⟨x5, e5, _, w5⟩ := DataW.trod_int Try.underlying3 t5
        obtain rfl := List.cons.inj e0 |>.1
        obtain rfl := List.cons.inj e1 |>.1
        obtain rfl := List.cons.inj e2 |>.1
        obtain rfl := List.cons.inj e3 |>.1
        obtain rfl := List.cons.inj e4 |>.1
        obtain rfl := List.cons.inj e5 |>.1
        obtain ⟨hb, d0⟩ := at_add c0 hsp
        exact ⟨⟨x0, x1, x2, x3, x4, x5⟩, d0, (at_add c1 hsp).2, (at_add c2 hsp).2, (at_add c3 hsp).2, (at_add c4 hsp).2, (at_add c5 hsp).2, hb, i64e w5⟩)
      refine ⟨l, hl1, fun i x hx => ?_⟩
      obtain ⟨hlt, rfl⟩ := List.getElem?_eq_some_iff.1 hx
      obtain ⟨c0, c1, c2, c3, c4, c5, hb, h4⟩ := hl2 i (by omega)
      rw [hx] at c0 c1 c2 c3 c4 c5 h4
      exact ⟨_, _, by obtain ⟨b, o, s⟩ := a'; simp_all, hb, c0, c1, c2, c3, c4, c5, h4⟩
    · obtain rfl : len = 0 := by omega
      exact ⟨[], rfl, fun i x hx => by simp at hx⟩
end Go.Proofs.Ytmdfickejpeofaa

/- An entry among the cells of a row of steps. -/
set_option linter.unusedVariables false
set_option linter.unusedSimpArgs false
namespace Go.Proofs.Ytmdfickejpeofaa
open Go.ChangeShapes Go.WideShapes Go.Deep Go.RowKit
section
variable {H : Type} {enc : TypeId × Value → H} {w : World} {base : Nat} {spare : Nat → Bool} {held : Bool} {n : Nat}
theorem one_int {t : TypeId} (ht : Try.prog.underlying t = some (.int .i64)) {c : Value} {y : DataW H × List MemPlace} (h : DataW.trod enc Try.prog w base spare held n t [c] = some y) : ∃ a : Int, c = .int .i64 a ∧ -9223372036854775808 ≤ a ∧ a ≤ 9223372036854775807 := by
  obtain ⟨x0, e0, _, w0⟩ := DataW.trod_int ht h
  obtain rfl := List.cons.inj e0 |>.1
  exact ⟨x0, rfl, i64e w0⟩
theorem en_of {cs : List Value} {y : DataW H × List MemPlace} (hl : cs.length = 6) (h : DataW.trod enc Try.prog w base spare held n 53 cs = some y) : ∃ x : En, cs = enC x ∧ -9223372036854775808 ≤ x.size ∧ x.size ≤ 9223372036854775807 := by
  obtain ⟨c0, c1, c2, c3, c4, c5, rfl⟩ : ∃ c0 c1 c2 c3 c4 c5, cs = [c0, c1, c2, c3, c4, c5] := by
    match cs, hl with
    | [c0, c1, c2, c3, c4, c5], _ => exact ⟨c0, c1, c2, c3, c4, c5, rfl⟩
  obtain ⟨ys, m, _, _, _, hyl, hf⟩ := DataW.trod_struct Try.underlying53 h
  obtain ⟨y0, y1, y2, y3, y4, y5, rfl⟩ : ∃ y0 y1 y2 y3 y4 y5, ys = [y0, y1, y2, y3, y4, y5] := by
    match ys, hyl with
    | [y0, y1, y2, y3, y4, y5], _ => exact ⟨y0, y1, y2, y3, y4, y5, rfl⟩
  have h0 : DataW.trod enc Try.prog w base spare held m 2 (([c0, c1, c2, c3, c4, c5].drop 0).take (Try.prog.cellsOf 2)) = some y0 := hf 0 _ rfl
  rw [show Try.prog.cellsOf 2 = 1 by kernel_rfl] at h0
  have h1 : DataW.trod enc Try.prog w base spare held m 9 (([c0, c1, c2, c3, c4, c5].drop 1).take (Try.prog.cellsOf 9)) = some y1 := hf 1 _ rfl
  rw [show Try.prog.cellsOf 9 = 1 by kernel_rfl] at h1
  have h2 : DataW.trod enc Try.prog w base spare held m 4 (([c0, c1, c2, c3, c4, c5].drop 2).take (Try.prog.cellsOf 4)) = some y2 := hf 2 _ rfl
  rw [show Try.prog.cellsOf 4 = 1 by kernel_rfl] at h2
  have h3 : DataW.trod enc Try.prog w base spare held m 3 (([c0, c1, c2, c3, c4, c5].drop 3).take (Try.prog.cellsOf 3)) = some y3 := hf 3 _ rfl
  rw [show Try.prog.cellsOf 3 = 1 by kernel_rfl] at h3
  have h4 : DataW.trod enc Try.prog w base spare held m 3 (([c0, c1, c2, c3, c4, c5].drop 4).take (Try.prog.cellsOf 3)) = some y4 := hf 4 _ rfl
  rw [show Try.prog.cellsOf 3 = 1 by kernel_rfl] at h4
  have h5 : DataW.trod enc Try.prog w base spare held m 3 (([c0, c1, c2, c3, c4, c5].drop 5).take (Try.prog.cellsOf 3)) = some y5 := hf 5 _ rfl
  rw [show Try.prog.cellsOf 3 = 1 by kernel_rfl] at h5
  obtain ⟨a0, rfl, _, _⟩ := one_int Try.underlying2 (show DataW.trod enc Try.prog w base spare held m 2 [c0] = some y0 from h0)
  obtain ⟨a1, e1, _⟩ := DataW.trod_string Try.underlying9 (show DataW.trod enc Try.prog w base spare held m 9 [c1] = some y1 from h1)
  obtain ⟨a2, e2, _⟩ := DataW.trod_bool Try.underlying4 (show DataW.trod enc Try.prog w base spare held m 4 [c2] = some y2 from h2)
  obtain ⟨a3, rfl, _, _⟩ := one_int Try.underlying3 (show DataW.trod enc Try.prog w base spare held m 3 [c3] = some y3 from h3)
  obtain ⟨a4, rfl, _, _⟩ := one_int Try.underlying3 (show DataW.trod enc Try.prog w base spare held m 3 [c4] = some y4 from h4)
  obtain ⟨a5, rfl, b1, b2⟩ := one_int Try.underlying3 (show DataW.trod enc Try.prog w base spare held m 3 [c5] = some y5 from h5)
  obtain rfl := List.cons.inj e1 |>.1
  obtain rfl := List.cons.inj e2 |>.1
  exact ⟨⟨a0, a1, a2, a3, a4, a5⟩, rfl, b1, b2⟩
end
end Go.Proofs.Ytmdfickejpeofaa
