/- Chapter 4's laws: how many ids are in a queue. -/
import Derived.Test.YthialloenkbpnaaPqM
set_option linter.unusedVariables false
set_option linter.unusedSimpArgs false
namespace Go.Proofs.Ythialloenkbpnaa
open Go.RowKit
attribute [local go_sem] OvM cell_ovm obj_ovm

/-- How many of the first ids are in. -/
def cnt {β : Type} (M : Nat → Option β) : Nat → Nat
  | 0 => 0
  | n + 1 => cnt M n + (if (M n).isSome then 1 else 0)
section
variable {β : Type} {M M' : Nat → Option β}
theorem cnt_le (M : Nat → Option β) : ∀ n, cnt M n ≤ n
  | 0 => Nat.le_refl 0
  | n + 1 => by have := cnt_le M n; unfold cnt; split <;> omega
theorem cnt_succ (M : Nat → Option β) (n : Nat) : cnt M (n + 1) = cnt M n + (if (M n).isSome then 1 else 0) := rfl
theorem cnt_congr {n : Nat} (h : ∀ m, m < n → M m = M' m) : cnt M n = cnt M' n := by
  induction n with
  | zero => rfl
  | succ n ih => unfold cnt; rw [ih (fun m hm => h m (by omega)), h n (by omega)]
theorem cnt_none {n : Nat} (h : ∀ m, m < n → M m = none) : cnt M n = 0 := by
  induction n with
  | zero => rfl
  | succ n ih => unfold cnt; rw [ih (fun m hm => h m (by omega)), h n (by omega)]; rfl
theorem cnt_out {n i : Nat} {x : β} (hi : i < n) (h : M i = some x) : cnt M n = cnt (upd M i none) n + 1 := by
  induction n with
  | zero => omega
  | succ n ih =>
    unfold cnt
    by_cases e : i = n
    · subst e
      rw [upd_same, h, cnt_congr (M := upd M i none) (M' := M) (fun m hm => upd_ne _ _ _ (by omega))]
      rfl
    · rw [ih (by omega), upd_ne _ _ _ (fun h => e h.symm)]
      omega
theorem cnt_some {n : Nat} {h : Nat → Nat × β} : ∀ {len : Nat} {pl : Nat → Nat} {M : Nat → Option β}, PI n len h pl → (∀ m, m < n → M m = Mo h pl m) → cnt M n = len
  | 0, pl, M, P, hM => cnt_none fun m hm => by
      rw [hM m hm]
      unfold Mo
      split
      · rfl
      · rename_i hp
        have := (P.bwd m (by have := P.most; omega) hp).1
        omega
  | len + 1, pl, M, P, hM => by
      have hi := P.inr len (by omega)
      have hx : M (h len).1 = some (h len).2 := by
        rw [hM _ hi]
        unfold Mo
        rw [P.fwd len (by omega), if_neg (by omega)]
        rfl
      rw [cnt_out hi hx, cnt_some P.cut (fun m hm => by
        rw [P.mo_cut m]
        unfold upd
        split
        · rfl
        · exact hM m hm)]
end
theorem QRS.count {w : World} {b n len : Nat} {M : Nat → Option UInt8} {S : Nat → Prop} (q : QRS w b n len M S) : cnt M n = len := by
  obtain ⟨h1, h2, h3, ⟨e, _, h5, rfl⟩ | ⟨cap, g, pl, h', k, h4, rfl⟩⟩ := q
  · rw [e, cnt_none (fun m _ => h5 m)]
  · exact cnt_some k.p (fun m hm => h4 m (by omega))

set_option maxRecDepth 40000 in
theorem count_any (gw n : Nat) (M : Nat → Option UInt8) (w : World) (hr : CRow w 3 gw n (fun i => .int .i64 (wv (M i)))) (hn : n ≤ 1024) :
    Calls Try.prog 21 #[.slice (some ⟨gw, 0, none⟩) n n] w fun e w' => e = .returned (.int .i64 (cnt M n : Nat)) ∧ w = w' := by
  have HR := Lib.hid hr
  clear hr
  go_enter Try.func21, Try.ntmps21
  go_wp2_with fail
  go_loopw [3, 4] (fun t3 t4 wx => ∃ k C : Nat, k ≤ n ∧ Hid (C = cnt M k) ∧ t3 = .int .i64 C ∧ t4 = .int .i64 k ∧ Hid (w = wx)) (fun _ t4 _ => n - (intOf t4).toNat)
  case atStart => exact ⟨0, 0, by omega, Lib.hid rfl, rfl, rfl, Lib.hid rfl⟩
  case round =>
    obtain ⟨k, C, hk, HC, rfl, rfl, HW⟩ := hrel
    obtain rfl := HW.out
    have hCk : C ≤ k := by rw [HC.out]; exact cnt_le M k
    by_cases hlt : k < n
    · have hlt' : (k : Int) < n := by omega
      have hcell := HR.out.cell k hlt
      have hC1 : (C : Int) ≤ 1024 := by omega
      cases hM : M k with
      | none =>
        have HM := Lib.hid hM
        rw [hM] at hcell
        simp only [wv] at hcell
        clear hM
        go_wp2
        go_roundw
        case rel => exact ⟨k + 1, C, by omega, Lib.hid (by rw [cnt_succ, HM.out, HC.out]; rfl), rfl, by go_num, Lib.hid (by first | rfl | trivial)⟩
        case measure => simp [intOf]; omega
      | some p =>
        have HM := Lib.hid hM
        rw [hM] at hcell
        simp only [wv] at hcell
        have hp0 : (0 : Int) ≤ p.toNat := by omega
        clear hM
        go_wp2
        go_roundw
        case rel => exact ⟨k + 1, C + 1, by omega, Lib.hid (by rw [cnt_succ, HM.out, HC.out]; rfl), by go_num, by go_num, Lib.hid (by first | rfl | trivial)⟩
        case measure => simp [intOf]; omega
    · have hkn : k = n := by omega
      have hlt' : ¬ (k : Int) < n := by omega
      have hC1 : (C : Int) ≤ 1024 := by omega
      go_wp2
      go_ret
      refine ⟨?_, rfl⟩
      rw [HC.out, hkn]
      rfl
/-- A queue of a call's own that holds M, and a row of numbers that tells N. -/
structure SQ (w0 w : World) (bq gw n L : Nat) (M N : Nat → Option UInt8) (S : Nat → Prop) : Prop where
  q : QRS w bq n L M S
  r : CRow w 3 gw n (fun i => .int .i64 (wv (N i)))
  s : ∀ k, S k → w0.heap.size ≤ k
  ng : ¬ S gw
  lo : w0.heap.size ≤ gw
  g : Gr w0 w
section
variable {w0 w w' : World} {bq gw n L L' : Nat} {M M' N : Nat → Option UInt8} {S S' : Nat → Prop}
theorem SQ.gr (h : SQ w0 w bq gw n L M N S) (g : Gr w w') : SQ w0 w' bq gw n L M N S := ⟨h.q.gr g, h.r.gr g, h.s, h.ng, h.lo, h.g.trans g⟩
theorem SQ.mdh (h : SQ w0 w bq gw n L M N S) (q : QRS w' bq n L' M' S') (m : Mdh S w w') (hs : ∀ k, S' k → S k ∨ w.heap.size ≤ k) : SQ w0 w' bq gw n L' M' N S' :=
  ⟨q, h.r.mdh m h.ng, fun k hk => (hs k hk).elim (h.s k) (fun y => Nat.le_trans h.g.sz y), fun hk => (hs _ hk).elim h.ng (fun y => by have := h.r.lt; omega), h.lo, h.g.md m h.s⟩
theorem SQ.mdh' (h : SQ w0 w bq gw n L M N S) (q : QRS w' bq n L' M' S) (m : Mdh S w w') : SQ w0 w' bq gw n L' M' N S := h.mdh q m (fun _ hk => .inl hk)
theorem SQ.other {F : Nat → Prop} (h : SQ w0 w bq gw n L M N S) (m : Mdh F w w') (hF : ∀ k, F k → ¬ S k ∧ k ≠ gw ∧ w0.heap.size ≤ k) : SQ w0 w' bq gw n L M N S :=
  ⟨h.q.mdh m (fun k hk hf => (hF k hf).1 hk), h.r.mdh m (fun hf => (hF _ hf).2.1 rfl), h.s, h.ng, h.lo, h.g.md m (fun k hk => (hF k hk).2.2)⟩
theorem SQ.set (h : SQ w0 w bq gw n L M N S) {I : Nat} (hI : I < n) (x : Option UInt8) : SQ w0 (w.setCell ⟨gw, I, none⟩ (.int .i64 (wv x))) bq gw n L M (upd N I x) S :=
  ⟨h.q.set h.ng _, (h.r.set hI (.int .i64 (wv x))).congr (fun i _ => wv_upd N I x i), h.s, h.ng, h.lo, h.g.setCell h.lo _⟩
theorem SQ.cell (h : SQ w0 w bq gw n L M N S) {I : Nat} (hI : I < n) : w.cell? ⟨gw, I, none⟩ = some (.int .i64 (wv (N I))) := h.r.cell I hI
theorem SQ.congr {N' : Nat → Option UInt8} (h : SQ w0 w bq gw n L M N S) (e : ∀ i, i < n → N i = N' i) : SQ w0 w bq gw n L M N' S := ⟨h.q, h.r.congr (fun i hi => by rw [e i hi]), h.s, h.ng, h.lo, h.g⟩
end
theorem xor1 (p : UInt8) : bits .xor .u8 (p.toNat : Int) 1 = ((p ^^^ 1).toNat : Int) := by
  have h : (List.range 256).all (fun n => bits .xor .u8 (n : Int) 1 == ((UInt8.ofNat n ^^^ 1).toNat : Int)) = true := by kernel_rfl
  have h' := List.all_eq_true.1 h p.toNat (List.mem_range.2 p.toNat_lt)
  rw [UInt8.ofNat_toNat] at h'
  simpa using h'

end Go.Proofs.Ythialloenkbpnaa
