/- A choice of things that lie side by side, in any order. No program in sight. -/
import Derived.Test.YtmdfickejpeofaaGreatBd7
import Derived.Test.YtmdfickejpeofaaGreatBd6
import Derived.Test.YtmdfickejpeofaaGreatBd11
import Derived.Test.YtmdfickejpeofaaGreatBd10
import Derived.Test.YtmdfickejpeofaaGreatBd12
set_option linter.unusedVariables false
set_option linter.unusedSimpArgs false
namespace Go.Proofs.YtmdfickejpeofaaGreat
open Go.RowKit
theorem SW.sel {w0 w : World} {R R' : List Asn} (h : SW w0 R w) (is : List Nat) (hd : is.Nodup) (he : is.map (fun i => R[i]?) = R'.map some) : SW w0 R' w := by
  have hm : ∀ A ∈ R', A ∈ R := fun A hA => by
    have h1 : some A ∈ R'.map some := List.mem_map.2 ⟨A, hA, rfl⟩
    rw [← he] at h1
    obtain ⟨i, _, h2⟩ := List.mem_map.1 h1
    exact List.mem_of_getElem? h2
  have hp : (R'.map some).Pairwise (fun a b => ∀ A B, a = some A → b = some B → Dis A B) := by
    rw [← he]
    exact List.pairwise_map.2 (hd.imp (fun {i j} hij A B ha hb => h.get_ne ha hb hij))
  exact ⟨h.g, ⟨fun A hA => h.s.1 A (hm A hA), (List.pairwise_map.1 hp).imp (fun {A B} hab => hab A B rfl rfl)⟩, fun A hA => h.n A (hm A hA)⟩
/-- What a callee has laid beside what the caller held. -/
theorem SW.both {w w0 w1 : World} {R R2 : List Asn} (h : SW w R w0) (h2 : SW w0 R2 w1) : SW w (R2 ++ R) w1 := by
  have hr := h.s.gr h2.g
  refine ⟨h.g.trans h2.g, ⟨fun A hA => (List.mem_append.1 hA).elim (h2.s.1 A) (hr.1 A), List.pairwise_append.2 ⟨h2.s.2, h.s.2, fun A hA B hB k ka kb => ?_⟩⟩, fun A hA k hk => (List.mem_append.1 hA).elim (fun e => Nat.le_trans h.g.sz (h2.n A e k hk)) (fun e => h.n A e k hk)⟩
  have h3 := h2.n A hA k ka
  have h4 := h.s.lt hB k kb
  omega
/-- A block that lies apart from all of them. -/
theorem SW.addD {w0 W : World} {R : List Asn} {D : Nat} {o : Obj} (h : SW w0 R W) (hd : W.heap[D]? = some o) (hn : ∀ B ∈ R, ∀ k, B.S k → k ≠ D) (h0 : w0.heap.size ≤ D) : SW w0 (blkA D o :: R) W :=
  ⟨h.g, ⟨fun A hA => (List.mem_cons.1 hA).elim (fun e => by rw [e]; exact hd) (h.s.1 A), List.pairwise_cons.2 ⟨fun B hB k ka kb => hn B hB k kb ka, h.s.2⟩⟩, fun A hA k hk => (List.mem_cons.1 hA).elim (fun e => by rw [e] at hk; rw [show k = D from hk]; exact h0) (fun e => h.n A e k hk)⟩
end Go.Proofs.YtmdfickejpeofaaGreat

/- drumlinref05.Check and the small functions of drumlinref21: the walks. -/
set_option linter.unusedVariables false
set_option linter.unusedSimpArgs false
namespace Go.Proofs.YtmdfickejpeofaaGreat
open Go.RowKit Go.Shelf
attribute [local go_sem] OvM cell_ovm obj_ovm

theorem keyC_mem (c : UInt8) : keyC c = decide (c ∈ lettersL) := by
  have h : ∀ n : Fin 256, keyC (UInt8.ofNat n.val) = decide (UInt8.ofNat n.val ∈ lettersL) := by decide +kernel
  have := h ⟨c.toNat, c.toNat_lt⟩
  simpa using this
set_option maxRecDepth 40000 in
theorem letters5 (w : World) : Calls Tryz.prog 206 #[] w fun e w' => e = .returned (.string ⟨lettersL.toArray⟩) ∧ w = w' := by
  go_enter Tryz.func206, Tryz.ntmps206
  go_wp2
  go_ret
  exact ⟨rfl, rfl⟩
set_option maxRecDepth 40000 in
set_option maxHeartbeats 4000000 in
theorem place5 (c : UInt8) (w : World) : Calls Tryz.prog 186 #[.int .u8 c.toNat] w fun e w' => ∃ r : Int, e = .returned (.int .i64 r) ∧ decide (r < 0) = !keyC c ∧ w = w' := by
  obtain ⟨sB, hsB⟩ : ∃ s : ByteArray, s = ⟨lettersL.toArray⟩ := ⟨_, rfl⟩
  have HL : Hid (∀ w, Calls Tryz.prog 206 #[] w fun e w' => e = .returned (.string sB) ∧ w = w') := Lib.hid (fun w => by rw [hsB]; exact letters5 w)
  have hz : sB.size = 39 := by rw [hsB]; rfl
  go_enter Tryz.func186, Tryz.ntmps186
  go_wp2_with fail
  go_loopw [3] (fun t3 wx => ∃ i : Nat, i ≤ 39 ∧ t3 = .int .i64 i ∧ (∀ j, j < i → lettersL[j]? ≠ some c) ∧ w = wx) (fun t3 _ => 39 - (intOf t3).toNat)
  case atStart => exact ⟨0, by omega, rfl, fun j hj => by omega, rfl⟩
  case round =>
    obtain ⟨i, hi, rfl, hj, rfl⟩ := hrel
    go_wp2_with (go_at_call 206; refine (HL.out _).mono ?_; rintro e w1 ⟨rfl, rfl⟩)
    · rename_i h1 _ _ h2
      have h3 : ((lettersL[i]'h1).toNat : Int) = c.toNat := beq_iff_eq.1 h2
      have h4 : lettersL[i]'h1 = c := UInt8.toNat_inj.1 (by omega)
      go_ret
      have hk : keyC c = true := by rw [keyC_mem, ← h4]; exact decide_eq_true (List.getElem_mem h1)
      exact ⟨i, rfl, by rw [hk]; exact decide_eq_false (by omega), rfl⟩
    · rename_i h1 h2
      have h1' : i < 39 := h1
      refine ⟨⟨i + 1, by omega, by simp, fun j hji hc => ?_, trivial⟩, by simp [intOf]; omega⟩
      by_cases hji' : j < i
      · exact hj j hji' hc
      · obtain rfl : j = i := by omega
        rw [List.getElem?_eq_getElem h1] at hc
        have h4 := Option.some.inj hc
        exact beq_eq_false_iff_ne.1 h2 (by show ((lettersL[j]'h1).toNat : Int) = c.toNat; rw [h4])
    · rename_i h1
      have h1' : ¬ i < 39 := h1
      go_ret
      refine ⟨-1, rfl, ?_, rfl⟩
      have hk : keyC c = false := by
        rw [keyC_mem]
        refine decide_eq_false (fun hm => ?_)
        obtain ⟨j, hj1, hj2⟩ := List.mem_iff_getElem.1 hm
        have hj3 : j < 39 := hj1
        exact hj j (by omega) (by rw [List.getElem?_eq_getElem hj1, hj2])
      rw [hk]
      rfl
end Go.Proofs.YtmdfickejpeofaaGreat

/- drumlinref21's index in plain Lean: what Add says is what the program's index says. No walk. -/
set_option linter.unusedVariables false
set_option linter.unusedSimpArgs false
namespace Go.Proofs.YtmdfickejpeofaaGreat

def rBad (e o : En) : Bool := decide (o.seq = e.seq ∧ o.key = e.key ∧ (o.del ≠ e.del ∨ o.size ≠ e.size))
def rHav (e o : En) : Bool := decide (o.slot = e.slot ∧ ((o.seq = e.seq ∧ o.key = e.key) ∨ (o.off < e.off + e.size ∧ e.off < o.off + o.size)))
/-- What Add says of an index with these entries. -/
def rAddC (N : Int) (all : List En) (e : En) : Int := if e.slot < 0 ∨ N ≤ e.slot then 3 else if validE e = false then 2 else if all.any (rBad e) = true then 2 else if all.any (rHav e) = true then 6 else 0
def rAddL (N : Int) (all : List En) (e : En) : List En := if rAddC N all e = 0 then all ++ [e] else all
section
variable {X : IX} {all : List En} {e : En} {N : Int}
theorem clash_iff {i : Int} {s : List En} (hs : SlotOk i s) (he : 0 < e.size) : clash s e = true ↔ ∃ o ∈ s, o.off < e.off + e.size ∧ e.off < o.off + o.size := by
  constructor
  · intro h
    refine Classical.byContradiction (fun hn => ?_)
    have hno : ∀ o ∈ s, ¬ (o.off < e.off + e.size ∧ e.off < o.off + o.size) := fun o ho hh => hn ⟨o, ho, hh⟩
    have hz : ∀ o ∈ s, 16 ≤ o.size := fun o ho => by have := (valid_iff o).1 (hs.e o ho).2; omega
    unfold clash at h
    rw [Bool.or_eq_true] at h
    rcases h with h | h
    · cases hg : s[cnt (offP e.off) s]? with
      | none => rw [hg] at h; cases h
      | some o =>
        rw [hg] at h
        have h1 := cnt_at _ _ o hg
        have hm := List.mem_of_getElem? hg
        have h2 := hno o hm
        have h3 := hz o hm
        simp only [offP, decide_eq_false_iff_not] at h1
        simp only [Bool.or_eq_true, decide_eq_true_eq] at h
        omega
    · rw [Bool.and_eq_true] at h
      obtain ⟨h0, h⟩ := h
      have h0 := of_decide_eq_true h0
      cases hg : s[cnt (offP e.off) s - 1]? with
      | none => rw [hg] at h; cases h
      | some o =>
        rw [hg] at h
        have h1 := cnt_lo _ _ _ o (show cnt (offP e.off) s - 1 < cnt (offP e.off) s by omega) hg
        have hm := List.mem_of_getElem? hg
        have h2 := hno o hm
        simp only [offP, decide_eq_true_eq] at h1
        simp only [decide_eq_true_eq] at h
        omega
  · rintro ⟨o, ho, h1, h2⟩
    cases hc : clash s e with
    | true => rfl
    | false =>
      have h3 := clash_lo hs hc o ho
      have h4 := clash_hi hs hc o ho
      unfold offP at h3 h4
      by_cases h5 : o.off < e.off
      · have := h3 (decide_eq_true h5); omega
      · have := h4 (decide_eq_false h5); omega
theorem rAddC_eq (h : X.Wf) (hl : (X.slots.length : Int) = N) (hN : 1 ≤ N) (hp : all.Perm X.ents) (e : En) : rAddC N all e = addE X e := by
  have hne : X.slots ≠ [] := fun h0 => by rw [h0] at hl; simp at hl; omega
  unfold rAddC addE
  rw [if_neg hne]
  by_cases h1 : e.slot < 0 ∨ N ≤ e.slot
  · rw [if_pos h1, if_pos (by unfold IX.has; exact decide_eq_false (by omega))]
  · have hh : X.has e.slot = true := by unfold IX.has; exact decide_eq_true (by omega)
    rw [if_neg h1, if_neg (show ¬ X.has e.slot = false by rw [hh]; decide)]
    cases hv : validE e with
    | false => rw [if_pos rfl, if_pos rfl]
    | true =>
      have hz : 0 < e.size := by have := (valid_iff e).1 hv; omega
      rw [if_neg (show ¬ true = false by decide), if_neg (show ¬ true = false by decide)]
      have e1 : all.any (rBad e) = (X.of e.key).any (badE e) := by
        rw [Bool.eq_iff_iff, List.any_eq_true, List.any_eq_true]
        unfold rBad badE
        constructor
        · rintro ⟨o, ho, h2⟩
          obtain ⟨h3, h4, h5⟩ := of_decide_eq_true h2
          refine ⟨o, (h.of_mem _ _).2 ⟨(hp.mem_iff).1 ho, h4⟩, decide_eq_true ⟨h3, fun h6 => ?_⟩⟩
          have := congrArg En.del h6
          have := congrArg En.size h6
          simp only at *
          rcases h5 with h5 | h5 <;> exact h5 (by assumption)
        · rintro ⟨o, ho, h2⟩
          obtain ⟨h3, h5⟩ := of_decide_eq_true h2
          obtain ⟨h6, h4⟩ := (h.of_mem _ _).1 ho
          refine ⟨o, (hp.mem_iff).2 h6, decide_eq_true ⟨h3, h4, ?_⟩⟩
          by_cases h7 : o.del = e.del
          · by_cases h8 : o.size = e.size
            · exact absurd (show ({ o with slot := e.slot, off := e.off } : En) = e from En.ext' h3 h4 h7 rfl rfl h8) h5
            · exact .inr h8
          · exact .inl h7
      have e2 : all.any (rHav e) = ((X.of e.key).any (sameE e) || clash (X.slot e.slot) e) := by
        rw [Bool.eq_iff_iff, Bool.or_eq_true, List.any_eq_true, List.any_eq_true, clash_iff (h.slotOk e.slot) hz]
        unfold rHav sameE
        constructor
        · rintro ⟨o, ho, h2⟩
          obtain ⟨h3, h4⟩ := of_decide_eq_true h2
          rcases h4 with ⟨h4, h5⟩ | h4
          · exact .inl ⟨o, (h.of_mem _ _).2 ⟨(hp.mem_iff).1 ho, h5⟩, decide_eq_true ⟨h4, h3⟩⟩
          · exact .inr ⟨o, (h.slot_mem _ _).2 ⟨(hp.mem_iff).1 ho, h3⟩, h4⟩
        · rintro (⟨o, ho, h2⟩ | ⟨o, ho, h2⟩)
          · obtain ⟨h3, h4⟩ := of_decide_eq_true h2
            obtain ⟨h6, h5⟩ := (h.of_mem _ _).1 ho
            exact ⟨o, (hp.mem_iff).2 h6, decide_eq_true ⟨h4, .inl ⟨h3, h5⟩⟩⟩
          · obtain ⟨h6, h5⟩ := (h.slot_mem _ _).1 ho
            exact ⟨o, (hp.mem_iff).2 h6, decide_eq_true ⟨h5, .inr h2⟩⟩
      rw [e1, e2]
end
/-- Where the loop of Add stands behind some entries. -/
theorem rany_snoc {p : En → Bool} {l : List En} {i : Nat} {o : En} (h : l[i]? = some o) : (l.take (i + 1)).any p = ((l.take i).any p || p o) := by
  rw [List.take_add_one, h, List.any_append]
  simp
theorem rany_take {p : En → Bool} {l : List En} {i : Nat} (h : (l.take i).any p = true) : l.any p = true := by
  obtain ⟨o, ho, hp⟩ := List.any_eq_true.1 h
  exact List.any_eq_true.2 ⟨o, List.mem_of_mem_take ho, hp⟩
end Go.Proofs.YtmdfickejpeofaaGreat

/- drumlinref21's index: the walks of New, Slots, Valid. -/
set_option linter.unusedVariables false
set_option linter.unusedSimpArgs false
namespace Go.Proofs.YtmdfickejpeofaaGreat
open Go.RowKit Go.Shelf
attribute [local go_sem] OvM cell_ovm obj_ovm
attribute [local go_sem] Oper.semAt_some

set_option maxRecDepth 40000 in
set_option maxHeartbeats 4000000 in
theorem Check5 (k : ByteArray) (hm : k.size ≤ 140737488351232) (w : World) : Calls Tryz.prog 142 #[.string k] w fun e w' => e = .returned (.int .i64 (keyChk k)) ∧ w = w' := by
  have hl : k.toList.length = k.size := by rw [toList_data, size_data]
  by_cases h0 : k.size = 0
  · have e0 : k.toList = [] := List.eq_nil_of_length_eq_zero (by omega)
    have HR : Hid (keyChk k = 2) := Lib.hid (by rw [keyChk_ok (k := k) (fun j hj => by omega), if_pos h0])
    clear hl h0
    go_enter Tryz.func142, Tryz.ntmps142
    go_wp2
    go_ret
    exact ⟨ret_int HR.out.symm, rfl⟩
  · have e0 : (k.toList == []) = false := by cases hk : k.toList with | nil => rw [hk] at hl; simp at hl; omega | cons a b => rfl
    have e1 : k.toList.isEmpty = false := by cases hk : k.toList with | nil => rw [hk] at e0; cases e0 | cons a b => rfl
    have HBAD := Lib.hid (fun (i : Nat) (hi : i < k.size) (h : keyC (k[i]'hi) = false) => keyChk_bad (k := k) i hi h)
    have HOK := Lib.hid (fun (h : ∀ j (hj : j < k.size), keyC (k[j]'hj) = true) => keyChk_ok (k := k) h)
    go_enter Tryz.func142, Tryz.ntmps142
    go_wp2_with fail
    go_loopw [3] (fun t3 wx => ∃ i : Nat, i ≤ k.size ∧ t3 = .int .i64 i ∧ Hid (∀ j (hj : j < k.size), j < i → keyC (k[j]'hj) = true) ∧ w = wx) (fun t3 _ => k.size - (intOf t3).toNat)
    case atStart => exact ⟨0, by omega, rfl, Lib.hid (fun j hj h => by omega), rfl⟩
    case round =>
      obtain ⟨i, hi, rfl, HJ, rfl⟩ := hrel
      by_cases hlt : i < k.size
      · have hlt' : (i : Int) < k.size := by omega
        have HP := Lib.hid (place5 (k[i]'hlt) w)
        cases hk : keyC (k[i]'hlt) with
        | true =>
          have HK := Lib.hid hk
          clear hk
          go_wp2_with (go_at_call 186; refine Calls.mono HP.out ?_; rintro e w1 ⟨r, rfl, hr, rfl⟩; (have hr0 : ¬ r < 0 := by rw [HK.out] at hr; exact of_decide_eq_false hr); clear hr)
          exact ⟨⟨i + 1, by omega, by simp, Lib.hid (fun j hj h => by
            by_cases hji : j < i
            · exact HJ.out j hj hji
            · obtain rfl : j = i := by omega
              exact HK.out), trivial⟩, by simp [intOf]; omega⟩
        | false =>
          have HK := Lib.hid hk
          clear hk
          go_wp2_with (go_at_call 186; refine Calls.mono HP.out ?_; rintro e w1 ⟨r, rfl, hr, rfl⟩; (have hr0 : r < 0 := by rw [HK.out] at hr; exact of_decide_eq_true hr); clear hr)
          go_ret
          exact ⟨ret_int (HBAD.out i hlt HK.out).symm, rfl⟩
      · have hlt' : ¬ (i : Int) < k.size := by omega
        have HE := Lib.hid (HOK.out (fun j hj => HJ.out j hj (by omega)))
        by_cases h1 : 32 < k.size
        · have h2 : (32 : Int) < k.size := by omega
          have HR : Hid (keyChk k = 12) := Lib.hid (by rw [HE.out, if_neg h0, if_pos h1])
          go_wp2
          go_ret
          exact ⟨ret_int HR.out.symm, rfl⟩
        · have h2 : ¬ (32 : Int) < k.size := by omega
          have HR : Hid (keyChk k = 0) := Lib.hid (by rw [HE.out, if_neg h0, if_neg h1])
          go_wp2
          go_ret
          exact ⟨ret_int HR.out.symm, rfl⟩

abbrev rmO (N : Int) (v : Value) : Obj := .cells #[.int .i64 N, v] 122
set_option maxRecDepth 40000 in
theorem rvalid {w : World} {rb : Nat} {N : Int} {v : Value} (h : w.heap[rb]? = some (rmO N v)) (hN : 0 < N) : Calls Tryz.prog 71 #[.pointer (some ⟨rb, 0, none⟩)] w fun e w' => e = .returned (.bool true) ∧ w = w' := by
  have c0 := ((cellsOf h).1 0).trans (show _ = some (Value.int .i64 N) from rfl)
  clear h
  go_enter Tryz.func71, Tryz.ntmps71
  go_wp2
  go_ret
  exact ⟨rfl, rfl⟩
set_option maxRecDepth 40000 in
theorem rSlots {w : World} {rb : Nat} {N : Int} {v : Value} (h : w.heap[rb]? = some (rmO N v)) (hN : 0 < N) : Calls Tryz.prog 59 #[.pointer (some ⟨rb, 0, none⟩)] w fun e w' => e = .returned (.int .i64 N) ∧ w = w' := by
  have c0 := ((cellsOf h).1 0).trans (show _ = some (Value.int .i64 N) from rfl)
  have HV := Lib.hid (rvalid h hN)
  clear h
  go_enter Tryz.func59, Tryz.ntmps59
  go_wp2_with (go_at_call 71; refine Calls.mono HV.out ?_; rintro e w1 ⟨rfl, rfl⟩)
  go_ret
  exact ⟨rfl, rfl⟩
set_option maxRecDepth 40000 in
theorem rNew (n : Nat) (h1 : 1 ≤ n) (h2 : n ≤ 32) (w : World) : Calls Tryz.prog 33 #[.int .i64 n] w fun e w' => e = .returned (.tuple #[.pointer (some ⟨w.heap.size, 0, none⟩), .int .i64 0]) ∧ w' = w.alloc (rmO n (.slice none 0 0)) := by
  have h1' : ¬ (n : Int) < 1 := by omega
  have h2' : ¬ (32 : Int) < (n : Int) := by omega
  go_enter Tryz.func33, Tryz.ntmps33
  go_wp2
  go_ret2
  exact ⟨rfl, rfl⟩
set_option maxRecDepth 40000 in
set_option maxHeartbeats 4000000 in
theorem rValid (e : En) (hk : e.key.size ≤ 140737488351232) (w : World) : Calls Tryz.prog 99 #[enV e] w fun r w' => r = .returned (.bool (validE e)) ∧ Gr w w' := by
  have HV := Lib.hid (valid_iff e)
  obtain ⟨vb, hvb⟩ : ∃ vb, vb = validE e := ⟨_, rfl⟩
  rw [← hvb] at HV ⊢
  clear hvb
  obtain ⟨a1, a2, a3, a4, a5, a6⟩ := e
  simp only at hk
  have HC : Hid (∀ w, Calls Tryz.prog 142 #[.string a2] w fun e w' => e = .returned (.int .i64 (keyChk a2)) ∧ w = w') := Lib.hid (fun w => Check5 a2 (by omega) w)
  simp only [enV]
  go_enter Tryz.func99, Tryz.ntmps99
  go_wp2_with (go_at_call 142; refine (HC.out _).mono ?_; rintro e w1 ⟨rfl, rfl⟩)
  all_goals
    go_ret
    refine ⟨ret_bool ?_, (Gr.refl w).alloc _⟩
    rw [Bool.eq_iff_iff, HV.out]
    clear HV HC
    first
    | (simp only [Bool.false_eq_true, false_iff]; rintro ⟨q1, q2, q3, q4, q5, q6, q7, q8⟩; first | omega | (rcases q6 with q6 | q6 <;> simp_all <;> omega) | simp_all)
    | (simp only [decide_eq_true_eq]; constructor <;> intro hh <;> first | omega | (simp_all; done) | (simp_all; omega))
end Go.Proofs.YtmdfickejpeofaaGreat

/- What a builder of chapters 21, 23, 24, 28 keeps: an index filled by moves. No walk. -/
set_option linter.unusedVariables false
set_option linter.unusedSimpArgs false
namespace Go.Proofs.YtmdfickejpeofaaGreat

/-- An index behind moves: its entries in the order in which they were added, where each slot ends, the next number, how many moves. -/
structure FI (X : IX) (all : List En) (en : Int → Int) (nx j n : Int) : Prop where
  wf : X.Wf
  ln : (X.slots.length : Int) = n
  n0 : 1 ≤ n
  pm : all.Perm X.ents
  en0 : ∀ s, 0 ≤ en s ∧ en s ≤ 68 * j
  up : ∀ e ∈ all, e.off + e.size ≤ en e.slot
  j0 : 0 ≤ j
  nx0 : 1 ≤ nx
  nx1 : nx ≤ j + 1
  sq : ∀ e ∈ all, e.seq < nx
  cp : ∀ a ∈ all, ∀ b ∈ all, a.seq = b.seq → a.key = b.key ∧ a.del = b.del ∧ a.size = b.size
  sm : ∀ e ∈ all, e.size ≤ 68 ∧ e.key.size ≤ 3 ∧ Low e.key
def upd (en : Int → Int) (s v : Int) : Int → Int := fun t => if t = s then v else en t
theorem upd_same (en : Int → Int) (s v : Int) : upd en s v s = v := if_pos rfl
theorem upd_other (en : Int → Int) {s t : Int} (v : Int) (h : t ≠ s) : upd en s v t = en t := if_neg h
section
variable {X : IX} {all : List En} {en : Int → Int} {nx j n : Int}
theorem clash_end {l : List En} {e : En} (h : ∀ o ∈ l, o.off + o.size ≤ e.off) (hp : ∀ o ∈ l, 0 < o.size) : clash l e = false := by
  have hc : cnt (offP e.off) l = l.length := by
    refine (cnt_uniq (offP e.off) l l.length (Nat.le_refl _) (fun i x _ hx => ?_) (fun i x hi hx => ?_)).symm
    · have hm := List.mem_of_getElem? hx
      have := h x hm
      have := hp x hm
      unfold offP
      exact decide_eq_true (by omega)
    · have := (List.getElem?_eq_some_iff.1 hx).1; omega
  unfold clash
  rw [hc, List.getElem?_eq_none (Nat.le_refl _)]
  simp only [Bool.false_or]
  cases hl : l[l.length - 1]? with
  | none => simp
  | some o =>
    have := h o (List.mem_of_getElem? hl)
    simp only [Bool.and_eq_false_iff]
    exact .inr (decide_eq_false (by omega))
theorem FI.mem (h : FI X all en nx j n) (e : En) : e ∈ all ↔ e ∈ X.ents := h.pm.mem_iff
theorem FI.slot (h : FI X all en nx j n) (s : Int) (e : En) : e ∈ X.slot s ↔ e ∈ all ∧ e.slot = s := by rw [h.mem]; exact h.wf.slot_mem s e
theorem FI.of (h : FI X all en nx j n) (k : ByteArray) (e : En) : e ∈ X.of k ↔ e ∈ all ∧ e.key = k := by rw [h.mem]; exact h.wf.of_mem k e
theorem FI.ne (h : FI X all en nx j n) : X.slots ≠ [] := fun h0 => by have := h.ln; have := h.n0; rw [h0] at *; simp at *; omega
theorem FI.has (h : FI X all en nx j n) {s : Int} (h0 : 0 ≤ s) (h1 : s < n) : X.has s = true := by
  unfold IX.has
  exact decide_eq_true ⟨h0, by have := h.ln; omega⟩
theorem FI.clash (h : FI X all en nx j n) {e : En} (ho : e.off = en e.slot) : clash (X.slot e.slot) e = false := by
  refine clash_end (fun o hm => ?_) (fun o hm => ?_)
  · obtain ⟨h1, h2⟩ := (h.slot _ o).1 hm
    have := h.up o h1
    rw [h2] at this
    omega
  · obtain ⟨h1, h2⟩ := (h.slot _ o).1 hm
    have := (valid_iff o).1 (h.wf.valid ((h.mem o).1 h1)).1
    omega
theorem FI.later (h : FI X all en nx j n) {j' : Int} (hj : j ≤ j') : FI X all en nx j' n :=
  ⟨h.wf, h.ln, h.n0, h.pm, fun s => ⟨(h.en0 s).1, by have := (h.en0 s).2; omega⟩, h.up, by have := h.j0; omega, h.nx0, by have := h.nx1; omega, h.sq, h.cp, h.sm⟩
/-- An entry that goes behind those of its slot. -/
theorem FI.push (h : FI X all en nx j n) {e : En} {nx' : Int} (a : AddOk X e) (ho : e.off = en e.slot) (hs : e.size ≤ 68 ∧ e.key.size ≤ 3 ∧ Low e.key) (h1 : nx ≤ nx') (h2 : nx' ≤ j + 2) (h3 : e.seq < nx')
    (hc : ∀ o ∈ all, o.seq = e.seq → o.key = e.key ∧ o.del = e.del ∧ o.size = e.size) : FI (addX X e) (all ++ [e]) (upd en e.slot (e.off + e.size)) nx' (j + 1) n := by
  have hv := (valid_iff e).1 a.valid
  have he := h.en0 e.slot
  have hle : ∀ s, en s ≤ upd en e.slot (e.off + e.size) s := fun s => by
    unfold upd
    split
    · rename_i h0; subst h0; omega
    · exact Int.le_refl _
  refine ⟨add_wf h.wf a, ?_, h.n0, ?_, fun s => ?_, fun o hm => ?_, by have := h.j0; omega, by have := h.nx0; omega, by omega, fun o hm => ?_, fun x hx y hy hq => ?_, fun o hm => ?_⟩
  · rw [addX_eq a]; simp only [List.length_set]; exact h.ln
  · exact (List.perm_append_singleton e all).trans ((h.pm.cons e).trans (add_ents h.wf a).symm)
  · have := h.en0 s
    unfold upd
    split
    · omega
    · omega
  · rcases List.mem_append.1 hm with hm | hm
    · exact Int.le_trans (h.up o hm) (hle _)
    · rw [List.mem_singleton.1 hm, upd_same]
      exact Int.le_refl _
  · rcases List.mem_append.1 hm with hm | hm
    · have := h.sq o hm; omega
    · rw [List.mem_singleton.1 hm]; exact h3
  · rcases List.mem_append.1 hx with hx1 | hx1 <;> rcases List.mem_append.1 hy with hy1 | hy1
    · exact h.cp x hx1 y hy1 hq
    · obtain rfl := List.mem_singleton.1 hy1
      exact hc x hx1 hq
    · obtain rfl := List.mem_singleton.1 hx1
      obtain ⟨q1, q2, q3⟩ := hc y hy1 hq.symm
      exact ⟨q1.symm, q2.symm, q3.symm⟩
    · obtain rfl := List.mem_singleton.1 hx1
      obtain rfl := List.mem_singleton.1 hy1
      exact ⟨rfl, rfl, rfl⟩
  · rcases List.mem_append.1 hm with hm | hm
    · exact h.sm o hm
    · rw [List.mem_singleton.1 hm]; exact hs
/-- A new entry. -/
theorem FI.newOk (h : FI X all en nx j n) {e : En} (hj : j < 100) (hq : e.seq = nx) (h0 : 0 ≤ e.slot) (h1 : e.slot < n) (ho : e.off = en e.slot) (hk : keyChk e.key = 0) (hz : 16 + (e.key.size : Int) ≤ e.size) (hz2 : e.size = 16 + (e.key.size : Int) ∨ e.del = false) (hs : e.size ≤ 68) : AddOk X e := by
  have he := h.en0 e.slot
  have hx := h.nx0
  have hx1 := h.nx1
  refine ⟨h.ne, h.has h0 h1, (valid_iff e).2 ⟨hk, by omega, by omega, by omega, hz, hz2, by omega, by omega⟩, fun o hm => ?_, fun o hm => ?_, h.clash ho⟩
  · have := h.sq o ((h.of _ o).1 hm).1
    exact badE_no (fun hh => by omega)
  · have := h.sq o ((h.of _ o).1 hm).1
    unfold sameE
    exact decide_eq_false (fun hh => by omega)
theorem FI.new (h : FI X all en nx j n) {e : En} (hj : j < 100) (hq : e.seq = nx) (h0 : 0 ≤ e.slot) (h1 : e.slot < n) (ho : e.off = en e.slot) (hk : keyChk e.key = 0) (hz : 16 + (e.key.size : Int) ≤ e.size) (hz2 : e.size = 16 + (e.key.size : Int) ∨ e.del = false) (hs : e.size ≤ 68) (hkz : e.key.size ≤ 3) (hl : Low e.key) :
    addE X e = 0 ∧ FI (addX X e) (all ++ [e]) (upd en e.slot (e.off + e.size)) (nx + 1) (j + 1) n :=
  have a := h.newOk hj hq h0 h1 ho hk hz hz2 hs
  ⟨ok_add a, h.push a ho ⟨hs, hkz, hl⟩ (by omega) (by have := h.nx1; omega) (by omega) (fun o hm hh => by have := h.sq o hm; omega)⟩
/-- A copy: refused where the slot has one. -/
theorem FI.copyBad (h : FI X all en nx j n) {x e : En} (hx : x ∈ all) (he : e = { x with slot := e.slot, off := e.off }) : ∀ o ∈ X.of e.key, badE e o = false := by
  intro o hm
  obtain ⟨h1, h2⟩ := (h.of _ o).1 hm
  refine badE_no (fun hh => ?_)
  have e1 : e.seq = x.seq := by rw [he]
  have e3 : e.del = x.del := by rw [he]
  have e4 : e.size = x.size := by rw [he]
  obtain ⟨q1, q2, q3⟩ := h.cp o h1 x hx (by rw [hh, e1])
  exact En.ext' hh h2 (by rw [e3]; exact q2) rfl rfl (by rw [e4]; exact q3)
theorem FI.copyValid (h : FI X all en nx j n) {x e : En} (hj : j < 100) (hx : x ∈ all) (he : e = { x with slot := e.slot, off := e.off }) (ho : e.off = en e.slot) : validE e = true := by
  have hv := (valid_iff x).1 (h.wf.valid ((h.mem x).1 hx)).1
  have hs := h.sm x hx
  have he0 := h.en0 e.slot
  have e1 : e.seq = x.seq := by rw [he]
  have e2 : e.key = x.key := by rw [he]
  have e3 : e.del = x.del := by rw [he]
  have e4 : e.size = x.size := by rw [he]
  refine (valid_iff e).2 ⟨by rw [e2]; exact hv.1, by omega, by omega, by omega, by rw [e2]; omega, ?_, by omega, by omega⟩
  rw [e2, e3, e4]
  exact hv.2.2.2.2.2.1
theorem FI.copyNo (h : FI X all en nx j n) {x e : En} (hj : j < 100) (hx : x ∈ all) (he : e = { x with slot := e.slot, off := e.off }) (h0 : 0 ≤ e.slot) (h1 : e.slot < n) (ho : e.off = en e.slot) (hd : all.any (fun o => decide (o.slot = e.slot) && decide (o.seq = e.seq)) = true) :
    addE X e = 6 ∧ FI (addX X e) all en nx (j + 1) n := by
  have h6 : addE X e = 6 := by
    refine add_6 h.ne (h.has h0 h1) (h.copyValid hj hx he ho) (h.copyBad hx he) ?_
    rw [Bool.or_eq_true]
    refine .inl ?_
    obtain ⟨o, hm, hh⟩ := List.any_eq_true.1 hd
    simp only [Bool.and_eq_true, decide_eq_true_eq] at hh
    have e1 : e.seq = x.seq := by rw [he]
    have e2 : e.key = x.key := by rw [he]
    obtain ⟨q1, _, _⟩ := h.cp o hm x hx (by rw [hh.2, e1])
    exact List.any_eq_true.2 ⟨o, (h.of _ o).2 ⟨hm, by rw [q1, e2]⟩, decide_eq_true ⟨hh.2, hh.1⟩⟩
  refine ⟨h6, ?_⟩
  rw [addX_no (by rw [h6]; decide)]
  exact h.later (by omega)
theorem FI.copyYes (h : FI X all en nx j n) {x e : En} (hj : j < 100) (hx : x ∈ all) (he : e = { x with slot := e.slot, off := e.off }) (h0 : 0 ≤ e.slot) (h1 : e.slot < n) (ho : e.off = en e.slot) (hd : all.any (fun o => decide (o.slot = e.slot) && decide (o.seq = e.seq)) = false) :
    addE X e = 0 ∧ FI (addX X e) (all ++ [e]) (upd en e.slot (e.off + e.size)) nx (j + 1) n := by
  have e1 : e.seq = x.seq := by rw [he]
  have e2 : e.key = x.key := by rw [he]
  have e3 : e.del = x.del := by rw [he]
  have e4 : e.size = x.size := by rw [he]
  have a : AddOk X e := ⟨h.ne, h.has h0 h1, h.copyValid hj hx he ho, h.copyBad hx he, fun o hm => by
    have h2 := (h.of _ o).1 hm
    have h3 := List.any_eq_false.1 hd o h2.1
    unfold sameE
    refine decide_eq_false (fun hh => ?_)
    simp [hh.1, hh.2] at h3, h.clash ho⟩
  have hs := h.sm x hx
  refine ⟨ok_add a, h.push a ho (by rw [e4, e2]; exact hs) (Int.le_refl _) (by have := h.nx1; omega) (by rw [e1]; exact h.sq x hx) (fun o hm hh => ?_)⟩
  rw [e2, e3, e4]
  exact h.cp o hm x hx (by rw [hh, e1])
/-- A slot is emptied. -/
theorem FI.drop (h : FI X all en nx j n) {s : Int} (h0 : 0 ≤ s) (h1 : s < n) :
    dropC X s = 0 ∧ (X.slot s).length + (all.filter (fun o => !decide (o.slot = s))).length = all.length ∧ FI (dropX X s) (all.filter (fun o => !decide (o.slot = s))) (upd en s 0) nx (j + 1) n := by
  have hh := h.has h0 h1
  have hp := drop_ents h.wf hh
  have hw := drop_wf h.wf s
  have hne : ∀ o ∈ (dropX X s).ents, (!decide (o.slot = s)) = true := fun o ho => by
    simp only [Bool.not_eq_true', decide_eq_false_iff_not]
    intro e
    have h2 := (hw.slot_mem s o).2 ⟨ho, e⟩
    rw [drop_slot h.wf, if_pos rfl] at h2
    cases h2
  have hs : ∀ o ∈ X.slot s, ¬ (!decide (o.slot = s)) = true := fun o ho => by simp [((h.wf.slot_mem s o).1 ho).2]
  have hpm : (all.filter (fun o => !decide (o.slot = s))).Perm (dropX X s).ents := by
    have h2 := (h.pm.trans hp).filter (fun o => !decide (o.slot = s))
    rw [List.filter_append, List.filter_eq_nil_iff.2 hs, List.nil_append, List.filter_eq_self.2 hne] at h2
    exact h2
  refine ⟨if_pos hh, ?_, hw, ?_, h.n0, hpm, fun t => ?_, fun o ho => ?_, by have := h.j0; omega, h.nx0, by have := h.nx1; omega, fun o ho => h.sq o (List.mem_filter.1 ho).1, fun a ha b hb => h.cp a (List.mem_filter.1 ha).1 b (List.mem_filter.1 hb).1, fun o ho => h.sm o (List.mem_filter.1 ho).1⟩
  · have h2 := (h.pm.trans hp).length_eq
    have h3 := hpm.length_eq
    rw [List.length_append] at h2
    omega
  · rw [drop_yes hh]; simp only [List.length_set]; exact h.ln
  · have := h.en0 t
    have := h.j0
    unfold upd
    split <;> omega
  · obtain ⟨h2, h3⟩ := List.mem_filter.1 ho
    simp only [Bool.not_eq_true', decide_eq_false_iff_not] at h3
    rw [upd_other _ _ h3]
    exact h.up o h2
end
theorem FI.start (n : Nat) (h1 : 1 ≤ n) (h2 : n ≤ 32) : FI (ixNew n) [] (fun _ => 0) 1 0 n :=
  ⟨new_wf h2, by simp [ixNew], by omega, by simp [ixNew, IX.ents], fun _ => ⟨by omega, by omega⟩, (fun _ h => by cases h), by omega, by omega, by omega, (fun _ h => by cases h), (fun _ h => by cases h), (fun _ h => by cases h)⟩
end Go.Proofs.YtmdfickejpeofaaGreat

/- A box of an entry; six numbers, one for each slot. -/
set_option linter.unusedVariables false
set_option linter.unusedSimpArgs false
namespace Go.Proofs.YtmdfickejpeofaaGreat
open Go.RowKit Go.Shelf

abbrev boxF (e : En) : Obj := .cells #[.int .i64 e.seq, .string e.key, .bool e.del, .int .i64 e.slot, .int .i64 e.off, .int .i64 e.size] 56
theorem SW.put {w0 w w' : World} {R : List Asn} {b : Nat} {o o' : Obj} (h : SW w0 (blkA b o :: R) w) (m : Mdh (fun k => k = b) w w') (hB : w'.heap[b]? = some o') : SW w0 (blkA b o' :: R) w' := h.step m (fun _ hk => .inl hk) hB (fun _ hk => .inl hk)
theorem us_get (us : Int → Int) (σ : Nat) (h : σ < 6) : (#[.int .i64 (us 0), .int .i64 (us 1), .int .i64 (us 2), .int .i64 (us 3), .int .i64 (us 4), .int .i64 (us 5)] : Array Value)[σ]? = some (.int .i64 (us σ)) := by
  have h' : σ = 0 ∨ σ = 1 ∨ σ = 2 ∨ σ = 3 ∨ σ = 4 ∨ σ = 5 := by omega
  rcases h' with rfl | rfl | rfl | rfl | rfl | rfl <;> rfl
theorem us_set (us : Int → Int) (σ : Nat) (h : σ < 6) (u : Int) : (#[.int .i64 (us 0), .int .i64 (us 1), .int .i64 (us 2), .int .i64 (us 3), .int .i64 (us 4), .int .i64 (us 5)] : Array Value).setIfInBounds σ (.int .i64 u) = #[.int .i64 (upd us σ u 0), .int .i64 (upd us σ u 1), .int .i64 (upd us σ u 2), .int .i64 (upd us σ u 3), .int .i64 (upd us σ u 4), .int .i64 (upd us σ u 5)] := by
  have h' : σ = 0 ∨ σ = 1 ∨ σ = 2 ∨ σ = 3 ∨ σ = 4 ∨ σ = 5 := by omega
  rcases h' with rfl | rfl | rfl | rfl | rfl | rfl <;> simp [upd]
end Go.Proofs.YtmdfickejpeofaaGreat

/- drumlinref21's index: the walk of Add. -/
set_option linter.unusedVariables false
set_option linter.unusedSimpArgs false
namespace Go.Proofs.YtmdfickejpeofaaGreat
open Go.RowKit Go.Shelf
attribute [local go_sem] OvM cell_ovm obj_ovm
attribute [local go_sem] Oper.semAt_some

/-- An element of a new block, as a source of an append. -/
theorem src_blk {w : World} {b : Nat} {e : En} {t : TypeId} (h : w.heap[b]? = some (.cells #[.int .i64 e.seq, .string e.key, .bool e.del, .int .i64 e.slot, .int .i64 e.off, .int .i64 e.size] t)) : SrcAt w 6 (some ⟨b, 0, none⟩) 1 (enC e) :=
  ⟨rfl, enC_one e, .inr ⟨_, rfl, fun j u hj => by
    rw [addr_add, Nat.zero_add]
    refine ((cellsOf h).1 j).trans ?_
    rw [← hj, List.getElem?_toArray]
    rfl⟩⟩
abbrev rIx (rb : Nat) (N : Int) (v : Value) (all : List En) (R : List Asn) : List Asn := blkA rb (rmO N v) :: rowA 56 6 v all.length (rowE all) :: R
def RAddP (w0 w : World) (rb : Nat) (N : Int) (all : List En) (R : List Asn) (e : En) (r : Ending) (w' : World) : Prop :=
  r = .returned (.int .i64 (rAddC N all e)) ∧ Mdh (fun k => k = rb) w w' ∧ ∃ v', SW w0 (rIx rb N v' (rAddL N all e) R) w'
theorem rAddP_no {w0 w w' : World} {rb : Nat} {N : Int} {v : Value} {all : List En} {R : List Asn} {e : En} {b : Nat} {o : Obj} {c : Int} (h : SW w0 (blkA b o :: rIx rb N v all R) w') (g : Gr w w') (hc : rAddC N all e = c) (h0 : c ≠ 0) : RAddP w0 w rb N all R e (.returned (.int .i64 c)) w' := by
  refine ⟨ret_int hc.symm, g.mdh _, v, ?_⟩
  unfold rAddL
  rw [hc, if_neg h0]
  exact h.sub (.cons _ (List.Sublist.refl _))
set_option maxRecDepth 40000 in
set_option maxHeartbeats 8000000 in
theorem rAdd {w0 w : World} {rb : Nat} {N : Int} {v : Value} {all : List En} {R : List Asn} (e : En) (h : SW w0 (rIx rb N v all R) w) (hN : 1 ≤ N) (hb : ∀ o ∈ all, 0 ≤ o.off ∧ o.off ≤ 8192 ∧ 0 ≤ o.size ∧ o.size ≤ 8192) (hk : e.key.size ≤ 140737488351232) (hn : all.length ≤ 200) :
    Calls Tryz.prog 45 #[.pointer (some ⟨rb, 0, none⟩), enV e] w (RAddP w0 w rb N all R e) := by
  obtain ⟨i0, hi, hz0, hz1, hz2⟩ := info_parts infoIten
  have H := Lib.hid h
  have HB := Lib.hid hb
  have HVE := Lib.hid (rValid e hk)
  have hN0 : 0 < N := by omega
  obtain ⟨av, cv, rfl, hcv, hmv, _⟩ := ownE_at (show Own w 56 6 v all.length (rowE all) from h.get (i := 1) rfl)
  unfold maxLen at hmv
  have HVI := Lib.hid (valid_iff e)
  have HRC : Hid (rAddC N all e = if e.slot < 0 ∨ N ≤ e.slot then 3 else if validE e = false then 2 else if all.any (rBad e) = true then 2 else if all.any (rHav e) = true then 6 else 0) := Lib.hid rfl
  have HRL : Hid (rAddC N all e = 0 → rAddL N all e = all ++ [e]) := Lib.hid (fun h => if_pos h)
  have HTB := Lib.hid (fun (i : Nat) (x : En) (hx : all[i]? = some x) => rany_snoc (p := rBad e) hx)
  have HTH := Lib.hid (fun (i : Nat) (x : En) (hx : all[i]? = some x) => rany_snoc (p := rHav e) hx)
  have HBE : Hid (∀ x : En, rBad e x = decide (x.seq = e.seq ∧ x.key = e.key ∧ (x.del ≠ e.del ∨ x.size ≠ e.size))) := Lib.hid (fun x => rfl)
  have HHE : Hid (∀ x : En, rHav e x = decide (x.slot = e.slot ∧ ((x.seq = e.seq ∧ x.key = e.key) ∨ (x.off < e.off + e.size ∧ e.off < x.off + x.size)))) := Lib.hid (fun x => rfl)
  have HTK := Lib.hid (fun (i : Nat) => rany_take (p := rBad e) (l := all) (i := i))
  clear h hb hk
  obtain ⟨rB, hrB⟩ : ∃ f, f = rBad e := ⟨_, rfl⟩
  obtain ⟨rH, hrH⟩ : ∃ f, f = rHav e := ⟨_, rfl⟩
  rw [← hrB] at HRC HTB HBE HTK
  rw [← hrH] at HRC HTH HHE
  clear hrB hrH
  obtain ⟨e0, e1, e2, e3, e4, e5⟩ := e
  simp only [enV] at HVE HVI HRC HHE HBE ⊢
  go_enter Tryz.func45, Tryz.ntmps45
  go_upto_region 1 with fail
  obtain ⟨b3, hb3⟩ : ∃ q, q = w.heap.size := ⟨_, rfl⟩
  obtain ⟨w1, hw1⟩ : ∃ y, y = w.alloc (boxF ⟨e0, e1, e2, e3, e4, e5⟩) := ⟨_, rfl⟩
  have H1 : Hid (SW w0 (blkA b3 (boxF ⟨e0, e1, e2, e3, e4, e5⟩) :: rIx rb N (.slice av all.length cv) all R) w1 ∧ Gr w w1) := Lib.hid (by rw [hw1, hb3]; exact ⟨H.out.alloc _, (Gr.refl w).alloc _⟩)
  simp only [boxF] at hw1
  rw [← hb3, ← hw1]
  clear hw1 hb3 H
  have d3 := (cellsOf (show w1.heap[b3]? = _ from H1.out.1.get (i := 0) rfl)).1
  have l3 := blkLt (show w1.heap[b3]? = _ from H1.out.1.get (i := 0) rfl)
  simp only [boxF] at d3
  have dr0 := ((cellsOf (show w1.heap[rb]? = _ from H1.out.1.get (i := 1) rfl)).1 0).trans (show _ = some (Value.int .i64 N) from rfl)
  go_wp2_with (go_at_call 71; refine (rvalid (H1.out.1.get (i := 1) rfl) hN0).mono ?_; rintro e w2 ⟨rfl, rfl⟩)
  have HD1 : Hid (SW w0 (blkA b3 (boxF ⟨e0, e1, e2, e3, e4, e5⟩) :: rIx rb N (.slice av all.length cv) all R) w1.drew ∧ Gr w w1.drew) := Lib.hid ⟨H1.out.1.gr (Gr.refl w1).drew, H1.out.2.drew⟩
  clear H1
  by_cases n0 : e3 < 0
  · have HR3 : Hid (rAddC N all ⟨e0, e1, e2, e3, e4, e5⟩ = 3) := Lib.hid (by rw [HRC.out, if_pos (.inl n0)])
    refine wp_region_flo (fun _ => False) [] [] (by kernel_rfl) (by kernel_rfl) (fun _ h => h.elim) ?_
    refine flo_seg 12 rfl ?_
    simp only [List.take_succ_cons, List.take_zero, List.drop_succ_cons, List.drop_zero]
    repeat (go_big_quiet_step (fail))
    refine wpQuiet_nil ?_
    refine flo_nil ?_
    go_wp2_with fail
    go_ret
    exact rAddP_no HD1.out.1 HD1.out.2 HR3.out (by decide)
  by_cases n1 : N ≤ e3
  · have HR3 : Hid (rAddC N all ⟨e0, e1, e2, e3, e4, e5⟩ = 3) := Lib.hid (by rw [HRC.out, if_pos (.inr n1)])
    refine wp_region_flo (fun _ => False) [] [] (by kernel_rfl) (by kernel_rfl) (fun _ h => h.elim) ?_
    refine flo_seg 12 rfl ?_
    simp only [List.take_succ_cons, List.take_zero, List.drop_succ_cons, List.drop_zero]
    repeat (go_big_quiet_step (fail))
    refine wpQuiet_nil ?_
    refine flo_nil ?_
    go_wp2_with fail
    go_ret
    exact rAddP_no HD1.out.1 HD1.out.2 HR3.out (by decide)
  have HRC2 : Hid (rAddC N all ⟨e0, e1, e2, e3, e4, e5⟩ = if validE ⟨e0, e1, e2, e3, e4, e5⟩ = false then 2 else if all.any rB = true then 2 else if all.any rH = true then 6 else 0) := Lib.hid (by rw [HRC.out, if_neg (by omega)])
  clear HRC
  refine wp_region_flo (fun _ => False) [] [] (by kernel_rfl) (by kernel_rfl) (fun _ h => h.elim) ?_
  refine flo_seg 12 rfl ?_
  simp only [List.take_succ_cons, List.take_zero, List.drop_succ_cons, List.drop_zero]
  repeat (go_big_quiet_step (fail))
  refine wpQuiet_nil ?_
  refine flo_nil ?_
  cases hv : validE ⟨e0, e1, e2, e3, e4, e5⟩ with
  | false =>
    rw [hv] at HVE
    have HR3 : Hid (rAddC N all ⟨e0, e1, e2, e3, e4, e5⟩ = 2) := Lib.hid (by rw [HRC2.out, if_pos hv])
    clear hv
    go_wp2_with (go_at_call 99; refine (HVE.out _).mono ?_; rintro e w2 ⟨rfl, hg⟩; have HG2 := Lib.hid hg; clear hg)
    go_ret
    exact rAddP_no (HD1.out.1.gr HG2.out) (HD1.out.2.trans HG2.out) HR3.out (by decide)
  | true =>
    have HRC3 : Hid (rAddC N all ⟨e0, e1, e2, e3, e4, e5⟩ = if all.any rB = true then 2 else if all.any rH = true then 6 else 0) := Lib.hid (by rw [HRC2.out, hv, if_neg (by decide)])
    have hvi := HVI.out.1 hv
    rw [hv] at HVE
    have hb4 : 0 ≤ e4 ∧ e4 ≤ 8192 ∧ 0 ≤ e5 ∧ e5 ≤ 8192 := by omega
    obtain ⟨v1, v2, v3, v4⟩ := hb4
    clear hv hvi HVI HRC2
    go_wp2_with (go_at_call 99; refine (HVE.out _).mono ?_; rintro e w2 ⟨rfl, hg⟩; have HD2 : Hid (SW w0 (blkA b3 (boxF ⟨e0, e1, e2, e3, e4, e5⟩) :: rIx rb N (.slice av all.length cv) all R) w2 ∧ Gr w w2) := Lib.hid ⟨HD1.out.1.gr hg, HD1.out.2.trans hg⟩; clear hg)
    clear HD1 HVE d3 l3 dr0
    go_loopw [5, 6] (fun t5 t6 wx => ∃ i : Nat, i ≤ all.length ∧ t5 = .bool ((all.take i).any rH) ∧ t6 = .int .i64 i ∧ Hid ((all.take i).any rB = false) ∧ Hid (SW w0 (blkA b3 (boxF ⟨e0, e1, e2, e3, e4, e5⟩) :: rIx rb N (.slice av all.length cv) all R) wx ∧ Gr w wx)) (fun _ t6 _ => all.length - (intOf t6).toNat)
    case atStart => exact ⟨0, by omega, rfl, rfl, Lib.hid rfl, HD2⟩
    case round =>
      obtain ⟨i, hil, rfl, rfl, HNB, HI⟩ := hrel
      clear HD2
      have hrb : wr.heap[rb]? = _ := HI.out.1.get (i := 1) rfl
      have dr1 := ((cellsOf hrb).1 1).trans (show _ = some (Value.slice av all.length cv) from rfl)
      clear hrb
      by_cases hli : i < all.length
      · have hli' : (i : Int) < all.length := by omega
        obtain ⟨x, hx⟩ : ∃ x, all[i]? = some x := ⟨_, List.getElem?_eq_getElem hli⟩
        obtain ⟨_, _, hve, _, _, hat⟩ := ownE_at (show Own wr 56 6 (.slice av all.length cv) all.length (rowE all) from HI.out.1.get (i := 2) rfl)
        injection hve with g1 g2 g3
        subst g1
        obtain ⟨g0, rfl, hg0, _, hc⟩ := hat i _ hx
        have y0 := hc 0 _ rfl
        have y1 := hc 1 _ rfl
        have y2 := hc 2 _ rfl
        have y3 := hc 3 _ rfl
        have y4 := hc 4 _ rfl
        have y5 := hc 5 _ rfl
        simp only [Nat.add_zero] at y0 y1 y2 y3 y4 y5
        have HTB1 := Lib.hid (HTB.out i x hx)
        have HTH1 := Lib.hid (HTH.out i x hx)
        have HBE1 := Lib.hid (HBE.out x)
        have HHE1 := Lib.hid (HHE.out x)
        obtain ⟨q1, q2, q3, q4⟩ := HB.out x (List.mem_of_getElem? hx)
        clear hat hc g2 g3 hx
        obtain ⟨bB, hbB⟩ : ∃ b, b = rB x := ⟨_, rfl⟩
        obtain ⟨bH, hbH⟩ : ∃ b, b = rH x := ⟨_, rfl⟩
        rw [← hbB] at HTB1 HBE1
        rw [← hbH] at HTH1 HHE1
        clear hbB hbH
        obtain ⟨x0, x1, x2, x3, x4, x5⟩ := x
        simp only at y0 y1 y2 y3 y4 y5 q1 q2 q3 q4 HBE1 HHE1
        go_upto_region 12 with fail
        obtain ⟨b7, hb7⟩ : ∃ q, q = wr.heap.size := ⟨_, rfl⟩
        obtain ⟨w9, hw9⟩ : ∃ y, y = wr.alloc (boxF ⟨x0, x1, x2, x3, x4, x5⟩) := ⟨_, rfl⟩
        have H9 : Hid (SW w0 (blkA b7 (boxF ⟨x0, x1, x2, x3, x4, x5⟩) :: blkA b3 (boxF ⟨e0, e1, e2, e3, e4, e5⟩) :: rIx rb N (.slice (some ⟨g0, 0, none⟩) all.length cv) all R) w9 ∧ Gr w w9) := Lib.hid (by rw [hw9, hb7]; exact ⟨HI.out.1.alloc _, HI.out.2.alloc _⟩)
        simp only [boxF] at hw9
        rw [← hb7, ← hw9]
        clear hw9 hb7 HI y0 y1 y2 y3 y4 y5 hg0 dr1
        have d3 := (cellsOf (show w9.heap[b3]? = _ from H9.out.1.get (i := 1) rfl)).1
        have d7 := (cellsOf (show w9.heap[b7]? = _ from H9.out.1.get (i := 0) rfl)).1
        simp only [boxF] at d3 d7
        have H10 : Hid (SW w0 (blkA b3 (boxF ⟨e0, e1, e2, e3, e4, e5⟩) :: rIx rb N (.slice (some ⟨g0, 0, none⟩) all.length cv) all R) w9 ∧ Gr w w9) := Lib.hid ⟨H9.out.1.sub (.cons _ (List.Sublist.refl _)), H9.out.2⟩
        clear H9
        obtain ⟨bb, hbb⟩ : ∃ b, b = (all.take i).any rH := ⟨_, rfl⟩
        rw [← hbb] at HTH1 ⊢
        clear hbb
        have hcl : ∀ (c : Prop) [Decidable c], (c → False) → decide c = false := fun c _ h => decide_eq_false h
        by_cases hcp : x0 = e0 ∧ x1 = e1
        · obtain ⟨hq, hk⟩ := hcp
          subst hq hk
          clear hcl
          go_wp2_with fail
          all_goals
            try
              (refine ⟨⟨i + 1, by omega, ?_, by simp, Lib.hid ?_, H10⟩, by simp [intOf]; omega⟩
               · rw [HTH1.out, HHE1.out]
                 first
                 | (rw [decide_eq_true ⟨by assumption, .inl ⟨rfl, rfl⟩⟩, Bool.or_true]; done)
                 | (rw [decide_eq_false (fun hh => by have := hh.1; first | (exact absurd this (by assumption)) | (simp_all; done)), Bool.or_false]; done)
               · rw [HTB1.out, HNB.out, HBE1.out, Bool.false_or]
                 refine decide_eq_false (fun hh => ?_)
                 have hh2 := hh.2.2
                 clear hh HTB HTH HBE HHE HTK HRC3
                 simp_all)
          all_goals
            go_ret
            refine rAddP_no H10.out.1 H10.out.2 (c := 2) ?_ (by decide)
            rw [HRC3.out, if_pos]
            refine HTK.out (i + 1) ?_
            rw [HTB1.out, HBE1.out, Bool.or_eq_true]
            refine .inr (decide_eq_true (And.intro (by first | trivial | rfl) (And.intro (by first | trivial | rfl) ?_)))
            first | exact .inl (by assumption) | exact .inr (bne_iff_ne.1 (by assumption)) | (simp_all; done)
        · have HNC := Lib.hid hcp
          have HB2 : Hid (bB = false) := Lib.hid (HBE1.out.trans (decide_eq_false (fun hh => hcp ⟨hh.1, hh.2.1⟩)))
          have HH2 : Hid (bH = decide (x3 = e3 ∧ x4 < e4 + e5 ∧ e4 < x4 + x5)) := Lib.hid (HHE1.out.trans (by
            congr 1
            exact propext ⟨fun hh => ⟨hh.1, hh.2.resolve_left hcp⟩, fun hh => ⟨hh.1, .inr hh.2⟩⟩))
          clear HBE1 HHE1 hcl
          have fin : ∀ b : Bool, (b = (bb || bH)) → ∃ i', i' ≤ all.length ∧ Value.bool b = Value.bool ((all.take i').any rH) ∧ Value.int .i64 ((i : Int) + 1) = .int .i64 (i' : Nat) ∧ Hid ((all.take i').any rB = false) ∧ Hid (SW w0 (blkA b3 (boxF ⟨e0, e1, e2, e3, e4, e5⟩) :: rIx rb N (.slice (some ⟨g0, 0, none⟩) all.length cv) all R) w9 ∧ Gr w w9) := fun b hb =>
            ⟨i + 1, by omega, by rw [HTH1.out, hb], by simp, Lib.hid (by rw [HTB1.out, HNB.out, HB2.out]; rfl), H10⟩
          have HF := Lib.hid fin
          clear fin
          by_cases hq : x0 = e0
          · have hk : ¬ x1 = e1 := fun h => hcp ⟨hq, h⟩
            have hkb : (x1.toList == e1.toList) = false := (str_beq x1 e1).trans (decide_eq_false hk)
            clear hcp hk
            subst hq
            go_wp2_with fail
            all_goals
              refine ⟨HF.out _ ?_, by simp [intOf]; omega⟩
              rw [HH2.out]
              first
              | (rw [decide_eq_true (by omega), Bool.or_true]; done)
              | (rw [decide_eq_false (by omega), Bool.or_false]; done)
          · have hqb : (x0 == e0) = false := beq_false_of_ne hq
            clear hcp hq
            go_wp2_with fail
            all_goals
              refine ⟨HF.out _ ?_, by simp [intOf]; omega⟩
              rw [HH2.out]
              first
              | (rw [decide_eq_true (by omega), Bool.or_true]; done)
              | (rw [decide_eq_false (by omega), Bool.or_false]; done)
      · have hli' : ¬ (i : Int) < all.length := by omega
        obtain rfl : i = all.length := by omega
        rw [List.take_length] at HNB ⊢
        cases hH : all.any rH with
        | true =>
          have HR6 : Hid (rAddC N all ⟨e0, e1, e2, e3, e4, e5⟩ = 6) := Lib.hid (by rw [HRC3.out, HNB.out, hH, if_neg (by decide), if_pos rfl])
          clear hH
          go_wp2_with fail
          go_ret
          exact rAddP_no HI.out.1 HI.out.2 HR6.out (by decide)
        | false =>
          have HR0 : Hid (rAddC N all ⟨e0, e1, e2, e3, e4, e5⟩ = 0) := Lib.hid (by rw [HRC3.out, HNB.out, hH, if_neg (by decide), if_neg (by decide)])
          clear hH
          have d3 := (cellsOf (show wr.heap[b3]? = _ from HI.out.1.get (i := 0) rfl)).1
          simp only [boxF] at d3
          have SRC : Hid (SrcAt wr.drew 6 av all.length (rowE all)) := Lib.hid ((src_all (show Own wr 56 6 (.slice av all.length cv) all.length (rowE all) from HI.out.1.get (i := 2) rfl) (rowE_one all)).gr (Gr.refl wr).drew)
          go_wp2_with fail
          have HG := Gr.refl wr.drew
          refine wp_region_flt 10 (fun _ => False) [107] [] (by kernel_rfl) (by kernel_rfl) (by decide) (by kernel_rfl) (fun _ h => h.elim) ?_
          simp only [List.take_succ_cons, List.take_zero, List.drop_succ_cons, List.drop_zero]
          refine flo_seg 1 rfl ?_
          simp only [List.take_succ_cons, List.take_zero, List.drop_succ_cons, List.drop_zero]
          repeat (go_big_quiet_step (fail))
          refine wpQuiet_nil ?_
          refine flo_effg rfl rfl rfl (fun wg1 hgg1 K hK => ?_)
          (try replace HG := Gr.trans (Gr.trans HG (by (repeat (first | (with_reducible exact Gr.refl _) | assumption | (with_reducible apply Gr.from_drew) | (with_reducible apply Gr.alloc) | (with_reducible apply Gr.drew) | (with_reducible refine Gr.trans ?_ (by assumption)) | (with_reducible refine Gr.setCell ?_ (by omega) _))))) hgg1)
          go_wp2
          refine ⟨by (first | (refine Gr.mdh ?_ _; (repeat (first | (with_reducible exact Gr.refl _) | assumption | (with_reducible apply Gr.from_drew) | (with_reducible apply Gr.alloc) | (with_reducible apply Gr.drew) | (with_reducible refine Gr.trans ?_ (by assumption)) | (with_reducible refine Gr.setCell ?_ (by omega) _))); done) | (repeat (first | (with_reducible exact Mdh.refl _ _) | (with_reducible refine Mdh.setCell ?_ (by simp) _) | (with_reducible refine Mdh.setNew ?_ (by simp) _) | (with_reducible apply Mdh.alloc) | (with_reducible apply Mdh.from_drew) | (with_reducible apply Mdh.drew) | (with_reducible refine Mdh.gr ?_ (by assumption))))), ?_⟩
          refine flo_seg 4 rfl ?_
          simp only [List.take_succ_cons, List.take_zero, List.drop_succ_cons, List.drop_zero]
          repeat (go_big_quiet_step (fail))
          refine wpQuiet_nil ?_
          refine flo_effg rfl rfl rfl (fun wg2 hgg2 K hK => ?_)
          (try replace HG := Gr.trans (Gr.trans HG (by (repeat (first | (with_reducible exact Gr.refl _) | assumption | (with_reducible apply Gr.from_drew) | (with_reducible apply Gr.alloc) | (with_reducible apply Gr.drew) | (with_reducible refine Gr.trans ?_ (by assumption)) | (with_reducible refine Gr.setCell ?_ (by omega) _))))) hgg2)
          refine wp_appv _ (.tmp 100) (.tmp 104) 37 rfl 56 i0 _ 6 56 Tryz.underlying37 hi hz0 hz1 hz2 rfl (by decide) (.slice (some ⟨wg1.heap.size, 0, none⟩) 0 0) 0 [] rfl ((Nw.made (w0 := wr.drew) (w := wg1) hgg1.sz).own.gr hgg2) av all.length cv (rowE all) rfl (SRC.out.gr HG) (by simp only [maxLen]; omega) (by omega) (fun k1 x1 hk1 => ?_); rw [Nat.zero_add, List.nil_append] at hk1; (have n1 := hk1.nw ((Nw.made (w0 := wr.drew) (w := wg1) hgg1.sz).gr hgg2) HG.sz); (replace HG := hk1.gw ((Nw.made (w0 := wr.drew) (w := wg1) hgg1.sz).gr hgg2) HG); obtain ⟨a1, c1, rfl⟩ := hk1.val; refine hK _ _ ⟨hk1.mdh (fun q hq => by rw [ownB hq]; simp), ?_⟩; simp only [Act.put, List.setIfInBounds_toArray, List.set_cons_succ, List.set_cons_zero]
          refine flo_seg 1 rfl ?_
          simp only [List.take_succ_cons, List.take_zero, List.drop_succ_cons, List.drop_zero]
          repeat (go_big_quiet_step (fail))
          refine wpQuiet_nil ?_
          refine flo_float (fun b => .slice (some ⟨b, 0, none⟩) 1 1) (_) rfl rfl (fun w => by simp [go_sem]; rfl) (fun wf1 fb1 hgf1 fl1 fh1 ft1 fo1 => ?_)
          (try replace HG := Gr.trans (Gr.trans HG (by (repeat (first | (with_reducible exact Gr.refl _) | assumption | (with_reducible apply Gr.from_drew) | (with_reducible apply Gr.alloc) | (with_reducible apply Gr.drew) | (with_reducible refine Gr.trans ?_ (by assumption)) | (with_reducible refine Gr.setCell ?_ (by omega) _))))) hgf1)
          (try have fc1 := (cellsOf fo1).1)
          (try have ff1 := (cellsOf fo1).2)
          refine flo_eff rfl rfl rfl rfl (fun K hK => ?_)
          refine wp_appv _ (.tmp 105) (.tmp 107) 37 rfl 56 i0 _ 6 56 Tryz.underlying37 hi hz0 hz1 hz2 rfl (by decide) (.slice a1 all.length c1) all.length (rowE all) rfl (n1.own.gr hgf1) (some ⟨fb1, 0, none⟩) 1 1 (enC ⟨e0, e1, e2, e3, e4, e5⟩) rfl (src_blk (e := ⟨e0, e1, e2, e3, e4, e5⟩) fo1) (by simp only [maxLen]; omega) (by omega) (fun k2 x2 hk2 => ?_); (have n2 := hk2.nw (n1.gr hgf1) HG.sz); (have m2 := hk2.gw (n1.gr hgf1) HG); obtain ⟨a2, c2, rfl⟩ := hk2.val; refine hK _ _ ⟨hk2.mdh (fun q hq => (hk1.2.1 q hq).elim (fun h => by rw [ownB h]; exact .inr (.inl (.inl (.inr ⟨Nat.le_refl _, by simp⟩)))) (fun h => .inr (.inl (.inr ⟨h, hk1.1.lt hq⟩)))), ?_⟩; simp only [Act.put, List.setIfInBounds_toArray, List.set_cons_succ, List.set_cons_zero]
          refine flo_nil ?_
          have g0 : Gr wr x2 := (Gr.refl wr).drew.trans m2
          have h1 := HI.out.1.new g0 (A := rowA 56 6 (.slice a2 (all.length + 1) c2) (all ++ [(⟨e0, e1, e2, e3, e4, e5⟩ : En)]).length (rowE (all ++ [(⟨e0, e1, e2, e3, e4, e5⟩ : En)]))) (by
            show Own _ _ _ _ _ _
            rw [rowE_snoc, List.length_append]
            exact n2.own) (fun k hk => by have := n2.new k hk; simpa using this)
          have hb2 : x2.heap[rb]? = some (rmO N (.slice av all.length cv)) := h1.get (i := 2) rfl
          have h2 := h1.at (i := 2) rfl ((Mdh.refl (fun k => k = rb) x2).setCell (p := ⟨rb, 1, none⟩) rfl (.slice a2 (all.length + 1) c2)) (fun k hk => .inl hk) (B := blkA rb (rmO N (.slice a2 (all.length + 1) c2))) (blkSet (j := 1) hb2) (fun k hk => .inl hk)
          have HE := Lib.hid ((h2.sub (.cons_cons _ (.cons _ (.cons_cons _ (.cons _ (List.Sublist.refl _)))))).perm (List.Perm.swap _ _ _))
          have HM : Hid (Mdh (fun k => k = rb) w (x2.setCell ⟨rb, 1, none⟩ (.slice a2 (all.length + 1) c2))) := Lib.hid (((HI.out.2.trans g0).mdh (fun k => k = rb)).setCell (p := ⟨rb, 1, none⟩) rfl _)
          obtain ⟨_, f2⟩ := cellsOf hb2
          have l2 := blkLt hb2
          clear h1 h2 hb2 g0 n1 n2 m2 hk1 hk2 HG d3
          go_wp2_with fail
          go_ret
          exact ⟨ret_int HR0.out.symm, HM.out, _, by rw [HRL.out HR0.out]; exact HE.out⟩
end Go.Proofs.YtmdfickejpeofaaGreat

/- An index that grows entry by entry, each behind those of its slot: what every builder of chapters 22, 23, 24, 28 keeps, without bounds. No walk. -/
set_option linter.unusedVariables false
set_option linter.unusedSimpArgs false
namespace Go.Proofs.YtmdfickejpeofaaGreat

structure FG (X : IX) (all : List En) (en : Int → Int) (n : Int) : Prop where
  wf : X.Wf
  ln : (X.slots.length : Int) = n
  n0 : 1 ≤ n
  pm : all.Perm X.ents
  up : ∀ e ∈ all, e.off + e.size ≤ en e.slot
  cp : ∀ a ∈ all, ∀ b ∈ all, a.seq = b.seq → a.key = b.key ∧ a.del = b.del ∧ a.size = b.size
section
variable {X : IX} {all : List En} {en : Int → Int} {n : Int}
theorem FG.mem (h : FG X all en n) (e : En) : e ∈ all ↔ e ∈ X.ents := h.pm.mem_iff
theorem FG.slot (h : FG X all en n) (s : Int) (e : En) : e ∈ X.slot s ↔ e ∈ all ∧ e.slot = s := by rw [h.mem]; exact h.wf.slot_mem s e
theorem FG.of (h : FG X all en n) (k : ByteArray) (e : En) : e ∈ X.of k ↔ e ∈ all ∧ e.key = k := by rw [h.mem]; exact h.wf.of_mem k e
theorem FG.ne (h : FG X all en n) : X.slots ≠ [] := fun h0 => by have := h.ln; have := h.n0; rw [h0] at *; simp at *; omega
theorem FG.has (h : FG X all en n) {s : Int} (h0 : 0 ≤ s) (h1 : s < n) : X.has s = true := by
  unfold IX.has
  exact decide_eq_true ⟨h0, by have := h.ln; omega⟩
theorem FG.no (h : FG X all en n) {s : Int} (h0 : s < 0 ∨ n ≤ s) : X.has s = false := by
  unfold IX.has
  exact decide_eq_false (by have := h.ln; omega)
theorem FG.len (h : FG X all en n) : (X.ents.length : Int) = all.length := by rw [h.pm.length_eq]
theorem FG.val (h : FG X all en n) {e : En} (he : e ∈ all) : keyChk e.key = 0 ∧ 1 ≤ e.seq ∧ e.seq ≤ 1099511627776 ∧ 0 ≤ e.off ∧ 16 + (e.key.size : Int) ≤ e.size ∧ (e.size = 16 + (e.key.size : Int) ∨ e.del = false) ∧ e.size ≤ 8192 ∧ e.off ≤ 8192 - e.size := (valid_iff e).1 (h.wf.valid ((h.mem e).1 he)).1
theorem FG.slots (h : FG X all en n) {e : En} (he : e ∈ all) : 0 ≤ e.slot ∧ e.slot < n := by
  have h1 := (h.wf.valid ((h.mem e).1 he)).2
  unfold IX.has at h1
  have := of_decide_eq_true h1
  have := h.ln
  omega
theorem FG.clash (h : FG X all en n) {e : En} (ho : en e.slot ≤ e.off) : clash (X.slot e.slot) e = false := by
  refine clash_end (fun o hm => ?_) (fun o hm => ?_)
  · obtain ⟨h1, h2⟩ := (h.slot _ o).1 hm
    have := h.up o h1
    rw [h2] at this
    omega
  · have := h.val ((h.slot _ o).1 hm).1
    omega
/-- An entry that goes behind those of its slot. -/
theorem FG.push (h : FG X all en n) {e : En} (a : AddOk X e) (ho : en e.slot ≤ e.off) (hc : ∀ o ∈ all, o.seq = e.seq → o.key = e.key ∧ o.del = e.del ∧ o.size = e.size) :
    FG (addX X e) (all ++ [e]) (upd en e.slot (e.off + e.size)) n := by
  have hv := (valid_iff e).1 a.valid
  have hle : ∀ s, en s ≤ upd en e.slot (e.off + e.size) s := fun s => by
    unfold upd
    split
    · rename_i h0; subst h0; omega
    · exact Int.le_refl _
  refine ⟨add_wf h.wf a, ?_, h.n0, ?_, fun o hm => ?_, fun x hx y hy hq => ?_⟩
  · rw [addX_eq a]; simp only [List.length_set]; exact h.ln
  · exact (List.perm_append_singleton e all).trans ((h.pm.cons e).trans (add_ents h.wf a).symm)
  · rcases List.mem_append.1 hm with hm | hm
    · exact Int.le_trans (h.up o hm) (hle _)
    · rw [List.mem_singleton.1 hm, upd_same]
      exact Int.le_refl _
  · rcases List.mem_append.1 hx with hx1 | hx1 <;> rcases List.mem_append.1 hy with hy1 | hy1
    · exact h.cp x hx1 y hy1 hq
    · obtain rfl := List.mem_singleton.1 hy1
      exact hc x hx1 hq
    · obtain rfl := List.mem_singleton.1 hx1
      obtain ⟨q1, q2, q3⟩ := hc y hy1 hq.symm
      exact ⟨q1.symm, q2.symm, q3.symm⟩
    · obtain rfl := List.mem_singleton.1 hx1
      obtain rfl := List.mem_singleton.1 hy1
      exact ⟨rfl, rfl, rfl⟩
/-- A new entry can be added. -/
theorem FG.okNew (h : FG X all en n) {e : En} (hq : ∀ o ∈ all, o.seq ≠ e.seq) (h0 : 0 ≤ e.slot) (h1 : e.slot < n) (hv : validE e = true) (ho : en e.slot ≤ e.off) : AddOk X e := by
  refine ⟨h.ne, h.has h0 h1, hv, fun o hm => badE_no (fun hh => absurd hh (hq o ((h.of _ o).1 hm).1)), fun o hm => ?_, h.clash ho⟩
  unfold sameE
  exact decide_eq_false (fun hh => hq o ((h.of _ o).1 hm).1 hh.1)
theorem FG.new (h : FG X all en n) {e : En} (hq : ∀ o ∈ all, o.seq ≠ e.seq) (h0 : 0 ≤ e.slot) (h1 : e.slot < n) (hv : validE e = true) (ho : en e.slot ≤ e.off) :
    addE X e = 0 ∧ FG (addX X e) (all ++ [e]) (upd en e.slot (e.off + e.size)) n :=
  have a := h.okNew hq h0 h1 hv ho
  ⟨ok_add a, h.push a ho (fun o hm hh => absurd hh (hq o hm))⟩
/-- A copy of what there is differs from no entry with its number. -/
theorem FG.copyBad (h : FG X all en n) {x e : En} (hx : x ∈ all) (he : e = { x with slot := e.slot, off := e.off }) : ∀ o ∈ X.of e.key, badE e o = false := by
  intro o hm
  obtain ⟨h1, h2⟩ := (h.of _ o).1 hm
  refine badE_no (fun hh => ?_)
  have e1 : e.seq = x.seq := by rw [he]
  have e3 : e.del = x.del := by rw [he]
  have e4 : e.size = x.size := by rw [he]
  obtain ⟨q1, q2, q3⟩ := h.cp o h1 x hx (by rw [hh, e1])
  exact En.ext' hh h2 (by rw [e3]; exact q2) rfl rfl (by rw [e4]; exact q3)
theorem FG.copyNo (h : FG X all en n) {x e : En} (hx : x ∈ all) (he : e = { x with slot := e.slot, off := e.off }) (h0 : 0 ≤ e.slot) (h1 : e.slot < n) (hv : validE e = true) (hd : ∃ o ∈ all, o.slot = e.slot ∧ o.seq = e.seq) : addE X e = 6 := by
  refine add_6 h.ne (h.has h0 h1) hv (h.copyBad hx he) ?_
  rw [Bool.or_eq_true]
  refine .inl ?_
  obtain ⟨o, hm, hh⟩ := hd
  have e1 : e.seq = x.seq := by rw [he]
  have e2 : e.key = x.key := by rw [he]
  obtain ⟨q1, _, _⟩ := h.cp o hm x hx (by rw [hh.2, e1])
  exact List.any_eq_true.2 ⟨o, (h.of _ o).2 ⟨hm, by rw [q1, e2]⟩, decide_eq_true ⟨hh.2, hh.1⟩⟩
theorem FG.copyYes (h : FG X all en n) {x e : En} (hx : x ∈ all) (he : e = { x with slot := e.slot, off := e.off }) (h0 : 0 ≤ e.slot) (h1 : e.slot < n) (hv : validE e = true) (ho : en e.slot ≤ e.off) (hd : ¬ ∃ o ∈ all, o.slot = e.slot ∧ o.seq = e.seq) :
    addE X e = 0 ∧ FG (addX X e) (all ++ [e]) (upd en e.slot (e.off + e.size)) n := by
  have e1 : e.seq = x.seq := by rw [he]
  have e2 : e.key = x.key := by rw [he]
  have e3 : e.del = x.del := by rw [he]
  have e4 : e.size = x.size := by rw [he]
  have a : AddOk X e := ⟨h.ne, h.has h0 h1, hv, h.copyBad hx he, fun o hm => by
    have h2 := (h.of _ o).1 hm
    unfold sameE
    exact decide_eq_false (fun hh => hd ⟨o, h2.1, hh.2, hh.1⟩), h.clash ho⟩
  refine ⟨ok_add a, h.push a ho (fun o hm hh => ?_)⟩
  rw [e2, e3, e4]
  exact h.cp o hm x hx (by rw [hh, e1])
/-- A slot is emptied. -/
theorem FG.drop (h : FG X all en n) {s : Int} (h0 : 0 ≤ s) (h1 : s < n) {en' : Int → Int} (he : ∀ t, t ≠ s → en t ≤ en' t) :
    dropC X s = 0 ∧ (X.slot s).length + (all.filter (fun o => !decide (o.slot = s))).length = all.length ∧ FG (dropX X s) (all.filter (fun o => !decide (o.slot = s))) en' n := by
  have hh := h.has h0 h1
  have hp := drop_ents h.wf hh
  have hw := drop_wf h.wf s
  have hne : ∀ o ∈ (dropX X s).ents, (!decide (o.slot = s)) = true := fun o ho => by
    simp only [Bool.not_eq_true', decide_eq_false_iff_not]
    intro e
    have h2 := (hw.slot_mem s o).2 ⟨ho, e⟩
    rw [drop_slot h.wf, if_pos rfl] at h2
    cases h2
  have hs : ∀ o ∈ X.slot s, ¬ (!decide (o.slot = s)) = true := fun o ho => by simp [((h.wf.slot_mem s o).1 ho).2]
  have hpm : (all.filter (fun o => !decide (o.slot = s))).Perm (dropX X s).ents := by
    have h2 := (h.pm.trans hp).filter (fun o => !decide (o.slot = s))
    rw [List.filter_append, List.filter_eq_nil_iff.2 hs, List.nil_append, List.filter_eq_self.2 hne] at h2
    exact h2
  refine ⟨if_pos hh, ?_, hw, ?_, h.n0, hpm, fun o ho => ?_, fun a ha b hb => h.cp a (List.mem_filter.1 ha).1 b (List.mem_filter.1 hb).1⟩
  · have h2 := (h.pm.trans hp).length_eq
    have h3 := hpm.length_eq
    rw [List.length_append] at h2
    omega
  · rw [drop_yes hh]; simp only [List.length_set]; exact h.ln
  · obtain ⟨h2, h3⟩ := List.mem_filter.1 ho
    simp only [Bool.not_eq_true', decide_eq_false_iff_not] at h3
    exact Int.le_trans (h.up o h2) (he _ h3)
end
theorem FG.start (n : Nat) (h1 : 1 ≤ n) (h2 : n ≤ 32) (en : Int → Int) : FG (ixNew n) [] en n :=
  ⟨new_wf h2, by simp [ixNew], by omega, by simp [ixNew, IX.ents], (fun _ h => by cases h), (fun _ h => by cases h)⟩
end Go.Proofs.YtmdfickejpeofaaGreat
