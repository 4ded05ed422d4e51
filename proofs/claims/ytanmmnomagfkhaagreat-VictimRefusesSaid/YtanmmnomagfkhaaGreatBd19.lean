/- drumlinref05.Check and the small functions of drumlinref21: the walks. -/
import Derived.Test.YtanmmnomagfkhaaGreatBd6
import Derived.Test.YtanmmnomagfkhaaGreatBd18
import Derived.Test.YtanmmnomagfkhaaGreatBd7
import Derived.Test.YtanmmnomagfkhaaGreatBd12
import Derived.Test.YtanmmnomagfkhaaGreatBd14
import Derived.Test.YtanmmnomagfkhaaGreatBd15
import Derived.Test.YtanmmnomagfkhaaGreatBd16
set_option linter.unusedVariables false
set_option linter.unusedSimpArgs false
namespace Go.Proofs.YtanmmnomagfkhaaGreat
open Go.RowKit Go.Shelf
attribute [local go_sem] OvM cell_ovm obj_ovm

theorem keyC_mem (c : UInt8) : keyC c = decide (c ∈ lettersL) := by
  have h : ∀ n : Fin 256, keyC (UInt8.ofNat n.val) = decide (UInt8.ofNat n.val ∈ lettersL) := by decide +kernel
  have := h ⟨c.toNat, c.toNat_lt⟩
  simpa using this
set_option maxRecDepth 40000 in
theorem letters5 (w : World) : Calls Tryz.prog 188 #[] w fun e w' => e = .returned (.string ⟨lettersL.toArray⟩) ∧ w = w' := by
  go_enter Tryz.func188, Tryz.ntmps188
  go_wp2
  go_ret
  exact ⟨rfl, rfl⟩
set_option maxRecDepth 40000 in
set_option maxHeartbeats 4000000 in
theorem place5 (c : UInt8) (w : World) : Calls Tryz.prog 169 #[.int .u8 c.toNat] w fun e w' => ∃ r : Int, e = .returned (.int .i64 r) ∧ decide (r < 0) = !keyC c ∧ w = w' := by
  obtain ⟨sB, hsB⟩ : ∃ s : ByteArray, s = ⟨lettersL.toArray⟩ := ⟨_, rfl⟩
  have HL : Hid (∀ w, Calls Tryz.prog 188 #[] w fun e w' => e = .returned (.string sB) ∧ w = w') := Lib.hid (fun w => by rw [hsB]; exact letters5 w)
  have hz : sB.size = 39 := by rw [hsB]; rfl
  go_enter Tryz.func169, Tryz.ntmps169
  go_wp2_with fail
  go_loopw [3] (fun t3 wx => ∃ i : Nat, i ≤ 39 ∧ t3 = .int .i64 i ∧ (∀ j, j < i → lettersL[j]? ≠ some c) ∧ w = wx) (fun t3 _ => 39 - (intOf t3).toNat)
  case atStart => exact ⟨0, by omega, rfl, fun j hj => by omega, rfl⟩
  case round =>
    obtain ⟨i, hi, rfl, hj, rfl⟩ := hrel
    go_wp2_with (go_at_call 188; refine (HL.out _).mono ?_; rintro e w1 ⟨rfl, rfl⟩)
    · rename_i h1 _ _ h2
      have h3 : ((lettersL[i]'h1).toNat : Int) = c.toNat := beq_iff_eq.1 h2
      have h4 : lettersL[i]'h1 = c := UInt8.toNat_inj.1 (by omega)
      go_ret
      have hk : keyC c = true := by rw [keyC_mem, ← h4]; exact decide_eq_true (List.getElem_mem h1)
      exact ⟨i, rfl, by rw [hk]; exact decide_eq_false (by omega), rfl⟩
    · rename_i h1 h2
      have h1' : i < 39 := h1
      refine ⟨⟨i + 1, by omega, by simp, fun j hji hc => ?_, trivial⟩, by simp [intOf]; omega⟩
      by_cases hji' : j < i
      · exact hj j hji' hc
      · obtain rfl : j = i := by omega
        rw [List.getElem?_eq_getElem h1] at hc
        have h4 := Option.some.inj hc
        exact beq_eq_false_iff_ne.1 h2 (by show ((lettersL[j]'h1).toNat : Int) = c.toNat; rw [h4])
    · rename_i h1
      have h1' : ¬ i < 39 := h1
      go_ret
      refine ⟨-1, rfl, ?_, rfl⟩
      have hk : keyC c = false := by
        rw [keyC_mem]
        refine decide_eq_false (fun hm => ?_)
        obtain ⟨j, hj1, hj2⟩ := List.mem_iff_getElem.1 hm
        have hj3 : j < 39 := hj1
        exact hj j (by omega) (by rw [List.getElem?_eq_getElem hj1, hj2])
      rw [hk]
      rfl
end Go.Proofs.YtanmmnomagfkhaaGreat

/- drumlinref21's index in plain Lean: what Add says is what the program's index says. No walk. -/
set_option linter.unusedVariables false
set_option linter.unusedSimpArgs false
namespace Go.Proofs.YtanmmnomagfkhaaGreat

def rBad (e o : En) : Bool := decide (o.seq = e.seq ∧ o.key = e.key ∧ (o.del ≠ e.del ∨ o.size ≠ e.size))
def rHav (e o : En) : Bool := decide (o.slot = e.slot ∧ ((o.seq = e.seq ∧ o.key = e.key) ∨ (o.off < e.off + e.size ∧ e.off < o.off + o.size)))
/-- What Add says of an index with these entries. -/
def rAddC (N : Int) (all : List En) (e : En) : Int := if e.slot < 0 ∨ N ≤ e.slot then 3 else if validE e = false then 2 else if all.any (rBad e) = true then 2 else if all.any (rHav e) = true then 6 else 0
def rAddL (N : Int) (all : List En) (e : En) : List En := if rAddC N all e = 0 then all ++ [e] else all
section
variable {X : IX} {all : List En} {e : En} {N : Int}
theorem clash_iff {i : Int} {s : List En} (hs : SlotOk i s) (he : 0 < e.size) : clash s e = true ↔ ∃ o ∈ s, o.off < e.off + e.size ∧ e.off < o.off + o.size := by
  constructor
  · intro h
    refine Classical.byContradiction (fun hn => ?_)
    have hno : ∀ o ∈ s, ¬ (o.off < e.off + e.size ∧ e.off < o.off + o.size) := fun o ho hh => hn ⟨o, ho, hh⟩
    have hz : ∀ o ∈ s, 16 ≤ o.size := fun o ho => by have := (valid_iff o).1 (hs.e o ho).2; omega
    unfold clash at h
    rw [Bool.or_eq_true] at h
    rcases h with h | h
    · cases hg : s[cnt (offP e.off) s]? with
      | none => rw [hg] at h; cases h
      | some o =>
        rw [hg] at h
        have h1 := cnt_at _ _ o hg
        have hm := List.mem_of_getElem? hg
        have h2 := hno o hm
        have h3 := hz o hm
        simp only [offP, decide_eq_false_iff_not] at h1
        simp only [Bool.or_eq_true, decide_eq_true_eq] at h
        omega
    · rw [Bool.and_eq_true] at h
      obtain ⟨h0, h⟩ := h
      have h0 := of_decide_eq_true h0
      cases hg : s[cnt (offP e.off) s - 1]? with
      | none => rw [hg] at h; cases h
      | some o =>
        rw [hg] at h
        have h1 := cnt_lo _ _ _ o (show cnt (offP e.off) s - 1 < cnt (offP e.off) s by omega) hg
        have hm := List.mem_of_getElem? hg
        have h2 := hno o hm
        simp only [offP, decide_eq_true_eq] at h1
        simp only [decide_eq_true_eq] at h
        omega
  · rintro ⟨o, ho, h1, h2⟩
    cases hc : clash s e with
    | true => rfl
    | false =>
      have h3 := clash_lo hs hc o ho
      have h4 := clash_hi hs hc o ho
      unfold offP at h3 h4
      by_cases h5 : o.off < e.off
      · have := h3 (decide_eq_true h5); omega
      · have := h4 (decide_eq_false h5); omega
theorem rAddC_eq (h : X.Wf) (hl : (X.slots.length : Int) = N) (hN : 1 ≤ N) (hp : all.Perm X.ents) (e : En) : rAddC N all e = addE X e := by
  have hne : X.slots ≠ [] := fun h0 => by rw [h0] at hl; simp at hl; omega
  unfold rAddC addE
  rw [if_neg hne]
  by_cases h1 : e.slot < 0 ∨ N ≤ e.slot
  · rw [if_pos h1, if_pos (by unfold IX.has; exact decide_eq_false (by omega))]
  · have hh : X.has e.slot = true := by unfold IX.has; exact decide_eq_true (by omega)
    rw [if_neg h1, if_neg (show ¬ X.has e.slot = false by rw [hh]; decide)]
    cases hv : validE e with
    | false => rw [if_pos rfl, if_pos rfl]
    | true =>
      have hz : 0 < e.size := by have := (valid_iff e).1 hv; omega
      rw [if_neg (show ¬ true = false by decide), if_neg (show ¬ true = false by decide)]
      have e1 : all.any (rBad e) = (X.of e.key).any (badE e) := by
        rw [Bool.eq_iff_iff, List.any_eq_true, List.any_eq_true]
        unfold rBad badE
        constructor
        · rintro ⟨o, ho, h2⟩
          obtain ⟨h3, h4, h5⟩ := of_decide_eq_true h2
          refine ⟨o, (h.of_mem _ _).2 ⟨(hp.mem_iff).1 ho, h4⟩, decide_eq_true ⟨h3, fun h6 => ?_⟩⟩
          have := congrArg En.del h6
          have := congrArg En.size h6
          simp only at *
          rcases h5 with h5 | h5 <;> exact h5 (by assumption)
        · rintro ⟨o, ho, h2⟩
          obtain ⟨h3, h5⟩ := of_decide_eq_true h2
          obtain ⟨h6, h4⟩ := (h.of_mem _ _).1 ho
          refine ⟨o, (hp.mem_iff).2 h6, decide_eq_true ⟨h3, h4, ?_⟩⟩
          by_cases h7 : o.del = e.del
          · by_cases h8 : o.size = e.size
            · exact absurd (show ({ o with slot := e.slot, off := e.off } : En) = e from En.ext' h3 h4 h7 rfl rfl h8) h5
            · exact .inr h8
          · exact .inl h7
      have e2 : all.any (rHav e) = ((X.of e.key).any (sameE e) || clash (X.slot e.slot) e) := by
        rw [Bool.eq_iff_iff, Bool.or_eq_true, List.any_eq_true, List.any_eq_true, clash_iff (h.slotOk e.slot) hz]
        unfold rHav sameE
        constructor
        · rintro ⟨o, ho, h2⟩
          obtain ⟨h3, h4⟩ := of_decide_eq_true h2
          rcases h4 with ⟨h4, h5⟩ | h4
          · exact .inl ⟨o, (h.of_mem _ _).2 ⟨(hp.mem_iff).1 ho, h5⟩, decide_eq_true ⟨h4, h3⟩⟩
          · exact .inr ⟨o, (h.slot_mem _ _).2 ⟨(hp.mem_iff).1 ho, h3⟩, h4⟩
        · rintro (⟨o, ho, h2⟩ | ⟨o, ho, h2⟩)
          · obtain ⟨h3, h4⟩ := of_decide_eq_true h2
            obtain ⟨h6, h5⟩ := (h.of_mem _ _).1 ho
            exact ⟨o, (hp.mem_iff).2 h6, decide_eq_true ⟨h4, .inl ⟨h3, h5⟩⟩⟩
          · obtain ⟨h6, h5⟩ := (h.slot_mem _ _).1 ho
            exact ⟨o, (hp.mem_iff).2 h6, decide_eq_true ⟨h5, .inr h2⟩⟩
      rw [e1, e2]
end
/-- Where the loop of Add stands behind some entries. -/
theorem rany_snoc {p : En → Bool} {l : List En} {i : Nat} {o : En} (h : l[i]? = some o) : (l.take (i + 1)).any p = ((l.take i).any p || p o) := by
  rw [List.take_add_one, h, List.any_append]
  simp
theorem rany_take {p : En → Bool} {l : List En} {i : Nat} (h : (l.take i).any p = true) : l.any p = true := by
  obtain ⟨o, ho, hp⟩ := List.any_eq_true.1 h
  exact List.any_eq_true.2 ⟨o, List.mem_of_mem_take ho, hp⟩
end Go.Proofs.YtanmmnomagfkhaaGreat

/- drumlinref21's index: the walks of New, Slots, Valid. -/
set_option linter.unusedVariables false
set_option linter.unusedSimpArgs false
namespace Go.Proofs.YtanmmnomagfkhaaGreat
open Go.RowKit Go.Shelf
attribute [local go_sem] OvM cell_ovm obj_ovm
attribute [local go_sem] Oper.semAt_some

set_option maxRecDepth 40000 in
set_option maxHeartbeats 4000000 in
theorem Check5 (k : ByteArray) (hm : k.size ≤ 140737488351232) (w : World) : Calls Tryz.prog 127 #[.string k] w fun e w' => e = .returned (.int .i64 (keyChk k)) ∧ w = w' := by
  have hl : k.toList.length = k.size := by rw [toList_data, size_data]
  by_cases h0 : k.size = 0
  · have e0 : k.toList = [] := List.eq_nil_of_length_eq_zero (by omega)
    have HR : Hid (keyChk k = 2) := Lib.hid (by rw [keyChk_ok (k := k) (fun j hj => by omega), if_pos h0])
    clear hl h0
    go_enter Tryz.func127, Tryz.ntmps127
    go_wp2
    go_ret
    exact ⟨ret_int HR.out.symm, rfl⟩
  · have e0 : (k.toList == []) = false := by cases hk : k.toList with | nil => rw [hk] at hl; simp at hl; omega | cons a b => rfl
    have e1 : k.toList.isEmpty = false := by cases hk : k.toList with | nil => rw [hk] at e0; cases e0 | cons a b => rfl
    have HBAD := Lib.hid (fun (i : Nat) (hi : i < k.size) (h : keyC (k[i]'hi) = false) => keyChk_bad (k := k) i hi h)
    have HOK := Lib.hid (fun (h : ∀ j (hj : j < k.size), keyC (k[j]'hj) = true) => keyChk_ok (k := k) h)
    go_enter Tryz.func127, Tryz.ntmps127
    go_wp2_with fail
    go_loopw [3] (fun t3 wx => ∃ i : Nat, i ≤ k.size ∧ t3 = .int .i64 i ∧ Hid (∀ j (hj : j < k.size), j < i → keyC (k[j]'hj) = true) ∧ w = wx) (fun t3 _ => k.size - (intOf t3).toNat)
    case atStart => exact ⟨0, by omega, rfl, Lib.hid (fun j hj h => by omega), rfl⟩
    case round =>
      obtain ⟨i, hi, rfl, HJ, rfl⟩ := hrel
      by_cases hlt : i < k.size
      · have hlt' : (i : Int) < k.size := by omega
        have HP := Lib.hid (place5 (k[i]'hlt) w)
        cases hk : keyC (k[i]'hlt) with
        | true =>
          have HK := Lib.hid hk
          clear hk
          go_wp2_with (go_at_call 169; refine Calls.mono HP.out ?_; rintro e w1 ⟨r, rfl, hr, rfl⟩; (have hr0 : ¬ r < 0 := by rw [HK.out] at hr; exact of_decide_eq_false hr); clear hr)
          exact ⟨⟨i + 1, by omega, by simp, Lib.hid (fun j hj h => by
            by_cases hji : j < i
            · exact HJ.out j hj hji
            · obtain rfl : j = i := by omega
              exact HK.out), trivial⟩, by simp [intOf]; omega⟩
        | false =>
          have HK := Lib.hid hk
          clear hk
          go_wp2_with (go_at_call 169; refine Calls.mono HP.out ?_; rintro e w1 ⟨r, rfl, hr, rfl⟩; (have hr0 : r < 0 := by rw [HK.out] at hr; exact of_decide_eq_true hr); clear hr)
          go_ret
          exact ⟨ret_int (HBAD.out i hlt HK.out).symm, rfl⟩
      · have hlt' : ¬ (i : Int) < k.size := by omega
        have HE := Lib.hid (HOK.out (fun j hj => HJ.out j hj (by omega)))
        by_cases h1 : 32 < k.size
        · have h2 : (32 : Int) < k.size := by omega
          have HR : Hid (keyChk k = 12) := Lib.hid (by rw [HE.out, if_neg h0, if_pos h1])
          go_wp2
          go_ret
          exact ⟨ret_int HR.out.symm, rfl⟩
        · have h2 : ¬ (32 : Int) < k.size := by omega
          have HR : Hid (keyChk k = 0) := Lib.hid (by rw [HE.out, if_neg h0, if_neg h1])
          go_wp2
          go_ret
          exact ⟨ret_int HR.out.symm, rfl⟩

abbrev rmO (N : Int) (v : Value) : Obj := .cells #[.int .i64 N, v] 121
set_option maxRecDepth 40000 in
theorem rvalid {w : World} {rb : Nat} {N : Int} {v : Value} (h : w.heap[rb]? = some (rmO N v)) (hN : 0 < N) : Calls Tryz.prog 66 #[.pointer (some ⟨rb, 0, none⟩)] w fun e w' => e = .returned (.bool true) ∧ w = w' := by
  have c0 := ((cellsOf h).1 0).trans (show _ = some (Value.int .i64 N) from rfl)
  clear h
  go_enter Tryz.func66, Tryz.ntmps66
  go_wp2
  go_ret
  exact ⟨rfl, rfl⟩
set_option maxRecDepth 40000 in
theorem rSlots {w : World} {rb : Nat} {N : Int} {v : Value} (h : w.heap[rb]? = some (rmO N v)) (hN : 0 < N) : Calls Tryz.prog 55 #[.pointer (some ⟨rb, 0, none⟩)] w fun e w' => e = .returned (.int .i64 N) ∧ w = w' := by
  have c0 := ((cellsOf h).1 0).trans (show _ = some (Value.int .i64 N) from rfl)
  have HV := Lib.hid (rvalid h hN)
  clear h
  go_enter Tryz.func55, Tryz.ntmps55
  go_wp2_with (go_at_call 66; refine Calls.mono HV.out ?_; rintro e w1 ⟨rfl, rfl⟩)
  go_ret
  exact ⟨rfl, rfl⟩
set_option maxRecDepth 40000 in
theorem rNew (n : Nat) (h1 : 1 ≤ n) (h2 : n ≤ 32) (w : World) : Calls Tryz.prog 27 #[.int .i64 n] w fun e w' => e = .returned (.tuple #[.pointer (some ⟨w.heap.size, 0, none⟩), .int .i64 0]) ∧ w' = w.alloc (rmO n (.slice none 0 0)) := by
  have h1' : ¬ (n : Int) < 1 := by omega
  have h2' : ¬ (32 : Int) < (n : Int) := by omega
  go_enter Tryz.func27, Tryz.ntmps27
  go_wp2
  go_ret2
  exact ⟨rfl, rfl⟩
set_option maxRecDepth 40000 in
set_option maxHeartbeats 4000000 in
theorem rValid (e : En) (hk : e.key.size ≤ 140737488351232) (w : World) : Calls Tryz.prog 85 #[enV e] w fun r w' => r = .returned (.bool (validE e)) ∧ Gr w w' := by
  have HV := Lib.hid (valid_iff e)
  obtain ⟨vb, hvb⟩ : ∃ vb, vb = validE e := ⟨_, rfl⟩
  rw [← hvb] at HV ⊢
  clear hvb
  obtain ⟨a1, a2, a3, a4, a5, a6⟩ := e
  simp only at hk
  have HC : Hid (∀ w, Calls Tryz.prog 127 #[.string a2] w fun e w' => e = .returned (.int .i64 (keyChk a2)) ∧ w = w') := Lib.hid (fun w => Check5 a2 (by omega) w)
  simp only [enV]
  go_enter Tryz.func85, Tryz.ntmps85
  go_wp2_with (go_at_call 127; refine (HC.out _).mono ?_; rintro e w1 ⟨rfl, rfl⟩)
  all_goals
    go_ret
    refine ⟨ret_bool ?_, (Gr.refl w).alloc _⟩
    rw [Bool.eq_iff_iff, HV.out]
    clear HV HC
    first
    | (simp only [Bool.false_eq_true, false_iff]; rintro ⟨q1, q2, q3, q4, q5, q6, q7, q8⟩; first | omega | (rcases q6 with q6 | q6 <;> simp_all <;> omega) | simp_all)
    | (simp only [decide_eq_true_eq]; constructor <;> intro hh <;> first | omega | (simp_all; done) | (simp_all; omega))
end Go.Proofs.YtanmmnomagfkhaaGreat

/- drumlinref21's index: the walk of Add. -/
set_option linter.unusedVariables false
set_option linter.unusedSimpArgs false
namespace Go.Proofs.YtanmmnomagfkhaaGreat
open Go.RowKit Go.Shelf
attribute [local go_sem] OvM cell_ovm obj_ovm
attribute [local go_sem] Oper.semAt_some

/-- An element of a new block, as a source of an append. -/
theorem src_blk {w : World} {b : Nat} {e : En} {t : TypeId} (h : w.heap[b]? = some (.cells #[.int .i64 e.seq, .string e.key, .bool e.del, .int .i64 e.slot, .int .i64 e.off, .int .i64 e.size] t)) : SrcAt w 6 (some ⟨b, 0, none⟩) 1 (enC e) :=
  ⟨rfl, enC_one e, .inr ⟨_, rfl, fun j u hj => by
    rw [addr_add, Nat.zero_add]
    refine ((cellsOf h).1 j).trans ?_
    rw [← hj, List.getElem?_toArray]
    rfl⟩⟩
abbrev rIx (rb : Nat) (N : Int) (v : Value) (all : List En) (R : List Asn) : List Asn := blkA rb (rmO N v) :: rowA 72 6 v all.length (rowE all) :: R
def RAddP (w0 w : World) (rb : Nat) (N : Int) (all : List En) (R : List Asn) (e : En) (r : Ending) (w' : World) : Prop :=
  r = .returned (.int .i64 (rAddC N all e)) ∧ Mdh (fun k => k = rb) w w' ∧ ∃ v', SW w0 (rIx rb N v' (rAddL N all e) R) w'
theorem rAddP_no {w0 w w' : World} {rb : Nat} {N : Int} {v : Value} {all : List En} {R : List Asn} {e : En} {b : Nat} {o : Obj} {c : Int} (h : SW w0 (blkA b o :: rIx rb N v all R) w') (g : Gr w w') (hc : rAddC N all e = c) (h0 : c ≠ 0) : RAddP w0 w rb N all R e (.returned (.int .i64 c)) w' := by
  refine ⟨ret_int hc.symm, g.mdh _, v, ?_⟩
  unfold rAddL
  rw [hc, if_neg h0]
  exact h.sub (.cons _ (List.Sublist.refl _))
set_option maxRecDepth 40000 in
set_option maxHeartbeats 8000000 in
theorem rAdd {w0 w : World} {rb : Nat} {N : Int} {v : Value} {all : List En} {R : List Asn} (e : En) (h : SW w0 (rIx rb N v all R) w) (hN : 1 ≤ N) (hb : ∀ o ∈ all, 0 ≤ o.off ∧ o.off ≤ 8192 ∧ 0 ≤ o.size ∧ o.size ≤ 8192) (hk : e.key.size ≤ 140737488351232) (hn : all.length ≤ 200) :
    Calls Tryz.prog 39 #[.pointer (some ⟨rb, 0, none⟩), enV e] w (RAddP w0 w rb N all R e) := by
  obtain ⟨i0, hi, hz0, hz1, hz2⟩ := info_parts infoIten
  have H := Lib.hid h
  have HB := Lib.hid hb
  have HVE := Lib.hid (rValid e hk)
  have hN0 : 0 < N := by omega
  obtain ⟨av, cv, rfl, hcv, hmv, _⟩ := ownE_at (show Own w 72 6 v all.length (rowE all) from h.get (i := 1) rfl)
  unfold maxLen at hmv
  have HVI := Lib.hid (valid_iff e)
  have HRC : Hid (rAddC N all e = if e.slot < 0 ∨ N ≤ e.slot then 3 else if validE e = false then 2 else if all.any (rBad e) = true then 2 else if all.any (rHav e) = true then 6 else 0) := Lib.hid rfl
  have HRL : Hid (rAddC N all e = 0 → rAddL N all e = all ++ [e]) := Lib.hid (fun h => if_pos h)
  have HTB := Lib.hid (fun (i : Nat) (x : En) (hx : all[i]? = some x) => rany_snoc (p := rBad e) hx)
  have HTH := Lib.hid (fun (i : Nat) (x : En) (hx : all[i]? = some x) => rany_snoc (p := rHav e) hx)
  have HBE : Hid (∀ x : En, rBad e x = decide (x.seq = e.seq ∧ x.key = e.key ∧ (x.del ≠ e.del ∨ x.size ≠ e.size))) := Lib.hid (fun x => rfl)
  have HHE : Hid (∀ x : En, rHav e x = decide (x.slot = e.slot ∧ ((x.seq = e.seq ∧ x.key = e.key) ∨ (x.off < e.off + e.size ∧ e.off < x.off + x.size)))) := Lib.hid (fun x => rfl)
  have HTK := Lib.hid (fun (i : Nat) => rany_take (p := rBad e) (l := all) (i := i))
  clear h hb hk
  obtain ⟨rB, hrB⟩ : ∃ f, f = rBad e := ⟨_, rfl⟩
  obtain ⟨rH, hrH⟩ : ∃ f, f = rHav e := ⟨_, rfl⟩
  rw [← hrB] at HRC HTB HBE HTK
  rw [← hrH] at HRC HTH HHE
  clear hrB hrH
  obtain ⟨e0, e1, e2, e3, e4, e5⟩ := e
  simp only [enV] at HVE HVI HRC HHE HBE ⊢
  go_enter Tryz.func39, Tryz.ntmps39
  go_upto_region 1 with fail
  obtain ⟨b3, hb3⟩ : ∃ q, q = w.heap.size := ⟨_, rfl⟩
  obtain ⟨w1, hw1⟩ : ∃ y, y = w.alloc (boxF ⟨e0, e1, e2, e3, e4, e5⟩) := ⟨_, rfl⟩
  have H1 : Hid (SW w0 (blkA b3 (boxF ⟨e0, e1, e2, e3, e4, e5⟩) :: rIx rb N (.slice av all.length cv) all R) w1 ∧ Gr w w1) := Lib.hid (by rw [hw1, hb3]; exact ⟨H.out.alloc _, (Gr.refl w).alloc _⟩)
  simp only [boxF] at hw1
  rw [← hb3, ← hw1]
  clear hw1 hb3 H
  have d3 := (cellsOf (show w1.heap[b3]? = _ from H1.out.1.get (i := 0) rfl)).1
  have l3 := blkLt (show w1.heap[b3]? = _ from H1.out.1.get (i := 0) rfl)
  simp only [boxF] at d3
  have dr0 := ((cellsOf (show w1.heap[rb]? = _ from H1.out.1.get (i := 1) rfl)).1 0).trans (show _ = some (Value.int .i64 N) from rfl)
  go_wp2_with (go_at_call 66; refine (rvalid (H1.out.1.get (i := 1) rfl) hN0).mono ?_; rintro e w2 ⟨rfl, rfl⟩)
  have HD1 : Hid (SW w0 (blkA b3 (boxF ⟨e0, e1, e2, e3, e4, e5⟩) :: rIx rb N (.slice av all.length cv) all R) w1.drew ∧ Gr w w1.drew) := Lib.hid ⟨H1.out.1.gr (Gr.refl w1).drew, H1.out.2.drew⟩
  clear H1
  by_cases n0 : e3 < 0
  · have HR3 : Hid (rAddC N all ⟨e0, e1, e2, e3, e4, e5⟩ = 3) := Lib.hid (by rw [HRC.out, if_pos (.inl n0)])
    refine wp_region_flo (fun _ => False) [] [] (by kernel_rfl) (by kernel_rfl) (fun _ h => h.elim) ?_
    refine flo_seg 12 rfl ?_
    simp only [List.take_succ_cons, List.take_zero, List.drop_succ_cons, List.drop_zero]
    repeat (go_big_quiet_step (fail))
    refine wpQuiet_nil ?_
    refine flo_nil ?_
    go_wp2_with fail
    go_ret
    exact rAddP_no HD1.out.1 HD1.out.2 HR3.out (by decide)
  by_cases n1 : N ≤ e3
  · have HR3 : Hid (rAddC N all ⟨e0, e1, e2, e3, e4, e5⟩ = 3) := Lib.hid (by rw [HRC.out, if_pos (.inr n1)])
    refine wp_region_flo (fun _ => False) [] [] (by kernel_rfl) (by kernel_rfl) (fun _ h => h.elim) ?_
    refine flo_seg 12 rfl ?_
    simp only [List.take_succ_cons, List.take_zero, List.drop_succ_cons, List.drop_zero]
    repeat (go_big_quiet_step (fail))
    refine wpQuiet_nil ?_
    refine flo_nil ?_
    go_wp2_with fail
    go_ret
    exact rAddP_no HD1.out.1 HD1.out.2 HR3.out (by decide)
  have HRC2 : Hid (rAddC N all ⟨e0, e1, e2, e3, e4, e5⟩ = if validE ⟨e0, e1, e2, e3, e4, e5⟩ = false then 2 else if all.any rB = true then 2 else if all.any rH = true then 6 else 0) := Lib.hid (by rw [HRC.out, if_neg (by omega)])
  clear HRC
  refine wp_region_flo (fun _ => False) [] [] (by kernel_rfl) (by kernel_rfl) (fun _ h => h.elim) ?_
  refine flo_seg 12 rfl ?_
  simp only [List.take_succ_cons, List.take_zero, List.drop_succ_cons, List.drop_zero]
  repeat (go_big_quiet_step (fail))
  refine wpQuiet_nil ?_
  refine flo_nil ?_
  cases hv : validE ⟨e0, e1, e2, e3, e4, e5⟩ with
  | false =>
    rw [hv] at HVE
    have HR3 : Hid (rAddC N all ⟨e0, e1, e2, e3, e4, e5⟩ = 2) := Lib.hid (by rw [HRC2.out, if_pos hv])
    clear hv
    go_wp2_with (go_at_call 85; refine (HVE.out _).mono ?_; rintro e w2 ⟨rfl, hg⟩; have HG2 := Lib.hid hg; clear hg)
    go_ret
    exact rAddP_no (HD1.out.1.gr HG2.out) (HD1.out.2.trans HG2.out) HR3.out (by decide)
  | true =>
    have HRC3 : Hid (rAddC N all ⟨e0, e1, e2, e3, e4, e5⟩ = if all.any rB = true then 2 else if all.any rH = true then 6 else 0) := Lib.hid (by rw [HRC2.out, hv, if_neg (by decide)])
    have hvi := HVI.out.1 hv
    rw [hv] at HVE
    have hb4 : 0 ≤ e4 ∧ e4 ≤ 8192 ∧ 0 ≤ e5 ∧ e5 ≤ 8192 := by omega
    obtain ⟨v1, v2, v3, v4⟩ := hb4
    clear hv hvi HVI HRC2
    go_wp2_with (go_at_call 85; refine (HVE.out _).mono ?_; rintro e w2 ⟨rfl, hg⟩; have HD2 : Hid (SW w0 (blkA b3 (boxF ⟨e0, e1, e2, e3, e4, e5⟩) :: rIx rb N (.slice av all.length cv) all R) w2 ∧ Gr w w2) := Lib.hid ⟨HD1.out.1.gr hg, HD1.out.2.trans hg⟩; clear hg)
    clear HD1 HVE d3 l3 dr0
    go_loopw [5, 6] (fun t5 t6 wx => ∃ i : Nat, i ≤ all.length ∧ t5 = .bool ((all.take i).any rH) ∧ t6 = .int .i64 i ∧ Hid ((all.take i).any rB = false) ∧ Hid (SW w0 (blkA b3 (boxF ⟨e0, e1, e2, e3, e4, e5⟩) :: rIx rb N (.slice av all.length cv) all R) wx ∧ Gr w wx)) (fun _ t6 _ => all.length - (intOf t6).toNat)
    case atStart => exact ⟨0, by omega, rfl, rfl, Lib.hid rfl, HD2⟩
    case round =>
      obtain ⟨i, hil, rfl, rfl, HNB, HI⟩ := hrel
      clear HD2
      have hrb : wr.heap[rb]? = _ := HI.out.1.get (i := 1) rfl
      have dr1 := ((cellsOf hrb).1 1).trans (show _ = some (Value.slice av all.length cv) from rfl)
      clear hrb
      by_cases hli : i < all.length
      · have hli' : (i : Int) < all.length := by omega
        obtain ⟨x, hx⟩ : ∃ x, all[i]? = some x := ⟨_, List.getElem?_eq_getElem hli⟩
        obtain ⟨_, _, hve, _, _, hat⟩ := ownE_at (show Own wr 72 6 (.slice av all.length cv) all.length (rowE all) from HI.out.1.get (i := 2) rfl)
        injection hve with g1 g2 g3
        subst g1
        obtain ⟨g0, rfl, hg0, _, hc⟩ := hat i _ hx
        have y0 := hc 0 _ rfl
        have y1 := hc 1 _ rfl
        have y2 := hc 2 _ rfl
        have y3 := hc 3 _ rfl
        have y4 := hc 4 _ rfl
        have y5 := hc 5 _ rfl
        simp only [Nat.add_zero] at y0 y1 y2 y3 y4 y5
        have HTB1 := Lib.hid (HTB.out i x hx)
        have HTH1 := Lib.hid (HTH.out i x hx)
        have HBE1 := Lib.hid (HBE.out x)
        have HHE1 := Lib.hid (HHE.out x)
        obtain ⟨q1, q2, q3, q4⟩ := HB.out x (List.mem_of_getElem? hx)
        clear hat hc g2 g3 hx
        obtain ⟨bB, hbB⟩ : ∃ b, b = rB x := ⟨_, rfl⟩
        obtain ⟨bH, hbH⟩ : ∃ b, b = rH x := ⟨_, rfl⟩
        rw [← hbB] at HTB1 HBE1
        rw [← hbH] at HTH1 HHE1
        clear hbB hbH
        obtain ⟨x0, x1, x2, x3, x4, x5⟩ := x
        simp only at y0 y1 y2 y3 y4 y5 q1 q2 q3 q4 HBE1 HHE1
        go_upto_region 12 with fail
        obtain ⟨b7, hb7⟩ : ∃ q, q = wr.heap.size := ⟨_, rfl⟩
        obtain ⟨w9, hw9⟩ : ∃ y, y = wr.alloc (boxF ⟨x0, x1, x2, x3, x4, x5⟩) := ⟨_, rfl⟩
        have H9 : Hid (SW w0 (blkA b7 (boxF ⟨x0, x1, x2, x3, x4, x5⟩) :: blkA b3 (boxF ⟨e0, e1, e2, e3, e4, e5⟩) :: rIx rb N (.slice (some ⟨g0, 0, none⟩) all.length cv) all R) w9 ∧ Gr w w9) := Lib.hid (by rw [hw9, hb7]; exact ⟨HI.out.1.alloc _, HI.out.2.alloc _⟩)
        simp only [boxF] at hw9
        rw [← hb7, ← hw9]
        clear hw9 hb7 HI y0 y1 y2 y3 y4 y5 hg0 dr1
        have d3 := (cellsOf (show w9.heap[b3]? = _ from H9.out.1.get (i := 1) rfl)).1
        have d7 := (cellsOf (show w9.heap[b7]? = _ from H9.out.1.get (i := 0) rfl)).1
        simp only [boxF] at d3 d7
        have H10 : Hid (SW w0 (blkA b3 (boxF ⟨e0, e1, e2, e3, e4, e5⟩) :: rIx rb N (.slice (some ⟨g0, 0, none⟩) all.length cv) all R) w9 ∧ Gr w w9) := Lib.hid ⟨H9.out.1.sub (.cons _ (List.Sublist.refl _)), H9.out.2⟩
        clear H9
        obtain ⟨bb, hbb⟩ : ∃ b, b = (all.take i).any rH := ⟨_, rfl⟩
        rw [← hbb] at HTH1 ⊢
        clear hbb
        have hcl : ∀ (c : Prop) [Decidable c], (c → False) → decide c = false := fun c _ h => decide_eq_false h
        by_cases hcp : x0 = e0 ∧ x1 = e1
        · obtain ⟨hq, hk⟩ := hcp
          subst hq hk
          clear hcl
          go_wp2_with fail
          all_goals
            try
              (refine ⟨⟨i + 1, by omega, ?_, by simp, Lib.hid ?_, H10⟩, by simp [intOf]; omega⟩
               · rw [HTH1.out, HHE1.out]
                 first
                 | (rw [decide_eq_true ⟨by assumption, .inl ⟨rfl, rfl⟩⟩, Bool.or_true]; done)
                 | (rw [decide_eq_false (fun hh => by have := hh.1; first | (exact absurd this (by assumption)) | (simp_all; done)), Bool.or_false]; done)
               · rw [HTB1.out, HNB.out, HBE1.out, Bool.false_or]
                 refine decide_eq_false (fun hh => ?_)
                 have hh2 := hh.2.2
                 clear hh HTB HTH HBE HHE HTK HRC3
                 simp_all)
          all_goals
            go_ret
            refine rAddP_no H10.out.1 H10.out.2 (c := 2) ?_ (by decide)
            rw [HRC3.out, if_pos]
            refine HTK.out (i + 1) ?_
            rw [HTB1.out, HBE1.out, Bool.or_eq_true]
            refine .inr (decide_eq_true (And.intro (by first | trivial | rfl) (And.intro (by first | trivial | rfl) ?_)))
            first | exact .inl (by assumption) | exact .inr (bne_iff_ne.1 (by assumption)) | (simp_all; done)
        · have HNC := Lib.hid hcp
          have HB2 : Hid (bB = false) := Lib.hid (HBE1.out.trans (decide_eq_false (fun hh => hcp ⟨hh.1, hh.2.1⟩)))
          have HH2 : Hid (bH = decide (x3 = e3 ∧ x4 < e4 + e5 ∧ e4 < x4 + x5)) := Lib.hid (HHE1.out.trans (by
            congr 1
            exact propext ⟨fun hh => ⟨hh.1, hh.2.resolve_left hcp⟩, fun hh => ⟨hh.1, .inr hh.2⟩⟩))
          clear HBE1 HHE1 hcl
          have fin : ∀ b : Bool, (b = (bb || bH)) → ∃ i', i' ≤ all.length ∧ Value.bool b = Value.bool ((all.take i').any rH) ∧ Value.int .i64 ((i : Int) + 1) = .int .i64 (i' : Nat) ∧ Hid ((all.take i').any rB = false) ∧ Hid (SW w0 (blkA b3 (boxF ⟨e0, e1, e2, e3, e4, e5⟩) :: rIx rb N (.slice (some ⟨g0, 0, none⟩) all.length cv) all R) w9 ∧ Gr w w9) := fun b hb =>
            ⟨i + 1, by omega, by rw [HTH1.out, hb], by simp, Lib.hid (by rw [HTB1.out, HNB.out, HB2.out]; rfl), H10⟩
          have HF := Lib.hid fin
          clear fin
          by_cases hq : x0 = e0
          · have hk : ¬ x1 = e1 := fun h => hcp ⟨hq, h⟩
            have hkb : (x1.toList == e1.toList) = false := (str_beq x1 e1).trans (decide_eq_false hk)
            clear hcp hk
            subst hq
            go_wp2_with fail
            all_goals
              refine ⟨HF.out _ ?_, by simp [intOf]; omega⟩
              rw [HH2.out]
              first
              | (rw [decide_eq_true (by omega), Bool.or_true]; done)
              | (rw [decide_eq_false (by omega), Bool.or_false]; done)
          · have hqb : (x0 == e0) = false := beq_false_of_ne hq
            clear hcp hq
            go_wp2_with fail
            all_goals
              refine ⟨HF.out _ ?_, by simp [intOf]; omega⟩
              rw [HH2.out]
              first
              | (rw [decide_eq_true (by omega), Bool.or_true]; done)
              | (rw [decide_eq_false (by omega), Bool.or_false]; done)
      · have hli' : ¬ (i : Int) < all.length := by omega
        obtain rfl : i = all.length := by omega
        rw [List.take_length] at HNB ⊢
        cases hH : all.any rH with
        | true =>
          have HR6 : Hid (rAddC N all ⟨e0, e1, e2, e3, e4, e5⟩ = 6) := Lib.hid (by rw [HRC3.out, HNB.out, hH, if_neg (by decide), if_pos rfl])
          clear hH
          go_wp2_with fail
          go_ret
          exact rAddP_no HI.out.1 HI.out.2 HR6.out (by decide)
        | false =>
          have HR0 : Hid (rAddC N all ⟨e0, e1, e2, e3, e4, e5⟩ = 0) := Lib.hid (by rw [HRC3.out, HNB.out, hH, if_neg (by decide), if_neg (by decide)])
          clear hH
          have d3 := (cellsOf (show wr.heap[b3]? = _ from HI.out.1.get (i := 0) rfl)).1
          simp only [boxF] at d3
          have SRC : Hid (SrcAt wr.drew 6 av all.length (rowE all)) := Lib.hid ((src_all (show Own wr 72 6 (.slice av all.length cv) all.length (rowE all) from HI.out.1.get (i := 2) rfl) (rowE_one all)).gr (Gr.refl wr).drew)
          go_wp2_with fail
          have HG := Gr.refl wr.drew
          refine wp_region_flt 10 (fun _ => False) [107] [] (by kernel_rfl) (by kernel_rfl) (by decide) (by kernel_rfl) (fun _ h => h.elim) ?_
          simp only [List.take_succ_cons, List.take_zero, List.drop_succ_cons, List.drop_zero]
          refine flo_seg 1 rfl ?_
          simp only [List.take_succ_cons, List.take_zero, List.drop_succ_cons, List.drop_zero]
          repeat (go_big_quiet_step (fail))
          refine wpQuiet_nil ?_
          refine flo_effg rfl rfl rfl (fun wg1 hgg1 K hK => ?_)
          (try replace HG := Gr.trans (Gr.trans HG (by (repeat (first | (with_reducible exact Gr.refl _) | assumption | (with_reducible apply Gr.from_drew) | (with_reducible apply Gr.alloc) | (with_reducible apply Gr.drew) | (with_reducible refine Gr.trans ?_ (by assumption)) | (with_reducible refine Gr.setCell ?_ (by omega) _))))) hgg1)
          go_wp2
          refine ⟨by (first | (refine Gr.mdh ?_ _; (repeat (first | (with_reducible exact Gr.refl _) | assumption | (with_reducible apply Gr.from_drew) | (with_reducible apply Gr.alloc) | (with_reducible apply Gr.drew) | (with_reducible refine Gr.trans ?_ (by assumption)) | (with_reducible refine Gr.setCell ?_ (by omega) _))); done) | (repeat (first | (with_reducible exact Mdh.refl _ _) | (with_reducible refine Mdh.setCell ?_ (by simp) _) | (with_reducible refine Mdh.setNew ?_ (by simp) _) | (with_reducible apply Mdh.alloc) | (with_reducible apply Mdh.from_drew) | (with_reducible apply Mdh.drew) | (with_reducible refine Mdh.gr ?_ (by assumption))))), ?_⟩
          refine flo_seg 4 rfl ?_
          simp only [List.take_succ_cons, List.take_zero, List.drop_succ_cons, List.drop_zero]
          repeat (go_big_quiet_step (fail))
          refine wpQuiet_nil ?_
          refine flo_effg rfl rfl rfl (fun wg2 hgg2 K hK => ?_)
          (try replace HG := Gr.trans (Gr.trans HG (by (repeat (first | (with_reducible exact Gr.refl _) | assumption | (with_reducible apply Gr.from_drew) | (with_reducible apply Gr.alloc) | (with_reducible apply Gr.drew) | (with_reducible refine Gr.trans ?_ (by assumption)) | (with_reducible refine Gr.setCell ?_ (by omega) _))))) hgg2)
          refine wp_appv _ (.tmp 100) (.tmp 104) 37 rfl 72 i0 _ 6 56 Tryz.underlying37 hi hz0 hz1 hz2 rfl (by decide) (.slice (some ⟨wg1.heap.size, 0, none⟩) 0 0) 0 [] rfl ((Nw.made (w0 := wr.drew) (w := wg1) hgg1.sz).own.gr hgg2) av all.length cv (rowE all) rfl (SRC.out.gr HG) (by simp only [maxLen]; omega) (by omega) (fun k1 x1 hk1 => ?_); rw [Nat.zero_add, List.nil_append] at hk1; (have n1 := hk1.nw ((Nw.made (w0 := wr.drew) (w := wg1) hgg1.sz).gr hgg2) HG.sz); (replace HG := hk1.gw ((Nw.made (w0 := wr.drew) (w := wg1) hgg1.sz).gr hgg2) HG); obtain ⟨a1, c1, rfl⟩ := hk1.val; refine hK _ _ ⟨hk1.mdh (fun q hq => by rw [ownB hq]; simp), ?_⟩; simp only [Act.put, List.setIfInBounds_toArray, List.set_cons_succ, List.set_cons_zero]
          refine flo_seg 1 rfl ?_
          simp only [List.take_succ_cons, List.take_zero, List.drop_succ_cons, List.drop_zero]
          repeat (go_big_quiet_step (fail))
          refine wpQuiet_nil ?_
          refine flo_float (fun b => .slice (some ⟨b, 0, none⟩) 1 1) (_) rfl rfl (fun w => by simp [go_sem]; rfl) (fun wf1 fb1 hgf1 fl1 fh1 ft1 fo1 => ?_)
          (try replace HG := Gr.trans (Gr.trans HG (by (repeat (first | (with_reducible exact Gr.refl _) | assumption | (with_reducible apply Gr.from_drew) | (with_reducible apply Gr.alloc) | (with_reducible apply Gr.drew) | (with_reducible refine Gr.trans ?_ (by assumption)) | (with_reducible refine Gr.setCell ?_ (by omega) _))))) hgf1)
          (try have fc1 := (cellsOf fo1).1)
          (try have ff1 := (cellsOf fo1).2)
          refine flo_eff rfl rfl rfl rfl (fun K hK => ?_)
          refine wp_appv _ (.tmp 105) (.tmp 107) 37 rfl 72 i0 _ 6 56 Tryz.underlying37 hi hz0 hz1 hz2 rfl (by decide) (.slice a1 all.length c1) all.length (rowE all) rfl (n1.own.gr hgf1) (some ⟨fb1, 0, none⟩) 1 1 (enC ⟨e0, e1, e2, e3, e4, e5⟩) rfl (src_blk (e := ⟨e0, e1, e2, e3, e4, e5⟩) fo1) (by simp only [maxLen]; omega) (by omega) (fun k2 x2 hk2 => ?_); (have n2 := hk2.nw (n1.gr hgf1) HG.sz); (have m2 := hk2.gw (n1.gr hgf1) HG); obtain ⟨a2, c2, rfl⟩ := hk2.val; refine hK _ _ ⟨hk2.mdh (fun q hq => (hk1.2.1 q hq).elim (fun h => by rw [ownB h]; exact .inr (.inl (.inl (.inr ⟨Nat.le_refl _, by simp⟩)))) (fun h => .inr (.inl (.inr ⟨h, hk1.1.lt hq⟩)))), ?_⟩; simp only [Act.put, List.setIfInBounds_toArray, List.set_cons_succ, List.set_cons_zero]
          refine flo_nil ?_
          have g0 : Gr wr x2 := (Gr.refl wr).drew.trans m2
          have h1 := HI.out.1.new g0 (A := rowA 72 6 (.slice a2 (all.length + 1) c2) (all ++ [(⟨e0, e1, e2, e3, e4, e5⟩ : En)]).length (rowE (all ++ [(⟨e0, e1, e2, e3, e4, e5⟩ : En)]))) (by
            show Own _ _ _ _ _ _
            rw [rowE_snoc, List.length_append]
            exact n2.own) (fun k hk => by have := n2.new k hk; simpa using this)
          have hb2 : x2.heap[rb]? = some (rmO N (.slice av all.length cv)) := h1.get (i := 2) rfl
          have h2 := h1.at (i := 2) rfl ((Mdh.refl (fun k => k = rb) x2).setCell (p := ⟨rb, 1, none⟩) rfl (.slice a2 (all.length + 1) c2)) (fun k hk => .inl hk) (B := blkA rb (rmO N (.slice a2 (all.length + 1) c2))) (blkSet (j := 1) hb2) (fun k hk => .inl hk)
          have HE := Lib.hid ((h2.sub (.cons_cons _ (.cons _ (.cons_cons _ (.cons _ (List.Sublist.refl _)))))).perm (List.Perm.swap _ _ _))
          have HM : Hid (Mdh (fun k => k = rb) w (x2.setCell ⟨rb, 1, none⟩ (.slice a2 (all.length + 1) c2))) := Lib.hid (((HI.out.2.trans g0).mdh (fun k => k = rb)).setCell (p := ⟨rb, 1, none⟩) rfl _)
          obtain ⟨_, f2⟩ := cellsOf hb2
          have l2 := blkLt hb2
          clear h1 h2 hb2 g0 n1 n2 m2 hk1 hk2 HG d3
          go_wp2_with fail
          go_ret
          exact ⟨ret_int HR0.out.symm, HM.out, _, by rw [HRL.out HR0.out]; exact HE.out⟩
end Go.Proofs.YtanmmnomagfkhaaGreat

/- drumlinref21's Drop; drumlinlaw22's Made: end. -/
set_option linter.unusedVariables false
set_option linter.unusedSimpArgs false
namespace Go.Proofs.YtanmmnomagfkhaaGreat
open Go.RowKit Go.Shelf
attribute [local go_sem] OvM cell_ovm obj_ovm
attribute [local go_sem] Oper.semAt_some

def nsP (s : Int) (o : En) : Bool := !decide (o.slot = s)
theorem tfs {l : List En} {p : En → Bool} {i : Nat} {x : En} (h : l[i]? = some x) : (l.take (i + 1)).filter p = (l.take i).filter p ++ if p x then [x] else [] := by
  rw [List.take_add_one, h, List.filter_append]
  congr 1
  simp only [Option.toList_some, List.filter_cons, List.filter_nil]
set_option maxRecDepth 40000 in
set_option maxHeartbeats 8000000 in
theorem rDrop {w0 w : World} {rb : Nat} {N : Int} {v : Value} {all : List En} {R : List Asn} (h : SW w0 (rIx rb N v all R) w) (s : Int) (h0 : 0 ≤ s) (h1 : s < N) (hn : all.length ≤ 200) :
    Calls Tryz.prog 41 #[.pointer (some ⟨rb, 0, none⟩), .int .i64 s] w fun r w' => r = .returned (.tuple #[.int .i64 ((all.length : Int) - (all.filter (nsP s)).length), .int .i64 0]) ∧ ∃ v', SW w0 (rIx rb N v' (all.filter (nsP s)) R) w' := by
  obtain ⟨i0, hi, hz0, hz1, hz2⟩ := info_parts infoIten
  have H := Lib.hid h
  obtain ⟨av, cv, rfl, hcv, hmv, hat⟩ := ownE_at (show Own w 72 6 v all.length (rowE all) from h.get (i := 1) rfl)
  have HAT := Lib.hid hat
  unfold maxLen at hmv
  have hN0 : 0 < N := by omega
  have n0 : ¬ s < 0 := by omega
  have n1 : ¬ N ≤ s := by omega
  have dr0 := ((cellsOf (show w.heap[rb]? = _ from H.out.get (i := 0) rfl)).1 0).trans (show _ = some (Value.int .i64 N) from rfl)
  clear h hat
  go_enter Tryz.func41, Tryz.ntmps41
  go_wp2_with (go_at_call 66; refine (rvalid (H.out.get (i := 0) rfl) hN0).mono ?_; rintro e w2 ⟨rfl, rfl⟩)
  go_loopw [6, 7] (fun t6 t7 wx => ∃ i : Nat, i ≤ all.length ∧ t7 = .int .i64 i ∧ Hid (Nw w wx 72 6 t6 ((all.take i).filter (nsP s)).length (rowE ((all.take i).filter (nsP s))) ∧ Gr w wx)) (fun _ t7 _ => all.length - (intOf t7).toNat)
  case atStart => exact ⟨0, by omega, rfl, Lib.hid ⟨⟨nilRow _ _ _, fun q hq => by cases hq⟩, Gr.refl _⟩⟩
  case round =>
    obtain ⟨i, hil, rfl, HI⟩ := hrel
    clear dr0
    have hrb : wr.heap[rb]? = _ := HI.out.2.blk (H.out.get (i := 0) rfl)
    have dr1 := ((cellsOf hrb).1 1).trans (show _ = some (Value.slice av all.length cv) from rfl)
    have HRB := Lib.hid hrb
    clear hrb
    by_cases hli : i < all.length
    · have hli' : (i : Int) < all.length := by omega
      obtain ⟨x, hx⟩ : ∃ x, all[i]? = some x := ⟨_, List.getElem?_eq_getElem hli⟩
      obtain ⟨g0, rfl, _, _, hc⟩ := HAT.out i x hx
      have hr : ∀ i' u, (enC x)[i']? = some u → wr.cell? ⟨g0, i * 6 + i', none⟩ = some u := fun i' u hu => HI.out.2.keep (hc i' u hu)
      have d0 := hr 0 _ rfl
      have d1 := hr 1 _ rfl
      have d2 := hr 2 _ rfl
      have d3 := hr 3 _ rfl
      have d4 := hr 4 _ rfl
      have d5 := hr 5 _ rfl
      simp only [Nat.add_zero] at d0 d1 d2 d3 d4 d5
      have HTF := Lib.hid (tfs (p := nsP s) hx)
      have hfl : ((all.take i).filter (nsP s)).length ≤ 1000 := by
        have h1 := List.length_filter_le (nsP s) (all.take i)
        rw [List.length_take] at h1
        omega
      clear hr hc hx
      by_cases hxs : x.slot = s
      · have hb : (x.slot == s) = true := beq_iff_eq.2 hxs
        have hb2 : (x.slot != s) = false := by simp [bne, hb]
        have HTG : Hid ((all.take (i + 1)).filter (nsP s) = (all.take i).filter (nsP s)) := Lib.hid (by rw [HTF.out, show nsP s x = false by unfold nsP; rw [decide_eq_true hxs]; rfl, if_neg (by decide), List.append_nil])
        clear hxs
        go_wp2_with fail
        exact ⟨⟨i + 1, by omega, by simp, Lib.hid ⟨by rw [HTG.out]; exact HI.out.1, HI.out.2⟩⟩, by simp [intOf]; omega⟩
      · have hb : (x.slot == s) = false := beq_false_of_ne hxs
        have hb2 : (x.slot != s) = true := by simp [bne, hb]
        have HTG : Hid ((all.take (i + 1)).filter (nsP s) = (all.take i).filter (nsP s) ++ [x]) := Lib.hid (by rw [HTF.out, show nsP s x = true by unfold nsP; rw [decide_eq_false hxs]; rfl, if_pos rfl])
        clear hxs
        go_wp2_with (first
          | (at_builtin; go_must (refine wpList_appv _ rfl (.tmp 41) (.tmp 49) 37 rfl 72 i0 _ 6 56 Tryz.underlying37 hi hz0 hz1 hz2 rfl (by decide) u6 ((all.take i).filter (nsP s)).length (rowE ((all.take i).filter (nsP s))) rfl (HI.out.1.own.gr (by (repeat (first | (with_reducible exact Gr.refl _) | assumption | (with_reducible apply Gr.from_drew) | (with_reducible apply Gr.alloc) | (with_reducible apply Gr.drew) | (with_reducible refine Gr.trans ?_ (by assumption)) | (with_reducible refine Gr.setCell ?_ (by omega) _))))) (some ⟨wr.heap.size, 0, none⟩) 1 1 (enC x) rfl (src_newK wr (enC x) _ 6 rfl (enC_one x)) (by simp only [maxLen]; omega) (by omega) ?_); intro v2 w2 hA; have N2 := Lib.hid (hA.nw (HI.out.1.gr ((Gr.refl wr).alloc _)) (by have := HI.out.2.sz; simp; omega)); have HG2 := Lib.hid (hA.gw (HI.out.1.gr ((Gr.refl wr).alloc _)) (HI.out.2.alloc _)); clear hA)
          | fail)
        exact ⟨⟨i + 1, by omega, by simp, Lib.hid ⟨by rw [HTG.out, rowE_snoc, List.length_append]; exact N2.out, HG2.out⟩⟩, by simp [intOf]; omega⟩
    · have hli' : ¬ (i : Int) < all.length := by omega
      obtain rfl : i = all.length := by omega
      rw [List.take_length] at HI
      obtain ⟨a6, c6, rfl, _, _, _⟩ := ownE_at HI.out.1.own
      have hfl : (all.filter (nsP s)).length ≤ all.length := List.length_filter_le _ _
      obtain ⟨_, fr⟩ := cellsOf HRB.out
      have lr := blkLt HRB.out
      generalize hfn : (all.filter (nsP s)).length = fn at *
      go_wp2_with fail
      go_ret2
      rw [← hfn] at HI ⊢
      refine ⟨rfl, .slice a6 (all.filter (nsP s)).length c6, ?_⟩
      have h1 := H.out.new HI.out.2 (A := rowA 72 6 (.slice a6 (all.filter (nsP s)).length c6) (all.filter (nsP s)).length (rowE (all.filter (nsP s)))) HI.out.1.own (fun k hk => HI.out.1.new k hk)
      have h2 := h1.at (i := 1) rfl ((Mdh.refl (fun k => k = rb) wr).setCell (p := ⟨rb, 1, none⟩) rfl (.slice a6 (all.filter (nsP s)).length c6)) (fun k hk => .inl hk) (B := blkA rb (rmO N (.slice a6 (all.filter (nsP s)).length c6))) (blkSet (j := 1) HRB.out) (fun k hk => .inl hk)
      exact (h2.sub (.cons_cons _ (.cons_cons _ (.cons _ (List.Sublist.refl _))))).perm (List.Perm.swap _ _ _)

abbrev mdO (b rb : Nat) (v : Value) (nx : Int) : Obj := .cells #[.pointer (some ⟨b, 0, none⟩), .pointer (some ⟨rb, 0, none⟩), v, .int .i64 nx] 39
theorem endL_take {all : List En} {i : Nat} {x : En} (h : all[i]? = some x) (s : Int) : endL (all.take (i + 1)) s = endF s (endL (all.take i) s) x := by
  rw [List.take_add_one, h]
  exact endL_snoc _ _ _
theorem endL_le {all : List En} {m : Int} (hm : 0 ≤ m) (h : ∀ o ∈ all, o.off + o.size ≤ m) (s : Int) : endL all s ≤ m := by
  have h2 : ∀ (l : List En) (a : Int), a ≤ m → (∀ o ∈ l, o.off + o.size ≤ m) → l.foldl (endF s) a ≤ m := by
    intro l
    induction l with
    | nil => intro a ha _; exact ha
    | cons e l ih =>
      intro a ha hl
      refine ih _ ?_ (fun o ho => hl o (List.mem_cons_of_mem _ ho))
      have := hl e (List.mem_cons_self ..)
      unfold endF
      split <;> omega
  exact h2 all 0 hm h
set_option maxRecDepth 40000 in
set_option maxHeartbeats 8000000 in
theorem mEnd {w : World} {mb b rb : Nat} {v : Value} {nx : Int} {all : List En} (hm : w.heap[mb]? = some (mdO b rb v nx)) (hr : Own w 72 6 v all.length (rowE all)) (hn : all.length ≤ 200) (hb : ∀ o ∈ all, 0 ≤ o.off ∧ o.off ≤ 8192 ∧ 0 ≤ o.size ∧ o.size ≤ 8192) (s : Int) :
    Calls Tryz.prog 141 #[.pointer (some ⟨mb, 0, none⟩), .int .i64 s] w fun r w' => r = .returned (.int .i64 (endL all s)) ∧ Gr w w' := by
  obtain ⟨av, cv, rfl, hcv, hmv, hat⟩ := ownE_at hr
  have HAT := Lib.hid hat
  have HM := Lib.hid hm
  have HB := Lib.hid hb
  unfold maxLen at hmv
  clear hm hr hat hb
  go_enter Tryz.func141, Tryz.ntmps141
  go_wp2_with fail
  go_loopw [5, 6] (fun t5 t6 wx => ∃ i : Nat, i ≤ all.length ∧ t5 = .int .i64 (endL (all.take i) s) ∧ t6 = .int .i64 i ∧ Hid (Gr w wx)) (fun _ t6 _ => all.length - (intOf t6).toNat)
  case atStart => exact ⟨0, by omega, rfl, rfl, Lib.hid (Gr.refl _)⟩
  case round =>
    obtain ⟨i, hil, rfl, rfl, HI⟩ := hrel
    have dm := ((cellsOf (HI.out.blk HM.out)).1 2).trans (show _ = some (Value.slice av all.length cv) from rfl)
    by_cases hli : i < all.length
    · have hli' : (i : Int) < all.length := by omega
      obtain ⟨x, hx⟩ : ∃ x, all[i]? = some x := ⟨_, List.getElem?_eq_getElem hli⟩
      obtain ⟨g0, rfl, _, _, hc⟩ := HAT.out i x hx
      have d3 := HI.out.keep (hc 3 _ rfl)
      have d4 := HI.out.keep (hc 4 _ rfl)
      have d5 := HI.out.keep (hc 5 _ rfl)
      have HTE := Lib.hid (endL_take hx s)
      obtain ⟨q1, q2, q3, q4⟩ := HB.out x (List.mem_of_getElem? hx)
      have p1 := endL_nn (all.take i) s
      have p2 := endL_le (all := all.take i) (m := 16384) (by omega) (fun o ho => by have := HB.out o (List.mem_of_mem_take ho); omega) s
      generalize endL (all.take i) s = en at *
      clear hc hx
      by_cases hxs : x.slot = s
      · have hbb : (x.slot == s) = true := beq_iff_eq.2 hxs
        have HTG : Hid (endL (all.take (i + 1)) s = max en (x.off + x.size)) := Lib.hid (by rw [HTE.out]; exact if_pos hxs)
        clear hxs
        go_wp2_with fail
        refine wp_region_flo (fun _ => False) [] [] (by kernel_rfl) (by kernel_rfl) (fun _ h => h.elim) ?_
        refine flo_seg 20 rfl ?_
        simp only [List.take_succ_cons, List.take_zero, List.drop_succ_cons, List.drop_zero]
        repeat (go_big_quiet_step (fail))
        refine wpQuiet_nil ?_
        refine flo_nil ?_
        go_wp2_with fail
        all_goals
          refine ⟨⟨i + 1, by omega, by rw [HTG.out]; congr 1; omega, by simp, Lib.hid (HI.out.trans (Gr.refl _).drew)⟩, by simp [intOf]; omega⟩
      · have hbb : (x.slot == s) = false := beq_false_of_ne hxs
        have HTG : Hid (endL (all.take (i + 1)) s = en) := Lib.hid (by rw [HTE.out]; exact if_neg hxs)
        clear hxs
        go_wp2_with fail
        exact ⟨⟨i + 1, by omega, by rw [HTG.out], by simp, HI⟩, by simp [intOf]; omega⟩
    · have hli' : ¬ (i : Int) < all.length := by omega
      obtain rfl : i = all.length := by omega
      rw [List.take_length]
      go_wp2_with fail
      go_ret
      exact ⟨rfl, HI.out⟩
end Go.Proofs.YtanmmnomagfkhaaGreat

/- drumlinlaw22's Made: add. -/
set_option linter.unusedVariables false
set_option linter.unusedSimpArgs false
namespace Go.Proofs.YtanmmnomagfkhaaGreat
open Go.RowKit Go.Shelf
attribute [local go_sem] OvM cell_ovm obj_ovm
attribute [local go_sem] Oper.semAt_some

abbrev mL (b rb mb : Nat) (N : Int) (v1 v2 : Value) (S : Nat → Prop) (st : MS) (R : List Asn) : List Asn :=
  ixA b st.X S :: blkA rb (rmO N v1) :: rowA 72 6 v1 st.all.length (rowE st.all) :: blkA mb (mdO b rb v2 st.nx) :: rowA 72 6 v2 st.all.length (rowE st.all) :: R
/-- What stands behind a call of Made: the same index, with the state st. -/
def MdP (w0 : World) (b rb mb : Nat) (N : Int) (st : MS) (R : List Asn) (r : Ending) (w' : World) : Prop := r = .returned (.bool true) ∧ ∃ v1 v2 S, SW w0 (mL b rb mb N v1 v2 S st R) w'
theorem MS.Ok.rows {st : MS} {N : Int} {j : Nat} (h : st.Ok N j) : ∀ o ∈ st.all, 0 ≤ o.off ∧ o.off ≤ 8192 ∧ 0 ≤ o.size ∧ o.size ≤ 8192 := fun o ho => by
  have := h.g.val ho
  omega
theorem MS.Ok.rix {st : MS} {N : Int} {j : Nat} (h : st.Ok N j) (hN : 1 ≤ N) (e : En) : rAddC N st.all e = addE st.X e := rAddC_eq h.g.wf h.g.ln hN h.g.pm e
/-- The order of the parts behind the reference's Add. -/
theorem h8p {w0 w : World} {A B C D E F : Asn} {R : List Asn} (h : SW w0 (A :: B :: C :: D :: E :: F :: R) w) : SW w0 (D :: A :: B :: E :: F :: R) w :=
  ((h.pick (i := 3) rfl)).sub (.cons_cons _ (.cons_cons _ (.cons_cons _ (.cons _ (List.Sublist.refl _)))))
set_option maxRecDepth 40000 in
set_option maxHeartbeats 8000000 in
theorem mAdd {w0 w : World} {b rb mb : Nat} {N : Int} {v1 v2 : Value} {S : Nat → Prop} {st : MS} {R : List Asn} {j : Nat} {e : En} (h : SW w0 (mL b rb mb N v1 v2 S st R) w) (hst : st.Ok N j) (hj : j ≤ 101) (hN : 1 ≤ N) (ha : AddM st N e) :
    Calls Tryz.prog 102 #[.pointer (some ⟨mb, 0, none⟩), enV e] w (MdP w0 b rb mb N (addM st e) R) := by
  obtain ⟨i0, hi, hz0, hz1, hz2⟩ := info_parts infoIten
  have H := Lib.hid h
  have hn : st.all.length ≤ 101 := Nat.le_trans hst.n hj
  have HOK := Lib.hid (addM_ok hst hj ha)
  have HB := Lib.hid hst.rows
  have HRX := Lib.hid (hst.rix hN (atM st e))
  have hlo := endL_nn st.all e.slot
  have hhi : endL st.all e.slot ≤ 7878 := HOK.out.2.2.2.2.2.2.2
  have HAM : Hid (addM st e = if dupM st e = true then st else ⟨addX st.X (atM st e), st.all ++ [atM st e], st.nx⟩) := Lib.hid rfl
  have HDV : Hid ((dupM st e = true → addE st.X (atM st e) = 6) ∧ (dupM st e = false → addE st.X (atM st e) = 0)) := Lib.hid ⟨HOK.out.1, HOK.out.2.1⟩
  have HLO : Hid (Low (atM st e).key ∧ En64 (atM st e)) := Lib.hid ⟨HOK.out.2.2.2.1, HOK.out.2.2.2.2.1⟩
  obtain ⟨am, ham⟩ : ∃ am, am = addM st e := ⟨_, rfl⟩
  obtain ⟨dv, hdv⟩ : ∃ dv, dv = dupM st e := ⟨_, rfl⟩
  obtain ⟨f, hf⟩ : ∃ f, f = atM st e := ⟨_, rfl⟩
  rw [← ham] at HAM ⊢
  rw [← hdv] at HAM HDV
  rw [← hf] at HAM HDV HLO HRX
  have HF : Hid (f = ⟨e.seq, e.key, e.del, e.slot, endL st.all e.slot, e.size⟩) := Lib.hid hf
  clear h hst ha HOK ham hdv hf
  obtain ⟨e0, e1, e2, e3, e4, e5⟩ := e
  obtain ⟨X, all, nx⟩ := st
  simp only [enV] at *
  go_enter Tryz.func102, Tryz.ntmps102
  go_upto_region 1 with fail
  obtain ⟨b3, hb3⟩ : ∃ q, q = w.heap.size := ⟨_, rfl⟩
  obtain ⟨w1, hw1⟩ : ∃ y, y = w.alloc (boxF ⟨e0, e1, e2, e3, e4, e5⟩) := ⟨_, rfl⟩
  have H1 : Hid (SW w0 (blkA b3 (boxF ⟨e0, e1, e2, e3, e4, e5⟩) :: mL b rb mb N v1 v2 S ⟨X, all, nx⟩ R) w1) := Lib.hid (by rw [hw1, hb3]; exact H.out.alloc _)
  simp only [boxF] at hw1
  rw [← hb3, ← hw1]
  clear hw1 hb3 H
  have d3 := (cellsOf (show w1.heap[b3]? = _ from H1.out.get (i := 0) rfl)).1
  have l3 := blkLt (show w1.heap[b3]? = _ from H1.out.get (i := 0) rfl)
  simp only [boxF] at d3
  have d33 : w1.cell? ⟨b3, 3, none⟩ = some (.int .i64 e3) := d3 3
  clear d3
  go_wp2_with fail
  refine (mEnd (H1.out.get (i := 4) rfl) (H1.out.get (i := 5) rfl) (show all.length ≤ 200 by omega) HB.out e3).mono ?_
  rintro r w2 ⟨rfl, hg⟩
  have H2 := Lib.hid (H1.out.gr hg)
  clear hg d33 l3 H1
  obtain ⟨_, f3⟩ := cellsOf (show w2.heap[b3]? = _ from H2.out.get (i := 0) rfl)
  have l3 := blkLt (show w2.heap[b3]? = _ from H2.out.get (i := 0) rfl)
  go_upto_region 2 with fail
  obtain ⟨w3, hw3⟩ : ∃ y, y = w2.setCell ⟨b3, 4, none⟩ (.int .i64 (endL all e3)) := ⟨_, rfl⟩
  have H3 : Hid (SW w0 (blkA b3 (boxF f) :: mL b rb mb N v1 v2 S ⟨X, all, nx⟩ R) w3) := Lib.hid (by
    rw [hw3, HF.out]
    exact H2.out.at (i := 0) rfl ((Mdh.refl (fun k => k = b3) w2).setCell (p := ⟨b3, 4, none⟩) rfl _) (fun k hk => .inl hk) (B := blkA b3 (boxF ⟨e0, e1, e2, e3, endL all e3, e5⟩)) (blkSet (j := 4) (H2.out.get (i := 0) rfl)) (fun k hk => .inl hk))
  rw [← hw3]
  clear hw3 l3 f3 H2 HF
  have H3p : Hid (SW w0 (rIx rb N v1 all (blkA b3 (boxF f) :: ixA b X S :: blkA mb (mdO b rb v2 nx) :: rowA 72 6 v2 all.length (rowE all) :: R)) w3) := Lib.hid ((H3.out.pick (i := 3) rfl).pick (i := 3) rfl)
  have d3 := (cellsOf (show w3.heap[b3]? = _ from H3.out.get (i := 0) rfl)).1
  (try simp only [boxF] at d3)
  have dm := (cellsOf (show w3.heap[mb]? = _ from H3.out.get (i := 4) rfl)).1
  have dm1 := (dm 1).trans (show _ = some (Value.pointer (some ⟨rb, 0, none⟩)) from rfl)
  have lrb := blkLt (show w3.heap[rb]? = _ from H3.out.get (i := 2) rfl)
  have hN1 : ¬ mb = rb := fun h => (H3.out.get_ne (i := 4) (j := 2) rfl rfl (by decide)) mb rfl h
  have hN2 : ¬ b3 = rb := fun h => (H3.out.get_ne (i := 0) (j := 2) rfl rfl (by decide)) b3 rfl h
  clear dm
  have HRA : Hid (Calls Tryz.prog 39 #[.pointer (some ⟨rb, 0, none⟩), enV f] w3.drew (RAddP w0 w3.drew rb N all (blkA b3 (boxF f) :: ixA b X S :: blkA mb (mdO b rb v2 nx) :: rowA 72 6 v2 all.length (rowE all) :: R) f)) := Lib.hid (rAdd f (H3p.out.gr (Gr.refl w3).drew) hN HB.out HLO.out.2.2.2 (by omega))
  have HRL : Hid (rAddL N all f = if rAddC N all f = 0 then all ++ [f] else all) := Lib.hid rfl
  obtain ⟨f0, f1, f2, f3, f4, f5⟩ := f
  simp only [enV] at HRA
  (try simp only at d3)
  clear H3 H3p
  refine wp_region_flo (fun k => k = rb) [] [] (by kernel_rfl) (by kernel_rfl) (fun k hk => by subst hk; exact lrb) ?_
  refine flo_seg 5 rfl ?_
  simp only [List.take_succ_cons, List.take_zero, List.drop_succ_cons, List.drop_zero]
  repeat (go_big_quiet_step (fail))
  refine wpQuiet_nil ?_
  refine flo_eff rfl rfl rfl rfl (fun K hK => ?_)
  go_wp2_with ((go_at_call 39; refine Calls.mono HRA.out ?_; rintro e' w4 ⟨rfl, hm, v1', hs⟩; have H4 := Lib.hid hs; have HM4 := Lib.hid hm; clear hs hm))
  refine ⟨by exact HM4.out.mono (fun k hk => .inl hk), ?_⟩
  refine flo_seg 1 rfl ?_
  simp only [List.take_succ_cons, List.take_zero, List.drop_succ_cons, List.drop_zero]
  repeat (go_big_quiet_step (fail))
  refine wpQuiet_nil ?_
  refine flo_nil ?_
  clear d3 dm1 hN1 hN2 lrb HRA HM4
  have HAD : ∀ {w' : World} {S' : Nat → Prop}, IXR w' b X S' → Calls Tryz.prog 38 #[.pointer (some ⟨b, 0, none⟩), enV ⟨f0, f1, f2, f3, f4, f5⟩] w' fun e' w'' => e' = .returned (.int .i64 (addE X ⟨f0, f1, f2, f3, f4, f5⟩)) ∧ IXPost b (addX X ⟨f0, f1, f2, f3, f4, f5⟩) S' w' w'' := fun h => Add_any h _ HLO.out.1 HLO.out.2
  cases dv with
  | true =>
    have hc6 := HDV.out.1 rfl
    have hc6' := HRX.out.trans hc6
    have HL6 : Hid (rAddL N all ⟨f0, f1, f2, f3, f4, f5⟩ = all) := Lib.hid (by rw [HRL.out, hc6', if_neg (by decide)])
    have HX6 : Hid (addX X ⟨f0, f1, f2, f3, f4, f5⟩ = X) := Lib.hid (addX_no (by rw [hc6]; decide))
    have HA6 : Hid (am = ⟨X, all, nx⟩) := Lib.hid (by rw [HAM.out, if_pos rfl])
    rw [HL6.out] at H4
    have HIX : IXR w4 b X S := H4.out.get (i := 3) rfl
    have HA := Lib.hid (HAD (HIX.gr (Gr.refl w4).drew))
    rw [hc6] at HA
    simp only [enV] at HA
    rw [hc6']
    have d3 := (cellsOf (show w4.heap[b3]? = _ from H4.out.get (i := 2) rfl)).1
    (try simp only [boxF] at d3)
    have dm0 := ((cellsOf (show w4.heap[mb]? = _ from H4.out.get (i := 4) rfl)).1 0).trans (show _ = some (Value.pointer (some ⟨b, 0, none⟩)) from rfl)
    have hN1 : ¬ S mb := fun h => (H4.out.get_ne (i := 3) (j := 4) rfl rfl (by decide)) mb h rfl
    have hN2 : ¬ S b3 := fun h => (H4.out.get_ne (i := 3) (j := 2) rfl rfl (by decide)) b3 h rfl
    have HSL := Lib.hid (fun k (hk : S k) => HIX.lt k hk)
    clear HIX hc6 hc6' HAD
    go_wp2_with fail
    refine wp_region_flo (S) [] [] (by kernel_rfl) (by kernel_rfl) (HSL.out) ?_
    refine flo_seg 5 rfl ?_
    simp only [List.take_succ_cons, List.take_zero, List.drop_succ_cons, List.drop_zero]
    repeat (go_big_quiet_step (fail))
    refine wpQuiet_nil ?_
    refine flo_eff rfl rfl rfl rfl (fun K hK => ?_)
    go_wp2_with ((go_at_call 38; refine Calls.mono HA.out ?_; rintro e' w8 ⟨rfl, S8, hI8, hm8, hn8⟩; rw [HX6.out] at hI8; have HI8 := Lib.hid hI8; have HM8 := Lib.hid hm8; have HN8 := Lib.hid hn8; clear hI8 hm8 hn8))
    refine ⟨by exact HM8.out.mono (fun k hk => .inl hk), ?_⟩
    refine flo_seg 2 rfl ?_
    simp only [List.take_succ_cons, List.take_zero, List.drop_succ_cons, List.drop_zero]
    repeat (go_big_quiet_step (fail))
    refine wpQuiet_nil ?_
    refine flo_nil ?_
    have H8 := (H4.out.gr (Gr.refl w4).drew).at (i := 3) rfl HM8.out (fun k hk => .inl hk) (B := ixA b X S8) HI8.out HN8.out
    have HE : Hid (SW w0 (mL b rb mb N v1' v2 S8 ⟨X, all, nx⟩ R) w8) := Lib.hid ((h8p H8))
    go_wp2_with fail
    go_ret
    exact ⟨rfl, v1', v2, S8, by rw [HA6.out]; exact HE.out⟩
  | false =>
    have hc0 := HDV.out.2 rfl
    have hc0' := HRX.out.trans hc0
    have HL6 : Hid (rAddL N all ⟨f0, f1, f2, f3, f4, f5⟩ = all ++ [⟨f0, f1, f2, f3, f4, f5⟩]) := Lib.hid (by rw [HRL.out, hc0', if_pos rfl])
    have HA6 : Hid (am = ⟨addX X ⟨f0, f1, f2, f3, f4, f5⟩, all ++ [⟨f0, f1, f2, f3, f4, f5⟩], nx⟩) := Lib.hid (by rw [HAM.out, if_neg (by decide)])
    rw [HL6.out] at H4
    rw [hc0'] 
    have HC0 := Lib.hid hc0
    have HAD2 := Lib.hid (fun (w' : World) (S' : Nat → Prop) (h : IXR w' b X S') => HAD h)
    have HO : Hid (Own w4 72 6 v2 all.length (rowE all)) := Lib.hid (show Own w4 72 6 v2 all.length (rowE all) from H4.out.get (i := 5) rfl)
    obtain ⟨a2, c2, rfl, hc2, hm2, _⟩ := ownE_at HO.out
    unfold maxLen at hm2
    have d3 := (cellsOf (show w4.heap[b3]? = _ from H4.out.get (i := 2) rfl)).1
    (try simp only [boxF] at d3)
    have dm2 := ((cellsOf (show w4.heap[mb]? = _ from H4.out.get (i := 4) rfl)).1 2).trans (show _ = some (Value.slice a2 all.length c2) from rfl)
    have hN1 : ¬ (Value.slice a2 all.length c2).ownBlock = some mb := fun h => (H4.out.get_ne (i := 5) (j := 4) rfl rfl (by decide)) mb h rfl
    have hN2 : ¬ (Value.slice a2 all.length c2).ownBlock = some b3 := fun h => (H4.out.get_ne (i := 5) (j := 2) rfl rfl (by decide)) b3 h rfl
    clear hc0 hc0' HAD
    go_wp2_with fail
    have HG := Gr.refl w4.drew
    refine wp_region_flt 8 (fun q => (Value.slice a2 all.length c2).ownBlock = some q) [] [] (by kernel_rfl) (by kernel_rfl) (by decide) (by kernel_rfl) (fun q hq => HO.out.lt hq) ?_
    simp only [List.take_succ_cons, List.take_zero, List.drop_succ_cons, List.drop_zero]
    refine flo_seg 6 rfl ?_
    simp only [List.take_succ_cons, List.take_zero, List.drop_succ_cons, List.drop_zero]
    repeat (go_big_quiet_step (fail))
    refine wpQuiet_nil ?_
    refine flo_eff rfl rfl rfl rfl (fun K hK => ?_)
    go_wp2
    refine ⟨by (first | (refine Gr.mdh ?_ _; (repeat (first | (with_reducible exact Gr.refl _) | assumption | (with_reducible apply Gr.from_drew) | (with_reducible apply Gr.alloc) | (with_reducible apply Gr.drew) | (with_reducible refine Gr.trans ?_ (by assumption)) | (with_reducible refine Gr.setCell ?_ (by omega) _))); done) | (repeat (first | (with_reducible exact Mdh.refl _ _) | (with_reducible refine Mdh.setCell ?_ (by simp) _) | (with_reducible refine Mdh.setNew ?_ (by simp) _) | (with_reducible apply Mdh.alloc) | (with_reducible apply Mdh.from_drew) | (with_reducible apply Mdh.drew) | (with_reducible refine Mdh.gr ?_ (by assumption))))), ?_⟩
    refine flo_eff rfl rfl rfl rfl (fun K hK => ?_)
    refine wp_appv _ (.tmp 28) (.tmp 30) 37 rfl 72 i0 _ 6 56 Tryz.underlying37 hi hz0 hz1 hz2 rfl (by decide) (Value.slice a2 all.length c2) all.length (rowE all) rfl (HO.out.gr (by (repeat (first | (with_reducible exact Gr.refl _) | assumption | (with_reducible apply Gr.from_drew) | (with_reducible apply Gr.alloc) | (with_reducible apply Gr.drew) | (with_reducible refine Gr.trans ?_ (by assumption)) | (with_reducible refine Gr.setCell ?_ (by omega) _))))) (some ⟨w4.heap.size, 0, none⟩) 1 1 (enC ⟨f0, f1, f2, f3, f4, f5⟩) rfl ((show SrcAt (w4.alloc (.cells #[.int .i64 f0, .string f1, .bool f2, .int .i64 f3, .int .i64 f4, .int .i64 f5] 72)) 6 (some ⟨w4.heap.size, 0, none⟩) 1 (enC ⟨f0, f1, f2, f3, f4, f5⟩) from src_newK w4 (enC ⟨f0, f1, f2, f3, f4, f5⟩) _ 6 rfl (enC_one ⟨f0, f1, f2, f3, f4, f5⟩)).gr (by (repeat (first | (with_reducible exact Gr.refl _) | assumption | (with_reducible apply Gr.from_drew) | (with_reducible apply Gr.alloc) | (with_reducible apply Gr.drew) | (with_reducible refine Gr.trans ?_ (by assumption)) | (with_reducible refine Gr.setCell ?_ (by omega) _))))) (by simp only [maxLen]; omega) (by omega) (fun v3 xa hk3 => ?_); obtain ⟨a3, c3, rfl⟩ := hk3.val; refine hK _ _ ⟨hk3.mdh (fun q hq => .inl hq), ?_⟩; simp only [Act.put, List.setIfInBounds_toArray, List.set_cons_succ, List.set_cons_zero]
    refine flo_nil ?_
    have H5 : Hid (SW w0 (rIx rb N v1' (all ++ [⟨f0, f1, f2, f3, f4, f5⟩]) (blkA b3 (boxF ⟨f0, f1, f2, f3, f4, f5⟩) :: ixA b X S :: blkA mb (mdO b rb (.slice a2 all.length c2) nx) :: rowA 72 6 (.slice a3 (all.length + 1) c3) (all ++ [(⟨f0, f1, f2, f3, f4, f5⟩ : En)]).length (rowE (all ++ [(⟨f0, f1, f2, f3, f4, f5⟩ : En)])) :: R)) xa) := Lib.hid ((H4.out.gr (((Gr.refl w4).alloc _).drew)).at (i := 5) rfl (hk3.mdh (fun g h => h)) (fun k hk => .inl hk) (B := rowA 72 6 (.slice a3 (all.length + 1) c3) (all ++ [(⟨f0, f1, f2, f3, f4, f5⟩ : En)]).length (rowE (all ++ [(⟨f0, f1, f2, f3, f4, f5⟩ : En)]))) (by
      show Own _ _ _ _ _ _
      rw [rowE_snoc, List.length_append]
      exact hk3.1) (fun k hq => hk3.2.1 k hq))
    have hbm : xa.heap[mb]? = some (mdO b rb (.slice a2 all.length c2) nx) := H5.out.get (i := 4) rfl
    have H6 : Hid (SW w0 (rIx rb N v1' (all ++ [⟨f0, f1, f2, f3, f4, f5⟩]) (blkA b3 (boxF ⟨f0, f1, f2, f3, f4, f5⟩) :: ixA b X S :: blkA mb (mdO b rb (.slice a3 (all.length + 1) c3) nx) :: rowA 72 6 (.slice a3 (all.length + 1) c3) (all ++ [(⟨f0, f1, f2, f3, f4, f5⟩ : En)]).length (rowE (all ++ [(⟨f0, f1, f2, f3, f4, f5⟩ : En)])) :: R)) (xa.setCell ⟨mb, 2, none⟩ (.slice a3 (all.length + 1) c3))) := Lib.hid (H5.out.at (i := 4) rfl ((Mdh.refl (fun k => k = mb) xa).setCell (p := ⟨mb, 2, none⟩) rfl _) (fun k hk => .inl hk) (B := blkA mb (mdO b rb (.slice a3 (all.length + 1) c3) nx)) (blkSet (j := 2) hbm) (fun k hk => .inl hk))
    obtain ⟨_, fm⟩ := cellsOf hbm
    have lm := blkLt hbm
    obtain ⟨w6, hw6⟩ : ∃ y, y = xa.setCell ⟨mb, 2, none⟩ (.slice a3 (all.length + 1) c3) := ⟨_, rfl⟩
    rw [← hw6] at H6
    clear hbm hk3 HG d3 dm2 hN1 hN2 hc2 hm2
    go_upto_region 5 with fail
    rw [← hw6]
    clear hw6 fm lm H5 H4 HO
    have HIX : IXR w6 b X S := H6.out.get (i := 3) rfl
    have HA := Lib.hid (HAD2.out _ _ (HIX.gr (Gr.refl w6).drew))
    rw [HC0.out] at HA
    simp only [enV] at HA
    have d3 := (cellsOf (show w6.heap[b3]? = _ from H6.out.get (i := 2) rfl)).1
    (try simp only [boxF] at d3)
    have dm0 := ((cellsOf (show w6.heap[mb]? = _ from H6.out.get (i := 4) rfl)).1 0).trans (show _ = some (Value.pointer (some ⟨b, 0, none⟩)) from rfl)
    have hN1 : ¬ S mb := fun h => (H6.out.get_ne (i := 3) (j := 4) rfl rfl (by decide)) mb h rfl
    have hN2 : ¬ S b3 := fun h => (H6.out.get_ne (i := 3) (j := 2) rfl rfl (by decide)) b3 h rfl
    have HSL := Lib.hid (fun k (hk : S k) => HIX.lt k hk)
    clear HIX
    refine wp_region_flo (S) [] [] (by kernel_rfl) (by kernel_rfl) (HSL.out) ?_
    refine flo_seg 5 rfl ?_
    simp only [List.take_succ_cons, List.take_zero, List.drop_succ_cons, List.drop_zero]
    repeat (go_big_quiet_step (fail))
    refine wpQuiet_nil ?_
    refine flo_eff rfl rfl rfl rfl (fun K hK => ?_)
    go_wp2_with ((go_at_call 38; refine Calls.mono HA.out ?_; rintro e' w8 ⟨rfl, S8, hI8, hm8, hn8⟩; have HI8 := Lib.hid hI8; have HM8 := Lib.hid hm8; have HN8 := Lib.hid hn8; clear hI8 hm8 hn8))
    refine ⟨by exact HM8.out.mono (fun k hk => .inl hk), ?_⟩
    refine flo_seg 2 rfl ?_
    simp only [List.take_succ_cons, List.take_zero, List.drop_succ_cons, List.drop_zero]
    repeat (go_big_quiet_step (fail))
    refine wpQuiet_nil ?_
    refine flo_nil ?_
    have H8 := (H6.out.gr (Gr.refl w6).drew).at (i := 3) rfl HM8.out (fun k hk => .inl hk) (B := ixA b (addX X ⟨f0, f1, f2, f3, f4, f5⟩) S8) HI8.out HN8.out
    have HE : Hid (SW w0 (mL b rb mb N v1' (.slice a3 (all.length + 1) c3) S8 ⟨addX X ⟨f0, f1, f2, f3, f4, f5⟩, all ++ [⟨f0, f1, f2, f3, f4, f5⟩], nx⟩ R) w8) := Lib.hid (h8p H8)
    go_wp2_with fail
    go_ret
    exact ⟨rfl, v1', .slice a3 (all.length + 1) c3, S8, by rw [HA6.out]; exact HE.out⟩
end Go.Proofs.YtanmmnomagfkhaaGreat

/- drumlinlaw22's Made: Names, Begin. -/
set_option linter.unusedVariables false
set_option linter.unusedSimpArgs false
namespace Go.Proofs.YtanmmnomagfkhaaGreat
open Go.RowKit Go.Shelf
attribute [local go_sem] OvM cell_ovm obj_ovm
attribute [local go_sem] Oper.semAt_some

abbrev nmO : Obj := .cells #[.string ⟨#[97]⟩, .string ⟨#[98]⟩, .string ⟨#[97, 98]⟩, .string ⟨#[107, 49]⟩, .string ⟨#[120, 46, 121]⟩, .string ⟨#[122, 122]⟩] 9
theorem nm_get (n : Int) (κ : Nat) (h : n % 6 = (κ : Int)) (hk : κ < 6) : (#[.string ⟨#[97]⟩, .string ⟨#[98]⟩, .string ⟨#[97, 98]⟩, .string ⟨#[107, 49]⟩, .string ⟨#[120, 46, 121]⟩, .string ⟨#[122, 122]⟩] : Array Value)[κ]? = some (.string (tnKey n)) := by
  unfold tnKey
  rw [h]
  have h' : κ = 0 ∨ κ = 1 ∨ κ = 2 ∨ κ = 3 ∨ κ = 4 ∨ κ = 5 := by omega
  rcases h' with rfl | rfl | rfl | rfl | rfl | rfl <;> rfl
set_option maxRecDepth 40000 in
theorem Names_any (w : World) : Calls Tryz.prog 101 #[] w fun e w' => e = .returned (.slice (some ⟨w.heap.size, 0, none⟩) 6 6) ∧ w' = w.alloc nmO := by
  go_enter Tryz.func101, Tryz.ntmps101
  go_wp2
  go_ret
  exact ⟨rfl, rfl⟩
def BegP (w0 : World) (n : Nat) (R : List Asn) (r : Ending) (w' : World) : Prop := ∃ b rb mb v1 v2 S, r = .returned (.tuple #[.pointer (some ⟨mb, 0, none⟩), .bool true]) ∧ SW w0 (mL b rb mb n v1 v2 S (foldM n []) R) w'
set_option maxRecDepth 40000 in
set_option maxHeartbeats 4000000 in
theorem Begin_any {w0 w : World} {R : List Asn} (h : SW w0 R w) (n : Nat) (h1 : 1 ≤ n) (h2 : n ≤ 32) : Calls Tryz.prog 11 #[.int .i64 n] w (BegP w0 n R) := by
  have H := Lib.hid h
  clear h
  go_enter Tryz.func11, Tryz.ntmps11
  go_wp2_with fail
  refine (New_any n w h1 h2).mono ?_
  rintro e w1 ⟨b, S, rfl, i1, i2, i3⟩
  have H1 : Hid (SW w0 (ixA b (ixNew n) S :: R) w1) := Lib.hid (H.out.ixnew i1 i2 i3)
  clear i1 i2 i3
  go_wp2_with fail
  refine (rNew n h1 h2 w1).mono ?_
  rintro e w2 ⟨rfl, rfl⟩
  obtain ⟨rb, hrb⟩ : ∃ q, q = w1.heap.size := ⟨_, rfl⟩
  obtain ⟨w2, hw2⟩ : ∃ y, y = w1.alloc (rmO n (.slice none 0 0)) := ⟨_, rfl⟩
  have H2 : Hid (SW w0 (blkA rb (rmO n (.slice none 0 0)) :: ixA b (ixNew n) S :: R) w2) := Lib.hid (by rw [hrb, hw2]; exact H1.out.alloc _)
  rw [← hrb, ← hw2]
  clear hrb hw2 H1
  go_wp2
  have H3 := H2.out.alloc (mdO b rb (.slice none 0 0) 1)
  have n1 : Own (w2.alloc (mdO b rb (.slice none 0 0) 1)) 72 6 (.slice none 0 0) 0 [] := nilRow _ _ _
  have H4 := (H3.new (Gr.refl _) (A := rowA 72 6 (.slice none 0 0) 0 []) n1 (fun k hk => by cases hk)).new (Gr.refl _) (A := rowA 72 6 (.slice none 0 0) 0 []) n1 (fun k hk => by cases hk)
  go_ret2
  refine ⟨b, rb, w2.heap.size, .slice none 0 0, .slice none 0 0, S, rfl, ?_⟩
  exact (((H4.pick (i := 2) rfl).pick (i := 2) rfl).pick (i := 3) rfl).pick (i := 4) rfl
end Go.Proofs.YtanmmnomagfkhaaGreat
