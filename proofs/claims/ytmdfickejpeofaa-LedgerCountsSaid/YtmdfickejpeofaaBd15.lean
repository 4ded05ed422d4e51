/- drumlinref21's Slot, Newest, Last: what they answer of an index that was made. -/
import Derived.Test.YtmdfickejpeofaaBd14
import Derived.Test.YtmdfickejpeofaaBd11
set_option linter.unusedVariables false
set_option linter.unusedSimpArgs false
namespace Go.Proofs.Ytmdfickejpeofaa
open Go.RowKit Go.Shelf
attribute [local go_sem] OvM cell_ovm obj_ovm
attribute [local go_sem] Oper.semAt_some

/-- Where the search through a slot stands: m are out, the others lie at off or behind. -/
def slI (L : List En) (m : Nat) (off : Int) : Prop := m ≤ L.length ∧ (∀ j x, j < m → L[j]? = some x → x.off + x.size ≤ off) ∧ ∀ j x, m ≤ j → L[j]? = some x → off ≤ x.off
theorem valid_nums {e : En} (h : validE e = true) : 0 ≤ e.off ∧ 16 ≤ e.size ∧ e.size ≤ 8192 ∧ e.off ≤ 8192 - e.size := by
  simp only [validE, decide_eq_true_eq] at h
  omega
theorem slI_zero {L : List En} {s : Int} (h : SlotOk s L) : slI L 0 0 :=
  ⟨Nat.zero_le _, fun j x hj => absurd hj (Nat.not_lt_zero j), fun j x _ hx => (valid_nums (h.e x (List.mem_of_getElem? hx)).2).1⟩
theorem slI_no {L : List En} {m : Nat} {off : Int} (h : slI L m off) (hn : ∀ x ∈ L, x.off ≠ off) : slI L m (off + 1) := by
  obtain ⟨h1, h2, h3⟩ := h
  refine ⟨h1, fun j x hj hx => ?_, fun j x hj hx => ?_⟩
  · have := h2 j x hj hx; omega
  · have := h3 j x hj hx
    have := hn x (List.mem_of_getElem? hx)
    omega
theorem slI_yes {L : List En} {s : Int} (hs : SlotOk s L) {m : Nat} {off : Int} (h : slI L m off) {x : En} (hx : x ∈ L) (he : x.off = off) : L[m]? = some x ∧ slI L (m + 1) (off + x.size) := by
  obtain ⟨h1, h2, h3⟩ := h
  obtain ⟨j, hj⟩ := List.mem_iff_getElem?.1 hx
  have hjl := (List.getElem?_eq_some_iff.1 hj).1
  have hv := valid_nums (hs.e x hx).2
  have hjm : m ≤ j := by
    rcases Nat.lt_or_ge j m with h | h
    · have := h2 j x h hj; omega
    · exact h
  have hjm2 : j = m := by
    rcases Nat.eq_or_lt_of_le hjm with h | h
    · exact h.symm
    · have hml : m < L.length := by omega
      have h4 := h3 m _ (Nat.le_refl _) (List.getElem?_eq_getElem hml)
      have h5 := List.pairwise_iff_getElem.1 hs.p m j hml hjl h
      have h6 := valid_nums (hs.e _ (List.getElem_mem hml)).2
      have h7 : L[j] = x := by rw [List.getElem?_eq_getElem hjl] at hj; exact Option.some.inj hj
      rw [h7] at h5
      omega
  subst hjm2
  refine ⟨hj, by omega, fun i y hi hy => ?_, fun i y hi hy => ?_⟩
  · rcases Nat.lt_or_ge i j with h | h
    · have := h2 i y h hy; omega
    · obtain rfl : i = j := by omega
      rw [hj] at hy
      obtain rfl := Option.some.inj hy
      omega
  · have hil := (List.getElem?_eq_some_iff.1 hy).1
    have h5 := List.pairwise_iff_getElem.1 hs.p j i hjl hil (by omega)
    have h7 : L[j] = x := by rw [List.getElem?_eq_getElem hjl] at hj; exact Option.some.inj hj
    have h8 : L[i] = y := by rw [List.getElem?_eq_getElem hil] at hy; exact Option.some.inj hy
    rw [h7, h8] at h5
    omega
theorem slI_end {L : List En} {s : Int} (hs : SlotOk s L) {m : Nat} {off : Int} (h : slI L m off) (he : 8192 ≤ off) : L.take m = L := by
  obtain ⟨h1, h2, h3⟩ := h
  have : m = L.length := by
    rcases Nat.eq_or_lt_of_le h1 with h | h
    · exact h
    · have h4 := h3 m _ (Nat.le_refl _) (List.getElem?_eq_getElem h)
      have h6 := valid_nums (hs.e _ (List.getElem_mem h)).2
      omega
  rw [this, List.take_length]
def SlP (X : IX) (s : Int) (w : World) (e : Ending) (w' : World) : Prop := ∃ v, e = .returned v ∧ Nw w w' 53 6 v (X.slot s).length (rowE (X.slot s)) ∧ Gr w w'
set_option maxRecDepth 40000 in
set_option maxHeartbeats 8000000 in
theorem rSlot_any {w : World} {rb : Nat} {N : Int} {v : Value} {all : List En} {X : IX} (h : w.heap[rb]? = some (rmO N v)) (hN : 0 < N) (ho : Own w 53 6 v all.length (rowE all)) (hw : X.Wf) (hp : all.Perm X.ents) (h1000 : all.length ≤ 1000) (s : Int) :
    Calls Try.prog 91 #[.pointer (some ⟨rb, 0, none⟩), .int .i64 s] w (SlP X s w) := by
  have HB := Lib.hid h
  have HO := Lib.hid ho
  have HV := Lib.hid (fun W (g : Gr w W) => rvalid (g.blk h) hN)
  have HIN := Lib.hid (fun x (hx : x ∈ all) (hs : x.slot = s) => (hw.slot_mem s x).2 ⟨hp.mem_iff.1 hx, hs⟩)
  have HOUT := Lib.hid (fun x (hx : x ∈ X.slot s) => (show x ∈ all ∧ x.slot = s from ⟨hp.mem_iff.2 ((hw.slot_mem s x).1 hx).1, ((hw.slot_mem s x).1 hx).2⟩))
  have HSO := Lib.hid (hw.slotOk s)
  have HSL := Lib.hid (hw.slot_le s)
  have HP : Hid (∀ v w', Nw w w' 53 6 v (X.slot s).length (rowE (X.slot s)) → Gr w w' → SlP X s w (.returned v) w') := Lib.hid (fun v w' h g => ⟨v, rfl, h, g⟩)
  generalize SlP X s w = PP at *
  generalize X.slot s = L at *
  obtain ⟨a, c, rfl, hc, hm, _⟩ := ownE_at ho
  unfold maxLen at hm
  obtain ⟨i0, hi, hz0, hz1, hz2⟩ := info_parts infoIten
  clear h ho hw hp
  go_enter Try.func91, Try.ntmps91
  go_wp2_with (go_at_call 85; refine Calls.mono (HV.out _ (Gr.refl _)) ?_; rintro e w1 ⟨rfl, rfl⟩)
  go_loopw [5, 6] (fun t5 t6 wx => ∃ (m : Nat) (off : Int) (v : Value), v = t5 ∧ t6 = .int .i64 off ∧ 0 ≤ off ∧ off ≤ 8192 ∧ Hid (slI L m off ∧ Nw w wx 53 6 v (L.take m).length (rowE (L.take m)) ∧ Gr w wx)) (fun _ t6 _ => (8192 - intOf t6).toNat)
  case atStart => exact ⟨0, 0, _, rfl, by go_num, by omega, by omega, Lib.hid ⟨slI_zero HSO.out, Nw.nil w _ _, Gr.refl _⟩⟩
  case round =>
    obtain ⟨m, off, v, rfl, rfl, ho0, ho1, HI⟩ := hrel
    by_cases hoff : off < 8192
    · go_wp2_with fail
      go_loopw [5, 6, 7] (fun t5 t6 t7 wx => (∃ i : Nat, i ≤ all.length ∧ t7 = .int .i64 i ∧ v = t5 ∧ t6 = .int .i64 off ∧ Hid ((∀ x ∈ all.take i, x.slot = s → x.off ≠ off) ∧ Gr wr wx)) ∨ (∃ (v' : Value) (off' : Int), t7 = .int .i64 ((all.length : Int) + 1) ∧ v' = t5 ∧ t6 = .int .i64 off' ∧ off ≤ off' ∧ off' < 8192 ∧ Hid (slI L (m + 1) (off' + 1) ∧ Nw w wx 53 6 v' (L.take (m + 1)).length (rowE (L.take (m + 1))) ∧ Gr w wx))) (fun _ _ t7 _ => all.length - (intOf t7).toNat)
      case atStart => exact .inl ⟨0, by omega, by go_num, rfl, rfl, Lib.hid ⟨by simp, Gr.refl _⟩⟩
      case round =>
        rcases hrel with ⟨i, hil, rfl, rfl, rfl, HS⟩ | ⟨v', off', rfl, rfl, rfl, h1, h2, HS⟩
        · have c1 := ((cellsOf ((HI.out.2.2.trans HS.out.2).blk HB.out)).1 1).trans (show _ = some (Value.slice a all.length c) from rfl)
          by_cases hlt : i < all.length
          · have hlt' : (i : Int) < all.length := by omega
            obtain ⟨x, hx⟩ : ∃ x, all[i]? = some x := ⟨_, List.getElem?_eq_getElem hlt⟩
            obtain ⟨g0, rfl, hg0, y0, y1, y2, y3, y4, y5⟩ := ent6 (HO.out.gr (HI.out.2.2.trans HS.out.2)) hx
            have HTK : Hid (¬ (x.slot = s ∧ x.off = off) → ∀ y ∈ all.take (i + 1), y.slot = s → y.off ≠ off) := Lib.hid (fun hn y hy => by
              rw [List.take_add_one, hx] at hy
              rcases List.mem_append.1 hy with h | h
              · exact HS.out.1 y h
              · obtain rfl : y = x := by simpa using h
                exact fun h1 h2 => hn ⟨h1, h2⟩)
            have HYE : Hid (x.slot = s → x.off = off → (16 ≤ x.size ∧ x.size ≤ 8192 ∧ x.off ≤ 8192 - x.size) ∧ L[m]? = some x ∧ slI L (m + 1) (off + x.size)) := Lib.hid (fun h1 h2 => by
              have hxL := HIN.out x (List.mem_of_getElem? hx) h1
              exact ⟨(valid_nums (HSO.out.e x hxL).2).2, slI_yes HSO.out HI.out.1 hxL h2⟩)
            have HX5 := Lib.hid (fun W (g : Gr w W) => (ent6g (HO.out.gr g) hx).2.2.2.2.2.2)
            clear hx
            by_cases h1 : x.slot = s
            · by_cases h2 : x.off = off
              · obtain ⟨⟨hs1, hs2, hs3⟩, hLm, hsl⟩ := HYE.out h1 h2
                have HLT : Hid (L.take (m + 1) = L.take m ++ [x]) := Lib.hid (by rw [List.take_add_one, hLm]; rfl)
                have hlm : (L.take m).length ≤ 512 := Nat.le_trans (by rw [List.length_take]; omega) HSL.out
                have HSI := Lib.hid hsl
                clear hLm hsl HYE HTK
                obtain ⟨x0, x1, x2, x3, x4, x5⟩ := x
                simp only at y0 y1 y2 y3 y4 y5 h1 h2 hs1 hs2 hs3 HSI HX5
                subst h1 h2
                generalize L.take m = out at *
                go_wp2_with (first
                  | (at_builtin; go_must (refine wpList_appv _ rfl (.tmp 46) (.tmp 54) 45 rfl 53 i0 _ 6 56 Try.underlying45 hi hz0 hz1 hz2 rfl (by decide) v out.length (rowE out) rfl ((HI.out.2.1.own.gr HS.out.2).gr (by (repeat (first | (with_reducible exact Gr.refl _) | assumption | (with_reducible apply Gr.from_drew) | (with_reducible apply Gr.alloc) | (with_reducible apply Gr.drew) | (with_reducible refine Gr.trans ?_ (by assumption)) | (with_reducible refine Gr.setCell ?_ (by omega) _))))) (some ⟨wr.heap.size, 0, none⟩) 1 1 (enC ⟨x0, x1, x2, x3, x4, x5⟩) rfl (src_newK wr (enC ⟨x0, x1, x2, x3, x4, x5⟩) _ 6 rfl (enC_one _)) (by simp only [maxLen]; omega) (by omega) ?_); intro v3 w6 hA; have N6 := Lib.hid (hA.nw ((HI.out.2.1.gr HS.out.2).gr ((Gr.refl wr).alloc _)) (by have h1 := HI.out.2.2.sz; have h2 := HS.out.2.sz; simp; omega)); have HG6 := Lib.hid (hA.gw ((HI.out.2.1.gr HS.out.2).gr ((Gr.refl wr).alloc _)) ((HI.out.2.2.trans HS.out.2).alloc _)); have y56 := HX5.out _ HG6.out; have c16 := ((cellsOf (HG6.out.blk HB.out)).1 1).trans (show _ = some (Value.slice (some ⟨g0, 0, none⟩) all.length c) from rfl); clear hA)
                  | fail)
                have N7 : Hid (Nw w w6 53 6 v3 (L.take (m + 1)).length (rowE (L.take (m + 1)))) := Lib.hid (by rw [HLT.out, List.length_append, rowE_snoc]; exact N6.out)
                have HSJ : Hid (slI L (m + 1) (x4 + x5 - 1 + 1)) := Lib.hid (by rw [show x4 + x5 - 1 + 1 = x4 + x5 by omega]; exact HSI.out)
                go_roundw
                case rel => exact .inr ⟨v3, x4 + x5 - 1, by go_num, rfl, by go_num, by omega, by omega, Lib.hid ⟨HSJ.out, N7.out, HG6.out⟩⟩
                case measure => simp [intOf]; omega
              · have hn : ¬ (x.slot = s ∧ x.off = off) := fun h => h2 h.2
                have HN := Lib.hid (HTK.out hn)
                clear HTK HYE hn
                obtain ⟨x0, x1, x2, x3, x4, x5⟩ := x
                simp only at y0 y1 y2 y3 y4 y5 h1 h2
                have d1 : (x3 == s) = true := beq_iff_eq.2 h1
                have d2 : (x4 == off) = false := beq_false_of_ne h2
                clear h1 h2
                go_wp2_with fail
                go_roundw
                case rel => exact .inl ⟨i + 1, by omega, by go_num, rfl, rfl, Lib.hid ⟨HN.out, HS.out.2⟩⟩
                case measure => simp [intOf]; omega
            · have hn : ¬ (x.slot = s ∧ x.off = off) := fun h => h1 h.1
              have HN := Lib.hid (HTK.out hn)
              clear HTK HYE hn
              obtain ⟨x0, x1, x2, x3, x4, x5⟩ := x
              simp only at y0 y1 y2 y3 y4 y5 h1
              have d1 : (x3 == s) = false := beq_false_of_ne h1
              clear h1
              go_wp2_with fail
              go_roundw
              case rel => exact .inl ⟨i + 1, by omega, by go_num, rfl, rfl, Lib.hid ⟨HN.out, HS.out.2⟩⟩
              case measure => simp [intOf]; omega
          · have hlt' : ¬ (i : Int) < all.length := by omega
            obtain rfl : i = all.length := by omega
            have HJ : Hid (slI L m (off + 1)) := Lib.hid (slI_no HI.out.1 (fun x hx => HS.out.1 x (by rw [List.take_length]; exact (HOUT.out x hx).1) (HOUT.out x hx).2))
            have HNW := Lib.hid (HI.out.2.1.gr HS.out.2)
            have HGW := Lib.hid (HI.out.2.2.trans HS.out.2)
            clear HI HS
            go_wp2_with fail
            go_roundw
            case rel => exact ⟨m, off + 1, v, rfl, by go_num, by omega, by omega, Lib.hid ⟨HJ.out, HNW.out, HGW.out⟩⟩
            case measure => simp [intOf]; omega
        · have c1 := ((cellsOf (HS.out.2.2.blk HB.out)).1 1).trans (show _ = some (Value.slice a all.length c) from rfl)
          have hlt' : ¬ ((all.length : Int) + 1) < all.length := by omega
          clear HI
          go_wp2_with fail
          go_roundw
          case rel => exact ⟨m + 1, off' + 1, v', rfl, by go_num, by omega, by omega, Lib.hid HS.out⟩
          case measure => simp [intOf]; omega
    · have HE : Hid (PP (.returned v) wr) := Lib.hid (HP.out v wr (by have h := HI.out.2.1; rw [slI_end HSO.out HI.out.1 (by omega)] at h; exact h) HI.out.2.2)
      go_wp2_with fail
      exact HE.out
end Go.Proofs.Ytmdfickejpeofaa

/- What drumlinref21's functions answer of a pointer to an index, made or not: Slots, Slot, Of, Newest, Len. -/
set_option linter.unusedVariables false
set_option linter.unusedSimpArgs false
namespace Go.Proofs.Ytmdfickejpeofaa
open Go.RowKit Go.Shelf
attribute [local go_sem] OvM cell_ovm obj_ovm
attribute [local go_sem] Oper.semAt_some

/-- A reference index that was made, in block rb. -/
def RPa (w : World) (rb : Nat) (X : IX) : Prop := ∃ v all, w.heap[rb]? = some (rmO X.slots.length v) ∧ X.slots ≠ [] ∧ Own w 53 6 v all.length (rowE all) ∧ X.Wf ∧ all.Perm X.ents ∧ all.length ≤ 1000
/-- A pointer to a reference index, made or nil. -/
def RP (w : World) (p : Option Addr) (X : IX) : Prop := (p = none ∧ X = ⟨[], []⟩) ∨ ∃ rb, p = some ⟨rb, 0, none⟩ ∧ RPa w rb X
theorem RPa.gr {w w' : World} {rb : Nat} {X : IX} (h : RPa w rb X) (g : Gr w w') : RPa w' rb X := by
  obtain ⟨v, all, h1, h2, h3, h4⟩ := h
  exact ⟨v, all, g.blk h1, h2, h3.gr g, h4⟩
theorem RP.gr {w w' : World} {p : Option Addr} {X : IX} (h : RP w p X) (g : Gr w w') : RP w' p X := h.imp (fun h => h) (fun ⟨rb, e, h⟩ => ⟨rb, e, h.gr g⟩)
theorem RPa.pos {w : World} {rb : Nat} {X : IX} (h : RPa w rb X) : (0 : Int) < X.slots.length := by
  obtain ⟨v, all, h1, h2, _⟩ := h
  have := List.length_pos_iff.2 h2
  omega
theorem RP.ok {w : World} {p : Option Addr} {X : IX} (h : RP w p X) : X.Wf := by
  rcases h with ⟨_, rfl⟩ | ⟨rb, _, v, all, _, _, _, h, _⟩
  · exact none_wf
  · exact h
theorem slot_no0 (s : Int) : (⟨[], []⟩ : IX).slot s = [] := by simp [IX.slot]
theorem of_no0 (k : ByteArray) : (⟨[], []⟩ : IX).of k = [] := rfl
theorem rvalid_no (w : World) : Calls Try.prog 85 #[.pointer none] w fun e w' => e = .returned (.bool false) ∧ w = w' := by
  go_enter Try.func85, Try.ntmps85
  go_wp2
  go_ret
  exact ⟨rfl, rfl⟩
theorem rpSlots {w : World} {p : Option Addr} {X : IX} (h : RP w p X) : Calls Try.prog 90 #[.pointer p] w fun e w' => e = .returned (.int .i64 X.slots.length) ∧ w = w' := by
  rcases h with ⟨rfl, rfl⟩ | ⟨rb, rfl, h⟩
  · go_enter Try.func90, Try.ntmps90
    go_wp2_with (go_at_call 85; refine Calls.mono (rvalid_no _) ?_; rintro e w1 ⟨rfl, rfl⟩)
    go_ret
    exact ⟨rfl, rfl⟩
  · have hN := h.pos
    obtain ⟨v, all, h1, _⟩ := h
    exact rSlots h1 hN
theorem rpOf {w : World} {p : Option Addr} {X : IX} (h : RP w p X) (k : ByteArray) : Calls Try.prog 108 #[.pointer p, .string k] w (OfP X k w) := by
  rcases h with ⟨rfl, rfl⟩ | ⟨rb, rfl, h⟩
  · have HE : Hid (∀ W, Gr w W → OfP ⟨[], []⟩ k w (.returned (.slice none 0 0)) W) := Lib.hid (fun W g => ⟨_, rfl, (Nw.nil w _ _).gr g, g⟩)
    generalize OfP ⟨[], []⟩ k w = Q at *
    go_enter Try.func108, Try.ntmps108
    go_wp2_with (go_at_call 85; refine Calls.mono (rvalid_no _) ?_; rintro e w1 ⟨rfl, rfl⟩)
    go_loopw [5, 6] (fun t5 t6 wx => t5 = .slice none 0 0 ∧ t6 = .slice none 0 0 ∧ Gr w wx) (fun _ t6 _ => match t6 with | .slice _ m _ => m | _ => 0)
    case atStart => exact ⟨rfl, rfl, by (repeat (first | (with_reducible exact Gr.refl _) | assumption | (with_reducible apply Gr.from_drew) | (with_reducible apply Gr.alloc) | (with_reducible apply Gr.drew) | (with_reducible refine Gr.trans ?_ (by assumption)) | (with_reducible refine Gr.setCell ?_ (by omega) _)))⟩
    case round =>
      obtain ⟨rfl, rfl, hg⟩ := hrel
      go_wp2_with fail
      exact HE.out _ hg
  · have hN := h.pos
    obtain ⟨v, all, h1, _, h3, h4, h5, h6⟩ := h
    exact rOf_any h1 hN h3 h4 h5 h6 k
theorem rpSlot {w : World} {p : Option Addr} {X : IX} (h : RP w p X) (s : Int) : Calls Try.prog 91 #[.pointer p, .int .i64 s] w (SlP X s w) := by
  rcases h with ⟨rfl, rfl⟩ | ⟨rb, rfl, h⟩
  · have HE : Hid (SlP ⟨[], []⟩ s w (.returned (.slice none 0 0)) w) := Lib.hid ⟨_, rfl, by rw [slot_no0]; exact Nw.nil w _ _, Gr.refl w⟩
    generalize SlP ⟨[], []⟩ s w = Q at *
    go_enter Try.func91, Try.ntmps91
    go_wp2_with (go_at_call 85; refine Calls.mono (rvalid_no _) ?_; rintro e w1 ⟨rfl, rfl⟩)
    exact HE.out
  · have hN := h.pos
    obtain ⟨v, all, h1, _, h3, h4, h5, h6⟩ := h
    exact rSlot_any h1 hN h3 h4 h5 h6 s
theorem Gr.cell6 {w w' : World} (g : Gr w w') {b : Nat} (h : w.heap.size ≤ b) (u0 u1 u2 u3 u4 u5 : Value) : Gr w ((((((w'.setCell ⟨b, 0, none⟩ u0).setCell ⟨b, 1, none⟩ u1).setCell ⟨b, 2, none⟩ u2).setCell ⟨b, 3, none⟩ u3).setCell ⟨b, 4, none⟩ u4).setCell ⟨b, 5, none⟩ u5) :=
  (g.cell5 h u0 u1 u2 u3 u4).setCell (p := ⟨b, 5, none⟩) h u5
set_option maxRecDepth 40000 in
set_option maxHeartbeats 4000000 in
theorem rpNewest {w : World} {p : Option Addr} {X : IX} (h : RP w p X) (k : ByteArray) : Calls Try.prog 107 #[.pointer p, .string k] w fun e w' => e = .returned (newV (X.of k)) ∧ Gr w w' := by
  have H := Lib.hid h
  clear h
  obtain ⟨w0, hw0⟩ : ∃ y, y = w.alloc (.cells #[.int .i64 0, .string ⟨#[]⟩, .bool false, .int .i64 0, .int .i64 0, .int .i64 0] 53) := ⟨_, rfl⟩
  obtain ⟨b4, hb4⟩ : ∃ q, q = w.heap.size := ⟨_, rfl⟩
  have HG0 : Hid (Gr w w0) := Lib.hid (by rw [hw0]; exact (Gr.refl w).alloc _)
  have HX0 : Hid (w0.heap[b4]? = some (.cells #[.int .i64 0, .string ⟨#[]⟩, .bool false, .int .i64 0, .int .i64 0, .int .i64 0] 53)) := Lib.hid (by rw [hw0, hb4]; exact blkNew _ _)
  have HBW : Hid (w.heap.size ≤ b4) := Lib.hid (Nat.le_of_eq hb4.symm)
  have HOF : Hid (∀ W, Gr w W → Calls Try.prog 108 #[.pointer p, .string k] W (fun e w' => ∃ v, e = .returned v ∧ Nw W w' 53 6 v (X.of k).length (rowE (X.of k)) ∧ Gr W w')) := Lib.hid (fun W g => rpOf (H.out.gr g) k)
  generalize X.of k = L at *
  clear H
  go_enter Try.func107, Try.ntmps107
  go_upto_region 2 with (first
    | (go_at_call 108; rw [← hw0, ← hb4]; clear hw0 hb4; refine Calls.mono (HOF.out _ HG0.out) ?_; rintro e w1 ⟨v, rfl, hn, hg⟩; have HN1 := Lib.hid hn; have HG1 := Lib.hid (HG0.out.trans hg); have HX1 := Lib.hid (hg.blk HX0.out); clear hn hg; obtain ⟨d4, f4⟩ := cellsOf HX1.out; obtain ⟨a1, c1, rfl, _, hm1, _⟩ := ownE_at HN1.out.own)
    | fail)
  rcases L with _ | ⟨x, L⟩
  · simp only [List.length_nil]
    have hb6 := blk6 (y0 := .int .i64 0) (y1 := .string ⟨#[]⟩) (y2 := .bool false) (y3 := .int .i64 0) (y4 := .int .i64 0) (y5 := .int .i64 0) HX1.out
    obtain ⟨d6, _⟩ := cellsOf hb6
    go_wp2_with fail
    refine bodyPost_ret (v := newV []) ?_ rfl ⟨rfl, HG1.out.cell6 HBW.out _ _ _ _ _ _⟩
    simp [results, Try.results107, go_sem, d6, newV, enV, zE]
  · obtain ⟨g1, rfl, hg1, y0, y1, y2, y3, y4, y5⟩ := ent6 HN1.out.own (i := 0) rfl
    simp only [Nat.zero_mul, Nat.zero_add] at y0 y1 y2 y3 y4 y5
    have hl : (0 : Int) < (x :: L).length := by simp
    have hl2 : (((x :: L).length : Int) == 0) = false := beq_false_of_ne (by omega)
    obtain ⟨n, hn⟩ : ∃ n, n = (x :: L).length := ⟨_, rfl⟩
    rw [← hn] at hl hl2 ⊢
    have hne : g1 ≠ b4 := fun e => by
      obtain ⟨cs, h⟩ := own_blk HN1.out.own (g := g1) rfl
      have h1 := HN1.out.new g1 rfl
      have h2 := blkLt HX0.out
      omega
    have hne' : b4 ≠ g1 := fun e => hne e.symm
    obtain ⟨x0, x1, x2, x3, x4, x5⟩ := x
    simp only at y0 y1 y2 y3 y4 y5
    go_upto_region 4 with fail
    go_wp2_with fail
    have hb6 := blk6 (y0 := .int .i64 x0) (y1 := .string x1) (y2 := .bool x2) (y3 := .int .i64 x3) (y4 := .int .i64 x4) (y5 := .int .i64 x5) HX1.out
    obtain ⟨d6, _⟩ := cellsOf hb6
    refine bodyPost_ret (v := newV (⟨x0, x1, x2, x3, x4, x5⟩ :: L)) ?_ rfl ⟨rfl, HG1.out.cell6 HBW.out _ _ _ _ _ _⟩
    simp [results, Try.results107, go_sem, d6, newV, enV]
end Go.Proofs.Ytmdfickejpeofaa
