/- liveness.Retired. -/
import Derived.Test.YthefpmmeoajaiaaBd13
import Derived.Test.YthefpmmeoajaiaaBd14
import Derived.Test.YthefpmmeoajaiaaBd7
import Derived.Test.YthefpmmeoajaiaaBd2
import Derived.Deep.Slices
import Derived.Deep.Fields
import Derived.ChangeSame
import Derived.ChangeArms
import Derived.OpenShut
import Derived.ShutString
import Derived.ChangeOld
import Derived.Lib.SmallJoins
set_option linter.unusedVariables false
set_option linter.unusedSimpArgs false
namespace Go.Proofs.Ythefpmmeoajaiaa
open Go.RowKit Go.Shelf
attribute [local go_sem] OvM cell_ovm obj_ovm
attribute [local go_sem] Oper.semAt_some

def retP (X : IX) (e : En) : Bool := e.del && !X.needs e
def retL (X : IX) (n : Nat) : List En := (List.range n).flatMap fun s => (X.slot (s : Nat)).filter (retP X)
theorem retL_succ (X : IX) (n : Nat) : retL X (n + 1) = retL X n ++ (X.slot (n : Nat)).filter (retP X) := by simp [retL, List.range_succ]
theorem retL_le {X : IX} (h : X.Wf) : ∀ n, (retL X n).length ≤ 512 * n
  | 0 => by simp [retL]
  | n + 1 => by
    rw [retL_succ, List.length_append]
    have h1 := retL_le h n
    have h2 := h.slot_le (n : Nat)
    have h3 := List.length_filter_le (retP X) (X.slot (n : Nat))
    omega
abbrev lvR (bo b1 : Nat) (p : Option Addr) (v : Value) (L : List En) : List Asn := [blkA bo (.cells #[v] 61), rowA 43 6 v L.length (rowE L), blkA b1 (.cells #[.pointer p] 32)]
def RetPost (X : IX) (w : World) (e : Ending) (w' : World) : Prop := ∃ v, e = .returned (.tuple #[v, .int .i64 (if X.slots = [] then 1 else 0)]) ∧ Nw w w' 43 6 v (retL X X.slots.length).length (rowE (retL X X.slots.length)) ∧ Gr w w'
set_option maxRecDepth 40000 in
set_option maxHeartbeats 8000000 in
theorem Retired_any {w : World} {p : Option Addr} {X : IX} {S : Nat → Prop} (h : IXP w p X S) : Calls Try.prog 38 #[.pointer p] w (RetPost X w) := by
  obtain ⟨i0, hi, hz0, hz1, hz2⟩ := info_parts infoIten
  have H := Lib.hid h
  have HOK := Lib.hid h.ok
  clear h
  refine calls_of_wp_marks Try.func38 rfl ?_
  simp only [Try.ntmps38, List.size_toArray, List.length_cons, List.length_nil, Nat.reduceAdd, Nat.reduceSub, Array.replicate_succ, Array.replicate_zero, List.push_toArray, List.append_toArray, List.nil_append, List.cons_append]
  go_wp2_with fail
  obtain ⟨b1, hb1⟩ : ∃ q, q = w.heap.size := ⟨_, rfl⟩
  obtain ⟨w0, hw0⟩ : ∃ y, y = w.alloc (.cells #[.pointer p] 32) := ⟨_, rfl⟩
  have H0 : Hid (SW w [blkA b1 (.cells #[.pointer p] 32)] w0) := Lib.hid (by rw [hw0, hb1]; exact (SW.start w).alloc _)
  rw [← hw0, ← hb1]
  clear hw0 hb1
  refine (Copy_any (H.out.gr H0.out.g)).mono ?_
  rintro r w1 ⟨q, rfl, hg, hq, _⟩
  have H1 := Lib.hid (H0.out.gr hg)
  have c1 := (cellsOf (show w1.heap[b1]? = _ from H1.out.get (i := 0) rfl)).1
  have lb1 := blkLt (show w1.heap[b1]? = _ from H1.out.get (i := 0) rfl)
  clear hg
  by_cases h0 : X.slots = []
  · have hq0 := hq.2 h0
    have HC : Hid ((if X.slots = [] then (1 : Int) else 0) = 1 ∧ retL X X.slots.length = []) := Lib.hid ⟨if_pos h0, by rw [h0]; rfl⟩
    clear h0 hq
    subst hq0
    go_wp2_with fail
    exact retM0 (v := .tuple #[.slice none 0 0, .int .i64 1]) (by simp [results, Try.results38, go_sem]) rfl ⟨_, by rw [HC.out.1], by rw [HC.out.2]; exact ⟨nilRow _ _ _, fun k hk => by cases hk⟩, H1.out.g⟩
  · obtain ⟨q', rfl⟩ : ∃ q', q = some q' := by
      cases q with
      | none => exact absurd (hq.1 rfl) h0
      | some q' => exact ⟨q', rfl⟩
    obtain ⟨n, hn⟩ : ∃ n, n = X.slots.length := ⟨_, rfl⟩
    have HN : Hid ((if X.slots = [] then (1 : Int) else 0) = 0 ∧ X.slots.length = n) := Lib.hid ⟨if_neg h0, hn.symm⟩
    have h32 : n ≤ 32 := by rw [hn]; exact HOK.out.n
    have HSL : Hid (∀ w1, Gr w w1 → Calls Try.prog 33 #[.pointer p] w1 fun e w' => e = .returned (.int .i64 n) ∧ w1 = w') := Lib.hid (fun w1 g => by rw [hn]; exact Slots_any (H.out.gr g))
    have HLE : Hid (∀ j, j ≤ n → (retL X j).length ≤ 16384) := Lib.hid (fun j hj => by have := retL_le HOK.out j; omega)
    clear h0 hq hn
    obtain ⟨bo, hbo⟩ : ∃ q, q = w1.heap.size := ⟨_, rfl⟩
    have HS2 : Hid (SW w (dsA [] :: lvR bo b1 p (.slice none 0 0) (retL X 0)) (w1.alloc (.cells #[.slice none 0 0] 61))) := Lib.hid (by
      rw [hbo]
      exact ((H1.out.new (Gr.refl _) (A := rowA 43 6 (.slice none 0 0) 0 []) (nilRow _ _ _) (fun k hk => by cases hk)).alloc _).noDs)
    go_wp2_with (go_at_call 33; refine (HSL.out _ (by first | exact H1.out.g | exact H1.out.g.alloc _)).mono ?_; rintro r w2 ⟨rfl, rfl⟩)
    obtain ⟨w2, hw2⟩ : ∃ y, y = w1.alloc (.cells #[.slice none 0 0] 61) := ⟨_, rfl⟩
    rw [← hw2] at HS2
    rw [← hw2, ← hbo]
    clear hw2 hbo c1 lb1
    refine wp_loop (fun a wx => ∃ (j : Nat) (Ds : List Nat) (v u5 u13 u14 u15 u16 u17 u31 : Value), a = { tmps := #[.pointer p, .pointer (some ⟨b1, 0, none⟩), .slice none 0 0, .int .i64 0, .pointer (some ⟨bo, 0, none⟩), u5, undef, .pointer p, .pointer (some q'), .bool false, .pointer p, .int .i64 n, .int .i64 j, u13, u14, u15, u16, u17, undef, undef, undef, undef, undef, undef, undef, undef, undef, undef, undef, undef, undef, u31, undef], defers := Ds.map cdf } ∧ j ≤ n ∧ Hid (Ds.Nodup ∧ SW w (dsA Ds :: lvR bo b1 p v (retL X j)) wx))
      (fun a _ => n - (intOf (a.tmps.getD 12 undef)).toNat) ⟨0, [], _, _, _, _, _, _, _, _, rfl, by omega, Lib.hid ⟨List.nodup_nil, HS2.out⟩⟩ ?_
    intro a wr hI
    obtain ⟨j, Ds, v, u5, u13, u14, u15, u16, u17, u31, rfl, hj, HR⟩ := hI
    by_cases hlt : j < n
    · have hlt' : (j : Int) < n := by omega
      have c1 := (cellsOf (show wr.heap[b1]? = _ from HR.out.2.get (i := 3) rfl)).1
      go_wp2_with fail
      refine (Slot_any p (j : Nat) _).mono ?_
      rintro e' w3 ⟨bb, bk, rfl, h1, h2, h3, h4, hg⟩
      have HS3 := Lib.hid (HR.out.2.gr hg)
      have HI := Lib.hid (H.out.gr HS3.out.g)
      have HSEQ := Lib.hid (SeqSlotP HI.out (j : Nat) bb bk h1 h2)
      have HA : Hid (∀ q, (q = bb ∨ q = bk ∨ S q) → q < w3.heap.size) := Lib.hid (fun q hq => by
        have l1 := World.block_lt_of_cell? w3 ⟨bb, 0, none⟩ h1
        have l2 := World.block_lt_of_cell? w3 ⟨bk, 0, none⟩ h2
        rcases hq with rfl | rfl | hq
        · exact l1
        · exact l2
        · exact HI.out.lt q hq)
      have HZ : Hid (SWz w w3 (fun q => q = bb ∨ q = bk ∨ S q) (dsA Ds :: lvR bo b1 p v (retL X j ++ ([] : List En).filter (retP X))) (fun _ => False) w3) := Lib.hid (by
        rw [List.filter_nil, List.append_nil]
        exact SWz.start HS3.out (fun B hB k hk ha => by
          have l1 := HR.out.2.s.lt hB k hk
          have l2 := HR.out.2.n B hB k hk
          rcases ha with rfl | rfl | ha
          · omega
          · omega
          · have := H.out.lt k ha; omega))
      have HSLE := Lib.hid (HOK.out.slot_le (j : Nat))
      have HRL := Lib.hid (HLE.out j hj)
      have HNX := Lib.hid (retL_succ X j)
      generalize retL X j = L0 at *
      clear h1 h2 h3 h4 hg c1
      go_wp2_with fail
      apply wp_rangeFunc_zx (gf := 100) (lb := #[.pointer (some ⟨bb, 0, none⟩), .pointer (some ⟨bk, 0, none⟩)]) rfl (enters_of Try.func100 (by kernel_rfl) rfl) HSEQ.out (Mdh.refl _ w3) HA.out (fun _ => rfl)
        (fun Z pre X' => ∃ v, SWz w w3 (fun q => q = bb ∨ q = bk ∨ S q) (dsA Ds :: lvR bo b1 p v (L0 ++ pre.filter (retP X))) Z X')
        (fun _ _ _ => False) (fun _ _ _ => False)
        (Apart.ex fun v => SWz.apart HS3.out.g.sz (fun pre : List En => dsA Ds :: lvR bo b1 p v (L0 ++ pre.filter (retP X)))) apart_no apart_no
        ⟨_, HZ.out⟩ (fun Z pre X' ⟨v, h⟩ => h.frm HS3.out.g) (fun x => boxE x)
        _ ?assign ?body ?hend ?hret
      case hret => intro _ _ _ _ _ _ _ h; exact h.elim
      case assign =>
        intro l x bx X' K hbx hK
        dsimp only [encE, enV]
        gi_wp2
        rw [← hbx]
        exact hK
      case body =>
        intro l Z pre x bx X' hI hbx hx hzx hzl hlr hsp
        obtain ⟨v, hI⟩ := hI
        have HIZ := Lib.hid hI
        have HX := Lib.hid hx
        have HB1 := Lib.hid (show X'.heap[b1]? = _ from hI.s.get (i := 3) rfl)
        have HPL : Hid (pre.length ≤ 511) := Lib.hid (by have := hsp.length_le; have := HSLE.out; simp at *; omega)
        have dx := (cellsOf HX.out).1
        have d1 := (cellsOf HB1.out).1
        have HIX : Hid (IXP X' p X S) := Lib.hid (H.out.gr hI.s.g)
        clear hI hbx hx hzx hzl hlr hsp
        cases hdl : x.del with
        | false =>
          have HN := Lib.hid (filter_no (p := retP X) (l := pre) (x := x) (by simp [retP, hdl]))
          rw [hdl] at dx
          clear hdl
          gi_wp2_with fail
          refine ⟨trivial, ?_⟩
          gi_wp2_with fail
          exact ⟨Mdh.refl _ _, v, by rw [HN.out]; exact HIZ.out⟩
        | true =>
          have HDL := Lib.hid hdl
          have HND := Lib.hid (needed_any HIX.out x)
          simp only [enV] at HND
          rw [hdl] at dx HND
          clear hdl
          gi_wp2_with fail
          refine ⟨trivial, (CallsIn.inRound l (callsIn_wide.2 HND.out)).mono ?_⟩
          rintro e w9 ⟨rfl, hg9⟩
          have HZ9 := Lib.hid (HIZ.out.gr hg9)
          have HX9 := Lib.hid (hg9.blk HX.out)
          clear hg9 d1 dx
          cases hnx : X.needs x with
          | true =>
            have HN := Lib.hid (filter_no (p := retP X) (l := pre) (x := x) (by simp [retP, hnx]))
            clear hnx
            gi_wp2_with fail
            exact ⟨HZ9.out.2, v, by rw [HN.out]; exact HZ9.out.1⟩
          | false =>
            have HN := Lib.hid (filter_yes (p := retP X) (l := pre) (x := x) (by simp [retP, hnx, HDL.out]))
            have HFL : Hid ((L0 ++ pre.filter (retP X)).length ≤ 16384 + 511) := Lib.hid (by rw [List.length_append]; have := List.length_filter_le (retP X) pre; have := HPL.out; have := HRL.out; omega)
            have HAP := Lib.hid (List.append_assoc L0 (pre.filter (retP X)) [x])
            generalize L0 ++ pre.filter (retP X) = kept at *
            have HO := Lib.hid (show Own w9 43 6 v kept.length (rowE kept) from HZ9.out.1.s.get (i := 2) rfl)
            have HB := Lib.hid (show w9.heap[bo]? = _ from HZ9.out.1.s.get (i := 1) rfl)
            have dx := (cellsOf HX9.out).1
            have lx := blkLt HX9.out
            obtain ⟨db, fb⟩ := cellsOf HB.out
            have lbb := blkLt HB.out
            have HNB : Hid (¬ v.ownBlock = some bo) := Lib.hid (own_ne HO.out HB.out (by decide))
            have hfl := HFL.out
            clear hnx
            gi_wp2_with (first
              | (gi_at_builtin; go_must (refine wpListIn_appv _ rfl (.tmp 27) (.tmp 29) 61 rfl 43 i0 _ 6 56 Try.underlying61 hi hz0 hz1 hz2 rfl (by decide) v kept.length (rowE kept) rfl (HO.out.gr (by (repeat (first | (with_reducible exact Gr.refl _) | assumption | (with_reducible apply Gr.from_drew) | (with_reducible apply Gr.alloc) | (with_reducible apply Gr.drew) | (with_reducible refine Gr.trans ?_ (by assumption)) | (with_reducible refine Gr.setCell ?_ (by omega) _))))) (some ⟨w9.heap.size, 0, none⟩) 1 1 (enC x) rfl ((src_newK w9 (enC x) _ 6 rfl (enC_one x))) (by simp only [maxLen]; omega) (by omega) ?_); intro v2 w10 hA; obtain ⟨a2, c2, rfl⟩ := hA.val; have HAV := Lib.hid hA; have HB2 := Lib.hid ((hA.mdh (fun g h => h)).blk (((Gr.refl w9).alloc _).blk HB.out) HNB.out); clear hA; obtain ⟨db2, fb2⟩ := cellsOf HB2.out)
              | fail)
            have z2 := HZ9.out.1.gr ((Gr.refl w9).alloc (.cells (enC x).toArray 43))
            have z3 := z2.1.step (i := 2) (B' := rowA 43 6 (.slice a2 (kept.length + 1) c2) (kept.length + 1) (rowE kept ++ enC x)) rfl HA.out (HAV.out.mdh (fun g h => h)) (fun k hk => .inl hk) HAV.out.1 (fun k hq => HAV.out.2.1 k hq)
            have z4 := z3.1.step (i := 1) (B' := blkA bo (.cells #[.slice a2 (kept.length + 1) c2] 61)) rfl HA.out ((Mdh.refl (fun k => k = bo) w10).setCell (p := ⟨bo, 0, none⟩) rfl (.slice a2 (kept.length + 1) c2)) (fun k hk => .inl hk) (blkSet (j := 0) (u := .slice a2 (kept.length + 1) c2) HB2.out) (fun k hk => .inl hk)
            refine ⟨((HZ9.out.2.trans z2.2).trans z3.2).trans z4.2, .slice a2 (kept.length + 1) c2, ?_⟩
            rw [HN.out, ← HAP.out]
            show SWz w w3 _ (dsA Ds :: [_, rowA _ _ _ (kept ++ [x]).length (rowE (kept ++ [x])), _]) Z _
            rw [rowE_snoc, List.length_append]
            exact z4.1
      case hend =>
        intro Z D xs W hD hZD hcase hdef
        obtain ⟨hxs, v', hI⟩ := hcase.elim (fun h => h) (fun h => h.2.elim)
        have hxs' : xs = X.slot (j : Nat) := hxs
        subst hxs'
        rw [← HNX.out] at hI
        have hcl := hI.close hZD HS3.out.g.sz hdef
        have HCL := Lib.hid hcl
        clear hcase hI hxs hcl hdef
        dsimp only
        go_wp2_with fail
        exact ⟨⟨j + 1, D :: Ds, v', _, _, _, _, _, _, _, by go_num, by omega, Lib.hid ⟨List.nodup_cons.2 ⟨HCL.out.2, HR.out.1⟩, HCL.out.1⟩⟩, by simp [intOf]; omega⟩
    · have hlt' : ¬ (j : Int) < n := by omega
      obtain rfl : j = n := by omega
      have db := (cellsOf (show wr.heap[bo]? = _ from HR.out.2.get (i := 1) rfl)).1
      go_wp2_with fail
      have hn := HR.out.2.n (dsA Ds) (List.mem_cons_self ..)
      have hds := HR.out.2.s.dis
      refine retMn (v := .tuple #[v, .int .i64 0]) Ds rfl (show ∀ D ∈ Ds, _ from HR.out.2.s.head) HR.out.1 (by simp [results, Try.results38, go_sem]) ⟨v, by rw [HN.out.1], ?_, clD_gr HR.out.2.g hn⟩
      rw [HN.out.2]
      exact ⟨(show Own wr _ _ _ _ _ from HR.out.2.get (i := 2) rfl).mdh (clD_mdh Ds wr) (fun k hk hkD => hds _ (List.mem_cons_of_mem _ (List.mem_cons_self ..)) k hkD hk), fun q hq => HR.out.2.n _ (List.mem_cons_of_mem _ (List.mem_cons_of_mem _ (List.mem_cons_self ..))) q hq⟩
end Go.Proofs.Ythefpmmeoajaiaa

/- drumlinlaw24: the examples of the chapter. -/
set_option linter.unusedVariables false
set_option linter.unusedSimpArgs false
namespace Go.Proofs.Ythefpmmeoajaiaa
open Go.RowKit Go.Shelf
attribute [local go_sem] OvM cell_ovm obj_ovm
attribute [local go_sem] Oper.semAt_some

theorem low_b {k : ByteArray} {c : UInt8} (h : k = ⟨#[c]⟩) (hc : c.toNat < 128) : Low k := by
  subst h
  intro j hj
  have h1 : j < 1 := hj
  have h0 : j = 0 := by omega
  subst h0
  exact hc
/-- Adding entries, all of which are taken. -/
structure AllAdd (l : List En) (X0 : IX) (St : Nat → IX) : Prop where
  z : St 0 = X0
  s : ∀ j x, l[j]? = some x → addE (St j) x = 0 ∧ St (j + 1) = addX (St j) x ∧ Low x.key ∧ En64 x
def stAdd (l : List En) (X0 : IX) (j : Nat) : IX := (l.take j).foldl addX X0
theorem stAdd_next (l : List En) (X0 : IX) (j : Nat) (x : En) (h : l[j]? = some x) : stAdd l X0 (j + 1) = addX (stAdd l X0 j) x := by
  unfold stAdd
  rw [List.take_add_one, h, List.foldl_append]
  rfl
def lvD : En := ⟨3, ⟨#[107]⟩, true, 1, 0, 17⟩
def lvM : En := ⟨4, ⟨#[109]⟩, false, 1, 20, 19⟩
def lvL : List En := [⟨1, ⟨#[107]⟩, false, 0, 0, 19⟩, ⟨2, ⟨#[109]⟩, false, 0, 20, 19⟩, lvD, lvM, ⟨4, ⟨#[109]⟩, false, 2, 0, 19⟩]
theorem lv_add : AllAdd lvL (ixNew 3) (stAdd lvL (ixNew 3)) := ⟨rfl, by
  intro j x h
  refine (fun (a : addE (stAdd lvL (ixNew 3) j) x = 0 ∧ Low x.key ∧ En64 x) => ⟨a.1, stAdd_next _ _ j x h, a.2⟩) ?_
  match j, h with
  | 0, h => cases h; exact ⟨by kernel_rfl, low_b rfl (by decide), by unfold En64; decide⟩
  | 1, h => cases h; exact ⟨by kernel_rfl, low_b rfl (by decide), by unfold En64; decide⟩
  | 2, h => cases h; exact ⟨by kernel_rfl, low_b rfl (by decide), by unfold En64; decide⟩
  | 3, h => cases h; exact ⟨by kernel_rfl, low_b rfl (by decide), by unfold En64; decide⟩
  | 4, h => cases h; exact ⟨by kernel_rfl, low_b rfl (by decide), by unfold En64; decide⟩
  | _ + 5, h => cases h⟩
def lvX : IX := stAdd lvL (ixNew 3) 5
def lvX1 : IX := dropX lvX 0
def lvX2 : IX := dropX lvX1 2
theorem lv_k0 : keptB lvX 0 [] = true := by kernel_rfl
theorem lv_k1 : keptB lvX 1 [lvD] = true := by kernel_rfl
theorem lv_k2 : keptB lvX 2 [] = true := by kernel_rfl
theorem lv_n1 : neededV lvX ⟨3, ⟨#[107]⟩, true, 1, 1, 17⟩ = .tuple #[.bool false, .int .i64 5] := by kernel_rfl
theorem lv_n2 : neededV lvX lvD = .tuple #[.bool true, .int .i64 0] := by kernel_rfl
theorem lv_d1 : (lvX.slot 0).length = 2 ∧ dropC lvX 0 = 0 := ⟨by kernel_rfl, by kernel_rfl⟩
theorem lv_k3 : keptB lvX1 1 [] = true := by kernel_rfl
theorem lv_r : retL lvX1 lvX1.slots.length = [lvD] := by kernel_rfl
theorem lv_s : (if lvX1.slots = [] then (1 : Int) else 0) = 0 := by kernel_rfl
theorem lv_d2 : (lvX1.slot 2).length = 1 ∧ dropC lvX1 2 = 0 := ⟨by kernel_rfl, by kernel_rfl⟩
theorem lv_k4 : keptB lvX2 1 [lvM] = true := by kernel_rfl
set_option maxRecDepth 40000 in
set_option maxHeartbeats 4000000 in
theorem lv_example (w : World) : Calls Try.prog 93 #[] w fun e w' => ∃ b S, e = .returned (.pointer (some ⟨b, 0, none⟩)) ∧ SW w [ixA b lvX S] w' := by
  have HST := Lib.hid lv_add.s
  go_enter Try.func93, Try.ntmps93
  go_wp2_with fail
  refine (New_any 3 w (by decide) (by decide)).mono ?_
  rintro e w1 ⟨b, S, rfl, h1, h2, h3⟩
  have HS1 : Hid (SW w [ixA b (stAdd lvL (ixNew 3) 0) S] w1) := Lib.hid ((SW.start w).ixnew h1 h2 h3)
  have HG := Gr.refl w1
  clear h1 h2 h3
  go_wp2_with (first
    | (go_at_call 45; refine (put_any _ _ _ _ 19 (by decide) (by decide) _).mono ?_; rintro e w2 ⟨rfl, hg⟩; replace HG := HG.trans hg; clear hg)
    | (go_at_call 95; refine (del_any _ _ _ _ 17 (by decide) (by decide) _).mono ?_; rintro e w2 ⟨rfl, hg⟩; replace HG := HG.trans hg; clear hg)
    | fail)
  obtain ⟨g, hg⟩ : ∃ q, q = w2.heap.size := ⟨_, rfl⟩
  obtain ⟨w3, hw3⟩ : ∃ y, y = w2.alloc (.cells (rowE lvL).toArray 43) := ⟨_, rfl⟩
  have HS3 : Hid (SW w [ixA b (stAdd lvL (ixNew 3) 0) S, blkA g (.cells (rowE lvL).toArray 43)] w3) := Lib.hid (by rw [hw3, hg]; exact (HS1.out.gr HG).allocT _)
  simp only [rowE, lvL, lvD, lvM, enC, List.flatMap_cons, List.flatMap_nil, List.cons_append, List.nil_append, List.append_nil] at hw3
  rw [← hw3, ← hg]
  clear hw3 hg HG
  go_loopw [4] (fun t4 wx => ∃ (j : Nat) (S : Nat → Prop), j ≤ 5 ∧ t4 = .int .i64 j ∧ Hid (SW w [ixA b (stAdd lvL (ixNew 3) j) S, blkA g (.cells (rowE lvL).toArray 43)] wx)) (fun t4 _ => 5 - (intOf t4).toNat)
  case atStart => exact ⟨0, S, by omega, rfl, HS3⟩
  case round =>
    obtain ⟨j, S, hj, rfl, HR⟩ := hrel
    by_cases hlt : j < 5
    · have hlt' : (j : Int) < 5 := by omega
      obtain ⟨x, hx⟩ : ∃ x, lvL[j]? = some x := ⟨_, List.getElem?_eq_getElem (show j < 5 from hlt)⟩
      have HX := Lib.hid (HST.out j x hx)
      have cc := (cellsOf (show wr.heap[g]? = _ from HR.out.get (i := 1) rfl)).1
      have hr : ∀ c u, (enC x)[c]? = some u → wr.cell? ⟨g, j * 6 + c, none⟩ = some u := fun c u hu => (cc _).trans (by rw [List.getElem?_toArray]; exact rowE_get lvL j x hx c u hu)
      have d0 := hr 0 _ rfl
      have d1 := hr 1 _ rfl
      have d2 := hr 2 _ rfl
      have d3 := hr 3 _ rfl
      have d4 := hr 4 _ rfl
      have d5 := hr 5 _ rfl
      simp only [Nat.add_zero] at d0 d1 d2 d3 d4 d5
      clear hr cc hx
      generalize hst : stAdd lvL (ixNew 3) (j + 1) = Y1 at HX
      have HY := Lib.hid hst
      clear hst
      go_wp2_with (go_at_call 56; refine (Add_any HR.out.ix x HX.out.2.2.1 HX.out.2.2.2).mono ?_; rintro e w4 ⟨rfl, hp⟩; rw [HX.out.1]; have HP := Lib.hid hp; clear hp)
      obtain ⟨S', hI⟩ := HR.out.post HP.out
      go_roundw
      case rel => exact ⟨j + 1, S', by omega, by go_num, Lib.hid (by rw [HY.out, HX.out.2.1]; exact hI)⟩
      case measure => simp [intOf]; omega
    · have hlt' : ¬ (j : Int) < 5 := by omega
      obtain rfl : j = 5 := by omega
      go_wp2
      go_ret
      exact ⟨b, rfl, S, HR.out.sub (.cons_cons _ (List.nil_sublist _))⟩
theorem own_nilE (w : World) : Own w 43 6 (.slice none 0 0) ([] : List En).length (rowE []) := nilRow w _ _
set_option maxRecDepth 40000 in
set_option maxHeartbeats 8000000 in
theorem lv_works (w : World) : Calls Try.prog 36 #[] w fun e w' => e = .returned (.bool true) ∧ Gr w w' := by
  go_enter Try.func36, Try.ntmps36
  go_wp2_with fail
  refine (lv_example w).mono ?_
  rintro e w1 ⟨b, S, rfl, hs⟩
  have H1 := Lib.hid hs
  clear hs
  go_wp2_with fail
  refine (kept_any H1.out.ixp 0 [] _ (own_nilE _) (by decide) (fun e he => by cases he)).mono ?_
  rintro e w2 ⟨rfl, hg⟩
  rw [lv_k0]
  have H2 := Lib.hid (H1.out.gr hg)
  clear hg
  go_wp2_with (go_at_call 95; refine (del_any _ _ _ _ 17 (by decide) (by decide) _).mono ?_; rintro e w3 ⟨rfl, hg⟩; have H3 := Lib.hid (H2.out.gr hg); clear hg)
  refine (kept_any (H3.out.gr ((Gr.refl _).alloc _)).ixp 1 [lvD] _ (own_lit w3 _ 6 1 (rowE [lvD]) rfl (by decide)) (by decide) (fun e he => by rw [List.mem_singleton.1 he]; decide)).mono ?_
  rintro e w4 ⟨rfl, hg⟩
  rw [lv_k1]
  have H4 := Lib.hid ((H3.out.gr ((Gr.refl _).alloc _)).gr hg)
  clear hg
  go_wp2_with fail
  refine (kept_any H4.out.ixp 2 [] _ (own_nilE _) (by decide) (fun e he => by cases he)).mono ?_
  rintro e w5 ⟨rfl, hg⟩
  rw [lv_k2]
  have H5 := Lib.hid (H4.out.gr hg)
  clear hg
  go_wp2_with (go_at_call 95; refine (del_any _ _ _ _ 17 (by decide) (by decide) _).mono ?_; rintro e w6 ⟨rfl, hg⟩; have H6 := Lib.hid (H5.out.gr hg); clear hg)
  refine (Needed_any H6.out.ixp ⟨3, ⟨#[107]⟩, true, 1, 1, 17⟩).mono ?_
  rintro e w7 ⟨rfl, hg⟩
  rw [lv_n1]
  have H7 := Lib.hid (H6.out.gr hg)
  clear hg
  go_wp2_with (go_at_call 95; refine (del_any _ _ _ _ 17 (by decide) (by decide) _).mono ?_; rintro e w8 ⟨rfl, hg⟩; have H8 := Lib.hid (H7.out.gr hg); clear hg)
  refine (Needed_any H8.out.ixp lvD).mono ?_
  rintro e w9 ⟨rfl, hg⟩
  rw [lv_n2]
  have H9 := Lib.hid (H8.out.gr hg)
  clear hg
  go_wp2_with fail
  refine (Drop_any H9.out.ix 0).mono ?_
  rintro e w10 ⟨rfl, hp⟩
  rw [lv_d1.1, lv_d1.2]
  obtain ⟨S10, hs⟩ := H9.out.post hp
  have H10 : Hid (SW w [ixA b lvX1 S10] w10) := Lib.hid hs
  clear hs hp
  go_wp2_with fail
  refine (Retired_any H10.out.ixp).mono ?_
  rintro e w11 ⟨v, rfl, hr, hg⟩
  rw [lv_s]
  rw [lv_r] at hr
  have HO := Lib.hid hr.own
  obtain ⟨a, cap, rfl, _⟩ := ownE_at hr.own
  have H11 := Lib.hid (H10.out.gr hg)
  clear hr hg
  go_wp2_with fail
  refine (kept_any H11.out.ixp 1 [] _ (own_nilE _) (by decide) (fun e he => by cases he)).mono ?_
  rintro e w12 ⟨rfl, hg⟩
  rw [lv_k3]
  have H12 := Lib.hid (H11.out.gr hg)
  have HO12 := Lib.hid (HO.out.gr hg)
  clear hg
  go_wp2_with (go_at_call 95; refine (del_any _ _ _ _ 17 (by decide) (by decide) _).mono ?_; rintro e w13 ⟨rfl, hg⟩; have H13 := Lib.hid (H12.out.gr hg); have HO13 := Lib.hid (HO12.out.gr hg); clear hg)
  refine (SameE [lvD] [lvD] _ _ _ (HO13.out.gr ((Gr.refl _).alloc _)) (own_lit w13 _ 6 1 (rowE [lvD]) rfl (by decide)) (by decide)).mono ?_
  rintro e w14 ⟨rfl, hg⟩
  rw [decide_eq_true (rfl : [lvD] = [lvD])]
  have H14 := Lib.hid ((H13.out.gr ((Gr.refl _).alloc _)).gr hg)
  clear hg
  go_wp2_with fail
  refine (Drop_any H14.out.ix 2).mono ?_
  rintro e w15 ⟨rfl, hp⟩
  rw [lv_d2.1, lv_d2.2]
  obtain ⟨S15, hs⟩ := H14.out.post hp
  have H15 : Hid (SW w [ixA b lvX2 S15] w15) := Lib.hid hs
  clear hs hp
  go_wp2_with (go_at_call 45; refine (put_any _ _ _ _ 19 (by decide) (by decide) _).mono ?_; rintro e w16 ⟨rfl, hg⟩; have H16 := Lib.hid (H15.out.gr hg); clear hg)
  refine (kept_any (H16.out.gr ((Gr.refl _).alloc _)).ixp 1 [lvM] _ (own_lit w16 _ 6 1 (rowE [lvM]) rfl (by decide)) (by decide) (fun e he => by rw [List.mem_singleton.1 he]; decide)).mono ?_
  rintro e w17 ⟨rfl, hg⟩
  rw [lv_k4]
  have H17 := Lib.hid ((H16.out.gr ((Gr.refl _).alloc _)).gr hg)
  clear hg
  go_wp2
  go_ret
  exact ⟨rfl, H17.out.g⟩
end Go.Proofs.Ythefpmmeoajaiaa

/- cursor: Advance; the calls beside an index; drumlinlaw28: put. -/
set_option linter.unusedVariables false
set_option linter.unusedSimpArgs false
namespace Go.Proofs.Ythefpmmeoajaiaa
open Go.RowKit Go.Shelf
attribute [local go_sem] OvM cell_ovm obj_ovm
attribute [local go_sem] Oper.semAt_some

theorem peekO_b {X : IX} (h : X.Wf) {c : Cu} {e : En} (he : peekO X c = some e) : peekC X c = 0 ∧ 0 ≤ e.off ∧ e.off + e.size ≤ 8192 ∧ 0 ≤ e.size ∧ peekE X c = some e := by
  unfold peekO at he
  by_cases h0 : peekC X c = 0
  · rw [if_pos h0] at he
    have hv := (valid_iff e).1 (h.valid ((h.slot_mem c.slot e).1 (List.mem_of_find?_eq_some he)).1).1
    exact ⟨h0, by omega, by omega, by omega, he⟩
  · rw [if_neg h0] at he; cases he
def pvO (X : IX) (n : Int) (o : Option En) : Value := match o with | none => .tuple #[enV zE, .bool false, .bool false, .int .i64 n] | some e => .tuple #[enV e, .bool (X.needs e), .bool true, .int .i64 0]
def axO (c : Cu) (o : Option En) : Cu := match o with | none => c | some e => ⟨c.has, c.slot, e.off + e.size⟩
set_option maxRecDepth 40000 in
set_option maxHeartbeats 4000000 in
theorem cuAdvance {w : World} {b : Nat} {c : Cu} {p : Option Addr} {X : IX} {S : Nat → Prop} (hc : w.heap[b]? = some (cuO c)) (h : IXP w p X S) : Calls Try.prog 59 #[.pointer (some ⟨b, 0, none⟩), .pointer p] w fun e w' => e = .returned (.int .i64 (advC X c)) ∧ w'.heap[b]? = some (cuO (advX X c)) ∧ Mdh (fun k => k = b) w w' := by
  have H := Lib.hid h
  have HCB := Lib.hid hc
  have hb := fun e he => peekO_b h.ok (c := c) (e := e) he
  obtain ⟨o, ho⟩ : ∃ o, o = peekO X c := ⟨_, rfl⟩
  obtain ⟨n, hn⟩ : ∃ n, n = peekC X c := ⟨_, rfl⟩
  have HPV : Hid (peekV X c = pvO X n o) := Lib.hid (by rw [ho, hn]; rfl)
  have HX : Hid (advX X c = axO c o) := Lib.hid (by rw [ho]; rfl)
  have HC1 : Hid (n ≠ 0 → advC X c = n) := Lib.hid (fun h0 => by rw [hn]; exact if_pos (by rw [← hn]; exact h0))
  have HC2 : Hid (n = 0 → o = none → advC X c = 5) := Lib.hid (fun h0 h1 => by
    have e0 : peekC X c = 0 := by rw [← hn]; exact h0
    have e1 : peekE X c = none := by rw [ho] at h1; unfold peekO at h1; rw [if_pos e0] at h1; exact h1
    unfold advC
    rw [if_neg (by rw [e0]; simp), e1])
  have HC3 : Hid (∀ e, o = some e → advC X c = 0 ∧ 0 ≤ e.off ∧ e.off + e.size ≤ 8192 ∧ 0 ≤ e.size) := Lib.hid (fun e h1 => by
    obtain ⟨e0, b1, b2, b3, e1⟩ := hb e (by rw [← ho]; exact h1)
    unfold advC
    rw [if_neg (by rw [e0]; simp), e1]
    exact ⟨rfl, b1, b2, b3⟩)
  clear h hc hb ho hn
  go_enter Try.func59, Try.ntmps59
  go_wp2_with fail
  refine (cuPeek HCB.out H.out).mono ?_
  rintro r w1 ⟨rfl, hg⟩
  rw [HPV.out]
  have HG := Lib.hid hg
  clear hg
  cases o with
  | none =>
    have hx := HX.out
    simp only [axO] at hx
    have HXX := Lib.hid hx
    clear hx
    simp only [pvO, enV, zE]
    by_cases h0 : n = 0
    · subst h0
      have HC5 : Hid (advC X c = 5) := Lib.hid (HC2.out rfl rfl)
      clear HC2 HC1 HC3
      go_wp2
      go_ret
      exact ⟨by rw [HC5.out] <;> rfl, by rw [HXX.out]; exact (HG.out.alloc _).blk HCB.out, (HG.out.alloc _).mdh _⟩
    · have h0' : (n == 0) = false := beq_false_of_ne h0
      have HC := Lib.hid (HC1.out h0)
      clear h0
      go_wp2
      go_ret
      exact ⟨by rw [HC.out] <;> rfl, by rw [HXX.out]; exact (HG.out.alloc _).blk HCB.out, (HG.out.alloc _).mdh _⟩
  | some x =>
    have hx := HX.out
    simp only [axO] at hx
    have HXX := Lib.hid hx
    obtain ⟨hz, hb1, hb2, hb3⟩ := HC3.out x rfl
    have HZ := Lib.hid hz
    clear hx hz
    simp only [pvO, enV]
    have hcb := HG.out.blk HCB.out
    obtain ⟨c0, c1, c2, c3, cf⟩ := cuC hcb
    have l := blkLt hcb
    clear hcb
    go_wp2
    go_ret
    exact ⟨by rw [HZ.out] <;> rfl, by rw [HXX.out]; exact blkOld (blkSet (j := 3) (HG.out.blk HCB.out)), ((HG.out.mdh (fun k => k = b)).setCell (p := ⟨b, 3, none⟩) rfl _).alloc _⟩
set_option maxRecDepth 40000 in
theorem cuAdvanceN {w : World} {p q : Option Addr} (h : CUN w p) : Calls Try.prog 59 #[.pointer p, .pointer q] w fun e w' => e = .returned (.int .i64 1) ∧ Gr w w' := by
  have H := Lib.hid h
  clear h
  go_enter Try.func59, Try.ntmps59
  go_wp2_with fail
  refine (cuPeekN H.out).mono ?_
  rintro r w1 ⟨rfl, hg⟩
  have HG := Lib.hid hg
  clear hg
  simp only [enV, zE]
  go_wp2
  go_ret
  exact ⟨rfl, HG.out.alloc _⟩

/-! ### Beside an index -/
theorem SW.cuset {w0 w w' : World} {R : List Asn} {A : Asn} {b : Nat} {c c' : Cu} (h : SW w0 (A :: blkA b (cuO c) :: R) w) (hb : w'.heap[b]? = some (cuO c')) (m : Mdh (fun k => k = b) w w') : SW w0 (A :: blkA b (cuO c') :: R) w' :=
  h.at (i := 1) rfl m (fun k hk => .inl hk) hb (fun k hk => .inl hk)
theorem SW.cu {w0 w : World} {R : List Asn} {A : Asn} {b : Nat} {c : Cu} (h : SW w0 (A :: blkA b (cuO c) :: R) w) : w.heap[b]? = some (cuO c) := h.get (i := 1) rfl
section
variable {w0 w : World} {R : List Asn} {b cb : Nat} {X : IX} {S : Nat → Prop} {c : Cu}
theorem adv_sw (h : SW w0 (ixA b X S :: blkA cb (cuO c) :: R) w) : Calls Try.prog 59 #[.pointer (some ⟨cb, 0, none⟩), .pointer (some ⟨b, 0, none⟩)] w fun e w' => e = .returned (.int .i64 (advC X c)) ∧ SW w0 (ixA b X S :: blkA cb (cuO (advX X c)) :: R) w' ∧ Mdh (fun k => k = cb) w w' :=
  (cuAdvance h.cu h.ixp).mono fun _ _ ⟨e, hb, m⟩ => ⟨e, h.cuset hb m, m⟩
theorem start_sw {A : Asn} (h : SW w0 (A :: blkA cb (cuO c) :: R) w) (s : Int) : Calls Try.prog 53 #[.pointer (some ⟨cb, 0, none⟩), .int .i64 s] w fun e w' => e = .returned (.int .i64 (startC c s)) ∧ SW w0 (A :: blkA cb (cuO (startX c s)) :: R) w' ∧ Mdh (fun k => k = cb) w w' :=
  (cuStart h.cu s).mono fun _ _ ⟨e, hb, m⟩ => ⟨e, h.cuset hb m, m⟩
theorem stop_sw {A : Asn} (h : SW w0 (A :: blkA cb (cuO c) :: R) w) : Calls Try.prog 105 #[.pointer (some ⟨cb, 0, none⟩)] w fun e w' => e = .returned (.tuple #[]) ∧ SW w0 (A :: blkA cb (cuO ⟨false, 0, 0⟩) :: R) w' ∧ Mdh (fun k => k = cb) w w' :=
  (cuStop h.cu).mono fun _ _ ⟨e, hb, m⟩ => ⟨e, h.cuset hb m, m⟩
theorem peek_sw (h : SW w0 (ixA b X S :: blkA cb (cuO c) :: R) w) : Calls Try.prog 57 #[.pointer (some ⟨cb, 0, none⟩), .pointer (some ⟨b, 0, none⟩)] w fun e w' => e = .returned (peekV X c) ∧ Gr w w' := cuPeek h.cu h.ixp
end
set_option maxRecDepth 40000 in
theorem put8 (k : ByteArray) (q s o z : Int) (hk : k.size ≤ 1000) (hz : z = 18 + (k.size : Int)) (w : World) : Calls Try.prog 104 #[.string k, .int .i64 q, .int .i64 s, .int .i64 o] w fun e w' => e = .returned (.agg #[.int .i64 q, .string k, .bool false, .int .i64 s, .int .i64 o, .int .i64 z]) ∧ Gr w w' := by
  subst hz
  go_enter Try.func104, Try.ntmps104
  go_wp2
  refine bodyPost_ret (v := .agg #[.int .i64 q, .string k, .bool false, .int .i64 s, .int .i64 o, .int .i64 (18 + (k.size : Int))]) ?_ rfl ⟨rfl, by (repeat (first | (with_reducible exact Gr.refl _) | assumption | (with_reducible apply Gr.from_drew) | (with_reducible apply Gr.alloc) | (with_reducible apply Gr.drew) | (with_reducible refine Gr.trans ?_ (by assumption)) | (with_reducible refine Gr.setCell ?_ (by omega) _)))⟩
  simp [results, Try.results104, go_sem]
end Go.Proofs.Ythefpmmeoajaiaa

/- drumlinlaw28: the examples of the chapter. -/
set_option linter.unusedVariables false
set_option linter.unusedSimpArgs false
namespace Go.Proofs.Ythefpmmeoajaiaa
open Go.RowKit Go.Shelf
attribute [local go_sem] OvM cell_ovm obj_ovm
attribute [local go_sem] Oper.semAt_some

theorem SW.alloc3 {w0 w : World} {R : List Asn} {A B : Asn} (h : SW w0 (A :: B :: R) w) (o : Obj) : SW w0 (A :: B :: blkA w.heap.size o :: R) (w.alloc o) :=
  (h.alloc o).perm ((List.Perm.swap _ _ _).trans ((List.Perm.swap _ _ _).cons _))
def cu1 : En := ⟨1, ⟨#[107]⟩, false, 0, 0, 19⟩
def cu2 : En := ⟨2, ⟨#[109]⟩, false, 0, 20, 19⟩
def cu3 : En := ⟨3, ⟨#[107]⟩, false, 1, 0, 19⟩
def cuL : List En := [cu1, cu2, cu3]
theorem cu_add : AllAdd cuL (ixNew 2) (stAdd cuL (ixNew 2)) := ⟨rfl, by
  intro j x h
  refine (fun (a : addE (stAdd cuL (ixNew 2) j) x = 0 ∧ Low x.key ∧ En64 x) => ⟨a.1, stAdd_next _ _ j x h, a.2⟩) ?_
  match j, h with
  | 0, h => cases h; exact ⟨by kernel_rfl, low_b rfl (by decide), by unfold En64; decide⟩
  | 1, h => cases h; exact ⟨by kernel_rfl, low_b rfl (by decide), by unfold En64; decide⟩
  | 2, h => cases h; exact ⟨by kernel_rfl, low_b rfl (by decide), by unfold En64; decide⟩
  | _ + 3, h => cases h⟩
def cuX : IX := stAdd cuL (ixNew 2) 3
abbrev cuS0 : Cu := ⟨false, 0, 0⟩
abbrev cuS1 : Cu := ⟨true, 0, 0⟩
abbrev cuS2 : Cu := ⟨true, 0, 19⟩
abbrev cuS3 : Cu := ⟨true, 0, 39⟩
theorem cu_p0 : peekV cuX cuS0 = .tuple #[.agg #[.int .i64 0, .string ⟨#[]⟩, .bool false, .int .i64 0, .int .i64 0, .int .i64 0], .bool false, .bool false, .int .i64 7] := by kernel_rfl
theorem cu_p1 : peekV cuX cuS1 = .tuple #[.agg #[.int .i64 1, .string ⟨#[107]⟩, .bool false, .int .i64 0, .int .i64 0, .int .i64 19], .bool false, .bool true, .int .i64 0] := by kernel_rfl
theorem cu_p2 : peekV cuX cuS2 = .tuple #[.agg #[.int .i64 2, .string ⟨#[109]⟩, .bool false, .int .i64 0, .int .i64 20, .int .i64 19], .bool true, .bool true, .int .i64 0] := by kernel_rfl
theorem cu_s0 : startC cuS0 0 = 0 := by kernel_rfl
theorem cu_x0 : startX cuS0 0 = cuS1 := by kernel_rfl
theorem cu_s1 : startC cuS1 1 = 6 := by kernel_rfl
theorem cu_x1 : startX cuS1 1 = cuS1 := by kernel_rfl
theorem cu_a1 : advC cuX cuS1 = 0 := by kernel_rfl
theorem cu_y1 : advX cuX cuS1 = cuS2 := by kernel_rfl
theorem cu_a2 : advC cuX cuS2 = 0 := by kernel_rfl
theorem cu_y2 : advX cuX cuS2 = cuS3 := by kernel_rfl
theorem cu_a3 : advC cuX cuS3 = 5 := by kernel_rfl
theorem cu_y3 : advX cuX cuS3 = cuS3 := by kernel_rfl
set_option maxRecDepth 40000 in
set_option maxHeartbeats 8000000 in
theorem cu_works (w : World) : Calls Try.prog 50 #[] w fun e w' => e = .returned (.bool true) ∧ Gr w w' := by
  have HST := Lib.hid cu_add.s
  go_enter Try.func50, Try.ntmps50
  go_wp2_with fail
  refine (New_any 2 w (by decide) (by decide)).mono ?_
  rintro e w1 ⟨b, S, rfl, h1, h2, h3⟩
  have HS1 : Hid (SW w [ixA b (stAdd cuL (ixNew 2) 0) S] w1) := Lib.hid ((SW.start w).ixnew h1 h2 h3)
  clear h1 h2 h3
  go_wp2_with fail
  refine (cuNew _).mono ?_
  rintro e w2 ⟨rfl, hw2⟩
  obtain ⟨cb, hcb⟩ : ∃ q, q = w1.heap.size := ⟨_, rfl⟩
  have HS2 : Hid (SW w [ixA b (stAdd cuL (ixNew 2) 0) S, blkA cb (cuO cuS0)] w2) := Lib.hid (by rw [hw2, hcb]; exact HS1.out.allocT _)
  rw [← hcb]
  clear hw2 hcb
  have HG := Gr.refl w2
  go_wp2_with (go_at_call 104; refine (put8 _ _ _ _ 19 (by decide) (by decide) _).mono ?_; rintro e w3 ⟨rfl, hg⟩; replace HG := HG.trans hg; clear hg)
  refine (Add_any (HS2.out.gr HG).ix cu1 (HST.out 0 cu1 rfl).2.2.1 (HST.out 0 cu1 rfl).2.2.2).mono ?_
  rintro e w4 ⟨rfl, hp⟩
  rw [(HST.out 0 cu1 rfl).1]
  obtain ⟨S1, hs⟩ := (HS2.out.gr HG).post hp
  rw [← (HST.out 0 cu1 rfl).2.1] at hs
  have HS4 := Lib.hid hs
  clear hs hp HG
  have HG := Gr.refl w4
  go_wp2_with (go_at_call 104; refine (put8 _ _ _ _ 19 (by decide) (by decide) _).mono ?_; rintro e w5 ⟨rfl, hg⟩; replace HG := HG.trans hg; clear hg)
  refine (Add_any (HS4.out.gr HG).ix cu2 (HST.out 1 cu2 rfl).2.2.1 (HST.out 1 cu2 rfl).2.2.2).mono ?_
  rintro e w6 ⟨rfl, hp⟩
  rw [(HST.out 1 cu2 rfl).1]
  obtain ⟨S2, hs⟩ := (HS4.out.gr HG).post hp
  rw [← (HST.out 1 cu2 rfl).2.1] at hs
  have HS6 := Lib.hid hs
  clear hs hp HG
  have HG := Gr.refl w6
  go_wp2_with (go_at_call 104; refine (put8 _ _ _ _ 19 (by decide) (by decide) _).mono ?_; rintro e w7 ⟨rfl, hg⟩; replace HG := HG.trans hg; clear hg)
  refine (Add_any (HS6.out.gr HG).ix cu3 (HST.out 2 cu3 rfl).2.2.1 (HST.out 2 cu3 rfl).2.2.2).mono ?_
  rintro e w8 ⟨rfl, hp⟩
  rw [(HST.out 2 cu3 rfl).1]
  obtain ⟨S3, hs⟩ := (HS6.out.gr HG).post hp
  rw [← (HST.out 2 cu3 rfl).2.1] at hs
  have HS8 : Hid (SW w [ixA b cuX S3, blkA cb (cuO cuS0)] w8) := Lib.hid hs
  clear hs hp HG HS6 HS4 HS2 HS1 HST
  go_wp2_with fail
  refine (peek_sw HS8.out).mono ?_
  rintro e w9 ⟨rfl, hg⟩
  rw [cu_p0]
  have HS9 := Lib.hid (HS8.out.gr hg)
  clear hg
  go_wp2_with fail
  refine (start_sw (HS9.out.gr ((Gr.refl _).alloc _)) 0).mono ?_
  rintro e w10 ⟨rfl, hs, hm⟩
  rw [cu_s0]
  rw [cu_x0] at hs
  have HS10 := Lib.hid hs
  clear hs hm
  go_wp2_with fail
  refine (start_sw HS10.out 1).mono ?_
  rintro e w11 ⟨rfl, hs, hm⟩
  rw [cu_s1]
  rw [cu_x1] at hs
  have HS11 := Lib.hid hs
  clear hs hm
  go_wp2_with fail
  refine (peek_sw HS11.out).mono ?_
  rintro e w12 ⟨rfl, hg⟩
  rw [cu_p1]
  have HS12 := Lib.hid (HS11.out.gr hg)
  clear hg
  go_wp2_with fail
  obtain ⟨b8, hb8⟩ : ∃ q, q = w12.heap.size := ⟨_, rfl⟩
  obtain ⟨w13, hw13⟩ : ∃ y, y = w12.alloc (.cells (enC cu1).toArray 43) := ⟨_, rfl⟩
  have HS13 : Hid (SW w [ixA b cuX S3, blkA cb (cuO cuS1), blkA b8 (.cells (enC cu1).toArray 43)] w13) := Lib.hid (by rw [hw13, hb8]; exact HS12.out.alloc3 _)
  have hne : ¬ b8 = cb := by have := blkLt HS12.out.cu; omega
  simp only [enC, cu1] at hw13
  rw [← hw13, ← hb8]
  clear hw13 hb8
  have d8 := (cellsOf (show w13.heap[b8]? = _ from HS13.out.get (i := 2) rfl)).1
  simp only [enC, cu1] at d8
  have k1 := neqE_run cu1 cu1
  simp only [cu1, decide_true, Bool.not_true] at k1
  have HG := Gr.refl w13.drew
  refine wp_region_flo (fun k => k = cb) [] [] (by kernel_rfl) (by kernel_rfl) (fun k hk => by subst hk; exact blkLt HS13.out.cu) ?_
  refine flo_seg 1 rfl ?_
  simp only [List.take_succ_cons, List.take_zero, List.drop_succ_cons, List.drop_zero]
  repeat (go_big_quiet_step (fail))
  refine wpQuiet_nil ?_
  refine flo_eff rfl rfl rfl rfl (fun K hK => ?_)
  go_wp2_with ((go_at_call 104; refine (put8 _ _ _ _ 19 (by decide) (by decide) _).mono ?_; rintro e w1 ⟨rfl, hg⟩; replace HG := HG.trans hg; (try clear hc); have hc := HG.cell; (try simp only [World.size_alloc] at hc)))
  refine ⟨by (first | (refine Gr.mdh ?_ _; (repeat (first | (with_reducible exact Gr.refl _) | assumption | (with_reducible apply Gr.from_drew) | (with_reducible apply Gr.alloc) | (with_reducible apply Gr.drew) | (with_reducible refine Gr.trans ?_ (by assumption)) | (with_reducible refine Gr.setCell ?_ (by omega) _))); done) | (repeat (first | (with_reducible exact Mdh.refl _ _) | (with_reducible refine Mdh.setCell ?_ (by simp) _) | (with_reducible refine Mdh.setNew ?_ (by simp) _) | (with_reducible apply Mdh.alloc) | (with_reducible apply Mdh.from_drew) | (with_reducible apply Mdh.drew) | (with_reducible refine Mdh.gr ?_ (by assumption))))), ?_⟩
  refine flo_seg 15 rfl ?_
  simp only [List.take_succ_cons, List.take_zero, List.drop_succ_cons, List.drop_zero]
  repeat (go_big_quiet_step (fail))
  refine wpQuiet_nil ?_
  refine flo_eff rfl rfl rfl rfl (fun K hK => ?_)
  go_wp2_with ((go_at_call 59; refine (adv_sw (HS13.out.gr (Gr.of_drew HG))).mono ?_; rintro e w14 ⟨rfl, hs, hm⟩; rw [cu_a1]; rw [cu_y1] at hs; have HS14 := Lib.hid hs; have HM14 := Lib.hid hm; clear hs hm))
  refine ⟨by exact HM14.out.mono (fun k hk => .inl hk), ?_⟩
  refine flo_seg 4 rfl ?_
  simp only [List.take_succ_cons, List.take_zero, List.drop_succ_cons, List.drop_zero]
  repeat (go_big_quiet_step (fail))
  refine wpQuiet_nil ?_
  refine flo_eff rfl rfl rfl rfl (fun K hK => ?_)
  go_wp2_with ((go_at_call 58; refine (cuOffset HS14.out.cu).mono ?_; rintro e w15 ⟨rfl, rfl⟩))
  refine ⟨by exact Mdh.refl _ _, ?_⟩
  refine flo_seg 2 rfl ?_
  simp only [List.take_succ_cons, List.take_zero, List.drop_succ_cons, List.drop_zero]
  repeat (go_big_quiet_step (fail))
  refine wpQuiet_nil ?_
  refine flo_nil ?_
  have HS15 : Hid (SW w [ixA b cuX S3, blkA cb (cuO cuS2)] w14) := Lib.hid (HS14.out.sub (.cons_cons _ (.cons_cons _ (List.nil_sublist _))))
  clear HS14 HM14 HS13 HS12 HS11 HS10 HS9 HS8 d8 k1 HG hne
  go_wp2_with fail
  refine (peek_sw HS15.out).mono ?_
  rintro e w16 ⟨rfl, hg⟩
  rw [cu_p2]
  have HS16 := Lib.hid (HS15.out.gr hg)
  clear hg
  go_wp2_with fail
  obtain ⟨b9, hb9⟩ : ∃ q, q = w16.heap.size := ⟨_, rfl⟩
  obtain ⟨w17, hw17⟩ : ∃ y, y = w16.alloc (.cells (enC cu2).toArray 43) := ⟨_, rfl⟩
  have HS17 : Hid (SW w [ixA b cuX S3, blkA cb (cuO cuS2), blkA b9 (.cells (enC cu2).toArray 43)] w17) := Lib.hid (by rw [hw17, hb9]; exact HS16.out.alloc3 _)
  have hne : ¬ b9 = cb := by have := blkLt HS16.out.cu; omega
  simp only [enC, cu2] at hw17
  rw [← hw17, ← hb9]
  clear hw17 hb9
  have d9 := (cellsOf (show w17.heap[b9]? = _ from HS17.out.get (i := 2) rfl)).1
  simp only [enC, cu2] at d9
  have k2 := neqE_run cu2 cu2
  simp only [cu2, decide_true, Bool.not_true] at k2
  have HG := Gr.refl w17.drew
  refine wp_region_flo (fun k => k = cb) [] [] (by kernel_rfl) (by kernel_rfl) (fun k hk => by subst hk; exact blkLt HS17.out.cu) ?_
  refine flo_seg 1 rfl ?_
  simp only [List.take_succ_cons, List.take_zero, List.drop_succ_cons, List.drop_zero]
  repeat (go_big_quiet_step (fail))
  refine wpQuiet_nil ?_
  refine flo_eff rfl rfl rfl rfl (fun K hK => ?_)
  go_wp2_with ((go_at_call 104; refine (put8 _ _ _ _ 19 (by decide) (by decide) _).mono ?_; rintro e w1 ⟨rfl, hg⟩; replace HG := HG.trans hg; (try clear hc); have hc := HG.cell; (try simp only [World.size_alloc] at hc)))
  refine ⟨by (first | (refine Gr.mdh ?_ _; (repeat (first | (with_reducible exact Gr.refl _) | assumption | (with_reducible apply Gr.from_drew) | (with_reducible apply Gr.alloc) | (with_reducible apply Gr.drew) | (with_reducible refine Gr.trans ?_ (by assumption)) | (with_reducible refine Gr.setCell ?_ (by omega) _))); done) | (repeat (first | (with_reducible exact Mdh.refl _ _) | (with_reducible refine Mdh.setCell ?_ (by simp) _) | (with_reducible refine Mdh.setNew ?_ (by simp) _) | (with_reducible apply Mdh.alloc) | (with_reducible apply Mdh.from_drew) | (with_reducible apply Mdh.drew) | (with_reducible refine Mdh.gr ?_ (by assumption))))), ?_⟩
  refine flo_seg 16 rfl ?_
  simp only [List.take_succ_cons, List.take_zero, List.drop_succ_cons, List.drop_zero]
  repeat (go_big_quiet_step (fail))
  refine wpQuiet_nil ?_
  refine flo_eff rfl rfl rfl rfl (fun K hK => ?_)
  go_wp2_with ((go_at_call 59; refine (adv_sw (HS17.out.gr (Gr.of_drew HG))).mono ?_; rintro e w18 ⟨rfl, hs, hm⟩; rw [cu_a2]; rw [cu_y2] at hs; have HS18 := Lib.hid hs; have HM18 := Lib.hid hm; clear hs hm))
  refine ⟨by exact HM18.out.mono (fun k hk => .inl hk), ?_⟩
  refine flo_seg 5 rfl ?_
  simp only [List.take_succ_cons, List.take_zero, List.drop_succ_cons, List.drop_zero]
  repeat (go_big_quiet_step (fail))
  refine wpQuiet_nil ?_
  refine flo_eff rfl rfl rfl rfl (fun K hK => ?_)
  go_wp2_with ((go_at_call 59; refine (adv_sw HS18.out).mono ?_; rintro e w19 ⟨rfl, hs, hm⟩; rw [cu_a3]; rw [cu_y3] at hs; have HS19 := Lib.hid hs; have HM19 := Lib.hid hm; clear hs hm))
  refine ⟨by exact HM19.out.mono (fun k hk => .inl hk), ?_⟩
  refine flo_seg 4 rfl ?_
  simp only [List.take_succ_cons, List.take_zero, List.drop_succ_cons, List.drop_zero]
  repeat (go_big_quiet_step (fail))
  refine wpQuiet_nil ?_
  refine flo_eff rfl rfl rfl rfl (fun K hK => ?_)
  go_wp2_with ((go_at_call 58; refine (cuOffset HS19.out.cu).mono ?_; rintro e w20 ⟨rfl, rfl⟩))
  refine ⟨by exact Mdh.refl _ _, ?_⟩
  refine flo_seg 2 rfl ?_
  simp only [List.take_succ_cons, List.take_zero, List.drop_succ_cons, List.drop_zero]
  repeat (go_big_quiet_step (fail))
  refine wpQuiet_nil ?_
  refine flo_nil ?_
  clear HS18 HM18 HM19 HS17 HS16 HS15 d9 k2 HG hne
  go_wp2_with fail
  refine (stop_sw HS19.out).mono ?_
  rintro e w21 ⟨rfl, hs, hm⟩
  have HS21 := Lib.hid hs
  clear hs hm
  go_wp2_with fail
  refine (cuSlot HS21.out.cu).mono ?_
  rintro e w22 ⟨rfl, hg⟩
  have HS22 := Lib.hid (HS21.out.gr hg)
  clear hg
  go_wp2_with fail
  refine (cuOffset HS22.out.cu).mono ?_
  rintro e w23 ⟨rfl, rfl⟩
  go_wp2
  go_ret
  exact ⟨rfl, HS22.out.g⟩
end Go.Proofs.Ythefpmmeoajaiaa

/- A cursor behind i entries of its slot, in plain Lean. -/
set_option linter.unusedVariables false
set_option linter.unusedSimpArgs false
namespace Go.Proofs.Ythefpmmeoajaiaa

theorem find_idx {p : En → Bool} : ∀ (l : List En) (k : Nat), k ≤ l.length → (∀ j x, j < k → l[j]? = some x → p x = false) → (∀ x, l[k]? = some x → p x = true) → l.find? p = l[k]?
  | [], k, _, _, _ => by simp
  | y :: l, 0, _, _, h2 => by
    have := h2 y rfl
    simp [this]
  | y :: l, k + 1, hk, h1, h2 => by
    have h0 := h1 0 y (by omega) rfl
    have := find_idx l k (by simpa using hk) (fun j x hj hx => h1 (j + 1) x (by omega) (by simpa using hx)) (fun x hx => h2 x (by simpa using hx))
    simp [h0, this]
def curAt (l : List En) (v : Int) (i : Nat) : Cu := ⟨true, v, match i with | 0 => 0 | i + 1 => (l.getD i zE).off + (l.getD i zE).size⟩
theorem find_cur {l : List En} {v : Int} (h : SlotOk v l) (i : Nat) (hi : i ≤ l.length) : l.find? (atCu (curAt l v i)) = l[i]? := by
  refine find_idx l i hi (fun j x hj hx => ?_) (fun x hx => ?_)
  · cases i with
    | zero => omega
    | succ i =>
      have hl : i < l.length := by omega
      obtain ⟨y, hy⟩ : ∃ y, l[i]? = some y := ⟨_, List.getElem?_eq_getElem hl⟩
      have hv := (valid_iff y).1 (h.e y (List.mem_of_getElem? hy)).2
      unfold atCu curAt
      simp only [List.getD_eq_getElem?_getD, hy, Option.getD_some]
      refine decide_eq_false ?_
      obtain ⟨a1, e1⟩ := List.getElem?_eq_some_iff.1 hx
      obtain ⟨a2, e2⟩ := List.getElem?_eq_some_iff.1 hy
      rcases Nat.eq_or_lt_of_le (show j ≤ i by omega) with h1 | h1
      · subst h1; rw [hx] at hy; cases hy; omega
      · have := List.pairwise_iff_getElem.1 h.p j i a1 a2 h1
        rw [e1, e2] at this
        have hvx := (valid_iff x).1 (h.e x (List.mem_of_getElem? hx)).2
        omega
  · have hv := (valid_iff x).1 (h.e x (List.mem_of_getElem? hx)).2
    cases i with
    | zero => exact decide_eq_true (show (0 : Int) ≤ x.off by omega)
    | succ i =>
      have hl : i + 1 < l.length := (List.getElem?_eq_some_iff.1 hx).1
      obtain ⟨y, hy⟩ : ∃ y, l[i]? = some y := ⟨_, List.getElem?_eq_getElem (by omega)⟩
      unfold atCu curAt
      simp only [List.getD_eq_getElem?_getD, hy, Option.getD_some]
      refine decide_eq_true ?_
      obtain ⟨a1, e1⟩ := List.getElem?_eq_some_iff.1 hx
      obtain ⟨a2, e2⟩ := List.getElem?_eq_some_iff.1 hy
      have := List.pairwise_iff_getElem.1 h.p i (i + 1) a2 a1 (by omega)
      rw [e1, e2] at this
      exact this
section
variable {X : IX} {v : Int}
theorem cur_pc (h0 : X.slots ≠ []) (hv : v < X.slots.length) (l : List En) (i : Nat) : peekC X (curAt l v i) = 0 := by
  unfold peekC
  rw [if_neg h0, if_neg (by simp [curAt]), if_neg (by show ¬ ((X.slots.length : Int) ≤ v); omega)]
theorem cur_po (h : X.Wf) (h0 : X.slots ≠ []) (hv : v < X.slots.length) (i : Nat) (hi : i ≤ (X.slot v).length) : peekO X (curAt (X.slot v) v i) = (X.slot v)[i]? := by
  unfold peekO
  rw [if_pos (cur_pc h0 hv _ i)]
  exact find_cur (h.slotOk v) i hi
theorem cur_pv (h : X.Wf) (h0 : X.slots ≠ []) (hv : v < X.slots.length) (i : Nat) {e : En} (he : (X.slot v)[i]? = some e) : peekV X (curAt (X.slot v) v i) = .tuple #[enV e, .bool (X.needs e), .bool true, .int .i64 0] := by
  unfold peekV
  rw [cur_po h h0 hv i (Nat.le_of_lt (List.getElem?_eq_some_iff.1 he).1), he]
theorem cur_pn (h : X.Wf) (h0 : X.slots ≠ []) (hv : v < X.slots.length) : peekV X (curAt (X.slot v) v (X.slot v).length) = .tuple #[enV zE, .bool false, .bool false, .int .i64 0] := by
  unfold peekV
  rw [cur_po h h0 hv _ (Nat.le_refl _), List.getElem?_eq_none (Nat.le_refl _), cur_pc h0 hv]
theorem cur_ac (h : X.Wf) (h0 : X.slots ≠ []) (hv : v < X.slots.length) (i : Nat) (hi : i ≤ (X.slot v).length) : advC X (curAt (X.slot v) v i) = if i < (X.slot v).length then 0 else 5 := by
  unfold advC
  rw [if_neg (by rw [cur_pc h0 hv]; decide)]
  have hp := cur_po h h0 hv i hi
  unfold peekO at hp
  rw [if_pos (cur_pc h0 hv _ i)] at hp
  rw [hp]
  by_cases hl : i < (X.slot v).length
  · rw [List.getElem?_eq_getElem hl, if_pos hl]
  · rw [List.getElem?_eq_none (by omega), if_neg hl]
theorem cur_ax (h : X.Wf) (h0 : X.slots ≠ []) (hv : v < X.slots.length) (i : Nat) (hi : i < (X.slot v).length) : advX X (curAt (X.slot v) v i) = curAt (X.slot v) v (i + 1) := by
  unfold advX
  rw [cur_po h h0 hv i (by omega), List.getElem?_eq_getElem hi]
  simp only [curAt, List.getD_eq_getElem?_getD, List.getElem?_eq_getElem hi, Option.getD_some]
theorem cur_axn (h : X.Wf) (h0 : X.slots ≠ []) (hv : v < X.slots.length) : advX X (curAt (X.slot v) v (X.slot v).length) = curAt (X.slot v) v (X.slot v).length := by
  unfold advX
  rw [cur_po h h0 hv _ (Nat.le_refl _), List.getElem?_eq_none (Nat.le_refl _)]
theorem cur_mono (h : X.Wf) (i j : Nat) (hij : i ≤ j) (hj : j ≤ (X.slot v).length) : (curAt (X.slot v) v i).off ≤ (curAt (X.slot v) v j).off := by
  have hs := h.slotOk v
  cases j with
  | zero =>
    obtain rfl : i = 0 := by omega
    exact Int.le_refl _
  | succ j =>
    obtain ⟨y, hy⟩ : ∃ y, (X.slot v)[j]? = some y := ⟨_, List.getElem?_eq_getElem (by omega)⟩
    have hvy := (valid_iff y).1 (hs.e y (List.mem_of_getElem? hy)).2
    cases i with
    | zero =>
      show (0 : Int) ≤ _
      simp only [curAt, List.getD_eq_getElem?_getD, hy, Option.getD_some]
      omega
    | succ i =>
      obtain ⟨x, hx⟩ : ∃ x, (X.slot v)[i]? = some x := ⟨_, List.getElem?_eq_getElem (by omega)⟩
      simp only [curAt, List.getD_eq_getElem?_getD, hy, hx, Option.getD_some]
      obtain ⟨a1, e1⟩ := List.getElem?_eq_some_iff.1 hx
      obtain ⟨a2, e2⟩ := List.getElem?_eq_some_iff.1 hy
      rcases Nat.eq_or_lt_of_le (show i ≤ j by omega) with h1 | h1
      · subst h1; rw [hx] at hy; cases hy; exact Int.le_refl _
      · have := List.pairwise_iff_getElem.1 hs.p i j a1 a2 h1
        rw [e1, e2] at this
        omega
end
end Go.Proofs.Ythefpmmeoajaiaa

/- CursorKeeps. -/
set_option linter.unusedVariables false
set_option linter.unusedSimpArgs false
namespace Go.Proofs.Ythefpmmeoajaiaa
open Go.RowKit Go.Shelf
attribute [local go_sem] OvM cell_ovm obj_ovm
attribute [local go_sem] Oper.semAt_some

theorem triOk {w : World} {a : Option Addr} {L : List Tr} (h : TriAt w a L) : ∀ t ∈ L, t.Ok := fun m hm => by
  obtain ⟨i, hi⟩ := List.mem_iff_getElem?.1 hm
  obtain ⟨_, _, _, _, _, _, _, h⟩ := h i m hi
  exact h
theorem TS.sl {st : TS} (h : st.Ok) : st.X.slots ≠ [] ∧ (st.X.slots.length : Int) = 6 ∧ ∀ s, (st.X.slot s).length ≤ st.all.length := ⟨h.g.ne, h.g.ln, fun s => by
  have := slot_len_le st.X s
  have := h.g.pm.length_eq
  omega⟩
theorem take_filter_succ {l : List En} {p : En → Bool} {i : Nat} {x : En} (h : l[i]? = some x) : (l.take (i + 1)).filter p = (l.take i).filter p ++ if p x then [x] else [] := by
  rw [List.take_add_one, h, List.filter_append]
  congr 1
  simp only [Option.toList_some, List.filter_cons, List.filter_nil]
end Go.Proofs.Ythefpmmeoajaiaa

/- CursorStays. -/
set_option linter.unusedVariables false
set_option linter.unusedSimpArgs false
namespace Go.Proofs.Ythefpmmeoajaiaa
open Go.RowKit Go.Shelf
attribute [local go_sem] OvM cell_ovm obj_ovm
attribute [local go_sem] Oper.semAt_some

set_option maxRecDepth 40000 in
set_option maxHeartbeats 4000000 in
theorem of28 (l : List En) (hn : l.length ≤ 1000) (v : Value) (s : Int) (w : World) (h : Own w 43 6 v l.length (rowE l)) :
    Calls Try.prog 54 #[v, .int .i64 s] w fun e w' => ∃ v', e = .returned v' ∧ Nw w w' 43 6 v' (l.filter (slotP s)).length (rowE (l.filter (slotP s))) ∧ Gr w w' := by
  obtain ⟨i0, hi, hz0, hz1, hz2⟩ := info_parts infoIten
  obtain ⟨a1, cap1, rfl, hc1, hm1, hat1⟩ := ownE_at h
  have HAT := Lib.hid hat1
  clear h hat1
  unfold maxLen at hm1
  go_enter Try.func54, Try.ntmps54
  go_wp2_with fail
  go_loopw [5, 6] (fun t5 t6 wx => ∃ i : Nat, i ≤ l.length ∧ t6 = .int .i64 i ∧ Hid (Nw w wx 43 6 t5 ((l.take i).filter (slotP s)).length (rowE ((l.take i).filter (slotP s))) ∧ Gr w wx)) (fun _ t6 _ => l.length - (intOf t6).toNat)
  case atStart => exact ⟨0, by omega, rfl, Lib.hid ⟨⟨nilRow _ _ _, fun q hq => by cases hq⟩, Gr.refl _⟩⟩
  case round =>
    obtain ⟨i, hil, rfl, HI⟩ := hrel
    by_cases hli : i < l.length
    · have hli' : (i : Int) < l.length := by omega
      obtain ⟨x, hx⟩ : ∃ x, l[i]? = some x := ⟨_, List.getElem?_eq_getElem hli⟩
      obtain ⟨g0, rfl, _, _, hc⟩ := HAT.out i x hx
      have hr : ∀ i' u, (enC x)[i']? = some u → wr.cell? ⟨g0, i * 6 + i', none⟩ = some u := fun i' u hu => HI.out.2.keep (hc i' u hu)
      have d0 := hr 0 _ rfl
      have d1 := hr 1 _ rfl
      have d2 := hr 2 _ rfl
      have d3 := hr 3 _ rfl
      have d4 := hr 4 _ rfl
      have d5 := hr 5 _ rfl
      simp only [Nat.add_zero] at d0 d1 d2 d3 d4 d5
      have HTF := Lib.hid (take_filter_succ (p := slotP s) hx)
      have hfl : ((l.take i).filter (slotP s)).length ≤ 1000 := by
        have h1 := List.length_filter_le (slotP s) (l.take i)
        rw [List.length_take] at h1
        omega
      clear hr hc hx
      by_cases hxs : x.slot = s
      · have hb : (x.slot == s) = true := beq_iff_eq.2 hxs
        have HTG : Hid ((l.take (i + 1)).filter (slotP s) = (l.take i).filter (slotP s) ++ [x]) := Lib.hid (by rw [HTF.out, show slotP s x = true from decide_eq_true hxs, if_pos rfl])
        clear hxs
        go_wp2_with (first
          | (at_builtin; go_must (refine wpList_appv _ rfl (.tmp 20) (.tmp 25) 61 rfl 43 i0 _ 6 56 Try.underlying61 hi hz0 hz1 hz2 rfl (by decide) u5 ((l.take i).filter (slotP s)).length (rowE ((l.take i).filter (slotP s))) rfl (HI.out.1.own.gr (by (repeat (first | (with_reducible exact Gr.refl _) | assumption | (with_reducible apply Gr.from_drew) | (with_reducible apply Gr.alloc) | (with_reducible apply Gr.drew) | (with_reducible refine Gr.trans ?_ (by assumption)) | (with_reducible refine Gr.setCell ?_ (by omega) _))))) (some ⟨wr.heap.size, 0, none⟩) 1 1 (enC x) rfl (src_newK wr (enC x) _ 6 rfl (enC_one x)) (by simp only [maxLen]; omega) (by omega) ?_); intro v2 w2 hA; have N2 := Lib.hid (hA.nw (HI.out.1.gr ((Gr.refl wr).alloc _)) (by have := HI.out.2.sz; simp; omega)); have HG2 := Lib.hid (hA.gw (HI.out.1.gr ((Gr.refl wr).alloc _)) (HI.out.2.alloc _)); clear hA)
          | fail)
        exact ⟨⟨i + 1, by omega, by simp, Lib.hid ⟨by rw [HTG.out, rowE_snoc, List.length_append]; exact N2.out, HG2.out⟩⟩, by simp [intOf]; omega⟩
      · have hb : (x.slot == s) = false := beq_false_of_ne hxs
        have HTG : Hid ((l.take (i + 1)).filter (slotP s) = (l.take i).filter (slotP s)) := Lib.hid (by rw [HTF.out, show slotP s x = false from decide_eq_false hxs, if_neg (by decide), List.append_nil])
        clear hxs
        go_wp2_with fail
        exact ⟨⟨i + 1, by omega, by simp, Lib.hid ⟨by rw [HTG.out]; exact HI.out.1, HI.out.2⟩⟩, by simp [intOf]; omega⟩
    · have hli' : ¬ (i : Int) < l.length := by omega
      obtain rfl : i = l.length := by omega
      rw [List.take_length] at HI
      go_wp2
      go_ret
      exact ⟨u5, rfl, HI.out.1, HI.out.2⟩
end Go.Proofs.Ythefpmmeoajaiaa

/- CursorAll, the plain side: the entries of a slot in their order; a slot that stays while others change. No walk. -/
set_option linter.unusedVariables false
set_option linter.unusedSimpArgs false
namespace Go.Proofs.Ythefpmmeoajaiaa

theorem foldT_sorted : ∀ (n : Nat) (L : List Tr), L.length = n → n ≤ 81 → (∀ t ∈ L, t.Ok) → ∀ s, ((foldT L).all.filter (slotP s)).Pairwise (fun a b => a.off + a.size ≤ b.off)
  | 0, L, hL, _, _, s => by
    rw [List.eq_nil_of_length_eq_zero hL]
    exact List.Pairwise.nil
  | n + 1, L, hL, hn, ht, s => by
    have hne : L ≠ [] := fun h => by rw [h] at hL; cases hL
    have e := List.dropLast_concat_getLast hne
    have ht' : ∀ t ∈ L.dropLast, t.Ok := fun m h => ht m (List.dropLast_subset L h)
    have h1 := foldT_sorted n L.dropLast (by rw [List.length_dropLast]; omega) (by omega) ht' s
    have h2 := foldT_ok L.dropLast (by rw [List.length_dropLast]; omega) ht'
    have hk := (ht _ (List.getLast_mem hne)).c
    rw [← e, foldT_snoc]
    generalize L.getLast hne = t at *
    show ((_ ++ [mkT (foldT L.dropLast) t]).filter (slotP s)).Pairwise _
    rw [List.filter_append, List.filter_cons, List.filter_nil]
    split
    · rename_i hs
      refine List.pairwise_append.2 ⟨h1, List.pairwise_singleton _ _, fun a ha b hb => ?_⟩
      rw [List.mem_singleton.1 hb]
      obtain ⟨a1, a2⟩ := List.mem_filter.1 ha
      have a3 : a.slot = s := of_decide_eq_true a2
      have a4 : t.b % 5 = s := of_decide_eq_true hs
      have a5 := h2.g.up a a1
      rw [a3] at a5
      show a.off + a.size ≤ (foldT L.dropLast).us (t.b % 5) + t.c % 3
      rw [a4]
      omega
    · simpa using h1
theorem foldT_slot (L : List Tr) (hn : L.length ≤ 81) (ht : ∀ t ∈ L, t.Ok) (s : Int) : (foldT L).all.filter (slotP s) = (foldT L).X.slot s := by
  have h := foldT_ok L hn ht
  refine pair_eq (R := fun a b => a.off + a.size ≤ b.off ∧ a.off < b.off) (fun a h => by omega) (fun a b c h1 h2 => by omega) ?_ (slot_lt (h.g.wf.slotOk s)) (fun o => ?_)
  · refine List.Pairwise.imp_of_mem (fun {a b} ha hb hab => ⟨hab, ?_⟩) (foldT_sorted _ L rfl hn ht s)
    have := (h.g.val (List.mem_filter.1 ha).1)
    omega
  · rw [h.g.slot, List.mem_filter]
    exact ⟨fun ⟨a, b⟩ => ⟨a, of_decide_eq_true b⟩, fun ⟨a, b⟩ => ⟨a, decide_eq_true b⟩⟩
/-- An index whose slot v holds l. -/
structure KV (X : IX) (v : Int) (l : List En) : Prop where
  wf : X.Wf
  n : X.slots.length = 6
  l : X.slot v = l
section
variable {X : IX} {v : Int} {l : List En}
theorem KV.drop (h : KV X v l) {s : Int} (hs : s ≠ v) : KV (dropX X s) v l := by
  refine ⟨drop_wf h.wf s, ?_, by rw [drop_slot h.wf, if_neg (fun e => hs e.symm)]; exact h.l⟩
  by_cases hh : X.has s = true
  · rw [drop_yes hh]; simp only [List.length_set]; exact h.n
  · rw [drop_no (by simpa using hh)]; exact h.n
theorem KV.add (h : KV X v l) {e : En} (he : e.slot ≠ v) : KV (addX X e) v l := by
  by_cases ha : addE X e = 0
  · have a := add_ok ha
    have hw := add_wf h.wf a
    refine ⟨hw, by rw [addX_eq a]; simp only [List.length_set]; exact h.n, ?_⟩
    rw [← h.l]
    refine pair_eq (R := fun a b => a.off + a.size ≤ b.off ∧ a.off < b.off) (fun a h => by omega) (fun a b c h1 h2 => by omega) (slot_lt (hw.slotOk v)) (slot_lt (h.wf.slotOk v)) (fun o => ?_)
    rw [hw.slot_mem, h.wf.slot_mem, (add_ents h.wf a).mem_iff, List.mem_cons]
    constructor
    · rintro ⟨rfl | h1, h2⟩
      · exact absurd h2 he
      · exact ⟨h1, h2⟩
    · exact fun ⟨h1, h2⟩ => ⟨.inr h1, h2⟩
  · rw [addX_no ha]; exact h
theorem KV.ne (h : KV X v l) : X.slots ≠ [] := fun h0 => by have := h.n; rw [h0] at this; cases this
theorem KV.peek (h : KV X v l) (hv : v < 6) (i : Nat) {e : En} (he : l[i]? = some e) : peekV X (curAt l v i) = .tuple #[enV e, .bool (X.needs e), .bool true, .int .i64 0] ∧ advC X (curAt l v i) = 0 ∧ advX X (curAt l v i) = curAt l v (i + 1) ∧ neededV X e = .tuple #[.bool (X.needs e), .int .i64 0] ∧ (curAt l v i).off ≤ e.off ∧ (curAt l v (i + 1)).off = e.off + e.size := by
  have hn := h.n
  have hlt := (List.getElem?_eq_some_iff.1 he).1
  have hvs : v < X.slots.length := by omega
  obtain rfl := h.l
  refine ⟨cur_pv h.wf h.ne hvs i he, by rw [cur_ac h.wf h.ne hvs i (by omega), if_pos hlt], cur_ax h.wf h.ne hvs i hlt, needed_in h.wf h.ne (List.mem_of_getElem? he), ?_, ?_⟩
  · have h1 := find_cur (h.wf.slotOk v) i (by omega)
    rw [he] at h1
    have h2 : atCu (curAt (X.slot v) v i) e = true := List.find?_some h1
    exact of_decide_eq_true h2
  · simp only [curAt, List.getD_eq_getElem?_getD, he, Option.getD_some]
theorem KV.last (h : KV X v l) (hv : v < 6) : peekV X (curAt l v l.length) = .tuple #[enV zE, .bool false, .bool false, .int .i64 0] ∧ advC X (curAt l v l.length) = 5 ∧ advX X (curAt l v l.length) = curAt l v l.length := by
  have hn := h.n
  have hvs : v < X.slots.length := by omega
  obtain rfl := h.l
  exact ⟨cur_pn h.wf h.ne hvs, by rw [cur_ac h.wf h.ne hvs _ (Nat.le_refl _), if_neg (by omega)], cur_axn h.wf h.ne hvs⟩
end
end Go.Proofs.Ythefpmmeoajaiaa

/- A choice of things that lie side by side, in any order. No program in sight. -/
set_option linter.unusedVariables false
set_option linter.unusedSimpArgs false
namespace Go.Proofs.Ythefpmmeoajaiaa
open Go.RowKit
theorem SW.sel {w0 w : World} {R R' : List Asn} (h : SW w0 R w) (is : List Nat) (hd : is.Nodup) (he : is.map (fun i => R[i]?) = R'.map some) : SW w0 R' w := by
  have hm : ∀ A ∈ R', A ∈ R := fun A hA => by
    have h1 : some A ∈ R'.map some := List.mem_map.2 ⟨A, hA, rfl⟩
    rw [← he] at h1
    obtain ⟨i, _, h2⟩ := List.mem_map.1 h1
    exact List.mem_of_getElem? h2
  have hp : (R'.map some).Pairwise (fun a b => ∀ A B, a = some A → b = some B → Dis A B) := by
    rw [← he]
    exact List.pairwise_map.2 (hd.imp (fun {i j} hij A B ha hb => h.get_ne ha hb hij))
  exact ⟨h.g, ⟨fun A hA => h.s.1 A (hm A hA), (List.pairwise_map.1 hp).imp (fun {A B} hab => hab A B rfl rfl)⟩, fun A hA => h.n A (hm A hA)⟩
/-- What a callee has laid beside what the caller held. -/
theorem SW.both {w w0 w1 : World} {R R2 : List Asn} (h : SW w R w0) (h2 : SW w0 R2 w1) : SW w (R2 ++ R) w1 := by
  have hr := h.s.gr h2.g
  refine ⟨h.g.trans h2.g, ⟨fun A hA => (List.mem_append.1 hA).elim (h2.s.1 A) (hr.1 A), List.pairwise_append.2 ⟨h2.s.2, h.s.2, fun A hA B hB k ka kb => ?_⟩⟩, fun A hA k hk => (List.mem_append.1 hA).elim (fun e => Nat.le_trans h.g.sz (h2.n A e k hk)) (fun e => h.n A e k hk)⟩
  have h3 := h2.n A hA k ka
  have h4 := h.s.lt hB k kb
  omega
/-- A block that lies apart from all of them. -/
theorem SW.addD {w0 W : World} {R : List Asn} {D : Nat} {o : Obj} (h : SW w0 R W) (hd : W.heap[D]? = some o) (hn : ∀ B ∈ R, ∀ k, B.S k → k ≠ D) (h0 : w0.heap.size ≤ D) : SW w0 (blkA D o :: R) W :=
  ⟨h.g, ⟨fun A hA => (List.mem_cons.1 hA).elim (fun e => by rw [e]; exact hd) (h.s.1 A), List.pairwise_cons.2 ⟨fun B hB k ka kb => hn B hB k kb ka, h.s.2⟩⟩, fun A hA k hk => (List.mem_cons.1 hA).elim (fun e => by rw [e] at hk; rw [show k = D from hk]; exact h0) (fun e => h.n A e k hk)⟩
end Go.Proofs.Ythefpmmeoajaiaa

/- For rows: slices of structs, and bytes. -/
set_option linter.unusedVariables false
set_option linter.unusedSimpArgs false
namespace Go.Proofs.Ythefpmmeoajaiaa
open Go.ChangeShapes Go.WideShapes Go.Deep
section
variable {H : Type} {enc : TypeId × Value → H} {P : Program} {w : World} {base : Nat} {spare : Nat → Bool} {held : Bool}
theorem open_slice_fields {t e : TypeId} {fs : Array Field} {fuel : Nat} {cs : List Value} {x : DataW H × List MemPlace} (ht : P.underlying t = some (.slice e)) (he : P.underlying e = some (.struct fs))
    (hone : oneCellFields P fs = true) (hC : P.cellsOf e = fs.size) (h : DataW.trod enc P w base spare held fuel t cs = some x) :
    (cs = [.slice none 0 0] ∧ x = (.nil, [])) ∨
    ∃ (a : Addr) (len cap m : Nat) (D : Nat → DataW H) (Pl : Nat → List MemPlace), cs = [.slice (some a) len cap] ∧ base ≤ a.block ∧ len ≤ cap ∧ cap ≤ maxLen ∧ m = (if spare a.block then cap else len) ∧
      x = (.slice ((List.range len).map D) ((List.range (m - len)).map fun j => D (len + j)), MemPlace.row a (m * fs.size) ++ (List.range m).flatMap Pl) ∧
      ∀ i, i < m → ∃ (ys : List (DataW H × List MemPlace)) (n : Nat), D i = .agg (ys.map (·.1)) ∧ Pl i = ys.flatMap (·.2) ∧ ys.length = fs.size ∧
        ∀ (j : Nat) (f : Field), fs[j]? = some f → ∃ (v : Value) (y : DataW H × List MemPlace), w.cell? (a.add (i * fs.size + j)) = some v ∧ ys[j]? = some y ∧ DataW.trod enc P w base spare held n f.type [v] = some y := by
  rcases open_slice ht h with h0 | ⟨a, len, cap, m, n, D, Pl, hcs, hb, hl, hm, hmm, hx, hi⟩
  · exact .inl h0
  · refine .inr ⟨a, len, cap, m, D, Pl, hcs, hb, hl, hm, hmm, by rw [hC] at hx; exact hx, fun i him => ?_⟩
    obtain ⟨cs', hc, ht'⟩ := hi i him
    rw [hC] at hc
    obtain ⟨ys, n', hn', hy, hlen, hyl, hf⟩ := DataW.trod_struct he ht'
    obtain ⟨_, hcl, hat⟩ := World.cells?_some hc
    simp only [Prod.mk.injEq] at hy
    refine ⟨ys, n', hy.1, hy.2, hyl, fun j f hj => ?_⟩
    obtain ⟨ho, hk⟩ := hone_of hone j f hj
    have hjl : j < fs.size := (Array.getElem?_eq_some_iff.1 hj).1
    have hcell := hat j hjl
    have hv : cs'[j]? = some (cs'[j]'(by omega)) := List.getElem?_eq_getElem (by omega)
    have h1 := hf j f hj
    rw [ho, hk] at h1
    have hone' : (cs'.drop j).take 1 = [cs'[j]'(by omega)] := by
      rw [List.drop_eq_getElem_cons (by omega)]
      rfl
    rw [hone'] at h1
    have hys : ys[j]? = some (ys[j]'(by omega)) := List.getElem?_eq_getElem (by omega)
    refine ⟨_, _, ?_, hys, h1.trans hys⟩
    rw [← Go.Deep.add_add, hcell, hv]
end

open Go.RowKit
theorem list_of {α : Type} (len : Nat) (d : α) (R : Nat → α → Prop) (h : ∀ i, i < len → ∃ x, R i x) : ∃ l : List α, l.length = len ∧ ∀ i, i < l.length → R i (l[i]?.getD d) := by
  classical
  refine ⟨(List.range len).map (fun i => if hi : i < len then Classical.choose (h i hi) else d), by simp, fun i hi => ?_⟩
  have hi' : i < len := by simpa using hi
  simp only [List.getElem?_map, List.getElem?_range hi', Option.map_some, Option.getD_some, dif_pos hi']
  exact Classical.choose_spec (h i hi')
theorem u8_of {a : Int} (h : (Lit.int .u8 a).wf = true) : ∃ c : UInt8, a = (c.toNat : Int) := by
  have h' : (decide (IntKind.u8.min ≤ a) && decide (a ≤ IntKind.u8.max)) = true := h
  have : 0 ≤ a ∧ a ≤ 255 := by simpa [IntKind.min, IntKind.max, IntKind.signed, IntKind.bits] using h'
  refine ⟨UInt8.ofNat a.toNat, ?_⟩
  rw [UInt8.toNat_ofNat_of_lt' (by have : UInt8.size = 256 := rfl; omega)]
  omega
theorem at_add {w : World} {a : Addr} {k : Nat} {v : Value} (h : w.cell? (a.add k) = some v) (hs : a.spot = none) : a.block < w.heap.size ∧ w.cell? ⟨a.block, a.off + k, none⟩ = some v := by
  have e : a.add k = ⟨a.block, a.off + k, none⟩ := by
    unfold Addr.add
    obtain ⟨b, o, s⟩ := a
    split
    · simp_all
    · rfl
  rw [e] at h
  refine ⟨?_, h⟩
  unfold World.cell? at h
  refine Classical.byContradiction fun hc => ?_
  rw [Array.getElem?_eq_none (by simpa using hc)] at h
  cases h
theorem spot_add {w : World} {a : Addr} {v : Value} (h : w.cell? (a.add 0) = some v) : a.spot = none := by
  simpa [Addr.add] using World.cell?_spot h
end Go.Proofs.Ythefpmmeoajaiaa
