/- Functions that hold many ranges over functions, one after the other: the marks that they leave. No program in sight. -/
import Derived.Test.YtmdfickejpeofaaBd7
import Derived.Test.YtmdfickejpeofaaBd13
set_option linter.unusedVariables false
set_option linter.unusedSimpArgs false
namespace Go.Proofs.Ytmdfickejpeofaa
open Go.RowKit
variable {P : Program}

def cdf (D : Nat) : Deferred := { target := .collected D, args := #[] }
/-- The marks as a thing. -/
def dsA (Ds : List Nat) : Asn := ⟨fun k => k ∈ Ds, fun w => ∀ D ∈ Ds, w.heap[D]? = some (.deferred (some [])), fun h m hs D hD => m.blk (h D hD) (hs D hD), fun h k hk => blkLt (h k hk)⟩
def clD (Ds : List Nat) (w : World) : World := Ds.foldl (fun w D => w.putObj D (.deferred none)) w
theorem clD_mdh : ∀ (Ds : List Nat) (w : World), Mdh (fun k => k ∈ Ds) w (clD Ds w)
  | [], w => Mdh.refl _ _
  | D :: Ds, w => (((Mdh.refl (fun k => k = D) w).putObj rfl _).mono (fun k hk => by rw [hk]; exact List.mem_cons_self ..)).trans ((clD_mdh Ds (w.putObj D (.deferred none))).mono (fun k hk => List.mem_cons_of_mem _ hk))
theorem clD_gr {w0 w : World} {Ds : List Nat} (h : Gr w0 w) (hn : ∀ D ∈ Ds, w0.heap.size ≤ D) : Gr w0 (clD Ds w) := h.md (clD_mdh Ds w) hn
theorem leavesMn {fn : Func} {tmps : Array Value} {R : Ending → World → Prop} {v : Value} : ∀ (Ds : List Nat) (w : World), (∀ D ∈ Ds, w.heap[D]? = some (.deferred (some []))) → Ds.Nodup → (results fn tmps).run P (clD Ds w) = .ok v (clD Ds w) → R (.returned v) (clD Ds w) →
    LeavesInM Fence.wide 3 P fn tmps R (Ds.map cdf) .returning w
  | [], w, _, _, hr, hR => ⟨v, hr, hR⟩
  | D :: Ds, w, h, hn, hr, hR => by
    have hn' := List.nodup_cons.1 hn
    refine ⟨by simp, .inl ⟨D, _, rfl, run_takeDeferred (h D (List.mem_cons_self ..)), leavesMn Ds _ (fun E hE => ?_) hn'.2 hr hR⟩⟩
    have hne : E ≠ D := fun e => hn'.1 (e ▸ hE)
    exact (World.putObj_heap_other hne).trans (h E (List.mem_cons_of_mem _ hE))
theorem retMn {fn : Func} {R : Ending → World → Prop} {a : Act} {w : World} {v : Value} (Ds : List Nat) (hd : a.defers = Ds.map cdf) (hk : ∀ D ∈ Ds, w.heap[D]? = some (.deferred (some []))) (hn : Ds.Nodup)
    (hr : (results fn a.tmps).run P (clD Ds w) = .ok v (clD Ds w)) (hR : R (.returned v) (clD Ds w)) : bodyPostM Fence.wide 3 P fn R .ret a w := by
  show LeavesInM _ _ _ _ _ _ _ _ _
  rw [hd]
  exact leavesMn Ds w hk hn hr hR
theorem SWz.close {w0 wl W : World} {A Z : Nat → Prop} {R : List Asn} {Ds : List Nat} {D : Nat} (h : SWz w0 wl A (dsA Ds :: R) Z W) (hz : Z D) (hw : w0.heap.size ≤ wl.heap.size) (hdef : W.heap[D]? = some (.deferred (some []))) : SW w0 (dsA (D :: Ds) :: R) W ∧ D ∉ Ds := by
  have hd := h.s.s.dis
  refine ⟨⟨h.s.g, ⟨fun B hB => ?_, List.pairwise_cons.2 ⟨fun B hB k hk hb => ?_, (List.pairwise_cons.1 h.s.s.2).2⟩⟩, fun B hB k hk => ?_⟩, fun hm => h.z _ (List.mem_cons_self ..) D hm hz⟩
  · rcases List.mem_cons.1 hB with rfl | hB
    · intro E hE
      rcases List.mem_cons.1 hE with rfl | hE
      · exact hdef
      · exact (show ∀ D ∈ Ds, W.heap[D]? = some (.deferred (some [])) from h.s.s.head) E hE
    · exact h.s.s.1 B (List.mem_cons_of_mem _ hB)
  · rcases List.mem_cons.1 hk with rfl | hk
    · exact h.z B (List.mem_cons_of_mem _ hB) _ hb hz
    · exact hd B hB k hk hb
  · rcases List.mem_cons.1 hB with rfl | hB
    · rcases List.mem_cons.1 hk with rfl | hk
      · exact Nat.le_trans hw (h.zn _ hz)
      · exact h.s.n _ (List.mem_cons_self ..) k hk
    · exact h.s.n B (List.mem_cons_of_mem _ hB) k hk
theorem SW.noDs {w0 w : World} {R : List Asn} (h : SW w0 R w) : SW w0 (dsA [] :: R) w := h.new (Gr.refl _) (A := dsA []) (fun D hD => by cases hD) (fun k hk => by cases hk)
end Go.Proofs.Ytmdfickejpeofaa

/- liveness.Retired. -/
set_option linter.unusedVariables false
set_option linter.unusedSimpArgs false
namespace Go.Proofs.Ytmdfickejpeofaa
open Go.RowKit Go.Shelf
attribute [local go_sem] OvM cell_ovm obj_ovm
attribute [local go_sem] Oper.semAt_some

def retP (X : IX) (e : En) : Bool := e.del && !X.needs e
def retL (X : IX) (n : Nat) : List En := (List.range n).flatMap fun s => (X.slot (s : Nat)).filter (retP X)
theorem retL_succ (X : IX) (n : Nat) : retL X (n + 1) = retL X n ++ (X.slot (n : Nat)).filter (retP X) := by simp [retL, List.range_succ]
theorem retL_le {X : IX} (h : X.Wf) : ∀ n, (retL X n).length ≤ 512 * n
  | 0 => by simp [retL]
  | n + 1 => by
    rw [retL_succ, List.length_append]
    have h1 := retL_le h n
    have h2 := h.slot_le (n : Nat)
    have h3 := List.length_filter_le (retP X) (X.slot (n : Nat))
    omega
abbrev lvR (bo b1 : Nat) (p : Option Addr) (v : Value) (L : List En) : List Asn := [blkA bo (.cells #[v] 45), rowA 53 6 v L.length (rowE L), blkA b1 (.cells #[.pointer p] 46)]
def RetPost (X : IX) (w : World) (e : Ending) (w' : World) : Prop := ∃ v, e = .returned (.tuple #[v, .int .i64 (if X.slots = [] then 1 else 0)]) ∧ Nw w w' 53 6 v (retL X X.slots.length).length (rowE (retL X X.slots.length)) ∧ Gr w w'
set_option maxRecDepth 40000 in
set_option maxHeartbeats 8000000 in
theorem Retired_any {w : World} {p : Option Addr} {X : IX} {S : Nat → Prop} (h : IXP w p X S) : Calls Try.prog 46 #[.pointer p] w (RetPost X w) := by
  obtain ⟨i0, hi, hz0, hz1, hz2⟩ := info_parts infoIten
  have H := Lib.hid h
  have HOK := Lib.hid h.ok
  clear h
  refine calls_of_wp_marks Try.func46 rfl ?_
  simp only [Try.ntmps46, List.size_toArray, List.length_cons, List.length_nil, Nat.reduceAdd, Nat.reduceSub, Array.replicate_succ, Array.replicate_zero, List.push_toArray, List.append_toArray, List.nil_append, List.cons_append]
  go_wp2_with fail
  obtain ⟨b1, hb1⟩ : ∃ q, q = w.heap.size := ⟨_, rfl⟩
  obtain ⟨w0, hw0⟩ : ∃ y, y = w.alloc (.cells #[.pointer p] 46) := ⟨_, rfl⟩
  have H0 : Hid (SW w [blkA b1 (.cells #[.pointer p] 46)] w0) := Lib.hid (by rw [hw0, hb1]; exact (SW.start w).alloc _)
  rw [← hw0, ← hb1]
  clear hw0 hb1
  refine (Copy_any (H.out.gr H0.out.g)).mono ?_
  rintro r w1 ⟨q, rfl, hg, hq, _⟩
  have H1 := Lib.hid (H0.out.gr hg)
  have c1 := (cellsOf (show w1.heap[b1]? = _ from H1.out.get (i := 0) rfl)).1
  have lb1 := blkLt (show w1.heap[b1]? = _ from H1.out.get (i := 0) rfl)
  clear hg
  by_cases h0 : X.slots = []
  · have hq0 := hq.2 h0
    have HC : Hid ((if X.slots = [] then (1 : Int) else 0) = 1 ∧ retL X X.slots.length = []) := Lib.hid ⟨if_pos h0, by rw [h0]; rfl⟩
    clear h0 hq
    subst hq0
    go_wp2_with fail
    exact retM0 (v := .tuple #[.slice none 0 0, .int .i64 1]) (by simp [results, Try.results46, go_sem]) rfl ⟨_, by rw [HC.out.1], by rw [HC.out.2]; exact ⟨nilRow _ _ _, fun k hk => by cases hk⟩, H1.out.g⟩
  · obtain ⟨q', rfl⟩ : ∃ q', q = some q' := by
      cases q with
      | none => exact absurd (hq.1 rfl) h0
      | some q' => exact ⟨q', rfl⟩
    obtain ⟨n, hn⟩ : ∃ n, n = X.slots.length := ⟨_, rfl⟩
    have HN : Hid ((if X.slots = [] then (1 : Int) else 0) = 0 ∧ X.slots.length = n) := Lib.hid ⟨if_neg h0, hn.symm⟩
    have h32 : n ≤ 32 := by rw [hn]; exact HOK.out.n
    have HSL : Hid (∀ w1, Gr w w1 → Calls Try.prog 87 #[.pointer p] w1 fun e w' => e = .returned (.int .i64 n) ∧ w1 = w') := Lib.hid (fun w1 g => by rw [hn]; exact Slots_any (H.out.gr g))
    have HLE : Hid (∀ j, j ≤ n → (retL X j).length ≤ 16384) := Lib.hid (fun j hj => by have := retL_le HOK.out j; omega)
    clear h0 hq hn
    obtain ⟨bo, hbo⟩ : ∃ q, q = w1.heap.size := ⟨_, rfl⟩
    have HS2 : Hid (SW w (dsA [] :: lvR bo b1 p (.slice none 0 0) (retL X 0)) (w1.alloc (.cells #[.slice none 0 0] 45))) := Lib.hid (by
      rw [hbo]
      exact ((H1.out.new (Gr.refl _) (A := rowA 53 6 (.slice none 0 0) 0 []) (nilRow _ _ _) (fun k hk => by cases hk)).alloc _).noDs)
    go_wp2_with (go_at_call 87; refine (HSL.out _ (by first | exact H1.out.g | exact H1.out.g.alloc _)).mono ?_; rintro r w2 ⟨rfl, rfl⟩)
    obtain ⟨w2, hw2⟩ : ∃ y, y = w1.alloc (.cells #[.slice none 0 0] 45) := ⟨_, rfl⟩
    rw [← hw2] at HS2
    rw [← hw2, ← hbo]
    clear hw2 hbo c1 lb1
    refine wp_loop (fun a wx => ∃ (j : Nat) (Ds : List Nat) (v u5 u13 u14 u15 u16 u17 u31 : Value), a = { tmps := #[.pointer p, .pointer (some ⟨b1, 0, none⟩), .slice none 0 0, .int .i64 0, .pointer (some ⟨bo, 0, none⟩), u5, undef, .pointer p, .pointer (some q'), .bool false, .pointer p, .int .i64 n, .int .i64 j, u13, u14, u15, u16, u17, undef, undef, undef, undef, undef, undef, undef, undef, undef, undef, undef, undef, undef, u31, undef], defers := Ds.map cdf } ∧ j ≤ n ∧ Hid (Ds.Nodup ∧ SW w (dsA Ds :: lvR bo b1 p v (retL X j)) wx))
      (fun a _ => n - (intOf (a.tmps.getD 12 undef)).toNat) ⟨0, [], _, _, _, _, _, _, _, _, rfl, by omega, Lib.hid ⟨List.nodup_nil, HS2.out⟩⟩ ?_
    intro a wr hI
    obtain ⟨j, Ds, v, u5, u13, u14, u15, u16, u17, u31, rfl, hj, HR⟩ := hI
    by_cases hlt : j < n
    · have hlt' : (j : Int) < n := by omega
      have c1 := (cellsOf (show wr.heap[b1]? = _ from HR.out.2.get (i := 3) rfl)).1
      go_wp2_with fail
      refine (Slot_any p (j : Nat) _).mono ?_
      rintro e' w3 ⟨bb, bk, rfl, h1, h2, h3, h4, hg⟩
      have HS3 := Lib.hid (HR.out.2.gr hg)
      have HI := Lib.hid (H.out.gr HS3.out.g)
      have HSEQ := Lib.hid (SeqSlotP HI.out (j : Nat) bb bk h1 h2)
      have HA : Hid (∀ q, (q = bb ∨ q = bk ∨ S q) → q < w3.heap.size) := Lib.hid (fun q hq => by
        have l1 := World.block_lt_of_cell? w3 ⟨bb, 0, none⟩ h1
        have l2 := World.block_lt_of_cell? w3 ⟨bk, 0, none⟩ h2
        rcases hq with rfl | rfl | hq
        · exact l1
        · exact l2
        · exact HI.out.lt q hq)
      have HZ : Hid (SWz w w3 (fun q => q = bb ∨ q = bk ∨ S q) (dsA Ds :: lvR bo b1 p v (retL X j ++ ([] : List En).filter (retP X))) (fun _ => False) w3) := Lib.hid (by
        rw [List.filter_nil, List.append_nil]
        exact SWz.start HS3.out (fun B hB k hk ha => by
          have l1 := HR.out.2.s.lt hB k hk
          have l2 := HR.out.2.n B hB k hk
          rcases ha with rfl | rfl | ha
          · omega
          · omega
          · have := H.out.lt k ha; omega))
      have HSLE := Lib.hid (HOK.out.slot_le (j : Nat))
      have HRL := Lib.hid (HLE.out j hj)
      have HNX := Lib.hid (retL_succ X j)
      generalize retL X j = L0 at *
      clear h1 h2 h3 h4 hg c1
      go_wp2_with fail
      apply wp_rangeFunc_zx (gf := 152) (lb := #[.pointer (some ⟨bb, 0, none⟩), .pointer (some ⟨bk, 0, none⟩)]) rfl (enters_of Try.func152 (by kernel_rfl) rfl) HSEQ.out (Mdh.refl _ w3) HA.out (fun _ => rfl)
        (fun Z pre X' => ∃ v, SWz w w3 (fun q => q = bb ∨ q = bk ∨ S q) (dsA Ds :: lvR bo b1 p v (L0 ++ pre.filter (retP X))) Z X')
        (fun _ _ _ => False) (fun _ _ _ => False)
        (Apart.ex fun v => SWz.apart HS3.out.g.sz (fun pre : List En => dsA Ds :: lvR bo b1 p v (L0 ++ pre.filter (retP X)))) apart_no apart_no
        ⟨_, HZ.out⟩ (fun Z pre X' ⟨v, h⟩ => h.frm HS3.out.g) (fun x => boxE x)
        _ ?assign ?body ?hend ?hret
      case hret => intro _ _ _ _ _ _ _ h; exact h.elim
      case assign =>
        intro l x bx X' K hbx hK
        dsimp only [encE, enV]
        gi_wp2
        rw [← hbx]
        exact hK
      case body =>
        intro l Z pre x bx X' hI hbx hx hzx hzl hlr hsp
        obtain ⟨v, hI⟩ := hI
        have HIZ := Lib.hid hI
        have HX := Lib.hid hx
        have HB1 := Lib.hid (show X'.heap[b1]? = _ from hI.s.get (i := 3) rfl)
        have HPL : Hid (pre.length ≤ 511) := Lib.hid (by have := hsp.length_le; have := HSLE.out; simp at *; omega)
        have dx := (cellsOf HX.out).1
        have d1 := (cellsOf HB1.out).1
        have HIX : Hid (IXP X' p X S) := Lib.hid (H.out.gr hI.s.g)
        clear hI hbx hx hzx hzl hlr hsp
        cases hdl : x.del with
        | false =>
          have HN := Lib.hid (filter_no (p := retP X) (l := pre) (x := x) (by simp [retP, hdl]))
          rw [hdl] at dx
          clear hdl
          gi_wp2_with fail
          refine ⟨trivial, ?_⟩
          gi_wp2_with fail
          exact ⟨Mdh.refl _ _, v, by rw [HN.out]; exact HIZ.out⟩
        | true =>
          have HDL := Lib.hid hdl
          have HND := Lib.hid (needed_any HIX.out x)
          simp only [enV] at HND
          rw [hdl] at dx HND
          clear hdl
          gi_wp2_with fail
          refine ⟨trivial, (CallsIn.inRound l (callsIn_wide.2 HND.out)).mono ?_⟩
          rintro e w9 ⟨rfl, hg9⟩
          have HZ9 := Lib.hid (HIZ.out.gr hg9)
          have HX9 := Lib.hid (hg9.blk HX.out)
          clear hg9 d1 dx
          cases hnx : X.needs x with
          | true =>
            have HN := Lib.hid (filter_no (p := retP X) (l := pre) (x := x) (by simp [retP, hnx]))
            clear hnx
            gi_wp2_with fail
            exact ⟨HZ9.out.2, v, by rw [HN.out]; exact HZ9.out.1⟩
          | false =>
            have HN := Lib.hid (filter_yes (p := retP X) (l := pre) (x := x) (by simp [retP, hnx, HDL.out]))
            have HFL : Hid ((L0 ++ pre.filter (retP X)).length ≤ 16384 + 511) := Lib.hid (by rw [List.length_append]; have := List.length_filter_le (retP X) pre; have := HPL.out; have := HRL.out; omega)
            have HAP := Lib.hid (List.append_assoc L0 (pre.filter (retP X)) [x])
            generalize L0 ++ pre.filter (retP X) = kept at *
            have HO := Lib.hid (show Own w9 53 6 v kept.length (rowE kept) from HZ9.out.1.s.get (i := 2) rfl)
            have HB := Lib.hid (show w9.heap[bo]? = _ from HZ9.out.1.s.get (i := 1) rfl)
            have dx := (cellsOf HX9.out).1
            have lx := blkLt HX9.out
            obtain ⟨db, fb⟩ := cellsOf HB.out
            have lbb := blkLt HB.out
            have HNB : Hid (¬ v.ownBlock = some bo) := Lib.hid (own_ne HO.out HB.out (by decide))
            have hfl := HFL.out
            clear hnx
            gi_wp2_with (first
              | (gi_at_builtin; go_must (refine wpListIn_appv _ rfl (.tmp 27) (.tmp 29) 45 rfl 53 i0 _ 6 56 Try.underlying45 hi hz0 hz1 hz2 rfl (by decide) v kept.length (rowE kept) rfl (HO.out.gr (by (repeat (first | (with_reducible exact Gr.refl _) | assumption | (with_reducible apply Gr.from_drew) | (with_reducible apply Gr.alloc) | (with_reducible apply Gr.drew) | (with_reducible refine Gr.trans ?_ (by assumption)) | (with_reducible refine Gr.setCell ?_ (by omega) _))))) (some ⟨w9.heap.size, 0, none⟩) 1 1 (enC x) rfl ((src_newK w9 (enC x) _ 6 rfl (enC_one x))) (by simp only [maxLen]; omega) (by omega) ?_); intro v2 w10 hA; obtain ⟨a2, c2, rfl⟩ := hA.val; have HAV := Lib.hid hA; have HB2 := Lib.hid ((hA.mdh (fun g h => h)).blk (((Gr.refl w9).alloc _).blk HB.out) HNB.out); clear hA; obtain ⟨db2, fb2⟩ := cellsOf HB2.out)
              | fail)
            have z2 := HZ9.out.1.gr ((Gr.refl w9).alloc (.cells (enC x).toArray 53))
            have z3 := z2.1.step (i := 2) (B' := rowA 53 6 (.slice a2 (kept.length + 1) c2) (kept.length + 1) (rowE kept ++ enC x)) rfl HA.out (HAV.out.mdh (fun g h => h)) (fun k hk => .inl hk) HAV.out.1 (fun k hq => HAV.out.2.1 k hq)
            have z4 := z3.1.step (i := 1) (B' := blkA bo (.cells #[.slice a2 (kept.length + 1) c2] 45)) rfl HA.out ((Mdh.refl (fun k => k = bo) w10).setCell (p := ⟨bo, 0, none⟩) rfl (.slice a2 (kept.length + 1) c2)) (fun k hk => .inl hk) (blkSet (j := 0) (u := .slice a2 (kept.length + 1) c2) HB2.out) (fun k hk => .inl hk)
            refine ⟨((HZ9.out.2.trans z2.2).trans z3.2).trans z4.2, .slice a2 (kept.length + 1) c2, ?_⟩
            rw [HN.out, ← HAP.out]
            show SWz w w3 _ (dsA Ds :: [_, rowA _ _ _ (kept ++ [x]).length (rowE (kept ++ [x])), _]) Z _
            rw [rowE_snoc, List.length_append]
            exact z4.1
      case hend =>
        intro Z D xs W hD hZD hcase hdef
        obtain ⟨hxs, v', hI⟩ := hcase.elim (fun h => h) (fun h => h.2.elim)
        have hxs' : xs = X.slot (j : Nat) := hxs
        subst hxs'
        rw [← HNX.out] at hI
        have hcl := hI.close hZD HS3.out.g.sz hdef
        have HCL := Lib.hid hcl
        clear hcase hI hxs hcl hdef
        dsimp only
        go_wp2_with fail
        exact ⟨⟨j + 1, D :: Ds, v', _, _, _, _, _, _, _, by go_num, by omega, Lib.hid ⟨List.nodup_cons.2 ⟨HCL.out.2, HR.out.1⟩, HCL.out.1⟩⟩, by simp [intOf]; omega⟩
    · have hlt' : ¬ (j : Int) < n := by omega
      obtain rfl : j = n := by omega
      have db := (cellsOf (show wr.heap[bo]? = _ from HR.out.2.get (i := 1) rfl)).1
      go_wp2_with fail
      have hn := HR.out.2.n (dsA Ds) (List.mem_cons_self ..)
      have hds := HR.out.2.s.dis
      refine retMn (v := .tuple #[v, .int .i64 0]) Ds rfl (show ∀ D ∈ Ds, _ from HR.out.2.s.head) HR.out.1 (by simp [results, Try.results46, go_sem]) ⟨v, by rw [HN.out.1], ?_, clD_gr HR.out.2.g hn⟩
      rw [HN.out.2]
      exact ⟨(show Own wr _ _ _ _ _ from HR.out.2.get (i := 2) rfl).mdh (clD_mdh Ds wr) (fun k hk hkD => hds _ (List.mem_cons_of_mem _ (List.mem_cons_self ..)) k hkD hk), fun q hq => HR.out.2.n _ (List.mem_cons_of_mem _ (List.mem_cons_of_mem _ (List.mem_cons_self ..))) q hq⟩
end Go.Proofs.Ytmdfickejpeofaa

/- drumlinlaw24: the examples of the chapter. -/
set_option linter.unusedVariables false
set_option linter.unusedSimpArgs false
namespace Go.Proofs.Ytmdfickejpeofaa
open Go.RowKit Go.Shelf
attribute [local go_sem] OvM cell_ovm obj_ovm
attribute [local go_sem] Oper.semAt_some

theorem low_b {k : ByteArray} {c : UInt8} (h : k = ⟨#[c]⟩) (hc : c.toNat < 128) : Low k := by
  subst h
  intro j hj
  have h1 : j < 1 := hj
  have h0 : j = 0 := by omega
  subst h0
  exact hc
/-- Adding entries, all of which are taken. -/
structure AllAdd (l : List En) (X0 : IX) (St : Nat → IX) : Prop where
  z : St 0 = X0
  s : ∀ j x, l[j]? = some x → addE (St j) x = 0 ∧ St (j + 1) = addX (St j) x ∧ Low x.key ∧ En64 x
def stAdd (l : List En) (X0 : IX) (j : Nat) : IX := (l.take j).foldl addX X0
theorem stAdd_next (l : List En) (X0 : IX) (j : Nat) (x : En) (h : l[j]? = some x) : stAdd l X0 (j + 1) = addX (stAdd l X0 j) x := by
  unfold stAdd
  rw [List.take_add_one, h, List.foldl_append]
  rfl
def lvD : En := ⟨3, ⟨#[107]⟩, true, 1, 0, 17⟩
def lvM : En := ⟨4, ⟨#[109]⟩, false, 1, 20, 19⟩
def lvL : List En := [⟨1, ⟨#[107]⟩, false, 0, 0, 19⟩, ⟨2, ⟨#[109]⟩, false, 0, 20, 19⟩, lvD, lvM, ⟨4, ⟨#[109]⟩, false, 2, 0, 19⟩]
theorem lv_add : AllAdd lvL (ixNew 3) (stAdd lvL (ixNew 3)) := ⟨rfl, by
  intro j x h
  refine (fun (a : addE (stAdd lvL (ixNew 3) j) x = 0 ∧ Low x.key ∧ En64 x) => ⟨a.1, stAdd_next _ _ j x h, a.2⟩) ?_
  match j, h with
  | 0, h => cases h; exact ⟨by kernel_rfl, low_b rfl (by decide), by unfold En64; decide⟩
  | 1, h => cases h; exact ⟨by kernel_rfl, low_b rfl (by decide), by unfold En64; decide⟩
  | 2, h => cases h; exact ⟨by kernel_rfl, low_b rfl (by decide), by unfold En64; decide⟩
  | 3, h => cases h; exact ⟨by kernel_rfl, low_b rfl (by decide), by unfold En64; decide⟩
  | 4, h => cases h; exact ⟨by kernel_rfl, low_b rfl (by decide), by unfold En64; decide⟩
  | _ + 5, h => cases h⟩
def lvX : IX := stAdd lvL (ixNew 3) 5
def lvX1 : IX := dropX lvX 0
def lvX2 : IX := dropX lvX1 2
theorem lv_k0 : keptB lvX 0 [] = true := by kernel_rfl
theorem lv_k1 : keptB lvX 1 [lvD] = true := by kernel_rfl
theorem lv_k2 : keptB lvX 2 [] = true := by kernel_rfl
theorem lv_n1 : neededV lvX ⟨3, ⟨#[107]⟩, true, 1, 1, 17⟩ = .tuple #[.bool false, .int .i64 5] := by kernel_rfl
theorem lv_n2 : neededV lvX lvD = .tuple #[.bool true, .int .i64 0] := by kernel_rfl
theorem lv_d1 : (lvX.slot 0).length = 2 ∧ dropC lvX 0 = 0 := ⟨by kernel_rfl, by kernel_rfl⟩
theorem lv_k3 : keptB lvX1 1 [] = true := by kernel_rfl
theorem lv_r : retL lvX1 lvX1.slots.length = [lvD] := by kernel_rfl
theorem lv_s : (if lvX1.slots = [] then (1 : Int) else 0) = 0 := by kernel_rfl
theorem lv_d2 : (lvX1.slot 2).length = 1 ∧ dropC lvX1 2 = 0 := ⟨by kernel_rfl, by kernel_rfl⟩
theorem lv_k4 : keptB lvX2 1 [lvM] = true := by kernel_rfl
set_option maxRecDepth 40000 in
set_option maxHeartbeats 4000000 in
theorem lv_example (w : World) : Calls Try.prog 112 #[] w fun e w' => ∃ b S, e = .returned (.pointer (some ⟨b, 0, none⟩)) ∧ SW w [ixA b lvX S] w' := by
  have HST := Lib.hid lv_add.s
  go_enter Try.func112, Try.ntmps112
  go_wp2_with fail
  refine (New_any 3 w (by decide) (by decide)).mono ?_
  rintro e w1 ⟨b, S, rfl, h1, h2, h3⟩
  have HS1 : Hid (SW w [ixA b (stAdd lvL (ixNew 3) 0) S] w1) := Lib.hid ((SW.start w).ixnew h1 h2 h3)
  have HG := Gr.refl w1
  clear h1 h2 h3
  go_wp2_with (first
    | (go_at_call 115; refine (put_any _ _ _ _ 19 (by decide) (by decide) _).mono ?_; rintro e w2 ⟨rfl, hg⟩; replace HG := HG.trans hg; clear hg)
    | (go_at_call 114; refine (del_any _ _ _ _ 17 (by decide) (by decide) _).mono ?_; rintro e w2 ⟨rfl, hg⟩; replace HG := HG.trans hg; clear hg)
    | fail)
  obtain ⟨g, hg⟩ : ∃ q, q = w2.heap.size := ⟨_, rfl⟩
  obtain ⟨w3, hw3⟩ : ∃ y, y = w2.alloc (.cells (rowE lvL).toArray 53) := ⟨_, rfl⟩
  have HS3 : Hid (SW w [ixA b (stAdd lvL (ixNew 3) 0) S, blkA g (.cells (rowE lvL).toArray 53)] w3) := Lib.hid (by rw [hw3, hg]; exact (HS1.out.gr HG).allocT _)
  simp only [rowE, lvL, lvD, lvM, enC, List.flatMap_cons, List.flatMap_nil, List.cons_append, List.nil_append, List.append_nil] at hw3
  rw [← hw3, ← hg]
  clear hw3 hg HG
  go_loopw [4] (fun t4 wx => ∃ (j : Nat) (S : Nat → Prop), j ≤ 5 ∧ t4 = .int .i64 j ∧ Hid (SW w [ixA b (stAdd lvL (ixNew 3) j) S, blkA g (.cells (rowE lvL).toArray 53)] wx)) (fun t4 _ => 5 - (intOf t4).toNat)
  case atStart => exact ⟨0, S, by omega, rfl, HS3⟩
  case round =>
    obtain ⟨j, S, hj, rfl, HR⟩ := hrel
    by_cases hlt : j < 5
    · have hlt' : (j : Int) < 5 := by omega
      obtain ⟨x, hx⟩ : ∃ x, lvL[j]? = some x := ⟨_, List.getElem?_eq_getElem (show j < 5 from hlt)⟩
      have HX := Lib.hid (HST.out j x hx)
      have cc := (cellsOf (show wr.heap[g]? = _ from HR.out.get (i := 1) rfl)).1
      have hr : ∀ c u, (enC x)[c]? = some u → wr.cell? ⟨g, j * 6 + c, none⟩ = some u := fun c u hu => (cc _).trans (by rw [List.getElem?_toArray]; exact rowE_get lvL j x hx c u hu)
      have d0 := hr 0 _ rfl
      have d1 := hr 1 _ rfl
      have d2 := hr 2 _ rfl
      have d3 := hr 3 _ rfl
      have d4 := hr 4 _ rfl
      have d5 := hr 5 _ rfl
      simp only [Nat.add_zero] at d0 d1 d2 d3 d4 d5
      clear hr cc hx
      generalize hst : stAdd lvL (ixNew 3) (j + 1) = Y1 at HX
      have HY := Lib.hid hst
      clear hst
      go_wp2_with (go_at_call 20; refine (Add_any HR.out.ix x HX.out.2.2.1 HX.out.2.2.2).mono ?_; rintro e w4 ⟨rfl, hp⟩; rw [HX.out.1]; have HP := Lib.hid hp; clear hp)
      obtain ⟨S', hI⟩ := HR.out.post HP.out
      go_roundw
      case rel => exact ⟨j + 1, S', by omega, by go_num, Lib.hid (by rw [HY.out, HX.out.2.1]; exact hI)⟩
      case measure => simp [intOf]; omega
    · have hlt' : ¬ (j : Int) < 5 := by omega
      obtain rfl : j = 5 := by omega
      go_wp2
      go_ret
      exact ⟨b, rfl, S, HR.out.sub (.cons_cons _ (List.nil_sublist _))⟩
theorem own_nilE (w : World) : Own w 53 6 (.slice none 0 0) ([] : List En).length (rowE []) := nilRow w _ _
set_option maxRecDepth 40000 in
set_option maxHeartbeats 8000000 in
theorem lv_works (w : World) : Calls Try.prog 36 #[] w fun e w' => e = .returned (.bool true) ∧ Gr w w' := by
  go_enter Try.func36, Try.ntmps36
  go_wp2_with fail
  refine (lv_example w).mono ?_
  rintro e w1 ⟨b, S, rfl, hs⟩
  have H1 := Lib.hid hs
  clear hs
  go_wp2_with fail
  refine (kept_any H1.out.ixp 0 [] _ (own_nilE _) (by decide) (fun e he => by cases he)).mono ?_
  rintro e w2 ⟨rfl, hg⟩
  rw [lv_k0]
  have H2 := Lib.hid (H1.out.gr hg)
  clear hg
  go_wp2_with (go_at_call 114; refine (del_any _ _ _ _ 17 (by decide) (by decide) _).mono ?_; rintro e w3 ⟨rfl, hg⟩; have H3 := Lib.hid (H2.out.gr hg); clear hg)
  refine (kept_any (H3.out.gr ((Gr.refl _).alloc _)).ixp 1 [lvD] _ (own_lit w3 _ 6 1 (rowE [lvD]) rfl (by decide)) (by decide) (fun e he => by rw [List.mem_singleton.1 he]; decide)).mono ?_
  rintro e w4 ⟨rfl, hg⟩
  rw [lv_k1]
  have H4 := Lib.hid ((H3.out.gr ((Gr.refl _).alloc _)).gr hg)
  clear hg
  go_wp2_with fail
  refine (kept_any H4.out.ixp 2 [] _ (own_nilE _) (by decide) (fun e he => by cases he)).mono ?_
  rintro e w5 ⟨rfl, hg⟩
  rw [lv_k2]
  have H5 := Lib.hid (H4.out.gr hg)
  clear hg
  go_wp2_with (go_at_call 114; refine (del_any _ _ _ _ 17 (by decide) (by decide) _).mono ?_; rintro e w6 ⟨rfl, hg⟩; have H6 := Lib.hid (H5.out.gr hg); clear hg)
  refine (Needed_any H6.out.ixp ⟨3, ⟨#[107]⟩, true, 1, 1, 17⟩).mono ?_
  rintro e w7 ⟨rfl, hg⟩
  rw [lv_n1]
  have H7 := Lib.hid (H6.out.gr hg)
  clear hg
  go_wp2_with (go_at_call 114; refine (del_any _ _ _ _ 17 (by decide) (by decide) _).mono ?_; rintro e w8 ⟨rfl, hg⟩; have H8 := Lib.hid (H7.out.gr hg); clear hg)
  refine (Needed_any H8.out.ixp lvD).mono ?_
  rintro e w9 ⟨rfl, hg⟩
  rw [lv_n2]
  have H9 := Lib.hid (H8.out.gr hg)
  clear hg
  go_wp2_with fail
  refine (Drop_any H9.out.ix 0).mono ?_
  rintro e w10 ⟨rfl, hp⟩
  rw [lv_d1.1, lv_d1.2]
  obtain ⟨S10, hs⟩ := H9.out.post hp
  have H10 : Hid (SW w [ixA b lvX1 S10] w10) := Lib.hid hs
  clear hs hp
  go_wp2_with fail
  refine (Retired_any H10.out.ixp).mono ?_
  rintro e w11 ⟨v, rfl, hr, hg⟩
  rw [lv_s]
  rw [lv_r] at hr
  have HO := Lib.hid hr.own
  obtain ⟨a, cap, rfl, _⟩ := ownE_at hr.own
  have H11 := Lib.hid (H10.out.gr hg)
  clear hr hg
  go_wp2_with fail
  refine (kept_any H11.out.ixp 1 [] _ (own_nilE _) (by decide) (fun e he => by cases he)).mono ?_
  rintro e w12 ⟨rfl, hg⟩
  rw [lv_k3]
  have H12 := Lib.hid (H11.out.gr hg)
  have HO12 := Lib.hid (HO.out.gr hg)
  clear hg
  go_wp2_with (go_at_call 114; refine (del_any _ _ _ _ 17 (by decide) (by decide) _).mono ?_; rintro e w13 ⟨rfl, hg⟩; have H13 := Lib.hid (H12.out.gr hg); have HO13 := Lib.hid (HO12.out.gr hg); clear hg)
  refine (SameE [lvD] [lvD] _ _ _ (HO13.out.gr ((Gr.refl _).alloc _)) (own_lit w13 _ 6 1 (rowE [lvD]) rfl (by decide)) (by decide)).mono ?_
  rintro e w14 ⟨rfl, hg⟩
  rw [decide_eq_true (rfl : [lvD] = [lvD])]
  have H14 := Lib.hid ((H13.out.gr ((Gr.refl _).alloc _)).gr hg)
  clear hg
  go_wp2_with fail
  refine (Drop_any H14.out.ix 2).mono ?_
  rintro e w15 ⟨rfl, hp⟩
  rw [lv_d2.1, lv_d2.2]
  obtain ⟨S15, hs⟩ := H14.out.post hp
  have H15 : Hid (SW w [ixA b lvX2 S15] w15) := Lib.hid hs
  clear hs hp
  go_wp2_with (go_at_call 115; refine (put_any _ _ _ _ 19 (by decide) (by decide) _).mono ?_; rintro e w16 ⟨rfl, hg⟩; have H16 := Lib.hid (H15.out.gr hg); clear hg)
  refine (kept_any (H16.out.gr ((Gr.refl _).alloc _)).ixp 1 [lvM] _ (own_lit w16 _ 6 1 (rowE [lvM]) rfl (by decide)) (by decide) (fun e he => by rw [List.mem_singleton.1 he]; decide)).mono ?_
  rintro e w17 ⟨rfl, hg⟩
  rw [lv_k4]
  have H17 := Lib.hid ((H16.out.gr ((Gr.refl _).alloc _)).gr hg)
  clear hg
  go_wp2
  go_ret
  exact ⟨rfl, H17.out.g⟩
end Go.Proofs.Ytmdfickejpeofaa
