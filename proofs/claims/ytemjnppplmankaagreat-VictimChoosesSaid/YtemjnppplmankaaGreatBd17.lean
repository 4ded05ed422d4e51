/- Victims of a made index, in plain Lean. No walk. -/
import Derived.Test.YtemjnppplmankaaGreatBd16
import Derived.Test.YtemjnppplmankaaGreatBd10
import Derived.Test.YtemjnppplmankaaGreatBd13
import Derived.Test.YtemjnppplmankaaGreatBd14
import Derived.Test.YtemjnppplmankaaGreatBd15
set_option linter.unusedVariables false
set_option linter.unusedSimpArgs false
namespace Go.Proofs.YtemjnppplmankaaGreat

def allI (n : Nat) : List Int := (List.range n).map (fun (i : Nat) => (i : Int))
theorem allI_len (n : Nat) : (allI n).length = n := by simp [allI]
theorem allI_snoc (n : Nat) : allI (n + 1) = allI n ++ [(n : Int)] := by simp [allI, List.range_succ]
theorem allI_mem {n : Nat} {s : Int} : s ∈ allI n ↔ 0 ≤ s ∧ s < n := by
  simp only [allI, List.mem_map, List.mem_range]
  constructor
  · rintro ⟨i, h, rfl⟩; omega
  · intro h; exact ⟨s.toNat, by omega, by omega⟩
theorem allI_nodup (n : Nat) : (allI n).Nodup := by
  refine List.pairwise_iff_getElem.2 (fun i j hi hj hij e => ?_)
  simp [allI] at e
  omega
def sidesL (X : IX) (next : Int) (l : List Int) : List Sd := l.map (sideOf X next)
theorem sidesL_len (X : IX) (next : Int) (l : List Int) : (sidesL X next l).length = l.length := by simp [sidesL]
theorem sidesL_slots (X : IX) (next : Int) (l : List Int) : (sidesL X next l).map (·.1) = l := by
  unfold sidesL
  rw [List.map_map]
  exact List.map_id'' (fun _ => rfl) l
theorem sidesL_back {X : IX} {next : Int} {l : List Int} {M : List Sd} (h : M.Perm (sidesL X next l)) : sidesL X next (M.map (·.1)) = M := by
  unfold sidesL
  rw [List.map_map]
  refine (List.map_congr_left (g := id) (fun x hx => ?_)).trans (List.map_id M)
  obtain ⟨s, hs, rfl⟩ := List.mem_map.1 (h.mem_iff.1 hx)
  rfl
theorem sumZ_bd' (c : Int) (hc : 0 ≤ c) : ∀ (l : List En) (a : Int), (∀ e ∈ l, 0 ≤ e.size ∧ e.size ≤ c) → a ≤ l.foldl (fun a e => a + e.size) a ∧ l.foldl (fun a e => a + e.size) a ≤ a + c * (l.length : Int)
  | [], a, _ => by simp
  | e :: l, a, h => by
    have h1 := h e (by simp)
    have h2 := sumZ_bd' c hc l (a + e.size) (fun x hx => h x (List.mem_cons_of_mem _ hx))
    have h3 : c * (((e :: l).length : Nat) : Int) = c * (l.length : Int) + c := by rw [List.length_cons, Int.natCast_add, Int.mul_add]; simp
    rw [h3, List.foldl_cons]
    omega
theorem sumZ_bd {c : Int} (hc : 0 ≤ c) {l : List En} (h : ∀ e ∈ l, 0 ≤ e.size ∧ e.size ≤ c) : 0 ≤ sumZ l ∧ sumZ l ≤ c * (l.length : Int) := by
  have := sumZ_bd' c hc l 0 h
  unfold sumZ
  omega
theorem made_side {st : MS} {N : Int} {j : Nat} (h : st.Ok N j) (hj : j ≤ 100) (hN : N ≤ 32) {s : Int} (h0 : 0 ≤ s) (h1 : s < N) : chkS 8176 (sideOf st.X st.nx s) = true ∧ 1 ≤ (sideOf st.X st.nx s).2.2 ∧ (sideOf st.X st.nx s).2.2 ≤ st.nx := by
  have hk : ∀ e ∈ keepL st.X s, 0 ≤ e.size ∧ e.size ≤ 78 := fun e he => by
    have h2 := (h.g.slot s e).1 (List.mem_filter.1 he).1
    have h3 := h.e e h2.1
    have h4 := h.g.val h2.1
    omega
  have h2 := sumZ_bd (by omega) hk
  have h3 : (keepL st.X s).length ≤ 100 := by
    have a1 : (keepL st.X s).length ≤ (st.X.slot s).length := List.length_filter_le _ _
    have a2 := slot_len_le st.X s
    have a3 := h.g.len
    have a4 := h.n
    omega
  have h5 := slot_max h.g.wf s
  have h6 : (byOf st.X s).last < st.nx := by
    rcases h5.at' with e | ⟨e, he, e1⟩
    · rw [e]; have := h.q0; omega
    · have := (h.e e ((h.g.slot s e).1 he).1).2.1
      omega
  have h7 := h5.z
  have h8 := h.q1
  have h9 : (sideOf st.X st.nx s) = (s, sumZ (keepL st.X s), st.nx - (byOf st.X s).last) := rfl
  rw [h9]
  generalize sumZ (keepL st.X s) = k at *
  generalize (byOf st.X s).last = q at *
  refine ⟨?_, by show 1 ≤ st.nx - q; omega, by show st.nx - q ≤ st.nx; omega⟩
  show (inB 8176 1 8192 && inB s 0 31 && inB k 0 8176 && inB (st.nx - q) 0 1099511627776) = true
  simp only [inB, Bool.and_eq_true, decide_eq_true_eq]
  omega
theorem made_chk26 {st : MS} {N : Int} {j : Nat} (h : st.Ok N j) (hj : j ≤ 100) (hN : N ≤ 32) {l : List Int} (hl : ∀ s ∈ l, 0 ≤ s ∧ s < N) : ∀ x ∈ sidesL st.X st.nx l, chkS 8176 x = true := fun x hx => by
  obtain ⟨s, hs, rfl⟩ := List.mem_map.1 hx
  exact (made_side h hj hN (hl s hs).1 (hl s hs).2).1
/-- One list of slots in another order, or some of them. -/
theorem ord_same {policy room : Int} (hp : policy = 1 ∨ policy = 2) {X : IX} {nx : Int} {l l' : List Int} (hd : l.Nodup) (hc : ∀ x ∈ sidesL X nx l, chkS room x = true) (hpm : l'.Perm l) {M M' : List Sd} (h : OrdS policy room (sidesL X nx l) M) (h' : OrdS policy room (sidesL X nx l') M') : M' = M := by
  have hT := pol_tot hp hc (by rw [sidesL_slots]; exact hd)
  exact srt_uniq hT (h'.pm.trans (hpm.map _)) h.pm h'.s h.s
theorem ord_some {policy room : Int} (hp : policy = 1 ∨ policy = 2) {X : IX} {nx : Int} {l : List Int} (hd : l.Nodup) (hc : ∀ x ∈ sidesL X nx l, chkS room x = true) (p : Int → Bool) {M M' : List Sd} (h : OrdS policy room (sidesL X nx l) M) (h' : OrdS policy room (sidesL X nx (l.filter p)) M') : M'.map (·.1) = (M.map (·.1)).filter p := by
  have hT := pol_tot hp hc (by rw [sidesL_slots]; exact hd)
  have e : sidesL X nx (l.filter p) = (sidesL X nx l).filter (fun x => p x.1) := by
    unfold sidesL
    rw [List.filter_map]
    rfl
  rw [e] at h'
  have h2 : M' = M.filter (fun x => p x.1) := srt_uniq (hT.perm (fun x hx => (List.mem_filter.1 hx).1)) h'.pm (h.pm.filter _) h'.s (h.s.sublist List.filter_sublist)
  rw [h2, List.filter_map]
  rfl
theorem ord_best {policy room : Int} (hp : policy = 1 ∨ policy = 2) (hr : inB room 1 8192 = true) {S M : List Sd} (hd : (S.map (·.1)).Nodup) (hc : ∀ x ∈ S, chkS room x = true) (h : OrdS policy room S M) : bestA policy room S = bestV (M.headD zSd) (!M.isEmpty) 0 := by
  have hT := pol_tot hp hc hd
  cases M with
  | nil =>
    have : S = [] := List.eq_nil_of_length_eq_zero (by have := h.pm.length_eq; simpa using this.symm)
    rw [this]
    exact best_empty hp hr
  | cons B t =>
    have hl := h.pm.length_eq
    simp only [List.length_cons] at hl
    obtain ⟨B', h1, h2⟩ := best_good hp hr hc hd (by omega)
    rw [h1]
    have h3 := srt_head h.s
    rw [h2.uniq hT ⟨h.pm.mem_iff.1 h3.1, fun s hs => h3.2 s (h.pm.mem_iff.2 hs)⟩]
    rfl
/-- Whom Greedy chooses, and whom Benefit does. -/
theorem greedy_empty {room : Int} {S : List Sd} {B : Sd} (T : Tot (polS 1 room) S) (hB : IsMin (polS 1 room) S B) (hc : ∀ x ∈ S, chkS room x = true) {s : Sd} (hs : s ∈ S) (h0 : s.2.1 = 0) : B.2.1 = 0 := by
  by_cases e : s.1 = B.1
  · rw [← T.inj s hs B hB.1 e]; exact h0
  · have h1 : polC 1 B.1 B.2.1 B.2.2 s.1 s.2.1 s.2.2 room = -1 := hB.2 s hs (fun h => e h)
    rw [pol1_lex] at h1
    have h2 := (lexZ_neg _ _ _ _).1 h1
    have hk := (chk_bd (hc B hB.1)).2.2.2.2.1
    omega
theorem benefit_older {room : Int} {S : List Sd} {B : Sd} (T : Tot (polS 2 room) S) (hB : IsMin (polS 2 room) S B) (hc : ∀ x ∈ S, chkS room x = true) {s : Sd} (hs : s ∈ S) (h0 : s.2.1 = 0) (h1 : 1 ≤ s.2.2) (hk : B.2.1 ≠ 0) : s.2.2 < B.2.2 := by
  have e : s.1 ≠ B.1 := fun e => by
    rw [← T.inj s hs B hB.1 e] at hk; exact hk h0
  have h2 : polC 2 B.1 B.2.1 B.2.2 s.1 s.2.1 s.2.2 room = -1 := hB.2 s hs e
  rw [pol2_lex _ _ _ _ _ _ _ (hc B hB.1) (hc s hs)] at h2
  have h3 := (lexZ_neg _ _ _ _).1 h2
  have hb := chk_bd (hc B hB.1)
  rw [h0] at h3
  generalize B.2.1 = k at *
  generalize B.2.2 = a at *
  generalize s.2.2 = a' at *
  have h4 : benP 0 a' k room ≤ benP k a 0 room := by omega
  unfold benP at h4
  refine Int.not_le.1 (fun hle => ?_)
  have h5 : (room - k) * a ≤ (room - k) * a' := Int.mul_le_mul_of_nonneg_left hle (by omega)
  have h6 : (room - k) * a * (room + 0) ≤ (room - k) * a' * (room + 0) := Int.mul_le_mul_of_nonneg_right h5 (by omega)
  have h7 : (room - k) * a' * (room + 0) = room * (a' * room) - k * (a' * room) := by rw [Int.add_zero, Int.mul_assoc, Int.sub_mul]
  have h8 : (room - 0) * a' * (room + k) = room * (a' * room) + room * (a' * k) := by rw [Int.sub_zero, Int.mul_assoc, Int.mul_add, Int.mul_add]
  have h9 : 0 < k * (a' * room) := Int.mul_pos (by omega) (Int.mul_pos (by omega) (by omega))
  have h10 : 0 < room * (a' * k) := Int.mul_pos (by omega) (Int.mul_pos (by omega) (by omega))
  omega
end Go.Proofs.YtemjnppplmankaaGreat

/- No index, or one that was not made: the two pointers of a row. -/
set_option linter.unusedVariables false
set_option linter.unusedSimpArgs false
namespace Go.Proofs.YtemjnppplmankaaGreat
open Go.RowKit
def ixO : IX := ⟨[], []⟩
theorem ixO_of (k : ByteArray) : ixO.of k = [] := rfl
theorem ixO_slot (s : Int) : ixO.slot s = [] := slot_none s
structure NilP (w0 : World) (g : Nat) : Prop where
  at2 : ∀ j, j < 2 → ∃ (p : Option Addr) (S : Nat → Prop), ∀ wx, Gr w0 wx → wx.cell? ⟨g, j, none⟩ = some (.pointer p) ∧ IXP wx p ixO S
theorem nilP (w : World) (b : Nat) (hb : b = w.heap.size) : NilP ((w.alloc (.cells #[.pointer none, .slice none 0 0] 84)).alloc (.cells #[.pointer none, .pointer (some ⟨b, 0, none⟩)] 35)) (b + 1) := ⟨by
  intro j hj
  have h2 := blkNew (w.alloc (.cells #[.pointer none, .slice none 0 0] 84)) (.cells #[.pointer none, .pointer (some ⟨b, 0, none⟩)] 35)
  rw [World.size_alloc, ← hb] at h2
  have h1 : ((w.alloc (.cells #[.pointer none, .slice none 0 0] 84)).alloc (.cells #[.pointer none, .pointer (some ⟨b, 0, none⟩)] 35)).heap[b]? = some (.cells #[.pointer none, .slice none 0 0] 84) := by
    rw [hb]; exact ((Gr.refl _).alloc _).blk (blkNew w _)
  have hc := cellsOf h2
  rcases (show j = 0 ∨ j = 1 by omega) with rfl | rfl
  · exact ⟨none, fun _ => False, fun wx g => ⟨g.keep (hc.1 0), .inr ⟨.inl rfl, rfl, fun k => ⟨fun h => h.elim, (fun ⟨_, h, _⟩ => by cases h)⟩⟩⟩⟩
  · exact ⟨some ⟨b, 0, none⟩, fun k => k = b, fun wx g => ⟨g.keep (hc.1 1), .inr ⟨.inr ⟨b, rfl, g.blk h1⟩, rfl, fun k => ⟨fun h => ⟨_, rfl, h⟩, (fun ⟨a, h, hk⟩ => by cases h; exact hk)⟩⟩⟩⟩⟩
end Go.Proofs.YtemjnppplmankaaGreat

/- victim.check. -/
set_option linter.unusedVariables false
set_option linter.unusedSimpArgs false
namespace Go.Proofs.YtemjnppplmankaaGreat
open Go.RowKit
attribute [local go_sem] OvM cell_ovm obj_ovm
attribute [local go_sem] Oper.semAt_some

/-- The numbers of a list lie at a. -/
def NumAt (w : World) (a : Option Addr) (l : List Int) : Prop :=
  ∀ i x, l[i]? = some x → ∃ b off, a = some ⟨b, off, none⟩ ∧ b < w.heap.size ∧ w.cell? ⟨b, off + i, none⟩ = some (.int .i64 x)
theorem NumAt.gr {w w' : World} {a : Option Addr} {l : List Int} (h : NumAt w a l) (g : Gr w w') : NumAt w' a l := fun i x hx => by
  obtain ⟨b, off, h1, h2, h3⟩ := h i x hx
  exact ⟨b, off, h1, Nat.lt_of_lt_of_le h2 g.sz, (g.cell _ _ h2).trans h3⟩
def okS (n : Nat) (s : Int) : Bool := decide (0 ≤ s) && decide (s < n)
def argC (n : Nat) (c : Cfg) (next : Int) (good : Bool) : Bool := cfgOk c && good && decide (c.slots = n) && decide (1 ≤ next) && decide (next ≤ 1099511627776)
def vchkC (n : Nat) (c : Cfg) (l : List Int) (next : Int) (good : Bool) : Int :=
  if argC n c next good = false then 2 else if l.all (okS n) = false then 3 else if decide l.Nodup = false then 6 else 0
theorem nod_snoc (l : List Int) (s : Int) : decide (l ++ [s]).Nodup = (decide l.Nodup && !decide (s ∈ l)) := by
  rw [Bool.eq_iff_iff]
  simp only [decide_eq_true_eq, Bool.and_eq_true, Bool.not_eq_true', decide_eq_false_iff_not]
  constructor
  · intro h
    have h2 := List.nodup_append.1 h
    exact ⟨h2.1, fun hs => h2.2.2 s hs s (by simp) rfl⟩
  · rintro ⟨h1, h2⟩
    exact List.nodup_append.2 ⟨h1, by simp, fun a ha b hb e => h2 (by rw [List.mem_singleton.1 hb] at e; rw [← e]; exact ha)⟩
theorem mem_snoc' (l : List Int) (s x : Int) : decide (x ∈ l ++ [s]) = (decide (x ∈ l) || decide (x = s)) := by simp
theorem allO_snoc {n : Nat} {l : List Int} {k : Nat} {s : Int} (h : l[k]? = some s) : l.take (k + 1) = l.take k ++ [s] := by rw [List.take_add_one, h]; rfl
theorem allO_no {n : Nat} {l : List Int} {k : Nat} {s : Int} (h : l[k]? = some s) (hs : okS n s = false) : l.all (okS n) = false := by
  rw [List.all_eq_false]
  exact ⟨s, List.mem_of_getElem? h, by rw [hs]; simp⟩
set_option maxRecDepth 40000 in
set_option maxHeartbeats 4000000 in
theorem Vcheck_any {w : World} {p : Option Addr} {X : IX} {S : Nat → Prop} (h : IXP w p X S) (hne : X.slots ≠ []) (c : Cfg) (a : Option Addr) (len cap : Nat) (l : List Int) (hl : l.length = len) (hle : len ≤ cap) (hcap : cap ≤ maxLen) (hs : NumAt w a l) (next : Int) (good : Bool) :
    Calls Tryz.prog 21 #[.pointer p, cfgV c, .slice a len cap, .int .i64 next, .bool good] w fun e w' => e = .returned (.tuple #[.int .i64 (if vchkC X.slots.length c l next good = 0 then c.size - 16 else 0), .int .i64 (vchkC X.slots.length c l next good)]) ∧ Gr w w' := by
  have HI := Lib.hid h
  have HS := Lib.hid hs
  have HRM := Lib.hid (fun (w : World) => Room_any c w)
  have hn32 : X.slots.length ≤ 32 := h.ok.n
  have hn0 : X.slots.length ≠ 0 := fun h0 => hne (List.eq_nil_of_length_eq_zero h0)
  have HSL := Lib.hid (fun (w' : World) (g : Gr w w') => Slots_any (h.gr g))
  obtain ⟨n, hn⟩ : ∃ n, n = X.slots.length := ⟨_, rfl⟩
  rw [← hn] at hn32 hn0 HSL ⊢
  clear h hs hne hn
  unfold maxLen at hcap
  have HV2 : Hid (argC n c next good = false → vchkC n c l next good = 2) := Lib.hid (fun h => if_pos h)
  have HV3 : Hid (argC n c next good = true → l.all (okS n) = false → vchkC n c l next good = 3) := Lib.hid (fun h h2 => by unfold vchkC; rw [if_neg (by rw [h]; simp), if_pos h2])
  have HV6 : Hid (argC n c next good = true → l.all (okS n) = true → decide l.Nodup = false → vchkC n c l next good = 6) := Lib.hid (fun h h2 h3 => by unfold vchkC; rw [if_neg (by rw [h]; simp), if_neg (by rw [h2]; simp), if_pos h3])
  have HV0 : Hid (argC n c next good = true → l.all (okS n) = true → decide l.Nodup = true → vchkC n c l next good = 0) := Lib.hid (fun h h2 h3 => by unfold vchkC; rw [if_neg (by rw [h]; simp), if_neg (by rw [h2]; simp), if_neg (by rw [h3]; simp)])
  have HAG : Hid (argC n c next good = (cfgOk c && good && decide (c.slots = n) && decide (1 ≤ next) && decide (next ≤ 1099511627776))) := Lib.hid rfl
  obtain ⟨v, hv⟩ : ∃ v, v = vchkC n c l next good := ⟨_, rfl⟩
  rw [← hv] at HV2 HV3 HV6 HV0 ⊢
  clear hv
  obtain ⟨ag, hag⟩ : ∃ ag, ag = argC n c next good := ⟨_, rfl⟩
  rw [← hag] at HV2 HV3 HV6 HV0 HAG
  clear hag
  obtain ⟨rm, hrm⟩ : ∃ rm : Int, rm = (if v = 0 then c.size - 16 else 0) := ⟨_, rfl⟩
  rw [← hrm]
  have HRV := Lib.hid hrm
  clear hrm
  obtain ⟨ok, hok⟩ : ∃ ok, ok = cfgOk c := ⟨_, rfl⟩
  rw [← hok] at HRM HAG
  clear hok
  obtain ⟨c0, c1, c2, c3, c4, c5, c6⟩ := c
  simp only [cfgV] at HRM ⊢
  simp only at HRV HAG
  go_enter Tryz.func21, Tryz.ntmps21
  go_upto_region 1 with fail
  obtain ⟨b0, hb0⟩ : ∃ q, q = w.heap.size := ⟨_, rfl⟩
  obtain ⟨w0, hw0⟩ : ∃ y, y = w.alloc (cfgO ⟨c0, c1, c2, c3, c4, c5, c6⟩) := ⟨_, rfl⟩
  have H0 : Hid (SW w [blkA b0 (cfgO ⟨c0, c1, c2, c3, c4, c5, c6⟩)] w0) := Lib.hid (by rw [hw0, hb0]; exact (SW.start w).alloc _)
  (try simp only [cfgO] at hw0)
  rw [← hw0, ← hb0]
  clear hw0 hb0
  have d0 := (cellsOf (show w0.heap[b0]? = _ from H0.out.get (i := 0) rfl)).1
  (try simp only [cfgO] at d0)
  go_wp2_with fail
  refine Calls.mono (HSL.out _ H0.out.g) ?_
  rintro e w1 ⟨rfl, rfl⟩
  have hnz : ¬ ((n : Int) = 0) := by omega
  cases ok with
  | false =>
    have hag : ag = false := by rw [HAG.out]; simp
    have HV := Lib.hid (HV2.out hag)
    have HRV2 : Hid (rm = 0) := Lib.hid (by rw [HRV.out, HV.out]; rfl)
    clear HAG HV2 HV3 HV6 HV0 hag
    go_wp2_with (go_at_call 43; refine Calls.mono (HRM.out _) ?_; rintro e w1 ⟨rfl, hg⟩; have HG1 := Lib.hid hg; clear hg)
    (try simp only [Bool.false_eq_true, if_false])
    refine wp_region_flo (fun _ => False) [] [] (by kernel_rfl) (by kernel_rfl) (fun _ h => h.elim) ?_
    refine flo_seg 10 rfl ?_
    simp only [List.take_succ_cons, List.take_zero, List.drop_succ_cons, List.drop_zero]
    repeat (go_big_quiet_step (fail))
    refine wpQuiet_nil ?_
    refine flo_pass rfl rfl rfl ?_
    (try go_simp)
    refine flo_seg 10 rfl ?_
    simp only [List.take_succ_cons, List.take_zero, List.drop_succ_cons, List.drop_zero]
    repeat (go_big_quiet_step (fail))
    refine wpQuiet_nil ?_
    refine flo_nil ?_
    go_wp2_with fail
    go_ret2
    exact ⟨by rw [HRV2.out, HV.out] <;> rfl, H0.out.g.trans (HG1.out.trans (Gr.refl w1).drew)⟩
  | true =>
    go_wp2_with (go_at_call 43; refine Calls.mono (HRM.out _) ?_; rintro e w1 ⟨rfl, hg⟩; have HG1 := Lib.hid hg; clear hg)
    (try simp only [if_true])
    have H1 := Lib.hid (H0.out.gr HG1.out)
    have d0 := (cellsOf (show w1.heap[b0]? = _ from H1.out.get (i := 0) rfl)).1
    (try simp only [cfgO] at d0)
    cases good with
    | false =>
      have hag : ag = false := by rw [HAG.out]; simp
      have HV := Lib.hid (HV2.out hag)
      have HRV2 : Hid (rm = 0) := Lib.hid (by rw [HRV.out, HV.out]; rfl)
      clear HAG HV2 HV3 HV6 HV0 hag
      refine wp_region_flo (fun _ => False) [] [] (by kernel_rfl) (by kernel_rfl) (fun _ h => h.elim) ?_
      refine flo_seg 10 rfl ?_
      simp only [List.take_succ_cons, List.take_zero, List.drop_succ_cons, List.drop_zero]
      repeat (go_big_quiet_step (fail))
      refine wpQuiet_nil ?_
      refine flo_pass rfl rfl rfl ?_
      (try go_simp)
      refine flo_seg 10 rfl ?_
      simp only [List.take_succ_cons, List.take_zero, List.drop_succ_cons, List.drop_zero]
      repeat (go_big_quiet_step (fail))
      refine wpQuiet_nil ?_
      refine flo_nil ?_
      go_wp2_with fail
      go_ret2
      exact ⟨by rw [HRV2.out, HV.out] <;> rfl, H0.out.g.trans (HG1.out.trans (Gr.refl w1).drew)⟩
    | true =>
      by_cases hsn : ¬ c0 = (n : Int)
      · have hb : (c0 != (n : Int)) = true := by simp [hsn]
        have hag : ag = false := by rw [HAG.out]; simp; omega
        have HV := Lib.hid (HV2.out hag)
        have HRV2 : Hid (rm = 0) := Lib.hid (by rw [HRV.out, HV.out]; rfl)
        clear HAG HV2 HV3 HV6 HV0 hag
        refine wp_region_flo (fun _ => False) [] [] (by kernel_rfl) (by kernel_rfl) (fun _ h => h.elim) ?_
        refine flo_seg 10 rfl ?_
        simp only [List.take_succ_cons, List.take_zero, List.drop_succ_cons, List.drop_zero]
        repeat (go_big_quiet_step (fail))
        refine wpQuiet_nil ?_
        refine flo_eff rfl rfl rfl rfl (fun K hK => ?_)
        go_wp2_with ((go_at_call 42; refine Calls.mono (HSL.out _ (H1.out.g.trans (Gr.refl w1).drew)) ?_; rintro e w2 ⟨rfl, rfl⟩))
        refine ⟨by exact (Gr.refl _).mdh _, ?_⟩
        refine flo_seg 10 rfl ?_
        simp only [List.take_succ_cons, List.take_zero, List.drop_succ_cons, List.drop_zero]
        repeat (go_big_quiet_step (fail))
        refine wpQuiet_nil ?_
        refine flo_nil ?_
        go_wp2_with fail
        go_ret2
        exact ⟨by rw [HRV2.out, HV.out] <;> rfl, H0.out.g.trans (HG1.out.trans (Gr.refl w1).drew)⟩
      have hsn' : c0 = (n : Int) := by omega
      have hb : (c0 != (n : Int)) = false := by simp [hsn']
      by_cases hq1 : next < 1
      · have hq1' : next < 1 := hq1
        have hag : ag = false := by rw [HAG.out]; simp; omega
        have HV := Lib.hid (HV2.out hag)
        have HRV2 : Hid (rm = 0) := Lib.hid (by rw [HRV.out, HV.out]; rfl)
        clear HAG HV2 HV3 HV6 HV0 hag
        refine wp_region_flo (fun _ => False) [] [] (by kernel_rfl) (by kernel_rfl) (fun _ h => h.elim) ?_
        refine flo_seg 10 rfl ?_
        simp only [List.take_succ_cons, List.take_zero, List.drop_succ_cons, List.drop_zero]
        repeat (go_big_quiet_step (fail))
        refine wpQuiet_nil ?_
        refine flo_eff rfl rfl rfl rfl (fun K hK => ?_)
        go_wp2_with ((go_at_call 42; refine Calls.mono (HSL.out _ (H1.out.g.trans (Gr.refl w1).drew)) ?_; rintro e w2 ⟨rfl, rfl⟩))
        refine ⟨by exact (Gr.refl _).mdh _, ?_⟩
        refine flo_seg 10 rfl ?_
        simp only [List.take_succ_cons, List.take_zero, List.drop_succ_cons, List.drop_zero]
        repeat (go_big_quiet_step (fail))
        refine wpQuiet_nil ?_
        refine flo_nil ?_
        go_wp2_with fail
        go_ret2
        exact ⟨by rw [HRV2.out, HV.out] <;> rfl, H0.out.g.trans (HG1.out.trans (Gr.refl w1).drew)⟩
      by_cases hq2 : 1099511627776 < next
      · have hd1 : decide (next < 1) = false := decide_eq_false hq1
        have hd2 : decide (1099511627776 < next) = true := decide_eq_true hq2
        have hag : ag = false := by rw [HAG.out]; simp; omega
        have HV := Lib.hid (HV2.out hag)
        have HRV2 : Hid (rm = 0) := Lib.hid (by rw [HRV.out, HV.out]; rfl)
        clear HAG HV2 HV3 HV6 HV0 hag
        refine wp_region_flo (fun _ => False) [] [] (by kernel_rfl) (by kernel_rfl) (fun _ h => h.elim) ?_
        refine flo_seg 10 rfl ?_
        simp only [List.take_succ_cons, List.take_zero, List.drop_succ_cons, List.drop_zero]
        repeat (go_big_quiet_step (fail))
        refine wpQuiet_nil ?_
        refine flo_eff rfl rfl rfl rfl (fun K hK => ?_)
        go_wp2_with ((go_at_call 42; refine Calls.mono (HSL.out _ (H1.out.g.trans (Gr.refl w1).drew)) ?_; rintro e w2 ⟨rfl, rfl⟩))
        refine ⟨by exact (Gr.refl _).mdh _, ?_⟩
        refine flo_seg 10 rfl ?_
        simp only [List.take_succ_cons, List.take_zero, List.drop_succ_cons, List.drop_zero]
        repeat (go_big_quiet_step (fail))
        refine wpQuiet_nil ?_
        refine flo_nil ?_
        go_wp2_with fail
        go_ret2
        exact ⟨by rw [HRV2.out, HV.out] <;> rfl, H0.out.g.trans (HG1.out.trans (Gr.refl w1).drew)⟩
      have hd1 : decide (next < 1) = false := decide_eq_false hq1
      have hd2 : decide (1099511627776 < next) = false := decide_eq_false hq2
      have hag : ag = true := by rw [HAG.out]; simp; omega
      replace HV3 := Lib.hid (HV3.out hag)
      replace HV6 := Lib.hid (HV6.out hag)
      replace HV0 := Lib.hid (HV0.out hag)
      clear HAG HV2 hag
      refine wp_region_flo (fun _ => False) [] [] (by kernel_rfl) (by kernel_rfl) (fun _ h => h.elim) ?_
      refine flo_seg 10 rfl ?_
      simp only [List.take_succ_cons, List.take_zero, List.drop_succ_cons, List.drop_zero]
      repeat (go_big_quiet_step (fail))
      refine wpQuiet_nil ?_
      refine flo_eff rfl rfl rfl rfl (fun K hK => ?_)
      go_wp2_with ((go_at_call 42; refine Calls.mono (HSL.out _ (H1.out.g.trans (Gr.refl w1).drew)) ?_; rintro e w2 ⟨rfl, rfl⟩))
      refine ⟨by exact (Gr.refl _).mdh _, ?_⟩
      refine flo_seg 10 rfl ?_
      simp only [List.take_succ_cons, List.take_zero, List.drop_succ_cons, List.drop_zero]
      repeat (go_big_quiet_step (fail))
      refine wpQuiet_nil ?_
      refine flo_nil ?_
      clear d0
      have H2 := Lib.hid (H1.out.gr (Gr.refl w1).drew)
      obtain ⟨w2, hw2⟩ : ∃ y, y = w1.drew := ⟨_, rfl⟩
      rw [← hw2] at H2 ⊢
      clear hw2 H1 HG1
      go_upto_region 7 with fail
      obtain ⟨b14, hb14⟩ : ∃ q, q = w2.heap.size := ⟨_, rfl⟩
      obtain ⟨w3, hw3⟩ : ∃ y, y = w2.alloc (.cells #[.bool false, .bool false, .bool false, .bool false, .bool false, .bool false, .bool false, .bool false, .bool false, .bool false, .bool false, .bool false, .bool false, .bool false, .bool false, .bool false, .bool false, .bool false, .bool false, .bool false, .bool false, .bool false, .bool false, .bool false, .bool false, .bool false, .bool false, .bool false, .bool false, .bool false, .bool false, .bool false] 96) := ⟨_, rfl⟩
      have H3 : Hid (SW w [blkA b14 (.cells #[.bool false, .bool false, .bool false, .bool false, .bool false, .bool false, .bool false, .bool false, .bool false, .bool false, .bool false, .bool false, .bool false, .bool false, .bool false, .bool false, .bool false, .bool false, .bool false, .bool false, .bool false, .bool false, .bool false, .bool false, .bool false, .bool false, .bool false, .bool false, .bool false, .bool false, .bool false, .bool false] 96), blkA b0 (cfgO ⟨c0, c1, c2, c3, c4, c5, c6⟩)] w3) := Lib.hid (by rw [hw3, hb14]; exact H2.out.alloc _)
      rw [← hw3, ← hb14]
      clear hw3 hb14 H2 HRM H0
      have HLN := Lib.hid hl
      clear hl
      go_wp2_with fail
      go_loopw [15, 49] (fun t15 t49 wx => ∃ (k : Nat) (arr : Array Value), k ≤ len ∧ t15 = .bool (!decide (l.take k).Nodup) ∧ t49 = .int .i64 k ∧ Hid (SW w [blkA b14 (.cells arr 96), blkA b0 (cfgO ⟨c0, c1, c2, c3, c4, c5, c6⟩)] wx ∧ arr.size = 32 ∧ (∀ σ, σ < 32 → arr[σ]? = some (.bool (decide ((σ : Int) ∈ l.take k)))) ∧ ∀ x ∈ l.take k, okS n x = true)) (fun _ t49 _ => len - (intOf t49).toNat)
      case atStart =>
        refine ⟨0, _, by omega, by simp, rfl, Lib.hid ⟨H3.out, rfl, fun σ hσ => ?_, fun x hx => by simp at hx⟩⟩
        have e : (#[.bool false, .bool false, .bool false, .bool false, .bool false, .bool false, .bool false, .bool false, .bool false, .bool false, .bool false, .bool false, .bool false, .bool false, .bool false, .bool false, .bool false, .bool false, .bool false, .bool false, .bool false, .bool false, .bool false, .bool false, .bool false, .bool false, .bool false, .bool false, .bool false, .bool false, .bool false, .bool false] : Array Value) = (List.replicate 32 (Value.bool false)).toArray := rfl
        rw [e, List.getElem?_toArray, List.getElem?_replicate, if_pos hσ]
        rfl
      case round =>
        obtain ⟨k, arr, hk, rfl, rfl, HR⟩ := hrel
        obtain ⟨q14, q16⟩ := cellsOf (show wr.heap[b14]? = _ from HR.out.1.get (i := 0) rfl)
        have l14 := blkLt (show wr.heap[b14]? = _ from HR.out.1.get (i := 0) rfl)
        by_cases hlt : k < len
        · have hlt' : (k : Int) < len := by omega
          obtain ⟨s, hx⟩ : ∃ s, l[k]? = some s := ⟨_, List.getElem?_eq_getElem (by rw [HLN.out]; exact hlt)⟩
          obtain ⟨ba, off, rfl, hba, hca⟩ := HS.out k s hx
          have z := (HR.out.1.g.cell ba (off + k) hba).trans hca
          have HTK : Hid (l.take (k + 1) = l.take k ++ [s]) := Lib.hid (by rw [List.take_add_one, hx]; rfl)
          have HNO := Lib.hid (fun (h : okS n s = false) => HV3.out (allO_no hx h))
          have HOS : Hid (okS n s = (decide (0 ≤ s) && decide (s < n))) := Lib.hid rfl
          have HSLW := Lib.hid (HSL.out wr HR.out.1.g)
          clear hx hca
          by_cases hs0 : s < 0
          · have HV := Lib.hid (HNO.out (by rw [HOS.out]; simp; omega))
            have HRV2 : Hid (rm = 0) := Lib.hid (by rw [HRV.out, HV.out]; rfl)
            go_wp2_with fail
            go_ret2
            exact ⟨by rw [HRV2.out, HV.out] <;> rfl, HR.out.1.g⟩
          by_cases hs1 : (n : Int) ≤ s
          · have HV := Lib.hid (HNO.out (by rw [HOS.out]; simp; omega))
            have HRV2 : Hid (rm = 0) := Lib.hid (by rw [HRV.out, HV.out]; rfl)
            go_wp2_with (go_at_call 42; refine Calls.mono HSLW.out ?_; rintro e w5 ⟨rfl, rfl⟩)
            go_ret2
            exact ⟨by rw [HRV2.out, HV.out] <;> rfl, HR.out.1.g⟩
          · obtain ⟨σ, rfl⟩ : ∃ σ : Nat, s = (σ : Int) := ⟨s.toNat, by omega⟩
            have hσ : σ < n := by omega
            have hσ2 : σ < 32 := by omega
            have qs := (q14 σ).trans (HR.out.2.2.1 σ hσ2)
            have HND := Lib.hid (nod_snoc (l.take k) (σ : Int))
            rw [← HTK.out] at HND
            obtain ⟨tw, htw⟩ : ∃ tw, tw = decide (l.take k).Nodup := ⟨_, rfl⟩
            obtain ⟨mm, hmm⟩ : ∃ mm, mm = decide ((σ : Int) ∈ l.take k) := ⟨_, rfl⟩
            rw [← htw] at HND ⊢
            rw [← hmm] at HND qs
            clear htw hmm
            clear hs0 hs1 q14
            have HSTEP : Hid (SW w [blkA b14 (.cells (arr.setIfInBounds σ (.bool true)) 96), blkA b0 (cfgO ⟨c0, c1, c2, c3, c4, c5, c6⟩)] (wr.setCell ⟨b14, σ, none⟩ (.bool true)) ∧ (arr.setIfInBounds σ (.bool true)).size = 32 ∧ (∀ σ', σ' < 32 → (arr.setIfInBounds σ (.bool true))[σ']? = some (.bool (decide ((σ' : Int) ∈ l.take (k + 1))))) ∧ ∀ x ∈ l.take (k + 1), okS n x = true) := Lib.hid (by
              refine ⟨HR.out.1.put ((Mdh.refl (fun k => k = b14) wr).setCell (p := ⟨b14, σ, none⟩) rfl (.bool true)) (blkSet (j := σ) (u := .bool true) (show wr.heap[b14]? = _ from HR.out.1.get (i := 0) rfl)), by rw [Array.size_setIfInBounds]; exact HR.out.2.1, fun σ' h' => ?_, fun x hxm => ?_⟩
              · rw [Array.getElem?_setIfInBounds, HTK.out, mem_snoc']
                by_cases e : σ = σ'
                · subst e
                  rw [if_pos rfl, if_pos (by rw [HR.out.2.1]; exact h')]
                  simp
                · rw [if_neg e, HR.out.2.2.1 σ' h', decide_eq_false (show ¬ (σ' : Int) = (σ : Int) by omega), Bool.or_false]
              · rw [HTK.out] at hxm
                rcases List.mem_append.1 hxm with hxm | hxm
                · exact HR.out.2.2.2 x hxm
                · rw [List.mem_singleton.1 hxm, HOS.out]
                  simp
                  omega)
            cases tw
            all_goals
              go_wp2_with (go_at_call 42; refine Calls.mono HSLW.out ?_; rintro e w5 ⟨rfl, rfl⟩)
              exact ⟨⟨k + 1, _, by omega, by rw [HND.out] <;> (first | rfl | (cases mm <;> rfl)), by go_num, HSTEP⟩, by simp [intOf]; omega⟩
        · have hlt' : ¬ (k : Int) < len := by omega
          obtain hkl : k = len := by omega
          have HAL : Hid (l.all (okS n) = true) := Lib.hid (by
            have h1 := HR.out.2.2.2
            rw [hkl, ← HLN.out, List.take_length] at h1
            exact List.all_eq_true.2 h1)
          have HTL : Hid (l.take k = l) := Lib.hid (by rw [hkl, ← HLN.out, List.take_length])
          rw [HTL.out]
          have h6 := HV6.out HAL.out
          have h0 := HV0.out HAL.out
          clear q14 q16 l14 hkl
          cases hnd : decide l.Nodup with
          | false =>
            have HV := Lib.hid (h6 hnd)
            have HRV2 : Hid (rm = 0) := Lib.hid (by rw [HRV.out, HV.out]; rfl)
            clear h6 h0 hnd
            go_wp2
            go_ret2
            exact ⟨by rw [HRV2.out, HV.out] <;> rfl, HR.out.1.g⟩
          | true =>
            have HV := Lib.hid (h0 hnd)
            have HRV2 : Hid (rm = c1 - 16) := Lib.hid (by rw [HRV.out, HV.out]; rfl)
            clear h6 h0 hnd
            go_wp2
            go_ret2
            exact ⟨by rw [HRV2.out, HV.out] <;> rfl, HR.out.1.g⟩
end Go.Proofs.YtemjnppplmankaaGreat

/- victim.sides. -/
set_option linter.unusedVariables false
set_option linter.unusedSimpArgs false
namespace Go.Proofs.YtemjnppplmankaaGreat
open Go.RowKit Go.Shelf
attribute [local go_sem] OvM cell_ovm obj_ovm
attribute [local go_sem] Oper.semAt_some

theorem Nw.nil2 {w w' : World} {e : TypeId} {K : Nat} (g : Gr w w') : Nw w w' e K (.slice none 0 0) 0 [] := (Nw.nil w e K).gr g
theorem infoSd : (Tryz.prog.info? 44).map (fun i => (i.zero, i.size, i.bytes)) = some (some (.agg #[.int .i64 0, .int .i64 0, .int .i64 0]), 3, 24) := by kernel_rfl
theorem by_last {X : IX} (h : X.Wf) (s : Int) : 0 ≤ (byOf X s).last ∧ (byOf X s).last ≤ 1099511627776 := by
  have h1 := slot_max h s
  refine ⟨h1.z, ?_⟩
  rcases h1.at' with e | ⟨e, he, e1⟩
  · omega
  · have := (valid_iff e).1 ((h.slotOk s).e e he).2
    omega
def sidesK (X : IX) (next room : Int) (l : List Int) : List Sd := if (sidesL X next l).all (chkS room) = true then sidesL X next l else []
def sidesC (X : IX) (next room : Int) (l : List Int) : Int := if (sidesL X next l).all (chkS room) = true then 0 else 2
def SidesPost (X : IX) (next room : Int) (l : List Int) (w : World) (e : Ending) (w' : World) : Prop :=
  ∃ v, e = .returned (.tuple #[v, .int .i64 (sidesC X next room l)]) ∧ Nw w w' 44 3 v (sidesK X next room l).length (rowS (sidesK X next room l)) ∧ Gr w w'
theorem sidesL_take {X : IX} {next : Int} {l : List Int} {k : Nat} {s : Int} (h : l[k]? = some s) : sidesL X next (l.take (k + 1)) = sidesL X next (l.take k) ++ [sideOf X next s] := by
  rw [List.take_add_one, h]
  simp [sidesL]
theorem rowS_snoc2 (l : List Sd) (x : Sd) : rowS (l ++ [x]) = rowS l ++ cellsS x := by simp [rowS]
set_option maxRecDepth 40000 in
set_option maxHeartbeats 4000000 in
theorem Vsides_any {w : World} {p : Option Addr} {X : IX} {S : Nat → Prop} (h : IXP w p X S) (room next : Int) (hq1 : 1 ≤ next) (hq2 : next ≤ 1099511627776) (a : Option Addr) (len cap : Nat) (l : List Int) (hl : l.length = len) (hle : len ≤ cap) (hcap : cap ≤ maxLen) (h100 : len ≤ 1000) (hs : NumAt w a l) (hok : ∀ s ∈ l, X.has s = true) (hne : X.slots ≠ []) :
    Calls Tryz.prog 22 #[.pointer p, .int .i64 room, .slice a len cap, .int .i64 next] w (SidesPost X next room l w) := by
  have HS := Lib.hid hs
  have HLN := Lib.hid hl
  have HOF : Hid (∀ s ∈ l, ∀ w1, Gr w w1 → Calls Tryz.prog 44 #[.pointer p, .int .i64 s] w1 fun e w' => e = .returned (.tuple #[byV (byOf X s), .int .i64 0]) ∧ Gr w1 w') := Lib.hid (fun s hsm w1 g => by
    have := OfL_any (h.gr g) s
    have e : ofL X s = (byOf X s, 0) := by
      have hx := of_decide_eq_true (show decide (0 ≤ s ∧ s < X.slots.length) = true from hok s hsm)
      unfold ofL
      rw [if_neg (by omega), if_neg (by omega)]
    rw [e] at this
    exact this)
  have HSZ : Hid (∀ s ∈ l, ∀ w1, Gr w w1 → Calls Tryz.prog 45 #[.pointer p, .int .i64 s] w1 fun e w' => e = .returned (.tuple #[.int .i64 (sumZ (keepL X s)), .int .i64 0]) ∧ Gr w1 w') := Lib.hid (fun s hsm w1 g => by
    have := Size_any (h.gr g) s
    have e : keepC X s = 0 := by unfold keepC; rw [if_neg hne, if_neg (by rw [hok s hsm]; simp)]
    rw [e] at this
    exact this)
  have HBL := Lib.hid (fun s => by_last h.ok s)
  have HAP : Hid (∀ v w', Nw w w' 44 3 v len (rowS (sidesL X next l)) → Gr w w' → (sidesL X next l).all (chkS room) = true → SidesPost X next room l w (.returned (.tuple #[v, .int .i64 0])) w') := Lib.hid (fun v w' h1 h2 h3 => by
    refine ⟨v, by unfold sidesC; rw [if_pos h3], ?_, h2⟩
    have e : sidesK X next room l = sidesL X next l := if_pos h3
    rw [e, sidesL_len, hl]
    exact h1)
  have HNO : Hid (∀ s ∈ l, chkS room (sideOf X next s) = false → ∀ w', Gr w w' → SidesPost X next room l w (.returned (.tuple #[.slice none 0 0, .int .i64 2])) w') := Lib.hid (fun s hsm h1 w' h2 => by
    have h3 : ¬ (sidesL X next l).all (chkS room) = true := fun h => by
      have := List.all_eq_true.1 h _ (List.mem_map.2 ⟨s, hsm, rfl⟩)
      rw [h1] at this
      cases this
    refine ⟨_, by unfold sidesC; rw [if_neg h3], ?_, h2⟩
    have e : sidesK X next room l = [] := if_neg h3
    rw [e]
    exact Nw.nil2 h2)
  have HTK := Lib.hid (fun (k : Nat) (s : Int) (hx : l[k]? = some s) => sidesL_take (X := X) (next := next) hx)
  have HFL : Hid (sidesL X next (l.take len) = sidesL X next l) := Lib.hid (by rw [← hl, List.take_length])
  have HL0 : Hid (sidesL X next (l.take 0) = []) := Lib.hid rfl
  generalize SidesPost X next room l w = Q at *
  have HSO : Hid (∀ s, sideOf X next s = (s, sumZ (keepL X s), next - (byOf X s).last)) := Lib.hid (fun _ => rfl)
  obtain ⟨i0, hi, hz0, hz1, hz2⟩ := info_parts infoSd
  unfold maxLen at hcap
  clear h hs hok hne hl
  go_enter Tryz.func22, Tryz.ntmps22
  go_wp2_with fail
  go_loopw [10, 19] (fun t10 t19 wx => ∃ (k : Nat) (v : Value), k ≤ len ∧ v = t10 ∧ t19 = .int .i64 k ∧ Hid (Nw w wx 44 3 v k (rowS (sidesL X next (l.take k))) ∧ Gr w wx ∧ (sidesL X next (l.take k)).all (chkS room) = true)) (fun _ t19 _ => len - (intOf t19).toNat)
  case atStart => exact ⟨0, _, by omega, rfl, rfl, Lib.hid ⟨by rw [HL0.out]; exact Nw.nil w _ _, Gr.refl _, by rw [HL0.out]; rfl⟩⟩
  case round =>
    obtain ⟨k, v, hk, rfl, rfl, HR⟩ := hrel
    by_cases hlt : k < len
    · have hlt' : (k : Int) < len := by omega
      obtain ⟨s, hx⟩ : ∃ s, l[k]? = some s := ⟨_, List.getElem?_eq_getElem (by rw [HLN.out]; exact hlt)⟩
      obtain ⟨ba, off, rfl, hba, hca⟩ := HS.out k s hx
      have z := (HR.out.2.1.cell ba (off + k) hba).trans hca
      have hsm := List.mem_of_getElem? hx
      have HT := Lib.hid (HTK.out k s hx)
      have HOS := Lib.hid (HOF.out s hsm)
      have HZS := Lib.hid (HSZ.out s hsm)
      have HNS := Lib.hid (HNO.out s hsm)
      obtain ⟨hb1, hb2⟩ := HBL.out s
      have HSS := Lib.hid (HSO.out s)
      rw [HSS.out] at HT HNS
      generalize sumZ (keepL X s) = kp at *
      generalize byOf X s = y at *
      obtain ⟨y0, y1, y2, y3, y4⟩ := y
      simp only [byV] at HOS
      simp only at HT HNS hb1 hb2
      clear hx hsm hca HSS
      go_wp2_with fail
      refine Calls.mono (HOS.out wr HR.out.2.1) ?_
      rintro e w1 ⟨rfl, hg1⟩
      have HG1 := Lib.hid hg1
      clear hg1
      go_wp2_with fail
      obtain ⟨b13, hb13⟩ : ∃ q, q = w1.heap.size := ⟨_, rfl⟩
      obtain ⟨w2, hw2⟩ : ∃ q, q = w1.alloc (.cells #[.int .i64 y0, .int .i64 y1, .int .i64 y2, .int .i64 y3, .int .i64 y4] 97) := ⟨_, rfl⟩
      have H2 : Hid (SW wr [blkA b13 (.cells #[.int .i64 y0, .int .i64 y1, .int .i64 y2, .int .i64 y3, .int .i64 y4] 97)] w2) := Lib.hid (by rw [hw2, hb13]; exact ((SW.start wr).gr HG1.out).alloc _)
      rw [← hw2, ← hb13]
      clear hw2 hb13
      refine Calls.mono (HZS.out _ (HR.out.2.1.trans H2.out.g)) ?_
      rintro e w3 ⟨rfl, hg3⟩
      have H3 := Lib.hid (H2.out.gr hg3)
      have d13 := ((cellsOf (show w3.heap[b13]? = _ from H3.out.get (i := 0) rfl)).1 4).trans (show _ = some (Value.int .i64 y4) from rfl)
      clear hg3 H2
      go_wp2_with fail
      obtain ⟨b16, hb16⟩ : ∃ q, q = w3.heap.size := ⟨_, rfl⟩
      obtain ⟨w4, hw4⟩ : ∃ q, q = w3.alloc (.cells #[.int .i64 s, .int .i64 kp, .int .i64 (next - y4)] 44) := ⟨_, rfl⟩
      have H4 : Hid (SW wr [blkA b16 (.cells #[.int .i64 s, .int .i64 kp, .int .i64 (next - y4)] 44)] w4) := Lib.hid (by rw [hw4, hb16]; exact (H3.out.alloc _).sub (List.Sublist.cons_cons _ (List.nil_sublist _)))
      rw [← hw4, ← hb16]
      clear hw4 hb16 H3 d13
      refine (Check_any _ _ _ _ _).mono ?_
      rintro e w5 ⟨rfl, hg5⟩
      have H5 := Lib.hid (H4.out.gr hg5)
      have d16 := (cellsOf (show w5.heap[b16]? = _ from H5.out.get (i := 0) rfl)).1
      clear hg5 H4
      cases hck : chkB s kp (next - y4) room with
      | false =>
        have e0 := errOf_false hck
        have HE := Lib.hid (HNS.out hck w5 (HR.out.2.1.trans H5.out.g))
        clear hck
        go_wp2
        exact HE.out
      | true =>
        have e0 := errOf_true hck
        have HCK := Lib.hid hck
        clear hck
        have N5 := Lib.hid (HR.out.1.gr H5.out.g)
        go_wp2_with (first
          | (at_builtin; go_must (refine wpList_appv _ rfl (.tmp 52) (.tmp 54) 31 rfl 44 i0 _ 3 24 Tryz.underlying31 hi hz0 hz1 hz2 rfl (by decide) v k (rowS (sidesL X next (l.take k))) rfl (N5.out.own.gr (by (repeat (first | (with_reducible exact Gr.refl _) | assumption | (with_reducible apply Gr.from_drew) | (with_reducible apply Gr.alloc) | (with_reducible apply Gr.drew) | (with_reducible refine Gr.trans ?_ (by assumption)) | (with_reducible refine Gr.setCell ?_ (by omega) _))))) (some ⟨w5.heap.size, 0, none⟩) 1 1 (cellsS (s, kp, next - y4)) rfl (src_newK w5 (cellsS (s, kp, next - y4)) _ 3 rfl (by simp [cellsS, Value.oneCell'])) (by simp only [maxLen]; omega) (by omega) ?_); intro v2 w6 hA; have N6 := Lib.hid (hA.nw (N5.out.gr ((Gr.refl w5).alloc _)) (by have := (HR.out.2.1.trans H5.out.g).sz; simp; omega)); have HG6 := Lib.hid (hA.gw (N5.out.gr ((Gr.refl w5).alloc _)) ((HR.out.2.1.trans H5.out.g).alloc _)); clear hA)
          | fail)
        go_roundw
        case rel => exact ⟨k + 1, v2, by omega, rfl, by go_num, Lib.hid ⟨by rw [HT.out, rowS_snoc2]; exact N6.out, HG6.out, by rw [HT.out, List.all_append, HR.out.2.2]; simp [chkS, HCK.out]⟩⟩
        case measure => simp [intOf]; omega
    · have hlt' : ¬ (k : Int) < len := by omega
      have hkn : k = len := by omega
      subst hkn
      have HE := Lib.hid (HAP.out v wr (by rw [← HFL.out]; exact HR.out.1) HR.out.2.1 (by rw [← HFL.out]; exact HR.out.2.2))
      go_wp2
      exact HE.out
end Go.Proofs.YtemjnppplmankaaGreat

/- slices.SortFunc at short rows of sides. -/
set_option linter.unusedVariables false
set_option linter.unusedSimpArgs false
namespace Go.Proofs.YtemjnppplmankaaGreat
open Go.RowKit Go.Shelf
attribute [local go_sem] OvM cell_ovm obj_ovm
attribute [local go_sem] Oper.semAt_some

abbrev rowSd (g n cap : Nat) (M : List Sd) : Asn := rowA 44 3 (.slice (some ⟨g, 0, none⟩) n cap) n (rowS M)
abbrev sdV (x : Sd) : Value := .agg #[.int .i64 x.1, .int .i64 x.2.1, .int .i64 x.2.2]
theorem own_side {w : World} {g n cap : Nat} {M : List Sd} (h : Own w 44 3 (.slice (some ⟨g, 0, none⟩) n cap) n (rowS M)) (hl : M.length = n) {x : Nat} (hx : x < n) :
    w.cell? ⟨g, x * 3, none⟩ = some (.int .i64 (gS M x).1) ∧ w.cell? ⟨g, x * 3 + 1, none⟩ = some (.int .i64 (gS M x).2.1) ∧ w.cell? ⟨g, x * 3 + 2, none⟩ = some (.int .i64 (gS M x).2.2) := by
  have := (sides_of_own h hl).2.2.2 x (by omega)
  simp only [Nat.zero_add] at this
  exact this
theorem own_fr {w : World} {g n cap : Nat} {xs : List Value} {t : TypeId} {K : Nat} (h : Own w t K (.slice (some ⟨g, 0, none⟩) n cap) n xs) : (∀ j, w.frozen? ⟨g, j, none⟩ = false) ∧ g < w.heap.size ∧ n ≤ cap ∧ cap ≤ maxLen := by
  obtain ⟨cur, hg, h1, h2, _, _⟩ := h.parts
  exact ⟨(cellsOf hg).2, blkLt hg, h1, h2⟩
/-- The comparison of a policy as a function value. -/
structure CmpS (F : Nat) (lb : Array Value) (f : Sd → Sd → Int) (S : List Sd) (R : List Asn) : Prop where
  enter : ∀ args w, (callFunc F args).run Tryz.prog w = .ok (.enter F args) w
  run : ∀ W x y, Sep R W → x ∈ S → y ∈ S → Calls Tryz.prog F (#[sdV x, sdV y] ++ lb) W fun e w' => e = .returned (.int .i64 (f x y)) ∧ Gr W w'
def SortP (w0 : World) (R : List Asn) (f : Sd → Sd → Int) (S : List Sd) (n cap g : Nat) (e : Ending) (w' : World) : Prop := (∃ v, e = .returned v) ∧ ∃ M, SW w0 (rowSd g n cap M :: R) w' ∧ M.Perm S ∧ SrtS f M
set_option maxRecDepth 40000 in
set_option maxHeartbeats 4000000 in
theorem insS_any {w0 w : World} {R : List Asn} {f : Sd → Sd → Int} {S : List Sd} {n cap g F : Nat} {lb : Array Value} (T : Tot f S) (hd : (S.map (·.1)).Nodup) (hl : S.length = n) (h0 : 0 < n) (hn : n ≤ 1000) (HC : CmpS F lb f S R) (H : SW w0 (rowSd g n cap S :: R) w) :
    Calls Tryz.prog 90 #[.slice (some ⟨g, 0, none⟩) n cap, .int .i64 0, .int .i64 n, .func (.func F) #[] lb] w (SortP w0 R f S n cap g) := by
  obtain ⟨_, _, hnc, hcm⟩ := own_fr (show Own w 44 3 (.slice (some ⟨g, 0, none⟩) n cap) n (rowS S) from H.get (i := 0) rfl)
  unfold maxLen at hcm
  have HH := Lib.hid H
  have HT := Lib.hid T
  have HD := Lib.hid hd
  have heg := HC.enter
  have HR0 := Lib.hid HC.run
  clear H T hd HC
  go_enter Tryz.func90, Tryz.ntmps90
  go_wp2_with fail
  go_loopw [8] (fun t8 wx => ∃ (i : Nat) (M : List Sd), 1 ≤ i ∧ i ≤ n ∧ t8 = .int .i64 i ∧ Hid (InI f S i M ∧ SW w0 (rowSd g n cap M :: R) wx)) (fun t8 _ => n - (intOf t8).toNat)
  case atStart => exact ⟨1, S, by omega, by omega, by go_num, Lib.hid ⟨InI.start, HH.out⟩⟩
  case round =>
    obtain ⟨i, M, hi1, hi, rfl, HI⟩ := hrel
    clear HH
    by_cases hlt : i < n
    · have hlt' : (i : Int) < n := by omega
      go_wp2_with fail
      go_loopw [9] (fun t9 wx => ∃ (j : Nat) (M : List Sd), j ≤ i ∧ t9 = .int .i64 j ∧ Hid (InJ f S i j M ∧ SW w0 (rowSd g n cap M :: R) wx)) (fun t9 _ => (intOf t9).toNat)
      case atStart => exact ⟨i, M, by omega, rfl, Lib.hid ⟨HI.out.1.begin, HI.out.2⟩⟩
      case round =>
        obtain ⟨j, M, hj, rfl, HJ⟩ := hrel
        clear HI
        by_cases hj0 : j = 0
        · subst hj0
          have hz : ((0 : Nat) : Int) = 0 := rfl
          go_wp2_with fail
          refine wp_region_flo (fun _ => False) [] [] (by kernel_rfl) (by kernel_rfl) (fun _ h => h.elim) ?_
          refine flo_seg 14 rfl ?_
          simp only [List.take_succ_cons, List.take_zero, List.drop_succ_cons, List.drop_zero]
          repeat (go_big_quiet_step (fail))
          refine wpQuiet_nil ?_
          refine flo_pass rfl rfl rfl ?_
          (try go_simp)
          refine flo_seg 2 rfl ?_
          simp only [List.take_succ_cons, List.take_zero, List.drop_succ_cons, List.drop_zero]
          repeat (go_big_quiet_step (fail))
          refine wpQuiet_nil ?_
          refine flo_nil ?_
          have HI1 := Lib.hid (And.intro (HJ.out.1.stop HT.out HD.out (by omega) (by omega) (.inl rfl)) (HJ.out.2.gr (Gr.refl wr).drew))
          go_wp2_with fail
          go_roundw
          case rel => exact ⟨i + 1, M, by omega, by omega, by go_num, HI1⟩
          case measure => simp [intOf]; omega
        · obtain ⟨q, rfl⟩ : ∃ q, j = q + 1 := ⟨j - 1, by omega⟩
          have hjp : (0 : Int) < ((q + 1 : Nat) : Int) := by omega
          have hlM : M.length = n := by have := HJ.out.1.pm.length_eq; omega
          obtain ⟨a0, a1, a2⟩ := own_side (show Own wr 44 3 (.slice (some ⟨g, 0, none⟩) n cap) n (rowS M) from HJ.out.2.get (i := 0) rfl) hlM (x := q + 1) (by omega)
          obtain ⟨b0, b1, b2⟩ := own_side (show Own wr 44 3 (.slice (some ⟨g, 0, none⟩) n cap) n (rowS M) from HJ.out.2.get (i := 0) rfl) hlM (x := q) (by omega)
          have hxm : gS M (q + 1) ∈ S := HJ.out.1.pm.mem_iff.1 (gS_mem (by omega))
          have hym : gS M q ∈ S := HJ.out.1.pm.mem_iff.1 (gS_mem (by omega))
          have HCA := Lib.hid (HR0.out wr.drew _ _ (HJ.out.2.s.tail.gr (Gr.refl wr).drew) hxm hym)
          have HSW := Lib.hid (fun (h : f (gS M (q + 1)) (gS M q) < 0) => HJ.out.1.swap HT.out HD.out (by omega) hj (by omega) h)
          have HSP := Lib.hid (fun (h : ¬ f (gS M (q + 1)) (gS M q) < 0) => HJ.out.1.stop HT.out HD.out hj (by omega) (.inr h))
          have HX := Lib.hid (show swS M (q + 1) q = (M.set (q + 1) (gS M q)).set q (gS M (q + 1)) from rfl)
          simp only [Nat.add_sub_cancel] at HSW
          have HXE := Lib.hid (And.intro (rfl : gS M (q + 1) = gS M (q + 1)) (rfl : gS M q = gS M q))
          obtain ⟨x, hxe⟩ : ∃ x, x = gS M (q + 1) := ⟨_, rfl⟩
          obtain ⟨y, hye⟩ : ∃ y, y = gS M q := ⟨_, rfl⟩
          have HXY := Lib.hid (And.intro hxe hye)
          rw [← hxe] at a0 a1 a2 HCA HSW HSP HX
          rw [← hye] at b0 b1 b2 HCA HSW HSP HX
          clear hxe hye HXE
          generalize f x y = c at *
          clear hxm hym
          have hq1 : ((q + 1 : Nat) : Int) = (q : Int) + 1 := by omega
          have hq2 : (q : Int) < n := by omega
          have hq3 : (q : Int) + 1 < n := by omega
          go_wp2_with fail
          refine wp_region_flo (fun _ => False) [] [] (by kernel_rfl) (by kernel_rfl) (fun _ h => h.elim) ?_
          refine flo_seg 14 rfl ?_
          simp only [List.take_succ_cons, List.take_zero, List.drop_succ_cons, List.drop_zero]
          repeat (go_big_quiet_step (fail))
          refine wpQuiet_nil ?_
          refine flo_eff rfl rfl rfl rfl (fun K hK => ?_)
          go_wp2_with ((go_at_fn F; refine Calls.mono HCA.out ?_; rintro e w1 ⟨rfl, hg1⟩; have HG1 := Lib.hid hg1; clear hg1))
          refine ⟨by exact HG1.out.mdh _, ?_⟩
          refine flo_seg 2 rfl ?_
          simp only [List.take_succ_cons, List.take_zero, List.drop_succ_cons, List.drop_zero]
          repeat (go_big_quiet_step (fail))
          refine wpQuiet_nil ?_
          refine flo_nil ?_
          have H1 := Lib.hid (HJ.out.2.gr ((Gr.refl wr).drew.trans HG1.out))
          clear a0 a1 a2 b0 b1 b2 HCA
          by_cases hc : c < 0
          · have HI1 := Lib.hid (HSW.out hc)
            clear HSW HSP
            go_upto_region 6 with fail
            have HO := Lib.hid (show Own w1 44 3 (.slice (some ⟨g, 0, none⟩) n cap) n (rowS M) from H1.out.get (i := 0) rfl)
            obtain ⟨a0, a1, a2⟩ := own_side HO.out hlM (x := q + 1) (by omega)
            obtain ⟨b0, b1, b2⟩ := own_side HO.out hlM (x := q) (by omega)
            rw [← HXY.out.1] at a0 a1 a2
            rw [← HXY.out.2] at b0 b1 b2
            obtain ⟨fr, lg, _, _⟩ := own_fr HO.out
            have HW : Hid (SW w0 (rowSd g n cap (swS M (q + 1) q) :: R) (((((((w1.setCell ⟨g, (q + 1) * 3, none⟩ (.int .i64 y.1)).setCell ⟨g, (q + 1) * 3 + 1, none⟩ (.int .i64 y.2.1)).setCell ⟨g, (q + 1) * 3 + 2, none⟩ (.int .i64 y.2.2)).setCell ⟨g, q * 3, none⟩ (.int .i64 x.1)).setCell ⟨g, q * 3 + 1, none⟩ (.int .i64 x.2.1)).setCell ⟨g, q * 3 + 2, none⟩ (.int .i64 x.2.2)).drew)) := Lib.hid (by
              refine SW.gr (H1.out.step (B := rowSd g n cap (swS M (q + 1) q)) (T := fun k => k = g) (((((((Mdh.refl (fun k => k = g) w1).setCell (p := ⟨g, (q + 1) * 3, none⟩) rfl _).setCell (p := ⟨g, (q + 1) * 3 + 1, none⟩) rfl _).setCell (p := ⟨g, (q + 1) * 3 + 2, none⟩) rfl _).setCell (p := ⟨g, q * 3, none⟩) rfl _).setCell (p := ⟨g, q * 3 + 1, none⟩) rfl _).setCell (p := ⟨g, q * 3 + 2, none⟩) rfl _) (fun k hk => .inl (by rw [hk]; rfl)) ?_ (fun k hk => .inl hk)) (Gr.refl _).drew
              show Own _ _ 3 _ n (rowS (swS M (q + 1) q))
              rw [HX.out]
              exact (HO.out.side hlM (x := q + 1) (by omega) y).side (by rw [List.length_set]; exact hlM) (x := q) (by omega) x)
            clear HO H1
            go_region
            all_goals
              go_wp2_with fail
              exact ⟨⟨q, _, by omega, rfl, Lib.hid ⟨HI1.out, HW.out⟩⟩, by simp [intOf]⟩
          · have HI1 := Lib.hid (HSP.out (by omega))
            clear HSW HSP
            go_wp2_with fail
            go_roundw
            case rel => exact ⟨i + 1, M, by omega, by omega, by go_num, Lib.hid ⟨HI1.out, H1.out⟩⟩
            case measure => simp [intOf]; omega
    · have hlt' : ¬ (i : Int) < n := by omega
      obtain rfl : i = n := by omega
      have HE : Hid (SortP w0 R f S i cap g (.returned (.tuple #[])) wr) := Lib.hid ⟨⟨_, rfl⟩, M, HI.out.2, HI.out.1.pm, HI.out.1.done (by omega)⟩
      generalize SortP w0 R f S i cap g = Q at *
      go_wp2_with fail
      go_end0
      exact HE.out
set_option maxRecDepth 40000 in
set_option maxHeartbeats 4000000 in
theorem len64_any (n : Nat) (h : n ≤ 12) (w : World) : Calls Tryz.prog 99 #[.int .u64 n] w fun e w' => (∃ v, e = .returned (.int .i64 v)) ∧ w = w' := by
  rcases (show n = 0 ∨ n = 1 ∨ n = 2 ∨ n = 3 ∨ n = 4 ∨ n = 5 ∨ n = 6 ∨ n = 7 ∨ n = 8 ∨ n = 9 ∨ n = 10 ∨ n = 11 ∨ n = 12 by omega) with rfl | rfl | rfl | rfl | rfl | rfl | rfl | rfl | rfl | rfl | rfl | rfl | rfl
  all_goals
    go_enter Tryz.func99, Tryz.ntmps99
    go_wp2
    go_ret
    exact ⟨⟨_, rfl⟩, rfl⟩
set_option maxRecDepth 40000 in
theorem len_any (n : Nat) (h : n ≤ 12) (w : World) : Calls Tryz.prog 55 #[.int .u64 n] w fun e w' => (∃ v, e = .returned (.int .i64 v)) ∧ w = w' := by
  have hn' : (n : Int) ≤ 12 := by omega
  have HL := Lib.hid (len64_any n h w)
  go_enter Tryz.func55, Tryz.ntmps55
  go_wp2_with (go_at_call 99; refine Calls.mono HL.out ?_; rintro e w1 ⟨⟨v, rfl⟩, rfl⟩)
  go_ret
  exact ⟨⟨_, rfl⟩, rfl⟩
set_option maxRecDepth 40000 in
set_option maxHeartbeats 4000000 in
theorem sortS_any {w0 w : World} {R : List Asn} {f : Sd → Sd → Int} {S : List Sd} {n cap g F : Nat} {lb : Array Value} (T : Tot f S) (hd : (S.map (·.1)).Nodup) (hl : S.length = n) (h0 : 0 < n) (hn : n ≤ 12) (HC : CmpS F lb f S R) (H : SW w0 (rowSd g n cap S :: R) w) :
    Calls Tryz.prog 30 #[.slice (some ⟨g, 0, none⟩) n cap, .func (.func F) #[] lb] w (SortP w0 R f S n cap g) := by
  have HI := Lib.hid (insS_any T hd hl h0 (by omega) HC H)
  have heg := HC.enter
  clear T hd hl HC H
  show Calls _ _ _ _ fun e w' => (∃ v, e = .returned v) ∧ _
  obtain ⟨Q, hQ⟩ : ∃ Q : World → Prop, Q = fun w' => ∃ M, SW w0 (rowSd g n cap M :: R) w' ∧ M.Perm S ∧ SrtS f M := ⟨_, rfl⟩
  replace HI : Hid (Calls Tryz.prog 90 #[.slice (some ⟨g, 0, none⟩) n cap, .int .i64 0, .int .i64 n, .func (.func F) #[] lb] w fun e w' => (∃ v, e = .returned v) ∧ Q w') := Lib.hid (by rw [hQ]; exact HI.out)
  refine Calls.mono (R := fun e w' => (∃ v, e = .returned v) ∧ Q w') ?_ (fun e w' h => by rw [hQ] at h; exact h)
  clear hQ
  have HP : Hid (∀ lim : Int, Calls Tryz.prog 54 #[.slice (some ⟨g, 0, none⟩) n cap, .int .i64 0, .int .i64 n, .int .i64 lim, .func (.func F) #[] lb] w fun e w' => (∃ v, e = .returned v) ∧ Q w') := Lib.hid (fun lim => by
    go_enter Tryz.func54, Tryz.ntmps54
    have hn' : (n : Int) ≤ 12 := by omega
    have hd0 : ((n : Int) - 0) = n := by omega
    go_wp2_with fail
    go_loopw [1, 2] (fun t1 t2 wx => t1 = .int .i64 0 ∧ t2 = .int .i64 n ∧ wx = w) (fun _ _ _ => 0)
    case atStart => exact ⟨rfl, rfl, rfl⟩
    case round =>
      obtain ⟨rfl, rfl, rfl⟩ := hrel
      go_wp2_with (go_at_call 90; refine Calls.mono HI.out ?_; rintro e w1 ⟨⟨v, rfl⟩, hq⟩; have HQ := Lib.hid hq; clear hq)
      exact bodyPost_ret (results_none rfl _ _ _) rfl ⟨⟨_, rfl⟩, HQ.out⟩)
  go_enter Tryz.func30, Tryz.ntmps30
  go_wp2_with (first
    | (go_at_call 55; refine (len_any n hn _).mono ?_; rintro e w1 ⟨⟨v, rfl⟩, rfl⟩)
    | (go_at_call 54; refine Calls.mono (HP.out _) ?_; rintro e w1 ⟨⟨v, rfl⟩, hq⟩; have HQ := Lib.hid hq; clear hq))
  go_end0
  exact ⟨⟨_, rfl⟩, HQ.out⟩
end Go.Proofs.YtemjnppplmankaaGreat

/- A number of a row of numbers. -/
set_option linter.unusedVariables false
set_option linter.unusedSimpArgs false
namespace Go.Proofs.YtemjnppplmankaaGreat
open Go.RowKit

def kN (l : List Int) : List Value := l.map (fun x => .int .i64 x)
theorem kN_len (l : List Int) : (kN l).length = l.length := by simp [kN]
theorem kN_snoc (l : List Int) (x : Int) : kN (l ++ [x]) = kN l ++ [.int .i64 x] := by simp [kN]
theorem ownN_at {w : World} {v : Value} {l : List Int} (h : Own w 3 1 v l.length (kN l)) : ∃ a cap, v = .slice a l.length cap ∧ l.length ≤ cap ∧ cap ≤ maxLen ∧ ∀ i x, l[i]? = some x → ∃ g, a = some ⟨g, 0, none⟩ ∧ g < w.heap.size ∧ v.ownBlock = some g ∧ w.cell? ⟨g, i, none⟩ = some (.int .i64 x) := by
  rcases h.2 with ⟨hv, h0⟩ | ⟨g, cap, cur, hv, _, hg, h1, h2, h3, h4⟩
  · have hL : l = [] := List.eq_nil_of_length_eq_zero h0
    subst hL
    exact ⟨none, 0, hv, Nat.le_refl _, by simp [maxLen], fun i x hx => by simp at hx⟩
  · subst hv
    refine ⟨_, cap, rfl, h1, h2, fun i x hx => ⟨g, rfl, blkLt hg, rfl, ?_⟩⟩
    have hc := h.cells (g := g) rfl i (.int .i64 x) (by unfold kN; rw [List.getElem?_map, hx]; rfl)
    rwa [show (⟨g, 0, none⟩ : Addr).add i = ⟨g, i, none⟩ by unfold Addr.add; split <;> simp_all] at hc
end Go.Proofs.YtemjnppplmankaaGreat

/- victim.Sides, Choose and Order. -/
set_option linter.unusedVariables false
set_option linter.unusedSimpArgs false
namespace Go.Proofs.YtemjnppplmankaaGreat
open Go.RowKit Go.Shelf
attribute [local go_sem] OvM cell_ovm obj_ovm
attribute [local go_sem] Oper.semAt_some

theorem vchk_ok {n : Nat} {c : Cfg} {l : List Int} {next : Int} {good : Bool} (h : vchkC n c l next good = 0) : argC n c next good = true ∧ l.all (okS n) = true ∧ l.Nodup := by
  unfold vchkC at h
  split at h
  · cases h
  · split at h
    · cases h
    · split at h
      · cases h
      · rename_i h1 h2 h3
        exact ⟨by simpa using h1, by simpa using h2, by simpa using h3⟩
theorem argC_ok {n : Nat} {c : Cfg} {next : Int} {good : Bool} (h : argC n c next good = true) : cfgOk c = true ∧ good = true ∧ c.slots = n ∧ 1 ≤ next ∧ next ≤ 1099511627776 := by
  unfold argC at h
  simp only [Bool.and_eq_true, decide_eq_true_eq] at h
  exact ⟨h.1.1.1.1, h.1.1.1.2, h.1.1.2, h.1.2, h.2⟩
/-- The error, and what is told. -/
def vCode (X : IX) (c : Cfg) (l : List Int) (next : Int) (good : Bool) : Int := if vchkC X.slots.length c l next good = 0 then sidesC X next (c.size - 16) l else vchkC X.slots.length c l next good
def vSides (X : IX) (c : Cfg) (l : List Int) (next : Int) (good : Bool) : List Sd := if vchkC X.slots.length c l next good = 0 then sidesK X next (c.size - 16) l else []
def VsP (X : IX) (c : Cfg) (l : List Int) (next : Int) (w : World) (e : Ending) (w' : World) : Prop :=
  ∃ v, e = .returned (.tuple #[v, .int .i64 (vCode X c l next true)]) ∧ Nw w w' 44 3 v (vSides X c l next true).length (rowS (vSides X c l next true)) ∧ Gr w w'
theorem has_okS {X : IX} {l : List Int} (h : l.all (okS X.slots.length) = true) : ∀ s ∈ l, X.has s = true := fun s hs => by
  have := List.all_eq_true.1 h s hs
  unfold okS at this
  simp only [Bool.and_eq_true, decide_eq_true_eq] at this
  exact decide_eq_true this
def polB26 (p : Int) : Bool := decide (p = 1) || decide (p = 2)
theorem known_any (p : Int) (w : World) : Calls Tryz.prog 28 #[.int .i64 p] w fun e w' => e = .returned (.bool (polB26 p)) ∧ w = w' := by
  by_cases h1 : p = 1
  · subst h1
    go_enter Tryz.func28, Tryz.ntmps28
    go_wp2
    go_ret
    exact ⟨rfl, rfl⟩
  · have hb : (p == 1) = false := by simp [h1]
    go_enter Tryz.func28, Tryz.ntmps28
    go_wp2
    go_ret
    exact ⟨ret_bool (by unfold polB26; rw [decide_eq_false h1, Bool.false_or]; simp [BEq.beq]), rfl⟩
set_option maxRecDepth 40000 in
set_option maxHeartbeats 4000000 in
theorem VSides_any {w : World} {p : Option Addr} {X : IX} {S : Nat → Prop} (h : IXP w p X S) (hne : X.slots ≠ []) (c : Cfg) (a : Option Addr) (len cap : Nat) (l : List Int) (hl : l.length = len) (hle : len ≤ cap) (hcap : cap ≤ maxLen) (h100 : len ≤ 1000) (hs : NumAt w a l) (next : Int) :
    Calls Tryz.prog 7 #[.pointer p, cfgV c, .slice a len cap, .int .i64 next] w (VsP X c l next w) := by
  have HCK := Lib.hid (fun (w1 : World) (g : Gr w w1) => Vcheck_any (h.gr g) hne c a len cap l hl hle hcap (hs.gr g) next true)
  have HSD : Hid (vchkC X.slots.length c l next true = 0 → ∀ w1, Gr w w1 → Calls Tryz.prog 22 #[.pointer p, .int .i64 (c.size - 16), .slice a len cap, .int .i64 next] w1 (SidesPost X next (c.size - 16) l w1)) := Lib.hid (fun h0 w1 g => by
    obtain ⟨h1, h2, h3⟩ := vchk_ok h0
    have h4 := argC_ok h1
    exact Vsides_any (h.gr g) _ next h4.2.2.2.1 h4.2.2.2.2 a len cap l hl hle hcap h100 (hs.gr g) (has_okS h2) hne)
  have HP1 : Hid (vchkC X.slots.length c l next true = 0 → ∀ v w1 w', Gr w w1 → SidesPost X next (c.size - 16) l w1 (.returned v) w' → VsP X c l next w (.returned v) w') := Lib.hid (fun h0 v w1 w' g hq => by
    obtain ⟨v1, e1, h1, h2⟩ := hq
    refine ⟨v1, by rw [e1]; unfold vCode; rw [if_pos h0], ?_, g.trans h2⟩
    have e : vSides X c l next true = sidesK X next (c.size - 16) l := if_pos h0
    rw [e]
    exact ⟨h1.own, fun k hk => Nat.le_trans g.sz (h1.new k hk)⟩)
  have HP2 : Hid (¬ vchkC X.slots.length c l next true = 0 → ∀ w', Gr w w' → VsP X c l next w (.returned (.tuple #[.slice none 0 0, .int .i64 (vchkC X.slots.length c l next true)])) w') := Lib.hid (fun h0 w' g => by
    refine ⟨_, by unfold vCode; rw [if_neg h0], ?_, g⟩
    have e : vSides X c l next true = [] := if_neg h0
    rw [e]
    exact Nw.nil2 g)
  generalize VsP X c l next w = Q at *
  obtain ⟨cd, hcd⟩ : ∃ cd, cd = vchkC X.slots.length c l next true := ⟨_, rfl⟩
  rw [← hcd] at HCK HSD HP1 HP2
  clear hcd h hs hl
  have HSP : Hid (∀ w1 e w', SidesPost X next (c.size - 16) l w1 e w' → ∃ v k, e = .returned (.tuple #[v, .int .i64 k])) := Lib.hid (fun w1 e w' ⟨v, e1, _⟩ => ⟨v, _, e1⟩)
  obtain ⟨c0, c1, c2, c3, c4, c5, c6⟩ := c
  simp only [cfgV] at HCK ⊢
  simp only at HSD HP1 HCK HSP
  unfold maxLen at hcap
  by_cases h0 : cd = 0
  · subst h0
    rw [if_pos rfl] at HCK
    go_enter Tryz.func7, Tryz.ntmps7
    go_wp2_with (first
      | (go_at_call 21; refine Calls.mono (HCK.out _ (by (repeat (first | (with_reducible exact Gr.refl _) | assumption | (with_reducible apply Gr.from_drew) | (with_reducible apply Gr.alloc) | (with_reducible apply Gr.drew) | (with_reducible refine Gr.trans ?_ (by assumption)) | (with_reducible refine Gr.setCell ?_ (by omega) _))))) ?_; rintro e w1 ⟨rfl, hg⟩; have HG1 := Lib.hid (((Gr.refl w).alloc _).trans hg); clear hg)
      | (go_at_call 22; (refine Calls.mono (HSD.out (by trivial) _ HG1.out) ?_; intro e w2 hq; obtain ⟨v, k, rfl⟩ := HSP.out _ _ _ hq; have HQ := Lib.hid (HP1.out (by trivial) _ _ _ HG1.out hq); clear hq)))
    exact HQ.out
  · have h0' : (cd != 0) = true := by simp [h0]
    rw [if_neg h0] at HCK
    go_enter Tryz.func7, Tryz.ntmps7
    go_wp2_with (go_at_call 21; refine Calls.mono (HCK.out _ (by (repeat (first | (with_reducible exact Gr.refl _) | assumption | (with_reducible apply Gr.from_drew) | (with_reducible apply Gr.alloc) | (with_reducible apply Gr.drew) | (with_reducible refine Gr.trans ?_ (by assumption)) | (with_reducible refine Gr.setCell ?_ (by omega) _))))) ?_; rintro e w1 ⟨rfl, hg⟩; have HG1 := Lib.hid (((Gr.refl w).alloc _).trans hg); clear hg)
    exact HP2.out h0 _ HG1.out
set_option maxRecDepth 40000 in
theorem ord1_any (policy room : Int) (b8 b12 : Nat) (x y : Sd) (w : World) (h8 : w.heap[b8]? = some (.cells #[.int .i64 policy] 3)) (h12 : w.heap[b12]? = some (.cells #[.int .i64 room] 3)) :
    Calls Tryz.prog 31 #[sdV x, sdV y, .pointer (some ⟨b8, 0, none⟩), .pointer (some ⟨b12, 0, none⟩)] w fun e w' => e = .returned (.int .i64 (cmpC policy x.1 x.2.1 x.2.2 y.1 y.2.1 y.2.2 room)) ∧ Gr w w' := by
  have d8 := ((cellsOf h8).1 0).trans (show _ = some (Value.int .i64 policy) from rfl)
  have d12 := ((cellsOf h12).1 0).trans (show _ = some (Value.int .i64 room) from rfl)
  have l8 := blkLt h8
  have l12 := blkLt h12
  obtain ⟨x1, x2, x3⟩ := x
  obtain ⟨y1, y2, y3⟩ := y
  clear h8 h12
  simp only [sdV]
  go_enter Tryz.func31, Tryz.ntmps31
  go_wp2_with (go_at_call 32; refine (Compare_any _ _ _ _ _ _ _ _ _).mono ?_; rintro e w1 ⟨rfl, hg⟩; have HG := Lib.hid ((((Gr.refl w).alloc _).alloc _).trans hg); clear hg)
  go_ret
  exact ⟨rfl, HG.out⟩
theorem cmpS_ord (policy room : Int) (hp : policy = 1 ∨ policy = 2) (b8 b12 : Nat) {S : List Sd} (hc : ∀ x ∈ S, chkS room x = true) : CmpS 31 #[.pointer (some ⟨b8, 0, none⟩), .pointer (some ⟨b12, 0, none⟩)] (polS policy room) S [blkA b12 (.cells #[.int .i64 room] 3), blkA b8 (.cells #[.int .i64 policy] 3)] :=
  ⟨enters_of Tryz.func31 (by kernel_rfl) rfl, fun W x y hR hx hy => by
    have h := ord1_any policy room b8 b12 x y W (hR.get (A := blkA b8 (.cells #[.int .i64 policy] 3)) (by simp)) (hR.get (A := blkA b12 (.cells #[.int .i64 room] 3)) (by simp))
    rw [cmpC_of hp (hc x hx) (hc y hy)] at h
    exact h⟩
set_option maxRecDepth 40000 in
theorem sort0_any (a : Option Addr) (cap F : Nat) (lb : Array Value) (w : World) : Calls Tryz.prog 30 #[.slice a 0 cap, .func (.func F) #[] lb] w fun e w' => (∃ v, e = .returned v) ∧ w' = w := by
  have HI : Hid (Calls Tryz.prog 90 #[.slice a 0 cap, .int .i64 0, .int .i64 0, .func (.func F) #[] lb] w fun e w' => (∃ v, e = .returned v) ∧ w' = w) := Lib.hid (by
    go_enter Tryz.func90, Tryz.ntmps90
    go_wp2_with fail
    go_loopw [8] (fun t8 wx => t8 = .int .i64 1 ∧ wx = w) (fun _ _ => 0)
    case atStart => exact ⟨by go_num, rfl⟩
    case round =>
      obtain ⟨rfl, rfl⟩ := hrel
      go_wp2_with fail
      go_end0
      exact ⟨⟨_, rfl⟩, rfl⟩)
  have HP : Hid (∀ lim : Int, Calls Tryz.prog 54 #[.slice a 0 cap, .int .i64 0, .int .i64 0, .int .i64 lim, .func (.func F) #[] lb] w fun e w' => (∃ v, e = .returned v) ∧ w' = w) := Lib.hid (fun lim => by
    go_enter Tryz.func54, Tryz.ntmps54
    go_wp2_with fail
    go_loopw [1, 2] (fun t1 t2 wx => t1 = .int .i64 0 ∧ t2 = .int .i64 0 ∧ wx = w) (fun _ _ _ => 0)
    case atStart => exact ⟨rfl, rfl, rfl⟩
    case round =>
      obtain ⟨rfl, rfl, rfl⟩ := hrel
      go_wp2_with (go_at_call 90; refine Calls.mono HI.out ?_; rintro e w1 ⟨⟨v, rfl⟩, rfl⟩)
      exact bodyPost_ret (results_none rfl _ _ _) rfl ⟨⟨_, rfl⟩, rfl⟩)
  go_enter Tryz.func30, Tryz.ntmps30
  go_wp2_with (first
    | (go_at_call 55; refine (len_any 0 (by omega) _).mono ?_; rintro e w1 ⟨⟨v, rfl⟩, rfl⟩)
    | (go_at_call 54; refine Calls.mono (HP.out _) ?_; rintro e w1 ⟨⟨v, rfl⟩, rfl⟩))
  go_end0
  exact ⟨⟨_, rfl⟩, rfl⟩
end Go.Proofs.YtemjnppplmankaaGreat
