/- The map of an index by its numbers; LivenessKeeps in plain Lean. No walk. -/
import Derived.Test.YthefpmmeoajaiaaBd13
import Derived.Test.YthefpmmeoajaiaaBd15
import Derived.Test.YthefpmmeoajaiaaBd7
import Derived.Test.YthefpmmeoajaiaaBd14
import Derived.Test.YthefpmmeoajaiaaBd12
set_option linter.unusedVariables false
set_option linter.unusedSimpArgs false
namespace Go.Proofs.Ythefpmmeoajaiaa

def livF (X : IX) (l : List ByteArray) : List (ByteArray × Int) := l.filterMap (fun k => (findE X k).map (fun e => (k, e.seq)))
def liveM (X : IX) : List (ByteArray × Int) := livF X X.ks
theorem livF_none {X : IX} {l : List ByteArray} {k : ByteArray} (h : findE X k = none) : livF X (l ++ [k]) = livF X l := by simp [livF, h]
theorem livF_some {X : IX} {l : List ByteArray} {k : ByteArray} {e : En} (h : findE X k = some e) : livF X (l ++ [k]) = livF X l ++ [(k, e.seq)] := by simp [livF, h]
theorem livF_srt {X : IX} {l : List ByteArray} (h : l.Pairwise (fun a b => ltS a b = true)) : Srt ltS (livF X l) := by
  refine List.pairwise_filterMap.2 (h.imp (fun {a b} hab x hx y hy => ?_))
  obtain ⟨e, _, rfl⟩ := Option.map_eq_some_iff.1 hx
  obtain ⟨e', _, rfl⟩ := Option.map_eq_some_iff.1 hy
  exact hab
def seqK (X : IX) (k : ByteArray) : Option Int := (findE X k).map (fun e => e.seq)
theorem livF_map (X : IX) (l : List ByteArray) : livF X l = (l.filter (fun k => (findE X k).isSome)).map (fun k => (k, (seqK X k).getD 0)) := by
  induction l with
  | nil => rfl
  | cons k l ih =>
    unfold livF seqK at *
    rw [List.filterMap_cons, List.filter_cons]
    cases hf : findE X k with
    | none => simpa using ih
    | some e =>
      simp only [Option.map_some, Option.isSome_some, if_true, List.map_cons, hf, Option.getD_some]
      rw [ih]
theorem liveM_eq {X Y : IX} (hX : X.Wf) (hY : Y.Wf) (h : ∀ k, seqK Y k = seqK X k) : liveM Y = liveM X := by
  have hs : ∀ k, (findE Y k).isSome = (findE X k).isSome := fun k => by
    have := congrArg Option.isSome (h k)
    unfold seqK at this
    simpa using this
  have e1 : lvK Y = lvK X := keys_eq (lvK_srt hY) (lvK_srt hX) (fun k => by rw [lvK_mem hY, lvK_mem hX, hs k])
  unfold liveM
  rw [livF_map, livF_map, show Y.ks.filter (fun k => (findE Y k).isSome) = lvK Y from rfl, e1]
  exact List.map_congr_left (fun k _ => by rw [h k])
/-- What is newest of a key, and what is left of it where a slot of no needed entries is gone. -/
theorem drop_seqK {X : IX} (h : X.Wf) {s : Int} (hk : ∀ e ∈ X.slot s, X.needs e = false) (k : ByteArray) : seqK (dropX X s) k = seqK X k := by
  have hof := drop_of h s k
  have hp := h.ofPair k
  have hall := h.of_mem k
  unfold seqK
  cases hl : X.of k with
  | nil =>
    rw [hl, List.filter_nil] at hof
    unfold findE
    rw [hof, hl]
  | cons y t =>
    rw [hl] at hof hp hall
    have hy := (hall y).1 (List.mem_cons_self ..)
    rw [List.filter_cons] at hof
    by_cases hs : y.slot = s
    · rw [if_neg (by simp [hs])] at hof
      have h1 := hk y ((h.slot_mem s y).2 ⟨hy.1, hs⟩)
      unfold IX.needs at h1
      rw [hy.2, hl] at h1
      have hd1 : ∀ z ∈ t, z.seq < y.seq ∨ z.seq = y.seq := fun z hz => by
        have := (List.pairwise_cons.1 hp).1 z hz
        unfold ltE at this
        have := of_decide_eq_true this
        omega
      have n1 : ¬ (y :: t).any (nd1 y) = true := by
        rw [List.any_eq_true]
        rintro ⟨z, hz, h2⟩
        have h3 : y.seq < z.seq := of_decide_eq_true h2
        rcases List.mem_cons.1 hz with rfl | hz
        · omega
        · have := hd1 z hz; omega
      rw [if_neg n1] at h1
      by_cases n2 : (y :: t).any (nd2 y) = true
      · obtain ⟨o, ho, h2⟩ := List.any_eq_true.1 n2
        have h2 : o.seq = y.seq ∧ o.slot ≠ y.slot := of_decide_eq_true h2
        have ht : o ∈ t := by
          rcases List.mem_cons.1 ho with rfl | h4
          · exact absurd rfl h2.2
          · exact h4
        have h3 : o ∈ t.filter (fun o => decide (o.slot ≠ s)) := List.mem_filter.2 ⟨ht, decide_eq_true (fun h => h2.2 (h.trans hs.symm))⟩
        cases hf : t.filter (fun o => decide (o.slot ≠ s)) with
        | nil => rw [hf] at h3; cases h3
        | cons z u =>
          rw [hf] at h3 hof
          have hz : z ∈ t := (List.mem_filter.1 (show z ∈ t.filter (fun o => decide (o.slot ≠ s)) by rw [hf]; exact List.mem_cons_self ..)).1
          have hza := (hall z).1 (List.mem_cons_of_mem _ hz)
          have hpt : (z :: u).Pairwise (fun a b => ltE a b = true) := by rw [← hf]; exact (List.pairwise_cons.1 hp).2.sublist List.filter_sublist
          have hq : z.seq = y.seq := by
            have h5 := hd1 z hz
            rcases List.mem_cons.1 h3 with h4 | h4
            · rw [← h4]; exact h2.1
            · have h6 := (List.pairwise_cons.1 hpt).1 o h4
              unfold ltE at h6
              have h7 := of_decide_eq_true h6
              omega
          have hc := h.c z hza.1 y hy.1 (hza.2.trans hy.2.symm) hq
          unfold findE
          rw [hof, hl]
          simp only
          rw [hc.1]
          cases y.del
          · exact congrArg some hq
          · rfl
      · rw [if_neg n2] at h1
        have hdel : y.del = true := by
          cases hd : y.del
          · rw [hd, if_pos rfl] at h1; cases h1
          · rfl
        rw [hdel, if_neg (by decide)] at h1
        have hnil : t.filter (fun o => decide (o.slot ≠ s)) = [] := by
          refine List.filter_eq_nil_iff.2 (fun z hz hzs => ?_)
          have hzs : z.slot ≠ s := of_decide_eq_true hzs
          have hzy : z.slot ≠ y.slot := fun e => hzs (e.trans hs)
          rcases hd1 z hz with h5 | h5
          · have : (y :: t).any (nd3 y) = true := List.any_eq_true.2 ⟨z, List.mem_cons_of_mem _ hz, decide_eq_true ⟨h5, hzy⟩⟩
            rw [this] at h1
            cases h1
          · exact n2 (List.any_eq_true.2 ⟨z, List.mem_cons_of_mem _ hz, decide_eq_true ⟨h5, hzy⟩⟩)
        rw [hnil] at hof
        unfold findE
        rw [hof, hl]
        simp only
        rw [hdel]
        rfl
    · rw [if_pos (by simp [hs])] at hof
      unfold findE
      rw [hof, hl]
theorem drop_liveM {X : IX} (h : X.Wf) {s : Int} (hk : ∀ e ∈ X.slot s, X.needs e = false) : liveM (dropX X s) = liveM X := liveM_eq h (drop_wf h s) (drop_seqK h hk)
theorem drop_len (X : IX) (s : Int) : (dropX X s).slots.length = X.slots.length := by
  unfold dropX
  split
  · simp
  · rfl
/-- An index of six slots, of which the last has no entries. -/
structure KI (X : IX) (m : List (ByteArray × Int)) : Prop where
  wf : X.Wf
  ln : X.slots.length = 6
  e5 : X.slot 5 = []
  lv : liveM X = m
def redS (X : IX) (s : Int) : Bool := decide (keepC X s = 0 ∧ keepL X s = [])
def freeL (X : IX) (n : Nat) : List Int := ((List.range n).map (fun i : Nat => (i : Int))).filter (redS X)
section
variable {X : IX} {m : List (ByteArray × Int)}
theorem KI.ne (h : KI X m) : X.slots ≠ [] := fun h0 => by have := h.ln; rw [h0] at this; cases this
theorem KI.code (h : KI X m) {s : Nat} (hs : s < 6) : keepC X s = 0 := by
  unfold keepC
  rw [if_neg h.ne, if_neg]
  unfold IX.has
  rw [h.ln]
  simp
  omega
theorem KI.dcode (h : KI X m) {s : Nat} (hs : s < 6) : dropC X s = 0 := by
  have := h.ne
  unfold dropC
  simp [IX.has, h.ln, this]
  omega
theorem KI.red5 (h : KI X m) : redS X 5 = true := decide_eq_true ⟨h.code (s := 5) (by omega), by unfold keepL; rw [h.e5]; rfl⟩
theorem KI.drop (h : KI X m) {s : Int} (hs : redS X s = true) : KI (dropX X s) m := by
  have h1 := (of_decide_eq_true hs).2
  refine ⟨drop_wf h.wf s, by rw [drop_len, h.ln], ?_, ?_⟩
  · rw [drop_slot h.wf]; split
    · rfl
    · exact h.e5
  · rw [drop_liveM h.wf, h.lv]
    intro e he
    cases hn : X.needs e with
    | false => rfl
    | true =>
      have : e ∈ keepL X s := List.mem_filter.2 ⟨he, hn⟩
      rw [h1] at this
      cases this
theorem free_succ (X : IX) (n : Nat) : freeL X (n + 1) = freeL X n ++ (if redS X n = true then [(n : Int)] else []) := by
  unfold freeL
  rw [List.range_succ, List.map_append, List.filter_append]
  simp only [List.map_cons, List.map_nil, List.filter_cons, List.filter_nil]
theorem free_le (X : IX) (n : Nat) : (freeL X n).length ≤ n := by
  unfold freeL
  have := List.length_filter_le (redS X) ((List.range n).map (fun i : Nat => (i : Int)))
  simpa using this
theorem free_red {X : IX} {n : Nat} {s : Int} (h : s ∈ freeL X n) : redS X s = true ∧ 0 ≤ s ∧ s < n := by
  have h1 := List.mem_filter.1 h
  obtain ⟨i, hi, rfl⟩ := List.mem_map.1 h1.1
  have := List.mem_range.1 hi
  exact ⟨h1.2, by omega, by omega⟩
theorem KI.last (h : KI X m) : ∃ l, freeL X 6 = l ++ [5] := by
  refine ⟨freeL X 5, ?_⟩
  rw [free_succ, if_pos]
  · rfl
  · exact h.red5
end
theorem build_KI {st : LS} {j : Nat} (h : st.Ok j) (h5 : ∀ e ∈ st.all, e.slot < 5) : KI st.X (liveM st.X) := by
  refine ⟨h.g.wf, by have := h.g.ln; omega, ?_, rfl⟩
  cases hl : st.X.slot 5 with
  | nil => rfl
  | cons e t =>
    have h1 := (h.g.slot 5 e).1 (by rw [hl]; simp)
    have := h5 e h1.1
    omega
end Go.Proofs.Ythefpmmeoajaiaa

/- drumlinlaw24.live: the walk. -/
set_option linter.unusedVariables false
set_option linter.unusedSimpArgs false
namespace Go.Proofs.Ythefpmmeoajaiaa
open Go.RowKit Go.Shelf Go.Maps
attribute [local go_sem] OvM cell_ovm obj_ovm
attribute [local go_sem] Oper.semAt_some

set_option maxRecDepth 40000 in
theorem yieldsS24_any (gf : Nat) (lb : Array Value) (w : World) : Calls Try.prog 103 #[.func (.func gf) #[] lb] w fun e w' => e = .returned (.func (.func gf) #[] lb) ∧ w = w' := by
  have k1 : ∀ w : World, (binOp .eql 146 (.func (.func gf) #[] lb) .nilFunc).run Try.prog w = .ok (.bool false) w := fun w => by kernel_rfl
  go_enter Try.func103, Try.ntmps103
  go_wp2
  go_ret
  exact ⟨rfl, rfl⟩
def LivP (X : IX) (w : World) (e : Ending) (w' : World) : Prop := ∃ bm n, e = .returned (.map (some bm)) ∧ Gr w w' ∧ GS w' bm n (liveM X) ∧ w.heap.size ≤ bm

theorem find_head {X : IX} (h : X.Wf) {k : ByteArray} (hk : k ∈ X.ks) : ∃ y, newV (X.of k) = .tuple #[enV y, .bool true] ∧ findE X k = (if y.del = true then none else some y) ∧ y.key = k ∧ validE y = true := by
  have hne := (mem_ks h k).1 hk
  cases ho : X.of k with
  | nil => exact absurd ho hne
  | cons y t =>
    refine ⟨y, rfl, by unfold findE; rw [ho], ?_⟩
    have hm := (h.of_mem k y).1 (by rw [ho]; simp)
    exact ⟨hm.2, (h.valid hm.1).1⟩
abbrev lvB (bm b1 n : Nat) (p : Option Addr) (L : List SqI) : List Asn := [blkA (bm + 1) (.cells #[.map (some bm)] 102), gsA bm n L, blkA b1 (.cells #[.pointer p] 32)]
set_option maxRecDepth 40000 in
set_option maxHeartbeats 8000000 in
theorem live24_any {w : World} {b : Nat} {X : IX} {S : Nat → Prop} (h : IXR w b X S) : Calls Try.prog 47 #[.pointer (some ⟨b, 0, none⟩)] w (LivP X w) := by
  have H := Lib.hid (show IXP w (some ⟨b, 0, none⟩) X S from .inl ⟨b, rfl, h⟩)
  have HWF := Lib.hid H.out.ok
  have HKL : Hid (X.ks.length ≤ 16384) := Lib.hid (by have := HWF.out.keys_le; unfold IX.ks; simpa using this)
  clear h
  obtain ⟨p, hp⟩ : ∃ p, p = (some ⟨b, 0, none⟩ : Option Addr) := ⟨_, rfl⟩
  rw [← hp] at H ⊢
  clear hp
  have hmm := @run_makeMap Try.prog
  refine calls_of_wp_marks Try.func47 rfl ?_
  simp only [Try.ntmps47, List.size_toArray, List.length_cons, List.length_nil, Nat.reduceAdd, Nat.reduceSub, Array.replicate_succ, Array.replicate_zero, List.push_toArray, List.append_toArray, List.nil_append, List.cons_append]
  go_upto_region 2 with fail
  clear hmm
  obtain ⟨b1, hb1⟩ : ∃ q, q = w.heap.size := ⟨_, rfl⟩
  obtain ⟨w0, hw0⟩ : ∃ y, y = ((w.alloc (.cells #[.pointer p] 32)).alloc (.map #[] 0)).alloc (.cells #[.map (some (b1 + 1))] 102) := ⟨_, rfl⟩
  have HSW : Hid (SW w (lvB (b1 + 1) b1 0 p []) w0) := Lib.hid (by
    have h1 := (SW.start w).alloc (.cells #[.pointer p] 32)
    have h2 := h1.new ((Gr.refl _).alloc _) (A := gsA (w.alloc (.cells #[.pointer p] 32)).heap.size 0 []) (GS.made _) (fun k hk => by rw [show k = _ from hk]; exact Nat.le_refl _)
    have h3 := h2.alloc (.cells #[.map (some (b1 + 1))] 102)
    simp only [World.size_alloc] at h3
    rw [← hb1] at h3
    rw [hw0]
    exact h3)
  rw [← hb1]
  rw [← hw0]
  clear hw0 hb1
  have d1 := (cellsOf (show w0.heap[b1]? = _ from HSW.out.get (i := 2) rfl)).1
  go_wp2_with fail
  refine (Keys_any p _).mono ?_
  rintro e' w1 ⟨bb, rfl, h1, h2, hg⟩
  have HS1 := Lib.hid (HSW.out.gr hg)
  have HI := Lib.hid (H.out.gr HS1.out.g)
  have HSEQ := Lib.hid (SeqKeysP HI.out bb h1)
  have HA : Hid (∀ q, (q = bb ∨ S q) → q < w1.heap.size) := Lib.hid (fun q hq => by
    have l1 := World.block_lt_of_cell? w1 ⟨bb, 0, none⟩ h1
    rcases hq with rfl | hq
    · exact l1
    · exact HI.out.lt q hq)
  have HZ : Hid (∃ n, n ≤ ([] : List ByteArray).length ∧ SWz w w1 (fun q => q = bb ∨ S q) (lvB (b1 + 1) b1 n p (livF X [])) (fun _ => False) w1) := Lib.hid ⟨0, Nat.le_refl _, SWz.start HS1.out (fun B hB k hk ha => by
    have l1 := HSW.out.s.lt hB k hk
    have l2 := HSW.out.n B hB k hk
    rcases ha with rfl | ha
    · omega
    · have := H.out.lt k ha; omega)⟩
  clear h1 h2 hg d1
  go_wp2_with fail
  refine (yieldsS24_any _ _ _).mono ?_
  rintro e' w2 ⟨rfl, rfl⟩
  go_wp2_with fail
  apply wp_rangeFunc_zb (gf := 124) (lb := #[.pointer (some ⟨bb, 0, none⟩)]) rfl (enters_of Try.func124 (by kernel_rfl) rfl) HSEQ.out (Mdh.refl _ w1) HA.out (fun _ => rfl)
    (fun Z pre X' => ∃ n, n ≤ pre.length ∧ SWz w w1 (fun q => q = bb ∨ S q) (lvB (b1 + 1) b1 n p (livF X pre)) Z X')
    (fun _ _ _ => False) (fun _ _ _ => False)
    (Apart.ex fun n => ((Apart.pure (fun pre : List ByteArray => n ≤ pre.length)).and (SWz.apart HS1.out.g.sz (fun pre : List ByteArray => lvB (b1 + 1) b1 n p (livF X pre))))) apart_no apart_no
    HZ.out _ ?assign ?body ?hend ?hret
  case hret => intro _ _ _ _ _ _ _ h; exact h.elim
  case assign =>
    intro l x X' K hK
    dsimp only [encK]
    gi_wp2
    exact hK
  case body =>
    intro l Z pre x X' hI hsp
    obtain ⟨n, hn, hI⟩ := hI
    have HIZ := Lib.hid hI
    have hmem : x ∈ X.ks := hsp.subset (by simp)
    obtain ⟨y, hy1, hy2, hy3, hy4⟩ := find_head HWF.out hmem
    have hvy := (valid_iff y).1 hy4
    have HPS : Hid (Srt ltS (livF X (pre ++ [x]))) := Lib.hid (livF_srt ((ks_srt HWF.out).sublist hsp.sublist))
    have HPN : Hid (pre.length < 16384) := Lib.hid (by have := hsp.length_le; have := HKL.out; simp at *; omega)
    have HIX : Hid (IXP X' p X S) := Lib.hid (H.out.gr HIZ.out.s.g)
    have HXK : Hid (x.size ≤ maxLen) := Lib.hid (by have h5 := hvy.2.2.2.2.1; have h6 := hvy.2.2.2.2.2.2.1; rw [hy3] at h5; unfold maxLen; omega)
    have HSQ : Hid ((Lit.int .i64 y.seq).wf = true) := Lib.hid (WalkArith.wf_i64 (by omega))
    have HNV := Lib.hid hy1
    have c1 := (cellsOf (show X'.heap[b1]? = _ from HIZ.out.s.get (i := 2) rfl)).1
    clear hI hsp hmem hy3 hy4 hvy hy1
    obtain ⟨y1, y2, y3, y4, y5, y6⟩ := y
    simp only at hy2 HSQ
    simp only [enV] at HNV
    gi_wp2_with fail
    refine ⟨trivial, (CallsIn.inRound l (callsIn_wide.2 (Newest_any HIX.out x))).mono ?_⟩
    rintro e w9 ⟨rfl, hg9⟩
    rw [HNV.out]
    have HZ9 := Lib.hid (HIZ.out.gr hg9)
    have d3 := (cellsOf (hg9.blk (show X'.heap[b1 + 1 + 1]? = _ from HIZ.out.s.get (i := 0) rfl))).1
    have l3 := blkLt (hg9.blk (show X'.heap[b1 + 1 + 1]? = _ from HIZ.out.s.get (i := 0) rfl))
    clear hg9 c1
    cases y3 with
    | true =>
      have HN := Lib.hid (livF_none (l := pre) (show findE X x = none from hy2))
      clear hy2
      gi_wp2_with fail
      have z2 := HZ9.out.1.gr ((Gr.refl w9).alloc (.cells #[.int .i64 y1, .string y2, .bool true, .int .i64 y4, .int .i64 y5, .int .i64 y6] 43))
      exact ⟨HZ9.out.2.trans z2.2, n, by rw [List.length_append]; omega, by rw [HN.out]; exact z2.1⟩
    | false =>
      have HN := Lib.hid (livF_some (l := pre) (show findE X x = some ⟨y1, y2, false, y4, y5, y6⟩ from hy2))
      clear hy2
      have z2 := Lib.hid (HZ9.out.1.gr ((Gr.refl w9).alloc (.cells #[.int .i64 y1, .string y2, .bool false, .int .i64 y4, .int .i64 y5, .int .i64 y6] 43)))
      rw [HN.out] at HPS
      generalize livF X pre = L0 at *
      gi_wp2_with (first
        | (gi_at_mapUpdate; refine wpListIn_gs_set _ rfl (.tmp 24) (.tmp 25) (.tmp 27) rfl (b1 + 1) n L0 rfl (show GS _ (b1 + 1) n L0 from z2.out.1.s.get (i := 1) rfl) (by have := HPN.out; omega) x y1 rfl rfl HXK.out HSQ.out ?_; intro w5 hgm5 hmd5; have H5 := Lib.hid (And.intro hgm5 hmd5); clear hgm5 hmd5)
        | fail)
      have z3 := z2.out.1.step (i := 1) (B' := gsA (b1 + 1) (n + 1) (L0 ++ [(x, y1)])) rfl HA.out H5.out.2 (fun k hk => .inl hk) (by
        have := H5.out.1
        rw [put_endS HPS.out] at this
        exact this) (fun k hk => .inl hk)
      exact ⟨(HZ9.out.2.trans z2.out.2).trans z3.2, n + 1, by rw [List.length_append]; simp; omega, by rw [HN.out]; exact z3.1⟩
  case hend =>
    intro Z D xs W hD hZD hcase hdef
    obtain ⟨hxs, n, hn, hI⟩ := hcase.elim (fun h => h) (fun h => h.2.elim)
    have hxs' : xs = X.ks := hxs
    subst hxs'
    have HD := Lib.hid (And.intro hD hdef)
    have c3 := (cellsOf (show W.heap[b1 + 1 + 1]? = _ from hI.s.get (i := 0) rfl)).1
    have HW := Lib.hid (And.intro hI.s (And.intro (show GS W (b1 + 1) n (liveM X) from hI.s.get (i := 1) rfl) (fun e : D = b1 + 1 => hI.z _ (List.mem_cons_of_mem _ (List.mem_cons_self ..)) (b1 + 1) rfl (e ▸ hZD))))
    have hlb : w.heap.size ≤ b1 + 1 := hI.s.n _ (List.mem_cons_of_mem _ (List.mem_cons_self ..)) (b1 + 1) rfl
    have HLB := Lib.hid hlb
    clear hI hcase hxs hD hdef hlb
    dsimp only
    go_wp2_with fail
    have hnD : w.heap.size ≤ D := by have := HD.out.1; have := HS1.out.g.sz; omega
    exact retM1 (D := D) (v := .map (some (b1 + 1))) rfl HD.out.2 (by simp [results, Try.results47, go_sem]) ⟨b1 + 1, n, rfl, HW.out.1.g.putObj hnD _, HW.out.2.1.mdh ((Mdh.refl (fun k => k = D) W).putObj (l := D) rfl (.deferred none)) (fun e => HW.out.2.2 (show b1 + 1 = D from e).symm), HLB.out⟩
end Go.Proofs.Ythefpmmeoajaiaa

/- drumlinlaw24.equal at two maps of the same pairs. -/
set_option linter.unusedVariables false
set_option linter.unusedSimpArgs false
namespace Go.Proofs.Ythefpmmeoajaiaa
open Go.RowKit Go.Maps
attribute [local go_sem] OvM cell_ovm obj_ovm

set_option maxRecDepth 40000 in
set_option maxHeartbeats 8000000 in
theorem equal24 (b1 b2 n1 n2 : Nat) (L : List SqI) (w : World) (h1 : GS w b1 n1 L) (h2 : GS w b2 n2 L) :
    Calls Try.prog 48 #[.map (some b1), .map (some b2)] w fun e w' => e = .returned (.bool true) ∧ Gr w w' := by
  have hml1 : ∀ ty, (Builtin.len_ #[102] ty #[.map (some b1)]).run Try.prog w = .ok (.int .i64 L.length) w := fun ty => gs_len_run h1 ty
  have hml2 : ∀ ty, (Builtin.len_ #[102] ty #[.map (some b2)]).run Try.prog w = .ok (.int .i64 L.length) w := fun ty => gs_len_run h2 ty
  have H2 := Lib.hid h2
  obtain ⟨DD, hown, hRD⟩ := h1
  have HOW := Lib.hid hown
  have HRD := Lib.hid hRD
  clear hown hRD h2
  go_enter Try.func48, Try.ntmps48
  go_wp2_with (first
    | (at_range; refine wpList_range_own _ rfl (.tmp 14) 102 rfl 9 2 lawS Try.underlying102 (plainElem Try.prog 2) b1 n1 DD rfl HOW.out ?_; intro w8 hrg8 hg8 hs8; have HR8 := Lib.hid (And.intro hrg8 (And.intro hg8 hs8)); clear hrg8 hg8 hs8)
    | fail)
  clear hml1 hml2
  go_frame
  have FS8 : Hid (GS w8 b2 n2 L ∧ Gr w w8) := Lib.hid ⟨H2.out.gr (gr_grownS HR8.out.2.1), gr_grownS HR8.out.2.1⟩
  have HRI : Hid (w.heap.size ≠ b2) := Lib.hid (by have := H2.out.lt; omega)
  go_loopw [5] (fun _ wr => ∃ (left : Lit → Bool) (cnt : Nat), Hid (wr.ranges Try.prog 9 (plainElem Try.prog 2) b1 w.heap.size n1 DD left cnt ∧ GS wr b2 n2 L ∧ Gr w wr)) (fun _ wr => wr.rangeLeft b1 w.heap.size)
  case atStart => exact ⟨_, _, Lib.hid ⟨HR8.out.1, FS8.out.1, FS8.out.2⟩⟩
  case round =>
    obtain ⟨left, cnt, HH⟩ := hrel
    go_wp2_with (first
      | (at_next; refine wpList_next_gs _ rfl (.tmp 15) rfl b1 w.heap.size n1 DD left cnt rfl HH.out.1 ?_ ?_)
      | fail)
    · intro _ _
      go_wp2_with fail
      go_ret
      exact ⟨rfl, HH.out.2.2⟩
    · intro x c w9 cnt1 hwx hat hrg1 hlt hg9 hs9 hen
      have hlook := HRD.out.val (k := x) (c := c) hat
      have F1 : Hid ((look ltS L x).getD 0 = c) := Lib.hid (by rw [hlook]; rfl)
      have F2 : Hid ((look ltS L x).isSome = true) := Lib.hid (by rw [hlook]; rfl)
      have HR9 := Lib.hid (And.intro hrg1 hlt)
      have HF9 : Hid (GS w9 b2 n2 L ∧ Gr w w9) := Lib.hid (by
        have m9 : Mdh (fun k => k = w.heap.size) wr w9 := md_of_grownS hg9
        exact ⟨HH.out.2.1.mdh m9 (fun e => HRI.out e.symm), HH.out.2.2.md m9 (fun k hk => by rw [hk]; exact Nat.le_refl _)⟩)
      have HWX := Lib.hid hwx
      clear hrg1 hlt hat hg9 hlook hwx
      go_wp2_with (first
        | (at_lookup; refine wpList_gs_look _ rfl (.tmp 22) (.tmp 23) rfl b2 n2 L rfl HF9.out.1 x rfl HWX.out ?_; rw [F1.out, F2.out])
        | fail)
      go_roundw
      case rel => exact ⟨_, _, Lib.hid ⟨HR9.out.1, HF9.out.1, HF9.out.2⟩⟩
      case measure =>
        rw [HR9.out.1.left_eq, HH.out.1.left_eq]
        exact HR9.out.2
end Go.Proofs.Ythefpmmeoajaiaa

/- LivenessNeeds in plain Lean. No walk. -/
set_option linter.unusedVariables false
set_option linter.unusedSimpArgs false
namespace Go.Proofs.Ythefpmmeoajaiaa

section
variable {X : IX}
theorem look_live (h : X.Wf) (k : ByteArray) : look ltS (liveM X) k = seqK X k := by
  refine Option.ext (fun v => ?_)
  rw [show (look ltS (liveM X) k = some v) = ((k, v) ∈ liveM X) from propext (look_mem ordS (livF_srt (ks_srt h)) k v)]
  unfold seqK
  constructor
  · intro hm
    obtain ⟨k', _, h2⟩ := List.mem_filterMap.1 hm
    cases hf : findE X k' with
    | none => rw [hf] at h2; cases h2
    | some e =>
      rw [hf] at h2
      simp only [Option.map_some, Option.some.injEq, Prod.mk.injEq] at h2
      obtain ⟨rfl, rfl⟩ := h2
      rw [hf]
      rfl
  · intro hs
    cases hf : findE X k with
    | none => rw [hf] at hs; cases hs
    | some e =>
      rw [hf] at hs
      simp only [Option.map_some, Option.some.injEq] at hs
      refine List.mem_filterMap.2 ⟨k, (mem_ks h k).2 (findE_ne (by rw [hf]; rfl)), ?_⟩
      rw [hf]
      simp [hs]
theorem needs_parts {e : En} (hn : X.needs e = true) : (∀ o ∈ X.of e.key, o.seq ≤ e.seq) ∧ (∀ o ∈ X.of e.key, o.seq = e.seq → o.slot = e.slot) ∧ (e.del = true → ∃ z ∈ X.of e.key, z.seq < e.seq ∧ z.slot ≠ e.slot) := by
  unfold IX.needs at hn
  by_cases h1 : (X.of e.key).any (nd1 e) = true
  · rw [if_pos h1] at hn; cases hn
  · rw [if_neg h1] at hn
    by_cases h2 : (X.of e.key).any (nd2 e) = true
    · rw [if_pos h2] at hn; cases hn
    · rw [if_neg h2] at hn
      refine ⟨fun o ho => ?_, fun o ho hs => ?_, fun hd => ?_⟩
      · refine Int.not_lt.1 (fun hlt => h1 (List.any_eq_true.2 ⟨o, ho, decide_eq_true hlt⟩))
      · refine Classical.byContradiction (fun hne => h2 (List.any_eq_true.2 ⟨o, ho, decide_eq_true ⟨hs, hne⟩⟩))
      · rw [hd, if_neg (by decide)] at hn
        obtain ⟨z, hz, h3⟩ := List.any_eq_true.1 hn
        exact ⟨z, hz, of_decide_eq_true h3⟩
theorem head_max (h : X.Wf) {k : ByteArray} {y : En} {t : List En} (hl : X.of k = y :: t) : ∀ o ∈ X.of k, o.seq ≤ y.seq := by
  intro o ho
  have hp := h.ofPair k
  rw [hl] at hp ho
  rcases List.mem_cons.1 ho with rfl | ho
  · exact Int.le_refl _
  · have := (List.pairwise_cons.1 hp).1 o ho
    unfold ltE at this
    have := of_decide_eq_true this
    omega
theorem seqK_of (h : X.Wf) {k : ByteArray} {v : Int} (hs : seqK X k = some v) : ∃ o ∈ X.of k, o.seq = v := by
  unfold seqK at hs
  cases hf : findE X k with
  | none => rw [hf] at hs; cases hs
  | some e => rw [hf] at hs; exact ⟨e, findE_mem hf, Option.some.inj hs⟩
/-- What holds of an entry that is kept. -/
structure NeedF (X : IX) (s : Int) (y : En) : Prop where
  ent : y ∈ X.ents
  sl : y.slot = s
  hd : y.del = true → ∃ o t, (dropX X s).of y.key = o :: t ∧ o.seq < y.seq
  lv : y.del = false → look ltS (liveM X) y.key = some y.seq ∧ (look ltS (liveM (dropX X s)) y.key).getD 0 ≠ y.seq
theorem needF (h : X.Wf) {s : Int} {y : En} (hy : y ∈ keepL X s) : NeedF X s y := by
  have h1 := List.mem_filter.1 hy
  have h2 := (h.slot_mem s y).1 h1.1
  obtain ⟨n1, n2, n3⟩ := needs_parts h1.2
  have hof := drop_of h s y.key
  have hv := (valid_iff y).1 (h.valid h2.1).1
  have hyk : y ∈ X.of y.key := (h.of_mem y.key y).2 ⟨h2.1, rfl⟩
  refine ⟨h2.1, h2.2, fun hd => ?_, fun hd => ?_⟩
  · obtain ⟨z, hz, hz1, hz2⟩ := n3 hd
    have hzm : z ∈ (dropX X s).of y.key := by rw [hof]; exact List.mem_filter.2 ⟨hz, decide_eq_true (by rw [← h2.2]; exact hz2)⟩
    cases hl : (dropX X s).of y.key with
    | nil => rw [hl] at hzm; cases hzm
    | cons o t =>
      have ho : o ∈ (dropX X s).of y.key := by rw [hl]; simp
      rw [hof] at ho
      have h3 := List.mem_filter.1 ho
      have h4 : o.slot ≠ s := of_decide_eq_true h3.2
      have h5 := n1 o h3.1
      refine ⟨o, t, rfl, ?_⟩
      rcases Int.lt_or_eq_of_le h5 with h6 | h6
      · exact h6
      · exact absurd ((n2 o h3.1 h6).trans h2.2) h4
  · rw [look_live h, look_live (drop_wf h s)]
    constructor
    · cases hl : X.of y.key with
      | nil => rw [hl] at hyk; cases hyk
      | cons o t =>
        have hm := head_max h hl y hyk
        have ho : o ∈ X.of y.key := by rw [hl]; simp
        have hq : o.seq = y.seq := by have := n1 o ho; omega
        have ho2 := (h.of_mem y.key o).1 ho
        have hc := h.c o ho2.1 y h2.1 ho2.2 hq
        unfold seqK findE
        rw [hl]
        simp only
        rw [hc.1, hd]
        simp [hq]
    · cases hs : seqK (dropX X s) y.key with
      | none => simp only [Option.getD_none]; omega
      | some v =>
        obtain ⟨o, ho, rfl⟩ := seqK_of (drop_wf h s) hs
        rw [hof] at ho
        have h3 := List.mem_filter.1 ho
        have h4 : o.slot ≠ s := of_decide_eq_true h3.2
        exact fun h5 => h4 ((n2 o h3.1 h5).trans h2.2)
theorem keep_off (h : X.Wf) {s : Int} {i : Nat} {a y : En} (ha : (keepL X s)[i]? = some a) (hy : (keepL X s)[i + 1]? = some y) : a.off < y.off := by
  have hp : (keepL X s).Pairwise (fun a b => a.off + a.size ≤ b.off) := (h.slotOk s).p.sublist List.filter_sublist
  obtain ⟨h1, rfl⟩ := List.getElem?_eq_some_iff.1 ha
  obtain ⟨h2, rfl⟩ := List.getElem?_eq_some_iff.1 hy
  have h3 := List.pairwise_iff_getElem.1 hp i (i + 1) h1 h2 (by omega)
  have h4 := List.mem_filter.1 (List.getElem_mem h1)
  have h5 := (valid_iff _).1 (h.valid ((h.slot_mem s _).1 h4.1).1).1
  omega
theorem keep_none (h : X.Wf) {s : Int} (hk : keepL X s = []) : liveM (dropX X s) = liveM X := drop_liveM h (fun e he => by
  cases hn : X.needs e with
  | false => rfl
  | true =>
    have : e ∈ keepL X s := List.mem_filter.2 ⟨he, hn⟩
    rw [hk] at this
    cases this)
end
theorem tightA : ∀ (n : Nat) (L : List Ac), L.length = n → n ≤ 90 → (∀ t ∈ L, t.Ok) → (foldA L).all.length ≤ n ∧ (foldA L).sq ≤ n ∧ ∀ s, (foldA L).us s ≤ 19 * n
  | 0, L, hL, _, _ => by
    rw [List.eq_nil_of_length_eq_zero hL]
    exact ⟨by show 0 ≤ 0; omega, by show (0 : Int) ≤ 0; omega, fun s => by show (0 : Int) ≤ 19 * 0; omega⟩
  | n + 1, L, hL, hn, ht => by
    have hne : L ≠ [] := fun h => by rw [h] at hL; cases hL
    have e := List.dropLast_concat_getLast hne
    have hd := fun m h => ht m (List.dropLast_subset L h)
    obtain ⟨h1, h2, h3⟩ := tightA n L.dropLast (by rw [List.length_dropLast]; omega) (by omega) hd
    have hok := (foldA_ok n L.dropLast (by rw [List.length_dropLast]; omega) (by omega) hd).1
    rw [← e, foldA_snoc]
    generalize L.getLast hne = t at *
    generalize foldA L.dropLast = st at *
    have hadd : ∀ (s2 : LS) (e : En), s2.all.length ≤ n → s2.sq ≤ n + 1 → (∀ s, s2.us s ≤ 19 * n) → e.size ≤ 19 → (addA s2 e).all.length ≤ n + 1 ∧ (addA s2 e).sq ≤ ((n + 1 : Nat) : Int) ∧ ∀ s, (addA s2 e).us s ≤ 19 * ((n + 1 : Nat) : Int) := by
      intro s2 e ha hb hc hz
      unfold addA
      split
      · exact ⟨by omega, by omega, fun s => by have := hc s; omega⟩
      · refine ⟨by show (s2.all ++ [_]).length ≤ n + 1; simp; omega, by show s2.sq ≤ _; omega, fun s => ?_⟩
        show upd s2.us e.slot (s2.us e.slot + e.size) s ≤ _
        have := hc s
        have := hc e.slot
        unfold upd
        split <;> omega
    unfold stepA
    split
    · exact hadd _ _ h1 (by show st.sq + 1 ≤ _; omega) h3 (by show 16 + ((acKey t.key).size : Int) ≤ 19; rw [(acKey_ok t.key).2.1]; omega)
    · split
      · exact hadd _ _ h1 (by show st.sq + 1 ≤ _; omega) h3 (by show 18 + ((acKey t.key).size : Int) ≤ 19; rw [(acKey_ok t.key).2.1]; omega)
      · split
        · exact ⟨by omega, by omega, fun s => by have := h3 s; omega⟩
        · rename_i hne2
          have hl : 0 < st.all.length := List.length_pos_iff.2 hne2
          have hk : 0 ≤ t.key := (ht t (by rw [← e]; simp)).key.1
          have g1 := Int.emod_lt_of_pos t.key (show (0 : Int) < st.all.length by omega)
          have g2 := Int.emod_nonneg t.key (show (st.all.length : Int) ≠ 0 by omega)
          have g3 : (t.key % st.all.length).toNat < st.all.length := by omega
          have hm : st.all.getD (t.key % st.all.length).toNat zE ∈ st.all := by
            rw [List.getD_eq_getElem?_getD, List.getElem?_eq_getElem g3]
            exact List.getElem_mem g3
          exact hadd _ _ h1 (by omega) h3 (hok.e _ hm).2.2.2.2
theorem tight_ok {n : Nat} {L : List Ac} (hL : L.length = n) (hn : n ≤ 90) (ht : ∀ t ∈ L, t.Ok) : (foldA L).Ok n := by
  have h := (foldA_ok n L hL hn ht).1
  obtain ⟨h1, h2, h3⟩ := tightA n L hL hn ht
  exact ⟨h.g, h1, h.q0, h2, fun s => ⟨(h.u s).1, h3 s⟩, h.e⟩
end Go.Proofs.Ythefpmmeoajaiaa

/- LivenessCopies in plain Lean. No walk. -/
set_option linter.unusedVariables false
set_option linter.unusedSimpArgs false
namespace Go.Proofs.Ythefpmmeoajaiaa

theorem seqK_by {X Y : IX} (hX : X.Wf) (hY : Y.Wf) {k : ByteArray} (h1 : ∀ y ∈ X.of k, ∃ z ∈ Y.of k, z.seq = y.seq ∧ z.del = y.del) (h2 : ∀ z ∈ Y.of k, ∃ y ∈ X.of k, y.seq = z.seq ∧ y.del = z.del) : seqK Y k = seqK X k := by
  unfold seqK findE
  cases hx : X.of k with
  | nil =>
    cases hy : Y.of k with
    | nil => rfl
    | cons z u =>
      obtain ⟨y, hm, _⟩ := h2 z (by rw [hy]; simp)
      rw [hx] at hm
      cases hm
  | cons y t =>
    cases hy : Y.of k with
    | nil =>
      obtain ⟨z, hm, _⟩ := h1 y (by rw [hx]; simp)
      rw [hy] at hm
      cases hm
    | cons z u =>
      have hym : y ∈ X.of k := by rw [hx]; simp
      have hzm : z ∈ Y.of k := by rw [hy]; simp
      obtain ⟨z', hz', e1, e2⟩ := h1 y hym
      obtain ⟨y', hy', e3, e4⟩ := h2 z hzm
      have m1 := head_max hX hx y' hy'
      have m2 := head_max hY hy z' hz'
      have hq : z.seq = y.seq := by omega
      have g1 := (hY.of_mem k z).1 hzm
      have g2 := (hY.of_mem k z').1 hz'
      have hc := hY.c z g1.1 z' g2.1 (g1.2.trans g2.2.symm) (by omega)
      simp only
      rw [hc.1, e2]
      cases y.del
      · exact congrArg some hq
      · rfl
theorem needs_no {X : IX} {e o : En} (ho : o ∈ X.of e.key) (hq : o.seq = e.seq) (hs : o.slot ≠ e.slot) : X.needs e = false := by
  cases hn : X.needs e with
  | false => rfl
  | true => exact absurd ((needs_parts hn).2.1 o ho hq) hs
def slot5 (e : En) : En := { e with slot := 5 }
def cpS (st : LS) (l : List En) : LS := l.foldl (fun st e => addA st (slot5 e)) st
theorem cpS_snoc (st : LS) (l : List En) (e : En) : cpS st (l ++ [e]) = addA (cpS st l) (slot5 e) := by simp [cpS]
theorem cpS_take (st : LS) {l : List En} {i : Nat} {e : En} (h : l[i]? = some e) : cpS st (l.take (i + 1)) = addA (cpS st (l.take i)) (slot5 e) := by
  rw [List.take_add_one, h]
  exact cpS_snoc _ _ _
/-- What holds where the first i of what is kept have been copied. -/
structure CI (st0 : LS) (s : Int) (i : Nat) (st : LS) : Prop where
  ok : st.Ok (80 + i)
  old : ∀ y ∈ st0.all, y ∈ st.all
  src : ∀ y ∈ st.all, y ∈ st0.all ∨ (y.slot = 5 ∧ ∃ k ∈ (keepL st0.X s).take i, y.seq = k.seq ∧ y.key = k.key ∧ y.del = k.del)
  cpd : ∀ k ∈ (keepL st0.X s).take i, ∃ y ∈ st.all, y.slot = 5 ∧ y.seq = k.seq ∧ y.key = k.key
section
variable {st0 st : LS} {s : Int} {i : Nat}
theorem CI.start (h : st0.Ok 80) : CI st0 s 0 st0 := ⟨h, fun y hy => hy, fun y hy => .inl hy, fun k hk => by rw [List.take_zero] at hk; cases hk⟩
theorem keep_all (h : st0.Ok 80) {k : En} (hk : k ∈ keepL st0.X s) : k ∈ st0.all ∧ k.slot = s ∧ st0.X.needs k = true := by
  have h1 := List.mem_filter.1 hk
  have h2 := (h.g.slot s k).1 h1.1
  exact ⟨h2.1, h2.2, h1.2⟩
/-- In a slot there is one entry of a number. -/
theorem one_seq (h : st0.Ok 80) {a b : En} (ha : a ∈ st0.all) (hb : b ∈ st0.all) (hs : a.slot = b.slot) (hq : a.seq = b.seq) : a = b := by
  have hk := (h.g.cp a ha b hb hq).1
  have h1 := (h.g.of b.key a).2 ⟨ha, hk⟩
  have h2 := (h.g.of b.key b).2 ⟨hb, rfl⟩
  have hp := h.g.wf.ofPair b.key
  obtain ⟨i, hi, e1⟩ := List.mem_iff_getElem.1 h1
  obtain ⟨j, hj, e2⟩ := List.mem_iff_getElem.1 h2
  have hno : ∀ x y : En, x.slot = y.slot → x.seq = y.seq → ¬ ltE x y = true := fun x y e3 e4 h => by
    unfold ltE at h
    have := of_decide_eq_true h
    omega
  rcases Nat.lt_trichotomy i j with h3 | h3 | h3
  · have := List.pairwise_iff_getElem.1 hp i j hi hj h3
    rw [e1, e2] at this
    exact absurd this (hno _ _ hs hq)
  · subst h3
    exact e1.symm.trans e2
  · have := List.pairwise_iff_getElem.1 hp j i hj hi h3
    rw [e1, e2] at this
    exact absurd this (hno _ _ hs.symm hq.symm)
theorem keep_lt (h : st0.Ok 80) {i j : Nat} {a b : En} (ha : (keepL st0.X s)[i]? = some a) (hb : (keepL st0.X s)[j]? = some b) (hij : i < j) : a ≠ b := by
  have hp : (keepL st0.X s).Pairwise (fun a b => a.off + a.size ≤ b.off) := (h.g.wf.slotOk s).p.sublist List.filter_sublist
  obtain ⟨h1, e1⟩ := List.getElem?_eq_some_iff.1 ha
  obtain ⟨h2, e2⟩ := List.getElem?_eq_some_iff.1 hb
  have h3 := List.pairwise_iff_getElem.1 hp i j h1 h2 hij
  rw [e1, e2] at h3
  have h5 := h.g.val (keep_all h (List.mem_of_getElem? ha)).1
  intro e
  rw [e] at h3 h5
  omega
/-- One more copy. -/
structure CStep (st0 : LS) (s : Int) (i : Nat) (st : LS) (k : En) : Prop where
  add : AddS st (slot5 k)
  push : addA st (slot5 k) = pushA st (slot5 k)
  next : CI st0 s (i + 1) (addA st (slot5 k))
  first : neededV (addA st (slot5 k)).X k = .tuple #[.bool false, .int .i64 0]
  second : neededV (addA st (slot5 k)).X { k with slot := 5, off := st.us 5 } = .tuple #[.bool false, .int .i64 0]
theorem CI.step (h0 : st0.Ok 80) (h5 : ∀ e ∈ st0.all, e.slot < 5) (hs : s < 5) (h : CI st0 s i st) (hi : i ≤ 100) {k : En} (hk : (keepL st0.X s)[i]? = some k) : CStep st0 s i st k := by
  have hkm := List.mem_of_getElem? hk
  obtain ⟨k1, k2, k3⟩ := keep_all h0 hkm
  have hks := h.old k k1
  have hadd : AddS st (slot5 k) := copyA h.ok hks 5 (by omega)
  have hdup : dupA st (slot5 k) = false := by
    cases hd : dupA st (slot5 k) with
    | false => rfl
    | true =>
      unfold dupA at hd
      obtain ⟨o, ho, h1⟩ := List.any_eq_true.1 hd
      simp only [Bool.and_eq_true, decide_eq_true_eq] at h1
      have hs5 : o.slot = 5 := h1.1
      have hq : o.seq = k.seq := h1.2
      rcases h.src o ho with h2 | ⟨_, k', hk', e1, e2, e3⟩
      · have := h5 o h2; omega
      · obtain ⟨j, hj, e4⟩ := List.mem_iff_getElem.1 hk'
        rw [List.length_take] at hj
        have hkj : (keepL st0.X s)[j]? = some k' := by rw [← e4, List.getElem_take]; exact List.getElem?_eq_getElem (by omega)
        obtain ⟨g1, g2, g3⟩ := keep_all h0 (List.mem_of_getElem? hkj)
        exact absurd (one_seq h0 g1 k1 (g2.trans k2.symm) (e1.symm.trans hq)) (keep_lt h0 hkj hk (by omega))
  have hpush : addA st (slot5 k) = pushA st (slot5 k) := by unfold addA; rw [if_neg (by rw [hdup]; decide)]
  have hok := (addA_ok h.ok (by omega) hadd).2.2.1
  have hall : (addA st (slot5 k)).all = st.all ++ [atE st (slot5 k)] := by rw [hpush]; rfl
  have hat : atE st (slot5 k) = { k with slot := 5, off := st.us 5 } := rfl
  have hcm : ({ k with slot := 5, off := st.us 5 } : En) ∈ (addA st (slot5 k)).all := by rw [hall, hat]; simp
  have hkm' : k ∈ (addA st (slot5 k)).all := by rw [hall]; exact List.mem_append_left _ hks
  have hk5 : k.slot < 5 := h5 k k1
  refine ⟨hadd, hpush, ⟨?_, fun y hy => ?_, fun y hy => ?_, fun k' hk' => ?_⟩, ?_, ?_⟩
  · exact hok
  · rw [hall]; exact List.mem_append_left _ (h.old y hy)
  · rw [hall] at hy
    rcases List.mem_append.1 hy with hy | hy
    · rcases h.src y hy with h1 | ⟨h1, k', h2, h3⟩
      · exact .inl h1
      · exact .inr ⟨h1, k', by rw [List.take_add_one]; exact List.mem_append_left _ h2, h3⟩
    · rw [List.mem_singleton.1 hy, hat]
      exact .inr ⟨rfl, k, by rw [List.take_add_one, hk]; exact List.mem_append_right _ (by simp), rfl, rfl, rfl⟩
  · rw [List.take_add_one, hk] at hk'
    rw [hall]
    rcases List.mem_append.1 hk' with hk' | hk'
    · obtain ⟨y, h1, h2⟩ := h.cpd k' hk'
      exact ⟨y, List.mem_append_left _ h1, h2⟩
    · obtain rfl : k' = k := by simpa using hk'
      exact ⟨_, List.mem_append_right _ (List.mem_singleton_self _), rfl, rfl, rfl⟩
  · rw [(hok.g.needV k).1 hkm', needs_no (o := { k with slot := 5, off := st.us 5 }) ((hok.g.of k.key _).2 ⟨hcm, rfl⟩) rfl (show (5 : Int) ≠ k.slot by omega)]
  · rw [(hok.g.needV _).1 hcm, needs_no (e := { k with slot := 5, off := st.us 5 }) (o := k) ((hok.g.of k.key _).2 ⟨hkm', rfl⟩) rfl (show k.slot ≠ (5 : Int) by omega)]
/-- All of them. -/
theorem CI.done (h0 : st0.Ok 80) (h5 : ∀ e ∈ st0.all, e.slot < 5) (hs0 : 0 ≤ s) (hs : s < 5) (h : CI st0 s (keepL st0.X s).length st) : keepC st.X s = 0 ∧ keepL st.X s = [] ∧ liveM (dropX st.X s) = liveM st0.X := by
  have hcpd := h.cpd
  have hsrc := h.src
  rw [List.take_length] at hcpd hsrc
  have hno : ∀ e ∈ st.X.slot s, st.X.needs e = false := by
    intro e he
    have h1 := (h.ok.g.slot s e).1 he
    have hes : e.slot = s := h1.2
    have he0 : e ∈ st0.all := by
      rcases hsrc e h1.1 with h2 | h2
      · exact h2
      · have := h2.1; omega
    cases hn : st.X.needs e with
    | false => rfl
    | true =>
      exfalso
      obtain ⟨n1, n2, n3⟩ := needs_parts hn
      cases hn0 : st0.X.needs e with
      | true =>
        obtain ⟨y, hy, y1, y2, y3⟩ := hcpd e (List.mem_filter.2 ⟨(h0.g.slot s e).2 ⟨he0, hes⟩, hn0⟩)
        have := n2 y ((h.ok.g.of e.key y).2 ⟨hy, y3⟩) y2
        omega
      | false =>
        unfold IX.needs at hn0
        have m1 : ¬ (st0.X.of e.key).any (nd1 e) = true := by
          rw [List.any_eq_true]
          rintro ⟨o, ho, h3⟩
          have h4 := (h0.g.of e.key o).1 ho
          have := n1 o ((h.ok.g.of e.key o).2 ⟨h.old o h4.1, h4.2⟩)
          have : e.seq < o.seq := of_decide_eq_true h3
          omega
        have m2 : ¬ (st0.X.of e.key).any (nd2 e) = true := by
          rw [List.any_eq_true]
          rintro ⟨o, ho, h3⟩
          have h4 := (h0.g.of e.key o).1 ho
          have h5 : o.seq = e.seq ∧ o.slot ≠ e.slot := of_decide_eq_true h3
          exact h5.2 (n2 o ((h.ok.g.of e.key o).2 ⟨h.old o h4.1, h4.2⟩) h5.1)
        rw [if_neg m1, if_neg m2] at hn0
        cases hd : e.del with
        | false => rw [hd, if_pos rfl] at hn0; cases hn0
        | true =>
          rw [hd, if_neg (by decide)] at hn0
          obtain ⟨z, hz, z1, z2⟩ := n3 hd
          have h4 := (h.ok.g.of e.key z).1 hz
          rcases hsrc z h4.1 with h6 | ⟨_, k, hk, e1, e2, e3⟩
          · have : (st0.X.of e.key).any (nd3 e) = true := List.any_eq_true.2 ⟨z, (h0.g.of e.key z).2 ⟨h6, h4.2⟩, decide_eq_true ⟨z1, z2⟩⟩
            rw [this] at hn0
            cases hn0
          · obtain ⟨g1, g2, g3⟩ := keep_all h0 hk
            have := (needs_parts g3).1 e ((h0.g.of k.key e).2 ⟨he0, h4.2.symm.trans e2⟩)
            omega
  refine ⟨?_, ?_, ?_⟩
  · unfold keepC
    rw [if_neg h.ok.g.ne, if_neg]
    rw [h.ok.g.has hs0 (by omega)]
    decide
  · refine List.filter_eq_nil_iff.2 (fun e he hn => ?_)
    rw [hno e he] at hn
    cases hn
  · rw [drop_liveM h.ok.g.wf hno]
    refine liveM_eq h0.g.wf h.ok.g.wf (fun k => seqK_by h0.g.wf h.ok.g.wf (fun y hy => ?_) (fun z hz => ?_))
    · have h1 := (h0.g.of k y).1 hy
      exact ⟨y, (h.ok.g.of k y).2 ⟨h.old y h1.1, h1.2⟩, rfl, rfl⟩
    · have h1 := (h.ok.g.of k z).1 hz
      rcases hsrc z h1.1 with h2 | ⟨_, k', hk', e1, e2, e3⟩
      · exact ⟨z, (h0.g.of k z).2 ⟨h2, h1.2⟩, rfl, rfl⟩
      · exact ⟨k', (h0.g.of k k').2 ⟨(keep_all h0 hk').1, e2.symm.trans h1.2⟩, e1.symm, e3.symm⟩
end
end Go.Proofs.Ythefpmmeoajaiaa

/- LivenessCopies: the walk. -/
set_option linter.unusedVariables false
set_option linter.unusedSimpArgs false
namespace Go.Proofs.Ythefpmmeoajaiaa
open Go.RowKit Go.Shelf Go.Maps
attribute [local go_sem] OvM cell_ovm obj_ovm
attribute [local go_sem] Oper.semAt_some

set_option maxRecDepth 40000 in
set_option maxHeartbeats 16000000 in
theorem LivenessCopies_any (a : Option Addr) (len cap : Nat) (L : List Ac) (q : Int) (w : World) (hl : L.length = len) (hle : len ≤ cap) (hcap : cap ≤ maxLen) (hs : ActAt w a L) (hq0 : 0 ≤ q) (hq1 : q ≤ 255) :
    Calls Try.prog 12 #[.slice a len cap, .int .u8 q] w fun e w' => e = .returned (.bool true) ∧ Gr w w' := by
  by_cases h80 : 80 < len
  · have h80' : (80 : Int) < len := by omega
    clear hs hl
    go_enter Try.func12, Try.ntmps12
    go_wp2_with (go_at_call 36; refine (lv_works _).mono ?_; rintro e w1 ⟨rfl, hg⟩; have HG := Lib.hid hg; clear hg)
    go_ret
    exact ⟨rfl, HG.out⟩
  have h80' : ¬ (80 : Int) < len := by omega
  have hfo := foldA_ok len L hl (by omega) (actOk hs)
  have HK0 := Lib.hid (build_KI hfo.1 hfo.2)
  have H5 := Lib.hid hfo.2
  have HST : Hid ((foldA L).Ok 80) := Lib.hid (LS.later (tight_ok hl (by omega) (actOk hs)) (by omega))
  have HC := Lib.hid (build24_any a len cap L w hl (by omega) hle hcap hs)
  obtain ⟨σ, hσ⟩ : ∃ σ : Nat, q % 5 = (σ : Int) := ⟨(q % 5).toNat, by omega⟩
  have hσ5 : σ < 5 := by omega
  clear hs hl hfo
  go_enter Try.func12, Try.ntmps12
  go_wp2_with fail
  refine Calls.mono HC.out ?_
  rintro e w1 ⟨b, mb, v, S, rfl, hs⟩
  have H1 := Lib.hid hs
  clear hs HC
  generalize foldA L = st0 at *
  have HKC := Lib.hid (HK0.out.code (s := σ) (by omega))
  have HKL : Hid ((keepL st0.X (σ : Int)).length ≤ 80) := Lib.hid (by
    have h1 := List.length_filter_le st0.X.needs (st0.X.slot (σ : Int))
    have h2 := (drop_ents HST.out.g.wf (HST.out.g.has (s := (σ : Int)) (by omega) (by omega))).length_eq
    have h3 := HST.out.g.len
    have h4 := HST.out.n
    rw [List.length_append] at h2
    unfold keepL
    omega)
  have HSTP := Lib.hid (fun (i : Nat) (st : LS) (k : En) (h : CI st0 (σ : Int) i st) (hi : i ≤ 100) (hk : (keepL st0.X (σ : Int))[i]? = some k) => CI.step HST.out H5.out (by omega) h hi hk)
  have HEND := Lib.hid (fun (st : LS) (h : CI st0 (σ : Int) (keepL st0.X (σ : Int)).length st) => CI.done HST.out H5.out (by omega) (by omega) h)
  have HCI := Lib.hid (CI.start (s := (σ : Int)) HST.out)
  clear HST H5 HK0
  have dm0 := ((cellsOf (show w1.heap[mb]? = _ from H1.out.get (i := 1) rfl)).1 0).trans (show _ = some (Value.pointer (some ⟨b, 0, none⟩)) from rfl)
  go_wp2_with fail
  (try rw [hσ])
  refine (Keep_any (.inl ⟨b, rfl, (show IXR w1 b st0.X S from H1.out.get (i := 0) rfl)⟩) (σ : Int)).mono ?_
  rintro e w2 ⟨vk, rfl, hn, hg⟩
  rw [HKC.out]
  have H2 : Hid (SW w (lL b mb v S st0 [rowA 43 6 vk (keepL st0.X (σ : Int)).length (rowE (keepL st0.X (σ : Int)))]) w2) := Lib.hid ((H1.out.new hg (A := rowA 43 6 vk (keepL st0.X (σ : Int)).length (rowE (keepL st0.X (σ : Int)))) hn.own (fun k hk => hn.new k hk)).sel [1, 2, 3, 0] (by decide) rfl)
  clear hn hg H1 dm0 HKC
  have dm0 := ((cellsOf (show w2.heap[mb]? = _ from H2.out.get (i := 1) rfl)).1 0).trans (show _ = some (Value.pointer (some ⟨b, 0, none⟩)) from rfl)
  go_wp2_with fail
  refine (live24_any (show IXR w2 b st0.X S from H2.out.get (i := 0) rfl)).mono ?_
  rintro e w3 ⟨bw, nw, rfl, hg, hgs, hbn⟩
  have H3 : Hid (SW w (lL b mb v S st0 [rowA 43 6 vk (keepL st0.X (σ : Int)).length (rowE (keepL st0.X (σ : Int))), gsA bw nw (liveM st0.X)]) w3) := Lib.hid ((H2.out.new hg (A := gsA bw nw (liveM st0.X)) hgs (fun k hk => by rw [show k = bw from hk]; exact hbn)).sel [1, 2, 3, 4, 0] (by decide) rfl)
  clear hg hgs hbn H2 dm0
  generalize keepL st0.X (σ : Int) = keep at *
  generalize liveM st0.X = want at *
  obtain ⟨ak, ck, rfl, hck, hmk, _⟩ := ownE_at (show Own w3 43 6 vk keep.length (rowE keep) from H3.out.get (i := 3) rfl)
  unfold maxLen at hmk
  have hkl := HKL.out
  go_wp2_with fail
  go_loopw [11] (fun t11 wx => ∃ (i : Nat) (st : LS) (v : Value) (S : Nat → Prop), i ≤ keep.length ∧ t11 = .int .i64 i ∧ Hid (CI st0 (σ : Int) i st) ∧ Hid (SW w (lL b mb v S st [rowA 43 6 (.slice ak keep.length ck) keep.length (rowE keep), gsA bw nw want]) wx)) (fun t11 _ => keep.length - (intOf t11).toNat)
  case atStart => exact ⟨0, st0, v, S, by omega, rfl, HCI, H3⟩
  case round =>
    obtain ⟨i, st, v, S, hil, rfl, HCI2, HI⟩ := hrel
    clear H3 HCI
    by_cases hlt : i < keep.length
    · have hlt' : (i : Int) < keep.length := by omega
      obtain ⟨y, hy⟩ : ∃ y, keep[i]? = some y := ⟨_, List.getElem?_eq_getElem hlt⟩
      have HY := Lib.hid hy
      have hst := HSTP.out i st y HCI2.out (by omega) hy
      have HST := Lib.hid hst
      have hu := HCI2.out.ok.u 5
      have hz := hst.add.z
      obtain ⟨g0, rfl, hg0, y0, y1, y2, y3, y4, y5⟩ := ent6 (show Own wr 43 6 (.slice ak keep.length ck) keep.length (rowE keep) from HI.out.get (i := 3) rfl) hy
      clear hy hst
      obtain ⟨p0, p1, p2, p3, p4, p5⟩ := y
      simp only [slot5] at y0 y1 y2 y3 y4 y5 hz
      go_upto_region 15 with fail
      obtain ⟨b12, hb12⟩ : ∃ k, k = wr.heap.size := ⟨_, rfl⟩
      obtain ⟨w4, hw4⟩ : ∃ y, y = wr.alloc (boxF ⟨p0, p1, p2, p3, p4, p5⟩) := ⟨_, rfl⟩
      have H4 : Hid (SW w (lL b mb v S st [blkA b12 (boxF ⟨p0, p1, p2, p3, p4, p5⟩), rowA 43 6 (.slice (some ⟨g0, 0, none⟩) keep.length ck) keep.length (rowE keep), gsA bw nw want]) w4) := Lib.hid (by
        have h := HI.out.alloc (boxF ⟨p0, p1, p2, p3, p4, p5⟩)
        rw [← hb12, ← hw4] at h
        exact h.sel [1, 2, 3, 0, 4, 5] (by decide) rfl)
      (try simp only [boxF] at hw4)
      rw [← hw4, ← hb12]
      clear hw4 hb12 HI y0 y1 y2 y3 y4 y5 hg0
      obtain ⟨d12, f12⟩ := cellsOf (show w4.heap[b12]? = _ from H4.out.get (i := 3) rfl)
      have l12 := blkLt (show w4.heap[b12]? = _ from H4.out.get (i := 3) rfl)
      (try simp only [boxF] at d12)
      go_upto_region 16 with fail
      obtain ⟨w5, hw5⟩ : ∃ y, y = w4.setCell ⟨b12, 3, none⟩ (.int .i64 5) := ⟨_, rfl⟩
      have HH5 : Hid (SW w (lL b mb v S st [blkA b12 (boxF ⟨p0, p1, p2, 5, p4, p5⟩), rowA 43 6 (.slice (some ⟨g0, 0, none⟩) keep.length ck) keep.length (rowE keep), gsA bw nw want]) w5) := Lib.hid (by
        rw [hw5]
        exact H4.out.at (i := 3) rfl ((Mdh.refl (fun k => k = b12) w4).setCell (p := ⟨b12, 3, none⟩) rfl _) (fun k hk => .inl hk) (B := blkA b12 (boxF ⟨p0, p1, p2, 5, p4, p5⟩)) (blkSet (j := 3) (u := .int .i64 5) (show w4.heap[b12]? = _ from H4.out.get (i := 3) rfl)) (fun k hk => .inl hk))
      rw [← hw5]
      clear hw5 d12 f12 l12 H4
      have d12 := (cellsOf (show w5.heap[b12]? = _ from HH5.out.get (i := 3) rfl)).1
      (try simp only [boxF] at d12)
      have HAD := Lib.hid (bAdd HH5.out HCI2.out.ok (by omega) (e := slot5 ⟨p0, p1, p2, p3, p4, p5⟩) HST.out.add)
      simp only [slot5, enV] at HAD
      go_wp2_with fail
      refine Calls.mono HAD.out ?_
      rintro e w6 ⟨rfl, v', S', hs⟩
      have H6 := Lib.hid hs
      have HU5 : Hid ((addA st (slot5 ⟨p0, p1, p2, p3, p4, p5⟩)).us 5 = st.us 5 + p5) := Lib.hid (by rw [HST.out.push]; show upd st.us 5 (st.us 5 + p5) 5 = _; unfold upd; rw [if_pos rfl])
      have HNX := Lib.hid HST.out.next
      have HF1 := Lib.hid HST.out.first
      have HF2 := Lib.hid HST.out.second
      simp only [slot5] at HU5 HNX HF1 HF2
      clear hs HAD HH5 HST HSTP d12
      generalize addA st ⟨p0, p1, p2, 5, p4, p5⟩ = st' at *
      generalize st.us 5 = u5 at *
      have dm0 := ((cellsOf (show w6.heap[mb]? = _ from H6.out.get (i := 1) rfl)).1 0).trans (show _ = some (Value.pointer (some ⟨b, 0, none⟩)) from rfl)
      obtain ⟨hg0, y0, y1, y2, y3, y4, y5⟩ := ent6g (show Own w6 43 6 (.slice (some ⟨g0, 0, none⟩) keep.length ck) keep.length (rowE keep) from H6.out.get (i := 4) rfl) HY.out
      have HN1 := Lib.hid (Needed_any (.inl ⟨b, rfl, (show IXR w6.drew b st'.X S' from (H6.out.gr (Gr.refl w6).drew).get (i := 0) rfl)⟩) ⟨p0, p1, p2, p3, p4, p5⟩)
      rw [HF1.out] at HN1
      simp only [enV] at HN1 y0 y1 y2 y3 y4 y5
      go_wp2_with fail
      refine wp_region_flo (fun _ => False) [] [] (by kernel_rfl) (by kernel_rfl) (fun _ h => h.elim) ?_
      refine flo_seg 8 rfl ?_
      simp only [List.take_succ_cons, List.take_zero, List.drop_succ_cons, List.drop_zero]
      repeat (go_big_quiet_step (fail))
      refine wpQuiet_nil ?_
      refine flo_eff rfl rfl rfl rfl (fun K hK => ?_)
      go_wp2_with ((go_at_call 41; refine Calls.mono HN1.out ?_; rintro e' w7 ⟨rfl, hg⟩; have hg7 := hg; clear hg))
      refine ⟨by (first | (refine Gr.mdh ?_ _; (repeat (first | (with_reducible exact Gr.refl _) | assumption | (with_reducible apply Gr.from_drew) | (with_reducible apply Gr.alloc) | (with_reducible apply Gr.drew) | (with_reducible refine Gr.trans ?_ (by assumption)) | (with_reducible refine Gr.setCell ?_ (by omega) _))); done) | (repeat (first | (with_reducible exact Mdh.refl _ _) | (with_reducible refine Mdh.setCell ?_ (by simp) _) | (with_reducible refine Mdh.setNew ?_ (by simp) _) | (with_reducible apply Mdh.alloc) | (with_reducible apply Mdh.from_drew) | (with_reducible apply Mdh.drew) | (with_reducible refine Mdh.gr ?_ (by assumption))))), ?_⟩
      refine flo_seg 5 rfl ?_
      simp only [List.take_succ_cons, List.take_zero, List.drop_succ_cons, List.drop_zero]
      repeat (go_big_quiet_step (fail))
      refine wpQuiet_nil ?_
      refine flo_nil ?_
      have H7 := Lib.hid (H6.out.gr ((Gr.refl w6).drew.trans hg7))
      clear hg7 dm0 y0 y1 y2 y3 y4 y5 hg0 H6 HN1 HF1
      obtain ⟨d12, f12⟩ := cellsOf (show w7.heap[b12]? = _ from H7.out.get (i := 3) rfl)
      have l12 := blkLt (show w7.heap[b12]? = _ from H7.out.get (i := 3) rfl)
      (try simp only [boxF] at d12)
      have dmu := ((cellsOf (show w7.heap[mb]? = _ from H7.out.get (i := 1) rfl)).1 7).trans (show _ = some (Value.int .i64 (st'.us 5)) from rfl)
      rw [HU5.out] at dmu
      go_wp2_with fail
      have hsub : u5 + p5 - p5 = u5 := by omega
      have hN1 : ¬ mb = b12 := fun h => (H7.out.get_ne (i := 1) (j := 3) rfl rfl (by decide)) mb rfl h
      have d15 := (d12 5).trans (show _ = some (Value.int .i64 p5) from rfl)
      have d17 := (d12 4).trans (show _ = some (Value.int .i64 p4) from rfl)
      clear d12
      refine wp_region_flo (fun k => k = b12) [] [82] (by kernel_rfl) (by kernel_rfl) (fun k hk => by subst hk; exact l12) ?_
      refine flo_seg 6 rfl ?_
      simp only [List.take_succ_cons, List.take_zero, List.drop_succ_cons, List.drop_zero]
      repeat (go_big_quiet_step (fail))
      refine wpQuiet_nil ?_
      refine flo_eff rfl rfl rfl rfl (fun K hK => ?_)
      have d16 := (Gr.refl w7).drew.keep d15
      go_wp2
      refine ⟨by (first | (refine Gr.mdh ?_ _; (repeat (first | (with_reducible exact Gr.refl _) | assumption | (with_reducible apply Gr.from_drew) | (with_reducible apply Gr.alloc) | (with_reducible apply Gr.drew) | (with_reducible refine Gr.trans ?_ (by assumption)) | (with_reducible refine Gr.setCell ?_ (by omega) _))); done) | (repeat (first | (with_reducible exact Mdh.refl _ _) | (with_reducible refine Mdh.setCell ?_ (by simp) _) | (with_reducible refine Mdh.setNew ?_ (by simp) _) | (with_reducible apply Mdh.alloc) | (with_reducible apply Mdh.from_drew) | (with_reducible apply Mdh.drew) | (with_reducible refine Mdh.gr ?_ (by assumption))))), ?_⟩
      refine flo_seg 2 rfl ?_
      simp only [List.take_succ_cons, List.take_zero, List.drop_succ_cons, List.drop_zero]
      repeat (go_big_quiet_step (fail))
      refine wpQuiet_nil ?_
      refine flo_eff rfl rfl rfl rfl (fun K hK => ?_)
      go_wp2
      refine ⟨by (first | (refine Gr.mdh ?_ _; (repeat (first | (with_reducible exact Gr.refl _) | assumption | (with_reducible apply Gr.from_drew) | (with_reducible apply Gr.alloc) | (with_reducible apply Gr.drew) | (with_reducible refine Gr.trans ?_ (by assumption)) | (with_reducible refine Gr.setCell ?_ (by omega) _))); done) | (repeat (first | (with_reducible exact Mdh.refl _ _) | (with_reducible refine Mdh.setCell ?_ (by simp) _) | (with_reducible refine Mdh.setNew ?_ (by simp) _) | (with_reducible apply Mdh.alloc) | (with_reducible apply Mdh.from_drew) | (with_reducible apply Mdh.drew) | (with_reducible refine Mdh.gr ?_ (by assumption))))), ?_⟩
      refine flo_nil ?_
      obtain ⟨w8, hw8⟩ : ∃ y, y = (w7.setCell ⟨b12, 4, none⟩ (.int .i64 u5)).drew := ⟨_, rfl⟩
      have H8 : Hid (SW w (lL b mb v' S' st' [blkA b12 (boxF ⟨p0, p1, p2, 5, u5, p5⟩), rowA 43 6 (.slice (some ⟨g0, 0, none⟩) keep.length ck) keep.length (rowE keep), gsA bw nw want]) w8) := Lib.hid (by
        rw [hw8]
        exact (H7.out.at (i := 3) rfl ((Mdh.refl (fun k => k = b12) w7).setCell (p := ⟨b12, 4, none⟩) rfl _) (fun k hk => .inl hk) (B := blkA b12 (boxF ⟨p0, p1, p2, 5, u5, p5⟩)) (blkSet (j := 4) (u := .int .i64 u5) (show w7.heap[b12]? = _ from H7.out.get (i := 3) rfl)) (fun k hk => .inl hk)).gr (Gr.refl _).drew)
      rw [← hw8]
      clear hw8 dmu d15 d16 d17 f12 l12 hN1 H7 hsub
      have d12 := (cellsOf (show w8.heap[b12]? = _ from H8.out.get (i := 3) rfl)).1
      (try simp only [boxF] at d12)
      have dm0 := ((cellsOf (show w8.heap[mb]? = _ from H8.out.get (i := 1) rfl)).1 0).trans (show _ = some (Value.pointer (some ⟨b, 0, none⟩)) from rfl)
      have HN2 := Lib.hid (Needed_any (.inl ⟨b, rfl, (show IXR w8.drew b st'.X S' from (H8.out.gr (Gr.refl w8).drew).get (i := 0) rfl)⟩) ⟨p0, p1, p2, 5, u5, p5⟩)
      rw [HF2.out] at HN2
      simp only [enV] at HN2
      go_wp2_with fail
      refine wp_region_flo (fun _ => False) [] [] (by kernel_rfl) (by kernel_rfl) (fun _ h => h.elim) ?_
      refine flo_seg 5 rfl ?_
      simp only [List.take_succ_cons, List.take_zero, List.drop_succ_cons, List.drop_zero]
      repeat (go_big_quiet_step (fail))
      refine wpQuiet_nil ?_
      refine flo_eff rfl rfl rfl rfl (fun K hK => ?_)
      go_wp2_with ((go_at_call 41; refine Calls.mono HN2.out ?_; rintro e' w9 ⟨rfl, hg⟩; have hg9 := hg; clear hg))
      refine ⟨by (first | (refine Gr.mdh ?_ _; (repeat (first | (with_reducible exact Gr.refl _) | assumption | (with_reducible apply Gr.from_drew) | (with_reducible apply Gr.alloc) | (with_reducible apply Gr.drew) | (with_reducible refine Gr.trans ?_ (by assumption)) | (with_reducible refine Gr.setCell ?_ (by omega) _))); done) | (repeat (first | (with_reducible exact Mdh.refl _ _) | (with_reducible refine Mdh.setCell ?_ (by simp) _) | (with_reducible refine Mdh.setNew ?_ (by simp) _) | (with_reducible apply Mdh.alloc) | (with_reducible apply Mdh.from_drew) | (with_reducible apply Mdh.drew) | (with_reducible refine Mdh.gr ?_ (by assumption))))), ?_⟩
      refine flo_seg 5 rfl ?_
      simp only [List.take_succ_cons, List.take_zero, List.drop_succ_cons, List.drop_zero]
      repeat (go_big_quiet_step (fail))
      refine wpQuiet_nil ?_
      refine flo_nil ?_
      have H9 := Lib.hid (H8.out.gr ((Gr.refl w8).drew.trans hg9))
      clear hg9 dm0 d12 H8 HN2 HF2
      go_wp2_with fail
      go_roundw
      case rel => exact ⟨i + 1, st', v', S', by omega, by go_num, HNX, Lib.hid (H9.out.sel [0, 1, 2, 4, 5] (by decide) rfl)⟩
      case measure => simp [intOf]; omega
    · have hlt' : ¬ (i : Int) < keep.length := by omega
      obtain rfl : i = keep.length := by omega
      obtain ⟨e1, e2, e3⟩ := HEND.out st HCI2.out
      have HRD := Lib.hid (Redundant_any (.inl ⟨b, rfl, (show IXR wr b st.X S from HI.out.get (i := 0) rfl)⟩) (σ : Int))
      rw [e1, e2, decide_eq_true ⟨rfl, rfl⟩] at HRD
      have HLV := Lib.hid e3
      clear e1 e2 e3 HEND HSTP
      have dm0 := ((cellsOf (show wr.heap[mb]? = _ from HI.out.get (i := 1) rfl)).1 0).trans (show _ = some (Value.pointer (some ⟨b, 0, none⟩)) from rfl)
      go_wp2_with fail
      refine Calls.mono HRD.out ?_
      rintro e w4 ⟨rfl, hg⟩
      have H4 := Lib.hid (HI.out.gr hg)
      clear hg dm0 HI HRD
      have dm0 := ((cellsOf (show w4.heap[mb]? = _ from H4.out.get (i := 1) rfl)).1 0).trans (show _ = some (Value.pointer (some ⟨b, 0, none⟩)) from rfl)
      go_wp2_with fail
      refine (Drop_any H4.out.ix (σ : Int)).mono ?_
      rintro e w5 ⟨rfl, hp⟩
      obtain ⟨S3, hs⟩ := H4.out.post hp
      have H5 := Lib.hid hs
      clear hs hp H4 dm0
      have dm0 := ((cellsOf (show w5.heap[mb]? = _ from H5.out.get (i := 1) rfl)).1 0).trans (show _ = some (Value.pointer (some ⟨b, 0, none⟩)) from rfl)
      go_wp2_with fail
      refine (live24_any H5.out.ix).mono ?_
      rintro e w6 ⟨bn, nn, rfl, hg, hgs, hbn⟩
      rw [HLV.out] at hgs
      have H6 := Lib.hid (H5.out.gr hg)
      have HGS := Lib.hid hgs
      clear hg hgs hbn H5 dm0
      go_wp2_with (first
        | (go_at_call 48; refine (equal24 bn bw nn nw want _ HGS.out (show GS w6 bw nw want from H6.out.get (i := 4) rfl)).mono ?_; rintro e w10 ⟨rfl, hg⟩; have H10 := Lib.hid (H6.out.g.trans hg); clear hg)
        | (go_at_call 36; refine (lv_works _).mono ?_; rintro e w11 ⟨rfl, hg⟩; have HG := Lib.hid (H10.out.trans hg); clear hg)
        | fail)
      refine bodyPost_ret (v := .bool true) (by simp [results, Try.results12, go_sem]) rfl ?_
      exact ⟨rfl, HG.out⟩
end Go.Proofs.Ythefpmmeoajaiaa
