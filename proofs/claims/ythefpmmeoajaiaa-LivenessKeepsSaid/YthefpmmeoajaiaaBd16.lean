/- The map of an index by its numbers; LivenessKeeps in plain Lean. No walk. -/
import Derived.Test.YthefpmmeoajaiaaBd13
import Derived.Test.YthefpmmeoajaiaaBd15
import Derived.Test.YthefpmmeoajaiaaBd7
import Derived.Test.YthefpmmeoajaiaaBd11
import Derived.Laws.BytesArg
import Derived.Test.YthefpmmeoajaiaaBd14
import Derived.Laws.IdiomArrays
import Derived.ChangeSlices
import Derived.Test.YthefpmmeoajaiaaBd12
set_option linter.unusedVariables false
set_option linter.unusedSimpArgs false
namespace Go.Proofs.Ythefpmmeoajaiaa

def livF (X : IX) (l : List ByteArray) : List (ByteArray × Int) := l.filterMap (fun k => (findE X k).map (fun e => (k, e.seq)))
def liveM (X : IX) : List (ByteArray × Int) := livF X X.ks
theorem livF_none {X : IX} {l : List ByteArray} {k : ByteArray} (h : findE X k = none) : livF X (l ++ [k]) = livF X l := by simp [livF, h]
theorem livF_some {X : IX} {l : List ByteArray} {k : ByteArray} {e : En} (h : findE X k = some e) : livF X (l ++ [k]) = livF X l ++ [(k, e.seq)] := by simp [livF, h]
theorem livF_srt {X : IX} {l : List ByteArray} (h : l.Pairwise (fun a b => ltS a b = true)) : Srt ltS (livF X l) := by
  refine List.pairwise_filterMap.2 (h.imp (fun {a b} hab x hx y hy => ?_))
  obtain ⟨e, _, rfl⟩ := Option.map_eq_some_iff.1 hx
  obtain ⟨e', _, rfl⟩ := Option.map_eq_some_iff.1 hy
  exact hab
def seqK (X : IX) (k : ByteArray) : Option Int := (findE X k).map (fun e => e.seq)
theorem livF_map (X : IX) (l : List ByteArray) : livF X l = (l.filter (fun k => (findE X k).isSome)).map (fun k => (k, (seqK X k).getD 0)) := by
  induction l with
  | nil => rfl
  | cons k l ih =>
    unfold livF seqK at *
    rw [List.filterMap_cons, List.filter_cons]
    cases hf : findE X k with
    | none => simpa using ih
    | some e =>
      simp only [Option.map_some, Option.isSome_some, if_true, List.map_cons, hf, Option.getD_some]
      rw [ih]
theorem liveM_eq {X Y : IX} (hX : X.Wf) (hY : Y.Wf) (h : ∀ k, seqK Y k = seqK X k) : liveM Y = liveM X := by
  have hs : ∀ k, (findE Y k).isSome = (findE X k).isSome := fun k => by
    have := congrArg Option.isSome (h k)
    unfold seqK at this
    simpa using this
  have e1 : lvK Y = lvK X := keys_eq (lvK_srt hY) (lvK_srt hX) (fun k => by rw [lvK_mem hY, lvK_mem hX, hs k])
  unfold liveM
  rw [livF_map, livF_map, show Y.ks.filter (fun k => (findE Y k).isSome) = lvK Y from rfl, e1]
  exact List.map_congr_left (fun k _ => by rw [h k])
/-- What is newest of a key, and what is left of it where a slot of no needed entries is gone. -/
theorem drop_seqK {X : IX} (h : X.Wf) {s : Int} (hk : ∀ e ∈ X.slot s, X.needs e = false) (k : ByteArray) : seqK (dropX X s) k = seqK X k := by
  have hof := drop_of h s k
  have hp := h.ofPair k
  have hall := h.of_mem k
  unfold seqK
  cases hl : X.of k with
  | nil =>
    rw [hl, List.filter_nil] at hof
    unfold findE
    rw [hof, hl]
  | cons y t =>
    rw [hl] at hof hp hall
    have hy := (hall y).1 (List.mem_cons_self ..)
    rw [List.filter_cons] at hof
    by_cases hs : y.slot = s
    · rw [if_neg (by simp [hs])] at hof
      have h1 := hk y ((h.slot_mem s y).2 ⟨hy.1, hs⟩)
      unfold IX.needs at h1
      rw [hy.2, hl] at h1
      have hd1 : ∀ z ∈ t, z.seq < y.seq ∨ z.seq = y.seq := fun z hz => by
        have := (List.pairwise_cons.1 hp).1 z hz
        unfold ltE at this
        have := of_decide_eq_true this
        omega
      have n1 : ¬ (y :: t).any (nd1 y) = true := by
        rw [List.any_eq_true]
        rintro ⟨z, hz, h2⟩
        have h3 : y.seq < z.seq := of_decide_eq_true h2
        rcases List.mem_cons.1 hz with rfl | hz
        · omega
        · have := hd1 z hz; omega
      rw [if_neg n1] at h1
      by_cases n2 : (y :: t).any (nd2 y) = true
      · obtain ⟨o, ho, h2⟩ := List.any_eq_true.1 n2
        have h2 : o.seq = y.seq ∧ o.slot ≠ y.slot := of_decide_eq_true h2
        have ht : o ∈ t := by
          rcases List.mem_cons.1 ho with rfl | h4
          · exact absurd rfl h2.2
          · exact h4
        have h3 : o ∈ t.filter (fun o => decide (o.slot ≠ s)) := List.mem_filter.2 ⟨ht, decide_eq_true (fun h => h2.2 (h.trans hs.symm))⟩
        cases hf : t.filter (fun o => decide (o.slot ≠ s)) with
        | nil => rw [hf] at h3; cases h3
        | cons z u =>
          rw [hf] at h3 hof
          have hz : z ∈ t := (List.mem_filter.1 (show z ∈ t.filter (fun o => decide (o.slot ≠ s)) by rw [hf]; exact List.mem_cons_self ..)).1
          have hza := (hall z).1 (List.mem_cons_of_mem _ hz)
          have hpt : (z :: u).Pairwise (fun a b => ltE a b = true) := by rw [← hf]; exact (List.pairwise_cons.1 hp).2.sublist List.filter_sublist
          have hq : z.seq = y.seq := by
            have h5 := hd1 z hz
            rcases List.mem_cons.1 h3 with h4 | h4
            · rw [← h4]; exact h2.1
            · have h6 := (List.pairwise_cons.1 hpt).1 o h4
              unfold ltE at h6
              have h7 := of_decide_eq_true h6
              omega
          have hc := h.c z hza.1 y hy.1 (hza.2.trans hy.2.symm) hq
          unfold findE
          rw [hof, hl]
          simp only
          rw [hc.1]
          cases y.del
          · exact congrArg some hq
          · rfl
      · rw [if_neg n2] at h1
        have hdel : y.del = true := by
          cases hd : y.del
          · rw [hd, if_pos rfl] at h1; cases h1
          · rfl
        rw [hdel, if_neg (by decide)] at h1
        have hnil : t.filter (fun o => decide (o.slot ≠ s)) = [] := by
          refine List.filter_eq_nil_iff.2 (fun z hz hzs => ?_)
          have hzs : z.slot ≠ s := of_decide_eq_true hzs
          have hzy : z.slot ≠ y.slot := fun e => hzs (e.trans hs)
          rcases hd1 z hz with h5 | h5
          · have : (y :: t).any (nd3 y) = true := List.any_eq_true.2 ⟨z, List.mem_cons_of_mem _ hz, decide_eq_true ⟨h5, hzy⟩⟩
            rw [this] at h1
            cases h1
          · exact n2 (List.any_eq_true.2 ⟨z, List.mem_cons_of_mem _ hz, decide_eq_true ⟨h5, hzy⟩⟩)
        rw [hnil] at hof
        unfold findE
        rw [hof, hl]
        simp only
        rw [hdel]
        rfl
    · rw [if_pos (by simp [hs])] at hof
      unfold findE
      rw [hof, hl]
theorem drop_liveM {X : IX} (h : X.Wf) {s : Int} (hk : ∀ e ∈ X.slot s, X.needs e = false) : liveM (dropX X s) = liveM X := liveM_eq h (drop_wf h s) (drop_seqK h hk)
theorem drop_len (X : IX) (s : Int) : (dropX X s).slots.length = X.slots.length := by
  unfold dropX
  split
  · simp
  · rfl
/-- An index of six slots, of which the last has no entries. -/
structure KI (X : IX) (m : List (ByteArray × Int)) : Prop where
  wf : X.Wf
  ln : X.slots.length = 6
  e5 : X.slot 5 = []
  lv : liveM X = m
def redS (X : IX) (s : Int) : Bool := decide (keepC X s = 0 ∧ keepL X s = [])
def freeL (X : IX) (n : Nat) : List Int := ((List.range n).map (fun i : Nat => (i : Int))).filter (redS X)
section
variable {X : IX} {m : List (ByteArray × Int)}
theorem KI.ne (h : KI X m) : X.slots ≠ [] := fun h0 => by have := h.ln; rw [h0] at this; cases this
theorem KI.code (h : KI X m) {s : Nat} (hs : s < 6) : keepC X s = 0 := by
  unfold keepC
  rw [if_neg h.ne, if_neg]
  unfold IX.has
  rw [h.ln]
  simp
  omega
theorem KI.dcode (h : KI X m) {s : Nat} (hs : s < 6) : dropC X s = 0 := by
  have := h.ne
  unfold dropC
  simp [IX.has, h.ln, this]
  omega
theorem KI.red5 (h : KI X m) : redS X 5 = true := decide_eq_true ⟨h.code (s := 5) (by omega), by unfold keepL; rw [h.e5]; rfl⟩
theorem KI.drop (h : KI X m) {s : Int} (hs : redS X s = true) : KI (dropX X s) m := by
  have h1 := (of_decide_eq_true hs).2
  refine ⟨drop_wf h.wf s, by rw [drop_len, h.ln], ?_, ?_⟩
  · rw [drop_slot h.wf]; split
    · rfl
    · exact h.e5
  · rw [drop_liveM h.wf, h.lv]
    intro e he
    cases hn : X.needs e with
    | false => rfl
    | true =>
      have : e ∈ keepL X s := List.mem_filter.2 ⟨he, hn⟩
      rw [h1] at this
      cases this
theorem free_succ (X : IX) (n : Nat) : freeL X (n + 1) = freeL X n ++ (if redS X n = true then [(n : Int)] else []) := by
  unfold freeL
  rw [List.range_succ, List.map_append, List.filter_append]
  simp only [List.map_cons, List.map_nil, List.filter_cons, List.filter_nil]
theorem free_le (X : IX) (n : Nat) : (freeL X n).length ≤ n := by
  unfold freeL
  have := List.length_filter_le (redS X) ((List.range n).map (fun i : Nat => (i : Int)))
  simpa using this
theorem free_red {X : IX} {n : Nat} {s : Int} (h : s ∈ freeL X n) : redS X s = true ∧ 0 ≤ s ∧ s < n := by
  have h1 := List.mem_filter.1 h
  obtain ⟨i, hi, rfl⟩ := List.mem_map.1 h1.1
  have := List.mem_range.1 hi
  exact ⟨h1.2, by omega, by omega⟩
theorem KI.last (h : KI X m) : ∃ l, freeL X 6 = l ++ [5] := by
  refine ⟨freeL X 5, ?_⟩
  rw [free_succ, if_pos]
  · rfl
  · exact h.red5
end
theorem build_KI {st : LS} {j : Nat} (h : st.Ok j) (h5 : ∀ e ∈ st.all, e.slot < 5) : KI st.X (liveM st.X) := by
  refine ⟨h.g.wf, by have := h.g.ln; omega, ?_, rfl⟩
  cases hl : st.X.slot 5 with
  | nil => rfl
  | cons e t =>
    have h1 := (h.g.slot 5 e).1 (by rw [hl]; simp)
    have := h5 e h1.1
    omega
end Go.Proofs.Ythefpmmeoajaiaa

/- drumlinlaw24.live: the walk. -/
set_option linter.unusedVariables false
set_option linter.unusedSimpArgs false
namespace Go.Proofs.Ythefpmmeoajaiaa
open Go.RowKit Go.Shelf Go.Maps
attribute [local go_sem] OvM cell_ovm obj_ovm
attribute [local go_sem] Oper.semAt_some

set_option maxRecDepth 40000 in
theorem yieldsS24_any (gf : Nat) (lb : Array Value) (w : World) : Calls Try.prog 103 #[.func (.func gf) #[] lb] w fun e w' => e = .returned (.func (.func gf) #[] lb) ∧ w = w' := by
  have k1 : ∀ w : World, (binOp .eql 146 (.func (.func gf) #[] lb) .nilFunc).run Try.prog w = .ok (.bool false) w := fun w => by kernel_rfl
  go_enter Try.func103, Try.ntmps103
  go_wp2
  go_ret
  exact ⟨rfl, rfl⟩
def LivP (X : IX) (w : World) (e : Ending) (w' : World) : Prop := ∃ bm n, e = .returned (.map (some bm)) ∧ Gr w w' ∧ GS w' bm n (liveM X) ∧ w.heap.size ≤ bm

theorem find_head {X : IX} (h : X.Wf) {k : ByteArray} (hk : k ∈ X.ks) : ∃ y, newV (X.of k) = .tuple #[enV y, .bool true] ∧ findE X k = (if y.del = true then none else some y) ∧ y.key = k ∧ validE y = true := by
  have hne := (mem_ks h k).1 hk
  cases ho : X.of k with
  | nil => exact absurd ho hne
  | cons y t =>
    refine ⟨y, rfl, by unfold findE; rw [ho], ?_⟩
    have hm := (h.of_mem k y).1 (by rw [ho]; simp)
    exact ⟨hm.2, (h.valid hm.1).1⟩
abbrev lvB (bm b1 n : Nat) (p : Option Addr) (L : List SqI) : List Asn := [blkA (bm + 1) (.cells #[.map (some bm)] 102), gsA bm n L, blkA b1 (.cells #[.pointer p] 32)]
set_option maxRecDepth 40000 in
set_option maxHeartbeats 8000000 in
theorem live24_any {w : World} {b : Nat} {X : IX} {S : Nat → Prop} (h : IXR w b X S) : Calls Try.prog 47 #[.pointer (some ⟨b, 0, none⟩)] w (LivP X w) := by
  have H := Lib.hid (show IXP w (some ⟨b, 0, none⟩) X S from .inl ⟨b, rfl, h⟩)
  have HWF := Lib.hid H.out.ok
  have HKL : Hid (X.ks.length ≤ 16384) := Lib.hid (by have := HWF.out.keys_le; unfold IX.ks; simpa using this)
  clear h
  obtain ⟨p, hp⟩ : ∃ p, p = (some ⟨b, 0, none⟩ : Option Addr) := ⟨_, rfl⟩
  rw [← hp] at H ⊢
  clear hp
  have hmm := @run_makeMap Try.prog
  refine calls_of_wp_marks Try.func47 rfl ?_
  simp only [Try.ntmps47, List.size_toArray, List.length_cons, List.length_nil, Nat.reduceAdd, Nat.reduceSub, Array.replicate_succ, Array.replicate_zero, List.push_toArray, List.append_toArray, List.nil_append, List.cons_append]
  go_upto_region 2 with fail
  clear hmm
  obtain ⟨b1, hb1⟩ : ∃ q, q = w.heap.size := ⟨_, rfl⟩
  obtain ⟨w0, hw0⟩ : ∃ y, y = ((w.alloc (.cells #[.pointer p] 32)).alloc (.map #[] 0)).alloc (.cells #[.map (some (b1 + 1))] 102) := ⟨_, rfl⟩
  have HSW : Hid (SW w (lvB (b1 + 1) b1 0 p []) w0) := Lib.hid (by
    have h1 := (SW.start w).alloc (.cells #[.pointer p] 32)
    have h2 := h1.new ((Gr.refl _).alloc _) (A := gsA (w.alloc (.cells #[.pointer p] 32)).heap.size 0 []) (GS.made _) (fun k hk => by rw [show k = _ from hk]; exact Nat.le_refl _)
    have h3 := h2.alloc (.cells #[.map (some (b1 + 1))] 102)
    simp only [World.size_alloc] at h3
    rw [← hb1] at h3
    rw [hw0]
    exact h3)
  rw [← hb1]
  rw [← hw0]
  clear hw0 hb1
  have d1 := (cellsOf (show w0.heap[b1]? = _ from HSW.out.get (i := 2) rfl)).1
  go_wp2_with fail
  refine (Keys_any p _).mono ?_
  rintro e' w1 ⟨bb, rfl, h1, h2, hg⟩
  have HS1 := Lib.hid (HSW.out.gr hg)
  have HI := Lib.hid (H.out.gr HS1.out.g)
  have HSEQ := Lib.hid (SeqKeysP HI.out bb h1)
  have HA : Hid (∀ q, (q = bb ∨ S q) → q < w1.heap.size) := Lib.hid (fun q hq => by
    have l1 := World.block_lt_of_cell? w1 ⟨bb, 0, none⟩ h1
    rcases hq with rfl | hq
    · exact l1
    · exact HI.out.lt q hq)
  have HZ : Hid (∃ n, n ≤ ([] : List ByteArray).length ∧ SWz w w1 (fun q => q = bb ∨ S q) (lvB (b1 + 1) b1 n p (livF X [])) (fun _ => False) w1) := Lib.hid ⟨0, Nat.le_refl _, SWz.start HS1.out (fun B hB k hk ha => by
    have l1 := HSW.out.s.lt hB k hk
    have l2 := HSW.out.n B hB k hk
    rcases ha with rfl | ha
    · omega
    · have := H.out.lt k ha; omega)⟩
  clear h1 h2 hg d1
  go_wp2_with fail
  refine (yieldsS24_any _ _ _).mono ?_
  rintro e' w2 ⟨rfl, rfl⟩
  go_wp2_with fail
  apply wp_rangeFunc_zb (gf := 124) (lb := #[.pointer (some ⟨bb, 0, none⟩)]) rfl (enters_of Try.func124 (by kernel_rfl) rfl) HSEQ.out (Mdh.refl _ w1) HA.out (fun _ => rfl)
    (fun Z pre X' => ∃ n, n ≤ pre.length ∧ SWz w w1 (fun q => q = bb ∨ S q) (lvB (b1 + 1) b1 n p (livF X pre)) Z X')
    (fun _ _ _ => False) (fun _ _ _ => False)
    (Apart.ex fun n => ((Apart.pure (fun pre : List ByteArray => n ≤ pre.length)).and (SWz.apart HS1.out.g.sz (fun pre : List ByteArray => lvB (b1 + 1) b1 n p (livF X pre))))) apart_no apart_no
    HZ.out _ ?assign ?body ?hend ?hret
  case hret => intro _ _ _ _ _ _ _ h; exact h.elim
  case assign =>
    intro l x X' K hK
    dsimp only [encK]
    gi_wp2
    exact hK
  case body =>
    intro l Z pre x X' hI hsp
    obtain ⟨n, hn, hI⟩ := hI
    have HIZ := Lib.hid hI
    have hmem : x ∈ X.ks := hsp.subset (by simp)
    obtain ⟨y, hy1, hy2, hy3, hy4⟩ := find_head HWF.out hmem
    have hvy := (valid_iff y).1 hy4
    have HPS : Hid (Srt ltS (livF X (pre ++ [x]))) := Lib.hid (livF_srt ((ks_srt HWF.out).sublist hsp.sublist))
    have HPN : Hid (pre.length < 16384) := Lib.hid (by have := hsp.length_le; have := HKL.out; simp at *; omega)
    have HIX : Hid (IXP X' p X S) := Lib.hid (H.out.gr HIZ.out.s.g)
    have HXK : Hid (x.size ≤ maxLen) := Lib.hid (by have h5 := hvy.2.2.2.2.1; have h6 := hvy.2.2.2.2.2.2.1; rw [hy3] at h5; unfold maxLen; omega)
    have HSQ : Hid ((Lit.int .i64 y.seq).wf = true) := Lib.hid (WalkArith.wf_i64 (by omega))
    have HNV := Lib.hid hy1
    have c1 := (cellsOf (show X'.heap[b1]? = _ from HIZ.out.s.get (i := 2) rfl)).1
    clear hI hsp hmem hy3 hy4 hvy hy1
    obtain ⟨y1, y2, y3, y4, y5, y6⟩ := y
    simp only at hy2 HSQ
    simp only [enV] at HNV
    gi_wp2_with fail
    refine ⟨trivial, (CallsIn.inRound l (callsIn_wide.2 (Newest_any HIX.out x))).mono ?_⟩
    rintro e w9 ⟨rfl, hg9⟩
    rw [HNV.out]
    have HZ9 := Lib.hid (HIZ.out.gr hg9)
    have d3 := (cellsOf (hg9.blk (show X'.heap[b1 + 1 + 1]? = _ from HIZ.out.s.get (i := 0) rfl))).1
    have l3 := blkLt (hg9.blk (show X'.heap[b1 + 1 + 1]? = _ from HIZ.out.s.get (i := 0) rfl))
    clear hg9 c1
    cases y3 with
    | true =>
      have HN := Lib.hid (livF_none (l := pre) (show findE X x = none from hy2))
      clear hy2
      gi_wp2_with fail
      have z2 := HZ9.out.1.gr ((Gr.refl w9).alloc (.cells #[.int .i64 y1, .string y2, .bool true, .int .i64 y4, .int .i64 y5, .int .i64 y6] 43))
      exact ⟨HZ9.out.2.trans z2.2, n, by rw [List.length_append]; omega, by rw [HN.out]; exact z2.1⟩
    | false =>
      have HN := Lib.hid (livF_some (l := pre) (show findE X x = some ⟨y1, y2, false, y4, y5, y6⟩ from hy2))
      clear hy2
      have z2 := Lib.hid (HZ9.out.1.gr ((Gr.refl w9).alloc (.cells #[.int .i64 y1, .string y2, .bool false, .int .i64 y4, .int .i64 y5, .int .i64 y6] 43)))
      rw [HN.out] at HPS
      generalize livF X pre = L0 at *
      gi_wp2_with (first
        | (gi_at_mapUpdate; refine wpListIn_gs_set _ rfl (.tmp 24) (.tmp 25) (.tmp 27) rfl (b1 + 1) n L0 rfl (show GS _ (b1 + 1) n L0 from z2.out.1.s.get (i := 1) rfl) (by have := HPN.out; omega) x y1 rfl rfl HXK.out HSQ.out ?_; intro w5 hgm5 hmd5; have H5 := Lib.hid (And.intro hgm5 hmd5); clear hgm5 hmd5)
        | fail)
      have z3 := z2.out.1.step (i := 1) (B' := gsA (b1 + 1) (n + 1) (L0 ++ [(x, y1)])) rfl HA.out H5.out.2 (fun k hk => .inl hk) (by
        have := H5.out.1
        rw [put_endS HPS.out] at this
        exact this) (fun k hk => .inl hk)
      exact ⟨(HZ9.out.2.trans z2.out.2).trans z3.2, n + 1, by rw [List.length_append]; simp; omega, by rw [HN.out]; exact z3.1⟩
  case hend =>
    intro Z D xs W hD hZD hcase hdef
    obtain ⟨hxs, n, hn, hI⟩ := hcase.elim (fun h => h) (fun h => h.2.elim)
    have hxs' : xs = X.ks := hxs
    subst hxs'
    have HD := Lib.hid (And.intro hD hdef)
    have c3 := (cellsOf (show W.heap[b1 + 1 + 1]? = _ from hI.s.get (i := 0) rfl)).1
    have HW := Lib.hid (And.intro hI.s (And.intro (show GS W (b1 + 1) n (liveM X) from hI.s.get (i := 1) rfl) (fun e : D = b1 + 1 => hI.z _ (List.mem_cons_of_mem _ (List.mem_cons_self ..)) (b1 + 1) rfl (e ▸ hZD))))
    have hlb : w.heap.size ≤ b1 + 1 := hI.s.n _ (List.mem_cons_of_mem _ (List.mem_cons_self ..)) (b1 + 1) rfl
    have HLB := Lib.hid hlb
    clear hI hcase hxs hD hdef hlb
    dsimp only
    go_wp2_with fail
    have hnD : w.heap.size ≤ D := by have := HD.out.1; have := HS1.out.g.sz; omega
    exact retM1 (D := D) (v := .map (some (b1 + 1))) rfl HD.out.2 (by simp [results, Try.results47, go_sem]) ⟨b1 + 1, n, rfl, HW.out.1.g.putObj hnD _, HW.out.2.1.mdh ((Mdh.refl (fun k => k = D) W).putObj (l := D) rfl (.deferred none)) (fun e => HW.out.2.2 (show b1 + 1 = D from e).symm), HLB.out⟩
end Go.Proofs.Ythefpmmeoajaiaa

/- drumlinlaw24.equal at two maps of the same pairs. -/
set_option linter.unusedVariables false
set_option linter.unusedSimpArgs false
namespace Go.Proofs.Ythefpmmeoajaiaa
open Go.RowKit Go.Maps
attribute [local go_sem] OvM cell_ovm obj_ovm

set_option maxRecDepth 40000 in
set_option maxHeartbeats 8000000 in
theorem equal24 (b1 b2 n1 n2 : Nat) (L : List SqI) (w : World) (h1 : GS w b1 n1 L) (h2 : GS w b2 n2 L) :
    Calls Try.prog 48 #[.map (some b1), .map (some b2)] w fun e w' => e = .returned (.bool true) ∧ Gr w w' := by
  have hml1 : ∀ ty, (Builtin.len_ #[102] ty #[.map (some b1)]).run Try.prog w = .ok (.int .i64 L.length) w := fun ty => gs_len_run h1 ty
  have hml2 : ∀ ty, (Builtin.len_ #[102] ty #[.map (some b2)]).run Try.prog w = .ok (.int .i64 L.length) w := fun ty => gs_len_run h2 ty
  have H2 := Lib.hid h2
  obtain ⟨DD, hown, hRD⟩ := h1
  have HOW := Lib.hid hown
  have HRD := Lib.hid hRD
  clear hown hRD h2
  go_enter Try.func48, Try.ntmps48
  go_wp2_with (first
    | (at_range; refine wpList_range_own _ rfl (.tmp 14) 102 rfl 9 2 lawS Try.underlying102 (plainElem Try.prog 2) b1 n1 DD rfl HOW.out ?_; intro w8 hrg8 hg8 hs8; have HR8 := Lib.hid (And.intro hrg8 (And.intro hg8 hs8)); clear hrg8 hg8 hs8)
    | fail)
  clear hml1 hml2
  go_frame
  have FS8 : Hid (GS w8 b2 n2 L ∧ Gr w w8) := Lib.hid ⟨H2.out.gr (gr_grownS HR8.out.2.1), gr_grownS HR8.out.2.1⟩
  have HRI : Hid (w.heap.size ≠ b2) := Lib.hid (by have := H2.out.lt; omega)
  go_loopw [5] (fun _ wr => ∃ (left : Lit → Bool) (cnt : Nat), Hid (wr.ranges Try.prog 9 (plainElem Try.prog 2) b1 w.heap.size n1 DD left cnt ∧ GS wr b2 n2 L ∧ Gr w wr)) (fun _ wr => wr.rangeLeft b1 w.heap.size)
  case atStart => exact ⟨_, _, Lib.hid ⟨HR8.out.1, FS8.out.1, FS8.out.2⟩⟩
  case round =>
    obtain ⟨left, cnt, HH⟩ := hrel
    go_wp2_with (first
      | (at_next; refine wpList_next_gs _ rfl (.tmp 15) rfl b1 w.heap.size n1 DD left cnt rfl HH.out.1 ?_ ?_)
      | fail)
    · intro _ _
      go_wp2_with fail
      go_ret
      exact ⟨rfl, HH.out.2.2⟩
    · intro x c w9 cnt1 hwx hat hrg1 hlt hg9 hs9 hen
      have hlook := HRD.out.val (k := x) (c := c) hat
      have F1 : Hid ((look ltS L x).getD 0 = c) := Lib.hid (by rw [hlook]; rfl)
      have F2 : Hid ((look ltS L x).isSome = true) := Lib.hid (by rw [hlook]; rfl)
      have HR9 := Lib.hid (And.intro hrg1 hlt)
      have HF9 : Hid (GS w9 b2 n2 L ∧ Gr w w9) := Lib.hid (by
        have m9 : Mdh (fun k => k = w.heap.size) wr w9 := md_of_grownS hg9
        exact ⟨HH.out.2.1.mdh m9 (fun e => HRI.out e.symm), HH.out.2.2.md m9 (fun k hk => by rw [hk]; exact Nat.le_refl _)⟩)
      have HWX := Lib.hid hwx
      clear hrg1 hlt hat hg9 hlook hwx
      go_wp2_with (first
        | (at_lookup; refine wpList_gs_look _ rfl (.tmp 22) (.tmp 23) rfl b2 n2 L rfl HF9.out.1 x rfl HWX.out ?_; rw [F1.out, F2.out])
        | fail)
      go_roundw
      case rel => exact ⟨_, _, Lib.hid ⟨HR9.out.1, HF9.out.1, HF9.out.2⟩⟩
      case measure =>
        rw [HR9.out.1.left_eq, HH.out.1.left_eq]
        exact HR9.out.2
end Go.Proofs.Ythefpmmeoajaiaa

/- A number of a row of numbers. -/
set_option linter.unusedVariables false
set_option linter.unusedSimpArgs false
namespace Go.Proofs.Ythefpmmeoajaiaa
open Go.RowKit

def kN (l : List Int) : List Value := l.map (fun x => .int .i64 x)
theorem kN_len (l : List Int) : (kN l).length = l.length := by simp [kN]
theorem kN_snoc (l : List Int) (x : Int) : kN (l ++ [x]) = kN l ++ [.int .i64 x] := by simp [kN]
theorem ownN_at {w : World} {v : Value} {l : List Int} (h : Own w 3 1 v l.length (kN l)) : ∃ a cap, v = .slice a l.length cap ∧ l.length ≤ cap ∧ cap ≤ maxLen ∧ ∀ i x, l[i]? = some x → ∃ g, a = some ⟨g, 0, none⟩ ∧ g < w.heap.size ∧ v.ownBlock = some g ∧ w.cell? ⟨g, i, none⟩ = some (.int .i64 x) := by
  rcases h.2 with ⟨hv, h0⟩ | ⟨g, cap, cur, hv, _, hg, h1, h2, h3, h4⟩
  · have hL : l = [] := List.eq_nil_of_length_eq_zero h0
    subst hL
    exact ⟨none, 0, hv, Nat.le_refl _, by simp [maxLen], fun i x hx => by simp at hx⟩
  · subst hv
    refine ⟨_, cap, rfl, h1, h2, fun i x hx => ⟨g, rfl, blkLt hg, rfl, ?_⟩⟩
    have hc := h.cells (g := g) rfl i (.int .i64 x) (by unfold kN; rw [List.getElem?_map, hx]; rfl)
    rwa [show (⟨g, 0, none⟩ : Addr).add i = ⟨g, i, none⟩ by unfold Addr.add; split <;> simp_all] at hc
end Go.Proofs.Ythefpmmeoajaiaa

/- drumlinlaw28.built in plain Lean. No walk. -/
set_option linter.unusedVariables false
set_option linter.unusedSimpArgs false
namespace Go.Proofs.Ythefpmmeoajaiaa

structure Tr where
  a : Int
  b : Int
  c : Int
structure Tr.Ok (t : Tr) : Prop where
  a : 0 ≤ t.a ∧ t.a ≤ 255
  b : 0 ≤ t.b ∧ t.b ≤ 255
  c : 0 ≤ t.c ∧ t.c ≤ 255
def trKey (a : Int) : ByteArray := ⟨#[(97 + a % 20).toNat.toUInt8]⟩
theorem trKey_ok (a : Int) : keyChk (trKey a) = 0 ∧ (trKey a).size = 1 ∧ Low (trKey a) := by
  obtain ⟨n, hn, hl⟩ : ∃ n : Nat, a % 20 = n ∧ n < 20 := ⟨(a % 20).toNat, by omega, by omega⟩
  have e : trKey a = ⟨#[(97 + n).toUInt8]⟩ := by
    unfold trKey
    rw [hn, show ((97 : Int) + (n : Int)).toNat = 97 + n by omega]
  rw [e]
  have h : ∀ n : Nat, n < 20 → keyChk ⟨#[(97 + n).toUInt8]⟩ = 0 ∧ (⟨#[(97 + n).toUInt8]⟩ : ByteArray).size = 1 ∧ Low ⟨#[(97 + n).toUInt8]⟩ := by
    intro n hn
    have hu : ((97 + n).toUInt8).toNat = 97 + n := by
      rw [Nat.toUInt8_eq, UInt8.toNat_ofNat']
      omega
    refine ⟨?_, rfl, fun j hj => ?_⟩
    · have hk : keyC ((97 + n).toUInt8) = true := by
        unfold keyC
        simp only [Bool.or_eq_true, Bool.and_eq_true, decide_eq_true_eq]
        right
        constructor
        · rw [UInt8.le_iff_toNat_le, hu]; show 97 ≤ 97 + n; omega
        · rw [UInt8.le_iff_toNat_le, hu]; show 97 + n ≤ 122; omega
      rw [keyChk_ok (k := ⟨#[(97 + n).toUInt8]⟩) (fun j hj => by
        have hj1 : j < 1 := hj
        obtain rfl : j = 0 := by omega
        exact hk)]
      rfl
    · have hj1 : j < 1 := hj
      obtain rfl : j = 0 := by omega
      show ((97 + n).toUInt8).toNat < 128
      omega
  exact h n hl
structure TS where
  X : IX
  all : List En
  us : Int → Int
def mkT (st : TS) (t : Tr) : En := ⟨(st.all.length : Int) + 1, trKey t.a, false, t.b % 5, st.us (t.b % 5) + t.c % 3, 17 + t.c % 9⟩
def stepT (st : TS) (t : Tr) : TS := ⟨addX st.X (mkT st t), st.all ++ [mkT st t], upd st.us (t.b % 5) ((mkT st t).off + (mkT st t).size)⟩
def foldT (L : List Tr) : TS := L.foldl stepT ⟨ixNew 6, [], fun _ => 0⟩
theorem foldT_snoc (L : List Tr) (t : Tr) : foldT (L ++ [t]) = stepT (foldT L) t := by simp [foldT]
structure TS.Ok (st : TS) : Prop where
  g : FG st.X st.all st.us 6
  n : st.all.length ≤ 81
  u : ∀ s, 0 ≤ st.us s ∧ st.us s ≤ 27 * st.all.length
  e : ∀ e ∈ st.all, 1 ≤ e.seq ∧ e.seq ≤ st.all.length ∧ e.slot < 5 ∧ e.del = false ∧ Low e.key ∧ e.key.size = 1 ∧ e.size ≤ 25
theorem TS.step {st : TS} {t : Tr} (h : st.Ok) (hn : st.all.length ≤ 80) (ht : t.Ok) : addE st.X (mkT st t) = 0 ∧ (stepT st t).Ok ∧ Low (mkT st t).key ∧ En64 (mkT st t) ∧ 0 ≤ (mkT st t).off ∧ (mkT st t).off ≤ 2200 := by
  obtain ⟨k1, k2, k3⟩ := trKey_ok t.a
  have hu := h.u (t.b % 5)
  have hsz : (17 : Int) ≤ 17 + t.c % 9 ∧ 17 + t.c % 9 ≤ 25 := by omega
  have hg : 0 ≤ t.c % 3 ∧ t.c % 3 ≤ 2 := by omega
  have kz : ((trKey t.a).size : Int) = 1 := by rw [k2]; rfl
  have hv : validE (mkT st t) = true := (valid_iff _).2 ⟨k1, show (1 : Int) ≤ (st.all.length : Int) + 1 by omega, show (st.all.length : Int) + 1 ≤ 1099511627776 by omega, show (0 : Int) ≤ st.us (t.b % 5) + t.c % 3 by omega,
    show 16 + ((trKey t.a).size : Int) ≤ 17 + t.c % 9 by omega, .inr rfl, show 17 + t.c % 9 ≤ (8192 : Int) by omega, show st.us (t.b % 5) + t.c % 3 ≤ 8192 - (17 + t.c % 9) by omega⟩
  obtain ⟨q1, q2⟩ := h.g.new (e := mkT st t) (fun o ho => by have := (h.e o ho).2.1; show o.seq ≠ (st.all.length : Int) + 1; omega) (show (0 : Int) ≤ t.b % 5 by omega) (show t.b % 5 < (6 : Int) by omega) hv (show st.us (t.b % 5) ≤ st.us (t.b % 5) + t.c % 3 by omega)
  refine ⟨q1, ⟨q2, ?_, fun s => ?_, fun e he => ?_⟩, k3, ⟨?_, ?_, ?_⟩, ?_, ?_⟩
  · show (st.all ++ [_]).length ≤ 81
    rw [List.length_append]; simp; omega
  · have hs := h.u s
    show 0 ≤ upd st.us (t.b % 5) (st.us (t.b % 5) + t.c % 3 + (17 + t.c % 9)) s ∧ upd st.us (t.b % 5) (st.us (t.b % 5) + t.c % 3 + (17 + t.c % 9)) s ≤ 27 * ((st.all ++ [mkT st t]).length : Int)
    rw [List.length_append]
    simp only [List.length_singleton, Int.natCast_add]
    unfold upd
    split <;> omega
  · rcases List.mem_append.1 he with he | he
    · obtain ⟨h1, h2, h3⟩ := h.e e he
      refine ⟨h1, ?_, h3⟩
      show e.seq ≤ ((st.all ++ [mkT st t]).length : Int)
      rw [List.length_append]
      simp only [List.length_singleton, Int.natCast_add]
      omega
    · rw [List.mem_singleton.1 he]
      refine ⟨show (1 : Int) ≤ (st.all.length : Int) + 1 by omega, ?_, show t.b % 5 < (5 : Int) by omega, rfl, k3, k2, show 17 + t.c % 9 ≤ (25 : Int) by omega⟩
      show (st.all.length : Int) + 1 ≤ ((st.all ++ [mkT st t]).length : Int)
      rw [List.length_append]
      simp only [List.length_singleton, Int.natCast_add]
      omega
  · show 17 + t.c % 9 ≤ (9223372036854775807 : Int); omega
  · show (-9223372036854775808 : Int) ≤ 17 + t.c % 9; omega
  · show (trKey t.a).size ≤ 140737488351232; omega
  · show (0 : Int) ≤ st.us (t.b % 5) + t.c % 3; omega
  · show st.us (t.b % 5) + t.c % 3 ≤ (2200 : Int); omega
theorem foldT_len (L : List Tr) : (foldT L).all.length = L.length := by
  have h : ∀ (L : List Tr) (st : TS), (L.foldl stepT st).all.length = st.all.length + L.length := by
    intro L
    induction L with
    | nil => intro st; rfl
    | cons t L ih =>
      intro st
      rw [List.foldl_cons, ih]
      show (st.all ++ [_]).length + L.length = _
      simp
      omega
  have := h L ⟨ixNew 6, [], fun _ => 0⟩
  simpa [foldT] using this
theorem foldT_ok' : ∀ (n : Nat) (L : List Tr), L.length = n → n ≤ 81 → (∀ t ∈ L, t.Ok) → (foldT L).Ok
  | 0, L, hL, _, _ => by
    rw [List.eq_nil_of_length_eq_zero hL]
    exact ⟨FG.start 6 (by omega) (by omega) _, by show 0 ≤ 81; omega, fun s => ⟨Int.le_refl _, by show (0 : Int) ≤ 27 * 0; omega⟩, (fun _ h => by cases h)⟩
  | n + 1, L, hL, hn, ht => by
    have hne : L ≠ [] := fun h => by rw [h] at hL; cases hL
    have e := List.dropLast_concat_getLast hne
    have h1 := foldT_ok' n L.dropLast (by rw [List.length_dropLast]; omega) (by omega) (fun m h => ht m (List.dropLast_subset L h))
    rw [← e, foldT_snoc]
    exact (TS.step h1 (by rw [foldT_len, List.length_dropLast]; omega) (ht _ (List.getLast_mem hne))).2.1
theorem foldT_ok (L : List Tr) (hn : L.length ≤ 81) (ht : ∀ t ∈ L, t.Ok) : (foldT L).Ok := foldT_ok' _ L rfl hn ht
end Go.Proofs.Ythefpmmeoajaiaa

/- drumlinlaw28.built: the walk. -/
set_option linter.unusedVariables false
set_option linter.unusedSimpArgs false
namespace Go.Proofs.Ythefpmmeoajaiaa
open Go.RowKit Go.Shelf
attribute [local go_sem] OvM cell_ovm obj_ovm
attribute [local go_sem] Oper.semAt_some

/-- The triples of a list lie at a. -/
def TriAt (w : World) (a : Option Addr) (l : List Tr) : Prop :=
  ∀ i x, l[i]? = some x → ∃ b off, a = some ⟨b, off, none⟩ ∧ b < w.heap.size ∧ w.cell? ⟨b, off + i * 3, none⟩ = some (.int .u8 x.a) ∧ w.cell? ⟨b, off + i * 3 + 1, none⟩ = some (.int .u8 x.b) ∧ w.cell? ⟨b, off + i * 3 + 2, none⟩ = some (.int .u8 x.c) ∧ x.Ok
theorem cv_key {w1 : World} {B : Nat} {n : Int} {kb : ByteArray} (h : strOfNums [n] = kb) (hw : w1.cell? ⟨B, 0, none⟩ = some (.int .u8 n)) : (convert 101 9 (.slice (some ⟨B, 0, none⟩) 1 1)).run Try.prog w1 = .ok (.string kb) w1 := by
  have := run_convert_bytes_arg (P := Try.prog) (w := w1) 101 5 Try.underlying101 Try.underlying5 B 0 1 1 [n] rfl (by
    intro i hi
    obtain rfl : i = 0 := by omega
    simpa using hw) 9 Try.underlying9
  rw [h] at this
  exact this
theorem tr_str (x : Int) (κ : Nat) (h : x % 20 = (κ : Int)) : strOfNums [97 + (κ : Int)] = trKey x := by
  unfold trKey
  rw [h]
  simp [strOfNums]
def BltPost (w : World) (L : List Tr) (e : Ending) (w' : World) : Prop := ∃ b S a cap, e = .returned (.tuple #[.pointer (some ⟨b, 0, none⟩), .slice a (foldT L).all.length cap]) ∧ SW w [ixA b (foldT L).X S, rowA 43 6 (.slice a (foldT L).all.length cap) (foldT L).all.length (rowE (foldT L).all)] w'
set_option maxRecDepth 40000 in
set_option maxHeartbeats 8000000 in
theorem built28_any (a : Option Addr) (len cap : Nat) (L : List Tr) (w : World) (hl : L.length = len) (h80 : len ≤ 80) (hle : len ≤ cap) (hcap : cap ≤ maxLen) (hs : TriAt w a L) :
    Calls Try.prog 51 #[.slice a len cap] w (BltPost w L) := by
  obtain ⟨i0, hi, hz0, hz1, hz2⟩ := info_parts infoIten
  have HS := Lib.hid hs
  have HL := Lib.hid hl
  unfold maxLen at hcap
  have hlc : (len : Int) ≤ cap := by omega
  clear hs hl
  go_enter Try.func51, Try.ntmps51
  go_wp2_with fail
  refine (New_any 6 w (by decide) (by decide)).mono ?_
  rintro e w1 ⟨b, S, rfl, h1, h2, h3⟩
  have HS1 : Hid (SW w [ixA b (foldT []).X S] w1) := Lib.hid ((SW.start w).ixnew h1 h2 h3)
  clear h1 h2 h3
  go_wp2_with fail
  obtain ⟨b6, hb6⟩ : ∃ q, q = w1.heap.size := ⟨_, rfl⟩
  have HS2 : Hid (SW w [ixA b (foldT (L.take 0)).X S, rowA 43 6 (.slice none 0 0) 0 [], usA b6 (foldT (L.take 0)).us] (w1.alloc (.cells #[.int .i64 0, .int .i64 0, .int .i64 0, .int .i64 0, .int .i64 0, .int .i64 0] 33))) := Lib.hid (by
    have h1 := HS1.out.new (Gr.refl _) (A := rowA 43 6 (.slice none 0 0) 0 []) (nilRow _ _ _) (fun k hk => by cases hk)
    have h2 := h1.alloc (.cells #[.int .i64 0, .int .i64 0, .int .i64 0, .int .i64 0, .int .i64 0, .int .i64 0] 33)
    rw [← hb6] at h2
    exact h2.perm ((List.Perm.swap _ _ _).trans (((List.Perm.swap _ _ _).cons _).trans (List.Perm.swap _ _ _)) |>.trans (List.Perm.refl _)))
  rw [← hb6]
  clear hb6 HS1
  go_loopw [7, 8] (fun t7 t8 wx => ∃ (j : Nat) (S : Nat → Prop), j ≤ len ∧ t8 = .int .i64 j ∧ Hid (SW w [ixA b (foldT (L.take j)).X S, rowA 43 6 t7 (foldT (L.take j)).all.length (rowE (foldT (L.take j)).all), usA b6 (foldT (L.take j)).us] wx)) (fun _ t8 _ => len - (intOf t8).toNat)
  case atStart => exact ⟨0, S, by omega, rfl, HS2⟩
  case round =>
    obtain ⟨j, S, hj, rfl, HR⟩ := hrel
    clear HS2
    by_cases hlt : j < len
    · have hlt' : (j : Int) < len := by omega
      obtain ⟨x, hx⟩ : ∃ x, L[j]? = some x := ⟨_, List.getElem?_eq_getElem (by have := HL.out; omega)⟩
      obtain ⟨bm, off, rfl, hbm, m0, m1, m2, hok⟩ := HS.out j x hx
      have HOK := Lib.hid hok
      have hst := foldT_ok (L.take j) (by rw [List.length_take]; omega) (fun m hm => by
        obtain ⟨i, hi⟩ := List.mem_iff_getElem?.1 (List.mem_of_mem_take hm)
        obtain ⟨_, _, _, _, _, _, _, h⟩ := HS.out i m hi
        exact h)
      have hsl := foldT_len (L.take j)
      rw [List.length_take, show min j L.length = j by have := HL.out; omega] at hsl
      have HST := Lib.hid (TS.step hst (by omega) hok)
      have HST1 := Lib.hid hst
      have HNX : Hid (foldT (L.take (j + 1)) = stepT (foldT (L.take j)) x) := Lib.hid (by rw [List.take_add_one, hx]; exact foldT_snoc _ _)
      have HSL := Lib.hid hsl
      generalize foldT (L.take j) = st at *
      obtain ⟨X, all, us⟩ := st
      simp only at HSL hsl
      simp only at HR
      have e0 := HR.out.g.keep m0
      have e1 := HR.out.g.keep m1
      have e2 := HR.out.g.keep m2
      have lm : bm < wr.heap.size := Nat.lt_of_lt_of_le hbm HR.out.g.sz
      obtain ⟨x0, x1, x2⟩ := x
      simp only at e0 e1 e2
      obtain ⟨k0, k1, k2⟩ := hok
      simp only at k0 k1 k2
      obtain ⟨k0, k0'⟩ := k0
      obtain ⟨k1, k1'⟩ := k1
      obtain ⟨k2, k2'⟩ := k2
      clear m0 m1 m2 hx hst hbm hsl
      obtain ⟨σ, hσ⟩ : ∃ σ : Nat, x1 % 5 = (σ : Int) := ⟨(x1 % 5).toNat, by omega⟩
      have hσ5 : σ < 5 := by omega
      obtain ⟨κ, hκ⟩ : ∃ κ : Nat, x0 % 20 = (κ : Int) := ⟨(x0 % 20).toNat, by omega⟩
      have hκ20 : κ < 20 := by omega
      obtain ⟨γ, hγ⟩ : ∃ γ : Nat, x2 % 3 = (γ : Int) := ⟨(x2 % 3).toNat, by omega⟩
      have hγ3 : γ < 3 := by omega
      obtain ⟨δ, hδ⟩ : ∃ δ : Nat, x2 % 9 = (δ : Int) := ⟨(x2 % 9).toNat, by omega⟩
      have hδ9 : δ < 9 := by omega
      have HE : Hid (mkT ⟨X, all, us⟩ ⟨x0, x1, x2⟩ = ⟨(j : Int) + 1, trKey x0, false, σ, us σ + γ, 17 + δ⟩) := Lib.hid (by
        unfold mkT
        simp only
        rw [hσ, hγ, hδ, HSL.out])
      have HSIG := Lib.hid hσ
      have HKAP := Lib.hid hκ
      have hus := HST1.out.u (σ : Int)
      simp only at hus
      have hal := HSL.out
      have hus2 : us (σ : Int) ≤ 2160 := by omega
      have hus1 : 0 ≤ us (σ : Int) := hus.1
      clear hus hal
      have d6 := ((cellsOf (show wr.heap[b6]? = _ from HR.out.get (i := 2) rfl)).1 σ).trans (us_get us σ (by omega))
      have l6 := blkLt (show wr.heap[b6]? = _ from HR.out.get (i := 2) rfl)
      go_wp2_with fail
      have HG := Gr.refl wr.drew
      refine wp_region_flo (fun _ => False) [10] [40] (by kernel_rfl) (by kernel_rfl) (fun _ h => h.elim) ?_
      refine flo_seg 9 rfl ?_
      simp only [List.take_succ_cons, List.take_zero, List.drop_succ_cons, List.drop_zero]
      repeat (go_big_quiet_step (fail))
      refine wpQuiet_nil ?_
      refine flo_effg rfl rfl rfl (fun wg1 hgg1 K hK => ?_)
      (try replace HG := Gr.trans (Gr.trans HG (by (repeat (first | (with_reducible exact Gr.refl _) | assumption | (with_reducible apply Gr.from_drew) | (with_reducible apply Gr.alloc) | (with_reducible apply Gr.drew) | (with_reducible refine Gr.trans ?_ (by assumption)) | (with_reducible refine Gr.setCell ?_ (by omega) _))))) hgg1)
      go_wp2
      refine ⟨by (first | (refine Gr.mdh ?_ _; (repeat (first | (with_reducible exact Gr.refl _) | assumption | (with_reducible apply Gr.from_drew) | (with_reducible apply Gr.alloc) | (with_reducible apply Gr.drew) | (with_reducible refine Gr.trans ?_ (by assumption)) | (with_reducible refine Gr.setCell ?_ (by omega) _))); done) | (repeat (first | (with_reducible exact Mdh.refl _ _) | (with_reducible refine Mdh.setCell ?_ (by simp) _) | (with_reducible refine Mdh.setNew ?_ (by simp) _) | (with_reducible apply Mdh.alloc) | (with_reducible apply Mdh.from_drew) | (with_reducible apply Mdh.drew) | (with_reducible refine Mdh.gr ?_ (by assumption))))), ?_⟩
      refine flo_effg rfl rfl rfl (fun wg2 hgg2 K hK => ?_)
      (try replace HG := Gr.trans (Gr.trans HG (by (repeat (first | (with_reducible exact Gr.refl _) | assumption | (with_reducible apply Gr.from_drew) | (with_reducible apply Gr.alloc) | (with_reducible apply Gr.drew) | (with_reducible refine Gr.trans ?_ (by assumption)) | (with_reducible refine Gr.setCell ?_ (by omega) _))))) hgg2)
      have hcv := cv_key (tr_str x0 κ HKAP.out) (hgg2.keep ((cellsOf (blkNew wg1 (.cells #[.int .u8 (97 + (κ : Int))] 5))).1 0))
      go_wp2
      refine ⟨by (first | (refine Gr.mdh ?_ _; (repeat (first | (with_reducible exact Gr.refl _) | assumption | (with_reducible apply Gr.from_drew) | (with_reducible apply Gr.alloc) | (with_reducible apply Gr.drew) | (with_reducible refine Gr.trans ?_ (by assumption)) | (with_reducible refine Gr.setCell ?_ (by omega) _))); done) | (repeat (first | (with_reducible exact Mdh.refl _ _) | (with_reducible refine Mdh.setCell ?_ (by simp) _) | (with_reducible refine Mdh.setNew ?_ (by simp) _) | (with_reducible apply Mdh.alloc) | (with_reducible apply Mdh.from_drew) | (with_reducible apply Mdh.drew) | (with_reducible refine Mdh.gr ?_ (by assumption))))), ?_⟩
      refine flo_seg 21 rfl ?_
      simp only [List.take_succ_cons, List.take_zero, List.drop_succ_cons, List.drop_zero]
      repeat (go_big_quiet_step (fail))
      refine wpQuiet_nil ?_
      refine flo_float (fun b => .pointer (some ⟨b, 0, none⟩)) (.cells #[.int .i64 0, .string ⟨#[]⟩, .bool false, .int .i64 0, .int .i64 0, .int .i64 0] 43) rfl rfl (fun w => by kernel_rfl) (fun wf1 fb1 hgf1 fl1 fh1 ft1 fo1 => ?_)
      (try replace HG := Gr.trans (Gr.trans HG (by (repeat (first | (with_reducible exact Gr.refl _) | assumption | (with_reducible apply Gr.from_drew) | (with_reducible apply Gr.alloc) | (with_reducible apply Gr.drew) | (with_reducible refine Gr.trans ?_ (by assumption)) | (with_reducible refine Gr.setCell ?_ (by omega) _))))) hgf1)
      (try have fc1 := (cellsOf fo1).1)
      (try have ff1 := (cellsOf fo1).2)
      refine flo_eff rfl rfl rfl rfl (fun K hK => ?_)
      go_wp2
      refine ⟨by (first | (refine Gr.mdh ?_ _; (repeat (first | (with_reducible exact Gr.refl _) | assumption | (with_reducible apply Gr.from_drew) | (with_reducible apply Gr.alloc) | (with_reducible apply Gr.drew) | (with_reducible refine Gr.trans ?_ (by assumption)) | (with_reducible refine Gr.setCell ?_ (by omega) _))); done) | (repeat (first | (with_reducible exact Mdh.refl _ _) | (with_reducible refine Mdh.setCell ?_ (by simp) _) | (with_reducible refine Mdh.setNew ?_ (by simp) _) | (with_reducible apply Mdh.alloc) | (with_reducible apply Mdh.from_drew) | (with_reducible apply Mdh.drew) | (with_reducible refine Mdh.gr ?_ (by assumption))))), ?_⟩
      refine flo_nil ?_
      obtain ⟨W4, hW4⟩ : ∃ y, y = ((((((wf1.setCell ⟨fb1, 0, none⟩ (.int .i64 ((j : Int) + 1))).setCell ⟨fb1, 1, none⟩ (.string (trKey x0))).setCell ⟨fb1, 2, none⟩ (.bool false)).setCell ⟨fb1, 3, none⟩ (.int .i64 σ)).setCell ⟨fb1, 4, none⟩ (.int .i64 (us σ + γ))).setCell ⟨fb1, 5, none⟩ (.int .i64 (17 + (δ : Int)))) := ⟨_, rfl⟩
      obtain ⟨e, he⟩ : ∃ e, e = mkT ⟨X, all, us⟩ ⟨x0, x1, x2⟩ := ⟨_, rfl⟩
      have HEE : Hid (e = ⟨(j : Int) + 1, trKey x0, false, σ, us σ + γ, 17 + δ⟩) := Lib.hid (by rw [he, HE.out])
      have HS4 : Hid (SW w (blkA fb1 (boxF e) :: [ixA b X S, rowA 43 6 u7 all.length (rowE all), usA b6 us]) W4) := Lib.hid (by
        have h1 := HR.out.new (Gr.of_drew HG) (A := blkA fb1 (boxF ⟨0, ⟨#[]⟩, false, 0, 0, 0⟩)) fo1 (fun k hk => by rw [show k = fb1 from hk]; exact fl1)
        rw [hW4, HEE.out]
        exact h1.step (B := blkA fb1 (boxF ⟨(j : Int) + 1, trKey x0, false, σ, us σ + γ, 17 + δ⟩)) (T := fun k => k = fb1) ((((((((Mdh.refl (fun k => k = fb1) wf1).setCell (p := ⟨fb1, 0, none⟩) rfl _).setCell (p := ⟨fb1, 1, none⟩) rfl _).setCell (p := ⟨fb1, 2, none⟩) rfl _).setCell (p := ⟨fb1, 3, none⟩) rfl _).setCell (p := ⟨fb1, 4, none⟩) rfl _).setCell (p := ⟨fb1, 5, none⟩) rfl _)) (fun k hk => .inl hk) (blk6 fo1) (fun k hk => .inl hk))
      rw [← hW4]
      rw [← he] at HST
      have HNX2 : Hid (foldT (L.take (j + 1)) = ⟨addX X e, all ++ [e], upd us σ (e.off + e.size)⟩) := Lib.hid (by
        rw [HNX.out]
        unfold stepT
        simp only
        rw [HSIG.out, ← he])
      have HBD : Hid (0 ≤ e.off ∧ e.off ≤ 2200 ∧ 0 ≤ e.size ∧ e.size ≤ 25) := Lib.hid (by
        refine ⟨HST.out.2.2.2.2.1, HST.out.2.2.2.2.2, ?_, ?_⟩ <;> rw [HEE.out] <;> simp only <;> omega)
      clear hW4 he fl1 fh1 ft1 fo1 fc1 ff1 HG hgf1 d6 l6 e0 e1 e2 lm hcv hus1 hus2 HR HE HEE HNX
      generalize fb1 = b10 at *
      have d10 := (cellsOf (show W4.heap[b10]? = _ from HS4.out.get (i := 0) rfl)).1
      have l10 := blkLt (show W4.heap[b10]? = _ from HS4.out.get (i := 0) rfl)
      go_wp2_with fail
      refine (Add_any (show IXR W4 b X S from HS4.out.get (i := 1) rfl) e HST.out.2.2.1 HST.out.2.2.2.1).mono ?_
      rintro r w6 ⟨rfl, hp⟩
      obtain ⟨S6, hI6, hm6, hn6⟩ := hp
      have H6 : Hid (SW w (blkA b10 (boxF e) :: [ixA b (addX X e) S6, rowA 43 6 u7 all.length (rowE all), usA b6 us]) w6) := Lib.hid (HS4.out.at (i := 1) rfl hm6 (fun k hk => .inl hk) hI6 hn6)
      rw [HST.out.1]
      clear hI6 hm6 hn6 HS4 d10 l10
      obtain ⟨bd1, bd2, bd3, bd4⟩ := HBD.out
      have d10 := (cellsOf (show w6.heap[b10]? = _ from H6.out.get (i := 0) rfl)).1
      have l10 := blkLt (show w6.heap[b10]? = _ from H6.out.get (i := 0) rfl)
      have K6 := Lib.hid (show w6.heap[b6]? = _ from H6.out.get (i := 3) rfl)
      obtain ⟨d6, f6⟩ := cellsOf K6.out
      have l6 := blkLt K6.out
      have hN10 : ¬ b10 = b6 := fun h => (H6.out.get_ne (i := 0) (j := 3) rfl rfl (by decide)) b10 rfl h
      have h6 : (w6.setCell ⟨b6, σ, none⟩ (.int .i64 (e.off + e.size))).heap[b6]? = some (.cells #[.int .i64 (upd us σ (e.off + e.size) 0), .int .i64 (upd us σ (e.off + e.size) 1), .int .i64 (upd us σ (e.off + e.size) 2), .int .i64 (upd us σ (e.off + e.size) 3), .int .i64 (upd us σ (e.off + e.size) 4), .int .i64 (upd us σ (e.off + e.size) 5)] 33) := by
        rw [← us_set us σ (by omega) (e.off + e.size)]
        exact blkSet (j := σ) K6.out
      have H7 := Lib.hid (H6.out.at (i := 3) rfl ((Mdh.refl (fun k => k = b6) w6).setCell (p := ⟨b6, σ, none⟩) rfl (.int .i64 (e.off + e.size))) (fun k hk => .inl hk) (B := usA b6 (upd us σ (e.off + e.size))) h6 (fun k hk => .inl hk))
      clear h6
      obtain ⟨w7, hw7⟩ : ∃ y, y = w6.setCell ⟨b6, σ, none⟩ (.int .i64 (e.off + e.size)) := ⟨_, rfl⟩
      rw [← hw7] at H7
      go_upto_region 14 with fail
      rw [← hw7]
      clear hw7 K6 d6 f6 l6 hN10 d10 l10 H6
      have d10 := (cellsOf (show w7.heap[b10]? = _ from H7.out.get (i := 0) rfl)).1
      have hal : all.length ≤ 80 := by have := HSL.out; omega
      go_wp2_with (first
        | (at_builtin; go_must (refine wpList_appv _ rfl (.tmp 73) (.tmp 75) 61 rfl 43 i0 _ 6 56 Try.underlying61 hi hz0 hz1 hz2 rfl (by decide) u7 all.length (rowE all) rfl ((show Own w7 43 6 u7 all.length (rowE all) from H7.out.get (i := 2) rfl).gr (by (repeat (first | (with_reducible exact Gr.refl _) | assumption | (with_reducible apply Gr.from_drew) | (with_reducible apply Gr.alloc) | (with_reducible apply Gr.drew) | (with_reducible refine Gr.trans ?_ (by assumption)) | (with_reducible refine Gr.setCell ?_ (by omega) _))))) (some ⟨w7.heap.size, 0, none⟩) 1 1 (enC e) rfl (src_newK w7 (enC e) _ 6 rfl (enC_one e)) (by simp only [maxLen]; omega) (by omega) ?_); intro v2 w2 hA; have HAP := Lib.hid hA; clear hA)
        | fail)
      have H8 := (H7.out.gr ((Gr.refl w7).alloc (.cells (enC e).toArray 43))).at (i := 2) rfl (HAP.out.mdh (fun g h => h)) (fun k hk => .inl hk) (B := rowA 43 6 v2 (all ++ [e]).length (rowE (all ++ [e]))) (by
        show Own _ _ _ _ _ _
        rw [rowE_snoc, List.length_append]
        exact HAP.out.1) (fun k hq => HAP.out.2.1 k hq)
      refine ⟨⟨j + 1, S6, by omega, by simp, Lib.hid ?_⟩, by simp [intOf]; omega⟩
      rw [HNX2.out]
      exact H8.sub (.cons _ (List.Sublist.refl _))
    · have hlt' : ¬ (j : Int) < len := by omega
      obtain rfl : j = len := by omega
      rw [List.take_of_length_le (show L.length ≤ j by have := HL.out; omega)] at HR
      obtain ⟨a7, c7, rfl, _⟩ := ownE_at (show Own wr 43 6 u7 (foldT L).all.length (rowE (foldT L).all) from HR.out.get (i := 1) rfl)
      go_wp2
      refine bodyPost_ret (v := .tuple #[.pointer (some ⟨b, 0, none⟩), .slice a7 (foldT L).all.length c7]) ?_ rfl ⟨b, S, a7, c7, rfl, HR.out.sub (.cons_cons _ (.cons_cons _ (.cons _ (List.Sublist.refl _))))⟩
      simp [results, Try.results51, go_sem]
end Go.Proofs.Ythefpmmeoajaiaa

/- Rows of chapter 28: triples of bytes. -/
set_option linter.unusedVariables false
set_option linter.unusedSimpArgs false
namespace Go.Proofs.Ythefpmmeoajaiaa
open Go.ChangeShapes Go.WideShapes Go.Deep Go.RowKit
theorem u8t {a : Int} (h : (Lit.int .u8 a).wf = true) : 0 ≤ a ∧ a ≤ 255 := by
  simp only [Lit.wf, Bool.and_eq_true, decide_eq_true_eq] at h
  exact h
theorem u16t {a : Int} (h : (Lit.int .u16 a).wf = true) : 0 ≤ a ∧ a ≤ 65535 := by
  simp only [Lit.wf, Bool.and_eq_true, decide_eq_true_eq] at h
  exact h
theorem open_tri {H : Type} {enc : TypeId × Value → H} {w : World} {base : Nat} {spare : Nat → Bool} {held : Bool} {fuel : Nat} {a : Option Addr} {len cap : Nat} {x : DataW H × List MemPlace}
    (h : DataW.trod enc Try.prog w base spare held fuel 109 (Value.slice a len cap).cells.toList = some x) : len ≤ cap ∧ cap ≤ maxLen ∧ ∃ l : List Tr, l.length = len ∧ TriAt w a l := by
  rcases open_slice Try.underlying109 h with ⟨hcs, _⟩ | ⟨a', l, c, m, n, D, Pl, hcs, _, hl, hm, hmm, _, hi⟩
  · simp [Value.cells] at hcs
    obtain ⟨rfl, rfl, rfl⟩ := hcs
    exact ⟨by omega, by simp [maxLen], [], rfl, fun i x hx => by simp at hx⟩
  · simp [Value.cells] at hcs
    obtain ⟨rfl, rfl, rfl⟩ := hcs
    refine ⟨hl, hm, ?_⟩
    have hC : Try.prog.cellsOf 166 = 3 := by kernel_rfl
    have hE : Try.prog.cellsOf 5 = 1 := by kernel_rfl
    rw [hC] at hi
    by_cases h0 : 0 < len
    · have hml : len ≤ m := by rw [hmm]; split <;> omega
      have hel : ∀ i, i < len → ∃ c0 c1 c2 : Int, w.cell? ((a'.add (i * 3)).add 0) = some (.int .u8 c0) ∧ w.cell? ((a'.add (i * 3)).add 1) = some (.int .u8 c1) ∧ w.cell? ((a'.add (i * 3)).add 2) = some (.int .u8 c2) ∧ (0 ≤ c0 ∧ c0 ≤ 255) ∧ (0 ≤ c1 ∧ c1 ≤ 255) ∧ (0 ≤ c2 ∧ c2 ≤ 255) := fun i hil => by
        obtain ⟨cs', hc, ht'⟩ := hi i (by omega)
        obtain ⟨_, hcl, hat⟩ := World.cells?_some hc
        match cs', hcl with
        | [c0, c1, c2], _ =>
          obtain ⟨y0, y1, y2, n', _, t0, t1, t2⟩ := trod_array3 Try.underlying166 hE ht'
          obtain ⟨x0, e0, _, w0⟩ := DataW.trod_int Try.underlying5 t0
          obtain ⟨x1, e1, _, w1⟩ := DataW.trod_int Try.underlying5 t1
          obtain ⟨x2, e2, _, w2⟩ := DataW.trod_int Try.underlying5 t2
          obtain rfl := List.cons.inj e0 |>.1
          obtain rfl := List.cons.inj e1 |>.1
          obtain rfl := List.cons.inj e2 |>.1
          exact ⟨x0, x1, x2, hat 0 (by omega), hat 1 (by omega), hat 2 (by omega), u8t w0, u8t w1, u8t w2⟩
      have hsp : a'.spot = none := by
        obtain ⟨c0, _, _, hc, _⟩ := hel 0 h0
        rw [Nat.zero_mul] at hc
        have : (a'.add 0).spot = none := spot_add hc
        simpa [Addr.add] using this
      have hadd : ∀ i j, (a'.add (i * 3)).add j = a'.add (i * 3 + j) := fun i j => by
        obtain ⟨b, o, s⟩ := a'
        simp only at hsp
        subst hsp
        rw [addr_add, addr_add, addr_add, Nat.add_assoc]
      obtain ⟨l, hl1, hl2⟩ := list_of len (⟨0, 0, 0⟩ : Tr) (fun i t => w.cell? ⟨a'.block, a'.off + i * 3, none⟩ = some (.int .u8 t.a) ∧ w.cell? ⟨a'.block, a'.off + i * 3 + 1, none⟩ = some (.int .u8 t.b) ∧ w.cell? ⟨a'.block, a'.off + i * 3 + 2, none⟩ = some (.int .u8 t.c) ∧ a'.block < w.heap.size ∧ t.Ok) (fun i hil => by
        obtain ⟨x0, x1, x2, c0, c1, c2, w0, w1, w2⟩ := hel i hil
        rw [hadd] at c0 c1 c2
        obtain ⟨hb, d0⟩ := at_add c0 hsp
        exact ⟨⟨x0, x1, x2⟩, d0, (at_add c1 hsp).2, (at_add c2 hsp).2, hb, w0, w1, w2⟩)
      refine ⟨l, hl1, fun i x hx => ?_⟩
      obtain ⟨hlt, rfl⟩ := List.getElem?_eq_some_iff.1 hx
      obtain ⟨c0, c1, c2, hb, h4⟩ := hl2 i (by omega)
      rw [hx] at c0 c1 c2 h4
      exact ⟨_, _, by obtain ⟨b, o, s⟩ := a'; simp_all, hb, c0, c1, c2, h4⟩
    · obtain rfl : len = 0 := by omega
      exact ⟨[], rfl, fun i x hx => by simp at hx⟩
end Go.Proofs.Ythefpmmeoajaiaa

/- A row of bytes that lies somewhere. -/
set_option linter.unusedVariables false
set_option linter.unusedSimpArgs false
namespace Go.Proofs.Ythefpmmeoajaiaa
open Go.ChangeShapes Go.WideShapes Go.Deep Go.RowKit
/-- The bytes of a list lie at a. -/
def BytAt (w : World) (a : Option Addr) (l : List Int) : Prop :=
  ∀ i x, l[i]? = some x → ∃ b off, a = some ⟨b, off, none⟩ ∧ b < w.heap.size ∧ w.cell? ⟨b, off + i, none⟩ = some (.int .u8 x) ∧ 0 ≤ x ∧ x ≤ 255
theorem open_u8s {H : Type} {enc : TypeId × Value → H} {w : World} {base : Nat} {spare : Nat → Bool} {held : Bool} {fuel : Nat} {a : Option Addr} {len cap : Nat} {x : DataW H × List MemPlace}
    (h : DataW.trod enc Try.prog w base spare held fuel 101 (Value.slice a len cap).cells.toList = some x) : len ≤ cap ∧ cap ≤ maxLen ∧ ∃ l : List Int, l.length = len ∧ BytAt w a l := by
  rcases open_ints Try.underlying101 Try.underlying5 (by kernel_rfl) h with ⟨hcs, _⟩ | ⟨a', l, c, zs, hcs, _, hl, hm, hz, _, hcell, hwz⟩
  · simp [Value.cells] at hcs
    obtain ⟨rfl, rfl, rfl⟩ := hcs
    exact ⟨by omega, by simp [maxLen], [], rfl, fun i x hx => by simp at hx⟩
  · simp [Value.cells] at hcs
    obtain ⟨rfl, rfl, rfl⟩ := hcs
    have hlz : len ≤ zs.length := by rw [hz]; split <;> omega
    refine ⟨hl, hm, zs.take len, by rw [List.length_take]; omega, fun i x hx => ?_⟩
    have hi : i < len := by
      have := (List.getElem?_eq_some_iff.1 hx).1
      rw [List.length_take] at this
      omega
    rw [List.getElem?_take, if_pos hi] at hx
    have hc := hcell i (by omega)
    rw [List.getD_eq_getElem?_getD, hx, Option.getD_some] at hc
    have hsp : a'.spot = none := spot_add (hcell 0 (by omega))
    obtain ⟨hb, d0⟩ := at_add hc hsp
    exact ⟨_, _, by obtain ⟨b, o, s⟩ := a'; simp_all, hb, d0, u8t (hwz x (List.mem_of_getElem? hx))⟩
end Go.Proofs.Ythefpmmeoajaiaa

/- LivenessKeeps: the walk. -/
set_option linter.unusedVariables false
set_option linter.unusedSimpArgs false
namespace Go.Proofs.Ythefpmmeoajaiaa
open Go.RowKit Go.Shelf Go.Maps
attribute [local go_sem] OvM cell_ovm obj_ovm
attribute [local go_sem] Oper.semAt_some

theorem infoNk : (Try.prog.info? 3).map (fun i => (i.zero, i.size, i.bytes)) = some (some (.int .i64 0), 1, 8) := by kernel_rfl
abbrev kpL (b mb bw nw : Nat) (v : Value) (us : Int → Int) (sq : Int) (S : Nat → Prop) (X : IX) (want : List SqI) (R : List Asn) : List Asn := ixA b X S :: blkA mb (bdO b v us sq) :: gsA bw nw want :: R
set_option maxRecDepth 40000 in
set_option maxHeartbeats 16000000 in
theorem LivenessKeeps_any (a : Option Addr) (len cap : Nat) (L : List Ac) (a1 : Option Addr) (len1 cap1 : Nat) (B : List Int) (w : World) (hl : L.length = len) (hle : len ≤ cap) (hcap : cap ≤ maxLen) (hs : ActAt w a L)
    (hl1 : B.length = len1) (hle1 : len1 ≤ cap1) (hcap1 : cap1 ≤ maxLen) (hs1 : BytAt w a1 B) :
    Calls Try.prog 10 #[.slice a len cap, .slice a1 len1 cap1] w fun e w' => e = .returned (.bool true) ∧ Gr w w' := by
  by_cases h80 : 80 < len
  · have h80' : (80 : Int) < len := by omega
    clear hs hl hs1 hl1
    go_enter Try.func10, Try.ntmps10
    go_wp2_with (go_at_call 36; refine (lv_works _).mono ?_; rintro e w1 ⟨rfl, hg⟩; have HG := Lib.hid hg; clear hg)
    go_ret
    exact ⟨rfl, HG.out⟩
  have h80' : ¬ (80 : Int) < len := by omega
  by_cases h20 : 20 < len1
  · have h20' : (20 : Int) < len1 := by omega
    clear hs hl hs1 hl1
    go_enter Try.func10, Try.ntmps10
    go_wp2_with (go_at_call 36; refine (lv_works _).mono ?_; rintro e w1 ⟨rfl, hg⟩; have HG := Lib.hid hg; clear hg)
    go_ret
    exact ⟨rfl, HG.out⟩
  have h20' : ¬ (20 : Int) < len1 := by omega
  have hfo := foldA_ok len L hl (by omega) (actOk hs)
  have HK0 := Lib.hid (build_KI hfo.1 hfo.2)
  have HC := Lib.hid (build24_any a len cap L w hl (by omega) hle hcap hs)
  have HB := Lib.hid hs1
  have HBL := Lib.hid hl1
  obtain ⟨i0, hi, hz0, hz1, hz2⟩ := info_parts infoNk
  clear hs hl hs1 hl1 hfo
  go_enter Try.func10, Try.ntmps10
  go_wp2_with fail
  refine Calls.mono HC.out ?_
  rintro e w1 ⟨b, mb, v, S, rfl, hs⟩
  have H1 := Lib.hid hs
  clear hs HC
  generalize foldA L = st at *
  obtain ⟨X, all, us, sq⟩ := st
  simp only at HK0 H1
  generalize liveM X = want at *
  have dm0 := ((cellsOf (show w1.heap[mb]? = _ from H1.out.get (i := 1) rfl)).1 0).trans (show _ = some (Value.pointer (some ⟨b, 0, none⟩)) from rfl)
  go_wp2_with fail
  refine (live24_any (show IXR w1 b X S from H1.out.get (i := 0) rfl)).mono ?_
  rintro e w2 ⟨bw, nw, rfl, hg, hgs, hbn⟩
  rw [HK0.out.lv] at hgs
  have H2 : Hid (SW w (kpL b mb bw nw v us sq S X want []) w2) := Lib.hid (((H1.out.new hg (A := gsA bw nw want) hgs (fun k hk => by rw [show k = bw from hk]; exact hbn)).sel [1, 2, 0] (by decide) rfl))
  clear hg hgs hbn H1 dm0
  go_wp2_with fail
  go_loopw [8] (fun t8 wx => ∃ (j : Nat) (X : IX) (S : Nat → Prop), j ≤ len1 ∧ t8 = .int .i64 j ∧ Hid (KI X want) ∧ Hid (SW w (kpL b mb bw nw v us sq S X want []) wx)) (fun t8 _ => len1 - (intOf t8).toNat)
  case atStart => exact ⟨0, X, S, by omega, rfl, HK0, H2⟩
  case round =>
    obtain ⟨j, X, S, hj, rfl, HK, HR⟩ := hrel
    clear H2 HK0
    by_cases hlt : j < len1
    · have hlt' : (j : Int) < len1 := by omega
      obtain ⟨x, hx⟩ : ∃ x, B[j]? = some x := ⟨_, List.getElem?_eq_getElem (by have := HBL.out; omega)⟩
      obtain ⟨b1, off, rfl, hb1, m0, hx0, hx1⟩ := HB.out j x hx
      clear hx
      go_wp2_with fail
      go_loopw [9, 10] (fun t9 t10 wx => ∃ (s : Nat) (vf : Value), s ≤ 6 ∧ vf = t9 ∧ t10 = .int .i64 s ∧ Hid (SW w (kpL b mb bw nw v us sq S X want [rowA 3 1 vf (freeL X s).length (kN (freeL X s))]) wx)) (fun _ t10 _ => 6 - (intOf t10).toNat)
      case atStart => exact ⟨0, _, by omega, rfl, rfl, Lib.hid ((HR.out.new (Gr.refl _) (A := rowA 3 1 (.slice none 0 0) 0 []) (nilRow _ _ _) (fun k hk => by cases hk)).sel [1, 2, 3, 0] (by decide) rfl)⟩
      case round =>
        obtain ⟨s, vf, hs6, rfl, rfl, HI⟩ := hrel
        clear HR
        have dm0 := ((cellsOf (show wr.heap[mb]? = _ from HI.out.get (i := 1) rfl)).1 0).trans (show _ = some (Value.pointer (some ⟨b, 0, none⟩)) from rfl)
        by_cases hl6 : s < 6
        · have hl6' : (s : Int) < 6 := by omega
          have HFS := Lib.hid (free_succ X s)
          have HFN := Lib.hid (free_le X s)
          have HRD := Lib.hid (Redundant_any (.inl ⟨b, rfl, (show IXR wr b X S from HI.out.get (i := 0) rfl)⟩) (s : Int))
          rw [show decide (keepC X (s : Int) = 0 ∧ keepL X (s : Int) = []) = redS X (s : Int) from rfl, HK.out.code hl6] at HRD
          cases hr : redS X (s : Int) with
          | false =>
            rw [hr] at HRD
            rw [hr, if_neg (by decide), List.append_nil] at HFS
            clear hr
            go_wp2_with fail
            refine Calls.mono HRD.out ?_
            rintro e w3 ⟨rfl, hg⟩
            have H3 := Lib.hid (HI.out.gr hg)
            clear hg dm0 HI HRD
            go_wp2_with fail
            go_roundw
            case rel => exact ⟨s + 1, _, by omega, rfl, by go_num, by rw [HFS.out]; exact H3⟩
            case measure => simp [intOf]; omega
          | true =>
            rw [hr] at HRD
            rw [hr, if_pos rfl] at HFS
            clear hr
            go_wp2_with fail
            refine Calls.mono HRD.out ?_
            rintro e w3 ⟨rfl, hg⟩
            have H3 := Lib.hid (HI.out.gr hg)
            clear hg dm0 HI HRD
            generalize freeL X s = fl at *
            have HO := Lib.hid (show Own w3 3 1 vf fl.length (kN fl) from H3.out.get (i := 3) rfl)
            have hfn := HFN.out
            go_wp2_with (first
              | (at_builtin; go_must (refine wpList_appv _ rfl (.tmp 58) (.tmp 60) 104 rfl 3 i0 _ 1 8 Try.underlying104 hi hz0 hz1 hz2 rfl (by decide) vf fl.length (kN fl) rfl (HO.out.gr (by (repeat (first | (with_reducible exact Gr.refl _) | assumption | (with_reducible apply Gr.from_drew) | (with_reducible apply Gr.alloc) | (with_reducible apply Gr.drew) | (with_reducible refine Gr.trans ?_ (by assumption)) | (with_reducible refine Gr.setCell ?_ (by omega) _))))) (some ⟨w3.heap.size, 0, none⟩) 1 1 [.int .i64 s] rfl (src_newK w3 [.int .i64 s] _ 1 rfl (by simp [Value.oneCell'])) (by simp only [maxLen]; omega) (by omega) ?_); intro v4 w4 hA; have HA4 := Lib.hid hA; clear hA)
              | fail)
            have H4 : Hid (SW w (kpL b mb bw nw v us sq S X want [rowA 3 1 v4 (fl ++ [(s : Int)]).length (kN (fl ++ [(s : Int)]))]) w4) := Lib.hid (((H3.out.gr ((Gr.refl w3).alloc _)).at (i := 3) rfl (HA4.out.mdh (fun g h => h)) (fun k hk => .inl hk) (B := rowA 3 1 v4 (fl ++ [(s : Int)]).length (kN (fl ++ [(s : Int)]))) (by
              show Own _ _ _ _ _ _
              rw [kN_snoc, List.length_append]
              exact HA4.out.1) (fun k hq => HA4.out.2.1 k hq)))
            clear HA4 H3 HO
            go_roundw
            case rel => exact ⟨s + 1, _, by omega, rfl, by go_num, by rw [HFS.out]; exact H4⟩
            case measure => simp [intOf]; omega
        · have hl6' : ¬ (s : Int) < 6 := by omega
          obtain rfl : s = 6 := by omega
          obtain ⟨l, hfl⟩ := HK.out.last
          have HFR : Hid (∀ s ∈ freeL X 6, redS X s = true ∧ 0 ≤ s ∧ s < (6 : Nat)) := Lib.hid (fun s h => free_red h)
          have HFL := Lib.hid hfl
          rw [hfl] at HI HFR
          have HKD : Hid (∀ s : Nat, s < 6 → dropC X (s : Int) = 0) := Lib.hid (fun s h => HK.out.dcode h)
          clear hfl
          have hln : (l ++ [(5 : Int)]).length = l.length + 1 := by simp
          rw [hln] at HI
          obtain ⟨m, hm⟩ : ∃ m, m = l.length := ⟨_, rfl⟩
          rw [← hm] at HI hln
          have hm5 : m + 1 ≤ 6 := by
            have := free_le X 6
            rw [HFL.out, hln] at this
            exact this
          obtain ⟨av, cv, hv, hcv, hmv, hat⟩ := ownN_at (l := l ++ [5]) (show Own wr 3 1 vf (l ++ [(5 : Int)]).length (kN (l ++ [(5 : Int)])) by rw [hln]; exact HI.out.get (i := 3) rfl)
          rw [hln] at hv hcv
          subst hv
          unfold maxLen at hmv
          have g1 := Int.emod_lt_of_pos x (show (0 : Int) < ((m + 1 : Nat) : Int) by omega)
          have g2 := Int.emod_nonneg x (show ((m + 1 : Nat) : Int) ≠ 0 by omega)
          obtain ⟨ι, hι⟩ : ∃ ι : Nat, x % ((m + 1 : Nat) : Int) = (ι : Int) := ⟨(x % ((m + 1 : Nat) : Int)).toNat, by omega⟩
          have hιm : ι < m + 1 := by omega
          have hι' : x % ((m : Int) + 1) = (ι : Int) := by rw [← hι]; rfl
          have hιm' : (ι : Int) < (m : Int) + 1 := by omega
          have hιm2 : (ι : Int) < ((m + 1 : Nat) : Int) := by omega
          obtain ⟨y, hy⟩ : ∃ y, (l ++ [(5 : Int)])[ι]? = some y := ⟨_, List.getElem?_eq_getElem (by rw [hln]; exact hιm)⟩
          obtain ⟨g, rfl, hgl, _, cy⟩ := hat ι y hy
          obtain ⟨_, hg', _, _, c5⟩ := hat m 5 (by rw [hm]; simp)
          cases hg'
          have hyr := HFR.out y (List.mem_of_getElem? hy)
          obtain ⟨σ, rfl⟩ : ∃ σ : Nat, y = (σ : Int) := ⟨y.toNat, by omega⟩
          have HDC := Lib.hid (HKD.out σ (by omega))
          have HKX := Lib.hid (HK.out.drop hyr.1)
          have e0 := HI.out.g.keep m0
          have lb1 : b1 < wr.heap.size := Nat.lt_of_lt_of_le hb1 HI.out.g.sz
          clear hat hy hyr hm HFR HKD HFL g1 g2
          have HIX : IXR wr b X S := HI.out.get (i := 0) rfl
          have HDR := Lib.hid (Drop_any (HIX.gr (Gr.refl wr).drew) (σ : Int))
          rw [HDC.out] at HDR
          have HSL := Lib.hid (fun k (hk : S k) => HIX.lt k hk)
          have hN1 : ¬ S mb := fun h => (HI.out.get_ne (i := 0) (j := 1) rfl rfl (by decide)) mb h rfl
          have hN2 : ¬ S g := fun h => (HI.out.get_ne (i := 0) (j := 3) rfl rfl (by decide)) g h rfl
          have hN3 : ¬ S b1 := fun h => by have := HI.out.n _ (List.mem_cons_self ..) b1 h; omega
          clear HIX
          go_wp2_with fail
          refine wp_region_flo (S) [] [] (by kernel_rfl) (by kernel_rfl) (HSL.out) ?_
          refine flo_seg 15 rfl ?_
          simp only [List.take_succ_cons, List.take_zero, List.drop_succ_cons, List.drop_zero]
          repeat (go_big_quiet_step (fail))
          refine wpQuiet_nil ?_
          refine flo_eff rfl rfl rfl rfl (fun K hK => ?_)
          go_wp2_with ((go_at_call 35; refine Calls.mono HDR.out ?_; rintro e' w8 ⟨rfl, S8, hI8, hm8, hn8⟩; have HI8 := Lib.hid hI8; have HM8 := Lib.hid hm8; have HN8 := Lib.hid hn8; clear hI8 hm8 hn8))
          refine ⟨by exact HM8.out.mono (fun k hk => .inl hk), ?_⟩
          refine flo_seg 5 rfl ?_
          simp only [List.take_succ_cons, List.take_zero, List.drop_succ_cons, List.drop_zero]
          repeat (go_big_quiet_step (fail))
          refine wpQuiet_nil ?_
          refine flo_nil ?_
          have H8 : Hid (SW w (kpL b mb bw nw v us sq S8 (dropX X (σ : Int)) want []) w8) := Lib.hid (((HI.out.gr (Gr.refl wr).drew).at (i := 0) rfl HM8.out (fun k hk => .inl hk) (B := ixA b (dropX X (σ : Int)) S8) HI8.out HN8.out).sel [0, 1, 2] (by decide) rfl)
          clear dm0 e0 cy c5 HM8 HN8 HI8 HSL HDR hN1 hN2 hN3 HI lb1 hgl hcv hmv
          have dm0 := ((cellsOf (show w8.heap[mb]? = _ from H8.out.get (i := 1) rfl)).1 0).trans (show _ = some (Value.pointer (some ⟨b, 0, none⟩)) from rfl)
          go_wp2_with (first
            | (go_at_call 47; refine (live24_any (show IXR w8 b _ S8 from H8.out.get (i := 0) rfl)).mono ?_; rintro e w9 ⟨bm, nm, rfl, hg, hgs, _⟩; rw [HKX.out.lv] at hgs; have H9 := Lib.hid (H8.out.gr hg); have HGS := Lib.hid hgs; clear hg hgs)
            | (go_at_call 48; refine (equal24 bm bw nm nw want _ HGS.out (show GS w9 bw nw want from H9.out.get (i := 2) rfl)).mono ?_; rintro e w10 ⟨rfl, hg⟩; have H10 := Lib.hid (H9.out.gr hg); clear hg)
            | fail)
          go_roundw
          case rel => exact ⟨j + 1, dropX X (σ : Int), S8, by omega, by go_num, HKX, H10⟩
          case measure => simp [intOf]; omega
    · have hlt' : ¬ (j : Int) < len1 := by omega
      go_wp2_with (go_at_call 36; refine (lv_works _).mono ?_; rintro e w8 ⟨rfl, hg⟩; have HG := Lib.hid (HR.out.g.trans hg); clear hg)
      go_ret
      exact ⟨rfl, HG.out⟩
end Go.Proofs.Ythefpmmeoajaiaa
