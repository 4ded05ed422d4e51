/- The map of an index by its numbers; LivenessKeeps in plain Lean. No walk. -/
import Derived.Test.YthefpmmeoajaiaaBd13
import Derived.Test.YthefpmmeoajaiaaBd15
import Derived.Test.YthefpmmeoajaiaaBd7
import Derived.Test.YthefpmmeoajaiaaBd14
import Derived.Test.YthefpmmeoajaiaaBd12
set_option linter.unusedVariables false
set_option linter.unusedSimpArgs false
namespace Go.Proofs.Ythefpmmeoajaiaa

def livF (X : IX) (l : List ByteArray) : List (ByteArray × Int) := l.filterMap (fun k => (findE X k).map (fun e => (k, e.seq)))
def liveM (X : IX) : List (ByteArray × Int) := livF X X.ks
theorem livF_none {X : IX} {l : List ByteArray} {k : ByteArray} (h : findE X k = none) : livF X (l ++ [k]) = livF X l := by simp [livF, h]
theorem livF_some {X : IX} {l : List ByteArray} {k : ByteArray} {e : En} (h : findE X k = some e) : livF X (l ++ [k]) = livF X l ++ [(k, e.seq)] := by simp [livF, h]
theorem livF_srt {X : IX} {l : List ByteArray} (h : l.Pairwise (fun a b => ltS a b = true)) : Srt ltS (livF X l) := by
  refine List.pairwise_filterMap.2 (h.imp (fun {a b} hab x hx y hy => ?_))
  obtain ⟨e, _, rfl⟩ := Option.map_eq_some_iff.1 hx
  obtain ⟨e', _, rfl⟩ := Option.map_eq_some_iff.1 hy
  exact hab
def seqK (X : IX) (k : ByteArray) : Option Int := (findE X k).map (fun e => e.seq)
theorem livF_map (X : IX) (l : List ByteArray) : livF X l = (l.filter (fun k => (findE X k).isSome)).map (fun k => (k, (seqK X k).getD 0)) := by
  induction l with
  | nil => rfl
  | cons k l ih =>
    unfold livF seqK at *
    rw [List.filterMap_cons, List.filter_cons]
    cases hf : findE X k with
    | none => simpa using ih
    | some e =>
      simp only [Option.map_some, Option.isSome_some, if_true, List.map_cons, hf, Option.getD_some]
      rw [ih]
theorem liveM_eq {X Y : IX} (hX : X.Wf) (hY : Y.Wf) (h : ∀ k, seqK Y k = seqK X k) : liveM Y = liveM X := by
  have hs : ∀ k, (findE Y k).isSome = (findE X k).isSome := fun k => by
    have := congrArg Option.isSome (h k)
    unfold seqK at this
    simpa using this
  have e1 : lvK Y = lvK X := keys_eq (lvK_srt hY) (lvK_srt hX) (fun k => by rw [lvK_mem hY, lvK_mem hX, hs k])
  unfold liveM
  rw [livF_map, livF_map, show Y.ks.filter (fun k => (findE Y k).isSome) = lvK Y from rfl, e1]
  exact List.map_congr_left (fun k _ => by rw [h k])
/-- What is newest of a key, and what is left of it where a slot of no needed entries is gone. -/
theorem drop_seqK {X : IX} (h : X.Wf) {s : Int} (hk : ∀ e ∈ X.slot s, X.needs e = false) (k : ByteArray) : seqK (dropX X s) k = seqK X k := by
  have hof := drop_of h s k
  have hp := h.ofPair k
  have hall := h.of_mem k
  unfold seqK
  cases hl : X.of k with
  | nil =>
    rw [hl, List.filter_nil] at hof
    unfold findE
    rw [hof, hl]
  | cons y t =>
    rw [hl] at hof hp hall
    have hy := (hall y).1 (List.mem_cons_self ..)
    rw [List.filter_cons] at hof
    by_cases hs : y.slot = s
    · rw [if_neg (by simp [hs])] at hof
      have h1 := hk y ((h.slot_mem s y).2 ⟨hy.1, hs⟩)
      unfold IX.needs at h1
      rw [hy.2, hl] at h1
      have hd1 : ∀ z ∈ t, z.seq < y.seq ∨ z.seq = y.seq := fun z hz => by
        have := (List.pairwise_cons.1 hp).1 z hz
        unfold ltE at this
        have := of_decide_eq_true this
        omega
      have n1 : ¬ (y :: t).any (nd1 y) = true := by
        rw [List.any_eq_true]
        rintro ⟨z, hz, h2⟩
        have h3 : y.seq < z.seq := of_decide_eq_true h2
        rcases List.mem_cons.1 hz with rfl | hz
        · omega
        · have := hd1 z hz; omega
      rw [if_neg n1] at h1
      by_cases n2 : (y :: t).any (nd2 y) = true
      · obtain ⟨o, ho, h2⟩ := List.any_eq_true.1 n2
        have h2 : o.seq = y.seq ∧ o.slot ≠ y.slot := of_decide_eq_true h2
        have ht : o ∈ t := by
          rcases List.mem_cons.1 ho with rfl | h4
          · exact absurd rfl h2.2
          · exact h4
        have h3 : o ∈ t.filter (fun o => decide (o.slot ≠ s)) := List.mem_filter.2 ⟨ht, decide_eq_true (fun h => h2.2 (h.trans hs.symm))⟩
        cases hf : t.filter (fun o => decide (o.slot ≠ s)) with
        | nil => rw [hf] at h3; cases h3
        | cons z u =>
          rw [hf] at h3 hof
          have hz : z ∈ t := (List.mem_filter.1 (show z ∈ t.filter (fun o => decide (o.slot ≠ s)) by rw [hf]; exact List.mem_cons_self ..)).1
          have hza := (hall z).1 (List.mem_cons_of_mem _ hz)
          have hpt : (z :: u).Pairwise (fun a b => ltE a b = true) := by rw [← hf]; exact (List.pairwise_cons.1 hp).2.sublist List.filter_sublist
          have hq : z.seq = y.seq := by
            have h5 := hd1 z hz
            rcases List.mem_cons.1 h3 with h4 | h4
            · rw [← h4]; exact h2.1
            · have h6 := (List.pairwise_cons.1 hpt).1 o h4
              unfold ltE at h6
              have h7 := of_decide_eq_true h6
              omega
          have hc := h.c z hza.1 y hy.1 (hza.2.trans hy.2.symm) hq
          unfold findE
          rw [hof, hl]
          simp only
          rw [hc.1]
          cases y.del
          · exact congrArg some hq
          · rfl
      · rw [if_neg n2] at h1
        have hdel : y.del = true := by
          cases hd : y.del
          · rw [hd, if_pos rfl] at h1; cases h1
          · rfl
        rw [hdel, if_neg (by decide)] at h1
        have hnil : t.filter (fun o => decide (o.slot ≠ s)) = [] := by
          refine List.filter_eq_nil_iff.2 (fun z hz hzs => ?_)
          have hzs : z.slot ≠ s := of_decide_eq_true hzs
          have hzy : z.slot ≠ y.slot := fun e => hzs (e.trans hs)
          rcases hd1 z hz with h5 | h5
          · have : (y :: t).any (nd3 y) = true := List.any_eq_true.2 ⟨z, List.mem_cons_of_mem _ hz, decide_eq_true ⟨h5, hzy⟩⟩
            rw [this] at h1
            cases h1
          · exact n2 (List.any_eq_true.2 ⟨z, List.mem_cons_of_mem _ hz, decide_eq_true ⟨h5, hzy⟩⟩)
        rw [hnil] at hof
        unfold findE
        rw [hof, hl]
        simp only
        rw [hdel]
        rfl
    · rw [if_pos (by simp [hs])] at hof
      unfold findE
      rw [hof, hl]
theorem drop_liveM {X : IX} (h : X.Wf) {s : Int} (hk : ∀ e ∈ X.slot s, X.needs e = false) : liveM (dropX X s) = liveM X := liveM_eq h (drop_wf h s) (drop_seqK h hk)
theorem drop_len (X : IX) (s : Int) : (dropX X s).slots.length = X.slots.length := by
  unfold dropX
  split
  · simp
  · rfl
/-- An index of six slots, of which the last has no entries. -/
structure KI (X : IX) (m : List (ByteArray × Int)) : Prop where
  wf : X.Wf
  ln : X.slots.length = 6
  e5 : X.slot 5 = []
  lv : liveM X = m
def redS (X : IX) (s : Int) : Bool := decide (keepC X s = 0 ∧ keepL X s = [])
def freeL (X : IX) (n : Nat) : List Int := ((List.range n).map (fun i : Nat => (i : Int))).filter (redS X)
section
variable {X : IX} {m : List (ByteArray × Int)}
theorem KI.ne (h : KI X m) : X.slots ≠ [] := fun h0 => by have := h.ln; rw [h0] at this; cases this
theorem KI.code (h : KI X m) {s : Nat} (hs : s < 6) : keepC X s = 0 := by
  unfold keepC
  rw [if_neg h.ne, if_neg]
  unfold IX.has
  rw [h.ln]
  simp
  omega
theorem KI.dcode (h : KI X m) {s : Nat} (hs : s < 6) : dropC X s = 0 := by
  have := h.ne
  unfold dropC
  simp [IX.has, h.ln, this]
  omega
theorem KI.red5 (h : KI X m) : redS X 5 = true := decide_eq_true ⟨h.code (s := 5) (by omega), by unfold keepL; rw [h.e5]; rfl⟩
theorem KI.drop (h : KI X m) {s : Int} (hs : redS X s = true) : KI (dropX X s) m := by
  have h1 := (of_decide_eq_true hs).2
  refine ⟨drop_wf h.wf s, by rw [drop_len, h.ln], ?_, ?_⟩
  · rw [drop_slot h.wf]; split
    · rfl
    · exact h.e5
  · rw [drop_liveM h.wf, h.lv]
    intro e he
    cases hn : X.needs e with
    | false => rfl
    | true =>
      have : e ∈ keepL X s := List.mem_filter.2 ⟨he, hn⟩
      rw [h1] at this
      cases this
theorem free_succ (X : IX) (n : Nat) : freeL X (n + 1) = freeL X n ++ (if redS X n = true then [(n : Int)] else []) := by
  unfold freeL
  rw [List.range_succ, List.map_append, List.filter_append]
  simp only [List.map_cons, List.map_nil, List.filter_cons, List.filter_nil]
theorem free_le (X : IX) (n : Nat) : (freeL X n).length ≤ n := by
  unfold freeL
  have := List.length_filter_le (redS X) ((List.range n).map (fun i : Nat => (i : Int)))
  simpa using this
theorem free_red {X : IX} {n : Nat} {s : Int} (h : s ∈ freeL X n) : redS X s = true ∧ 0 ≤ s ∧ s < n := by
  have h1 := List.mem_filter.1 h
  obtain ⟨i, hi, rfl⟩ := List.mem_map.1 h1.1
  have := List.mem_range.1 hi
  exact ⟨h1.2, by omega, by omega⟩
theorem KI.last (h : KI X m) : ∃ l, freeL X 6 = l ++ [5] := by
  refine ⟨freeL X 5, ?_⟩
  rw [free_succ, if_pos]
  · rfl
  · exact h.red5
end
theorem build_KI {st : LS} {j : Nat} (h : st.Ok j) (h5 : ∀ e ∈ st.all, e.slot < 5) : KI st.X (liveM st.X) := by
  refine ⟨h.g.wf, by have := h.g.ln; omega, ?_, rfl⟩
  cases hl : st.X.slot 5 with
  | nil => rfl
  | cons e t =>
    have h1 := (h.g.slot 5 e).1 (by rw [hl]; simp)
    have := h5 e h1.1
    omega
end Go.Proofs.Ythefpmmeoajaiaa

/- drumlinlaw24.live: the walk. -/
set_option linter.unusedVariables false
set_option linter.unusedSimpArgs false
namespace Go.Proofs.Ythefpmmeoajaiaa
open Go.RowKit Go.Shelf Go.Maps
attribute [local go_sem] OvM cell_ovm obj_ovm
attribute [local go_sem] Oper.semAt_some

set_option maxRecDepth 40000 in
theorem yieldsS24_any (gf : Nat) (lb : Array Value) (w : World) : Calls Try.prog 103 #[.func (.func gf) #[] lb] w fun e w' => e = .returned (.func (.func gf) #[] lb) ∧ w = w' := by
  have k1 : ∀ w : World, (binOp .eql 146 (.func (.func gf) #[] lb) .nilFunc).run Try.prog w = .ok (.bool false) w := fun w => by kernel_rfl
  go_enter Try.func103, Try.ntmps103
  go_wp2
  go_ret
  exact ⟨rfl, rfl⟩
def LivP (X : IX) (w : World) (e : Ending) (w' : World) : Prop := ∃ bm n, e = .returned (.map (some bm)) ∧ Gr w w' ∧ GS w' bm n (liveM X) ∧ w.heap.size ≤ bm

theorem find_head {X : IX} (h : X.Wf) {k : ByteArray} (hk : k ∈ X.ks) : ∃ y, newV (X.of k) = .tuple #[enV y, .bool true] ∧ findE X k = (if y.del = true then none else some y) ∧ y.key = k ∧ validE y = true := by
  have hne := (mem_ks h k).1 hk
  cases ho : X.of k with
  | nil => exact absurd ho hne
  | cons y t =>
    refine ⟨y, rfl, by unfold findE; rw [ho], ?_⟩
    have hm := (h.of_mem k y).1 (by rw [ho]; simp)
    exact ⟨hm.2, (h.valid hm.1).1⟩
abbrev lvB (bm b1 n : Nat) (p : Option Addr) (L : List SqI) : List Asn := [blkA (bm + 1) (.cells #[.map (some bm)] 102), gsA bm n L, blkA b1 (.cells #[.pointer p] 32)]
set_option maxRecDepth 40000 in
set_option maxHeartbeats 8000000 in
theorem live24_any {w : World} {b : Nat} {X : IX} {S : Nat → Prop} (h : IXR w b X S) : Calls Try.prog 47 #[.pointer (some ⟨b, 0, none⟩)] w (LivP X w) := by
  have H := Lib.hid (show IXP w (some ⟨b, 0, none⟩) X S from .inl ⟨b, rfl, h⟩)
  have HWF := Lib.hid H.out.ok
  have HKL : Hid (X.ks.length ≤ 16384) := Lib.hid (by have := HWF.out.keys_le; unfold IX.ks; simpa using this)
  clear h
  obtain ⟨p, hp⟩ : ∃ p, p = (some ⟨b, 0, none⟩ : Option Addr) := ⟨_, rfl⟩
  rw [← hp] at H ⊢
  clear hp
  have hmm := @run_makeMap Try.prog
  refine calls_of_wp_marks Try.func47 rfl ?_
  simp only [Try.ntmps47, List.size_toArray, List.length_cons, List.length_nil, Nat.reduceAdd, Nat.reduceSub, Array.replicate_succ, Array.replicate_zero, List.push_toArray, List.append_toArray, List.nil_append, List.cons_append]
  go_upto_region 2 with fail
  clear hmm
  obtain ⟨b1, hb1⟩ : ∃ q, q = w.heap.size := ⟨_, rfl⟩
  obtain ⟨w0, hw0⟩ : ∃ y, y = ((w.alloc (.cells #[.pointer p] 32)).alloc (.map #[] 0)).alloc (.cells #[.map (some (b1 + 1))] 102) := ⟨_, rfl⟩
  have HSW : Hid (SW w (lvB (b1 + 1) b1 0 p []) w0) := Lib.hid (by
    have h1 := (SW.start w).alloc (.cells #[.pointer p] 32)
    have h2 := h1.new ((Gr.refl _).alloc _) (A := gsA (w.alloc (.cells #[.pointer p] 32)).heap.size 0 []) (GS.made _) (fun k hk => by rw [show k = _ from hk]; exact Nat.le_refl _)
    have h3 := h2.alloc (.cells #[.map (some (b1 + 1))] 102)
    simp only [World.size_alloc] at h3
    rw [← hb1] at h3
    rw [hw0]
    exact h3)
  rw [← hb1]
  rw [← hw0]
  clear hw0 hb1
  have d1 := (cellsOf (show w0.heap[b1]? = _ from HSW.out.get (i := 2) rfl)).1
  go_wp2_with fail
  refine (Keys_any p _).mono ?_
  rintro e' w1 ⟨bb, rfl, h1, h2, hg⟩
  have HS1 := Lib.hid (HSW.out.gr hg)
  have HI := Lib.hid (H.out.gr HS1.out.g)
  have HSEQ := Lib.hid (SeqKeysP HI.out bb h1)
  have HA : Hid (∀ q, (q = bb ∨ S q) → q < w1.heap.size) := Lib.hid (fun q hq => by
    have l1 := World.block_lt_of_cell? w1 ⟨bb, 0, none⟩ h1
    rcases hq with rfl | hq
    · exact l1
    · exact HI.out.lt q hq)
  have HZ : Hid (∃ n, n ≤ ([] : List ByteArray).length ∧ SWz w w1 (fun q => q = bb ∨ S q) (lvB (b1 + 1) b1 n p (livF X [])) (fun _ => False) w1) := Lib.hid ⟨0, Nat.le_refl _, SWz.start HS1.out (fun B hB k hk ha => by
    have l1 := HSW.out.s.lt hB k hk
    have l2 := HSW.out.n B hB k hk
    rcases ha with rfl | ha
    · omega
    · have := H.out.lt k ha; omega)⟩
  clear h1 h2 hg d1
  go_wp2_with fail
  refine (yieldsS24_any _ _ _).mono ?_
  rintro e' w2 ⟨rfl, rfl⟩
  go_wp2_with fail
  apply wp_rangeFunc_zb (gf := 124) (lb := #[.pointer (some ⟨bb, 0, none⟩)]) rfl (enters_of Try.func124 (by kernel_rfl) rfl) HSEQ.out (Mdh.refl _ w1) HA.out (fun _ => rfl)
    (fun Z pre X' => ∃ n, n ≤ pre.length ∧ SWz w w1 (fun q => q = bb ∨ S q) (lvB (b1 + 1) b1 n p (livF X pre)) Z X')
    (fun _ _ _ => False) (fun _ _ _ => False)
    (Apart.ex fun n => ((Apart.pure (fun pre : List ByteArray => n ≤ pre.length)).and (SWz.apart HS1.out.g.sz (fun pre : List ByteArray => lvB (b1 + 1) b1 n p (livF X pre))))) apart_no apart_no
    HZ.out _ ?assign ?body ?hend ?hret
  case hret => intro _ _ _ _ _ _ _ h; exact h.elim
  case assign =>
    intro l x X' K hK
    dsimp only [encK]
    gi_wp2
    exact hK
  case body =>
    intro l Z pre x X' hI hsp
    obtain ⟨n, hn, hI⟩ := hI
    have HIZ := Lib.hid hI
    have hmem : x ∈ X.ks := hsp.subset (by simp)
    obtain ⟨y, hy1, hy2, hy3, hy4⟩ := find_head HWF.out hmem
    have hvy := (valid_iff y).1 hy4
    have HPS : Hid (Srt ltS (livF X (pre ++ [x]))) := Lib.hid (livF_srt ((ks_srt HWF.out).sublist hsp.sublist))
    have HPN : Hid (pre.length < 16384) := Lib.hid (by have := hsp.length_le; have := HKL.out; simp at *; omega)
    have HIX : Hid (IXP X' p X S) := Lib.hid (H.out.gr HIZ.out.s.g)
    have HXK : Hid (x.size ≤ maxLen) := Lib.hid (by have h5 := hvy.2.2.2.2.1; have h6 := hvy.2.2.2.2.2.2.1; rw [hy3] at h5; unfold maxLen; omega)
    have HSQ : Hid ((Lit.int .i64 y.seq).wf = true) := Lib.hid (WalkArith.wf_i64 (by omega))
    have HNV := Lib.hid hy1
    have c1 := (cellsOf (show X'.heap[b1]? = _ from HIZ.out.s.get (i := 2) rfl)).1
    clear hI hsp hmem hy3 hy4 hvy hy1
    obtain ⟨y1, y2, y3, y4, y5, y6⟩ := y
    simp only at hy2 HSQ
    simp only [enV] at HNV
    gi_wp2_with fail
    refine ⟨trivial, (CallsIn.inRound l (callsIn_wide.2 (Newest_any HIX.out x))).mono ?_⟩
    rintro e w9 ⟨rfl, hg9⟩
    rw [HNV.out]
    have HZ9 := Lib.hid (HIZ.out.gr hg9)
    have d3 := (cellsOf (hg9.blk (show X'.heap[b1 + 1 + 1]? = _ from HIZ.out.s.get (i := 0) rfl))).1
    have l3 := blkLt (hg9.blk (show X'.heap[b1 + 1 + 1]? = _ from HIZ.out.s.get (i := 0) rfl))
    clear hg9 c1
    cases y3 with
    | true =>
      have HN := Lib.hid (livF_none (l := pre) (show findE X x = none from hy2))
      clear hy2
      gi_wp2_with fail
      have z2 := HZ9.out.1.gr ((Gr.refl w9).alloc (.cells #[.int .i64 y1, .string y2, .bool true, .int .i64 y4, .int .i64 y5, .int .i64 y6] 43))
      exact ⟨HZ9.out.2.trans z2.2, n, by rw [List.length_append]; omega, by rw [HN.out]; exact z2.1⟩
    | false =>
      have HN := Lib.hid (livF_some (l := pre) (show findE X x = some ⟨y1, y2, false, y4, y5, y6⟩ from hy2))
      clear hy2
      have z2 := Lib.hid (HZ9.out.1.gr ((Gr.refl w9).alloc (.cells #[.int .i64 y1, .string y2, .bool false, .int .i64 y4, .int .i64 y5, .int .i64 y6] 43)))
      rw [HN.out] at HPS
      generalize livF X pre = L0 at *
      gi_wp2_with (first
        | (gi_at_mapUpdate; refine wpListIn_gs_set _ rfl (.tmp 24) (.tmp 25) (.tmp 27) rfl (b1 + 1) n L0 rfl (show GS _ (b1 + 1) n L0 from z2.out.1.s.get (i := 1) rfl) (by have := HPN.out; omega) x y1 rfl rfl HXK.out HSQ.out ?_; intro w5 hgm5 hmd5; have H5 := Lib.hid (And.intro hgm5 hmd5); clear hgm5 hmd5)
        | fail)
      have z3 := z2.out.1.step (i := 1) (B' := gsA (b1 + 1) (n + 1) (L0 ++ [(x, y1)])) rfl HA.out H5.out.2 (fun k hk => .inl hk) (by
        have := H5.out.1
        rw [put_endS HPS.out] at this
        exact this) (fun k hk => .inl hk)
      exact ⟨(HZ9.out.2.trans z2.out.2).trans z3.2, n + 1, by rw [List.length_append]; simp; omega, by rw [HN.out]; exact z3.1⟩
  case hend =>
    intro Z D xs W hD hZD hcase hdef
    obtain ⟨hxs, n, hn, hI⟩ := hcase.elim (fun h => h) (fun h => h.2.elim)
    have hxs' : xs = X.ks := hxs
    subst hxs'
    have HD := Lib.hid (And.intro hD hdef)
    have c3 := (cellsOf (show W.heap[b1 + 1 + 1]? = _ from hI.s.get (i := 0) rfl)).1
    have HW := Lib.hid (And.intro hI.s (And.intro (show GS W (b1 + 1) n (liveM X) from hI.s.get (i := 1) rfl) (fun e : D = b1 + 1 => hI.z _ (List.mem_cons_of_mem _ (List.mem_cons_self ..)) (b1 + 1) rfl (e ▸ hZD))))
    have hlb : w.heap.size ≤ b1 + 1 := hI.s.n _ (List.mem_cons_of_mem _ (List.mem_cons_self ..)) (b1 + 1) rfl
    have HLB := Lib.hid hlb
    clear hI hcase hxs hD hdef hlb
    dsimp only
    go_wp2_with fail
    have hnD : w.heap.size ≤ D := by have := HD.out.1; have := HS1.out.g.sz; omega
    exact retM1 (D := D) (v := .map (some (b1 + 1))) rfl HD.out.2 (by simp [results, Try.results47, go_sem]) ⟨b1 + 1, n, rfl, HW.out.1.g.putObj hnD _, HW.out.2.1.mdh ((Mdh.refl (fun k => k = D) W).putObj (l := D) rfl (.deferred none)) (fun e => HW.out.2.2 (show b1 + 1 = D from e).symm), HLB.out⟩
end Go.Proofs.Ythefpmmeoajaiaa

/- drumlinlaw24.equal at two maps of the same pairs. -/
set_option linter.unusedVariables false
set_option linter.unusedSimpArgs false
namespace Go.Proofs.Ythefpmmeoajaiaa
open Go.RowKit Go.Maps
attribute [local go_sem] OvM cell_ovm obj_ovm

set_option maxRecDepth 40000 in
set_option maxHeartbeats 8000000 in
theorem equal24 (b1 b2 n1 n2 : Nat) (L : List SqI) (w : World) (h1 : GS w b1 n1 L) (h2 : GS w b2 n2 L) :
    Calls Try.prog 48 #[.map (some b1), .map (some b2)] w fun e w' => e = .returned (.bool true) ∧ Gr w w' := by
  have hml1 : ∀ ty, (Builtin.len_ #[102] ty #[.map (some b1)]).run Try.prog w = .ok (.int .i64 L.length) w := fun ty => gs_len_run h1 ty
  have hml2 : ∀ ty, (Builtin.len_ #[102] ty #[.map (some b2)]).run Try.prog w = .ok (.int .i64 L.length) w := fun ty => gs_len_run h2 ty
  have H2 := Lib.hid h2
  obtain ⟨DD, hown, hRD⟩ := h1
  have HOW := Lib.hid hown
  have HRD := Lib.hid hRD
  clear hown hRD h2
  go_enter Try.func48, Try.ntmps48
  go_wp2_with (first
    | (at_range; refine wpList_range_own _ rfl (.tmp 14) 102 rfl 9 2 lawS Try.underlying102 (plainElem Try.prog 2) b1 n1 DD rfl HOW.out ?_; intro w8 hrg8 hg8 hs8; have HR8 := Lib.hid (And.intro hrg8 (And.intro hg8 hs8)); clear hrg8 hg8 hs8)
    | fail)
  clear hml1 hml2
  go_frame
  have FS8 : Hid (GS w8 b2 n2 L ∧ Gr w w8) := Lib.hid ⟨H2.out.gr (gr_grownS HR8.out.2.1), gr_grownS HR8.out.2.1⟩
  have HRI : Hid (w.heap.size ≠ b2) := Lib.hid (by have := H2.out.lt; omega)
  go_loopw [5] (fun _ wr => ∃ (left : Lit → Bool) (cnt : Nat), Hid (wr.ranges Try.prog 9 (plainElem Try.prog 2) b1 w.heap.size n1 DD left cnt ∧ GS wr b2 n2 L ∧ Gr w wr)) (fun _ wr => wr.rangeLeft b1 w.heap.size)
  case atStart => exact ⟨_, _, Lib.hid ⟨HR8.out.1, FS8.out.1, FS8.out.2⟩⟩
  case round =>
    obtain ⟨left, cnt, HH⟩ := hrel
    go_wp2_with (first
      | (at_next; refine wpList_next_gs _ rfl (.tmp 15) rfl b1 w.heap.size n1 DD left cnt rfl HH.out.1 ?_ ?_)
      | fail)
    · intro _ _
      go_wp2_with fail
      go_ret
      exact ⟨rfl, HH.out.2.2⟩
    · intro x c w9 cnt1 hwx hat hrg1 hlt hg9 hs9 hen
      have hlook := HRD.out.val (k := x) (c := c) hat
      have F1 : Hid ((look ltS L x).getD 0 = c) := Lib.hid (by rw [hlook]; rfl)
      have F2 : Hid ((look ltS L x).isSome = true) := Lib.hid (by rw [hlook]; rfl)
      have HR9 := Lib.hid (And.intro hrg1 hlt)
      have HF9 : Hid (GS w9 b2 n2 L ∧ Gr w w9) := Lib.hid (by
        have m9 : Mdh (fun k => k = w.heap.size) wr w9 := md_of_grownS hg9
        exact ⟨HH.out.2.1.mdh m9 (fun e => HRI.out e.symm), HH.out.2.2.md m9 (fun k hk => by rw [hk]; exact Nat.le_refl _)⟩)
      have HWX := Lib.hid hwx
      clear hrg1 hlt hat hg9 hlook hwx
      go_wp2_with (first
        | (at_lookup; refine wpList_gs_look _ rfl (.tmp 22) (.tmp 23) rfl b2 n2 L rfl HF9.out.1 x rfl HWX.out ?_; rw [F1.out, F2.out])
        | fail)
      go_roundw
      case rel => exact ⟨_, _, Lib.hid ⟨HR9.out.1, HF9.out.1, HF9.out.2⟩⟩
      case measure =>
        rw [HR9.out.1.left_eq, HH.out.1.left_eq]
        exact HR9.out.2
end Go.Proofs.Ythefpmmeoajaiaa

/- LivenessNeeds in plain Lean. No walk. -/
set_option linter.unusedVariables false
set_option linter.unusedSimpArgs false
namespace Go.Proofs.Ythefpmmeoajaiaa

section
variable {X : IX}
theorem look_live (h : X.Wf) (k : ByteArray) : look ltS (liveM X) k = seqK X k := by
  refine Option.ext (fun v => ?_)
  rw [show (look ltS (liveM X) k = some v) = ((k, v) ∈ liveM X) from propext (look_mem ordS (livF_srt (ks_srt h)) k v)]
  unfold seqK
  constructor
  · intro hm
    obtain ⟨k', _, h2⟩ := List.mem_filterMap.1 hm
    cases hf : findE X k' with
    | none => rw [hf] at h2; cases h2
    | some e =>
      rw [hf] at h2
      simp only [Option.map_some, Option.some.injEq, Prod.mk.injEq] at h2
      obtain ⟨rfl, rfl⟩ := h2
      rw [hf]
      rfl
  · intro hs
    cases hf : findE X k with
    | none => rw [hf] at hs; cases hs
    | some e =>
      rw [hf] at hs
      simp only [Option.map_some, Option.some.injEq] at hs
      refine List.mem_filterMap.2 ⟨k, (mem_ks h k).2 (findE_ne (by rw [hf]; rfl)), ?_⟩
      rw [hf]
      simp [hs]
theorem needs_parts {e : En} (hn : X.needs e = true) : (∀ o ∈ X.of e.key, o.seq ≤ e.seq) ∧ (∀ o ∈ X.of e.key, o.seq = e.seq → o.slot = e.slot) ∧ (e.del = true → ∃ z ∈ X.of e.key, z.seq < e.seq ∧ z.slot ≠ e.slot) := by
  unfold IX.needs at hn
  by_cases h1 : (X.of e.key).any (nd1 e) = true
  · rw [if_pos h1] at hn; cases hn
  · rw [if_neg h1] at hn
    by_cases h2 : (X.of e.key).any (nd2 e) = true
    · rw [if_pos h2] at hn; cases hn
    · rw [if_neg h2] at hn
      refine ⟨fun o ho => ?_, fun o ho hs => ?_, fun hd => ?_⟩
      · refine Int.not_lt.1 (fun hlt => h1 (List.any_eq_true.2 ⟨o, ho, decide_eq_true hlt⟩))
      · refine Classical.byContradiction (fun hne => h2 (List.any_eq_true.2 ⟨o, ho, decide_eq_true ⟨hs, hne⟩⟩))
      · rw [hd, if_neg (by decide)] at hn
        obtain ⟨z, hz, h3⟩ := List.any_eq_true.1 hn
        exact ⟨z, hz, of_decide_eq_true h3⟩
theorem head_max (h : X.Wf) {k : ByteArray} {y : En} {t : List En} (hl : X.of k = y :: t) : ∀ o ∈ X.of k, o.seq ≤ y.seq := by
  intro o ho
  have hp := h.ofPair k
  rw [hl] at hp ho
  rcases List.mem_cons.1 ho with rfl | ho
  · exact Int.le_refl _
  · have := (List.pairwise_cons.1 hp).1 o ho
    unfold ltE at this
    have := of_decide_eq_true this
    omega
theorem seqK_of (h : X.Wf) {k : ByteArray} {v : Int} (hs : seqK X k = some v) : ∃ o ∈ X.of k, o.seq = v := by
  unfold seqK at hs
  cases hf : findE X k with
  | none => rw [hf] at hs; cases hs
  | some e => rw [hf] at hs; exact ⟨e, findE_mem hf, Option.some.inj hs⟩
/-- What holds of an entry that is kept. -/
structure NeedF (X : IX) (s : Int) (y : En) : Prop where
  ent : y ∈ X.ents
  sl : y.slot = s
  hd : y.del = true → ∃ o t, (dropX X s).of y.key = o :: t ∧ o.seq < y.seq
  lv : y.del = false → look ltS (liveM X) y.key = some y.seq ∧ (look ltS (liveM (dropX X s)) y.key).getD 0 ≠ y.seq
theorem needF (h : X.Wf) {s : Int} {y : En} (hy : y ∈ keepL X s) : NeedF X s y := by
  have h1 := List.mem_filter.1 hy
  have h2 := (h.slot_mem s y).1 h1.1
  obtain ⟨n1, n2, n3⟩ := needs_parts h1.2
  have hof := drop_of h s y.key
  have hv := (valid_iff y).1 (h.valid h2.1).1
  have hyk : y ∈ X.of y.key := (h.of_mem y.key y).2 ⟨h2.1, rfl⟩
  refine ⟨h2.1, h2.2, fun hd => ?_, fun hd => ?_⟩
  · obtain ⟨z, hz, hz1, hz2⟩ := n3 hd
    have hzm : z ∈ (dropX X s).of y.key := by rw [hof]; exact List.mem_filter.2 ⟨hz, decide_eq_true (by rw [← h2.2]; exact hz2)⟩
    cases hl : (dropX X s).of y.key with
    | nil => rw [hl] at hzm; cases hzm
    | cons o t =>
      have ho : o ∈ (dropX X s).of y.key := by rw [hl]; simp
      rw [hof] at ho
      have h3 := List.mem_filter.1 ho
      have h4 : o.slot ≠ s := of_decide_eq_true h3.2
      have h5 := n1 o h3.1
      refine ⟨o, t, rfl, ?_⟩
      rcases Int.lt_or_eq_of_le h5 with h6 | h6
      · exact h6
      · exact absurd ((n2 o h3.1 h6).trans h2.2) h4
  · rw [look_live h, look_live (drop_wf h s)]
    constructor
    · cases hl : X.of y.key with
      | nil => rw [hl] at hyk; cases hyk
      | cons o t =>
        have hm := head_max h hl y hyk
        have ho : o ∈ X.of y.key := by rw [hl]; simp
        have hq : o.seq = y.seq := by have := n1 o ho; omega
        have ho2 := (h.of_mem y.key o).1 ho
        have hc := h.c o ho2.1 y h2.1 ho2.2 hq
        unfold seqK findE
        rw [hl]
        simp only
        rw [hc.1, hd]
        simp [hq]
    · cases hs : seqK (dropX X s) y.key with
      | none => simp only [Option.getD_none]; omega
      | some v =>
        obtain ⟨o, ho, rfl⟩ := seqK_of (drop_wf h s) hs
        rw [hof] at ho
        have h3 := List.mem_filter.1 ho
        have h4 : o.slot ≠ s := of_decide_eq_true h3.2
        exact fun h5 => h4 ((n2 o h3.1 h5).trans h2.2)
theorem keep_off (h : X.Wf) {s : Int} {i : Nat} {a y : En} (ha : (keepL X s)[i]? = some a) (hy : (keepL X s)[i + 1]? = some y) : a.off < y.off := by
  have hp : (keepL X s).Pairwise (fun a b => a.off + a.size ≤ b.off) := (h.slotOk s).p.sublist List.filter_sublist
  obtain ⟨h1, rfl⟩ := List.getElem?_eq_some_iff.1 ha
  obtain ⟨h2, rfl⟩ := List.getElem?_eq_some_iff.1 hy
  have h3 := List.pairwise_iff_getElem.1 hp i (i + 1) h1 h2 (by omega)
  have h4 := List.mem_filter.1 (List.getElem_mem h1)
  have h5 := (valid_iff _).1 (h.valid ((h.slot_mem s _).1 h4.1).1).1
  omega
theorem keep_none (h : X.Wf) {s : Int} (hk : keepL X s = []) : liveM (dropX X s) = liveM X := drop_liveM h (fun e he => by
  cases hn : X.needs e with
  | false => rfl
  | true =>
    have : e ∈ keepL X s := List.mem_filter.2 ⟨he, hn⟩
    rw [hk] at this
    cases this)
end
theorem tightA : ∀ (n : Nat) (L : List Ac), L.length = n → n ≤ 90 → (∀ t ∈ L, t.Ok) → (foldA L).all.length ≤ n ∧ (foldA L).sq ≤ n ∧ ∀ s, (foldA L).us s ≤ 19 * n
  | 0, L, hL, _, _ => by
    rw [List.eq_nil_of_length_eq_zero hL]
    exact ⟨by show 0 ≤ 0; omega, by show (0 : Int) ≤ 0; omega, fun s => by show (0 : Int) ≤ 19 * 0; omega⟩
  | n + 1, L, hL, hn, ht => by
    have hne : L ≠ [] := fun h => by rw [h] at hL; cases hL
    have e := List.dropLast_concat_getLast hne
    have hd := fun m h => ht m (List.dropLast_subset L h)
    obtain ⟨h1, h2, h3⟩ := tightA n L.dropLast (by rw [List.length_dropLast]; omega) (by omega) hd
    have hok := (foldA_ok n L.dropLast (by rw [List.length_dropLast]; omega) (by omega) hd).1
    rw [← e, foldA_snoc]
    generalize L.getLast hne = t at *
    generalize foldA L.dropLast = st at *
    have hadd : ∀ (s2 : LS) (e : En), s2.all.length ≤ n → s2.sq ≤ n + 1 → (∀ s, s2.us s ≤ 19 * n) → e.size ≤ 19 → (addA s2 e).all.length ≤ n + 1 ∧ (addA s2 e).sq ≤ ((n + 1 : Nat) : Int) ∧ ∀ s, (addA s2 e).us s ≤ 19 * ((n + 1 : Nat) : Int) := by
      intro s2 e ha hb hc hz
      unfold addA
      split
      · exact ⟨by omega, by omega, fun s => by have := hc s; omega⟩
      · refine ⟨by show (s2.all ++ [_]).length ≤ n + 1; simp; omega, by show s2.sq ≤ _; omega, fun s => ?_⟩
        show upd s2.us e.slot (s2.us e.slot + e.size) s ≤ _
        have := hc s
        have := hc e.slot
        unfold upd
        split <;> omega
    unfold stepA
    split
    · exact hadd _ _ h1 (by show st.sq + 1 ≤ _; omega) h3 (by show 16 + ((acKey t.key).size : Int) ≤ 19; rw [(acKey_ok t.key).2.1]; omega)
    · split
      · exact hadd _ _ h1 (by show st.sq + 1 ≤ _; omega) h3 (by show 18 + ((acKey t.key).size : Int) ≤ 19; rw [(acKey_ok t.key).2.1]; omega)
      · split
        · exact ⟨by omega, by omega, fun s => by have := h3 s; omega⟩
        · rename_i hne2
          have hl : 0 < st.all.length := List.length_pos_iff.2 hne2
          have hk : 0 ≤ t.key := (ht t (by rw [← e]; simp)).key.1
          have g1 := Int.emod_lt_of_pos t.key (show (0 : Int) < st.all.length by omega)
          have g2 := Int.emod_nonneg t.key (show (st.all.length : Int) ≠ 0 by omega)
          have g3 : (t.key % st.all.length).toNat < st.all.length := by omega
          have hm : st.all.getD (t.key % st.all.length).toNat zE ∈ st.all := by
            rw [List.getD_eq_getElem?_getD, List.getElem?_eq_getElem g3]
            exact List.getElem_mem g3
          exact hadd _ _ h1 (by omega) h3 (hok.e _ hm).2.2.2.2
theorem tight_ok {n : Nat} {L : List Ac} (hL : L.length = n) (hn : n ≤ 90) (ht : ∀ t ∈ L, t.Ok) : (foldA L).Ok n := by
  have h := (foldA_ok n L hL hn ht).1
  obtain ⟨h1, h2, h3⟩ := tightA n L hL hn ht
  exact ⟨h.g, h1, h.q0, h2, fun s => ⟨(h.u s).1, h3 s⟩, h.e⟩
end Go.Proofs.Ythefpmmeoajaiaa

/- LivenessNeeds: the walk. -/
set_option linter.unusedVariables false
set_option linter.unusedSimpArgs false
namespace Go.Proofs.Ythefpmmeoajaiaa
open Go.RowKit Go.Shelf Go.Maps
attribute [local go_sem] OvM cell_ovm obj_ovm
attribute [local go_sem] Oper.semAt_some

set_option maxRecDepth 40000 in
theorem gs_at_run {w : World} {b n : Nat} {L : List SqI} (h : GS w b n L) (k : ByteArray) (hk : k.size ≤ maxLen) : (Instr.lookup 102 (.map (some b)) (.string k) false).run Try.prog w = .ok (.int .i64 ((look ltS L k).getD 0)) w := by
  obtain ⟨D, h1, h2⟩ := h
  obtain ⟨c, hrun, hat, hwc⟩ := h1.lookup_int lawS Try.underlying102 Try.underlying2 (zeroQ w) (WideMaps.keyOf_string_mk Try.underlying9 hk)
  rw [h2.at0] at hat
  injection hat with hat
  injection hat with _ hat
  subst hat
  exact hrun
theorem newV_parts (l : List En) : ∃ o h, newV l = .tuple #[enV o, .bool h] ∧ ∀ y t, l = y :: t → o = y ∧ h = true := by
  cases l with
  | nil => exact ⟨zE, false, rfl, fun y t h => by cases h⟩
  | cons x u => exact ⟨x, true, rfl, fun y t h => by injection h with h1 h2; exact ⟨h1, rfl⟩⟩
abbrev ndL (b mb bw nw b2 bn nn : Nat) (v vk : Value) (us : Int → Int) (sq : Int) (S S2 : Nat → Prop) (X Y : IX) (keep : List En) (want now : List SqI) : List Asn := [ixA b X S, blkA mb (bdO b v us sq), rowA 43 6 vk keep.length (rowE keep), gsA bw nw want, ixA b2 Y S2, gsA bn nn now]
set_option maxRecDepth 40000 in
set_option maxHeartbeats 16000000 in
theorem LivenessNeeds_any (a : Option Addr) (len cap : Nat) (L : List Ac) (q : Int) (w : World) (hl : L.length = len) (hle : len ≤ cap) (hcap : cap ≤ maxLen) (hs : ActAt w a L) (hq0 : 0 ≤ q) (hq1 : q ≤ 255) :
    Calls Try.prog 11 #[.slice a len cap, .int .u8 q] w fun e w' => e = .returned (.bool true) ∧ Gr w w' := by
  by_cases h80 : 80 < len
  · have h80' : (80 : Int) < len := by omega
    clear hs hl
    go_enter Try.func11, Try.ntmps11
    go_wp2_with (go_at_call 36; refine (lv_works _).mono ?_; rintro e w1 ⟨rfl, hg⟩; have HG := Lib.hid hg; clear hg)
    go_ret
    exact ⟨rfl, HG.out⟩
  have h80' : ¬ (80 : Int) < len := by omega
  have hfo := foldA_ok len L hl (by omega) (actOk hs)
  have HK0 := Lib.hid (build_KI hfo.1 hfo.2)
  have HST := Lib.hid (tight_ok hl (by omega) (actOk hs))
  have HC := Lib.hid (build24_any a len cap L w hl (by omega) hle hcap hs)
  obtain ⟨σ, hσ⟩ : ∃ σ : Nat, q % 5 = (σ : Int) := ⟨(q % 5).toNat, by omega⟩
  have hσ5 : σ < 5 := by omega
  clear hs hl hfo
  go_enter Try.func11, Try.ntmps11
  go_wp2_with fail
  refine Calls.mono HC.out ?_
  rintro e w1 ⟨b, mb, v, S, rfl, hs⟩
  have H1 : Hid (SW w [ixA b (foldA L).X S, blkA mb (bdO b v (foldA L).us (foldA L).sq)] w1) := Lib.hid (hs.sel [0, 1] (by decide) rfl)
  clear hs HC
  generalize foldA L = st at *
  have HNF := Lib.hid (fun (y : En) (h : y ∈ keepL st.X (σ : Int)) => needF HK0.out.wf h)
  have HYN : Hid (∀ y ∈ keepL st.X (σ : Int), neededV st.X y = .tuple #[.bool true, .int .i64 0]) := Lib.hid (fun y hy => by
    have h1 := (HST.out.g.mem y).2 (HNF.out y hy).ent
    rw [(HST.out.g.needV y).1 h1, (List.mem_filter.1 hy).2])
  have HBY : Hid (∀ y ∈ keepL st.X (σ : Int), 1 ≤ y.seq ∧ y.seq ≤ 1000 ∧ y.key.size = 1 ∧ 0 ≤ y.off ∧ y.off ≤ 8192 ∧ 0 ≤ y.size ∧ y.size ≤ 8192) := Lib.hid (fun y hy => by
    have hm := (HST.out.g.mem y).2 (HNF.out y hy).ent
    have h1 := HST.out.g.val hm
    have h2 := HST.out.e y hm
    have h3 := HST.out.q1
    refine ⟨h1.2.1, by omega, h2.2.2.2.1, ?_, ?_, ?_, ?_⟩ <;> omega)
  have HKO := Lib.hid (fun (i : Nat) (x y : En) (h1 : (keepL st.X (σ : Int))[i]? = some x) (h2 : (keepL st.X (σ : Int))[i + 1]? = some y) => keep_off HK0.out.wf h1 h2)
  have HKN := Lib.hid (fun (h : keepL st.X (σ : Int) = []) => keep_none HK0.out.wf h)
  have HKC := Lib.hid (HK0.out.code (s := σ) (by omega))
  have HKL : Hid ((keepL st.X (σ : Int)).length ≤ 512) := Lib.hid (by
    have h1 := List.length_filter_le st.X.needs (st.X.slot (σ : Int))
    have h2 := HK0.out.wf.slot_le (σ : Int)
    unfold keepL
    omega)
  clear HST HK0
  obtain ⟨X, all, us, sq⟩ := st
  simp only at HNF HYN HBY HKO HKN HKC HKL H1
  have dm0 := ((cellsOf (show w1.heap[mb]? = _ from H1.out.get (i := 1) rfl)).1 0).trans (show _ = some (Value.pointer (some ⟨b, 0, none⟩)) from rfl)
  go_wp2_with fail
  (try rw [hσ])
  refine (Keep_any (.inl ⟨b, rfl, (show IXR w1 b X S from H1.out.get (i := 0) rfl)⟩) (σ : Int)).mono ?_
  rintro e w2 ⟨vk, rfl, hn, hg⟩
  rw [HKC.out]
  have H2 : Hid (SW w [ixA b X S, blkA mb (bdO b v us sq), rowA 43 6 vk (keepL X (σ : Int)).length (rowE (keepL X (σ : Int)))] w2) := Lib.hid ((H1.out.new hg (A := rowA 43 6 vk (keepL X (σ : Int)).length (rowE (keepL X (σ : Int)))) hn.own (fun k hk => hn.new k hk)).sel [1, 2, 0] (by decide) rfl)
  clear hn hg H1 dm0 HKC
  have dm0 := ((cellsOf (show w2.heap[mb]? = _ from H2.out.get (i := 1) rfl)).1 0).trans (show _ = some (Value.pointer (some ⟨b, 0, none⟩)) from rfl)
  go_wp2_with fail
  refine (live24_any (show IXR w2 b X S from H2.out.get (i := 0) rfl)).mono ?_
  rintro e w3 ⟨bw, nw, rfl, hg, hgs, hbn⟩
  have H3 : Hid (SW w [ixA b X S, blkA mb (bdO b v us sq), rowA 43 6 vk (keepL X (σ : Int)).length (rowE (keepL X (σ : Int))), gsA bw nw (liveM X)] w3) := Lib.hid ((H2.out.new hg (A := gsA bw nw (liveM X)) hgs (fun k hk => by rw [show k = bw from hk]; exact hbn)).sel [1, 2, 3, 0] (by decide) rfl)
  clear hg hgs hbn H2 dm0
  have dm0 := ((cellsOf (show w3.heap[mb]? = _ from H3.out.get (i := 1) rfl)).1 0).trans (show _ = some (Value.pointer (some ⟨b, 0, none⟩)) from rfl)
  go_wp2_with fail
  refine (CopyX (show IXR w3 b X S from H3.out.get (i := 0) rfl)).mono ?_
  rintro e w4 ⟨b2, S2, rfl, h2, h3, hg⟩
  have H4 := Lib.hid (H3.out.ixnew h2 h3 hg)
  clear hg h2 h3 H3 dm0
  go_wp2_with fail
  refine (Drop_any H4.out.ix (σ : Int)).mono ?_
  rintro e w5 ⟨rfl, hp⟩
  obtain ⟨S3, hs⟩ := H4.out.post hp
  have H5 := Lib.hid hs
  clear hs hp H4
  go_wp2_with fail
  refine (live24_any H5.out.ix).mono ?_
  rintro e w6 ⟨bn, nn, rfl, hg, hgs, hbn⟩
  have H6 : Hid (SW w (ndL b mb bw nw b2 bn nn v vk us sq S S3 X (dropX X (σ : Int)) (keepL X (σ : Int)) (liveM X) (liveM (dropX X (σ : Int)))) w6) := Lib.hid ((H5.out.new hg (A := gsA bn nn (liveM (dropX X (σ : Int)))) hgs (fun k hk => by rw [show k = bn from hk]; exact hbn)).sel [2, 3, 4, 5, 1, 0] (by decide) rfl)
  clear hg hgs hbn H5
  have HNF2 : Hid (∀ y ∈ keepL X (σ : Int), y.slot = (σ : Int) ∧ (y.del = true → ∃ o t, (dropX X (σ : Int)).of y.key = o :: t ∧ o.seq < y.seq) ∧ (y.del = false → look ltS (liveM X) y.key = some y.seq ∧ (look ltS (liveM (dropX X (σ : Int))) y.key).getD 0 ≠ y.seq)) := Lib.hid (fun y hy => ⟨(HNF.out y hy).sl, (HNF.out y hy).hd, (HNF.out y hy).lv⟩)
  clear HNF
  generalize keepL X (σ : Int) = keep at *
  generalize dropX X (σ : Int) = Y at *
  generalize liveM X = want at *
  generalize liveM Y = now at *
  obtain ⟨ak, ck, rfl, hck, hmk, _⟩ := ownE_at (show Own w6 43 6 vk keep.length (rowE keep) from H6.out.get (i := 2) rfl)
  unfold maxLen at hmk
  have hkl := HKL.out
  go_wp2_with fail
  go_loopw [13] (fun t13 wx => ∃ i : Nat, i ≤ keep.length ∧ t13 = .int .i64 i ∧ Hid (SW w (ndL b mb bw nw b2 bn nn v (.slice ak keep.length ck) us sq S S3 X Y keep want now) wx)) (fun t13 _ => keep.length - (intOf t13).toNat)
  case atStart => exact ⟨0, by omega, rfl, H6⟩
  case round =>
    obtain ⟨i, hil, rfl, HI⟩ := hrel
    clear H6
    by_cases hlt : i < keep.length
    · have hlt' : (i : Int) < keep.length := by omega
      obtain ⟨y, hy⟩ : ∃ y, keep[i]? = some y := ⟨_, List.getElem?_eq_getElem hlt⟩
      have hmem := List.mem_of_getElem? hy
      have HY := Lib.hid hy
      obtain ⟨g0, rfl, hg0, y0, y1, y2, y3, y4, y5⟩ := ent6 (show Own wr 43 6 (.slice ak keep.length ck) keep.length (rowE keep) from HI.out.get (i := 2) rfl) hy
      have HN := Lib.hid (HYN.out y hmem)
      have hby := HBY.out y hmem
      obtain ⟨hsl, hdl, hlv⟩ := HNF2.out y hmem
      have HDL := Lib.hid hdl
      have HLV := Lib.hid hlv
      clear hy hmem hdl hlv
      obtain ⟨p0, p1, p2, p3, p4, p5⟩ := y
      simp only at y0 y1 y2 y3 y4 y5 hby hsl HDL HLV
      subst hsl
      obtain ⟨b1, b2', b3, b4, b5, b6, b7⟩ := hby
      go_upto_region 18 with fail
      obtain ⟨b14, hb14⟩ : ∃ k, k = wr.heap.size := ⟨_, rfl⟩
      obtain ⟨w7, hw7⟩ : ∃ y, y = wr.alloc (boxF ⟨p0, p1, p2, σ, p4, p5⟩) := ⟨_, rfl⟩
      have H7 : Hid (SW w (blkA b14 (boxF ⟨p0, p1, p2, σ, p4, p5⟩) :: ndL b mb bw nw b2 bn nn v (.slice (some ⟨g0, 0, none⟩) keep.length ck) us sq S S3 X Y keep want now) w7) := Lib.hid (by
        have h := HI.out.alloc (boxF ⟨p0, p1, p2, σ, p4, p5⟩)
        rw [← hb14, ← hw7] at h
        exact h)
      (try simp only [boxF] at hw7)
      rw [← hw7, ← hb14]
      clear hw7 hb14 HI y0 y1 y2 y3 y4 y5 hg0
      have d14 := (cellsOf (show w7.heap[b14]? = _ from H7.out.get (i := 0) rfl)).1
      (try simp only [boxF] at d14)
      have dm0 := ((cellsOf (show w7.heap[mb]? = _ from H7.out.get (i := 2) rfl)).1 0).trans (show _ = some (Value.pointer (some ⟨b, 0, none⟩)) from rfl)
      have HN1 := Lib.hid (Needed_any (.inl ⟨b, rfl, (show IXR w7.drew b X S from (H7.out.gr (Gr.refl w7).drew).get (i := 1) rfl)⟩) ⟨p0, p1, p2, σ, p4, p5⟩)
      rw [HN.out] at HN1
      simp only [enV] at HN1
      refine wp_region_flo (fun _ => False) [] [] (by kernel_rfl) (by kernel_rfl) (fun _ h => h.elim) ?_
      refine flo_seg 5 rfl ?_
      simp only [List.take_succ_cons, List.take_zero, List.drop_succ_cons, List.drop_zero]
      repeat (go_big_quiet_step (fail))
      refine wpQuiet_nil ?_
      refine flo_eff rfl rfl rfl rfl (fun K hK => ?_)
      go_wp2_with ((go_at_call 41; refine Calls.mono HN1.out ?_; rintro e' w8 ⟨rfl, hg⟩; have hg8 := hg; clear hg))
      refine ⟨by (first | (refine Gr.mdh ?_ _; (repeat (first | (with_reducible exact Gr.refl _) | assumption | (with_reducible apply Gr.from_drew) | (with_reducible apply Gr.alloc) | (with_reducible apply Gr.drew) | (with_reducible refine Gr.trans ?_ (by assumption)) | (with_reducible refine Gr.setCell ?_ (by omega) _))); done) | (repeat (first | (with_reducible exact Mdh.refl _ _) | (with_reducible refine Mdh.setCell ?_ (by simp) _) | (with_reducible refine Mdh.setNew ?_ (by simp) _) | (with_reducible apply Mdh.alloc) | (with_reducible apply Mdh.from_drew) | (with_reducible apply Mdh.drew) | (with_reducible refine Mdh.gr ?_ (by assumption))))), ?_⟩
      refine flo_seg 5 rfl ?_
      simp only [List.take_succ_cons, List.take_zero, List.drop_succ_cons, List.drop_zero]
      repeat (go_big_quiet_step (fail))
      refine wpQuiet_nil ?_
      refine flo_nil ?_
      have H8 := Lib.hid (H7.out.gr ((Gr.refl w7).drew.trans hg8))
      clear hg8 d14 dm0 H7 HN1 HN
      have d14 := (cellsOf (show w8.heap[b14]? = _ from H8.out.get (i := 0) rfl)).1
      (try simp only [boxF] at d14)
      obtain ⟨⟨o0, o1, o2, o3, o4, o5⟩, hb, hnv, hnh⟩ := newV_parts (Y.of p1)
      have HNW := Lib.hid (Newest_any (.inl ⟨b2, rfl, (show IXR w8 b2 Y S3 from H8.out.get (i := 5) rfl)⟩) p1)
      rw [hnv] at HNW
      simp only [enV] at HNW
      have HNH := Lib.hid hnh
      clear hnv hnh
      go_wp2_with fail
      refine Calls.mono HNW.out ?_
      rintro e' w9 ⟨rfl, hg⟩
      have H9 := Lib.hid (H8.out.gr hg)
      clear hg d14 H8 HNW
      go_upto_region 20 with fail
      obtain ⟨b17, hb17⟩ : ∃ k, k = w9.heap.size := ⟨_, rfl⟩
      obtain ⟨wa, hwa⟩ : ∃ y, y = w9.alloc (boxF ⟨o0, o1, o2, o3, o4, o5⟩) := ⟨_, rfl⟩
      have Ha : Hid (SW w (blkA b17 (boxF ⟨o0, o1, o2, o3, o4, o5⟩) :: blkA b14 (boxF ⟨p0, p1, p2, σ, p4, p5⟩) :: ndL b mb bw nw b2 bn nn v (.slice (some ⟨g0, 0, none⟩) keep.length ck) us sq S S3 X Y keep want now) wa) := Lib.hid (by
        have h := H9.out.alloc (boxF ⟨o0, o1, o2, o3, o4, o5⟩)
        rw [← hb17, ← hwa] at h
        exact h)
      (try simp only [boxF] at hwa)
      rw [← hwa, ← hb17]
      clear hwa hb17 H9
      have d14 := (cellsOf (show wa.heap[b14]? = _ from Ha.out.get (i := 1) rfl)).1
      (try simp only [boxF] at d14)
      have HE : Hid (SW w (blkA b17 (boxF ⟨o0, o1, o2, o3, o4, o5⟩) :: blkA b14 (boxF ⟨p0, p1, p2, σ, p4, p5⟩) :: ndL b mb bw nw b2 bn nn v (.slice (some ⟨g0, 0, none⟩) keep.length ck) us sq S S3 X Y keep want now) wa.drew) := Lib.hid (Ha.out.gr (Gr.refl wa).drew)
      have HLW : Hid (GS wa.drew bw nw want ∧ GS wa.drew bn nn now) := Lib.hid ⟨HE.out.get (i := 5) rfl, HE.out.get (i := 7) rfl⟩
      have HKS : Hid (p1.size ≤ maxLen) := Lib.hid (by rw [b3]; decide)
      have hs3 : ((σ : Int) != (σ : Int)) = false := by simp [bne]
      have d17 := (cellsOf (show wa.drew.heap[b17]? = _ from HE.out.get (i := 0) rfl)).1
      have d14' := (cellsOf (show wa.drew.heap[b14]? = _ from HE.out.get (i := 1) rfl)).1
      (try simp only [boxF] at d17 d14')
      obtain ⟨y0, y1, y2, y3, y4, y5⟩ := (ent6g (show Own wa 43 6 (.slice (some ⟨g0, 0, none⟩) keep.length ck) keep.length (rowE keep) from Ha.out.get (i := 4) rfl) HY.out).2
      have hgo := HKO.out
      cases i with
      | zero =>
        go_wp2_with fail
        refine wp_region_flo (fun _ => False) [] [] (by kernel_rfl) (by kernel_rfl) (fun _ h => h.elim) ?_
        refine flo_seg 27 rfl ?_
        simp only [List.take_succ_cons, List.take_zero, List.drop_succ_cons, List.drop_zero]
        repeat (go_big_quiet_step (fail))
        refine wpQuiet_nil ?_
        refine flo_nil ?_
        clear d14 y0 y1 y2 y3 y4 y5 hgo
        cases p2 with
        | true =>
          obtain ⟨o, t, ho, hlt2⟩ := HDL.out rfl
          obtain ⟨e1, e2⟩ := HNH.out o t ho
          subst e1 e2
          simp only at hlt2
          have hge : ¬ p0 ≤ o0 := by omega
          clear ho HDL HLV HNH
          go_wp2_with fail
          go_roundw
          case rel => exact ⟨0 + 1, by omega, by go_num, Lib.hid (HE.out.sel [2, 3, 4, 5, 6, 7] (by decide) rfl)⟩
          case measure => simp [intOf]; omega
        | false =>
          obtain ⟨hw1, hw2⟩ := HLV.out rfl
          have F1 : Hid ((look ltS want p1).getD 0 = p0) := Lib.hid (by rw [hw1]; rfl)
          have hnb : ((look ltS now p1).getD 0 == p0) = false := beq_false_of_ne hw2
          have hr1 := gs_at_run HLW.out.1 p1 HKS.out
          have hr2 := gs_at_run HLW.out.2 p1 HKS.out
          rw [F1.out] at hr1
          clear hw1 hw2 HDL HLV HNH
          generalize (look ltS now p1).getD 0 = lk at *
          have hpb : (p0 != p0) = false := by simp [bne]
          go_wp2_with fail
          go_roundw
          case rel => exact ⟨0 + 1, by omega, by go_num, Lib.hid (HE.out.sel [2, 3, 4, 5, 6, 7] (by decide) rfl)⟩
          case measure => simp [intOf]; omega
      | succ i =>
        obtain ⟨x, hx⟩ : ∃ x, keep[i]? = some x := ⟨_, List.getElem?_eq_getElem (by omega)⟩
        have hof := hgo i x _ hx HY.out
        simp only at hof
        have hof' : ¬ p4 ≤ x.off := by omega
        obtain ⟨hgl, x0, x1, x2, x3, x4, x5⟩ := ent6g (show Own wa 43 6 (.slice (some ⟨g0, 0, none⟩) keep.length ck) keep.length (rowE keep) from Ha.out.get (i := 4) rfl) hx
        go_wp2_with fail
        refine wp_region_flo (fun _ => False) [] [] (by kernel_rfl) (by kernel_rfl) (fun _ h => h.elim) ?_
        refine flo_seg 27 rfl ?_
        simp only [List.take_succ_cons, List.take_zero, List.drop_succ_cons, List.drop_zero]
        repeat (go_big_quiet_step (fail))
        refine wpQuiet_nil ?_
        refine flo_nil ?_
        clear d14 y0 y1 y2 y3 y4 y5 hgo x0 x1 x2 x3 x4 x5 hgl
        cases p2 with
        | true =>
          obtain ⟨o, t, ho, hlt2⟩ := HDL.out rfl
          obtain ⟨e1, e2⟩ := HNH.out o t ho
          subst e1 e2
          simp only at hlt2
          have hge : ¬ p0 ≤ o0 := by omega
          clear ho HDL HLV HNH
          go_wp2_with fail
          go_roundw
          case rel => exact ⟨i + 1 + 1, by omega, by go_num, Lib.hid (HE.out.sel [2, 3, 4, 5, 6, 7] (by decide) rfl)⟩
          case measure => simp [intOf]; omega
        | false =>
          obtain ⟨hw1, hw2⟩ := HLV.out rfl
          have F1 : Hid ((look ltS want p1).getD 0 = p0) := Lib.hid (by rw [hw1]; rfl)
          have hnb : ((look ltS now p1).getD 0 == p0) = false := beq_false_of_ne hw2
          have hr1 := gs_at_run HLW.out.1 p1 HKS.out
          have hr2 := gs_at_run HLW.out.2 p1 HKS.out
          rw [F1.out] at hr1
          clear hw1 hw2 HDL HLV HNH
          generalize (look ltS now p1).getD 0 = lk at *
          have hpb : (p0 != p0) = false := by simp [bne]
          go_wp2_with fail
          go_roundw
          case rel => exact ⟨i + 1 + 1, by omega, by go_num, Lib.hid (HE.out.sel [2, 3, 4, 5, 6, 7] (by decide) rfl)⟩
          case measure => simp [intOf]; omega
    · have hlt' : ¬ (i : Int) < keep.length := by omega
      obtain rfl : i = keep.length := by omega
      by_cases h0 : keep = []
      · have h0' : keep.length = 0 := by rw [h0]; rfl
        have e1 := HKN.out h0
        subst e1
        clear h0
        go_wp2_with (first
          | (go_at_call 48; refine (equal24 bw bn nw nn _ _ (show GS wr bw nw _ from HI.out.get (i := 3) rfl) (show GS wr bn nn _ from HI.out.get (i := 5) rfl)).mono ?_; rintro e w10 ⟨rfl, hg⟩; have H10 := Lib.hid (HI.out.g.trans hg); clear hg)
          | (go_at_call 36; refine (lv_works _).mono ?_; rintro e w11 ⟨rfl, hg⟩; have HG := Lib.hid (H10.out.trans hg); clear hg)
          | fail)
        refine bodyPost_ret (v := .bool true) (by simp [results, Try.results11, go_sem]) rfl ?_
        exact ⟨rfl, HG.out⟩
      · have h0' : (0 : Int) < keep.length := by have := List.length_pos_iff.2 h0; omega
        go_wp2_with (first
          | (go_at_call 36; refine (lv_works _).mono ?_; rintro e w11 ⟨rfl, hg⟩; have HG := Lib.hid (HI.out.g.trans hg); clear hg)
          | fail)
        refine bodyPost_ret (v := .bool true) (by simp [results, Try.results11, go_sem]) rfl ?_
        exact ⟨rfl, HG.out⟩
end Go.Proofs.Ythefpmmeoajaiaa
