/- drumlinlaw24.build in plain Lean. No walk. -/
import Derived.Test.YtmdfickejpeofaaBd13
import Derived.Test.YtmdfickejpeofaaBd12
import Derived.Test.YtmdfickejpeofaaBd7
set_option linter.unusedVariables false
set_option linter.unusedSimpArgs false
namespace Go.Proofs.Ytmdfickejpeofaa

structure Ac where
  kind : Int
  key : Int
  slot : Int
structure Ac.Ok (t : Ac) : Prop where
  kind : 0 ≤ t.kind ∧ t.kind ≤ 255
  key : 0 ≤ t.key ∧ t.key ≤ 255
  slot : 0 ≤ t.slot ∧ t.slot ≤ 255
def acKey (a : Int) : ByteArray := ⟨#[(97 + a % 6).toNat.toUInt8]⟩
theorem acKey_ok (a : Int) : keyChk (acKey a) = 0 ∧ (acKey a).size = 1 ∧ Low (acKey a) := by
  obtain ⟨n, hn, hl⟩ : ∃ n : Nat, a % 6 = n ∧ n < 6 := ⟨(a % 6).toNat, by omega, by omega⟩
  have e : acKey a = ⟨#[(97 + n).toUInt8]⟩ := by
    unfold acKey
    rw [hn, show ((97 : Int) + (n : Int)).toNat = 97 + n by omega]
  rw [e]
  have hu : ((97 + n).toUInt8).toNat = 97 + n := by
    rw [Nat.toUInt8_eq, UInt8.toNat_ofNat']
    omega
  refine ⟨?_, rfl, fun j hj => ?_⟩
  · have hk : keyC ((97 + n).toUInt8) = true := by
      unfold keyC
      simp only [Bool.or_eq_true, Bool.and_eq_true, decide_eq_true_eq]
      right
      constructor
      · rw [UInt8.le_iff_toNat_le, hu]; show 97 ≤ 97 + n; omega
      · rw [UInt8.le_iff_toNat_le, hu]; show 97 + n ≤ 122; omega
    rw [keyChk_ok (k := ⟨#[(97 + n).toUInt8]⟩) (fun j hj => by
      have hj1 : j < 1 := hj
      obtain rfl : j = 0 := by omega
      exact hk)]
    rfl
  · have hj1 : j < 1 := hj
    obtain rfl : j = 0 := by omega
    show ((97 + n).toUInt8).toNat < 128
    omega
structure LS where
  X : IX
  all : List En
  us : Int → Int
  sq : Int
/-- An entry that is added behind those of its slot. -/
def atE (st : LS) (e : En) : En := { e with off := st.us e.slot }
def dupA (st : LS) (e : En) : Bool := st.all.any (fun o => decide (o.slot = e.slot) && decide (o.seq = e.seq))
def pushA (st : LS) (e : En) : LS := ⟨addX st.X (atE st e), st.all ++ [atE st e], upd st.us e.slot (st.us e.slot + e.size), st.sq⟩
/-- What add does. -/
def addA (st : LS) (e : En) : LS := if dupA st e = true then st else pushA st e
def putE (k : ByteArray) (q s : Int) : En := ⟨q, k, false, s, 0, 18 + (k.size : Int)⟩
def delE (k : ByteArray) (q s : Int) : En := ⟨q, k, true, s, 0, 16 + (k.size : Int)⟩
def nextA (st : LS) : LS := { st with sq := st.sq + 1 }
def stepA (st : LS) (t : Ac) : LS :=
  if t.kind % 5 = 3 then addA (nextA st) (delE (acKey t.key) (st.sq + 1) (t.slot % 5))
  else if t.kind % 5 < 3 then addA (nextA st) (putE (acKey t.key) (st.sq + 1) (t.slot % 5))
  else if st.all = [] then st else addA st { (st.all.getD (t.key % st.all.length).toNat zE) with slot := t.slot % 5 }
def foldA (L : List Ac) : LS := L.foldl stepA ⟨ixNew 6, [], fun _ => 0, 0⟩
theorem foldA_snoc (L : List Ac) (t : Ac) : foldA (L ++ [t]) = stepA (foldA L) t := by simp [foldA]
structure LS.Ok (st : LS) (j : Nat) : Prop where
  g : FG st.X st.all st.us 6
  n : st.all.length ≤ j
  q0 : 0 ≤ st.sq
  q1 : st.sq ≤ j
  u : ∀ s, 0 ≤ st.us s ∧ st.us s ≤ 19 * j
  e : ∀ e ∈ st.all, 1 ≤ e.seq ∧ e.seq ≤ st.sq ∧ Low e.key ∧ e.key.size = 1 ∧ e.size ≤ 19
theorem LS.later {st : LS} {j j' : Nat} (h : st.Ok j) (hj : j ≤ j') : st.Ok j' := ⟨h.g, Nat.le_trans h.n hj, h.q0, by have := h.q1; omega, fun s => by have := h.u s; omega, h.e⟩
/-- What add says, of a copy or of a new entry. -/
structure AddS (st : LS) (e : En) : Prop where
  slot : 0 ≤ e.slot ∧ e.slot < 6
  sq : e.seq ≤ st.sq ∧ 1 ≤ e.seq
  k : keyChk e.key = 0 ∧ e.key.size = 1 ∧ Low e.key
  z : 17 ≤ e.size ∧ e.size ≤ 19 ∧ (e.size = 17 ∨ e.del = false)
  o : (∀ o ∈ st.all, o.seq ≠ e.seq) ∨ ∃ x ∈ st.all, x.seq = e.seq ∧ x.key = e.key ∧ x.del = e.del ∧ x.size = e.size
theorem addA_ok {st : LS} {j : Nat} {e : En} (h : st.Ok j) (hj : j ≤ 200) (a : AddS st e) :
    (dupA st e = true → addE st.X (atE st e) = 6) ∧ (dupA st e = false → addE st.X (atE st e) = 0) ∧ (addA st e).Ok (j + 1) ∧ Low (atE st e).key ∧ En64 (atE st e) ∧ 0 ≤ st.us e.slot ∧ st.us e.slot ≤ 3800 ∧ 0 ≤ e.size ∧ e.size ≤ 19 := by
  have hu := h.u e.slot
  have kz : (e.key.size : Int) = 1 := by rw [a.k.2.1]; rfl
  have hz : 17 ≤ e.size ∧ e.size ≤ 19 := ⟨a.z.1, a.z.2.1⟩
  have q1 := h.q1
  have hv : validE (atE st e) = true := (valid_iff _).2 ⟨a.k.1, a.sq.2, show e.seq ≤ 1099511627776 by have := a.sq.1; omega, hu.1, show 16 + (e.key.size : Int) ≤ e.size by omega,
    (a.z.2.2.imp (fun h => (show e.size = 16 + (e.key.size : Int) by omega)) id), show e.size ≤ (8192 : Int) by omega, show st.us e.slot ≤ 8192 - e.size by omega⟩
  have hdup : dupA st e = true ↔ ∃ o ∈ st.all, o.slot = (atE st e).slot ∧ o.seq = (atE st e).seq := by
    unfold dupA
    rw [List.any_eq_true]
    simp only [Bool.and_eq_true, decide_eq_true_eq]
    exact Iff.rfl
  have hpush : FG (addX st.X (atE st e)) (st.all ++ [atE st e]) (upd st.us e.slot (st.us e.slot + e.size)) 6 → (pushA st e).Ok (j + 1) := fun g => by
    refine ⟨g, ?_, h.q0, by show st.sq ≤ ((j + 1 : Nat) : Int); omega, fun s => ?_, fun o ho => ?_⟩
    · show (st.all ++ [_]).length ≤ j + 1
      have := h.n
      rw [List.length_append]; simp; omega
    · have hs := h.u s
      show 0 ≤ upd st.us e.slot (st.us e.slot + e.size) s ∧ upd st.us e.slot (st.us e.slot + e.size) s ≤ 19 * ((j + 1 : Nat) : Int)
      unfold upd
      split <;> omega
    · rcases List.mem_append.1 ho with ho | ho
      · exact h.e o ho
      · rw [List.mem_singleton.1 ho]
        exact ⟨a.sq.2, a.sq.1, a.k.2.2, a.k.2.1, hz.2⟩
  refine ⟨fun hd => ?_, fun hd => ?_, ?_, a.k.2.2, ⟨by show e.size ≤ 9223372036854775807; omega, by show -9223372036854775808 ≤ e.size; omega, by show e.key.size ≤ 140737488351232; rw [a.k.2.1]; decide⟩, hu.1, by omega, by omega, hz.2⟩
  · have hd := hdup.1 hd
    rcases a.o with ho | ⟨x, hx, e1, e2, e3, e4⟩
    · obtain ⟨o, hm, _, hq⟩ := hd
      exact absurd hq (ho o hm)
    · exact h.g.copyNo hx (En.ext' (show e.seq = x.seq from e1.symm) (show e.key = x.key from e2.symm) (show e.del = x.del from e3.symm) rfl rfl (show e.size = x.size from e4.symm)) a.slot.1 a.slot.2 hv hd
  · have hd' : ¬ ∃ o ∈ st.all, o.slot = (atE st e).slot ∧ o.seq = (atE st e).seq := fun hh => by rw [hdup.2 hh] at hd; cases hd
    rcases a.o with ho | ⟨x, hx, e1, e2, e3, e4⟩
    · exact (h.g.new (e := atE st e) ho a.slot.1 a.slot.2 hv (Int.le_refl _)).1
    · exact (h.g.copyYes (e := atE st e) hx (En.ext' (show e.seq = x.seq from e1.symm) (show e.key = x.key from e2.symm) (show e.del = x.del from e3.symm) rfl rfl (show e.size = x.size from e4.symm)) a.slot.1 a.slot.2 hv (Int.le_refl _) hd').1
  · unfold addA
    split
    · exact LS.later h (by omega)
    · rename_i hd
      have hd' : ¬ ∃ o ∈ st.all, o.slot = (atE st e).slot ∧ o.seq = (atE st e).seq := fun hh => hd (hdup.2 hh)
      rcases a.o with ho | ⟨x, hx, e1, e2, e3, e4⟩
      · exact hpush (h.g.new (e := atE st e) ho a.slot.1 a.slot.2 hv (Int.le_refl _)).2
      · exact hpush (h.g.copyYes (e := atE st e) hx (En.ext' (show e.seq = x.seq from e1.symm) (show e.key = x.key from e2.symm) (show e.del = x.del from e3.symm) rfl rfl (show e.size = x.size from e4.symm)) a.slot.1 a.slot.2 hv (Int.le_refl _) hd').2
theorem nextA_ok {st : LS} {j : Nat} (h : st.Ok j) : (nextA st).Ok (j + 1) :=
  ⟨h.g, by have := h.n; show st.all.length ≤ j + 1; omega, by have := h.q0; show 0 ≤ st.sq + 1; omega, by have := h.q1; show st.sq + 1 ≤ ((j + 1 : Nat) : Int); omega, fun s => by have := h.u s; show 0 ≤ st.us s ∧ st.us s ≤ 19 * ((j + 1 : Nat) : Int); omega, fun e he => by
    obtain ⟨h1, h2, h3⟩ := h.e e he
    exact ⟨h1, by show e.seq ≤ st.sq + 1; omega, h3⟩⟩
theorem newA {st : LS} {j : Nat} (h : st.Ok j) (k σ : Int) (hσ : 0 ≤ σ ∧ σ < 6) (d : Bool) : AddS (nextA st) ⟨st.sq + 1, acKey k, d, σ, 0, if d = true then 16 + ((acKey k).size : Int) else 18 + ((acKey k).size : Int)⟩ := by
  have h0 := h.q0
  refine ⟨hσ, ⟨Int.le_refl _, by show 1 ≤ st.sq + 1; omega⟩, acKey_ok k, ?_, .inl (fun o ho => ?_)⟩
  · have kz : ((acKey k).size : Int) = 1 := by rw [(acKey_ok k).2.1]; rfl
    cases d
    · exact ⟨show (17 : Int) ≤ 18 + ((acKey k).size : Int) by omega, show 18 + ((acKey k).size : Int) ≤ (19 : Int) by omega, .inr rfl⟩
    · exact ⟨show (17 : Int) ≤ 16 + ((acKey k).size : Int) by omega, show 16 + ((acKey k).size : Int) ≤ (19 : Int) by omega, .inl (show 16 + ((acKey k).size : Int) = 17 by omega)⟩
  · have := (h.e o ho).2.1
    show o.seq ≠ st.sq + 1
    omega
theorem copyA {st : LS} {j : Nat} (h : st.Ok j) {x : En} (hx : x ∈ st.all) (σ : Int) (hσ : 0 ≤ σ ∧ σ < 6) : AddS st { x with slot := σ } := by
  obtain ⟨h1, h2, h3, h4, h5⟩ := h.e x hx
  have hv := h.g.val hx
  have kz : (x.key.size : Int) = 1 := by rw [h4]; rfl
  exact ⟨hσ, ⟨h2, h1⟩, ⟨hv.1, h4, h3⟩, ⟨show (17 : Int) ≤ x.size by omega, h5, hv.2.2.2.2.2.1.imp (fun h => (show x.size = 17 by omega)) id⟩, .inr ⟨x, hx, rfl, rfl, rfl, rfl⟩⟩
end Go.Proofs.Ytmdfickejpeofaa

/- liveness: any, needed, Needed. -/
set_option linter.unusedVariables false
set_option linter.unusedSimpArgs false
namespace Go.Proofs.Ytmdfickejpeofaa
open Go.RowKit Go.Shelf
attribute [local go_sem] OvM cell_ovm obj_ovm
attribute [local go_sem] Oper.semAt_some

set_option maxRecDepth 40000 in
set_option maxHeartbeats 4000000 in
theorem any_any {w : World} {p : Option Addr} {X : IX} {S : Nat → Prop} (h : IXP w p X S) (k : ByteArray) {g : Nat} {lb : Array Value} {pr : En → Bool} {T : Nat → Prop} (hp : PredC g lb pr T w) :
    Calls Try.prog 116 #[.pointer p, .string k, .func (.func g) #[] lb] w fun e w' => e = .returned (.bool ((X.of k).any pr)) ∧ Gr w w' := by
  have H := Lib.hid h
  have HP := Lib.hid hp
  have heg := hp.enter
  clear h hp
  refine calls_of_wp_marks Try.func116 rfl ?_
  simp only [Try.ntmps116, List.size_toArray, List.length_cons, List.length_nil, Nat.reduceAdd, Nat.reduceSub, Array.replicate_succ, Array.replicate_zero, List.push_toArray, List.append_toArray, List.nil_append, List.cons_append]
  go_wp2_with fail
  obtain ⟨b5, hb5⟩ : ∃ q, q = w.heap.size := ⟨_, rfl⟩
  obtain ⟨w0, hw0⟩ : ∃ y, y = (w.alloc (.cells #[.func (.func g) #[] lb] 144)).alloc (.cells #[.bool false] 4) := ⟨_, rfl⟩
  have HSW : Hid (SW w [blkA (b5 + 1) (.cells #[.bool false] 4), blkA b5 (.cells #[.func (.func g) #[] lb] 144)] w0) := Lib.hid (by
    have := ((SW.start w).alloc (.cells #[.func (.func g) #[] lb] 144)).alloc (.cells #[.bool false] 4)
    simp only [World.size_alloc] at this
    rw [hw0, hb5]
    exact this)
  rw [← hw0, ← hb5]
  clear hw0 hb5
  refine (Of_any p k _).mono ?_
  rintro e' w1 ⟨bb, bk, rfl, h1, h2, h3, h4, hg⟩
  have HS1 := Lib.hid (HSW.out.gr hg)
  have HI := Lib.hid (H.out.gr HS1.out.g)
  have HSEQ := Lib.hid (SeqOfP HI.out k bb bk h1 h2)
  have HA : Hid (∀ q, (q = bb ∨ q = bk ∨ S q) → q < w1.heap.size) := Lib.hid (fun q hq => by
    have l1 := World.block_lt_of_cell? w1 ⟨bb, 0, none⟩ h1
    have l2 := World.block_lt_of_cell? w1 ⟨bk, 0, none⟩ h2
    rcases hq with rfl | rfl | hq
    · exact l1
    · exact l2
    · exact HI.out.lt q hq)
  have HZ : Hid (SWz w w1 (fun q => q = bb ∨ q = bk ∨ S q) [blkA (b5 + 1) (.cells #[.bool false] 4), blkA b5 (.cells #[.func (.func g) #[] lb] 144)] (fun _ => False) w1) := Lib.hid (SWz.start HS1.out (fun B hB k hk ha => by
    have l1 := HSW.out.s.lt hB k hk
    have l2 := HSW.out.n B hB k hk
    rcases ha with rfl | rfl | ha
    · omega
    · omega
    · have := H.out.lt k ha; omega))
  clear h1 h2 h3 h4 hg
  go_wp2_with fail
  apply wp_rangeFunc_zx (gf := 142) (lb := #[.pointer (some ⟨bb, 0, none⟩), .pointer (some ⟨bk, 0, none⟩)]) rfl (enters_of Try.func142 (by kernel_rfl) rfl) HSEQ.out (Mdh.refl _ w1) HA.out (fun _ => rfl)
    (fun Z pre X' => pre.any pr = false ∧ SWz w w1 (fun q => q = bb ∨ q = bk ∨ S q) [blkA (b5 + 1) (.cells #[.bool false] 4), blkA b5 (.cells #[.func (.func g) #[] lb] 144)] Z X')
    (fun _ _ _ => False)
    (fun Z pre X' => pre.any pr = true ∧ SWz w w1 (fun q => q = bb ∨ q = bk ∨ S q) [blkA (b5 + 1) (.cells #[.bool true] 4), blkA b5 (.cells #[.func (.func g) #[] lb] 144)] Z X')
    ((Apart.pure (fun pre : List En => pre.any pr = false)).and (SWz.apart HS1.out.g.sz (fun _ : List En => [blkA (b5 + 1) (.cells #[.bool false] 4), blkA b5 (.cells #[.func (.func g) #[] lb] 144)]))) apart_no
    ((Apart.pure (fun pre : List En => pre.any pr = true)).and (SWz.apart HS1.out.g.sz (fun _ : List En => [blkA (b5 + 1) (.cells #[.bool true] 4), blkA b5 (.cells #[.func (.func g) #[] lb] 144)])))
    ⟨rfl, HZ.out⟩ (fun Z pre X' h => h.2.frm HS1.out.g) (fun x => .cells #[.int .i64 x.seq, .string x.key, .bool x.del, .int .i64 x.slot, .int .i64 x.off, .int .i64 x.size] 53)
    _ ?assign ?body ?hend ?hret
  case assign =>
    intro l x bx X' K hbx hK
    dsimp only [encE, enV]
    gi_wp2
    rw [← hbx]
    exact hK
  case body =>
    intro l Z pre x bx X' hI hbx hx hzx hzl hlr hsp
    have HIZ := Lib.hid hI
    have HX := Lib.hid hx
    have HB5 := Lib.hid (show X'.heap[b5]? = _ from hI.2.s.get (i := 1) rfl)
    have HB6 := Lib.hid (show X'.heap[b5 + 1]? = _ from hI.2.s.get (i := 0) rfl)
    have dx := (cellsOf HX.out).1
    have d5 := (cellsOf HB5.out).1
    have HR := Lib.hid ((HP.out.gr hI.2.s.g).run x X' (Mdh.refl _ _))
    clear hI hbx hx hzx hzl hlr hsp
    gi_wp2_with fail
    refine ⟨trivial, (CallsIn.inRound l (callsIn_wide.2 HR.out)).mono ?_⟩
    rintro e w9 ⟨rfl, hg9⟩
    have HG9 := Lib.hid hg9
    have HZ9 := Lib.hid (HIZ.out.2.gr hg9)
    obtain ⟨d6, f6⟩ := cellsOf (hg9.blk HB6.out)
    cases hpx : pr x with
    | true =>
      have HPX : Hid ((pre ++ [x]).any pr = true) := Lib.hid (by simp [hpx])
      have HB7 := Lib.hid (HZ9.out.1.box (i := 0) rfl HA.out ((Mdh.refl (fun k => k = b5 + 1) w9).setCell (p := ⟨b5 + 1, 0, none⟩) rfl (.bool true)) (blkSet (j := 0) (u := .bool true) (hg9.blk HB6.out)))
      clear hpx hg9
      gi_wp2_with fail
      exact ⟨(HZ9.out.2.trans HB7.out.2).mono (fun k h => h.2), HPX.out, HB7.out.1⟩
    | false =>
      have HPX : Hid ((pre ++ [x]).any pr = false) := Lib.hid (by rw [List.any_append, HIZ.out.1]; simp [hpx])
      clear hpx hg9
      gi_wp2_with fail
      exact ⟨HZ9.out.2, HPX.out, HZ9.out.1⟩
  case hend =>
    intro Z D xs W hD hZD hcase hdef
    obtain ⟨hxs, hI⟩ := hcase.elim (fun h => h) (fun h => h.2.elim)
    have HE : Hid ((X.of k).any pr = false) := Lib.hid (by rw [← show xs = X.of k from hxs]; exact hI.1)
    have HD := Lib.hid (And.intro hD (And.intro hZD hdef))
    have hb6 : W.heap[b5 + 1]? = _ := hI.2.s.get (i := 0) rfl
    have HB6 := Lib.hid hb6
    obtain ⟨d6, f6⟩ := cellsOf hb6
    have HIW := Lib.hid hI.2
    clear hI hcase hxs hb6 hD hZD hdef
    dsimp only
    go_wp2_with fail
    obtain ⟨hD, hZD, hdef⟩ := HD.out
    have n6 : D ≠ b5 + 1 := fun e => HIW.out.z _ (List.mem_cons_self ..) (b5 + 1) rfl (e ▸ hZD)
    have hW2 : (W.setCell ⟨b5 + 1, 0, none⟩ (.bool false)).heap[b5 + 1]? = _ := blkSet (j := 0) (u := .bool false) HB6.out
    have h4' : ((W.setCell ⟨b5 + 1, 0, none⟩ (.bool false)).putObj D (.deferred none)).heap[b5 + 1]? = _ := (World.putObj_heap_other n6.symm).trans hW2
    obtain ⟨d4, _⟩ := cellsOf h4'
    refine retM1 (D := D) (v := .bool false) rfl (blkSetO hdef n6) ?_ ⟨by rw [HE.out], (Gr.setCell HIW.out.s.g (p := ⟨b5 + 1, 0, none⟩) (HSW.out.n _ (List.mem_cons_self ..) _ rfl) _).putObj (by have := HS1.out.g.sz; omega) _⟩
    simp [results, Try.results116, go_sem, d4]
  case hret =>
    intro Z D pre W hD hZD hsp hI hdef
    have HE : Hid ((X.of k).any pr = true) := Lib.hid (by
      obtain ⟨t, ht⟩ := hsp
      rw [← show pre ++ t = X.of k from ht, List.any_append, hI.1]; rfl)
    have hb6 : W.heap[b5 + 1]? = _ := hI.2.s.get (i := 0) rfl
    have n6 : D ≠ b5 + 1 := fun e => hI.2.z _ (List.mem_cons_self ..) (b5 + 1) rfl (e ▸ hZD)
    have h4' : (W.putObj D (.deferred none)).heap[b5 + 1]? = _ := (World.putObj_heap_other n6.symm).trans hb6
    obtain ⟨d4, _⟩ := cellsOf h4'
    dsimp only
    go_wp2_with fail
    refine retM1 (D := D) (v := .bool true) rfl hdef ?_ ⟨by rw [HE.out], hI.2.s.g.putObj (by have := HS1.out.g.sz; omega) _⟩
    simp [results, Try.results116, go_sem, d4]

/-! ### needed -/
def nd1 (e y : En) : Bool := decide (e.seq < y.seq)
def nd2 (e y : En) : Bool := decide (y.seq = e.seq ∧ y.slot ≠ e.slot)
def nd3 (e y : En) : Bool := decide (y.seq < e.seq ∧ y.slot ≠ e.slot)
def IX.needs (X : IX) (e : En) : Bool := if (X.of e.key).any (nd1 e) = true then false else if (X.of e.key).any (nd2 e) = true then false else if e.del = false then true else (X.of e.key).any (nd3 e)
abbrev boxE (e : En) : Obj := .cells #[.int .i64 e.seq, .string e.key, .bool e.del, .int .i64 e.slot, .int .i64 e.off, .int .i64 e.size] 53
set_option maxRecDepth 40000 in
theorem need1 (y e : En) (be : Nat) (w : World) (h : w.heap[be]? = some (boxE e)) : Calls Try.prog 160 #[enV y, .pointer (some ⟨be, 0, none⟩)] w fun r w' => r = .returned (.bool (nd1 e y)) ∧ Gr w w' := by
  have c := (cellsOf h).1
  have l := blkLt h
  have HN : Hid (nd1 e y = decide (e.seq < y.seq)) := Lib.hid rfl
  rw [HN.out]
  simp only [enV]
  by_cases h1 : y.seq = e.seq
  all_goals by_cases h2 : y.slot = e.slot
  all_goals
    go_enter Try.func160, Try.ntmps160
    go_wp2
    all_goals
      go_ret
      exact ⟨ret_bool (by first | rfl | (simp_all; done) | (simp_all; omega)), by (repeat (first | (with_reducible exact Gr.refl _) | assumption | (with_reducible apply Gr.from_drew) | (with_reducible apply Gr.alloc) | (with_reducible apply Gr.drew) | (with_reducible refine Gr.trans ?_ (by assumption)) | (with_reducible refine Gr.setCell ?_ (by omega) _)))⟩
theorem needP1 (e : En) (be : Nat) (w : World) (h : w.heap[be]? = some (boxE e)) : PredC 160 #[.pointer (some ⟨be, 0, none⟩)] (nd1 e) (fun _ => False) w :=
  ⟨enters_of Try.func160 (by kernel_rfl) rfl, fun x w' m => need1 x e be w' (m.blk h (fun h => h))⟩
set_option maxRecDepth 40000 in
theorem need2 (y e : En) (be : Nat) (w : World) (h : w.heap[be]? = some (boxE e)) : Calls Try.prog 161 #[enV y, .pointer (some ⟨be, 0, none⟩)] w fun r w' => r = .returned (.bool (nd2 e y)) ∧ Gr w w' := by
  have c := (cellsOf h).1
  have l := blkLt h
  have HN : Hid (nd2 e y = decide (y.seq = e.seq ∧ y.slot ≠ e.slot)) := Lib.hid rfl
  rw [HN.out]
  simp only [enV]
  by_cases h1 : y.seq = e.seq
  all_goals by_cases h2 : y.slot = e.slot
  all_goals
    go_enter Try.func161, Try.ntmps161
    go_wp2
    all_goals
      go_ret
      exact ⟨ret_bool (by first | rfl | (simp_all; done) | (simp_all; omega)), by (repeat (first | (with_reducible exact Gr.refl _) | assumption | (with_reducible apply Gr.from_drew) | (with_reducible apply Gr.alloc) | (with_reducible apply Gr.drew) | (with_reducible refine Gr.trans ?_ (by assumption)) | (with_reducible refine Gr.setCell ?_ (by omega) _)))⟩
theorem needP2 (e : En) (be : Nat) (w : World) (h : w.heap[be]? = some (boxE e)) : PredC 161 #[.pointer (some ⟨be, 0, none⟩)] (nd2 e) (fun _ => False) w :=
  ⟨enters_of Try.func161 (by kernel_rfl) rfl, fun x w' m => need2 x e be w' (m.blk h (fun h => h))⟩
set_option maxRecDepth 40000 in
theorem need3 (y e : En) (be : Nat) (w : World) (h : w.heap[be]? = some (boxE e)) : Calls Try.prog 162 #[enV y, .pointer (some ⟨be, 0, none⟩)] w fun r w' => r = .returned (.bool (nd3 e y)) ∧ Gr w w' := by
  have c := (cellsOf h).1
  have l := blkLt h
  have HN : Hid (nd3 e y = decide (y.seq < e.seq ∧ y.slot ≠ e.slot)) := Lib.hid rfl
  rw [HN.out]
  simp only [enV]
  by_cases h1 : y.seq = e.seq
  all_goals by_cases h2 : y.slot = e.slot
  all_goals
    go_enter Try.func162, Try.ntmps162
    go_wp2
    all_goals
      go_ret
      exact ⟨ret_bool (by first | rfl | (simp_all; done) | (simp_all; omega)), by (repeat (first | (with_reducible exact Gr.refl _) | assumption | (with_reducible apply Gr.from_drew) | (with_reducible apply Gr.alloc) | (with_reducible apply Gr.drew) | (with_reducible refine Gr.trans ?_ (by assumption)) | (with_reducible refine Gr.setCell ?_ (by omega) _)))⟩
theorem needP3 (e : En) (be : Nat) (w : World) (h : w.heap[be]? = some (boxE e)) : PredC 162 #[.pointer (some ⟨be, 0, none⟩)] (nd3 e) (fun _ => False) w :=
  ⟨enters_of Try.func162 (by kernel_rfl) rfl, fun x w' m => need3 x e be w' (m.blk h (fun h => h))⟩
set_option maxRecDepth 40000 in
set_option maxHeartbeats 2000000 in
theorem needed_any {w : World} {p : Option Addr} {X : IX} {S : Nat → Prop} (h : IXP w p X S) (e : En) : Calls Try.prog 118 #[.pointer p, enV e] w fun r w' => r = .returned (.bool (X.needs e)) ∧ Gr w w' := by
  have H := Lib.hid h
  clear h
  simp only [enV]
  have HE : Hid (X.needs e = if (X.of e.key).any (nd1 e) = true then false else if (X.of e.key).any (nd2 e) = true then false else if e.del = false then true else (X.of e.key).any (nd3 e)) := Lib.hid rfl
  go_enter Try.func118, Try.ntmps118
  go_wp2_with fail
  obtain ⟨b, hb⟩ : ∃ q, q = w.heap.size := ⟨_, rfl⟩
  obtain ⟨w0, hw0⟩ : ∃ y, y = w.alloc (boxE e) := ⟨_, rfl⟩
  have H0 : Hid (Gr w w0 ∧ w0.heap[b]? = some (boxE e)) := Lib.hid (by rw [hw0, hb]; exact ⟨(Gr.refl w).alloc _, blkNew w _⟩)
  rw [← show w0 = w.alloc (.cells #[.int .i64 e.seq, .string e.key, .bool e.del, .int .i64 e.slot, .int .i64 e.off, .int .i64 e.size] 53) from hw0, ← hb]
  clear hw0 hb
  refine (any_any (H.out.gr H0.out.1) e.key (needP1 e b w0 H0.out.2)).mono ?_
  rintro r w1 ⟨rfl, hg⟩
  have H1 := Lib.hid (And.intro (H0.out.1.trans hg) (hg.blk H0.out.2))
  clear hg
  cases h1 : (X.of e.key).any (nd1 e) with
  | true =>
    have HR : Hid (X.needs e = false) := Lib.hid (by rw [HE.out, h1]; rfl)
    clear h1
    go_wp2
    go_ret
    exact ⟨by rw [HR.out] <;> rfl, H1.out.1⟩
  | false =>
    have HE1 : Hid (X.needs e = if (X.of e.key).any (nd2 e) = true then false else if e.del = false then true else (X.of e.key).any (nd3 e)) := Lib.hid (by rw [HE.out, h1]; rfl)
    have c1 := (cellsOf H1.out.2).1
    clear h1
    go_wp2_with fail
    refine (any_any (H.out.gr H1.out.1) e.key (needP2 e b w1 H1.out.2)).mono ?_
    rintro r w2 ⟨rfl, hg⟩
    have H2 := Lib.hid (And.intro (H1.out.1.trans hg) (hg.blk H1.out.2))
    clear hg c1
    cases h2 : (X.of e.key).any (nd2 e) with
    | true =>
      have HR : Hid (X.needs e = false) := Lib.hid (by rw [HE1.out, h2]; rfl)
      clear h2
      go_wp2
      go_ret
      exact ⟨by rw [HR.out] <;> rfl, H2.out.1⟩
    | false =>
      have HE2 : Hid (X.needs e = if e.del = false then true else (X.of e.key).any (nd3 e)) := Lib.hid (by rw [HE1.out, h2]; rfl)
      have c2 := (cellsOf H2.out.2).1
      clear h2
      cases hd : e.del with
      | false =>
        have HR : Hid (X.needs e = true) := Lib.hid (by rw [HE2.out, hd]; rfl)
        rw [hd] at c2
        clear hd
        go_wp2
        go_ret
        exact ⟨by rw [HR.out] <;> rfl, H2.out.1⟩
      | true =>
        have HR : Hid (X.needs e = (X.of e.key).any (nd3 e)) := Lib.hid (by rw [HE2.out, hd]; rfl)
        rw [hd] at c2
        clear hd
        go_wp2_with fail
        refine (any_any (H.out.gr H2.out.1) e.key (needP3 e b w2 H2.out.2)).mono ?_
        rintro r w3 ⟨rfl, hg⟩
        have HG := Lib.hid (H2.out.1.trans hg)
        clear hg
        go_wp2
        go_ret
        exact ⟨by rw [HR.out] <;> rfl, HG.out⟩
end Go.Proofs.Ytmdfickejpeofaa

/- liveness: Needed, Keep, Size, Redundant. -/
set_option linter.unusedVariables false
set_option linter.unusedSimpArgs false
namespace Go.Proofs.Ytmdfickejpeofaa
open Go.RowKit Go.Shelf
attribute [local go_sem] OvM cell_ovm obj_ovm
attribute [local go_sem] Oper.semAt_some

def IX.hasE (X : IX) (e : En) : Bool := (X.of e.key).any (fun o => decide (o = e))
def neededV (X : IX) (e : En) : Value := if X.slots = [] then .tuple #[.bool false, .int .i64 1] else if X.hasE e = false then .tuple #[.bool false, .int .i64 5] else .tuple #[.bool (X.needs e), .int .i64 0]
set_option maxRecDepth 40000 in
theorem Need1 (o e : En) (be : Nat) (w : World) (h : w.heap[be]? = some (boxE e)) :
    Calls Try.prog 117 #[enV o, .pointer (some ⟨be, 0, none⟩)] w fun r w' => r = .returned (.bool (decide (o = e))) ∧ Gr w w' := by
  have c := (cellsOf h).1
  have l := blkLt h
  have k1 := eqlE_run o e
  simp only [enV]
  go_enter Try.func117, Try.ntmps117
  go_wp2
  go_ret
  exact ⟨rfl, by (repeat (first | (with_reducible exact Gr.refl _) | assumption | (with_reducible apply Gr.from_drew) | (with_reducible apply Gr.alloc) | (with_reducible apply Gr.drew) | (with_reducible refine Gr.trans ?_ (by assumption)) | (with_reducible refine Gr.setCell ?_ (by omega) _)))⟩
theorem NeedP (e : En) (be : Nat) (w : World) (h : w.heap[be]? = some (boxE e)) : PredC 117 #[.pointer (some ⟨be, 0, none⟩)] (fun o => decide (o = e)) (fun _ => False) w :=
  ⟨enters_of Try.func117 (by kernel_rfl) rfl, fun x w' m => Need1 x e be w' (m.blk h (fun h => h))⟩
set_option maxRecDepth 40000 in
set_option maxHeartbeats 2000000 in
theorem Needed_any {w : World} {p : Option Addr} {X : IX} {S : Nat → Prop} (h : IXP w p X S) (e : En) : Calls Try.prog 37 #[.pointer p, enV e] w fun r w' => r = .returned (neededV X e) ∧ Gr w w' := by
  have H := Lib.hid h
  clear h
  simp only [enV]
  have HE : Hid (neededV X e = if X.slots = [] then .tuple #[.bool false, .int .i64 1] else if X.hasE e = false then .tuple #[.bool false, .int .i64 5] else .tuple #[.bool (X.needs e), .int .i64 0]) := Lib.hid rfl
  go_enter Try.func37, Try.ntmps37
  go_wp2_with fail
  obtain ⟨b, hb⟩ : ∃ q, q = w.heap.size := ⟨_, rfl⟩
  obtain ⟨w0, hw0⟩ : ∃ y, y = w.alloc (boxE e) := ⟨_, rfl⟩
  have H0 : Hid (Gr w w0 ∧ w0.heap[b]? = some (boxE e)) := Lib.hid (by rw [hw0, hb]; exact ⟨(Gr.refl w).alloc _, blkNew w _⟩)
  rw [← show w0 = w.alloc (.cells #[.int .i64 e.seq, .string e.key, .bool e.del, .int .i64 e.slot, .int .i64 e.off, .int .i64 e.size] 53) from hw0, ← hb]
  clear hw0 hb
  refine (Copy_any (H.out.gr H0.out.1)).mono ?_
  rintro r w1 ⟨q, rfl, hg, hq, _⟩
  have H1 := Lib.hid (And.intro (H0.out.1.trans hg) (hg.blk H0.out.2))
  have c1 := (cellsOf H1.out.2).1
  clear hg
  by_cases h0 : X.slots = []
  · have hq0 := hq.2 h0
    have HR : Hid (neededV X e = .tuple #[.bool false, .int .i64 1]) := Lib.hid (by rw [HE.out, if_pos h0])
    clear h0 hq
    subst hq0
    go_wp2
    go_ret2
    exact ⟨by rw [HR.out] <;> rfl, H1.out.1⟩
  · have HR : Hid (neededV X e = if X.hasE e = false then .tuple #[.bool false, .int .i64 5] else .tuple #[.bool (X.needs e), .int .i64 0]) := Lib.hid (by rw [HE.out, if_neg h0])
    obtain ⟨q', rfl⟩ : ∃ q', q = some q' := by
      cases q with
      | none => exact absurd (hq.1 rfl) h0
      | some q' => exact ⟨q', rfl⟩
    clear h0 hq
    go_wp2_with fail
    refine (any_any (H.out.gr H1.out.1) e.key (NeedP e b w1 H1.out.2)).mono ?_
    rintro r w2 ⟨rfl, hg⟩
    rw [show (X.of e.key).any (fun o => decide (o = e)) = X.hasE e from rfl]
    have H2 := Lib.hid (And.intro (H1.out.1.trans hg) (hg.blk H1.out.2))
    clear hg c1
    cases h1 : X.hasE e with
    | false =>
      have HR2 : Hid (neededV X e = .tuple #[.bool false, .int .i64 5]) := Lib.hid (by rw [HR.out, if_pos h1])
      clear h1
      go_wp2
      go_ret2
      exact ⟨by rw [HR2.out] <;> rfl, H2.out.1⟩
    | true =>
      have HR2 : Hid (neededV X e = .tuple #[.bool (X.needs e), .int .i64 0]) := Lib.hid (by rw [HR.out, if_neg (by rw [h1]; simp)])
      have c2 := (cellsOf H2.out.2).1
      clear h1
      go_wp2_with fail
      refine (needed_any (H.out.gr H2.out.1) e).mono ?_
      rintro r w3 ⟨rfl, hg⟩
      have H3 := Lib.hid (H2.out.1.trans hg)
      clear hg
      go_wp2
      go_ret2
      exact ⟨by rw [HR2.out] <;> rfl, H3.out⟩

/-! ### Keep -/
def keepL (X : IX) (s : Int) : List En := (X.slot s).filter X.needs
def keepC (X : IX) (s : Int) : Int := if X.slots = [] then 1 else if X.has s = false then 3 else 0
theorem keep_out {X : IX} {s : Int} (h : keepC X s ≠ 0) : keepL X s = [] := by
  unfold keepL
  rw [slot_out]
  · rfl
  · unfold keepC at h
    split at h
    · rename_i h0
      simp [IX.has, h0]
    · split at h
      · assumption
      · exact absurd rfl h
def KeepPost (X : IX) (s : Int) (w : World) (e : Ending) (w' : World) : Prop := ∃ v, e = .returned (.tuple #[v, .int .i64 (keepC X s)]) ∧ Nw w w' 53 6 v (keepL X s).length (rowE (keepL X s)) ∧ Gr w w'
theorem filter_yes {α : Type} {p : α → Bool} {l : List α} {x : α} (h : p x = true) : (l ++ [x]).filter p = l.filter p ++ [x] := by simp [h]
theorem filter_no {α : Type} {p : α → Bool} {l : List α} {x : α} (h : p x = false) : (l ++ [x]).filter p = l.filter p := by simp [h]
set_option maxRecDepth 40000 in
set_option maxHeartbeats 8000000 in
theorem Keep_any {w : World} {p : Option Addr} {X : IX} {S : Nat → Prop} (h : IXP w p X S) (s : Int) : Calls Try.prog 39 #[.pointer p, .int .i64 s] w (KeepPost X s w) := by
  obtain ⟨i0, hi, hz0, hz1, hz2⟩ := info_parts infoIten
  have H := Lib.hid h
  have HLE := Lib.hid (h.ok.slot_le s)
  have HHAS := Lib.hid (show X.has s = decide (0 ≤ s ∧ s < X.slots.length) from rfl)
  clear h
  refine calls_of_wp_marks Try.func39 rfl ?_
  simp only [Try.ntmps39, List.size_toArray, List.length_cons, List.length_nil, Nat.reduceAdd, Nat.reduceSub, Array.replicate_succ, Array.replicate_zero, List.push_toArray, List.append_toArray, List.nil_append, List.cons_append]
  go_wp2_with fail
  obtain ⟨b2, hb2⟩ : ∃ q, q = w.heap.size := ⟨_, rfl⟩
  obtain ⟨w0, hw0⟩ : ∃ y, y = w.alloc (.cells #[.pointer p] 46) := ⟨_, rfl⟩
  have H0 : Hid (SW w [blkA b2 (.cells #[.pointer p] 46)] w0) := Lib.hid (by rw [hw0, hb2]; exact (SW.start w).alloc _)
  rw [← hw0, ← hb2]
  clear hw0 hb2
  refine (Copy_any (H.out.gr H0.out.g)).mono ?_
  rintro r w1 ⟨q, rfl, hg, hq, _⟩
  have H1 := Lib.hid (H0.out.gr hg)
  have c1 := (cellsOf (show w1.heap[b2]? = _ from H1.out.get (i := 0) rfl)).1
  clear hg
  by_cases h0 : X.slots = []
  · have hq0 := hq.2 h0
    have HC : Hid (keepC X s = 1) := Lib.hid (by unfold keepC; rw [if_pos h0])
    have HL : Hid (keepL X s = []) := Lib.hid (keep_out (by rw [HC.out]; decide))
    clear h0 hq
    subst hq0
    go_wp2_with fail
    exact retM0 (v := .tuple #[.slice none 0 0, .int .i64 1]) (by simp [results, Try.results39, go_sem]) rfl ⟨_, by rw [HC.out], by rw [HL.out]; exact ⟨nilRow _ _ _, fun k hk => by cases hk⟩, H1.out.g⟩
  · obtain ⟨q', rfl⟩ : ∃ q', q = some q' := by
      cases q with
      | none => exact absurd (hq.1 rfl) h0
      | some q' => exact ⟨q', rfl⟩
    have HNE := Lib.hid h0
    clear h0 hq
    cases hs : X.has s with
    | false =>
      have HC : Hid (keepC X s = 3) := Lib.hid (by unfold keepC; rw [if_neg HNE.out, if_pos hs])
      have HL : Hid (keepL X s = []) := Lib.hid (keep_out (by rw [HC.out]; decide))
      have hh := HHAS.out
      rw [hs] at hh
      have hh' : ¬ (0 ≤ s ∧ s < X.slots.length) := of_decide_eq_false hh.symm
      clear hs hh
      by_cases hs0 : s < 0
      · go_wp2_with fail
        exact retM0 (v := .tuple #[.slice none 0 0, .int .i64 3]) (by simp [results, Try.results39, go_sem]) rfl ⟨_, by rw [HC.out], by rw [HL.out]; exact ⟨nilRow _ _ _, fun k hk => by cases hk⟩, H1.out.g⟩
      · have hs1 : (X.slots.length : Int) ≤ s := by omega
        clear hh'
        go_wp2_with (go_at_call 87; refine (Slots_any (H.out.gr H1.out.g)).mono ?_; rintro r w2 ⟨rfl, rfl⟩)
        exact retM0 (v := .tuple #[.slice none 0 0, .int .i64 3]) (by simp [results, Try.results39, go_sem]) rfl ⟨_, by rw [HC.out], by rw [HL.out]; exact ⟨nilRow _ _ _, fun k hk => by cases hk⟩, H1.out.g⟩
    | true =>
      have HC : Hid (keepC X s = 0) := Lib.hid (by unfold keepC; rw [if_neg HNE.out, if_neg (by rw [hs]; simp)])
      have hh := HHAS.out
      rw [hs] at hh
      obtain ⟨hs0, hs1⟩ := of_decide_eq_true hh.symm
      have hs0' : ¬ s < 0 := by omega
      have hs1' : ¬ (X.slots.length : Int) ≤ s := by omega
      clear hs hh hs0 hs1
      have lb2 := blkLt (show w1.heap[b2]? = _ from H1.out.get (i := 0) rfl)
      go_wp2_with (first
        | (go_at_call 87; refine (Slots_any (H.out.gr H1.out.g)).mono ?_; rintro r w2 ⟨rfl, rfl⟩)
        | fail)
      obtain ⟨bo, hbo⟩ : ∃ q, q = w1.heap.size := ⟨_, rfl⟩
      have HS2 : Hid (SW w [blkA bo (.cells #[.slice none 0 0] 45), rowA 53 6 (.slice none 0 0) 0 [], blkA b2 (.cells #[.pointer p] 46)] (w1.alloc (.cells #[.slice none 0 0] 45))) := Lib.hid (by
        rw [hbo]
        exact (H1.out.new (Gr.refl _) (A := rowA 53 6 (.slice none 0 0) 0 []) (nilRow _ _ _) (fun k hk => by cases hk)).alloc _)
      obtain ⟨w2, hw2⟩ : ∃ y, y = w1.alloc (.cells #[.slice none 0 0] 45) := ⟨_, rfl⟩
      rw [← hw2] at HS2
      rw [← hw2, ← hbo]
      clear hw2 hbo c1 hs0' hs1' lb2
      refine (Slot_any p s _).mono ?_
      rintro e' w3 ⟨bb, bk, rfl, h1, h2, h3, h4, hg⟩
      have HS3 := Lib.hid (HS2.out.gr hg)
      have HI := Lib.hid (H.out.gr HS3.out.g)
      have HSEQ := Lib.hid (SeqSlotP HI.out s bb bk h1 h2)
      have HA : Hid (∀ q, (q = bb ∨ q = bk ∨ S q) → q < w3.heap.size) := Lib.hid (fun q hq => by
        have l1 := World.block_lt_of_cell? w3 ⟨bb, 0, none⟩ h1
        have l2 := World.block_lt_of_cell? w3 ⟨bk, 0, none⟩ h2
        rcases hq with rfl | rfl | hq
        · exact l1
        · exact l2
        · exact HI.out.lt q hq)
      have HZ : Hid (SWz w w3 (fun q => q = bb ∨ q = bk ∨ S q) [blkA bo (.cells #[.slice none 0 0] 45), rowA 53 6 (.slice none 0 0) 0 [], blkA b2 (.cells #[.pointer p] 46)] (fun _ => False) w3) := Lib.hid (SWz.start HS3.out (fun B hB k hk ha => by
        have l1 := HS2.out.s.lt hB k hk
        have l2 := HS2.out.n B hB k hk
        rcases ha with rfl | rfl | ha
        · omega
        · omega
        · have := H.out.lt k ha; omega))
      clear h1 h2 h3 h4 hg
      go_wp2_with fail
      apply wp_rangeFunc_zx (gf := 152) (lb := #[.pointer (some ⟨bb, 0, none⟩), .pointer (some ⟨bk, 0, none⟩)]) rfl (enters_of Try.func152 (by kernel_rfl) rfl) HSEQ.out (Mdh.refl _ w3) HA.out (fun _ => rfl)
        (fun Z pre X' => ∃ v, SWz w w3 (fun q => q = bb ∨ q = bk ∨ S q) [blkA bo (.cells #[v] 45), rowA 53 6 v (pre.filter X.needs).length (rowE (pre.filter X.needs)), blkA b2 (.cells #[.pointer p] 46)] Z X')
        (fun _ _ _ => False) (fun _ _ _ => False)
        (Apart.ex fun v => SWz.apart HS3.out.g.sz (fun pre : List En => [blkA bo (.cells #[v] 45), rowA 53 6 v (pre.filter X.needs).length (rowE (pre.filter X.needs)), blkA b2 (.cells #[.pointer p] 46)])) apart_no apart_no
        ⟨_, HZ.out⟩ (fun Z pre X' ⟨v, h⟩ => h.frm HS3.out.g) (fun x => boxE x)
        _ ?assign ?body ?hend ?hret
      case hret => intro _ _ _ _ _ _ _ h; exact h.elim
      case assign =>
        intro l x bx X' K hbx hK
        dsimp only [encE, enV]
        gi_wp2
        rw [← hbx]
        exact hK
      case body =>
        intro l Z pre x bx X' hI hbx hx hzx hzl hlr hsp
        obtain ⟨v, hI⟩ := hI
        have HIZ := Lib.hid hI
        have HX := Lib.hid hx
        have HB2 := Lib.hid (show X'.heap[b2]? = _ from hI.s.get (i := 2) rfl)
        have HPL : Hid (pre.length ≤ 511) := Lib.hid (by have := hsp.length_le; have := HLE.out; simp at *; omega)
        have dx := (cellsOf HX.out).1
        have d2 := (cellsOf HB2.out).1
        have HIX : Hid (IXP X' p X S) := Lib.hid (H.out.gr hI.s.g)
        clear hI hbx hx hzx hzl hlr hsp
        gi_wp2_with fail
        refine ⟨trivial, (CallsIn.inRound l (callsIn_wide.2 (needed_any HIX.out x))).mono ?_⟩
        rintro e w9 ⟨rfl, hg9⟩
        have HZ9 := Lib.hid (HIZ.out.gr hg9)
        have HX9 := Lib.hid (hg9.blk HX.out)
        clear hg9 d2 dx
        cases hnx : X.needs x with
        | false =>
          have HN := Lib.hid (filter_no (l := pre) hnx)
          clear hnx
          gi_wp2_with fail
          exact ⟨HZ9.out.2, v, by rw [HN.out]; exact HZ9.out.1⟩
        | true =>
          have HN := Lib.hid (filter_yes (l := pre) hnx)
          have HFL : Hid ((pre.filter X.needs).length ≤ 511) := Lib.hid (Nat.le_trans (List.length_filter_le _ _) HPL.out)
          generalize pre.filter X.needs = kept at *
          have HO := Lib.hid (show Own w9 53 6 v kept.length (rowE kept) from HZ9.out.1.s.get (i := 1) rfl)
          have HB := Lib.hid (show w9.heap[bo]? = _ from HZ9.out.1.s.get (i := 0) rfl)
          have dx := (cellsOf HX9.out).1
          have lx := blkLt HX9.out
          obtain ⟨db, fb⟩ := cellsOf HB.out
          have lbb := blkLt HB.out
          have HNB : Hid (¬ v.ownBlock = some bo) := Lib.hid (own_ne HO.out HB.out (by decide))
          have hfl := HFL.out
          clear hnx
          gi_wp2_with (first
            | (gi_at_builtin; go_must (refine wpListIn_appv _ rfl (.tmp 28) (.tmp 30) 45 rfl 53 i0 _ 6 56 Try.underlying45 hi hz0 hz1 hz2 rfl (by decide) v kept.length (rowE kept) rfl (HO.out.gr (by (repeat (first | (with_reducible exact Gr.refl _) | assumption | (with_reducible apply Gr.from_drew) | (with_reducible apply Gr.alloc) | (with_reducible apply Gr.drew) | (with_reducible refine Gr.trans ?_ (by assumption)) | (with_reducible refine Gr.setCell ?_ (by omega) _))))) (some ⟨w9.heap.size, 0, none⟩) 1 1 (enC x) rfl ((src_newK w9 (enC x) _ 6 rfl (enC_one x))) (by simp only [maxLen]; omega) (by omega) ?_); intro v2 w10 hA; obtain ⟨a2, c2, rfl⟩ := hA.val; have HAV := Lib.hid hA; have HB2 := Lib.hid ((hA.mdh (fun g h => h)).blk (((Gr.refl w9).alloc _).blk HB.out) HNB.out); clear hA; obtain ⟨db2, fb2⟩ := cellsOf HB2.out)
            | fail)
          have z2 := HZ9.out.1.gr ((Gr.refl w9).alloc (.cells (enC x).toArray 53))
          have z3 := z2.1.step (i := 1) (B' := rowA 53 6 (.slice a2 (kept.length + 1) c2) (kept.length + 1) (rowE kept ++ enC x)) rfl HA.out (HAV.out.mdh (fun g h => h)) (fun k hk => .inl hk) HAV.out.1 (fun k hq => HAV.out.2.1 k hq)
          have z4 := z3.1.step (i := 0) (B' := blkA bo (.cells #[.slice a2 (kept.length + 1) c2] 45)) rfl HA.out ((Mdh.refl (fun k => k = bo) w10).setCell (p := ⟨bo, 0, none⟩) rfl (.slice a2 (kept.length + 1) c2)) (fun k hk => .inl hk) (blkSet (j := 0) (u := .slice a2 (kept.length + 1) c2) HB2.out) (fun k hk => .inl hk)
          refine ⟨((HZ9.out.2.trans z2.2).trans z3.2).trans z4.2, .slice a2 (kept.length + 1) c2, ?_⟩
          rw [HN.out, rowE_snoc, List.length_append]
          exact z4.1
      case hend =>
        intro Z D xs W hD hZD hcase hdef
        obtain ⟨hxs, v, hI⟩ := hcase.elim (fun h => h) (fun h => h.2.elim)
        have hxs' : xs = X.slot s := hxs
        subst hxs'
        have db := (cellsOf (show W.heap[bo]? = _ from hI.s.get (i := 0) rfl)).1
        have HZW := Lib.hid hI
        have HD := Lib.hid (And.intro hD (And.intro hZD hdef))
        clear hcase hI hD hZD hdef hxs
        dsimp only
        go_wp2_with fail
        obtain ⟨hD, hZD, hdef⟩ := HD.out
        have hm : Mdh (fun k => k = D) W (W.putObj D (.deferred none)) := (Mdh.refl (fun k => k = D) W).putObj rfl _
        refine retM1 (D := D) (v := .tuple #[v, .int .i64 0]) rfl hdef (by simp [results, Try.results39, go_sem]) ⟨v, by rw [HC.out], ⟨(show Own W _ _ _ _ _ from HZW.out.s.get (i := 1) rfl).mdh hm (fun k hk e => HZW.out.z _ (List.mem_cons_of_mem _ (List.mem_cons_self ..)) k hk (e ▸ hZD)), fun q hq => HZW.out.s.n _ (List.mem_cons_of_mem _ (List.mem_cons_self ..)) q hq⟩, HZW.out.s.g.putObj (Nat.le_trans HS3.out.g.sz hD) _⟩
end Go.Proofs.Ytmdfickejpeofaa

/- Functions that hold many ranges over functions, one after the other: the marks that they leave. No program in sight. -/
set_option linter.unusedVariables false
set_option linter.unusedSimpArgs false
namespace Go.Proofs.Ytmdfickejpeofaa
open Go.RowKit
variable {P : Program}

def cdf (D : Nat) : Deferred := { target := .collected D, args := #[] }
/-- The marks as a thing. -/
def dsA (Ds : List Nat) : Asn := ⟨fun k => k ∈ Ds, fun w => ∀ D ∈ Ds, w.heap[D]? = some (.deferred (some [])), fun h m hs D hD => m.blk (h D hD) (hs D hD), fun h k hk => blkLt (h k hk)⟩
def clD (Ds : List Nat) (w : World) : World := Ds.foldl (fun w D => w.putObj D (.deferred none)) w
theorem clD_mdh : ∀ (Ds : List Nat) (w : World), Mdh (fun k => k ∈ Ds) w (clD Ds w)
  | [], w => Mdh.refl _ _
  | D :: Ds, w => (((Mdh.refl (fun k => k = D) w).putObj rfl _).mono (fun k hk => by rw [hk]; exact List.mem_cons_self ..)).trans ((clD_mdh Ds (w.putObj D (.deferred none))).mono (fun k hk => List.mem_cons_of_mem _ hk))
theorem clD_gr {w0 w : World} {Ds : List Nat} (h : Gr w0 w) (hn : ∀ D ∈ Ds, w0.heap.size ≤ D) : Gr w0 (clD Ds w) := h.md (clD_mdh Ds w) hn
theorem leavesMn {fn : Func} {tmps : Array Value} {R : Ending → World → Prop} {v : Value} : ∀ (Ds : List Nat) (w : World), (∀ D ∈ Ds, w.heap[D]? = some (.deferred (some []))) → Ds.Nodup → (results fn tmps).run P (clD Ds w) = .ok v (clD Ds w) → R (.returned v) (clD Ds w) →
    LeavesInM Fence.wide 3 P fn tmps R (Ds.map cdf) .returning w
  | [], w, _, _, hr, hR => ⟨v, hr, hR⟩
  | D :: Ds, w, h, hn, hr, hR => by
    have hn' := List.nodup_cons.1 hn
    refine ⟨by simp, .inl ⟨D, _, rfl, run_takeDeferred (h D (List.mem_cons_self ..)), leavesMn Ds _ (fun E hE => ?_) hn'.2 hr hR⟩⟩
    have hne : E ≠ D := fun e => hn'.1 (e ▸ hE)
    exact (World.putObj_heap_other hne).trans (h E (List.mem_cons_of_mem _ hE))
theorem retMn {fn : Func} {R : Ending → World → Prop} {a : Act} {w : World} {v : Value} (Ds : List Nat) (hd : a.defers = Ds.map cdf) (hk : ∀ D ∈ Ds, w.heap[D]? = some (.deferred (some []))) (hn : Ds.Nodup)
    (hr : (results fn a.tmps).run P (clD Ds w) = .ok v (clD Ds w)) (hR : R (.returned v) (clD Ds w)) : bodyPostM Fence.wide 3 P fn R .ret a w := by
  show LeavesInM _ _ _ _ _ _ _ _ _
  rw [hd]
  exact leavesMn Ds w hk hn hr hR
theorem SWz.close {w0 wl W : World} {A Z : Nat → Prop} {R : List Asn} {Ds : List Nat} {D : Nat} (h : SWz w0 wl A (dsA Ds :: R) Z W) (hz : Z D) (hw : w0.heap.size ≤ wl.heap.size) (hdef : W.heap[D]? = some (.deferred (some []))) : SW w0 (dsA (D :: Ds) :: R) W ∧ D ∉ Ds := by
  have hd := h.s.s.dis
  refine ⟨⟨h.s.g, ⟨fun B hB => ?_, List.pairwise_cons.2 ⟨fun B hB k hk hb => ?_, (List.pairwise_cons.1 h.s.s.2).2⟩⟩, fun B hB k hk => ?_⟩, fun hm => h.z _ (List.mem_cons_self ..) D hm hz⟩
  · rcases List.mem_cons.1 hB with rfl | hB
    · intro E hE
      rcases List.mem_cons.1 hE with rfl | hE
      · exact hdef
      · exact (show ∀ D ∈ Ds, W.heap[D]? = some (.deferred (some [])) from h.s.s.head) E hE
    · exact h.s.s.1 B (List.mem_cons_of_mem _ hB)
  · rcases List.mem_cons.1 hk with rfl | hk
    · exact h.z B (List.mem_cons_of_mem _ hB) _ hb hz
    · exact hd B hB k hk hb
  · rcases List.mem_cons.1 hB with rfl | hB
    · rcases List.mem_cons.1 hk with rfl | hk
      · exact Nat.le_trans hw (h.zn _ hz)
      · exact h.s.n _ (List.mem_cons_self ..) k hk
    · exact h.s.n B (List.mem_cons_of_mem _ hB) k hk
theorem SW.noDs {w0 w : World} {R : List Asn} (h : SW w0 R w) : SW w0 (dsA [] :: R) w := h.new (Gr.refl _) (A := dsA []) (fun D hD => by cases hD) (fun k hk => by cases hk)
end Go.Proofs.Ytmdfickejpeofaa

/- liveness.Retired. -/
set_option linter.unusedVariables false
set_option linter.unusedSimpArgs false
namespace Go.Proofs.Ytmdfickejpeofaa
open Go.RowKit Go.Shelf
attribute [local go_sem] OvM cell_ovm obj_ovm
attribute [local go_sem] Oper.semAt_some

def retP (X : IX) (e : En) : Bool := e.del && !X.needs e
def retL (X : IX) (n : Nat) : List En := (List.range n).flatMap fun s => (X.slot (s : Nat)).filter (retP X)
theorem retL_succ (X : IX) (n : Nat) : retL X (n + 1) = retL X n ++ (X.slot (n : Nat)).filter (retP X) := by simp [retL, List.range_succ]
theorem retL_le {X : IX} (h : X.Wf) : ∀ n, (retL X n).length ≤ 512 * n
  | 0 => by simp [retL]
  | n + 1 => by
    rw [retL_succ, List.length_append]
    have h1 := retL_le h n
    have h2 := h.slot_le (n : Nat)
    have h3 := List.length_filter_le (retP X) (X.slot (n : Nat))
    omega
abbrev lvR (bo b1 : Nat) (p : Option Addr) (v : Value) (L : List En) : List Asn := [blkA bo (.cells #[v] 45), rowA 53 6 v L.length (rowE L), blkA b1 (.cells #[.pointer p] 46)]
def RetPost (X : IX) (w : World) (e : Ending) (w' : World) : Prop := ∃ v, e = .returned (.tuple #[v, .int .i64 (if X.slots = [] then 1 else 0)]) ∧ Nw w w' 53 6 v (retL X X.slots.length).length (rowE (retL X X.slots.length)) ∧ Gr w w'
set_option maxRecDepth 40000 in
set_option maxHeartbeats 8000000 in
theorem Retired_any {w : World} {p : Option Addr} {X : IX} {S : Nat → Prop} (h : IXP w p X S) : Calls Try.prog 46 #[.pointer p] w (RetPost X w) := by
  obtain ⟨i0, hi, hz0, hz1, hz2⟩ := info_parts infoIten
  have H := Lib.hid h
  have HOK := Lib.hid h.ok
  clear h
  refine calls_of_wp_marks Try.func46 rfl ?_
  simp only [Try.ntmps46, List.size_toArray, List.length_cons, List.length_nil, Nat.reduceAdd, Nat.reduceSub, Array.replicate_succ, Array.replicate_zero, List.push_toArray, List.append_toArray, List.nil_append, List.cons_append]
  go_wp2_with fail
  obtain ⟨b1, hb1⟩ : ∃ q, q = w.heap.size := ⟨_, rfl⟩
  obtain ⟨w0, hw0⟩ : ∃ y, y = w.alloc (.cells #[.pointer p] 46) := ⟨_, rfl⟩
  have H0 : Hid (SW w [blkA b1 (.cells #[.pointer p] 46)] w0) := Lib.hid (by rw [hw0, hb1]; exact (SW.start w).alloc _)
  rw [← hw0, ← hb1]
  clear hw0 hb1
  refine (Copy_any (H.out.gr H0.out.g)).mono ?_
  rintro r w1 ⟨q, rfl, hg, hq, _⟩
  have H1 := Lib.hid (H0.out.gr hg)
  have c1 := (cellsOf (show w1.heap[b1]? = _ from H1.out.get (i := 0) rfl)).1
  have lb1 := blkLt (show w1.heap[b1]? = _ from H1.out.get (i := 0) rfl)
  clear hg
  by_cases h0 : X.slots = []
  · have hq0 := hq.2 h0
    have HC : Hid ((if X.slots = [] then (1 : Int) else 0) = 1 ∧ retL X X.slots.length = []) := Lib.hid ⟨if_pos h0, by rw [h0]; rfl⟩
    clear h0 hq
    subst hq0
    go_wp2_with fail
    exact retM0 (v := .tuple #[.slice none 0 0, .int .i64 1]) (by simp [results, Try.results46, go_sem]) rfl ⟨_, by rw [HC.out.1], by rw [HC.out.2]; exact ⟨nilRow _ _ _, fun k hk => by cases hk⟩, H1.out.g⟩
  · obtain ⟨q', rfl⟩ : ∃ q', q = some q' := by
      cases q with
      | none => exact absurd (hq.1 rfl) h0
      | some q' => exact ⟨q', rfl⟩
    obtain ⟨n, hn⟩ : ∃ n, n = X.slots.length := ⟨_, rfl⟩
    have HN : Hid ((if X.slots = [] then (1 : Int) else 0) = 0 ∧ X.slots.length = n) := Lib.hid ⟨if_neg h0, hn.symm⟩
    have h32 : n ≤ 32 := by rw [hn]; exact HOK.out.n
    have HSL : Hid (∀ w1, Gr w w1 → Calls Try.prog 87 #[.pointer p] w1 fun e w' => e = .returned (.int .i64 n) ∧ w1 = w') := Lib.hid (fun w1 g => by rw [hn]; exact Slots_any (H.out.gr g))
    have HLE : Hid (∀ j, j ≤ n → (retL X j).length ≤ 16384) := Lib.hid (fun j hj => by have := retL_le HOK.out j; omega)
    clear h0 hq hn
    obtain ⟨bo, hbo⟩ : ∃ q, q = w1.heap.size := ⟨_, rfl⟩
    have HS2 : Hid (SW w (dsA [] :: lvR bo b1 p (.slice none 0 0) (retL X 0)) (w1.alloc (.cells #[.slice none 0 0] 45))) := Lib.hid (by
      rw [hbo]
      exact ((H1.out.new (Gr.refl _) (A := rowA 53 6 (.slice none 0 0) 0 []) (nilRow _ _ _) (fun k hk => by cases hk)).alloc _).noDs)
    go_wp2_with (go_at_call 87; refine (HSL.out _ (by first | exact H1.out.g | exact H1.out.g.alloc _)).mono ?_; rintro r w2 ⟨rfl, rfl⟩)
    obtain ⟨w2, hw2⟩ : ∃ y, y = w1.alloc (.cells #[.slice none 0 0] 45) := ⟨_, rfl⟩
    rw [← hw2] at HS2
    rw [← hw2, ← hbo]
    clear hw2 hbo c1 lb1
    refine wp_loop (fun a wx => ∃ (j : Nat) (Ds : List Nat) (v u5 u13 u14 u15 u16 u17 u31 : Value), a = { tmps := #[.pointer p, .pointer (some ⟨b1, 0, none⟩), .slice none 0 0, .int .i64 0, .pointer (some ⟨bo, 0, none⟩), u5, undef, .pointer p, .pointer (some q'), .bool false, .pointer p, .int .i64 n, .int .i64 j, u13, u14, u15, u16, u17, undef, undef, undef, undef, undef, undef, undef, undef, undef, undef, undef, undef, undef, u31, undef], defers := Ds.map cdf } ∧ j ≤ n ∧ Hid (Ds.Nodup ∧ SW w (dsA Ds :: lvR bo b1 p v (retL X j)) wx))
      (fun a _ => n - (intOf (a.tmps.getD 12 undef)).toNat) ⟨0, [], _, _, _, _, _, _, _, _, rfl, by omega, Lib.hid ⟨List.nodup_nil, HS2.out⟩⟩ ?_
    intro a wr hI
    obtain ⟨j, Ds, v, u5, u13, u14, u15, u16, u17, u31, rfl, hj, HR⟩ := hI
    by_cases hlt : j < n
    · have hlt' : (j : Int) < n := by omega
      have c1 := (cellsOf (show wr.heap[b1]? = _ from HR.out.2.get (i := 3) rfl)).1
      go_wp2_with fail
      refine (Slot_any p (j : Nat) _).mono ?_
      rintro e' w3 ⟨bb, bk, rfl, h1, h2, h3, h4, hg⟩
      have HS3 := Lib.hid (HR.out.2.gr hg)
      have HI := Lib.hid (H.out.gr HS3.out.g)
      have HSEQ := Lib.hid (SeqSlotP HI.out (j : Nat) bb bk h1 h2)
      have HA : Hid (∀ q, (q = bb ∨ q = bk ∨ S q) → q < w3.heap.size) := Lib.hid (fun q hq => by
        have l1 := World.block_lt_of_cell? w3 ⟨bb, 0, none⟩ h1
        have l2 := World.block_lt_of_cell? w3 ⟨bk, 0, none⟩ h2
        rcases hq with rfl | rfl | hq
        · exact l1
        · exact l2
        · exact HI.out.lt q hq)
      have HZ : Hid (SWz w w3 (fun q => q = bb ∨ q = bk ∨ S q) (dsA Ds :: lvR bo b1 p v (retL X j ++ ([] : List En).filter (retP X))) (fun _ => False) w3) := Lib.hid (by
        rw [List.filter_nil, List.append_nil]
        exact SWz.start HS3.out (fun B hB k hk ha => by
          have l1 := HR.out.2.s.lt hB k hk
          have l2 := HR.out.2.n B hB k hk
          rcases ha with rfl | rfl | ha
          · omega
          · omega
          · have := H.out.lt k ha; omega))
      have HSLE := Lib.hid (HOK.out.slot_le (j : Nat))
      have HRL := Lib.hid (HLE.out j hj)
      have HNX := Lib.hid (retL_succ X j)
      generalize retL X j = L0 at *
      clear h1 h2 h3 h4 hg c1
      go_wp2_with fail
      apply wp_rangeFunc_zx (gf := 152) (lb := #[.pointer (some ⟨bb, 0, none⟩), .pointer (some ⟨bk, 0, none⟩)]) rfl (enters_of Try.func152 (by kernel_rfl) rfl) HSEQ.out (Mdh.refl _ w3) HA.out (fun _ => rfl)
        (fun Z pre X' => ∃ v, SWz w w3 (fun q => q = bb ∨ q = bk ∨ S q) (dsA Ds :: lvR bo b1 p v (L0 ++ pre.filter (retP X))) Z X')
        (fun _ _ _ => False) (fun _ _ _ => False)
        (Apart.ex fun v => SWz.apart HS3.out.g.sz (fun pre : List En => dsA Ds :: lvR bo b1 p v (L0 ++ pre.filter (retP X)))) apart_no apart_no
        ⟨_, HZ.out⟩ (fun Z pre X' ⟨v, h⟩ => h.frm HS3.out.g) (fun x => boxE x)
        _ ?assign ?body ?hend ?hret
      case hret => intro _ _ _ _ _ _ _ h; exact h.elim
      case assign =>
        intro l x bx X' K hbx hK
        dsimp only [encE, enV]
        gi_wp2
        rw [← hbx]
        exact hK
      case body =>
        intro l Z pre x bx X' hI hbx hx hzx hzl hlr hsp
        obtain ⟨v, hI⟩ := hI
        have HIZ := Lib.hid hI
        have HX := Lib.hid hx
        have HB1 := Lib.hid (show X'.heap[b1]? = _ from hI.s.get (i := 3) rfl)
        have HPL : Hid (pre.length ≤ 511) := Lib.hid (by have := hsp.length_le; have := HSLE.out; simp at *; omega)
        have dx := (cellsOf HX.out).1
        have d1 := (cellsOf HB1.out).1
        have HIX : Hid (IXP X' p X S) := Lib.hid (H.out.gr hI.s.g)
        clear hI hbx hx hzx hzl hlr hsp
        cases hdl : x.del with
        | false =>
          have HN := Lib.hid (filter_no (p := retP X) (l := pre) (x := x) (by simp [retP, hdl]))
          rw [hdl] at dx
          clear hdl
          gi_wp2_with fail
          refine ⟨trivial, ?_⟩
          gi_wp2_with fail
          exact ⟨Mdh.refl _ _, v, by rw [HN.out]; exact HIZ.out⟩
        | true =>
          have HDL := Lib.hid hdl
          have HND := Lib.hid (needed_any HIX.out x)
          simp only [enV] at HND
          rw [hdl] at dx HND
          clear hdl
          gi_wp2_with fail
          refine ⟨trivial, (CallsIn.inRound l (callsIn_wide.2 HND.out)).mono ?_⟩
          rintro e w9 ⟨rfl, hg9⟩
          have HZ9 := Lib.hid (HIZ.out.gr hg9)
          have HX9 := Lib.hid (hg9.blk HX.out)
          clear hg9 d1 dx
          cases hnx : X.needs x with
          | true =>
            have HN := Lib.hid (filter_no (p := retP X) (l := pre) (x := x) (by simp [retP, hnx]))
            clear hnx
            gi_wp2_with fail
            exact ⟨HZ9.out.2, v, by rw [HN.out]; exact HZ9.out.1⟩
          | false =>
            have HN := Lib.hid (filter_yes (p := retP X) (l := pre) (x := x) (by simp [retP, hnx, HDL.out]))
            have HFL : Hid ((L0 ++ pre.filter (retP X)).length ≤ 16384 + 511) := Lib.hid (by rw [List.length_append]; have := List.length_filter_le (retP X) pre; have := HPL.out; have := HRL.out; omega)
            have HAP := Lib.hid (List.append_assoc L0 (pre.filter (retP X)) [x])
            generalize L0 ++ pre.filter (retP X) = kept at *
            have HO := Lib.hid (show Own w9 53 6 v kept.length (rowE kept) from HZ9.out.1.s.get (i := 2) rfl)
            have HB := Lib.hid (show w9.heap[bo]? = _ from HZ9.out.1.s.get (i := 1) rfl)
            have dx := (cellsOf HX9.out).1
            have lx := blkLt HX9.out
            obtain ⟨db, fb⟩ := cellsOf HB.out
            have lbb := blkLt HB.out
            have HNB : Hid (¬ v.ownBlock = some bo) := Lib.hid (own_ne HO.out HB.out (by decide))
            have hfl := HFL.out
            clear hnx
            gi_wp2_with (first
              | (gi_at_builtin; go_must (refine wpListIn_appv _ rfl (.tmp 27) (.tmp 29) 45 rfl 53 i0 _ 6 56 Try.underlying45 hi hz0 hz1 hz2 rfl (by decide) v kept.length (rowE kept) rfl (HO.out.gr (by (repeat (first | (with_reducible exact Gr.refl _) | assumption | (with_reducible apply Gr.from_drew) | (with_reducible apply Gr.alloc) | (with_reducible apply Gr.drew) | (with_reducible refine Gr.trans ?_ (by assumption)) | (with_reducible refine Gr.setCell ?_ (by omega) _))))) (some ⟨w9.heap.size, 0, none⟩) 1 1 (enC x) rfl ((src_newK w9 (enC x) _ 6 rfl (enC_one x))) (by simp only [maxLen]; omega) (by omega) ?_); intro v2 w10 hA; obtain ⟨a2, c2, rfl⟩ := hA.val; have HAV := Lib.hid hA; have HB2 := Lib.hid ((hA.mdh (fun g h => h)).blk (((Gr.refl w9).alloc _).blk HB.out) HNB.out); clear hA; obtain ⟨db2, fb2⟩ := cellsOf HB2.out)
              | fail)
            have z2 := HZ9.out.1.gr ((Gr.refl w9).alloc (.cells (enC x).toArray 53))
            have z3 := z2.1.step (i := 2) (B' := rowA 53 6 (.slice a2 (kept.length + 1) c2) (kept.length + 1) (rowE kept ++ enC x)) rfl HA.out (HAV.out.mdh (fun g h => h)) (fun k hk => .inl hk) HAV.out.1 (fun k hq => HAV.out.2.1 k hq)
            have z4 := z3.1.step (i := 1) (B' := blkA bo (.cells #[.slice a2 (kept.length + 1) c2] 45)) rfl HA.out ((Mdh.refl (fun k => k = bo) w10).setCell (p := ⟨bo, 0, none⟩) rfl (.slice a2 (kept.length + 1) c2)) (fun k hk => .inl hk) (blkSet (j := 0) (u := .slice a2 (kept.length + 1) c2) HB2.out) (fun k hk => .inl hk)
            refine ⟨((HZ9.out.2.trans z2.2).trans z3.2).trans z4.2, .slice a2 (kept.length + 1) c2, ?_⟩
            rw [HN.out, ← HAP.out]
            show SWz w w3 _ (dsA Ds :: [_, rowA _ _ _ (kept ++ [x]).length (rowE (kept ++ [x])), _]) Z _
            rw [rowE_snoc, List.length_append]
            exact z4.1
      case hend =>
        intro Z D xs W hD hZD hcase hdef
        obtain ⟨hxs, v', hI⟩ := hcase.elim (fun h => h) (fun h => h.2.elim)
        have hxs' : xs = X.slot (j : Nat) := hxs
        subst hxs'
        rw [← HNX.out] at hI
        have hcl := hI.close hZD HS3.out.g.sz hdef
        have HCL := Lib.hid hcl
        clear hcase hI hxs hcl hdef
        dsimp only
        go_wp2_with fail
        exact ⟨⟨j + 1, D :: Ds, v', _, _, _, _, _, _, _, by go_num, by omega, Lib.hid ⟨List.nodup_cons.2 ⟨HCL.out.2, HR.out.1⟩, HCL.out.1⟩⟩, by simp [intOf]; omega⟩
    · have hlt' : ¬ (j : Int) < n := by omega
      obtain rfl : j = n := by omega
      have db := (cellsOf (show wr.heap[bo]? = _ from HR.out.2.get (i := 1) rfl)).1
      go_wp2_with fail
      have hn := HR.out.2.n (dsA Ds) (List.mem_cons_self ..)
      have hds := HR.out.2.s.dis
      refine retMn (v := .tuple #[v, .int .i64 0]) Ds rfl (show ∀ D ∈ Ds, _ from HR.out.2.s.head) HR.out.1 (by simp [results, Try.results46, go_sem]) ⟨v, by rw [HN.out.1], ?_, clD_gr HR.out.2.g hn⟩
      rw [HN.out.2]
      exact ⟨(show Own wr _ _ _ _ _ from HR.out.2.get (i := 2) rfl).mdh (clD_mdh Ds wr) (fun k hk hkD => hds _ (List.mem_cons_of_mem _ (List.mem_cons_self ..)) k hkD hk), fun q hq => HR.out.2.n _ (List.mem_cons_of_mem _ (List.mem_cons_of_mem _ (List.mem_cons_self ..))) q hq⟩
end Go.Proofs.Ytmdfickejpeofaa

/- LivenessRefuses in plain Lean. No walk. -/
set_option linter.unusedVariables false
set_option linter.unusedSimpArgs false
namespace Go.Proofs.Ytmdfickejpeofaa

theorem foldA_ok : ∀ (n : Nat) (L : List Ac), L.length = n → n ≤ 90 → (∀ t ∈ L, t.Ok) → (foldA L).Ok (2 * n) ∧ ∀ e ∈ (foldA L).all, e.slot < 5
  | 0, L, hL, _, _ => by
    rw [List.eq_nil_of_length_eq_zero hL]
    exact ⟨⟨FG.start 6 (by omega) (by omega) _, by show 0 ≤ 0; omega, by show (0 : Int) ≤ 0; omega, by show (0 : Int) ≤ 0; omega, fun s => ⟨Int.le_refl _, by show (0 : Int) ≤ 19 * 0; omega⟩, (fun _ h => by cases h)⟩, (fun _ h => by cases h)⟩
  | n + 1, L, hL, hn, ht => by
    have hne : L ≠ [] := fun h => by rw [h] at hL; cases hL
    have e := List.dropLast_concat_getLast hne
    obtain ⟨h1, h5⟩ := foldA_ok n L.dropLast (by rw [List.length_dropLast]; omega) (by omega) (fun m h => ht m (List.dropLast_subset L h))
    rw [← e, foldA_snoc]
    generalize L.getLast hne = t at *
    generalize foldA L.dropLast = st at *
    have hs : 0 ≤ t.slot % 5 ∧ t.slot % 5 < 5 := by omega
    have hadd : ∀ (s2 : LS) (e : En), s2.all = st.all → e.slot < 5 → ∀ x ∈ (addA s2 e).all, x.slot < 5 := by
      intro s2 e h2 he x hx
      unfold addA at hx
      split at hx
      · rw [h2] at hx; exact h5 x hx
      · rcases List.mem_append.1 hx with hx | hx
        · rw [h2] at hx; exact h5 x hx
        · rw [List.mem_singleton.1 hx]; exact he
    unfold stepA
    split
    · refine ⟨(addA_ok (nextA_ok h1) (by omega) (e := delE (acKey t.key) (st.sq + 1) (t.slot % 5)) ?_).2.2.1, hadd _ _ rfl hs.2⟩
      have := newA h1 t.key (t.slot % 5) ⟨hs.1, by omega⟩ true
      simpa [delE] using this
    · split
      · refine ⟨(addA_ok (nextA_ok h1) (by omega) (e := putE (acKey t.key) (st.sq + 1) (t.slot % 5)) ?_).2.2.1, hadd _ _ rfl hs.2⟩
        have := newA h1 t.key (t.slot % 5) ⟨hs.1, by omega⟩ false
        simpa [putE] using this
      · split
        · exact ⟨LS.later h1 (by omega), h5⟩
        · rename_i hne2
          have hl : 0 < st.all.length := List.length_pos_iff.2 hne2
          have hk : 0 ≤ t.key := (ht t (by rw [← e]; simp)).key.1
          have g1 := Int.emod_lt_of_pos t.key (show (0 : Int) < st.all.length by omega)
          have g2 := Int.emod_nonneg t.key (show (st.all.length : Int) ≠ 0 by omega)
          have g3 : (t.key % st.all.length).toNat < st.all.length := by omega
          have hm : st.all.getD (t.key % st.all.length).toNat zE ∈ st.all := by
            rw [List.getD_eq_getElem?_getD, List.getElem?_eq_getElem g3]
            exact List.getElem_mem g3
          exact ⟨LS.later (addA_ok h1 (by omega) (copyA h1 hm (t.slot % 5) ⟨hs.1, by omega⟩)).2.2.1 (by omega), hadd _ _ rfl hs.2⟩
section
variable {X : IX} {all : List En} {en : Int → Int} {n : Int}
theorem FG.hasE (h : FG X all en n) (e : En) : X.hasE e = decide (e ∈ all) := by
  unfold IX.hasE
  by_cases he : e ∈ all
  · rw [decide_eq_true he]
    exact List.any_eq_true.2 ⟨e, (h.of _ e).2 ⟨he, rfl⟩, decide_eq_true rfl⟩
  · rw [decide_eq_false he]
    refine List.any_eq_false.2 (fun o ho => ?_)
    have := (h.of _ o).1 ho
    simp only [decide_eq_true_eq]
    rintro rfl
    exact he this.1
theorem FG.needV (h : FG X all en n) (e : En) : (e ∈ all → neededV X e = .tuple #[.bool (X.needs e), .int .i64 0]) ∧ (e ∉ all → neededV X e = .tuple #[.bool false, .int .i64 5]) := by
  unfold neededV
  rw [if_neg h.ne, h.hasE]
  exact ⟨fun he => by rw [decide_eq_true he, if_neg (by decide)], fun he => by rw [decide_eq_false he, if_pos rfl]⟩
theorem FG.noOff (h : FG X all en n) {y : En} (hy : y ∈ all) : { y with off := y.off + 1 } ∉ all := by
  intro hz
  have hs := h.wf.slotOk y.slot
  have h1 := (h.slot y.slot y).2 ⟨hy, rfl⟩
  have h2 := (h.slot y.slot { y with off := y.off + 1 }).2 ⟨hz, rfl⟩
  have hv := h.val hy
  obtain ⟨i, hi, e1⟩ := List.mem_iff_getElem.1 h1
  obtain ⟨j, hj, e2⟩ := List.mem_iff_getElem.1 h2
  rcases Nat.lt_trichotomy i j with h3 | h3 | h3
  · have := List.pairwise_iff_getElem.1 hs.p i j hi hj h3
    rw [e1, e2] at this
    simp only at this
    omega
  · subst h3
    rw [e1] at e2
    have := congrArg En.off e2
    simp only at this
    omega
  · have := List.pairwise_iff_getElem.1 hs.p j i hj hi h3
    rw [e1, e2] at this
    simp only at this
    omega
end
/-- An entry of which one field is another one. -/
def chE (c : Int) (y : En) : En :=
  if c = 0 then { y with seq := y.seq + 1000 } else if c = 1 then { y with key := y.key ++ ⟨#[120]⟩ } else if c = 2 then { y with del := !y.del }
  else if c = 3 then { y with slot := 5 } else if c = 4 then { y with off := y.off + 1 } else { y with size := y.size + 1 }
theorem chE_no {st : LS} {j : Nat} (h : st.Ok j) (hj : j ≤ 200) (h5 : ∀ e ∈ st.all, e.slot < 5) {y : En} (hy : y ∈ st.all) (c : Int) : chE c y ∉ st.all := by
  obtain ⟨h1, h2, h3, h4, h6⟩ := h.e y hy
  have q1 := h.q1
  unfold chE
  split
  · intro hz; have := (h.e _ hz).2.1; simp only at this; omega
  · split
    · intro hz
      have := (h.e _ hz).2.2.2.1
      simp only [ByteArray.size_append, h4] at this
      cases this
    · split
      · intro hz
        have := (h.g.cp y hy _ hz rfl).2.1
        simp only at this
        cases hd : y.del <;> rw [hd] at this <;> cases this
      · split
        · intro hz; have := h5 _ hz; simp only at this; omega
        · split
          · exact h.g.noOff hy
          · intro hz
            have := (h.g.cp y hy _ hz rfl).2.2
            simp only at this
            omega
theorem q_no {st : LS} {j : Nat} (h : st.Ok j) (e : En) (he : e.key = ⟨#[113]⟩) (hk : ∀ e ∈ st.all, ∃ a, e.key = acKey a) : e ∉ st.all := by
  intro hm
  obtain ⟨a, ha⟩ := hk e hm
  rw [he] at ha
  unfold acKey at ha
  have h1 := congrArg (fun b : ByteArray => b.data.toList.map UInt8.toNat) ha
  obtain ⟨n, hn, hl⟩ : ∃ n : Nat, a % 6 = n ∧ n < 6 := ⟨(a % 6).toNat, by omega, by omega⟩
  rw [hn, show ((97 : Int) + (n : Int)).toNat = 97 + n by omega] at h1
  simp only [List.map_cons, List.map_nil, List.cons.injEq, and_true] at h1
  rw [Nat.toUInt8_eq, UInt8.toNat_ofNat'] at h1
  have : (113 : UInt8).toNat = 113 := rfl
  omega
theorem foldA_keys : ∀ (n : Nat) (L : List Ac), L.length = n → (∀ t ∈ L, t.Ok) → ∀ e ∈ (foldA L).all, ∃ a, e.key = acKey a
  | 0, L, hL, _ => by
    rw [List.eq_nil_of_length_eq_zero hL]
    exact fun _ h => by cases h
  | n + 1, L, hL, ht => by
    have hne : L ≠ [] := fun h => by rw [h] at hL; cases hL
    have e := List.dropLast_concat_getLast hne
    have h5 := foldA_keys n L.dropLast (by rw [List.length_dropLast]; omega) (fun m h => ht m (List.dropLast_subset L h))
    rw [← e, foldA_snoc]
    have hk : 0 ≤ (L.getLast hne).key := (ht _ (List.getLast_mem hne)).key.1
    generalize L.getLast hne = t at *
    generalize foldA L.dropLast = st at *
    have hadd : ∀ (s2 : LS) (e : En), s2.all = st.all → (∃ a, e.key = acKey a) → ∀ x ∈ (addA s2 e).all, ∃ a, x.key = acKey a := by
      intro s2 e h2 he x hx
      unfold addA at hx
      split at hx
      · rw [h2] at hx; exact h5 x hx
      · rcases List.mem_append.1 hx with hx | hx
        · rw [h2] at hx; exact h5 x hx
        · rw [List.mem_singleton.1 hx]; exact he
    unfold stepA
    split
    · exact hadd _ _ rfl ⟨_, rfl⟩
    · split
      · exact hadd _ _ rfl ⟨_, rfl⟩
      · split
        · exact h5
        · rename_i hne2
          have hl : 0 < st.all.length := List.length_pos_iff.2 hne2
          have g1 := Int.emod_lt_of_pos t.key (show (0 : Int) < st.all.length by omega)
          have g2 := Int.emod_nonneg t.key (show (st.all.length : Int) ≠ 0 by omega)
          have g3 : (t.key % st.all.length).toNat < st.all.length := by omega
          refine hadd _ _ rfl ?_
          show ∃ a, (st.all.getD (t.key % st.all.length).toNat zE).key = acKey a
          refine h5 _ ?_
          rw [List.getD_eq_getElem?_getD, List.getElem?_eq_getElem g3]
          exact List.getElem_mem g3
end Go.Proofs.Ytmdfickejpeofaa

/- keydir: valid, Find, the iterator of Live. -/
set_option linter.unusedVariables false
set_option linter.unusedSimpArgs false
namespace Go.Proofs.Ytmdfickejpeofaa
open Go.RowKit Go.Shelf
attribute [local go_sem] OvM cell_ovm obj_ovm
attribute [local go_sem] Oper.semAt_some

def findE (X : IX) (k : ByteArray) : Option En := match X.of k with | [] => none | e :: _ => if e.del = true then none else some e
def codeX (X : IX) : Int := if X.slots = [] then 1 else 0
def findV (X : IX) (k : ByteArray) : Value := .tuple #[enV ((findE X k).getD zE), .bool (findE X k).isSome, .int .i64 (codeX X)]
def lvF (X : IX) (l : List ByteArray) : List (ByteArray × En) := l.filterMap fun k => (findE X k).map fun e => (k, e)
def liveL (X : IX) : List (ByteArray × En) := lvF X X.ks
theorem lvF_none {X : IX} {l : List ByteArray} {k : ByteArray} (h : findE X k = none) : lvF X (l ++ [k]) = lvF X l := by simp [lvF, h]
theorem lvF_some {X : IX} {l : List ByteArray} {k : ByteArray} {e : En} (h : findE X k = some e) : lvF X (l ++ [k]) = lvF X l ++ [(k, e)] := by simp [lvF, h]
theorem lvF_pre {X : IX} {l m : List ByteArray} (h : l <+: m) : lvF X l <+: lvF X m := by
  obtain ⟨t, rfl⟩ := h
  exact ⟨lvF X t, by simp [lvF]⟩
theorem of_noslots {X : IX} (h : X.Wf) (h0 : X.slots = []) (k : ByteArray) : X.of k = [] := by unfold IX.of; rw [h.z h0]; rfl
/-- Blocks that stay as they were, beside an iterator's own, which are new. -/
structure KeptA (w0 : World) (A : Nat → Prop) (n : Nat) (Z : Nat → Prop) (X : World) : Prop where
  m : Mdh (fun k => ¬ A k) w0 X
  z : ∀ k, Z k → n ≤ k
  s : n ≤ X.heap.size
theorem KeptA.apart {β : Type} (w0 : World) (A : Nat → Prop) {n : Nat} (hA : ∀ k, A k → k < n) : Apart (fun Z (_ : β) X => KeptA w0 A n Z X) := fun Z Z' _ X Y h hm hz =>
  ⟨h.m.trans (hm.mono (fun k hk ha => by have := h.z k hk; have := hA k ha; omega)), fun k hk => (hz k hk).elim (h.z k) (fun y => Nat.le_trans h.s y.1), Nat.le_trans h.s hm.size⟩
def encKE (x : ByteArray × En) : Array Value := #[.string x.1, enV x.2]
end Go.Proofs.Ytmdfickejpeofaa
