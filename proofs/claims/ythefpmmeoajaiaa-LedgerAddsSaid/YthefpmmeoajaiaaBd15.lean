/- drumlinlaw23.build: the walk. -/
import Derived.Test.YthefpmmeoajaiaaBd14
import Derived.Test.YthefpmmeoajaiaaBd10
import Derived.Test.YthefpmmeoajaiaaBd7
import Derived.Test.YthefpmmeoajaiaaBd11
set_option linter.unusedVariables false
set_option linter.unusedSimpArgs false
namespace Go.Proofs.Ythefpmmeoajaiaa
open Go.RowKit Go.Shelf
attribute [local go_sem] OvM cell_ovm obj_ovm
attribute [local go_sem] Oper.semAt_some

/-- The puts of a list lie at a. -/
def PutAt (w : World) (a : Option Addr) (l : List Pt) : Prop :=
  ∀ i x, l[i]? = some x → ∃ b off, a = some ⟨b, off, none⟩ ∧ b < w.heap.size ∧ w.cell? ⟨b, off + i * 5, none⟩ = some (.int .u8 x.key) ∧ w.cell? ⟨b, off + i * 5 + 1, none⟩ = some (.int .u8 x.slot) ∧ w.cell? ⟨b, off + i * 5 + 2, none⟩ = some (.int .u8 x.size) ∧
    w.cell? ⟨b, off + i * 5 + 3, none⟩ = some (.bool x.del) ∧ w.cell? ⟨b, off + i * 5 + 4, none⟩ = some (.bool x.cp) ∧ x.Ok
theorem putOk {w : World} {a : Option Addr} {L : List Pt} (h : PutAt w a L) : ∀ t ∈ L, t.Ok := fun m hm => by
  obtain ⟨i, hi⟩ := List.mem_iff_getElem?.1 hm
  obtain ⟨_, _, _, _, _, _, _, _, _, h⟩ := h i m hi
  exact h
def B23Post (w : World) (L : List Pt) (e : Ending) (w' : World) : Prop := ∃ bb b S, e = .returned (.tuple #[.pointer (some ⟨bb, 0, none⟩), .bool true]) ∧ SW w [ixA b (foldP L).X S, blkA bb (blO b (foldP L).us (foldP L).nx)] w'
set_option maxRecDepth 40000 in
set_option maxHeartbeats 8000000 in
theorem build23_any (a : Option Addr) (len cap : Nat) (L : List Pt) (w : World) (hl : L.length = len) (hle : len ≤ cap) (hcap : cap ≤ maxLen) (hs : PutAt w a L) :
    Calls Try.prog 14 #[.slice a len cap] w (B23Post w (L.take 60)) := by
  have HS := Lib.hid hs
  have HL := Lib.hid hl
  unfold maxLen at hcap
  obtain ⟨n, hn⟩ : ∃ n : Nat, n = min len 60 := ⟨_, rfl⟩
  have hn1 : n ≤ len := by omega
  have hn2 : n ≤ 60 := by omega
  have hmin : min (len : Int) 60 = n := by omega
  have hlc : (len : Int) ≤ cap := by omega
  have HN : Hid (n = min len 60) := Lib.hid hn
  clear hs hl hn
  go_enter Try.func14, Try.ntmps14
  go_wp2_with fail
  refine (New_any 6 w (by decide) (by decide)).mono ?_
  rintro e w1 ⟨b, S, rfl, h1, h2, h3⟩
  have HS1 : Hid (SW w [ixA b (foldP []).X S] w1) := Lib.hid ((SW.start w).ixnew h1 h2 h3)
  clear h1 h2 h3
  go_upto_region 5 with fail
  obtain ⟨bb, hbb⟩ : ∃ q, q = w1.heap.size := ⟨_, rfl⟩
  obtain ⟨w2, hw2⟩ : ∃ y, y = w1.alloc (blO b (fun _ => 0) 1) := ⟨_, rfl⟩
  have HS2 : Hid (SW w [ixA b (foldP (L.take 0)).X S, blkA bb (blO b (foldP (L.take 0)).us (foldP (L.take 0)).nx)] w2) := Lib.hid (by rw [hw2, hbb]; exact HS1.out.allocT _)
  simp only [blO] at hw2
  rw [← hbb, ← hw2]
  clear hbb hw2 HS1
  go_cut [24, 25, 26] (fun t24 t25 t26 wx => t24 = .slice a n cap ∧ t25 = .int .i64 n ∧ t26 = .int .i64 0 ∧ Hid (SW w [ixA b (foldP (L.take 0)).X S, blkA bb (blO b (foldP (L.take 0)).us (foldP (L.take 0)).nx)] wx))
  case first =>
    go_wp2
    all_goals
      go_meet
      first
        | exact ⟨by rw [show n = len by omega], by rw [show n = len by omega], rfl, HS2⟩
        | exact ⟨by rw [show n = 60 by omega], by rw [show n = 60 by omega]; rfl, rfl, HS2⟩
  case rest =>
    obtain ⟨rfl, rfl, rfl, H0⟩ := hcut
    clear HS2
    go_wp2_with fail
    go_loopw [26] (fun t26 wx => ∃ (j : Nat) (S : Nat → Prop), j ≤ n ∧ t26 = .int .i64 j ∧ Hid (SW w [ixA b (foldP (L.take j)).X S, blkA bb (blO b (foldP (L.take j)).us (foldP (L.take j)).nx)] wx)) (fun t26 _ => n - (intOf t26).toNat)
    case atStart => exact ⟨0, S, by omega, rfl, H0⟩
    case round =>
      obtain ⟨j, S, hj, rfl, HR⟩ := hrel
      clear H0
      by_cases hlt : j < n
      · have hlt' : (j : Int) < n := by omega
        obtain ⟨x, hx⟩ : ∃ x, L[j]? = some x := ⟨_, List.getElem?_eq_getElem (by have := HL.out; omega)⟩
        obtain ⟨bm, off, rfl, hbm, m0, m1, m2, m3, m4, hok⟩ := HS.out j x hx
        have hst := foldP_ok (L.take j) (by rw [List.length_take]; omega) (fun m hm => putOk HS.out m (List.mem_of_mem_take hm))
        rw [List.length_take, show min j L.length = j by have := HL.out; omega] at hst
        have HST := Lib.hid hst
        have HOK := Lib.hid hok
        have HNX : Hid (foldP (L.take (j + 1)) = stepP (foldP (L.take j)) x) := Lib.hid (by rw [List.take_add_one, hx]; exact foldP_snoc _ _)
        have e0 := HR.out.g.keep m0
        have e1 := HR.out.g.keep m1
        have e2 := HR.out.g.keep m2
        have e3 := HR.out.g.keep m3
        have e4 := HR.out.g.keep m4
        generalize foldP (L.take j) = st at *
        clear m0 m1 m2 m3 m4 hx hst hbm hok
        go_wp2_with fail
        have HR2 := Lib.hid (HR.out.gr ((Gr.refl wr).alloc (boxP x)))
        refine (add23 HR2.out HST.out (by omega) HOK.out).mono ?_
        rintro e w3 ⟨rfl, S3, hs⟩
        have HR3 := Lib.hid hs
        clear hs HR2 HR
        simp only [enV]
        go_wp2_with fail
        refine ⟨⟨j + 1, S3, by omega, by simp, Lib.hid ?_⟩, by simp [intOf]; omega⟩
        rw [HNX.out]
        exact HR3.out.gr ((Gr.refl _).alloc _)
      · have hlt' : ¬ (j : Int) < n := by omega
        obtain rfl : j = n := by omega
        have HT : Hid (L.take j = L.take 60) := Lib.hid (by
          by_cases h : len ≤ 60
          · rw [List.take_of_length_le (by have := HL.out; have := HN.out; omega), List.take_of_length_le (by have := HL.out; omega)]
          · rw [show j = 60 by have := HN.out; omega])
        go_wp2
        refine bodyPost_ret (v := .tuple #[.pointer (some ⟨bb, 0, none⟩), .bool true]) ?_ rfl ⟨bb, b, S, rfl, by rw [← HT.out]; exact HR.out⟩
        simp [results, Try.results14, go_sem]
end Go.Proofs.Ythefpmmeoajaiaa

/- An index has each entry once: what it has of a key, or in a slot, is what it has with that key, in that slot. No walk. -/
set_option linter.unusedVariables false
set_option linter.unusedSimpArgs false
namespace Go.Proofs.Ythefpmmeoajaiaa

theorem ents_nodup {X : IX} (h : X.Wf) : X.ents.Nodup := by
  refine (h.v.nodup_iff).1 ?_
  refine List.pairwise_flatMap.2 ⟨fun x hx => (h.k x hx).p.imp (fun {a b} hab e => by subst e; rw [ltE_irr] at hab; cases hab), ?_⟩
  refine List.Pairwise.imp_of_mem (fun {x y} hx hy hxy a ha b hb e => ?_) h.k0
  have h1 := (h.k x hx).e a ha
  have h2 := (h.k y hy).e b hb
  rw [← h1, ← h2, e] at hxy
  rw [ordS.irr] at hxy
  cases hxy
theorem of_nodup {X : IX} (h : X.Wf) (k : ByteArray) : (X.of k).Nodup := (h.ofPair k).imp (fun {a b} hab e => by subst e; rw [ltE_irr] at hab; cases hab)
def keyP (k : ByteArray) (e : En) : Bool := decide (e.key = k)
def slotP (s : Int) (e : En) : Bool := decide (e.slot = s)
theorem of_perm {X : IX} (h : X.Wf) (k : ByteArray) : (X.of k).Perm (X.ents.filter (keyP k)) :=
  (List.perm_ext_iff_of_nodup (of_nodup h k) ((ents_nodup h).filter _)).2 (fun e => by rw [h.of_mem, List.mem_filter, keyP, decide_eq_true_iff])
theorem slot_perm {X : IX} (h : X.Wf) (s : Int) : (X.slot s).Perm (X.ents.filter (slotP s)) :=
  (List.perm_ext_iff_of_nodup (slot_nodup (h.slotOk s)) ((ents_nodup h).filter _)).2 (fun e => by rw [h.slot_mem, List.mem_filter, slotP, decide_eq_true_iff])
end Go.Proofs.Ythefpmmeoajaiaa

/- ledger: the class of an entry, and the numbers of bytes: what is consistent, and the age. -/
set_option linter.unusedVariables false
set_option linter.unusedSimpArgs false
namespace Go.Proofs.Ythefpmmeoajaiaa
open Go.RowKit
attribute [local go_sem] OvM cell_ovm obj_ovm

structure By where
  total : Int
  live : Int
  tombs : Int
  dead : Int
  last : Int
def byV (b : By) : Value := .agg #[.int .i64 b.total, .int .i64 b.live, .int .i64 b.tombs, .int .i64 b.dead, .int .i64 b.last]
def newE (l : List En) : En := l.headD zE
theorem newV_by (l : List En) : newV l = .tuple #[enV (newE l), .bool (!l.isEmpty)] := by cases l <;> rfl
def classE (X : IX) (e : En) : Nat := if (newE (X.of e.key)).seq = e.seq then (if e.del = true then 1 else 0) else 2
set_option maxRecDepth 40000 in
set_option maxHeartbeats 1000000 in
theorem class_any {w : World} {p : Option Addr} {X : IX} {S : Nat → Prop} (h : IXP w p X S) (e : En) : Calls Try.prog 116 #[.pointer p, enV e] w fun e' w' => e' = .returned (.int .i64 (classE X e)) ∧ Gr w w' := by
  have H := Lib.hid h
  have HN := Lib.hid (newV_by (X.of e.key))
  clear h
  obtain ⟨n, hn⟩ : ∃ n, n = newE (X.of e.key) := ⟨_, rfl⟩
  have HC : Hid (classE X e = if n.seq = e.seq then (if e.del = true then 1 else 0) else 2) := Lib.hid (by rw [hn]; rfl)
  rw [← hn] at HN
  clear hn
  simp only [enV] at *
  go_enter Try.func116, Try.ntmps116
  go_wp2_with fail
  refine (Newest_any (H.out.gr ((Gr.refl w).alloc _)) e.key).mono ?_
  rintro e' w1 ⟨rfl, hg⟩
  rw [HN.out]
  have c3 := (cellsOf (hg.blk (blkNew w _))).1
  have HG := Lib.hid (((Gr.refl w).alloc _).trans hg)
  have hlt := blkLt (hg.blk (blkNew w (.cells #[.int .i64 e.seq, .string e.key, .bool e.del, .int .i64 e.slot, .int .i64 e.off, .int .i64 e.size] 43)))
  clear hg HN
  by_cases hs : n.seq = e.seq
  · have hsb : (n.seq == e.seq) = true := by simp [hs]
    cases hd : e.del with
    | true =>
      rw [hd] at c3
      have HR : Hid (classE X e = 1) := Lib.hid (by rw [HC.out, if_pos hs, if_pos hd])
      clear hs hd
      go_wp2
      go_ret
      exact ⟨ret_int (by rw [HR.out]; rfl), (HG.out.alloc _)⟩
    | false =>
      rw [hd] at c3
      have HR : Hid (classE X e = 0) := Lib.hid (by rw [HC.out, if_pos hs, if_neg (by rw [hd]; simp)])
      clear hs hd
      go_wp2
      go_ret
      exact ⟨ret_int (by rw [HR.out]; rfl), (HG.out.alloc _)⟩
  · have hsb : (n.seq == e.seq) = false := by simp [hs]
    have HR : Hid (classE X e = 2) := Lib.hid (by rw [HC.out, if_neg hs])
    clear hs
    go_wp2
    go_ret
    exact ⟨ret_int (by rw [HR.out]; rfl), (HG.out.alloc _)⟩

/-! ### Numbers of bytes -/
def inBy (n : Int) : Bool := decide (0 ≤ n ∧ n ≤ 262144)
/-- What Check says. -/
def chkBy (b : By) : Int :=
  if inBy b.live = true ∧ inBy b.tombs = true ∧ inBy b.dead = true ∧ inBy b.total = true ∧ b.total = b.live + b.tombs + b.dead ∧ 0 ≤ b.last ∧ b.last ≤ 1099511627776 ∧ (b.last = 0 ↔ b.total = 0) then 0 else 2
end Go.Proofs.Ythefpmmeoajaiaa

/- ledger.of: the bytes of a slot. -/
set_option linter.unusedVariables false
set_option linter.unusedSimpArgs false
namespace Go.Proofs.Ythefpmmeoajaiaa
open Go.RowKit Go.Shelf
attribute [local go_sem] OvM cell_ovm obj_ovm
attribute [local go_sem] Oper.semAt_some

structure AccB where
  l : Int
  t : Int
  d : Int
  last : Int
def stepB (X : IX) (a : AccB) (e : En) : AccB :=
  if classE X e = 0 then ⟨a.l + e.size, a.t, a.d, max a.last e.seq⟩ else if classE X e = 1 then ⟨a.l, a.t + e.size, a.d, max a.last e.seq⟩ else ⟨a.l, a.t, a.d + e.size, max a.last e.seq⟩
def accB (X : IX) (l : List En) : AccB := l.foldl (stepB X) ⟨0, 0, 0, 0⟩
theorem accB_snoc (X : IX) (l : List En) (e : En) : accB X (l ++ [e]) = stepB X (accB X l) e := by simp [accB]
def byOf (X : IX) (s : Int) : By := ⟨(accB X (X.slot s)).l + (accB X (X.slot s)).t + (accB X (X.slot s)).d, (accB X (X.slot s)).l, (accB X (X.slot s)).t, (accB X (X.slot s)).d, (accB X (X.slot s)).last⟩
structure AccOk (a : AccB) (n : Int) : Prop where
  l0 : 0 ≤ a.l
  t0 : 0 ≤ a.t
  d0 : 0 ≤ a.d
  s : a.l + a.t + a.d ≤ 8192 * n
  m0 : 0 ≤ a.last
  m1 : a.last ≤ 1099511627776
theorem step_ok {X : IX} {a : AccB} {e : En} {n : Int} (h : AccOk a n) (hv : validE e = true) : AccOk (stepB X a e) (n + 1) := by
  have hv := (valid_iff e).1 hv
  obtain ⟨h1, h2, h3, h4, h5, h6⟩ := h
  unfold stepB
  (repeat' split) <;> exact ⟨by simp only; omega, by simp only; omega, by simp only; omega, by simp only; omega, by simp only; omega, by simp only; omega⟩
theorem acc_ok' (X : IX) : ∀ (l : List En) (a : AccB) (n : Int), AccOk a n → (∀ e ∈ l, validE e = true) → AccOk (l.foldl (stepB X) a) (n + l.length)
  | [], a, n, h, _ => by simpa using h
  | e :: l, a, n, h, hv => by
    have := acc_ok' X l _ (n + 1) (step_ok (X := X) h (hv e (by simp))) (fun x hx => hv x (List.mem_cons_of_mem _ hx))
    simp only [List.foldl_cons, List.length_cons, Int.natCast_add] at *
    rw [show n + ((l.length : Int) + (1 : Nat)) = n + 1 + l.length by omega]
    exact this
theorem acc_ok (X : IX) (l : List En) (h : ∀ e ∈ l, validE e = true) : AccOk (accB X l) l.length := by
  have := acc_ok' X l ⟨0, 0, 0, 0⟩ 0 ⟨by simp, by simp, by simp, by simp, by simp, by simp⟩ h
  simpa [accB] using this
theorem classE_or (X : IX) (e : En) : classE X e = 0 ∨ classE X e = 1 ∨ classE X e = 2 := by unfold classE; (repeat' split) <;> simp
set_option maxRecDepth 40000 in
set_option maxHeartbeats 4000000 in
theorem of_any {w : World} {p : Option Addr} {X : IX} {S : Nat → Prop} (h : IXP w p X S) (s : Int) : Calls Try.prog 62 #[.pointer p, .int .i64 s] w fun e w' => e = .returned (byV (byOf X s)) ∧ Gr w w' := by
  have H := Lib.hid h
  have HOK := Lib.hid h.ok
  clear h
  refine calls_of_wp_marks Try.func62 rfl ?_
  simp only [Try.ntmps62, List.size_toArray, List.length_cons, List.length_nil, Nat.reduceAdd, Nat.reduceSub, Array.replicate_succ, Array.replicate_zero, List.push_toArray, List.append_toArray, List.nil_append, List.cons_append]
  go_wp2_with fail
  obtain ⟨b2, hb2⟩ : ∃ q, q = w.heap.size := ⟨_, rfl⟩
  obtain ⟨w0, hw0⟩ : ∃ y, y = (((w.alloc (.cells #[.pointer p] 32)).alloc (.cells #[.int .i64 0, .int .i64 0, .int .i64 0, .int .i64 0, .int .i64 0] 37)).alloc (.cells #[.int .i64 0, .int .i64 0, .int .i64 0] 176)).alloc (.cells #[.int .i64 0] 2) := ⟨_, rfl⟩
  have HSW : Hid (SW w [blkA (b2 + 1 + 1 + 1) (.cells #[.int .i64 0] 2), blkA (b2 + 1 + 1) (.cells #[.int .i64 0, .int .i64 0, .int .i64 0] 176), blkA (b2 + 1) (.cells #[.int .i64 0, .int .i64 0, .int .i64 0, .int .i64 0, .int .i64 0] 37), blkA b2 (.cells #[.pointer p] 32)] w0) := Lib.hid (by
    have := ((((SW.start w).alloc (.cells #[.pointer p] 32)).alloc (.cells #[.int .i64 0, .int .i64 0, .int .i64 0, .int .i64 0, .int .i64 0] 37)).alloc (.cells #[.int .i64 0, .int .i64 0, .int .i64 0] 176)).alloc (.cells #[.int .i64 0] 2)
    simp only [World.size_alloc] at this
    rw [hw0, hb2]
    exact this)
  rw [← hw0, ← hb2]
  clear hw0 hb2
  refine (Slot_any p s _).mono ?_
  rintro e' w1 ⟨bb, bs, rfl, h1, h2, h3, h4, hg⟩
  have HS1 := Lib.hid (HSW.out.gr hg)
  have HI := Lib.hid (H.out.gr HS1.out.g)
  have HSEQ := Lib.hid (SeqSlotP HI.out s bb bs h1 h2)
  have hA : ∀ q, (q = bb ∨ q = bs ∨ S q) → q < w1.heap.size := fun q hq => by
    have l1 := World.block_lt_of_cell? w1 ⟨bb, 0, none⟩ h1
    have l2 := World.block_lt_of_cell? w1 ⟨bs, 0, none⟩ h2
    rcases hq with rfl | rfl | hq
    · exact l1
    · exact l2
    · exact HI.out.lt q hq
  have HA := Lib.hid hA
  have HZ : Hid (SWz w w1 (fun q => q = bb ∨ q = bs ∨ S q) [blkA (b2 + 1 + 1 + 1) (.cells #[.int .i64 0] 2), blkA (b2 + 1 + 1) (.cells #[.int .i64 0, .int .i64 0, .int .i64 0] 176), blkA (b2 + 1) (.cells #[.int .i64 0, .int .i64 0, .int .i64 0, .int .i64 0, .int .i64 0] 37), blkA b2 (.cells #[.pointer p] 32)] (fun _ => False) w1) := Lib.hid (SWz.start HS1.out (fun B hB k hk ha => by
    have l1 := HSW.out.s.lt hB k hk
    have l2 := HSW.out.n B hB k hk
    rcases ha with rfl | rfl | ha
    · omega
    · omega
    · have := H.out.lt k ha; omega))
  clear h1 h2 h3 h4 hg hA
  go_wp2_with fail
  apply wp_rangeFunc_zx (gf := 100) (lb := #[.pointer (some ⟨bb, 0, none⟩), .pointer (some ⟨bs, 0, none⟩)]) rfl (enters_of Try.func100 (by kernel_rfl) rfl) HSEQ.out (Mdh.refl _ w1) HA.out (fun _ => rfl)
    (fun Z pre X' => SWz w w1 (fun q => q = bb ∨ q = bs ∨ S q) [blkA (b2 + 1 + 1 + 1) (.cells #[.int .i64 (accB X pre).last] 2), blkA (b2 + 1 + 1) (.cells #[.int .i64 (accB X pre).l, .int .i64 (accB X pre).t, .int .i64 (accB X pre).d] 176), blkA (b2 + 1) (.cells #[.int .i64 0, .int .i64 0, .int .i64 0, .int .i64 0, .int .i64 0] 37), blkA b2 (.cells #[.pointer p] 32)] Z X')
    (fun _ _ _ => False) (fun _ _ _ => False)
    (SWz.apart HS1.out.g.sz (fun pre => [blkA (b2 + 1 + 1 + 1) (.cells #[.int .i64 (accB X pre).last] 2), blkA (b2 + 1 + 1) (.cells #[.int .i64 (accB X pre).l, .int .i64 (accB X pre).t, .int .i64 (accB X pre).d] 176), blkA (b2 + 1) (.cells #[.int .i64 0, .int .i64 0, .int .i64 0, .int .i64 0, .int .i64 0] 37), blkA b2 (.cells #[.pointer p] 32)])) apart_no apart_no
    HZ.out (fun Z pre X' h => h.frm HS1.out.g) (fun x => .cells #[.int .i64 x.seq, .string x.key, .bool x.del, .int .i64 x.slot, .int .i64 x.off, .int .i64 x.size] 43)
    _ ?assign ?body ?hend ?hret
  case hret => intro _ _ _ _ _ _ _ h; exact h.elim
  case assign =>
    intro l x bx X' K hbx hK
    dsimp only [encE, enV]
    gi_wp2
    rw [← hbx]
    exact hK
  case body =>
    intro l Z pre x bx X' hI hbx hx hzx hzl hlr hsp
    have HIZ := Lib.hid hI
    have HBX := Lib.hid hx
    have hv : validE x = true := ((HOK.out.slotOk s).e x (hsp.subset (by simp))).2
    have HAC := Lib.hid (acc_ok X pre (fun e he => ((HOK.out.slotOk s).e e (hsp.subset (List.mem_append_left _ he))).2))
    have HPL : Hid ((pre.length : Int) ≤ 512) := Lib.hid (by have := hsp.length_le; have := HOK.out.slot_le s; simp at *; omega)
    have HSN := Lib.hid (accB_snoc X pre x)
    have HV2 := Lib.hid ((valid_iff x).1 hv)
    clear hI hx hsp hv
    have hxb : X'.heap[bx]? = _ := HBX.out
    have c7 := (cellsOf hxb).1
    have HXL := Lib.hid (blkLt hxb)
    have c5' := (cellsOf (show X'.heap[b2 + 1 + 1]? = _ from HIZ.out.s.get (i := 1) rfl))
    have c6' := (cellsOf (show X'.heap[b2 + 1 + 1 + 1]? = _ from HIZ.out.s.get (i := 0) rfl))
    have c2' := (cellsOf (show X'.heap[b2]? = _ from HIZ.out.s.get (i := 3) rfl)).1
    have hlt5 := blkLt (show X'.heap[b2 + 1 + 1]? = _ from HIZ.out.s.get (i := 1) rfl)
    have HP5 := Lib.hid (show X'.heap[b2 + 1 + 1]? = _ from HIZ.out.s.get (i := 1) rfl)
    have HP6 := Lib.hid (show X'.heap[b2 + 1 + 1 + 1]? = _ from HIZ.out.s.get (i := 0) rfl)
    have HIX : Hid (IXP X' p X S) := Lib.hid (H.out.gr HIZ.out.s.g)
    generalize accB X pre = a at *
    obtain ⟨a1, a2, a3, a4⟩ := a
    simp only at *
    obtain ⟨o1, o2, o3, o4, o5, o6⟩ := HAC.out
    have o7 := HPL.out
    simp only at o1 o2 o3 o4 o5 o6
    have HV := HV2.out
    obtain ⟨v1, v2, v3, v4, v5, v6⟩ := HV2.out
    clear HV
    have HNE : Hid (bx ≠ b2 + 1 + 1) := Lib.hid (by have := blkLt (show w1.heap[b2 + 1 + 1]? = _ from HS1.out.get (i := 1) rfl); omega)
    gi_wp2_with fail
    rcases classE_or X x with hc | hc | hc
    · have F1 := Lib.hid hc
      have HN : Hid (accB X (pre ++ [x]) = ⟨a1 + x.size, a2, a3, max a4 x.seq⟩) := Lib.hid (by rw [HSN.out]; simp [stepB, hc])
      clear hc
      have n7 := HNE.out
      obtain ⟨c5, f5⟩ := c5'
      obtain ⟨c6, f6⟩ := c6'
      refine wpIn_region_flo (fun _ => trivial) rfl (fun k => k = b2 + 1 + 1) [] [16] (by kernel_rfl) (by kernel_rfl) (fun k hk => by subst hk; exact hlt5) ?_
      refine flo_seg 2 rfl ?_
      simp only [List.take_succ_cons, List.take_zero, List.drop_succ_cons, List.drop_zero]
      repeat (go_big_quiet_step (fail))
      refine wpQuiet_nil ?_
      refine flo_eff rfl rfl rfl rfl (fun K hK => ?_)
      gi_wp2_with ((refine ⟨trivial, ?_⟩; gi_at_call 116; refine (CallsIn.inRound l (callsIn_wide.2 (class_any (HIX.out.gr ((Gr.refl _).drew)) x))).mono ?_; rintro e w9 ⟨rfl, hg9⟩; rw [F1.out]; have HGD := Lib.hid hg9; have HG9 := Lib.hid (((Gr.refl _).drew).trans hg9); have d7 := (cellsOf (HG9.out.blk HBX.out)).1; have d5 := (cellsOf (HG9.out.blk HP5.out)).1; have d6 := (cellsOf (HG9.out.blk HP6.out)).1; have g5 := (cellsOf (HG9.out.blk HP5.out)).2; have g6 := (cellsOf (HG9.out.blk HP6.out)).2; clear hg9))
      refine ⟨by first | exact HGD.out.mdh _ | exact HG9.out.mdh _, ?_⟩
      refine flo_seg 1 rfl ?_
      simp only [List.take_succ_cons, List.take_zero, List.drop_succ_cons, List.drop_zero]
      repeat (go_big_quiet_step (fail))
      refine wpQuiet_nil ?_
      refine flo_eff rfl rfl rfl rfl (fun K hK => ?_)
      gi_wp2
      refine ⟨by (first | (refine Gr.mdh ?_ _; (repeat (first | (with_reducible exact Gr.refl _) | assumption | (with_reducible apply Gr.from_drew) | (with_reducible apply Gr.alloc) | (with_reducible apply Gr.drew) | (with_reducible refine Gr.trans ?_ (by assumption)) | (with_reducible refine Gr.setCell ?_ (by omega) _))); done) | (repeat (first | (with_reducible exact Mdh.refl _ _) | (with_reducible refine Mdh.setCell ?_ (by simp) _) | (with_reducible refine Mdh.setNew ?_ (by simp) _) | (with_reducible apply Mdh.alloc) | (with_reducible apply Mdh.from_drew) | (with_reducible apply Mdh.drew) | (with_reducible refine Mdh.gr ?_ (by assumption))))), ?_⟩
      refine flo_seg 4 rfl ?_
      simp only [List.take_succ_cons, List.take_zero, List.drop_succ_cons, List.drop_zero]
      repeat (go_big_quiet_step (fail))
      refine wpQuiet_nil ?_
      refine flo_eff rfl rfl rfl rfl (fun K hK => ?_)
      gi_wp2
      refine ⟨by (first | (refine Gr.mdh ?_ _; (repeat (first | (with_reducible exact Gr.refl _) | assumption | (with_reducible apply Gr.from_drew) | (with_reducible apply Gr.alloc) | (with_reducible apply Gr.drew) | (with_reducible refine Gr.trans ?_ (by assumption)) | (with_reducible refine Gr.setCell ?_ (by omega) _))); done) | (repeat (first | (with_reducible exact Mdh.refl _ _) | (with_reducible refine Mdh.setCell ?_ (by simp) _) | (with_reducible refine Mdh.setNew ?_ (by simp) _) | (with_reducible apply Mdh.alloc) | (with_reducible apply Mdh.from_drew) | (with_reducible apply Mdh.drew) | (with_reducible refine Mdh.gr ?_ (by assumption))))), ?_⟩
      refine flo_nil ?_
      obtain ⟨X2, hX2⟩ : ∃ y, y = w9.setCell ⟨b2 + 1 + 1, 0, none⟩ (.int .i64 (a1 + x.size)) := ⟨_, rfl⟩
      rw [← hX2]
      have HS2 := Lib.hid (HIZ.out.gr HG9.out)
      have HB2 := Lib.hid (HS2.out.1.box (i := 1) rfl HA.out ((Mdh.refl (fun k => k = b2 + 1 + 1) w9).setCell (p := ⟨b2 + 1 + 1, 0, none⟩) rfl (.int .i64 (a1 + x.size))) (blkSet (j := 0) (u := .int .i64 (a1 + x.size)) (HG9.out.blk HP5.out)))
      have HB3 := Lib.hid HB2.out
      rw [← hX2] at HB3
      have HP62 : Hid (X2.heap[b2 + 1 + 1 + 1]? = _) := Lib.hid (HB3.out.1.s.get (i := 0) rfl)
      have hx2 : X2.heap[bx]? = _ := (show X2.heap[bx]? = w9.heap[bx]? from by rw [hX2]; exact Below.heap_setCell _ _ _ _ HNE.out).trans (HG9.out.blk HBX.out)
      clear hX2 c7 c5 f5 c6 f6 c2' d7 d5 d6 g5 g6
      have c7 := (cellsOf hx2).1
      obtain ⟨c6, f6⟩ := cellsOf HP62.out
      clear hx2
      gi_wp2
      all_goals
        have HB4 := HB3.out.1.box (i := 0) rfl HA.out ((Mdh.refl (fun k => k = b2 + 1 + 1 + 1) X2).setCell (p := ⟨b2 + 1 + 1 + 1, 0, none⟩) rfl (.int .i64 (max a4 x.seq))) (blkSet (j := 0) (u := .int .i64 (max a4 x.seq)) HP62.out)
        have HNo := HN.out
        first
          | (have hm : max a4 x.seq = x.seq := by omega
             rw [hm] at HB4 HNo
             refine ⟨(HS2.out.2.trans HB3.out.2).trans HB4.2, ?_⟩
             dsimp only
             rw [HNo]
             exact HB4.1)
          | (have hm : max a4 x.seq = a4 := by omega
             rw [hm] at HB4 HNo
             refine ⟨(HS2.out.2.trans HB3.out.2).trans HB4.2, ?_⟩
             dsimp only
             rw [HNo]
             exact HB4.1)
    · have F1 := Lib.hid hc
      have HN : Hid (accB X (pre ++ [x]) = ⟨a1, a2 + x.size, a3, max a4 x.seq⟩) := Lib.hid (by rw [HSN.out]; simp [stepB, hc])
      clear hc
      have n7 := HNE.out
      obtain ⟨c5, f5⟩ := c5'
      obtain ⟨c6, f6⟩ := c6'
      refine wpIn_region_flo (fun _ => trivial) rfl (fun k => k = b2 + 1 + 1) [] [16] (by kernel_rfl) (by kernel_rfl) (fun k hk => by subst hk; exact hlt5) ?_
      refine flo_seg 2 rfl ?_
      simp only [List.take_succ_cons, List.take_zero, List.drop_succ_cons, List.drop_zero]
      repeat (go_big_quiet_step (fail))
      refine wpQuiet_nil ?_
      refine flo_eff rfl rfl rfl rfl (fun K hK => ?_)
      gi_wp2_with ((refine ⟨trivial, ?_⟩; gi_at_call 116; refine (CallsIn.inRound l (callsIn_wide.2 (class_any (HIX.out.gr ((Gr.refl _).drew)) x))).mono ?_; rintro e w9 ⟨rfl, hg9⟩; rw [F1.out]; have HGD := Lib.hid hg9; have HG9 := Lib.hid (((Gr.refl _).drew).trans hg9); have d7 := (cellsOf (HG9.out.blk HBX.out)).1; have d5 := (cellsOf (HG9.out.blk HP5.out)).1; have d6 := (cellsOf (HG9.out.blk HP6.out)).1; have g5 := (cellsOf (HG9.out.blk HP5.out)).2; have g6 := (cellsOf (HG9.out.blk HP6.out)).2; clear hg9))
      refine ⟨by first | exact HGD.out.mdh _ | exact HG9.out.mdh _, ?_⟩
      refine flo_seg 1 rfl ?_
      simp only [List.take_succ_cons, List.take_zero, List.drop_succ_cons, List.drop_zero]
      repeat (go_big_quiet_step (fail))
      refine wpQuiet_nil ?_
      refine flo_eff rfl rfl rfl rfl (fun K hK => ?_)
      gi_wp2
      refine ⟨by (first | (refine Gr.mdh ?_ _; (repeat (first | (with_reducible exact Gr.refl _) | assumption | (with_reducible apply Gr.from_drew) | (with_reducible apply Gr.alloc) | (with_reducible apply Gr.drew) | (with_reducible refine Gr.trans ?_ (by assumption)) | (with_reducible refine Gr.setCell ?_ (by omega) _))); done) | (repeat (first | (with_reducible exact Mdh.refl _ _) | (with_reducible refine Mdh.setCell ?_ (by simp) _) | (with_reducible refine Mdh.setNew ?_ (by simp) _) | (with_reducible apply Mdh.alloc) | (with_reducible apply Mdh.from_drew) | (with_reducible apply Mdh.drew) | (with_reducible refine Mdh.gr ?_ (by assumption))))), ?_⟩
      refine flo_seg 4 rfl ?_
      simp only [List.take_succ_cons, List.take_zero, List.drop_succ_cons, List.drop_zero]
      repeat (go_big_quiet_step (fail))
      refine wpQuiet_nil ?_
      refine flo_eff rfl rfl rfl rfl (fun K hK => ?_)
      gi_wp2
      refine ⟨by (first | (refine Gr.mdh ?_ _; (repeat (first | (with_reducible exact Gr.refl _) | assumption | (with_reducible apply Gr.from_drew) | (with_reducible apply Gr.alloc) | (with_reducible apply Gr.drew) | (with_reducible refine Gr.trans ?_ (by assumption)) | (with_reducible refine Gr.setCell ?_ (by omega) _))); done) | (repeat (first | (with_reducible exact Mdh.refl _ _) | (with_reducible refine Mdh.setCell ?_ (by simp) _) | (with_reducible refine Mdh.setNew ?_ (by simp) _) | (with_reducible apply Mdh.alloc) | (with_reducible apply Mdh.from_drew) | (with_reducible apply Mdh.drew) | (with_reducible refine Mdh.gr ?_ (by assumption))))), ?_⟩
      refine flo_nil ?_
      obtain ⟨X2, hX2⟩ : ∃ y, y = w9.setCell ⟨b2 + 1 + 1, 1, none⟩ (.int .i64 (a2 + x.size)) := ⟨_, rfl⟩
      rw [← hX2]
      have HS2 := Lib.hid (HIZ.out.gr HG9.out)
      have HB2 := Lib.hid (HS2.out.1.box (i := 1) rfl HA.out ((Mdh.refl (fun k => k = b2 + 1 + 1) w9).setCell (p := ⟨b2 + 1 + 1, 1, none⟩) rfl (.int .i64 (a2 + x.size))) (blkSet (j := 1) (u := .int .i64 (a2 + x.size)) (HG9.out.blk HP5.out)))
      have HB3 := Lib.hid HB2.out
      rw [← hX2] at HB3
      have HP62 : Hid (X2.heap[b2 + 1 + 1 + 1]? = _) := Lib.hid (HB3.out.1.s.get (i := 0) rfl)
      have hx2 : X2.heap[bx]? = _ := (show X2.heap[bx]? = w9.heap[bx]? from by rw [hX2]; exact Below.heap_setCell _ _ _ _ HNE.out).trans (HG9.out.blk HBX.out)
      clear hX2 c7 c5 f5 c6 f6 c2' d7 d5 d6 g5 g6
      have c7 := (cellsOf hx2).1
      obtain ⟨c6, f6⟩ := cellsOf HP62.out
      clear hx2
      gi_wp2
      all_goals
        have HB4 := HB3.out.1.box (i := 0) rfl HA.out ((Mdh.refl (fun k => k = b2 + 1 + 1 + 1) X2).setCell (p := ⟨b2 + 1 + 1 + 1, 0, none⟩) rfl (.int .i64 (max a4 x.seq))) (blkSet (j := 0) (u := .int .i64 (max a4 x.seq)) HP62.out)
        have HNo := HN.out
        first
          | (have hm : max a4 x.seq = x.seq := by omega
             rw [hm] at HB4 HNo
             refine ⟨(HS2.out.2.trans HB3.out.2).trans HB4.2, ?_⟩
             dsimp only
             rw [HNo]
             exact HB4.1)
          | (have hm : max a4 x.seq = a4 := by omega
             rw [hm] at HB4 HNo
             refine ⟨(HS2.out.2.trans HB3.out.2).trans HB4.2, ?_⟩
             dsimp only
             rw [HNo]
             exact HB4.1)
    · have F1 := Lib.hid hc
      have HN : Hid (accB X (pre ++ [x]) = ⟨a1, a2, a3 + x.size, max a4 x.seq⟩) := Lib.hid (by rw [HSN.out]; simp [stepB, hc])
      clear hc
      have n7 := HNE.out
      obtain ⟨c5, f5⟩ := c5'
      obtain ⟨c6, f6⟩ := c6'
      refine wpIn_region_flo (fun _ => trivial) rfl (fun k => k = b2 + 1 + 1) [] [16] (by kernel_rfl) (by kernel_rfl) (fun k hk => by subst hk; exact hlt5) ?_
      refine flo_seg 2 rfl ?_
      simp only [List.take_succ_cons, List.take_zero, List.drop_succ_cons, List.drop_zero]
      repeat (go_big_quiet_step (fail))
      refine wpQuiet_nil ?_
      refine flo_eff rfl rfl rfl rfl (fun K hK => ?_)
      gi_wp2_with ((refine ⟨trivial, ?_⟩; gi_at_call 116; refine (CallsIn.inRound l (callsIn_wide.2 (class_any (HIX.out.gr ((Gr.refl _).drew)) x))).mono ?_; rintro e w9 ⟨rfl, hg9⟩; rw [F1.out]; have HGD := Lib.hid hg9; have HG9 := Lib.hid (((Gr.refl _).drew).trans hg9); have d7 := (cellsOf (HG9.out.blk HBX.out)).1; have d5 := (cellsOf (HG9.out.blk HP5.out)).1; have d6 := (cellsOf (HG9.out.blk HP6.out)).1; have g5 := (cellsOf (HG9.out.blk HP5.out)).2; have g6 := (cellsOf (HG9.out.blk HP6.out)).2; clear hg9))
      refine ⟨by first | exact HGD.out.mdh _ | exact HG9.out.mdh _, ?_⟩
      refine flo_seg 1 rfl ?_
      simp only [List.take_succ_cons, List.take_zero, List.drop_succ_cons, List.drop_zero]
      repeat (go_big_quiet_step (fail))
      refine wpQuiet_nil ?_
      refine flo_eff rfl rfl rfl rfl (fun K hK => ?_)
      gi_wp2
      refine ⟨by (first | (refine Gr.mdh ?_ _; (repeat (first | (with_reducible exact Gr.refl _) | assumption | (with_reducible apply Gr.from_drew) | (with_reducible apply Gr.alloc) | (with_reducible apply Gr.drew) | (with_reducible refine Gr.trans ?_ (by assumption)) | (with_reducible refine Gr.setCell ?_ (by omega) _))); done) | (repeat (first | (with_reducible exact Mdh.refl _ _) | (with_reducible refine Mdh.setCell ?_ (by simp) _) | (with_reducible refine Mdh.setNew ?_ (by simp) _) | (with_reducible apply Mdh.alloc) | (with_reducible apply Mdh.from_drew) | (with_reducible apply Mdh.drew) | (with_reducible refine Mdh.gr ?_ (by assumption))))), ?_⟩
      refine flo_seg 4 rfl ?_
      simp only [List.take_succ_cons, List.take_zero, List.drop_succ_cons, List.drop_zero]
      repeat (go_big_quiet_step (fail))
      refine wpQuiet_nil ?_
      refine flo_eff rfl rfl rfl rfl (fun K hK => ?_)
      gi_wp2
      refine ⟨by (first | (refine Gr.mdh ?_ _; (repeat (first | (with_reducible exact Gr.refl _) | assumption | (with_reducible apply Gr.from_drew) | (with_reducible apply Gr.alloc) | (with_reducible apply Gr.drew) | (with_reducible refine Gr.trans ?_ (by assumption)) | (with_reducible refine Gr.setCell ?_ (by omega) _))); done) | (repeat (first | (with_reducible exact Mdh.refl _ _) | (with_reducible refine Mdh.setCell ?_ (by simp) _) | (with_reducible refine Mdh.setNew ?_ (by simp) _) | (with_reducible apply Mdh.alloc) | (with_reducible apply Mdh.from_drew) | (with_reducible apply Mdh.drew) | (with_reducible refine Mdh.gr ?_ (by assumption))))), ?_⟩
      refine flo_nil ?_
      obtain ⟨X2, hX2⟩ : ∃ y, y = w9.setCell ⟨b2 + 1 + 1, 2, none⟩ (.int .i64 (a3 + x.size)) := ⟨_, rfl⟩
      rw [← hX2]
      have HS2 := Lib.hid (HIZ.out.gr HG9.out)
      have HB2 := Lib.hid (HS2.out.1.box (i := 1) rfl HA.out ((Mdh.refl (fun k => k = b2 + 1 + 1) w9).setCell (p := ⟨b2 + 1 + 1, 2, none⟩) rfl (.int .i64 (a3 + x.size))) (blkSet (j := 2) (u := .int .i64 (a3 + x.size)) (HG9.out.blk HP5.out)))
      have HB3 := Lib.hid HB2.out
      rw [← hX2] at HB3
      have HP62 : Hid (X2.heap[b2 + 1 + 1 + 1]? = _) := Lib.hid (HB3.out.1.s.get (i := 0) rfl)
      have hx2 : X2.heap[bx]? = _ := (show X2.heap[bx]? = w9.heap[bx]? from by rw [hX2]; exact Below.heap_setCell _ _ _ _ HNE.out).trans (HG9.out.blk HBX.out)
      clear hX2 c7 c5 f5 c6 f6 c2' d7 d5 d6 g5 g6
      have c7 := (cellsOf hx2).1
      obtain ⟨c6, f6⟩ := cellsOf HP62.out
      clear hx2
      gi_wp2
      all_goals
        have HB4 := HB3.out.1.box (i := 0) rfl HA.out ((Mdh.refl (fun k => k = b2 + 1 + 1 + 1) X2).setCell (p := ⟨b2 + 1 + 1 + 1, 0, none⟩) rfl (.int .i64 (max a4 x.seq))) (blkSet (j := 0) (u := .int .i64 (max a4 x.seq)) HP62.out)
        have HNo := HN.out
        first
          | (have hm : max a4 x.seq = x.seq := by omega
             rw [hm] at HB4 HNo
             refine ⟨(HS2.out.2.trans HB3.out.2).trans HB4.2, ?_⟩
             dsimp only
             rw [HNo]
             exact HB4.1)
          | (have hm : max a4 x.seq = a4 := by omega
             rw [hm] at HB4 HNo
             refine ⟨(HS2.out.2.trans HB3.out.2).trans HB4.2, ?_⟩
             dsimp only
             rw [HNo]
             exact HB4.1)
  case hend =>
    intro Z D xs W hD hZD hcase hdef
    obtain ⟨hxs, hI⟩ := hcase.elim (fun h => h) (fun h => h.2.elim)
    have hxs' : xs = X.slot s := hxs
    subst hxs'
    have HIZ := Lib.hid hI
    have HD := Lib.hid (And.intro hD hdef)
    have HAC := Lib.hid (acc_ok X (X.slot s) (fun e he => ((HOK.out.slotOk s).e e he).2))
    have HPL : Hid (((X.slot s).length : Int) ≤ 512) := Lib.hid (by have := HOK.out.slot_le s; omega)
    have HBY : Hid (byOf X s = ⟨(accB X (X.slot s)).l + (accB X (X.slot s)).t + (accB X (X.slot s)).d, (accB X (X.slot s)).l, (accB X (X.slot s)).t, (accB X (X.slot s)).d, (accB X (X.slot s)).last⟩) := Lib.hid rfl
    clear hxs hI hcase hD hdef
    generalize accB X (X.slot s) = a at *
    obtain ⟨a1, a2, a3, a4⟩ := a
    simp only at *
    obtain ⟨o1, o2, o3, o4, o5, o6⟩ := HAC.out
    have o7 := HPL.out
    simp only at o1 o2 o3 o4 o5 o6
    have hb4 : W.heap[b2 + 1]? = _ := HIZ.out.s.get (i := 2) rfl
    have c5 := (cellsOf (show W.heap[b2 + 1 + 1]? = _ from HIZ.out.s.get (i := 1) rfl)).1
    have c6 := (cellsOf (show W.heap[b2 + 1 + 1 + 1]? = _ from HIZ.out.s.get (i := 0) rfl)).1
    obtain ⟨c4, f4⟩ := cellsOf hb4
    have HB4 := Lib.hid hb4
    clear hb4
    (try dsimp only)
    go_wp2_with fail
    obtain ⟨W2, hW2⟩ : ∃ y, y = (((((W.setCell ⟨b2 + 1, 0, none⟩ (.int .i64 (a1 + a2 + a3))).setCell ⟨b2 + 1, 1, none⟩ (.int .i64 a1)).setCell ⟨b2 + 1, 2, none⟩ (.int .i64 a2)).setCell ⟨b2 + 1, 3, none⟩ (.int .i64 a3)).setCell ⟨b2 + 1, 4, none⟩ (.int .i64 a4)) := ⟨_, rfl⟩
    have n4 : D ≠ b2 + 1 := fun e => by have := HIZ.out.z _ (List.mem_cons_of_mem _ (List.mem_cons_of_mem _ (List.mem_cons_self ..))) (b2 + 1) rfl; exact this (e ▸ hZD)
    have hWd : W2.heap[D]? = some (.deferred (some [])) := by rw [hW2]; exact blkSetO (blkSetO (blkSetO (blkSetO (blkSetO HD.out.2 n4) n4) n4) n4) n4
    have hWg : Gr w W2 := by
      have hb := HS1.out.g
      have hn : w.heap.size ≤ b2 + 1 := HSW.out.n _ (List.mem_cons_of_mem _ (List.mem_cons_of_mem _ (List.mem_cons_self ..))) (b2 + 1) rfl
      rw [hW2]
      exact ((((HIZ.out.s.g.setCell (p := ⟨b2 + 1, 0, none⟩) hn _).setCell (p := ⟨b2 + 1, 1, none⟩) hn _).setCell (p := ⟨b2 + 1, 2, none⟩) hn _).setCell (p := ⟨b2 + 1, 3, none⟩) hn _).setCell (p := ⟨b2 + 1, 4, none⟩) hn _
    have hWb : W2.heap[b2 + 1]? = some (.cells #[.int .i64 (a1 + a2 + a3), .int .i64 a1, .int .i64 a2, .int .i64 a3, .int .i64 a4] 37) := by rw [hW2]; exact blkSet (j := 4) (blkSet (j := 3) (blkSet (j := 2) (blkSet (j := 1) (blkSet (j := 0) HB4.out))))
    rw [← hW2]
    have h4' : (W2.putObj D (.deferred none)).heap[b2 + 1]? = _ := (World.putObj_heap_other n4.symm).trans hWb
    obtain ⟨d4, _⟩ := cellsOf h4'
    have hnD : w.heap.size ≤ D := by have := HD.out.1; have := HS1.out.g.sz; omega
    refine retM1 (D := D) (v := byV (byOf X s)) rfl hWd ?_ ⟨rfl, hWg.putObj hnD _⟩
    rw [HBY.out]
    simp [results, Try.results62, go_sem, d4, byV]
end Go.Proofs.Ythefpmmeoajaiaa

/- ledger.Of: the bytes of a slot, or why not. -/
set_option linter.unusedVariables false
set_option linter.unusedSimpArgs false
namespace Go.Proofs.Ythefpmmeoajaiaa
open Go.RowKit Go.Shelf
attribute [local go_sem] OvM cell_ovm obj_ovm
attribute [local go_sem] Oper.semAt_some

def zBy : By := ⟨0, 0, 0, 0, 0⟩
def ofL (X : IX) (s : Int) : By × Int := if X.slots.length = 0 then (zBy, 1) else if s < 0 ∨ (X.slots.length : Int) ≤ s then (zBy, 3) else (byOf X s, 0)
theorem Gr.cell5 {w w' : World} (g : Gr w w') {b : Nat} (h : w.heap.size ≤ b) (u0 u1 u2 u3 u4 : Value) : Gr w (((((w'.setCell ⟨b, 0, none⟩ u0).setCell ⟨b, 1, none⟩ u1).setCell ⟨b, 2, none⟩ u2).setCell ⟨b, 3, none⟩ u3).setCell ⟨b, 4, none⟩ u4) :=
  ((((g.setCell (p := ⟨b, 0, none⟩) h _).setCell (p := ⟨b, 1, none⟩) h _).setCell (p := ⟨b, 2, none⟩) h _).setCell (p := ⟨b, 3, none⟩) h _).setCell (p := ⟨b, 4, none⟩) h _
theorem blk5 {w : World} {b : Nat} {t : TypeId} {a0 a1 a2 a3 a4 : Value} (h : w.heap[b]? = some (.cells #[a0, a1, a2, a3, a4] t)) (u0 u1 u2 u3 u4 : Value) : (((((w.setCell ⟨b, 0, none⟩ u0).setCell ⟨b, 1, none⟩ u1).setCell ⟨b, 2, none⟩ u2).setCell ⟨b, 3, none⟩ u3).setCell ⟨b, 4, none⟩ u4).heap[b]? = some (.cells #[u0, u1, u2, u3, u4] t) :=
  blkSet (j := 4) (blkSet (j := 3) (blkSet (j := 2) (blkSet (j := 1) (blkSet (j := 0) h))))
set_option maxRecDepth 40000 in
set_option maxHeartbeats 4000000 in
theorem OfL_any {w : World} {p : Option Addr} {X : IX} {S : Nat → Prop} (h : IXP w p X S) (s : Int) : Calls Try.prog 70 #[.pointer p, .int .i64 s] w fun e w' => e = .returned (.tuple #[byV (ofL X s).1, .int .i64 (ofL X s).2]) ∧ Gr w w' := by
  have H := Lib.hid h
  obtain ⟨n, hn⟩ : ∃ n : Nat, n = X.slots.length := ⟨_, rfl⟩
  have HSL : Hid (∀ w1, Gr w w1 → Calls Try.prog 33 #[.pointer p] w1 fun e w' => e = .returned (.int .i64 n) ∧ w1 = w') := Lib.hid (fun w1 g => by rw [hn]; exact Slots_any (h.gr g))
  have HOF : Hid (ofL X s = if n = 0 then (zBy, 1) else if s < 0 ∨ (n : Int) ≤ s then (zBy, 3) else (byOf X s, 0)) := Lib.hid (by rw [hn]; rfl)
  clear h hn
  refine calls_of_wp_marks Try.func70 rfl ?_
  simp only [Try.ntmps70, List.size_toArray, List.length_cons, List.length_nil, Nat.reduceAdd, Nat.reduceSub, Array.replicate_succ, Array.replicate_zero, List.push_toArray, List.append_toArray, List.nil_append, List.cons_append]
  have h0 : (w.alloc (.cells #[.int .i64 0, .int .i64 0, .int .i64 0, .int .i64 0, .int .i64 0] 37)).heap[w.heap.size]? = _ := blkNew _ _
  have HB0 := Lib.hid h0
  clear h0
  obtain ⟨b, hb⟩ : ∃ b, b = w.heap.size := ⟨_, rfl⟩
  obtain ⟨w0, hw0⟩ : ∃ y, y = w.alloc (.cells #[.int .i64 0, .int .i64 0, .int .i64 0, .int .i64 0, .int .i64 0] 37) := ⟨_, rfl⟩
  have HG0 : Hid (Gr w w0 ∧ w.heap.size ≤ b) := Lib.hid ⟨by rw [hw0]; exact (Gr.refl _).alloc _, by omega⟩
  rw [← hw0, ← hb] at HB0
  by_cases hz : n = 0
  · subst hz
    go_wp2_with fail
    rw [← hw0, ← hb]
    obtain ⟨c4, f4⟩ := cellsOf HB0.out
    clear hw0 hb
    go_wp2_with (first
      | (go_at_call 33; refine (HSL.out _ HG0.out.1).mono ?_; rintro e w1 ⟨rfl, rfl⟩)
      | (go_at_call 62; refine (of_any (H.out.gr HG0.out.1) s).mono ?_; rintro e w1 ⟨rfl, hg⟩; simp only [byV]; have HG1 := Lib.hid hg; have e4 := (cellsOf (hg.blk HB0.out)).1; have g4 := (cellsOf (hg.blk HB0.out)).2; clear hg)
      | fail)
    have HF : ofL X s = (zBy, 1) := by rw [HOF.out]; rfl
    have hb5 := blk5 HB0.out (.int .i64 (zBy.total)) (.int .i64 (zBy.live)) (.int .i64 (zBy.tombs)) (.int .i64 (zBy.dead)) (.int .i64 (zBy.last))
    obtain ⟨d4, _⟩ := cellsOf hb5
    refine retM0 (v := .tuple #[byV (zBy), .int .i64 1]) ?_ rfl ⟨by rw [HF], Gr.cell5 (HG0.out.1) HG0.out.2 _ _ _ _ _⟩
    (try simp only [zBy] at d4)
    simp [results, Try.results70, go_sem, d4, byV, zBy]
  · have hz' : decide ((n : Int) = 0) = false := by simpa using hz
    by_cases hs : s < 0
    · go_wp2_with fail
      rw [← hw0, ← hb]
      obtain ⟨c4, f4⟩ := cellsOf HB0.out
      clear hw0 hb
      go_wp2_with (first
        | (go_at_call 33; refine (HSL.out _ HG0.out.1).mono ?_; rintro e w1 ⟨rfl, rfl⟩)
        | (go_at_call 62; refine (of_any (H.out.gr HG0.out.1) s).mono ?_; rintro e w1 ⟨rfl, hg⟩; simp only [byV]; have HG1 := Lib.hid hg; have e4 := (cellsOf (hg.blk HB0.out)).1; have g4 := (cellsOf (hg.blk HB0.out)).2; clear hg)
        | fail)
      have HF : ofL X s = (zBy, 3) := by rw [HOF.out]; simp [hz, hs]
      have hb5 := blk5 HB0.out (.int .i64 (zBy.total)) (.int .i64 (zBy.live)) (.int .i64 (zBy.tombs)) (.int .i64 (zBy.dead)) (.int .i64 (zBy.last))
      obtain ⟨d4, _⟩ := cellsOf hb5
      refine retM0 (v := .tuple #[byV (zBy), .int .i64 3]) ?_ rfl ⟨by rw [HF], Gr.cell5 (HG0.out.1) HG0.out.2 _ _ _ _ _⟩
      (try simp only [zBy] at d4)
      simp [results, Try.results70, go_sem, d4, byV, zBy]
    · by_cases hs2 : (n : Int) ≤ s
      · go_wp2_with fail
        rw [← hw0, ← hb]
        obtain ⟨c4, f4⟩ := cellsOf HB0.out
        clear hw0 hb
        go_wp2_with (first
          | (go_at_call 33; refine (HSL.out _ HG0.out.1).mono ?_; rintro e w1 ⟨rfl, rfl⟩)
          | (go_at_call 62; refine (of_any (H.out.gr HG0.out.1) s).mono ?_; rintro e w1 ⟨rfl, hg⟩; simp only [byV]; have HG1 := Lib.hid hg; have e4 := (cellsOf (hg.blk HB0.out)).1; have g4 := (cellsOf (hg.blk HB0.out)).2; clear hg)
          | fail)
        have HF : ofL X s = (zBy, 3) := by rw [HOF.out]; simp [hz, hs2]
        have hb5 := blk5 HB0.out (.int .i64 (zBy.total)) (.int .i64 (zBy.live)) (.int .i64 (zBy.tombs)) (.int .i64 (zBy.dead)) (.int .i64 (zBy.last))
        obtain ⟨d4, _⟩ := cellsOf hb5
        refine retM0 (v := .tuple #[byV (zBy), .int .i64 3]) ?_ rfl ⟨by rw [HF], Gr.cell5 (HG0.out.1) HG0.out.2 _ _ _ _ _⟩
        (try simp only [zBy] at d4)
        simp [results, Try.results70, go_sem, d4, byV, zBy]
      · go_wp2_with fail
        rw [← hw0, ← hb]
        obtain ⟨c4, f4⟩ := cellsOf HB0.out
        clear hw0 hb
        go_wp2_with (first
          | (go_at_call 33; refine (HSL.out _ HG0.out.1).mono ?_; rintro e w1 ⟨rfl, rfl⟩)
          | (go_at_call 62; refine (of_any (H.out.gr HG0.out.1) s).mono ?_; rintro e w1 ⟨rfl, hg⟩; simp only [byV]; have HG1 := Lib.hid hg; have e4 := (cellsOf (hg.blk HB0.out)).1; have g4 := (cellsOf (hg.blk HB0.out)).2; clear hg)
          | fail)
        have HF : ofL X s = (byOf X s, 0) := by rw [HOF.out]; simp [hz, hs, hs2]
        have hb5 := blk5 (HG1.out.blk HB0.out) (.int .i64 ((byOf X s).total)) (.int .i64 ((byOf X s).live)) (.int .i64 ((byOf X s).tombs)) (.int .i64 ((byOf X s).dead)) (.int .i64 ((byOf X s).last))
        obtain ⟨d4, _⟩ := cellsOf hb5
        refine retM0 (v := .tuple #[byV (byOf X s), .int .i64 0]) ?_ rfl ⟨by rw [HF], Gr.cell5 (HG0.out.1.trans HG1.out) HG0.out.2 _ _ _ _ _⟩
        (try simp only [zBy] at d4)
        simp [results, Try.results70, go_sem, d4, byV, zBy]
end Go.Proofs.Ythefpmmeoajaiaa

/- ledger.All: the bytes of all slots. -/
set_option linter.unusedVariables false
set_option linter.unusedSimpArgs false
namespace Go.Proofs.Ythefpmmeoajaiaa
open Go.RowKit Go.Shelf
attribute [local go_sem] OvM cell_ovm obj_ovm
attribute [local go_sem] Oper.semAt_some

theorem infoBy : (Try.prog.info? 37).map (fun i => (i.zero, i.size, i.bytes)) = some (some (.agg #[.int .i64 0, .int .i64 0, .int .i64 0, .int .i64 0, .int .i64 0]), 5, 40) := by kernel_rfl
def cellsBy (b : By) : List Value := [.int .i64 b.total, .int .i64 b.live, .int .i64 b.tombs, .int .i64 b.dead, .int .i64 b.last]
def rowBy (l : List By) : List Value := l.flatMap cellsBy
def allL (X : IX) (n : Nat) : List By := (List.range n).map fun i => byOf X (i : Nat)
theorem allL_succ (X : IX) (n : Nat) : allL X (n + 1) = allL X n ++ [byOf X n] := by simp [allL, List.range_succ]
theorem rowBy_snoc (l : List By) (b : By) : rowBy (l ++ [b]) = rowBy l ++ cellsBy b := by simp [rowBy]
def AllPost (X : IX) (w : World) (e : Ending) (w' : World) : Prop :=
  ∃ v, e = .returned (.tuple #[v, .int .i64 (if X.slots.length = 0 then 1 else 0)]) ∧ Nw w w' 37 5 v X.slots.length (rowBy (allL X X.slots.length)) ∧ Gr w w'
theorem Nw.nil (w : World) (e : TypeId) (K : Nat) : Nw w w e K (.slice none 0 0) 0 [] := ⟨Own.lift (World.ownsRow_nil w w.heap.size e K), fun q hq => by cases hq⟩
set_option maxRecDepth 40000 in
set_option maxHeartbeats 4000000 in
theorem All_any {w : World} {p : Option Addr} {X : IX} {S : Nat → Prop} (h : IXP w p X S) : Calls Try.prog 15 #[.pointer p] w (AllPost X w) := by
  have H := Lib.hid h
  have h32 := h.ok.n
  obtain ⟨n, hn⟩ : ∃ n : Nat, n = X.slots.length := ⟨_, rfl⟩
  have HSL : Hid (∀ w1, Gr w w1 → Calls Try.prog 33 #[.pointer p] w1 fun e w' => e = .returned (.int .i64 n) ∧ w1 = w') := Lib.hid (fun w1 g => by rw [hn]; exact Slots_any (h.gr g))
  have HAP : Hid (∀ v w', Nw w w' 37 5 v n (rowBy (allL X n)) → Gr w w' → AllPost X w (.returned (.tuple #[v, .int .i64 (if n = 0 then 1 else 0)])) w') := Lib.hid (by rw [hn]; exact fun v w' h1 h2 => ⟨v, rfl, h1, h2⟩)
  rw [← hn] at h32
  obtain ⟨i0, hi, hz0, hz1, hz2⟩ := info_parts infoBy
  generalize AllPost X w = Q at *
  clear h hn
  go_enter Try.func15, Try.ntmps15
  by_cases hz : n = 0
  · subst hz
    go_wp2_with (go_at_call 33; refine (HSL.out _ (Gr.refl _)).mono ?_; rintro e w1 ⟨rfl, rfl⟩)
    exact HAP.out _ _ (Nw.nil w _ _) (Gr.refl _)
  · have hz' : decide ((n : Int) = 0) = false := by simpa using hz
    go_wp2_with (go_at_call 33; refine (HSL.out _ (Gr.refl _)).mono ?_; rintro e w1 ⟨rfl, rfl⟩)
    go_loopw [4, 11] (fun t4 t11 wx => ∃ (j : Nat) (v : Value), j ≤ n ∧ v = t4 ∧ t11 = .int .i64 j ∧ Hid (Nw w wx 37 5 v j (rowBy (allL X j)) ∧ Gr w wx)) (fun _ t11 _ => n - (intOf t11).toNat)
    case atStart => exact ⟨0, _, by omega, rfl, rfl, Lib.hid ⟨Nw.nil w _ _, Gr.refl _⟩⟩
    case round =>
      obtain ⟨j, v, hj, rfl, rfl, HR⟩ := hrel
      by_cases hlt : j < n
      · have hlt' : (j : Int) < n := by omega
        have HROW : Hid (rowBy (allL X (j + 1)) = rowBy (allL X j) ++ cellsBy (byOf X j)) := Lib.hid (by rw [allL_succ, rowBy_snoc])
        go_wp2_with (first
          | (go_at_call 62; refine (of_any (H.out.gr HR.out.2) j).mono ?_; rintro e w1 ⟨rfl, hg⟩; generalize byOf X j = y at *; obtain ⟨y0, y1, y2, y3, y4⟩ := y; simp only [byV]; have N1 := Lib.hid (HR.out.1.gr hg); have HG1 := Lib.hid (HR.out.2.trans hg); clear hg)
          | (at_builtin; go_must (refine wpList_appv _ rfl (.tmp 14) (.tmp 18) 28 rfl 37 i0 _ 5 40 Try.underlying28 hi hz0 hz1 hz2 rfl (by decide) v j (rowBy (allL X j)) rfl (N1.out.own.gr (by (repeat (first | (with_reducible exact Gr.refl _) | assumption | (with_reducible apply Gr.from_drew) | (with_reducible apply Gr.alloc) | (with_reducible apply Gr.drew) | (with_reducible refine Gr.trans ?_ (by assumption)) | (with_reducible refine Gr.setCell ?_ (by omega) _))))) (some ⟨w1.heap.size, 0, none⟩) 1 1 (cellsBy ⟨y0, y1, y2, y3, y4⟩) rfl (src_newK w1 (cellsBy ⟨y0, y1, y2, y3, y4⟩) _ 5 rfl (by simp [cellsBy, Value.oneCell'])) (by simp only [maxLen]; omega) (by omega) ?_); intro v2 w2 hA; have N2 := Lib.hid (hA.nw (N1.out.gr ((Gr.refl w1).alloc _)) (by have := HG1.out.sz; simp; omega)); have HG2 := Lib.hid (hA.gw (N1.out.gr ((Gr.refl w1).alloc _)) (HG1.out.alloc _)); clear hA)
          | fail)
        go_roundw
        case rel => exact ⟨j + 1, v2, by omega, rfl, by go_num, Lib.hid ⟨by rw [HROW.out]; exact N2.out, HG2.out⟩⟩
        case measure => simp [intOf]; omega
      · have hlt' : ¬ (j : Int) < n := by omega
        have hjn : j = n := by omega
        subst hjn
        go_wp2
        have := HAP.out _ _ HR.out.1 HR.out.2
        rwa [if_neg hz] at this
end Go.Proofs.Ythefpmmeoajaiaa

/- ledger.add: the sum of a row; ledger.Sum. -/
set_option linter.unusedVariables false
set_option linter.unusedSimpArgs false
namespace Go.Proofs.Ythefpmmeoajaiaa
open Go.RowKit Go.Shelf
attribute [local go_sem] OvM cell_ovm obj_ovm
attribute [local go_sem] Oper.semAt_some

theorem rowBy_cons (x : By) (l : List By) : rowBy (x :: l) = cellsBy x ++ rowBy l := rfl
theorem rowBy_get (l : List By) : ∀ i x, l[i]? = some x → ∀ j u, (cellsBy x)[j]? = some u → (rowBy l)[i * 5 + j]? = some u := by
  induction l with
  | nil => intro i x h; simp at h
  | cons y l ih =>
    intro i x h j u hu
    have hj : j < 5 := by have := (List.getElem?_eq_some_iff.1 hu).1; simpa [cellsBy] using this
    rw [rowBy_cons]
    cases i with
    | zero => simp at h; subst h; rw [List.getElem?_append_left (by simp [cellsBy]; omega)]; simpa using hu
    | succ i =>
      rw [List.getElem?_append_right (by simp [cellsBy]; omega), show (i + 1) * 5 + j - (cellsBy y).length = i * 5 + j by simp [cellsBy]; omega]
      exact ih i x (by simpa using h) j u hu
theorem ownBy_at {w : World} {v : Value} {l : List By} (h : Own w 37 5 v l.length (rowBy l)) : ∃ a cap, v = .slice a l.length cap ∧ l.length ≤ cap ∧ cap ≤ maxLen ∧ ∀ i x, l[i]? = some x → ∃ g, a = some ⟨g, 0, none⟩ ∧
    ∀ j u, (cellsBy x)[j]? = some u → w.cell? ⟨g, i * 5 + j, none⟩ = some u := by
  rcases h.2 with ⟨hv, h0⟩ | ⟨g, cap, cur, hv, _, hg, h1, h2, h3, h4⟩
  · have hL : l = [] := List.eq_nil_of_length_eq_zero h0
    subst hL
    exact ⟨none, 0, hv, Nat.le_refl _, by simp [maxLen], fun i x hx => by simp at hx⟩
  · subst hv
    refine ⟨_, cap, rfl, h1, h2, fun i x hx => ⟨g, rfl, fun j u hu => ?_⟩⟩
    have hc := h.cells (g := g) rfl
    have hadd : ∀ j, (⟨g, 0, none⟩ : Addr).add j = ⟨g, j, none⟩ := fun j => by unfold Addr.add; split <;> simp_all
    rw [← hadd]
    exact hc _ _ (rowBy_get l i x hx j u hu)
def addB (a b : By) : By := ⟨a.total + b.total, a.live + b.live, a.tombs + b.tombs, a.dead + b.dead, max a.last b.last⟩
def addL (l : List By) : By := l.foldl addB zBy
theorem addL_snoc (l : List By) (b : By) : addL (l ++ [b]) = addB (addL l) b := by simp [addL]
/-- No more than M in any field. -/
structure ByLe (b : By) (M : Int) : Prop where
  t : 0 ≤ b.total ∧ b.total ≤ M
  l : 0 ≤ b.live ∧ b.live ≤ M
  m : 0 ≤ b.tombs ∧ b.tombs ≤ M
  d : 0 ≤ b.dead ∧ b.dead ≤ M
  s : 0 ≤ b.last ∧ b.last ≤ 1099511627776
theorem addL_le {l : List By} (h : ∀ b ∈ l, ByLe b 8388608) : ByLe (addL l) (8388608 * l.length) := by
  have : ∀ (l : List By) (a : By) (M : Int), ByLe a M → (∀ b ∈ l, ByLe b 8388608) → ByLe (l.foldl addB a) (M + 8388608 * l.length) := by
    intro l
    induction l with
    | nil => intro a M ha _; simpa using ha
    | cons y l ih =>
      intro a M ha hl
      have hy := hl y (by simp)
      obtain ⟨t1, l1, m1, d1, s1⟩ := ha
      obtain ⟨t2, l2, m2, d2, s2⟩ := hy
      have := ih (addB a y) (M + 8388608) ⟨by simp only [addB]; omega, by simp only [addB]; omega, by simp only [addB]; omega, by simp only [addB]; omega, by simp only [addB]; omega⟩ (fun b hb => hl b (List.mem_cons_of_mem _ hb))
      rw [List.foldl_cons, List.length_cons, show M + 8388608 * ((l.length + 1 : Nat) : Int) = M + 8388608 + 8388608 * l.length by omega]
      exact this
  have := this l zBy 0 ⟨by simp [zBy], by simp [zBy], by simp [zBy], by simp [zBy], by simp [zBy]⟩ h
  simpa [addL] using this
theorem byOf_le {X : IX} (h : X.Wf) (s : Int) : ByLe (byOf X s) 8388608 := by
  have h1 := acc_ok X (X.slot s) (fun e he => ((h.slotOk s).e e he).2)
  have h2 := h.slot_le s
  obtain ⟨o1, o2, o3, o4, o5, o6⟩ := h1
  exact ⟨by simp only [byOf]; omega, by simp only [byOf]; omega, by simp only [byOf]; omega, by simp only [byOf]; omega, by simp only [byOf]; omega⟩
set_option maxRecDepth 40000 in
set_option maxHeartbeats 4000000 in
theorem add_any {w : World} {v : Value} {l : List By} (h : Own w 37 5 v l.length (rowBy l)) (hl : l.length ≤ 32) (hb : ∀ b ∈ l, ByLe b 8388608) : Calls Try.prog 63 #[v] w fun e w' => e = .returned (byV (addL l)) ∧ Gr w w' := by
  obtain ⟨a, cap, rfl, hc1, hc2, hat⟩ := ownBy_at h
  obtain ⟨n, hn⟩ : ∃ n, n = l.length := ⟨_, rfl⟩
  have HAT := Lib.hid hat
  have HB := Lib.hid hb
  have HN := Lib.hid hn
  rw [← hn] at hl hc1 ⊢
  unfold maxLen at hc2
  clear h hat hb hn
  refine calls_of_wp_marks Try.func63 rfl ?_
  simp only [Try.ntmps63, List.size_toArray, List.length_cons, List.length_nil, Nat.reduceAdd, Nat.reduceSub, Array.replicate_succ, Array.replicate_zero, List.push_toArray, List.append_toArray, List.nil_append, List.cons_append]
  go_wp2_with fail
  obtain ⟨b2, hb2⟩ : ∃ q, q = w.heap.size := ⟨_, rfl⟩
  obtain ⟨w0, hw0⟩ : ∃ y, y = (w.alloc (.cells #[.int .i64 0, .int .i64 0, .int .i64 0, .int .i64 0, .int .i64 0] 37)).alloc (.cells #[.int .i64 0, .int .i64 0, .int .i64 0, .int .i64 0, .int .i64 0] 37) := ⟨_, rfl⟩
  have H0 : Hid (w.heap.size ≤ b2 ∧ Gr w w0 ∧ w0.heap[b2]? = some (.cells #[.int .i64 0, .int .i64 0, .int .i64 0, .int .i64 0, .int .i64 0] 37) ∧ w0.heap[b2 + 1]? = some (.cells (cellsBy (addL (l.take 0))).toArray 37)) := Lib.hid (by
    have h1 := blkNew w (.cells #[.int .i64 0, .int .i64 0, .int .i64 0, .int .i64 0, .int .i64 0] 37)
    have h2 := blkNew (w.alloc (.cells #[.int .i64 0, .int .i64 0, .int .i64 0, .int .i64 0, .int .i64 0] 37)) (.cells #[.int .i64 0, .int .i64 0, .int .i64 0, .int .i64 0, .int .i64 0] 37)
    rw [World.size_alloc] at h2
    rw [hw0, hb2]
    exact ⟨Nat.le_refl _, ((Gr.refl w).alloc _).alloc _, ((Gr.refl _).alloc _).blk h1, h2⟩)
  rw [← hw0, ← hb2]
  clear hw0 hb2
  go_loopw [8] (fun t8 wx => ∃ j : Nat, j ≤ n ∧ t8 = .int .i64 j ∧ Hid (Gr w wx ∧ wx.heap[b2]? = some (.cells #[.int .i64 0, .int .i64 0, .int .i64 0, .int .i64 0, .int .i64 0] 37) ∧ wx.heap[b2 + 1]? = some (.cells (cellsBy (addL (l.take j))).toArray 37))) (fun t8 _ => n - (intOf t8).toNat)
  case atStart => exact ⟨0, by omega, rfl, Lib.hid H0.out.2⟩
  case round =>
    obtain ⟨j, hj, rfl, HR⟩ := hrel
    by_cases hlt : j < n
    · have hlt' : (j : Int) < n := by omega
      have hx : l[j]? = some (l[j]'(by have := HN.out; omega)) := List.getElem?_eq_getElem _
      obtain ⟨g, rfl, hc⟩ := HAT.out j _ hx
      have HT : Hid (addL (l.take (j + 1)) = addB (addL (l.take j)) (l[j]'(by have := HN.out; omega))) := Lib.hid (by
        rw [List.take_add_one, hx]; exact addL_snoc _ _)
      have HL1 := Lib.hid (addL_le (l := l.take j) (fun b hb => HB.out b (List.mem_of_mem_take hb)))
      have HL2 := Lib.hid (HB.out _ (List.mem_of_getElem? hx))
      have HLN : Hid ((l.take j).length ≤ 32) := Lib.hid (by rw [List.length_take]; omega)
      obtain ⟨hr1, hr2, hr3⟩ := HR.out
      have d0 := hr1.keep (hc 0 _ rfl)
      have d1 := hr1.keep (hc 1 _ rfl)
      have d2 := hr1.keep (hc 2 _ rfl)
      have d3 := hr1.keep (hc 3 _ rfl)
      have d4 := hr1.keep (hc 4 _ rfl)
      simp only [Nat.add_zero] at d0 d1 d2 d3 d4
      clear hc hx HR
      generalize l[j]'_ = y at *
      generalize hla : addL (l.take j) = z at *
      generalize (l.take j).length = k at *
      clear hla
      obtain ⟨z0, z1, z2, z3, z4⟩ := z
      obtain ⟨y0, y1, y2, y3, y4⟩ := y
      obtain ⟨⟨p0, p0'⟩, ⟨p1, p1'⟩, ⟨p2, p2'⟩, ⟨p3, p3'⟩, p4, p4'⟩ := HL1.out
      obtain ⟨⟨q0, q0'⟩, ⟨q1, q1'⟩, ⟨q2, q2'⟩, ⟨q3, q3'⟩, q4, q4'⟩ := HL2.out
      have hk := HLN.out
      simp only at *
      simp only [cellsBy] at hr3
      obtain ⟨c3, f3⟩ := cellsOf hr3
      have hlt3 := blkLt hr3
      have HR1 := Lib.hid hr1
      have HR2 := Lib.hid hr2
      have HR3 := Lib.hid hr3
      clear hr1 hr2 hr3
      go_wp2_with fail
      have hm : (if z4 < y4 then y4 else z4) = max z4 y4 := by split <;> omega
      rw [hm]
      have hn1 : b2 ≠ b2 + 1 := by omega
      refine ⟨⟨j + 1, by omega, by go_num, Lib.hid ⟨(Gr.cell5 HR1.out (by have := H0.out.1; omega) _ _ _ _ _).alloc _, ((Gr.refl _).alloc _).blk (blkSetO (blkSetO (blkSetO (blkSetO (blkSetO HR2.out hn1) hn1) hn1) hn1) hn1), ((Gr.refl _).alloc _).blk ?_⟩⟩, by simp [intOf]; omega⟩
      rw [HT.out]
      exact blk5 HR3.out _ _ _ _ _
    · have hlt' : ¬ (j : Int) < n := by omega
      have hjn : j = n := by omega
      subst hjn
      have HX : Hid (l.take j = l) := Lib.hid (List.take_of_length_le (by have := HN.out; omega))
      obtain ⟨hr1, hr2, hr3⟩ := HR.out
      rw [HX.out] at hr3
      have HR1 := Lib.hid hr1
      have HR2 := Lib.hid hr2
      generalize hz : addL l = z at *
      obtain ⟨z0, z1, z2, z3, z4⟩ := z
      have HZ := Lib.hid hz
      clear hz
      simp only [cellsBy] at hr3
      obtain ⟨c3, f3⟩ := cellsOf hr3
      obtain ⟨c2, f2⟩ := cellsOf hr2
      clear hr1 hr2 hr3 HR
      go_wp2_with fail
      have hb5 := blk5 HR2.out (.int .i64 z0) (.int .i64 z1) (.int .i64 z2) (.int .i64 z3) (.int .i64 z4)
      obtain ⟨d4, _⟩ := cellsOf hb5
      refine retM0 (v := byV ⟨z0, z1, z2, z3, z4⟩) ?_ rfl ⟨by rw [HZ.out], Gr.cell5 HR1.out H0.out.1 _ _ _ _ _⟩
      simp [results, Try.results63, go_sem, d4, byV]
def sumBy (X : IX) : By × Int := if X.slots.length = 0 then (zBy, 1) else (addL (allL X X.slots.length), 0)
set_option maxRecDepth 40000 in
set_option maxHeartbeats 4000000 in
theorem Sum_any {w : World} {p : Option Addr} {X : IX} {S : Nat → Prop} (h : IXP w p X S) : Calls Try.prog 16 #[.pointer p] w fun e w' => e = .returned (.tuple #[byV (sumBy X).1, .int .i64 (sumBy X).2]) ∧ Gr w w' := by
  have H := Lib.hid h
  have HL : Hid ((allL X X.slots.length).length = X.slots.length) := Lib.hid (by simp [allL])
  have HLE : Hid (∀ b ∈ allL X X.slots.length, ByLe b 8388608) := Lib.hid (fun b hb => by
    simp only [allL, List.mem_map] at hb
    obtain ⟨i, _, rfl⟩ := hb
    exact byOf_le h.ok i)
  have H32 := Lib.hid h.ok.n
  have HS : Hid (sumBy X = (addL (allL X X.slots.length), if X.slots.length = 0 then 1 else 0)) := Lib.hid (by
    unfold sumBy
    split
    · next h0 => rw [h0]; rfl
    · rfl)
  clear h
  refine calls_of_wp_marks Try.func16 rfl ?_
  simp only [Try.ntmps16, List.size_toArray, List.length_cons, List.length_nil, Nat.reduceAdd, Nat.reduceSub, Array.replicate_succ, Array.replicate_zero, List.push_toArray, List.append_toArray, List.nil_append, List.cons_append]
  go_wp2_with fail
  obtain ⟨b, hb⟩ : ∃ q, q = w.heap.size := ⟨_, rfl⟩
  obtain ⟨w0, hw0⟩ : ∃ y, y = w.alloc (.cells #[.int .i64 0, .int .i64 0, .int .i64 0, .int .i64 0, .int .i64 0] 37) := ⟨_, rfl⟩
  have H0 : Hid (w.heap.size ≤ b ∧ Gr w w0 ∧ w0.heap[b]? = some (.cells #[.int .i64 0, .int .i64 0, .int .i64 0, .int .i64 0, .int .i64 0] 37)) := Lib.hid (by
    rw [hw0, hb]
    exact ⟨Nat.le_refl _, (Gr.refl w).alloc _, blkNew w _⟩)
  rw [← hw0, ← hb]
  clear hw0 hb
  refine (All_any (H.out.gr H0.out.2.1)).mono ?_
  rintro e w1 ⟨v, rfl, hrow, hg1⟩
  have HG1 := Lib.hid (H0.out.2.1.trans hg1)
  have HB1 := Lib.hid (hg1.blk H0.out.2.2)
  have HROW := Lib.hid hrow.own
  clear hrow hg1
  generalize hq : (if X.slots.length = 0 then (1 : Int) else 0) = q at *
  generalize hz : addL (allL X X.slots.length) = z at *
  go_wp2_with (go_at_call 63; refine (add_any (l := allL X X.slots.length) (by rw [HL.out]; exact HROW.out) (by rw [HL.out]; exact H32.out) HLE.out).mono ?_; rintro e w2 ⟨rfl, hg2⟩; have HG2 := Lib.hid (HG1.out.trans hg2); have HB2 := Lib.hid (hg2.blk HB1.out); obtain ⟨c2, f2⟩ := cellsOf HB2.out; clear hg2; rw [hz]; obtain ⟨z0, z1, z2, z3, z4⟩ := z; simp only [byV])
  have hb5 := blk5 HB2.out (.int .i64 z0) (.int .i64 z1) (.int .i64 z2) (.int .i64 z3) (.int .i64 z4)
  obtain ⟨d4, _⟩ := cellsOf hb5
  refine retM0 (v := .tuple #[byV ⟨z0, z1, z2, z3, z4⟩, .int .i64 q]) ?_ rfl ⟨by rw [HS.out], Gr.cell5 HG2.out H0.out.1 _ _ _ _ _⟩
  simp [results, Try.results16, go_sem, d4, byV]
end Go.Proofs.Ythefpmmeoajaiaa
