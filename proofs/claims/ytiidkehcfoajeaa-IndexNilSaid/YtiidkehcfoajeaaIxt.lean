/- The last number of an index. -/
import Derived.Test.YtiidkehcfoajeaaIxo
import Derived.Test.YtiidkehcfoajeaaSw
set_option linter.unusedVariables false
set_option linter.unusedSimpArgs false
namespace Go.Proofs.Ytiidkehcfoajeaa
open Go.RowKit Go.Shelf
attribute [local go_sem] OvM cell_ovm obj_ovm
attribute [local go_sem] Oper.semAt_some

def lastF (X : IX) (l : List ByteArray) : Int := l.foldl (fun m k => max m ((X.of k).headD zE).seq) 0
theorem lastF_snoc (X : IX) (l : List ByteArray) (k : ByteArray) : lastF X (l ++ [k]) = max (lastF X l) ((X.of k).headD zE).seq := by simp [lastF]
def IX.last (X : IX) : Int := lastF X X.ks
theorem newV_eq (l : List En) : newV l = .tuple #[enV (l.headD zE), .bool (!l.isEmpty)] := by cases l <;> rfl

set_option maxRecDepth 40000 in
set_option maxHeartbeats 4000000 in
theorem Last_any {w : World} {p : Option Addr} {X : IX} {S : Nat → Prop} (h : IXP w p X S) : Calls Try.prog 66 #[.pointer p] w fun e w' => e = .returned (.int .i64 X.last) ∧ Gr w w' := by
  have H := Lib.hid h
  clear h
  refine calls_of_wp_marks Try.func66 rfl ?_
  simp only [Try.ntmps66, List.size_toArray, List.length_cons, List.length_nil, Nat.reduceAdd, Nat.reduceSub, Array.replicate_succ, Array.replicate_zero, List.push_toArray, List.append_toArray, List.nil_append, List.cons_append]
  go_wp2_with fail
  obtain ⟨b1, hb1⟩ : ∃ q, q = w.heap.size := ⟨_, rfl⟩
  obtain ⟨w0, hw0⟩ : ∃ y, y = (w.alloc (.cells #[.pointer p] 25)).alloc (.cells #[.int .i64 0] 2) := ⟨_, rfl⟩
  have HSW : Hid (SW w [blkA (b1 + 1) (.cells #[.int .i64 0] 2), blkA b1 (.cells #[.pointer p] 25)] w0) := Lib.hid (by
    have := ((SW.start w).alloc (.cells #[.pointer p] 25)).alloc (.cells #[.int .i64 0] 2)
    simp only [World.size_alloc] at this
    rw [hw0, hb1]
    exact this)
  rw [← hw0, ← hb1]
  clear hw0 hb1
  refine (Keys_any p _).mono ?_
  rintro e' w1 ⟨bb, rfl, h1, h2, hg⟩
  have HS1 := Lib.hid (HSW.out.gr hg)
  have HI := Lib.hid (H.out.gr HS1.out.g)
  have HSEQ := Lib.hid (SeqKeysP HI.out bb h1)
  have HA : Hid (∀ q, (q = bb ∨ S q) → q < w1.heap.size) := Lib.hid (fun q hq => by
    have l1 := World.block_lt_of_cell? w1 ⟨bb, 0, none⟩ h1
    rcases hq with rfl | hq
    · exact l1
    · exact HI.out.lt q hq)
  have HZ : Hid (SWz w w1 (fun q => q = bb ∨ S q) [blkA (b1 + 1) (.cells #[.int .i64 0] 2), blkA b1 (.cells #[.pointer p] 25)] (fun _ => False) w1) := Lib.hid (SWz.start HS1.out (fun B hB k hk ha => by
    have l1 := HSW.out.s.lt hB k hk
    have l2 := HSW.out.n B hB k hk
    rcases ha with rfl | ha
    · omega
    · have := H.out.lt k ha; omega))
  clear h1 h2 hg
  go_wp2_with fail
  apply wp_rangeFunc_zb (gf := 100) (lb := #[.pointer (some ⟨bb, 0, none⟩)]) rfl (enters_of Try.func100 (by kernel_rfl) rfl) HSEQ.out (Mdh.refl _ w1) HA.out (fun _ => rfl)
    (fun Z pre X' => SWz w w1 (fun q => q = bb ∨ S q) [blkA (b1 + 1) (.cells #[.int .i64 (lastF X pre)] 2), blkA b1 (.cells #[.pointer p] 25)] Z X')
    (fun _ _ _ => False) (fun _ _ _ => False)
    (SWz.apart HS1.out.g.sz (fun pre => [blkA (b1 + 1) (.cells #[.int .i64 (lastF X pre)] 2), blkA b1 (.cells #[.pointer p] 25)])) apart_no apart_no
    HZ.out _ ?assign ?body ?hend ?hret
  case hret => intro _ _ _ _ _ _ _ h; exact h.elim
  case assign =>
    intro l x X' K hK
    dsimp only [encK]
    gi_wp2
    exact hK
  case body =>
    intro l Z pre x X' hI hsp
    have HIZ := Lib.hid hI
    have HSN := Lib.hid (lastF_snoc X pre x)
    clear hI hsp
    have c1 := (cellsOf (show X'.heap[b1]? = _ from HIZ.out.s.get (i := 1) rfl)).1
    have HP3 := Lib.hid (show X'.heap[b1 + 1]? = _ from HIZ.out.s.get (i := 0) rfl)
    have HIX : Hid (IXP X' p X S) := Lib.hid (H.out.gr HIZ.out.s.g)
    generalize lastF X pre = a at *
    gi_wp2_with fail
    refine ⟨trivial, (CallsIn.inRound l (callsIn_wide.2 (Newest_any HIX.out x))).mono ?_⟩
    rintro e w9 ⟨rfl, hg9⟩
    rw [newV_eq]
    obtain ⟨y, hy⟩ : ∃ y, y = (X.of x).headD zE := ⟨_, rfl⟩
    rw [← hy] at HSN
    rw [← hy]
    clear hy
    obtain ⟨y1, y2, y3, y4, y5, y6⟩ := y
    simp only [enV] at *
    have HG9 := Lib.hid hg9
    obtain ⟨d3, f3⟩ := cellsOf (hg9.blk HP3.out)
    have l3 := blkLt (hg9.blk HP3.out)
    clear hg9
    gi_wp2
    all_goals
      have HB4 := (HIZ.out.gr HG9.out).1.box (i := 0) rfl HA.out ((Mdh.refl (fun k => k = b1 + 1) w9).setCell (p := ⟨b1 + 1, 0, none⟩) rfl (.int .i64 (max a y1))) (blkSet (j := 0) (u := .int .i64 (max a y1)) (HG9.out.blk HP3.out))
      have HNo := HSN.out
      first
        | (have hm : max a y1 = y1 := by omega
           rw [hm] at HB4 HNo
           have HB5 := HB4.1.gr ((Gr.refl _).alloc (.cells #[.int .i64 y1, .string y2, .bool y3, .int .i64 y4, .int .i64 y5, .int .i64 y6] 23))
           refine ⟨((HIZ.out.gr HG9.out).2.trans HB4.2).trans HB5.2, ?_⟩
           dsimp only
           rw [HNo]
           exact HB5.1)
        | (have hm : max a y1 = a := by omega
           rw [hm] at HB4 HNo
           have HB5 := HB4.1.gr ((Gr.refl _).alloc (.cells #[.int .i64 y1, .string y2, .bool y3, .int .i64 y4, .int .i64 y5, .int .i64 y6] 23))
           refine ⟨((HIZ.out.gr HG9.out).2.trans HB4.2).trans HB5.2, ?_⟩
           dsimp only
           rw [HNo]
           exact HB5.1)
  case hend =>
    intro Z D xs W hD hZD hcase hdef
    obtain ⟨hxs, hI⟩ := hcase.elim (fun h => h) (fun h => h.2.elim)
    have hxs' : xs = X.ks := hxs
    subst hxs'
    have HD := Lib.hid (And.intro hD hdef)
    have c3 := (cellsOf (show W.heap[b1 + 1]? = _ from hI.s.get (i := 0) rfl)).1
    have HGW := Lib.hid hI.s.g
    clear hI hcase hxs hD hdef
    dsimp only
    go_wp2_with fail
    have hnD : w.heap.size ≤ D := by have := HD.out.1; have := HS1.out.g.sz; omega
    exact retM1 (D := D) (v := .int .i64 X.last) rfl HD.out.2 (by simp [results, Try.results66, go_sem, IX.last]) ⟨rfl, HGW.out.putObj hnD _⟩
end Go.Proofs.Ytiidkehcfoajeaa
