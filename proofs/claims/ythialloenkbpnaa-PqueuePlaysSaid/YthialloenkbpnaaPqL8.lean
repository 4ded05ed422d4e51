/- PqueuePlays answers true: a queue, step by step. -/
import Derived.Test.YthialloenkbpnaaPqQ4
import Derived.Test.YthialloenkbpnaaPqL5
set_option linter.unusedVariables false
set_option linter.unusedSimpArgs false
namespace Go.Proofs.Ythialloenkbpnaa
open Go.RowKit Go.Shelf
attribute [local go_sem] OvM cell_ovm obj_ovm
attribute [local go_sem] Oper.semAt_some

abbrev Stq := Int × Int × Int
def StepsAt (w : World) (a : Option Addr) (l : List Stq) : Prop :=
  ∀ i, i < l.length → ∃ b off, a = some ⟨b, off, none⟩ ∧ b < w.heap.size ∧ w.cell? ⟨b, off + i * 3, none⟩ = some (.int .i64 (l[i]?.getD (0, 0, 0)).1) ∧
    w.cell? ⟨b, off + i * 3 + 1, none⟩ = some (.int .i64 (l[i]?.getD (0, 0, 0)).2.1) ∧ w.cell? ⟨b, off + i * 3 + 2, none⟩ = some (.int .i64 (l[i]?.getD (0, 0, 0)).2.2)
theorem SeqZ.imp {α : Type} {F : Fence} {n : Nat} {P : Program} {g : Nat} {lb : Array Value} {encs : α → Array Value} {A : Nat → Prop} {S S' Sp Sp' : List α → Prop} {w : World} (h : SeqZ F n P g lb encs A S Sp w) (hS : ∀ xs, S xs → S' xs) (hp : ∀ xs, Sp xs → Sp' xs) : SeqZ F n P g lb encs A S' Sp' w :=
  fun l J Jx W hW hJ hJx hY h0 => (h l J Jx W hW hJ hJx (fun Z pre x X hj hs => hY Z pre x X hj (hp _ hs)) h0).mono fun _ _ ⟨he, hc⟩ => ⟨he, hc.imp (fun ⟨Z, xs, a, b⟩ => ⟨Z, xs, hS _ a, b⟩) (fun ⟨Z, xs, a, b⟩ => ⟨Z, xs, hp _ a, b⟩)⟩
/-- The iterator over the queue. -/
theorem SeqB (w0 w : World) (pq pr : Option Addr) (z : Bool) (n : Nat) (M N : Nat → Option Int) (W : Nat → Prop) (bb : Nat) (h : BX w0 w pq pr z n M N W) (hbb : w.cell? ⟨bb, 0, none⟩ = some (.pointer pq)) :
    ∃ A : Nat → Prop, (∀ k, A k → k < w.heap.size) ∧ (∀ k, A k → k = bb ∨ W k) ∧ SeqZ Fence.wide 2 Try.prog 81 #[.pointer (some ⟨bb, 0, none⟩)] encIL A (fun xs => PopsL n M xs ∧ xs.length = cnt M n) (fun pre => PopsL n M pre ∧ pre.length ≤ cnt M n) w := by
  have hb := World.block_lt_of_cell? w ⟨bb, 0, none⟩ hbb
  rcases h with ⟨rfl, b, S, b', gi, ci, gp, cp, P, rfl, rfl, hq, hr, h1, h2, h3⟩ | ⟨rfl, rfl, rfl, rfl, rfl, _⟩
  · exact ⟨_, fun k hk => hk.elim (fun e => by rw [e]; exact hb) (hq.sub k), fun k hk => hk.imp id (fun h => (h2 k).2 (.inl h)), SeqL b n _ M S bb w hq hbb⟩
  · exact ⟨_, fun k hk => hk.elim (fun e => by rw [e]; exact hb) (fun ⟨a, ha, _⟩ => by cases ha), fun k hk => hk.imp id (fun ⟨a, ha, _⟩ => by cases ha), (SeqX none bb w (badQ w) hbb).imp (fun xs e => by rw [e]; exact ⟨PopsL.nil n _, by rw [cnt_none (fun _ _ => rfl)]; rfl⟩) (fun _ h => h.elim)⟩
theorem yieldsTwoL (fn : Nat) (caps : Array Value) (w : World) : Calls Try.prog 44 #[.func (.func fn) #[] caps] w fun e w' => e = .returned (.func (.func fn) #[] caps) ∧ w = w' := by
  have k1 : ∀ w : World, (binOp .eql 78 (.func (.func fn) #[] caps) .nilFunc).run Try.prog w = .ok (.bool false) w := fun w => by kernel_rfl
  go_enter Try.func44, Try.ntmps44
  go_wp2
  go_ret
  exact ⟨rfl, rfl⟩
theorem pops_at {n : Nat} {M : Nat → Option Int} {xs pre : List EnL} {x : EnL} (h : PopsL n M xs) (h' : PopsL n M (pre ++ [x])) (hl : pre.length < xs.length) : xs[pre.length]? = some x := by
  have e := h.uniq h' (pre.length + 1) (by omega) (by simp)
  have e2 : (pre ++ [x]).take (pre.length + 1) = pre ++ [x] := List.take_of_length_le (by simp)
  rw [e2] at e
  have : (xs.take (pre.length + 1))[pre.length]? = some x := by rw [e]; simp
  rw [List.getElem?_take] at this
  simpa using this
/-- What holds at the head of a round. -/
structure PS (wa wx : World) (pq pr : Option Addr) (z : Bool) (n : Nat) (M : Nat → Option Int) (W : Nat → Prop) : Prop where
  b : BX wa wx pq pr z n M M W
  g : Gr wa wx
theorem PS.new {wa wx : World} {pq pr : Option Addr} {z : Bool} {n : Nat} {M : Nat → Option Int} {W : Nat → Prop} (h : PS wa wx pq pr z n M W) : ∀ k, W k → wa.heap.size ≤ k := by
  rcases h.b with ⟨e, b, S, b', gi, ci, gp, cp, P, e1, e2, hq, hr, h1, h2, h3⟩ | h
  · exact h3
  · exact fun k hk => absurd hk (h.2.2.2.2.2 k)

set_option maxRecDepth 100000 in
set_option maxHeartbeats 16000000 in
theorem Plays_big (size : Int) (a : Option Addr) (len cap : Nat) (l : List Stq) (id : Int) (w : World) (hl : l.length = len) (hle : len ≤ cap) (hcap : cap ≤ maxLen) (hs : StepsAt w a l) (hbig : (150 : Int) < len ∨ (40 < size ∧ size ≤ 1024)) :
    Calls Try.prog 7 #[.int .i64 size, .slice a len cap, .int .i64 id] w fun e w' => e = .returned (.bool true) ∧ Gr w w' := by
  refine calls_of_wp_marks Try.func7 rfl ?_
  simp only [Try.ntmps7, List.size_toArray, List.length_cons, List.length_nil, Nat.reduceAdd, Nat.reduceSub, Array.replicate_succ, Array.replicate_zero, List.push_toArray, List.append_toArray, List.nil_append, List.cons_append]
  obtain ⟨wa, hwa⟩ : ∃ wa, wa = w.alloc (.cells #[.bool false] 4) := ⟨_, rfl⟩
  obtain ⟨br, hbr⟩ : ∃ b, b = w.heap.size := ⟨_, rfl⟩
  have HWA : Hid (Gr w wa ∧ wa.heap[br]? = some (.cells #[.bool false] 4) ∧ br < wa.heap.size ∧ w.heap.size ≤ br ∧ wa = w.alloc (.cells #[.bool false] 4) ∧ br = w.heap.size) := Lib.hid ⟨by rw [hwa]; exact (Gr.refl w).alloc _, by rw [hwa, hbr]; exact blkNew _ _, by rw [hwa, hbr]; simp, by omega, hwa, hbr⟩
  clear hwa hbr
  have h2 : (150 : Int) < len ∨ (¬ (150 : Int) < len ∧ 40 < size ∧ size ≤ 1024) := by omega
  clear hbig
  rcases h2 with h | ⟨h0, h, h5⟩
  all_goals
    go_wp2_with fail
    rw [← HWA.out.2.2.2.2.1, ← HWA.out.2.2.2.2.2]
    refine (works_any _).mono ?_
    rintro e w1 ⟨rfl, hg⟩
    have b6 := hg.blk HWA.out.2.1
    obtain ⟨c6, f6⟩ := box1 b6
    have HB6 := Lib.hid b6
    have HG := Lib.hid hg
    clear b6 hg
    go_wp2_with fail
    refine retM0 (v := .bool true) ?_ rfl ⟨rfl, ?_⟩
    · have := (box1 (blkSet (j := 0) (u := .bool true) HB6.out)).1
      simp [results, Try.results7, go_sem, this]
    · exact (HWA.out.1.trans HG.out).setCell (by have := HWA.out.2.2.2.1; simp; omega) _
end Go.Proofs.Ythialloenkbpnaa
