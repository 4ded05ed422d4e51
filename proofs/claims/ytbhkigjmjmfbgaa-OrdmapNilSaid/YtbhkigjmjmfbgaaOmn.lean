/- OrdmapNil answers true: maps that are nil, or zero. -/
import Derived.Test.YtbhkigjmjmfbgaaOmu
namespace Go.Proofs.Ytbhkigjmjmfbgaa
open Go.RowKit Go.Shelf
attribute [local go_sem] OvM cell_ovm obj_ovm
attribute [local go_sem] Oper.semAt_some

/-- A pointer to no map: nil, or to a zero struct. -/
def BadP (w : World) (p : Option Addr) : Prop := p = none ∨ ∃ b, p = some ⟨b, 0, none⟩ ∧ w.heap[b]? = some (.cells #[.bool false, .slice none 0 0] 78 (0, 0))
theorem BadP.gr {w w' : World} {p : Option Addr} (h : BadP w p) (g : Gr w w') : BadP w' p := h.imp id (fun ⟨b, e, h⟩ => ⟨b, e, g.blk h⟩)
theorem BadP.vw {w : World} {p : Option Addr} (h : BadP w p) : VWss w p (.slice none 0 0) [] := .inr ⟨h, rfl, rfl⟩
theorem BadP.bv {w : World} {p : Option Addr} (h : BadP w p) : BV w p (.slice none 0 0) none [] := .inr ⟨h, rfl, rfl, rfl⟩

theorem SetBad (p : Option Addr) (k v : ByteArray) (w : World) (h : BadP w p) :
    Calls Try.prog 30 #[.pointer p, .string k, .string v] w fun e w' => e = .returned (.tuple #[.string ⟨#[]⟩, .bool false, .int .i64 1]) ∧ Gr w w' := by
  rcases h with rfl | ⟨b, rfl, hb⟩
  · go_enter Try.func30, Try.ntmps30
    go_wp2
    go_ret3
    exact ⟨rfl, Gr.refl w⟩
  · have c0 := ((cellsOf hb).1 0).trans (show _ = some (Value.bool false) from rfl)
    clear hb
    go_enter Try.func30, Try.ntmps30
    go_wp2
    go_ret3
    exact ⟨rfl, Gr.refl w⟩
theorem CopyBad (p : Option Addr) (w : World) (h : BadP w p) :
    Calls Try.prog 34 #[.pointer p] w fun e w' => e = .returned (.pointer none) ∧ Gr w w' := by
  rcases h with rfl | ⟨b, rfl, hb⟩
  · refine calls_of_wp_marks Try.func34 rfl ?_
    simp only [Try.ntmps34, List.size_toArray, List.length_cons, List.length_nil, Nat.reduceAdd, Nat.reduceSub, Array.replicate_succ, Array.replicate_zero, List.push_toArray, List.append_toArray, List.nil_append, List.cons_append]
    go_wp2_with fail
    exact retM0 (results_tmp rfl _ _ _) rfl ⟨rfl, Gr.refl w⟩
  · have c0 := ((cellsOf hb).1 0).trans (show _ = some (Value.bool false) from rfl)
    clear hb
    refine calls_of_wp_marks Try.func34 rfl ?_
    simp only [Try.ntmps34, List.size_toArray, List.length_cons, List.length_nil, Nat.reduceAdd, Nat.reduceSub, Array.replicate_succ, Array.replicate_zero, List.push_toArray, List.append_toArray, List.nil_append, List.cons_append]
    go_wp2_with fail
    exact retM0 (results_tmp rfl _ _ _) rfl ⟨rfl, Gr.refl w⟩
theorem DeleteBad (p : Option Addr) (k : ByteArray) (w : World) (h : BadP w p) :
    Calls Try.prog 32 #[.pointer p, .string k] w fun e w' => e = .returned (.tuple #[.string ⟨#[]⟩, .bool false]) ∧ Gr w w' := by
  have H := Lib.hid h.vw
  clear h
  go_enter Try.func32, Try.ntmps32
  go_wp2_with fail
  refine (Getss p _ [] k _ H.out (by decide)).mono ?_
  rintro e w1 ⟨rfl, hg⟩
  rw [show lookVss [] k = .string ⟨#[]⟩ from rfl, show hasBss [] k = false from rfl]
  go_wp2
  go_ret2
  exact ⟨rfl, hg⟩
theorem AtBad (p : Option Addr) (i : Int) (w : World) (h : BadP w p) :
    Calls Try.prog 38 #[.pointer p, .int .i64 i] w fun e w' => e = .returned (.tuple #[.string ⟨#[]⟩, .string ⟨#[]⟩, .int .i64 1]) ∧ Gr w w' := by
  have := AtB p _ none [] i w h.bv
  rwa [show atO Itss [] i = none by unfold atO; split <;> simp] at this

set_option maxRecDepth 40000 in
set_option maxHeartbeats 4000000 in
theorem Nil_any (k v : ByteArray) (i : Int) (w : World) : Calls Try.prog 6 #[.string k, .string v, .int .i64 i] w fun e w' => e = .returned (.bool true) ∧ Gr w w' := by
  by_cases h1 : k.size ≤ 1000 ∧ v.size ≤ 1000
  · obtain ⟨h1, h2⟩ := h1
    have e1 : (k.size : Int) ≤ 1000 := by omega
    have e2 : (v.size : Int) ≤ 1000 := by omega
    go_enter Try.func6, Try.ntmps6
    go_wp2_with fail
    obtain ⟨u, hu⟩ : ∃ u, u = (w.alloc (.cells #[.bool false, .slice none 0 0] 78)).alloc (.cells #[.pointer none, .pointer (some ⟨w.heap.size, 0, none⟩)] 63) := ⟨_, rfl⟩
    have xb : u.heap[w.heap.size]? = some (.cells #[.bool false, .slice none 0 0] 78) := by rw [hu]; exact blkOld (blkNew _ _)
    have xr : u.heap[w.heap.size + 1]? = some (.cells #[.pointer none, .pointer (some ⟨w.heap.size, 0, none⟩)] 63) := by rw [hu]; have := blkNew (w.alloc (.cells #[.bool false, .slice none 0 0] 78)) (.cells #[.pointer none, .pointer (some ⟨w.heap.size, 0, none⟩)] 63); rwa [World.size_alloc] at this
    have gu : Gr w u := by rw [hu]; exact ((Gr.refl w).alloc _).alloc _
    rw [← hu]
    clear hu
    generalize w.heap.size = b0 at *
    have GU := Lib.hid gu
    have B1 : Hid (BadP u none) := Lib.hid (.inl rfl)
    have B2 : Hid (BadP u (some ⟨b0, 0, none⟩)) := Lib.hid (.inr ⟨b0, rfl, xb⟩)
    have XR := Lib.hid xr
    have c0 := ((cellsOf xr).1 0).trans (show _ = some (Value.pointer none) from rfl)
    have HG := Gr.refl u
    clear xb xr gu
    refine wp_loop_rounds 3 ?_
    rw [rounds_succ]
    go_wp2_with (first
      | (go_at_call 30; refine (SetBad (none) k v _ (B1.out.gr HG)).mono ?_; rintro e w1 ⟨rfl, hg1⟩; replace HG := HG.trans hg1; clear hg1)
      | (go_at_call 38; refine (AtBad (none) i _ (B1.out.gr HG)).mono ?_; rintro e w1 ⟨rfl, hg1⟩; replace HG := HG.trans hg1; clear hg1)
      | (go_at_call 36; refine (shows_any (none) _ none [] k i _ (B1.out.gr HG).bv (by decide)).mono ?_; rintro e w1 ⟨rfl, hg1⟩; replace HG := HG.trans hg1; clear hg1)
      | (go_at_call 34; refine (CopyBad (none) _ (B1.out.gr HG)).mono ?_; rintro e w1 ⟨rfl, hg1⟩; replace HG := HG.trans hg1; clear hg1)
      | (go_at_call 32; refine (DeleteBad (none) k _ (B1.out.gr HG)).mono ?_; rintro e w1 ⟨rfl, hg1⟩; replace HG := HG.trans hg1; clear hg1)
      | fail)
    have c1 := ((cellsOf (HG.blk XR.out)).1 1).trans (show _ = some (Value.pointer (some ⟨b0, 0, none⟩)) from rfl)
    clear c0
    rw [rounds_succ]
    go_wp2_with (first
      | (go_at_call 30; refine (SetBad (some ⟨b0, 0, none⟩) k v _ (B2.out.gr HG)).mono ?_; rintro e w1 ⟨rfl, hg1⟩; replace HG := HG.trans hg1; clear hg1)
      | (go_at_call 38; refine (AtBad (some ⟨b0, 0, none⟩) i _ (B2.out.gr HG)).mono ?_; rintro e w1 ⟨rfl, hg1⟩; replace HG := HG.trans hg1; clear hg1)
      | (go_at_call 36; refine (shows_any (some ⟨b0, 0, none⟩) _ none [] k i _ (B2.out.gr HG).bv (by decide)).mono ?_; rintro e w1 ⟨rfl, hg1⟩; replace HG := HG.trans hg1; clear hg1)
      | (go_at_call 34; refine (CopyBad (some ⟨b0, 0, none⟩) _ (B2.out.gr HG)).mono ?_; rintro e w1 ⟨rfl, hg1⟩; replace HG := HG.trans hg1; clear hg1)
      | (go_at_call 32; refine (DeleteBad (some ⟨b0, 0, none⟩) k _ (B2.out.gr HG)).mono ?_; rintro e w1 ⟨rfl, hg1⟩; replace HG := HG.trans hg1; clear hg1)
      | fail)
    rw [rounds_succ]
    go_wp2_with fail
    refine (works_any _).mono ?_
    rintro e w9 ⟨rfl, hg9⟩
    go_wp2
    go_ret
    exact ⟨rfl, (GU.out.trans HG).trans hg9⟩
  · have h2 : (1000 : Int) < k.size ∨ (¬ (1000 : Int) < k.size ∧ (1000 : Int) < v.size) := by omega
    clear h1
    rcases h2 with h | ⟨h0, h⟩
    all_goals
      go_enter Try.func6, Try.ntmps6
      go_wp2_with fail
      refine (works_any _).mono ?_
      rintro e w9 ⟨rfl, hg9⟩
      go_wp2
      go_ret
      exact ⟨rfl, hg9⟩
end Go.Proofs.Ytbhkigjmjmfbgaa
