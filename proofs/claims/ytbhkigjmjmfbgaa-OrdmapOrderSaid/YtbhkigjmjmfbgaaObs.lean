/- slices.BinarySearch at the sorted keys. -/
import Derived.Test.YtbhkigjmjmfbgaaOcs
import Derived.Test.YtbhkigjmjmfbgaaOsk
set_option linter.unusedVariables false
set_option linter.unusedSimpArgs false
namespace Go.Proofs.Ytbhkigjmjmfbgaa
open Go.RowKit Go.Maps
attribute [local go_sem] OvM cell_ovm obj_ovm

theorem own_cellN {w : World} {e : TypeId} {a : Option Addr} {k cap j : Nat} {xs : List Value} (h : Own w e 1 (.slice a k cap) k xs) (hj : j < k) : ∃ g, a = some ⟨g, 0, none⟩ ∧ w.cell? ⟨g, j, none⟩ = xs[j]? := by
  rcases h.2 with ⟨h0, _⟩ | ⟨g, cap', cur, hv, _, hb, hle, _, hs, ht⟩
  · cases h0; omega
  · simp only [Value.slice.injEq, true_and] at hv
    refine ⟨g, hv.1, ?_⟩
    rw [(cellsOf hb).1, ← ht, List.getElem?_take_of_lt (by omega)]
    simp
theorem LessI (x y : Int) (w : World) : Calls Try.prog 111 #[.int .i64 x, .int .i64 y] w fun e w' => e = .returned (.bool (decide (x < y))) ∧ w = w' := by
  go_enter Try.func111, Try.ntmps111
  go_wp2
  go_ret
  exact ⟨rfl, rfl⟩
theorem isNaNI (x : Int) (w : World) : Calls Try.prog 112 #[.int .i64 x] w fun e w' => e = .returned (.bool false) ∧ w = w' := by
  go_enter Try.func112, Try.ntmps112
  go_wp2
  go_ret
  exact ⟨rfl, rfl⟩
set_option maxRecDepth 40000 in
set_option maxHeartbeats 4000000 in
theorem BSearch (L : List Itii) (s : Srt ltZ L) (key : Int) (a : Option Addr) (cap : Nat) (w : World) (h : Own w 3 1 (.slice a L.length cap) L.length ((L.map Prod.fst).map iv)) (hn : L.length ≤ 1000000) :
    Calls Try.prog 46 #[.slice a L.length cap, .int .i64 key] w fun e w' => e = .returned (.tuple #[.int .i64 (rk ltZ L key), .bool (hasBii L key)]) ∧ w = w' := by
  obtain ⟨n, hnn⟩ : ∃ n, n = L.length := ⟨_, rfl⟩
  obtain ⟨r, hr⟩ : ∃ r, r = rk ltZ L key := ⟨_, rfl⟩
  have hrn : r ≤ n := by rw [hr, hnn]; exact rk_le L key
  have HO : Hid (∀ j, j < n → ∃ g x, a = some ⟨g, 0, none⟩ ∧ L[j]? = some x ∧ w.cell? ⟨g, j, none⟩ = some (.int .i64 x.1)) := Lib.hid (by
    intro j hj
    rw [hnn] at hj
    obtain ⟨g, hg, hc⟩ := own_cellN h hj
    rw [List.getElem?_map, List.getElem?_map, List.getElem?_eq_getElem hj, Option.map_some, Option.map_some] at hc
    exact ⟨g, L[j], hg, List.getElem?_eq_getElem hj, hc⟩)
  have HR : Hid (r = rk ltZ L key ∧ n = L.length) := Lib.hid ⟨hr, hnn⟩
  rw [← hr, ← hnn]
  rw [← hnn] at hn
  clear h hr hnn
  have HS := Lib.hid s
  clear s
  go_enter Try.func46, Try.ntmps46
  go_wp2_with fail
  go_loop [7, 8] (fun t7 t8 => ∃ i j : Nat, t7 = .int .i64 i ∧ t8 = .int .i64 j ∧ i ≤ r ∧ r ≤ j ∧ j ≤ n) (fun t7 t8 => (intOf t8).toNat - (intOf t7).toNat)
  case atStart => exact ⟨0, n, rfl, rfl, by omega, hrn, by omega⟩
  case round =>
    obtain ⟨i, j, rfl, rfl, h1, h2, h3⟩ := hrel
    by_cases hij : i < j
    · have hij' : (i : Int) < j := by omega
      obtain ⟨m, hm⟩ : ∃ m, m = (i + j) / 2 := ⟨_, rfl⟩
      have hmj : m < j := by omega
      have him : i ≤ m := by omega
      obtain ⟨g, x, rfl, hx, hc⟩ := HO.out m (by omega)
      have hmn : (m : Int) < n := by omega
      have e2 : ((i : Int) + (j : Int)) / 2 = (m : Int) := by omega
      clear hm
      by_cases hlt : x.1 < key
      · have hmr : m + 1 ≤ r := by
          rcases Nat.lt_or_ge m r with h | h
          · exact h
          · have := rk_hi ordZ HS.out key m x (by rw [← HR.out.1]; exact h) hx
            simp [ltZ] at this
            omega
        clear hx
        go_wp2_with (first
          | (go_at_call 111; refine (LessI _ key _).mono ?_; rintro e w1 ⟨rfl, rfl⟩)
          | fail)
        go_round
        case rel => exact ⟨m + 1, j, by go_num, rfl, by omega, by omega, by omega⟩
        case measure => simp [intOf]; omega
      · have hmr : r ≤ m := by
          rcases Nat.lt_or_ge m r with h | h
          · have := rk_lo (lt := ltZ) L key m x (by rw [← HR.out.1]; exact h) hx
            simp [ltZ] at this
            omega
          · exact h
        clear hx
        go_wp2_with (first
          | (go_at_call 111; refine (LessI _ key _).mono ?_; rintro e w1 ⟨rfl, rfl⟩)
          | fail)
        go_round
        case rel => exact ⟨i, m, rfl, rfl, by omega, by omega, by omega⟩
        case measure => simp [intOf]; omega
    · have hij' : ¬ (i : Int) < j := by omega
      obtain rfl : i = r := by omega
      obtain rfl : j = i := by omega
      by_cases hjn : j < n
      · have hjn' : (j : Int) < n := by omega
        obtain ⟨g, x, rfl, hx, hc⟩ := HO.out j hjn
        have F1 : Hid (hasBii L key = decide (x.1 = key)) := Lib.hid (hasB_atii (by rw [← HR.out.1]; exact hx))
        clear hx
        by_cases he : x.1 = key
        · have heb : (x.1 == key) = true := by simp [he]
          go_wp2_with (first
            | (go_at_call 112; refine (isNaNI _ _).mono ?_; rintro e w1 ⟨rfl, rfl⟩)
            | fail)
          go_ret2
          rw [F1.out]
          simp [he]
        · have heb : (x.1 == key) = false := beq_false_of_ne he
          go_wp2_with (first
            | (go_at_call 112; refine (isNaNI _ _).mono ?_; rintro e w1 ⟨rfl, rfl⟩)
            | fail)
          go_ret2
          rw [F1.out]
          simp [he]
      · have hjn' : ¬ (j : Int) < n := by omega
        have F1 : Hid (hasBii L key = false) := Lib.hid (hasB_outii (by rw [← HR.out.1, ← HR.out.2]; omega))
        go_wp2_with fail
        go_ret2
        rw [F1.out]
        exact ⟨rfl, rfl⟩
end Go.Proofs.Ytbhkigjmjmfbgaa
