/- A queue's contracts where it is new since a first world, at the priorities int. Written from YPqV.base by inst.py. -/
import Derived.Test.YthialloenkbpnaaPqNI
set_option linter.unusedVariables false
set_option linter.unusedSimpArgs false
namespace Go.Proofs.Ythialloenkbpnaa
open Go.RowKit

/-- A queue whose blocks are new since w0. -/
def QWI (w0 w : World) (b n len : Nat) (M : Nat → Option Int) : Prop := ∃ S, QRI w b n len M S ∧ (∀ k, S k → w0.heap.size ≤ k) ∧ Gr w0 w
section
variable {w0 w : World} {b n len : Nat} {M : Nat → Option Int}
theorem QWI.g (q : QWI w0 w b n len M) : Gr w0 w := let ⟨_, _, _, g⟩ := q; g
theorem QWI.gr {w' : World} (q : QWI w0 w b n len M) (g : Gr w w') : QWI w0 w' b n len M := let ⟨S, h, s, g0⟩ := q; ⟨S, h.gr g, s, g0.trans g⟩
theorem New_WI (n : Int) (w0 w : World) (h : Gr w0 w) (h1 : 1 ≤ n) (h2 : n ≤ 1024) :
    Calls Try.prog 22 #[.int .i64 n] w fun e w' => ∃ b, e = .returned (.tuple #[.pointer (some ⟨b, 0, none⟩), .int .i64 0]) ∧ QWI w0 w' b n.toNat 0 (fun _ => none) :=
  (NewI n w h1 h2).mono fun e w' ⟨he, hq, hg⟩ => ⟨_, he, _, ⟨by omega, by omega, fun _ _ => rfl, .inl ⟨rfl, ⟨_, hq, fun _ _ => rfl⟩, fun _ => rfl, rfl⟩⟩, fun k hk => by rw [hk]; exact h.sz, h.trans hg⟩
theorem Push_WI (id : Nat) (p : Int) (q : QWI w0 w b n len M) (hid : id < n) (h : M id = none) :
    Calls Try.prog 51 #[.pointer (some ⟨b, 0, none⟩), .int .i64 id, .int .i64 (p)] w fun e w' => e = .returned (.int .i64 0) ∧ QWI w0 w' b n (len + 1) (upd M id (some p)) := by
  obtain ⟨S, q, s, g⟩ := q
  refine (Push_okI b n len M S id p w q hid h).mono ?_
  rintro e w' ⟨he, S', q', m, hs⟩
  exact ⟨he, S', q', fun k hk => (hs k hk).elim (s k) (fun y => Nat.le_trans g.sz y), g.md m s⟩
theorem PushHave_WI (id : Nat) (v : Value) (q : QWI w0 w b n len M) (hid : id < n) (h : M id ≠ none) :
    Calls Try.prog 51 #[.pointer (some ⟨b, 0, none⟩), .int .i64 id, v] w fun e w' => e = .returned (.int .i64 6) ∧ w = w' := let ⟨S, q, _, _⟩ := q; Push_haveI b n len M S id v w q hid h
theorem PushBad_WI (id : Int) (v : Value) (q : QWI w0 w b n len M) (h : id < 0 ∨ (n : Int) ≤ id) :
    Calls Try.prog 51 #[.pointer (some ⟨b, 0, none⟩), .int .i64 id, v] w fun e w' => e = .returned (.int .i64 3) ∧ w = w' := let ⟨S, q, _, _⟩ := q; Push_badI b n len M S id v w q h
theorem Change_WI (id : Nat) (p : Int) (q : QWI w0 w b n len M) (hid : id < n) (h : M id ≠ none) :
    Calls Try.prog 53 #[.pointer (some ⟨b, 0, none⟩), .int .i64 id, .int .i64 (p)] w fun e w' => e = .returned (.int .i64 0) ∧ QWI w0 w' b n len (upd M id (some p)) := by
  obtain ⟨S, q, s, g⟩ := q
  refine (Change_okI b n len M S id p w q hid h).mono ?_
  rintro e w' ⟨he, q', m⟩
  exact ⟨he, S, q', s, g.md m s⟩
theorem ChangeNone_WI (id : Nat) (v : Value) (q : QWI w0 w b n len M) (hid : id < n) (h : M id = none) :
    Calls Try.prog 53 #[.pointer (some ⟨b, 0, none⟩), .int .i64 id, v] w fun e w' => e = .returned (.int .i64 5) ∧ w = w' := let ⟨S, q, _, _⟩ := q; Change_noneI b n len M S id v w q hid h
theorem Remove_WI (id : Nat) (p : Int) (q : QWI w0 w b n len M) (hid : id < n) (h : M id = some p) :
    Calls Try.prog 54 #[.pointer (some ⟨b, 0, none⟩), .int .i64 id] w fun e w' => e = .returned (.tuple #[.int .i64 (p), .bool true]) ∧ QWI w0 w' b n (len - 1) (upd M id none) := by
  obtain ⟨S, q, s, g⟩ := q
  refine (Remove_okI b n len M S id p w q hid h).mono ?_
  rintro e w' ⟨he, q', m⟩
  exact ⟨he, S, q', s, g.md m s⟩
theorem Pop_WI (q : QWI w0 w b n len M) (hl : 0 < len) :
    Calls Try.prog 55 #[.pointer (some ⟨b, 0, none⟩)] w fun e w' => ∃ (i : Nat) (p : Int), e = .returned (.tuple #[.int .i64 i, .int .i64 (p), .bool true]) ∧ i < n ∧ IsMinI M i p ∧ QWI w0 w' b n (len - 1) (upd M i none) := by
  obtain ⟨S, q, s, g⟩ := q
  refine (Pop_someI b n len M S w q hl).mono ?_
  rintro e w' ⟨i, p, he, hi, hm, q', m⟩
  exact ⟨i, p, he, hi, hm, S, q', s, g.md m s⟩
theorem PopNone_WI (q : QWI w0 w b n 0 M) :
    Calls Try.prog 55 #[.pointer (some ⟨b, 0, none⟩)] w fun e w' => e = .returned (.tuple #[.int .i64 0, .int .i64 0, .bool false]) ∧ w = w' := let ⟨S, q, _, _⟩ := q; Pop_noneI b n M S w q
theorem Peek_WI (q : QWI w0 w b n len M) (hl : 0 < len) :
    Calls Try.prog 52 #[.pointer (some ⟨b, 0, none⟩)] w fun e w' => ∃ (i : Nat) (p : Int), e = .returned (.tuple #[.int .i64 i, .int .i64 (p), .bool true]) ∧ i < n ∧ IsMinI M i p ∧ QWI w0 w' b n len M := by
  obtain ⟨S, q, s, g⟩ := q
  refine (Peek_someI b n len M S w q hl).mono ?_
  rintro e w' ⟨i, p, he, hi, hm, g'⟩
  exact ⟨i, p, he, hi, hm, S, q.gr g', s, g.trans g'⟩
theorem Len_WI (q : QWI w0 w b n len M) :
    Calls Try.prog 56 #[.pointer (some ⟨b, 0, none⟩)] w fun e w' => e = .returned (.int .i64 len) ∧ w = w' := let ⟨S, q, _, _⟩ := q; LenI b n len M S w q
end
end Go.Proofs.Ythialloenkbpnaa
