/- An index that was not made: Add, Drop, Copy; an index among other things. -/
import Derived.Test.YtiidkehcfoajeaaIxz
import Derived.Test.YtiidkehcfoajeaaIxn
set_option linter.unusedVariables false
set_option linter.unusedSimpArgs false
namespace Go.Proofs.Ytiidkehcfoajeaa
open Go.RowKit Go.Shelf
attribute [local go_sem] OvM cell_ovm obj_ovm
attribute [local go_sem] Oper.semAt_some

set_option maxRecDepth 40000 in
set_option maxHeartbeats 2000000 in
theorem AddN {w : World} {p : Option Addr} (h : IXN w p) (e : En) : Calls Try.prog 40 #[.pointer p, enV e] w fun e' w' => e' = .returned (.int .i64 1) ∧ Gr w w' := by
  have H := Lib.hid h
  clear h
  obtain ⟨e1, e2, e3, e4, e5, e6⟩ := e
  simp only [enV]
  refine calls_of_wp_marks Try.func40 rfl ?_
  simp only [Try.ntmps40, List.size_toArray, List.length_cons, List.length_nil, Nat.reduceAdd, Nat.reduceSub, Array.replicate_succ, Array.replicate_zero, List.push_toArray, List.append_toArray, List.nil_append, List.cons_append]
  go_wp2_with (go_at_call 95; refine (made_no (H.out.gr (by (repeat (first | (with_reducible exact Gr.refl _) | assumption | (with_reducible apply Gr.from_drew) | (with_reducible apply Gr.alloc) | (with_reducible apply Gr.drew) | (with_reducible refine Gr.trans ?_ (by assumption)) | (with_reducible refine Gr.setCell ?_ (by omega) _)))))).mono ?_; rintro e w1 ⟨rfl, rfl⟩)
  exact retM0 (v := .int .i64 1) (by simp [results, Try.results40, go_sem]) rfl ⟨rfl, by (repeat (first | (with_reducible exact Gr.refl _) | assumption | (with_reducible apply Gr.from_drew) | (with_reducible apply Gr.alloc) | (with_reducible apply Gr.drew) | (with_reducible refine Gr.trans ?_ (by assumption)) | (with_reducible refine Gr.setCell ?_ (by omega) _)))⟩
set_option maxRecDepth 40000 in
theorem DropN {w : World} {p : Option Addr} (h : IXN w p) (s : Int) : Calls Try.prog 54 #[.pointer p, .int .i64 s] w fun e' w' => e' = .returned (.tuple #[.int .i64 0, .int .i64 1]) ∧ Gr w w' := by
  have H := Lib.hid h
  clear h
  refine calls_of_wp_marks Try.func54 rfl ?_
  simp only [Try.ntmps54, List.size_toArray, List.length_cons, List.length_nil, Nat.reduceAdd, Nat.reduceSub, Array.replicate_succ, Array.replicate_zero, List.push_toArray, List.append_toArray, List.nil_append, List.cons_append]
  go_wp2_with (go_at_call 95; refine (made_no (H.out.gr (by (repeat (first | (with_reducible exact Gr.refl _) | assumption | (with_reducible apply Gr.from_drew) | (with_reducible apply Gr.alloc) | (with_reducible apply Gr.drew) | (with_reducible refine Gr.trans ?_ (by assumption)) | (with_reducible refine Gr.setCell ?_ (by omega) _)))))).mono ?_; rintro e w1 ⟨rfl, rfl⟩)
  exact retM0 (v := .tuple #[.int .i64 0, .int .i64 1]) (by simp [results, Try.results54, go_sem]) rfl ⟨rfl, by (repeat (first | (with_reducible exact Gr.refl _) | assumption | (with_reducible apply Gr.from_drew) | (with_reducible apply Gr.alloc) | (with_reducible apply Gr.drew) | (with_reducible refine Gr.trans ?_ (by assumption)) | (with_reducible refine Gr.setCell ?_ (by omega) _)))⟩
set_option maxRecDepth 40000 in
theorem CopyN {w : World} {p : Option Addr} (h : IXN w p) : Calls Try.prog 68 #[.pointer p] w fun e' w' => e' = .returned (.pointer none) ∧ Gr w w' := by
  have H := Lib.hid h
  clear h
  refine calls_of_wp_marks Try.func68 rfl ?_
  simp only [Try.ntmps68, List.size_toArray, List.length_cons, List.length_nil, Nat.reduceAdd, Nat.reduceSub, Array.replicate_succ, Array.replicate_zero, List.push_toArray, List.append_toArray, List.nil_append, List.cons_append]
  go_wp2_with (go_at_call 95; refine (made_no H.out).mono ?_; rintro e w1 ⟨rfl, rfl⟩)
  exact retM0 (v := .pointer none) (by simp [results, Try.results68, go_sem]) rfl ⟨rfl, by (repeat (first | (with_reducible exact Gr.refl _) | assumption | (with_reducible apply Gr.from_drew) | (with_reducible apply Gr.alloc) | (with_reducible apply Gr.drew) | (with_reducible refine Gr.trans ?_ (by assumption)) | (with_reducible refine Gr.setCell ?_ (by omega) _)))⟩
theorem ixp_none {w : World} {p : Option Addr} {X : IX} {S : Nat → Prop} (h : IXP w p X S) (h0 : X.slots = []) : IXN w p := by
  rcases h with ⟨b, e, h⟩ | ⟨h, _⟩
  · exact absurd h0 h.pos
  · exact h
theorem ixp_some {w : World} {p : Option Addr} {X : IX} {S : Nat → Prop} (h : IXP w p X S) (h0 : X.slots ≠ []) : ∃ b, p = some ⟨b, 0, none⟩ ∧ IXR w b X S := by
  rcases h with ⟨b, e, h⟩ | ⟨h, h1, _⟩
  · exact ⟨b, e, h⟩
  · rw [h1] at h0; exact absurd rfl h0
/-- What Copy returns. -/
def CopyQ (X : IX) (w : World) (e : Ending) (w' : World) : Prop := ∃ q, e = .returned (.pointer q) ∧ Gr w w' ∧ (q = none ↔ X.slots = []) ∧ ∃ S', IXP w' q X S' ∧ ∀ k, S' k → w.heap.size ≤ k
theorem Copy_any {w : World} {p : Option Addr} {X : IX} {S : Nat → Prop} (h : IXP w p X S) : Calls Try.prog 68 #[.pointer p] w (CopyQ X w) := by
  rcases h with ⟨b, rfl, h⟩ | ⟨h, h1, _⟩
  · refine (CopyX h).mono ?_
    rintro e w' ⟨b', S', rfl, h1, h2, h3⟩
    exact ⟨_, rfl, h3, ⟨(fun h0 => by cases h0), fun h0 => absurd h0 h.pos⟩, S', .inl ⟨b', rfl, h1⟩, h2⟩
  · refine (CopyN h).mono ?_
    rintro e w' ⟨rfl, hg⟩
    exact ⟨none, rfl, hg, ⟨fun _ => by rw [h1], fun _ => rfl⟩, fun _ => False, .inr ⟨.inl rfl, h1, fun k => ⟨fun h => h.elim, (fun ⟨a, ha, _⟩ => by cases ha)⟩⟩, fun k hk => hk.elim⟩
/-- An index among other things turns. -/
theorem SW.post {w0 w w' : World} {R : List Asn} {b : Nat} {X X' : IX} {S : Nat → Prop} (h : SW w0 (ixA b X S :: R) w) (p : IXPost b X' S w w') : ∃ S', SW w0 (ixA b X' S' :: R) w' := by
  obtain ⟨S', h1, h2, h3⟩ := p
  exact ⟨S', h.step h2 (fun k hk => .inl hk) h1 h3⟩
theorem SW.ix {w0 w : World} {R : List Asn} {b : Nat} {X : IX} {S : Nat → Prop} (h : SW w0 (ixA b X S :: R) w) : IXR w b X S := h.s.head
theorem SW.ixp {w0 w : World} {R : List Asn} {b : Nat} {X : IX} {S : Nat → Prop} (h : SW w0 (ixA b X S :: R) w) : IXP w (some ⟨b, 0, none⟩) X S := .inl ⟨b, rfl, h.s.head⟩
theorem SW.ixnew {w0 w w' : World} {R : List Asn} {b : Nat} {X : IX} {S : Nat → Prop} (h : SW w0 R w) (h1 : IXR w' b X S) (h2 : ∀ k, S k → w.heap.size ≤ k) (g : Gr w w') : SW w0 (ixA b X S :: R) w' := h.new g h1 h2
/-- A row behind an index. -/
theorem SW.row {w0 w w' : World} {R : List Asn} {A : Asn} {t : TypeId} {K n : Nat} {v : Value} {xs : List Value} (h : SW w0 (A :: R) w) (hr : Nw w w' t K v n xs) (g : Gr w w') : SW w0 (A :: rowA t K v n xs :: R) w' :=
  (h.new g (A := rowA t K v n xs) hr.own (fun k hk => hr.new k hk)).perm (List.Perm.swap _ _ _)
theorem SW.allocT {w0 w : World} {R : List Asn} {A : Asn} (h : SW w0 (A :: R) w) (o : Obj) : SW w0 (A :: blkA w.heap.size o :: R) (w.alloc o) := (h.alloc o).perm (List.Perm.swap _ _ _)
end Go.Proofs.Ytiidkehcfoajeaa
