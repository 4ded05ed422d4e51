/- PqueueOrder, walked. -/
import Derived.Test.YthialloenkbpnaaPqL5
namespace Go.Proofs.Ythialloenkbpnaa
open Go.RowKit Go.Shelf
attribute [local go_sem] OvM cell_ovm obj_ovm
attribute [local go_sem] Oper.semAt_some

theorem Try.infoStr : (Try.prog.info? 9).map (fun i => (i.zero, i.size, i.bytes)) = some (some (.string ⟨#[]⟩), 1, 16) := by kernel_rfl
/-- The rows' blocks are new and lie apart. -/
def Dis (lo : Nat) (v u : Value) : Prop := (∀ g, v.ownBlock = some g → lo ≤ g ∧ u.ownBlock ≠ some g) ∧ ∀ g, u.ownBlock = some g → lo ≤ g
/-- Of two that follow one another the first one is less. -/
theorem min_next {M : Nat → Option UInt8} {i j : Nat} {p q : UInt8} (h : IsMinS M i p) (h' : IsMinS (upd M i none) j q) : ¬ q.toNat < p.toNat ∧ (q = p → i < j) := by
  have hne : j ≠ i := fun e => by have := h'.1; rw [e, upd_same] at this; cases this
  have hj : M j = some q := by have := h'.1; rwa [upd_ne _ _ _ hne] at this
  have hlt := h.2 j q hj
  unfold ltS ltbS at hlt
  simp only [decide_eq_true_eq, orL2_neg, cmpB_neg, cmpB_zero, cmpZ_neg] at hlt
  refine ⟨fun h => hlt (.inl h), fun e => ?_⟩
  subst e
  have : ¬ ((j : Int) < i) := fun h => hlt (.inr ⟨rfl, h⟩)
  omega
theorem u8_wr (c : UInt8) : IntKind.u8.wrap (c.toNat : Int) = (c.toNat : Int) := by
  have := c.toNat_lt
  rw [IntKind.wrap_u8]
  omega
theorem Own.keepB {w w' : World} {e : TypeId} {size : Nat} {v : Value} {n : Nat} {xs : List Value} (h : Own w e size v n xs) (hk : ∀ g o, v.ownBlock = some g → w.heap[g]? = some o → w'.heap[g]? = some o) : Own w' e size v n xs := by
  obtain ⟨h1, h2⟩ := h
  refine ⟨h1, ?_⟩
  rcases h2 with h2 | ⟨b, cap, cur, rfl, hb, hh, r⟩
  · exact .inl h2
  · exact .inr ⟨b, cap, cur, rfl, hb, hk b _ rfl hh, r⟩
theorem news1' (w : World) (u : Value) (t : TypeId) (b : Nat) (hb : b = w.heap.size) : ∀ j x, [u][j]? = some x → (w.alloc (.cells #[u] t)).cell? ((⟨b, 0, none⟩ : Addr).add j) = some x := by
  subst hb; exact news1 w u t
set_option maxRecDepth 40000 in
set_option maxHeartbeats 8000000 in
theorem PqueueOrder_any (c : UInt8) (a : Option Addr) (len cap : Nat) (l : List Tn) (w : World) (hl : l.length = len) (hle : len ≤ cap) (hcap : cap ≤ maxLen) (hs : TurnsAt w a l) :
    Calls Try.prog 9 #[.int .u8 (c.toNat : Int), .slice a len cap] w fun e w' => e = .returned (.bool true) ∧ Gr w w' := by
  have HS := Lib.hid hs
  have HL := Lib.hid hl
  clear hs hl
  obtain ⟨i0, hi, hz0, hz1, hz2⟩ := info_parts Try.infoInt
  obtain ⟨i9, hi9, hy0, hy1, hy2⟩ := info_parts Try.infoStr
  refine calls_of_wp_marks Try.func9 rfl ?_
  simp only [Try.ntmps9, List.size_toArray, List.length_cons, List.length_nil, Nat.reduceAdd, Nat.reduceSub, Array.replicate_succ, Array.replicate_zero, List.push_toArray, List.append_toArray, List.nil_append, List.cons_append]
  by_cases hlong : (200 : Int) < len
  · go_wp2_with fail
    refine (works_any _).mono ?_
    rintro e w1 ⟨rfl, hg⟩
    go_wp2_with fail
    exact retM0 (results_tmp (t := 4) rfl _ _ _) rfl ⟨rfl, hg⟩
  go_wp2_with fail
  refine (made_any c a len cap l _ HL.out hle hcap HS.out).mono ?_
  rintro e w1 ⟨bq, gw, n, L, M, S, rfl, hq, hrow, hS, hgw, hSg, hn50, hg⟩
  have hn1 := hq.1
  have HQ : Hid (SQ w w1 bq gw n L M M S) := Lib.hid ⟨hq, hrow, hS, hSg, hgw, hg⟩
  clear hq hrow hS hgw hSg hg
  have hcnt : ((cnt M n : Nat) : Int) = L := by rw [HQ.out.q.count]
  have hL50 : L ≤ n := by rw [← HQ.out.q.count]; exact cnt_le _ _
  go_wp2_with fail
  refine (LenS _ _ _ _ _ _ HQ.out.q).mono ?_
  rintro e w2 ⟨rfl, rfl⟩
  go_wp2_with fail
  refine (count_any _ _ _ _ HQ.out.r (by omega)).mono ?_
  rintro e w2 ⟨rfl, rfl⟩
  go_wp2_with fail
  obtain ⟨w1, rfl⟩ : ∃ x, x = w1 := ⟨_, rfl⟩
  refine (AllS _ _).mono ?_
  rintro e w4 ⟨bb, rfl, hbb, hbb2, hg4⟩
  simp only [World.size_alloc] at hbb2
  have hgA : Gr w1 w4 := (((Gr.refl w1).alloc _).alloc _).trans hg4
  have HQ4 := Lib.hid (HQ.out.gr hgA)
  have b7 : w4.heap[w1.heap.size]? = some (.cells #[.slice none 0 0] 25) := hg4.blk (blkOld (blkNew w1 _))
  have b8 : w4.heap[w1.heap.size + 1]? = some (.cells #[.slice none 0 0] 89) := by
    have := hg4.blk (blkNew (w1.alloc (.cells #[.slice none 0 0] 25)) (.cells #[.slice none 0 0] 89))
    simpa using this
  have HA : Hid (∀ k, (k = bb ∨ S k) → k < w4.heap.size ∧ k ≠ w1.heap.size ∧ k ≠ w1.heap.size + 1) := Lib.hid (fun k hk => hk.elim (fun e => by
      subst e
      exact ⟨World.block_lt_of_cell? w4 ⟨k, 0, none⟩ hbb, by omega, by omega⟩) (fun h => by
      have h1 := HQ.out.q.sub k h
      have h2 := HQ4.out.q.sub k h
      exact ⟨h2, by omega, by omega⟩))
  have hz4 := blkLt b8
  clear hgA hg4
  go_wp2_with fail
  apply wp_rangeFunc_zb (gf := 82) (lb := #[.pointer (some ⟨bb, 0, none⟩)]) rfl (enters_of Try.func82 (by kernel_rfl) rfl)
    (SeqS bq n L M S bb w4 HQ4.out.q hbb) (Mdh.refl _ w4) (fun k hk => (HA.out k hk).1) (fun _ => rfl)
    (fun Z pre W => (∃ v7 v8, BoxRow W Z w1.heap.size 25 3 v7 (pre.map fun x => .int .i64 x.1) ∧ BoxRow W Z (w1.heap.size + 1) 89 9 v8 (pre.map fun x => .string ⟨#[x.2]⟩) ∧ Dis w4.heap.size v7 v8) ∧ Frm w4 (fun k => k = w1.heap.size ∨ k = w1.heap.size + 1) Z W)
    (fun _ _ _ => False) (fun _ _ _ => False)
    ((Apart.ex fun v7 => Apart.ex fun v8 => (BoxRow.apart _ _ _ v7 _).and ((BoxRow.apart _ _ _ v8 _).and (Apart.pure _))).and (Frm.apart _ _)) apart_no apart_no
    ⟨⟨_, _, ⟨b7, fun h => h, ⟨rfl, .inl ⟨rfl, rfl⟩⟩, fun g hg => by cases hg⟩, ⟨b8, fun h => h, ⟨rfl, .inl ⟨rfl, rfl⟩⟩, fun g hg => by cases hg⟩, ⟨fun g hg => (by cases hg), fun g hg => (by cases hg)⟩⟩, Frm.refl _ _⟩
    _ ?assign ?body ?hend ?hret
  case assign =>
    intro l x W K hK
    dsimp only [encIS]
    gi_wp2
    exact hK
  case hret => intro _ _ _ _ _ _ _ h; exact h.elim
  case body =>
    intro l Z pre x W hI hsp
    obtain ⟨⟨v7, v8, h7, h8, hd⟩, hF⟩ := hI
    obtain ⟨a7, cap7, hv7, hle7, hcap7⟩ := own_val h7.own
    obtain ⟨a8, cap8, hv8, hle8, hcap8⟩ := own_val h8.own
    rw [List.length_map] at hv7 hle7 hv8 hle8
    subst hv7 hv8
    have H7 := Lib.hid h7
    have H8 := Lib.hid h8
    have HF := Lib.hid hF
    have HD := Lib.hid hd
    have HT : Hid (∀ k, Z k → k < W.heap.size) := Lib.hid hF.t
    have c7 := h7.cell
    have f7 := h7.fr
    have c8 := h8.cell
    have f8 := h8.fr
    have hW := hF.m.size
    have hk50 : pre.length < 50 := by have := hsp.2; simp at this; omega
    have hk50' : Hid (pre.length < 50) := Lib.hid hk50
    unfold maxLen at hcap7 hcap8
    clear h7 h8 hd hF
    have hg0 : Gr W (W.alloc (.cells #[.int .i64 x.1] 3)) := (Gr.refl W).alloc _
    gi_wp2_with (first | (gi_at_builtin; (refine wpListIn_app _ rfl (.tmp 42) (.tmp 44) 25 rfl 3 i0 _ 1 8 Try.underlying25 hi hz0 hz1 hz2 rfl (by decide) (.slice a7 pre.length cap7) _ _ rfl (H7.out.own.gr hg0) ⟨W.heap.size, 0, none⟩ 1 1 [.int .i64 x.1] rfl rfl (news1 _ _ _) (by simp [Value.oneCell']) (by decide) (by simp only [maxLen]; simp; omega) (by simp; omega) ?_); intro g7 cg7 w5 hown hwh hgrow; obtain ⟨c5, f5⟩ := box1 (H7.out.at2 hg0 hgrow); have HA7 := Lib.hid (H7.out.app HT.out hg0 hown hwh hgrow); have HW7 := Lib.hid hwh; simp only [List.length_map] at HA7; have H8w : Hid (BoxRow w5 Z (w1.heap.size + 1) 89 9 (.slice a8 pre.length cap8) (pre.map fun x => .string ⟨#[x.2]⟩)) := Lib.hid (H8.out.mdh (((Mdh.refl (fun k => (Value.slice a7 pre.length cap7).ownBlock = some k) W).gr hg0).grown hgrow (fun r hr => hr)) (fun h => by have := (HD.out.1 _ h).1; omega) (fun g hg h => (HD.out.1 _ h).2 hg)); have c8w := H8w.out.cell; have f8w := H8w.out.fr; have H85 : Hid (BoxRow (w5.setCell ⟨w1.heap.size, 0, none⟩ (.slice (some ⟨g7, 0, none⟩) (pre.length + 1) cg7)) Z (w1.heap.size + 1) 89 9 (.slice a8 pre.length cap8) (pre.map fun x => .string ⟨#[x.2]⟩)) := Lib.hid (H8w.out.mdh ((Mdh.refl (fun k => k = w1.heap.size) w5).setCell (p := ⟨w1.heap.size, 0, none⟩) rfl _) (by omega) (fun g hg h => by have := HD.out.2 g hg; omega)); have HT5 : Hid (∀ k, Z k → k < (w5.setCell ⟨w1.heap.size, 0, none⟩ (.slice (some ⟨g7, 0, none⟩) (pre.length + 1) cg7)).heap.size) := Lib.hid (fun k hk => Nat.lt_of_lt_of_le (HT.out k hk) HA7.out.2.size); clear hown hwh hgrow) | (gi_at_builtin; (refine wpListIn_app _ rfl (.tmp 46) (.tmp 48) 89 rfl 9 i9 _ 1 16 Try.underlying89 hi9 hy0 hy1 hy2 rfl (by decide) (.slice a8 pre.length cap8) _ _ rfl (H85.out.own.gr ((Gr.refl _).alloc (.cells #[.string ⟨#[x.2]⟩] 9))) ⟨w5.heap.size, 0, none⟩ 1 1 [.string ⟨#[x.2]⟩] rfl rfl (news1' _ _ _ _ (by simp)) (by simp [Value.oneCell']) (by decide) (by simp only [maxLen]; simp; omega) (by simp; omega) ?_); intro g8 cg8 w6 hown hwh hgrow; obtain ⟨c6, f6⟩ := box1 (H85.out.at2 ((Gr.refl _).alloc _) hgrow); have HA8 := Lib.hid (H85.out.app HT5.out ((Gr.refl _).alloc _) hown hwh hgrow); have HW8 := Lib.hid hwh; simp only [List.length_map] at HA8; clear hown hwh hgrow))
    have hWs : w4.heap.size ≤ W.heap.size := HF.out.m.size
    have g7lo : w4.heap.size ≤ g7 := HW7.out.elim (fun e => (HD.out.1 _ e).1) (fun y => by simp at y; omega)
    have g7ne : (Value.slice a8 pre.length cap8).ownBlock ≠ some g7 := HW7.out.elim (fun e => (HD.out.1 _ e).2) (fun y e => by have := H8.out.own.lt e; simp at y; omega)
    have g8lo : w4.heap.size ≤ g8 := HW8.out.elim (fun e => HD.out.2 _ e) (fun y => by have := HA7.out.2.size; simp at y this; omega)
    have g8ne : g8 ≠ g7 := HW8.out.elim (fun e h => g7ne (by rw [e, h])) (fun y => by have := HA7.out.1.own.lt (k := g7) rfl; simp at y this; omega)
    have H77 := HA7.out.1.mdh HA8.out.2 (by
      rintro (h | h)
      · omega
      · have := HD.out.2 _ h; omega) (by
      intro g hg
      simp only [Value.ownBlock, Option.some.injEq] at hg
      subst hg
      rintro (h | h)
      · omega
      · exact g7ne h)
    have HM7 : Hid (Mdh (fun k => k = w1.heap.size ∨ (Value.slice a7 pre.length cap7).ownBlock = some k ∨ k = w1.heap.size + 1 ∨ (Value.slice a8 pre.length cap8).ownBlock = some k) W
        (w6.setCell ⟨w1.heap.size + 1, 0, none⟩ (.slice (some ⟨g8, 0, none⟩) (pre.length + 1) cg8))) :=
      Lib.hid ((HA7.out.2.mono (fun k hk => hk.elim .inl (fun h => .inr (.inl h)))).trans (HA8.out.2.mono (fun k hk => hk.elim (fun h => .inr (.inr (.inl h))) (fun h => .inr (.inr (.inr h))))))
    refine ⟨HM7.out.mono (fun k hk => ?_), ⟨_, _, by rw [List.map_append]; exact H77, by rw [List.map_append]; exact HA8.out.1, ?_⟩, HF.out.step HM7.out (fun k hk => ?_)⟩
    · rcases hk with rfl | hk | rfl | hk
      · exact ⟨fun h => (HA.out _ h).2.1 rfl, H7.out.nz⟩
      · exact ⟨fun h => by have := (HA.out _ h).1; have := (HD.out.1 _ hk).1; omega, (H7.out.rz _ hk).1⟩
      · exact ⟨fun h => (HA.out _ h).2.2 rfl, H8.out.nz⟩
      · exact ⟨fun h => by have := (HA.out _ h).1; have := HD.out.2 _ hk; omega, (H8.out.rz _ hk).1⟩
    · refine ⟨fun g hg => ?_, fun g hg => ?_⟩
      · simp only [Value.ownBlock, Option.some.injEq] at hg
        subst hg
        exact ⟨g7lo, by simp only [Value.ownBlock, ne_eq, Option.some.injEq]; exact g8ne⟩
      · simp only [Value.ownBlock, Option.some.injEq] at hg
        subst hg
        exact g8lo
    · rcases hk with rfl | hk | rfl | hk
      · exact .inl (.inl rfl)
      · exact .inr (HD.out.1 _ hk).1
      · exact .inl (.inr rfl)
      · exact .inr (HD.out.2 _ hk)
  case hend =>
    intro Z D xs W hD hZD hcase hdef
    rcases hcase with ⟨⟨hxs, rfl⟩, ⟨v7, v8, h7, h8, hd⟩, hF⟩ | ⟨_, h⟩
    rotate_left
    · exact h.elim
    obtain ⟨a7, cap7, hv7, hle7, hcap7⟩ := own_val h7.own
    obtain ⟨a8, cap8, hv8, hle8, hcap8⟩ := own_val h8.own
    rw [List.length_map] at hv7 hle7 hv8 hle8
    subst hv7 hv8
    have HXS := Lib.hid hxs
    have O7 : Hid (Own W 3 1 (.slice a7 xs.length cap7) xs.length (xs.map fun x => .int .i64 x.1)) := Lib.hid (by have := h7.own; rw [List.length_map] at this; exact this)
    have O8 : Hid (Own W 9 1 (.slice a8 xs.length cap8) xs.length (xs.map fun x => .string ⟨#[x.2]⟩)) := Lib.hid (by have := h8.own; rw [List.length_map] at this; exact this)
    have B7 := Lib.hid h7.box
    have B8 := Lib.hid h8.box
    have HDIS := Lib.hid hd
    have HQW : Hid (SQ w W bq gw n xs.length M M S) := Lib.hid (HQ4.out.other hF.m (fun k hk => by
      have h2 := HQ.out.g.sz
      refine ⟨fun h => ?_, fun h => ?_, by omega⟩
      · have := HQ.out.q.sub k h; omega
      · have := HQ.out.r.lt; omega))
    have HDD : Hid (w4.heap.size ≤ D ∧ W.heap[D]? = some (.deferred (some []))) := Lib.hid ⟨hD, hdef⟩
    -- what the loop below keeps: the boxes, their rows, and the mark
    obtain ⟨K, hK⟩ : ∃ K : Nat → Prop, K = fun k => k = w1.heap.size ∨ k = w1.heap.size + 1 ∨ k = D ∨ (Value.slice a7 xs.length cap7).ownBlock = some k ∨ (Value.slice a8 xs.length cap8).ownBlock = some k := ⟨_, rfl⟩
    have HKS : Hid (∀ k, K k → ¬ S k ∧ k ≠ gw) := Lib.hid (fun k hk => by
      have h1 : ∀ k, S k → k < w1.heap.size := HQ.out.q.sub
      have h2 := HQ.out.r.lt
      rw [hK] at hk
      have hlo : w1.heap.size ≤ k := by
        rcases hk with rfl | rfl | rfl | h | h
        · omega
        · omega
        · omega
        · have := (hd.1 _ h).1; omega
        · have := hd.2 _ h; omega
      exact ⟨fun h => by have := h1 k h; omega, by omega⟩)
    unfold maxLen at hcap7 hcap8
    have HKB : Hid (K w1.heap.size ∧ K (w1.heap.size + 1) ∧ K D ∧ (∀ g, (Value.slice a7 xs.length cap7).ownBlock = some g → K g) ∧ ∀ g, (Value.slice a8 xs.length cap8).ownBlock = some g → K g) := Lib.hid (by
      rw [hK]
      exact ⟨.inl rfl, .inr (.inl rfl), .inr (.inr (.inl rfl)), fun g hg => .inr (.inr (.inr (.inl hg))), fun g hg => .inr (.inr (.inr (.inr hg)))⟩)
    clear hxs h7 h8 hd hF hD hZD hdef hK
    dsimp only
    have HG0 : Gr W W.drew := Gr.drew (Gr.refl W)
    have HG := Gr.refl W.drew
    have c7 := (box1 B7.out).1
    have hlen50 : (xs.length : Int) ≤ 50 := by omega
    go_wp2_with fail
    refine wp_region_flo (fun _ => False) [] [] (by kernel_rfl) (by kernel_rfl) (fun _ h => h.elim) ?_
    refine flo_seg 3 rfl ?_
    simp only [List.take_succ_cons, List.take_zero, List.drop_succ_cons, List.drop_zero]
    repeat (go_big_quiet_step (fail))
    refine wpQuiet_nil ?_
    refine flo_eff rfl rfl rfl rfl (fun K hK => ?_)
    go_wp2_with ((go_at_call 16; refine (LenS _ _ _ _ _ _ (HQW.out.q.gr (by (repeat (first | (with_reducible exact Gr.refl _) | assumption | (with_reducible apply Gr.from_drew) | (with_reducible apply Gr.alloc) | (with_reducible apply Gr.drew) | (with_reducible refine Gr.trans ?_ (by assumption)) | (with_reducible refine Gr.setCell ?_ (by omega) _)))))).mono ?_; rintro e w1 ⟨rfl, rfl⟩))
    refine ⟨by (first | (refine Gr.mdh ?_ _; (repeat (first | (with_reducible exact Gr.refl _) | assumption | (with_reducible apply Gr.from_drew) | (with_reducible apply Gr.alloc) | (with_reducible apply Gr.drew) | (with_reducible refine Gr.trans ?_ (by assumption)) | (with_reducible refine Gr.setCell ?_ (by omega) _))); done) | (repeat (first | (with_reducible exact Mdh.refl _ _) | (with_reducible refine Mdh.setCell ?_ (by simp) _) | (with_reducible refine Mdh.setNew ?_ (by simp) _) | (with_reducible apply Mdh.alloc) | (with_reducible apply Mdh.drew) | (with_reducible refine Mdh.gr ?_ (by assumption))))), ?_⟩
    refine flo_seg 1 rfl ?_
    simp only [List.take_succ_cons, List.take_zero, List.drop_succ_cons, List.drop_zero]
    repeat (go_big_quiet_step (fail))
    refine wpQuiet_nil ?_
    refine flo_nil ?_
    go_wp2_with fail
    go_loopw [11, 12] (fun t11 t12 wx => ∃ k : Nat, k ≤ xs.length ∧ t12 = .int .i64 k ∧ (∃ z : Int, t11 = .int .i64 z ∧ ∀ y, 0 < k → xs[k - 1]? = some y → z = y.1) ∧ Hid (SQ w wx bq gw n (xs.length - k) (aftS M (xs.take k)) (aftS M (xs.take k)) S ∧ ∀ b o, K b → W.heap[b]? = some o → wx.heap[b]? = some o)) (fun _ t12 _ => xs.length - (intOf t12).toNat)
    case atStart =>
      refine ⟨0, by omega, rfl, ⟨_, rfl, fun y h => by omega⟩, Lib.hid ⟨?_, fun b o _ h => ?_⟩⟩
      · simpa [aftS] using HQW.out.gr (Gr.drew (Gr.refl W))
      · exact (Gr.drew (Gr.refl W)).blk h
    case round =>
      obtain ⟨k, hk, rfl, ⟨z, rfl, hzy⟩, H⟩ := hrel
      have hb7 := H.out.2 _ _ HKB.out.1 B7.out
      have hb8 := H.out.2 _ _ HKB.out.2.1 B8.out
      obtain ⟨c7, f7⟩ := box1 hb7
      obtain ⟨c8, f8⟩ := box1 hb8
      by_cases hlt : k < xs.length
      · have hlt' : (k : Int) < xs.length := by omega
        obtain ⟨⟨i, p⟩, hx, hin, hmin⟩ := HXS.out k hlt
        go_wp2_with fail
        refine (Pop_someS _ _ _ _ _ _ H.out.1.q (by omega)).mono ?_
        rintro e w6 ⟨i', p', rfl, hi6, hmin6, hq6, hm6⟩
        obtain ⟨rfl, rfl⟩ := hmin6.uniq hmin
        have HQ6 := Lib.hid (H.out.1.mdh' hq6 hm6)
        have HK6 : Hid (∀ b o, K b → W.heap[b]? = some o → w6.heap[b]? = some o) := Lib.hid (fun b o hb h => hm6.blk (H.out.2 b o hb h) (HKS.out b hb).1)
        have hpM := hmin.1
        have HMIN := Lib.hid hmin
        have hXK : Hid (xs[k]? = some (i', p')) := Lib.hid hx
        obtain ⟨g7, rfl, hc7⟩ := own_cell (O7.out.keepB (fun g o hg h => HK6.out g o (HKB.out.2.2.2.1 g hg) h)) hlt
        obtain ⟨g8, rfl, hc8⟩ := own_cell (O8.out.keepB (fun g o hg h => HK6.out g o (HKB.out.2.2.2.2 g hg) h)) hlt
        rw [List.getElem?_map, hx, Option.map_some] at hc7 hc8
        obtain ⟨d7, e7⟩ := box1 (HK6.out _ _ HKB.out.1 B7.out)
        obtain ⟨d8, e8⟩ := box1 (HK6.out _ _ HKB.out.2.1 B8.out)
        have hI1 : (i' : Int) < n := by omega
        have hI0 : (0 : Int) ≤ i' := by omega
        have hwant : w6.cell? ⟨gw, i', none⟩ = some (.int .i64 (p'.toNat : Int)) := by
          have := (H.out.1.r.mdh hm6 H.out.1.ng).cell i' hi6
          rw [hpM] at this
          exact this
        have hp0 : (0 : Int) ≤ p'.toNat := by omega
        have hp1 : (p'.toNat : Int) < 256 := by have := p'.toNat_lt; omega
        have hpw := u8_wr p'
        have hposk : ((xs.length - k : Nat) : Int) > 0 := by omega
        clear hq6 hm6 hmin hmin6 hx c7 f7 c8 f8 hb7 hb8
        go_wp2_with fail
        refine (letter_any p' _).mono ?_
        rintro e w8 ⟨rfl, hg8⟩
        have HQ8 := Lib.hid (HQ6.out.gr hg8)
        have HK8 : Hid (∀ b o, K b → W.heap[b]? = some o → w8.heap[b]? = some o) := Lib.hid (fun b o hb h => hg8.blk (HK6.out b o hb h))
        obtain ⟨d8', e8'⟩ := box1 (HK8.out _ _ HKB.out.2.1 B8.out)
        have hwant8 := (hg8.cell _ i' HQ6.out.r.lt).trans hwant
        have hfr8 := HQ8.out.r.fr
        have HQ9 : Hid (SQ w (w8.setCell ⟨gw, i', none⟩ (.int .i64 (-1))) bq gw n (xs.length - (k + 1)) (aftS M (xs.take (k + 1))) (aftS M (xs.take (k + 1))) S) := Lib.hid (by
          have h1 := HQ8.out.set hi6 none
          have e1 : aftS M (xs.take (k + 1)) = upd (aftS M (xs.take k)) i' none := by rw [List.take_add_one, hXK.out]; exact aft_snocS M (xs.take k) (i', p')
          rw [e1, show xs.length - (k + 1) = xs.length - k - 1 by omega]
          exact h1)
        have HK9 : Hid (∀ b o, K b → W.heap[b]? = some o → (w8.setCell ⟨gw, i', none⟩ (.int .i64 (-1))).heap[b]? = some o) := Lib.hid (fun b o hb h => blkSetO (HK8.out b o hb h) (HKS.out b hb).2)
        by_cases hk0 : k = 0
        · subst hk0
          clear hc7 hc8
          go_wp2
          go_roundw
          case rel => exact ⟨1, by omega, by go_num, ⟨_, rfl, fun y _ hy => by simp [hXK.out] at hy; rw [← hy]⟩, Lib.hid ⟨HQ9.out, HK9.out⟩⟩
          case measure => simp [intOf]; omega
        · have hkpos : (0 : Int) < k := by omega
          obtain ⟨⟨j, q⟩, hy, _, hminy⟩ := HXS.out (k - 1) (by omega)
          obtain rfl := hzy _ (by omega) hy
          have hyx := min_next hminy (by
            have e1 : aftS M (xs.take k) = upd (aftS M (xs.take (k - 1))) j none := by
              have : xs.take k = xs.take (k - 1) ++ [(j, q)] := by rw [show k = (k - 1) + 1 by omega, List.take_add_one, Nat.add_sub_cancel, hy]; rfl
              rw [this, aft_snocS]
            rw [← e1]
            exact HMIN.out)
          have hc8y : w8.cell? ⟨g8, k - 1, none⟩ = some (.string ⟨#[q]⟩) := by
            obtain ⟨g, hg, hc⟩ := own_cell (j := k - 1) (O8.out.keepB (fun g o hg h => HK8.out g o (HKB.out.2.2.2.2 g hg) h)) (by omega)
            simp only [Option.some.injEq, Addr.mk.injEq, and_true] at hg
            subst hg
            rw [hc, List.getElem?_map, hy]
            rfl
          have hk1 : (k : Int) - 1 = ((k - 1 : Nat) : Int) := by omega
          have hbl : Op.bytesLess [p'] [q] = false := by rw [bytesLess1]; simpa using hyx.1
          clear hc7 hc8
          by_cases heq : p' = q
          · subst heq
            have hji := hyx.2 rfl
            have hji' : (j : Int) < i' := by omega
            go_wp2
            go_roundw
            case rel => exact ⟨k + 1, by omega, by go_num, ⟨_, rfl, fun y _ hy => by rw [Nat.add_sub_cancel, hXK.out] at hy; rw [← Option.some.inj hy]⟩, Lib.hid ⟨HQ9.out, HK9.out⟩⟩
            case measure => simp [intOf]; omega
          · have heq' : ¬ q = p' := fun e => heq e.symm
            have heqb : (q == p') = false := beq_false_of_ne heq'
            have hbl2 : Op.bytesLess [q] [p'] = true := by
              rw [bytesLess1]
              have h1 : ¬ p'.toNat < q.toNat := hyx.1
              have h2 : q.toNat ≠ p'.toNat := fun e => heq' (UInt8.toNat_inj.1 e)
              exact decide_eq_true (by omega)
            go_wp2
            go_roundw
            case rel => exact ⟨k + 1, by omega, by go_num, ⟨_, rfl, fun y _ hy => by rw [Nat.add_sub_cancel, hXK.out] at hy; rw [← Option.some.inj hy]⟩, Lib.hid ⟨HQ9.out, HK9.out⟩⟩
            case measure => simp [intOf]; omega
      · obtain rfl : k = xs.length := by omega
        have hexit : ¬ ((xs.length : Int) < xs.length) := by omega
        have hz0' : xs.length - xs.length = 0 := by omega
        have HQE : Hid (SQ w wr bq gw n 0 (aftS M (xs.take xs.length)) (aftS M (xs.take xs.length)) S) := Lib.hid (by have := H.out.1; rw [hz0'] at this; exact this)
        have hce : ((cnt (aftS M (xs.take xs.length)) n : Nat) : Int) = 0 := by rw [HQE.out.q.count]; rfl
        have hce2 : cnt (aftS M xs) n = 0 := by have := hce; rw [List.take_length] at this; omega
        rw [List.take_length] at hce
        clear hz0'
        go_wp2_with fail
        refine (Pop_noneS _ _ _ _ _ HQE.out.q).mono ?_
        rintro e w6 ⟨rfl, rfl⟩
        go_wp2_with fail
        refine (count_any _ _ _ _ HQE.out.r (by omega)).mono ?_
        rintro e w6 ⟨rfl, rfl⟩
        go_wp2_with fail
        refine (works_any _).mono ?_
        rintro e w7 ⟨rfl, hg7⟩
        have HDF : Hid (w7.heap[D]? = some (.deferred (some []))) := Lib.hid (hg7.blk (H.out.2 D _ HKB.out.2.2.1 HDD.out.2))
        go_wp2_with fail
        exact retM1 (D := D) rfl HDF.out (results_tmp (t := 4) rfl _ _ _) ⟨rfl, (HQE.out.g.trans hg7).putObj (by have := HDD.out.1; have := HQ4.out.g.sz; omega) _⟩
end Go.Proofs.Ythialloenkbpnaa
