/- PqueueKnown answers true: the limits, and priorities of other types. -/
import Derived.Test.YthialloenkbpnaaPqGU
import Derived.Test.YthialloenkbpnaaPqGF
import Derived.Test.YthialloenkbpnaaPqW
import Derived.Deep.CutBlock
import Derived.Deep.DeepMust
import Derived.Deep.DeepCutAuto
namespace Go.Proofs.Ythialloenkbpnaa
open Go.RowKit

/-- Two queues, both new since w0. -/
def QP (w0 w : World) (bq lq : Nat) (Mq : Nat → Option Int) (br lr : Nat) (Mr : Nat → Option (Fin 3)) : Prop :=
  ∃ Sq Sr, QRU w bq 1024 lq Mq Sq ∧ QRF w br 3 lr Mr Sr ∧ (∀ k, Sq k → w0.heap.size ≤ k) ∧ (∀ k, Sr k → w0.heap.size ≤ k) ∧ (∀ k, Sq k → ¬ Sr k) ∧ Gr w0 w
section
variable {w0 w : World} {bq lq : Nat} {Mq : Nat → Option Int} {br lr : Nat} {Mr : Nat → Option (Fin 3)}
theorem QP.g (q : QP w0 w bq lq Mq br lr Mr) : Gr w0 w := let ⟨_, _, _, _, _, _, _, g⟩ := q; g
theorem QP.pushU (q : QP w0 w bq lq Mq br lr Mr) (id : Nat) (p : Int) (hid : id < 1024) (h : Mq id = none) :
    Calls Try.prog 25 #[.pointer (some ⟨bq, 0, none⟩), .int .i64 id, .int .u8 p] w fun e w' => e = .returned (.int .i64 0) ∧ QP w0 w' bq (lq + 1) (upd Mq id (some p)) br lr Mr := by
  obtain ⟨Sq, Sr, q1, q2, h1, h2, h3, g⟩ := q
  refine (Push_okU bq 1024 lq Mq Sq id p w q1 hid h).mono ?_
  rintro e w' ⟨he, S', q', m, hs⟩
  exact ⟨he, S', Sr, q', q2.mdh m (fun k hk hk' => h3 k hk' hk), fun k hk => (hs k hk).elim (h1 k) (fun y => Nat.le_trans g.sz y), h2, fun k hk hk' => (hs k hk).elim (fun y => h3 k y hk') (fun y => by have := q2.sub k hk'; omega), g.md m h1⟩
theorem QP.pushF (q : QP w0 w bq lq Mq br lr Mr) (id : Nat) (p : Fin 3) (hid : id < 3) (h : Mr id = none) :
    Calls Try.prog 26 #[.pointer (some ⟨br, 0, none⟩), .int .i64 id, .float .f64 (flB p)] w fun e w' => e = .returned (.int .i64 0) ∧ QP w0 w' bq lq Mq br (lr + 1) (upd Mr id (some p)) := by
  obtain ⟨Sq, Sr, q1, q2, h1, h2, h3, g⟩ := q
  refine (Push_okF br 3 lr Mr Sr id p w q2 hid h).mono ?_
  rintro e w' ⟨he, S', q', m, hs⟩
  exact ⟨he, Sq, S', q1.mdh m h3, q', h1, fun k hk => (hs k hk).elim (h2 k) (fun y => Nat.le_trans g.sz y), fun k hk hk' => (hs k hk').elim (fun y => h3 k hk y) (fun y => by have := q1.sub k hk; omega), g.md m h2⟩
theorem QP.popU (q : QP w0 w bq lq Mq br lr Mr) (hl : 0 < lq) :
    Calls Try.prog 27 #[.pointer (some ⟨bq, 0, none⟩)] w fun e w' => ∃ (i : Nat) (p : Int), e = .returned (.tuple #[.int .i64 i, .int .u8 p, .bool true]) ∧ IsMinU Mq i p ∧ QP w0 w' bq (lq - 1) (upd Mq i none) br lr Mr := by
  obtain ⟨Sq, Sr, q1, q2, h1, h2, h3, g⟩ := q
  refine (Pop_someU bq 1024 lq Mq Sq w q1 hl).mono ?_
  rintro e w' ⟨i, p, he, hi, hm, q', m⟩
  exact ⟨i, p, he, hm, Sq, Sr, q', q2.mdh m (fun k hk hk' => h3 k hk' hk), h1, h2, h3, g.md m h1⟩
theorem QP.popF (q : QP w0 w bq lq Mq br lr Mr) (hl : 0 < lr) :
    Calls Try.prog 28 #[.pointer (some ⟨br, 0, none⟩)] w fun e w' => ∃ (i : Nat) (p : Fin 3), e = .returned (.tuple #[.int .i64 i, .float .f64 (flB p), .bool true]) ∧ IsMinF Mr i p ∧ QP w0 w' bq lq Mq br (lr - 1) (upd Mr i none) := by
  obtain ⟨Sq, Sr, q1, q2, h1, h2, h3, g⟩ := q
  refine (Pop_someF br 3 lr Mr Sr w q2 hl).mono ?_
  rintro e w' ⟨i, p, he, hi, hm, q', m⟩
  exact ⟨i, p, he, hm, Sq, Sr, q1.mdh m h3, q', h1, h2, h3, g.md m h2⟩
end

/-- The bytes pushed so far. -/
def Fk (k : Nat) : Nat → Option Int := fun id => if id < k then some (255 - (id : Int) % 256) else none
/-- What is left behind i pops. -/
def Mk (i : Nat) : Nat → Option Int := fun id => if id < 1024 ∧ i ≤ 4 * (255 - id % 256) + id / 256 then some (255 - (id : Int) % 256) else none
theorem Fk_push (k : Nat) : upd (Fk k) k (some (255 - (k : Int) % 256)) = Fk (k + 1) := by
  funext id
  unfold upd Fk
  by_cases h : id = k
  · subst h; simp
  · by_cases h2 : id < k
    · simp [h, h2, show id < k + 1 by omega]
    · simp [h, h2, show ¬ id < k + 1 by omega]
theorem Fk_all : Fk 1024 = Mk 0 := by
  funext id
  unfold Fk Mk
  by_cases h : id < 1024 <;> simp [h]
theorem Mk_min (i : Nat) (hi : i < 1024) : IsMinU (Mk i) (256 * (i % 4) + 255 - i / 4) ((i : Int) / 4) := by
  refine ⟨?_, fun j q hj hlt => ?_⟩
  · unfold Mk
    rw [if_pos (by omega)]
    congr 1
    omega
  · unfold Mk at hj
    split at hj
    · rename_i hc
      obtain rfl := Option.some.inj hj
      simp only [ltU, ltbU, decide_eq_true_eq, orL2_neg, cmpZ_neg, cmpZ_zero] at hlt
      omega
    · cases hj
theorem Mk_pop (i : Nat) (hi : i < 1024) : upd (Mk i) (256 * (i % 4) + 255 - i / 4) none = Mk (i + 1) := by
  funext id
  unfold upd Mk
  by_cases h : id = 256 * (i % 4) + 255 - i / 4
  · rw [if_pos h, if_neg (by omega)]
  · rw [if_neg h]
    by_cases h2 : id < 1024 ∧ i ≤ 4 * (255 - id % 256) + id / 256
    · rw [if_pos h2, if_pos (by omega)]
    · rw [if_neg h2, if_neg (by omega)]

def rM : Nat → Option (Fin 3) := upd (upd (upd (fun _ => none) 0 (some 2)) 1 (some 0)) 2 (some 1)
theorem rM_some {j : Nat} {q : Fin 3} (h : rM j = some q) : (j = 0 ∧ q = 2) ∨ (j = 1 ∧ q = 0) ∨ (j = 2 ∧ q = 1) := by
  simp only [rM, upd] at h
  (repeat' split at h) <;> simp_all
theorem rmin1 : IsMinF rM 1 0 := by
  refine ⟨rfl, fun j q hj => ?_⟩
  rcases rM_some hj with ⟨rfl, rfl⟩ | ⟨rfl, rfl⟩ | ⟨rfl, rfl⟩ <;> simp only [ltF] <;> decide
theorem rmin2 : IsMinF (upd rM 1 none) 2 1 := by
  refine ⟨rfl, fun j q hj => ?_⟩
  unfold upd at hj
  split at hj
  · cases hj
  · rcases rM_some hj with ⟨rfl, rfl⟩ | ⟨rfl, rfl⟩ | ⟨rfl, rfl⟩ <;> simp only [ltF] <;> first | decide | contradiction

set_option maxRecDepth 40000 in
set_option maxHeartbeats 4000000 in
theorem PqueueKnown_any (w : World) : Calls Try.prog 5 #[] w fun e w' => e = .returned (.bool true) ∧ Gr w w' := by
  go_enter Try.func5, Try.ntmps5
  go_upto_block 0 with fail
  go_cut [] (fun wx => Gr w wx)
  case first =>
    go_wp2_with fail
    go_loopw [22] (fun i wx => ∃ k : Nat, k ≤ 3 ∧ i = .int .i64 k ∧ wx = w.alloc (.cells #[.int .i64 0, .int .i64 (-1), .int .i64 1025] 3)) (fun i _ => 3 - (intOf i).toNat)
    case atStart => exact ⟨0, by omega, rfl, rfl⟩
    case round =>
      obtain ⟨k, hk, rfl, rfl⟩ := hrel
      rcases (show k = 0 ∨ k = 1 ∨ k = 2 ∨ k = 3 by omega) with rfl | rfl | rfl | rfl
      · go_wp2_with fail
        refine (New_badI 0 _ (by omega)).mono ?_
        rintro e w1 ⟨rfl, rfl⟩
        go_wp2
        go_roundw
        case rel => exact ⟨1, by omega, rfl, trivial⟩
        case measure => simp [intOf]
      · go_wp2_with fail
        refine (New_badI (-1) _ (by omega)).mono ?_
        rintro e w1 ⟨rfl, rfl⟩
        go_wp2
        go_roundw
        case rel => exact ⟨2, by omega, rfl, trivial⟩
        case measure => simp [intOf]
      · go_wp2_with fail
        refine (New_badI 1025 _ (by omega)).mono ?_
        rintro e w1 ⟨rfl, rfl⟩
        go_wp2
        go_roundw
        case rel => exact ⟨3, by omega, rfl, trivial⟩
        case measure => simp [intOf]
      · go_wp2
        go_meet
        exact (by (repeat (first | (with_reducible exact Gr.refl _) | assumption | (with_reducible apply Gr.from_drew) | (with_reducible apply Gr.alloc) | (with_reducible apply Gr.drew) | (with_reducible refine Gr.trans ?_ (by assumption)) | (with_reducible refine Gr.setCell ?_ (by omega) _))))
  case rest =>
    go_wp2_with fail
    refine (NewU 1024 wc (by omega) (by omega)).mono ?_
    rintro e w1 ⟨rfl, hq1, hg1⟩
    have HQ1 := Lib.hid hq1
    have HG1 := Lib.hid hg1
    have hsz1 := hq1.lt
    generalize hbq : wc.heap.size = bq at *
    clear hq1 hg1
    go_wp2_with fail
    refine (NewF 3 w1 (by omega) (by omega)).mono ?_
    rintro e w2 ⟨rfl, hq2, hg2⟩
    have hp : QP w w2 bq 0 (fun _ => none) w1.heap.size 0 (fun _ => none) := by
      refine ⟨fun k => k = bq, fun k => k = w1.heap.size, ⟨by omega, by omega, fun _ _ => rfl, .inl ⟨rfl, ⟨_, HQ1.out.gr hg2, fun _ _ => rfl⟩, fun _ => rfl, rfl⟩⟩, ⟨by omega, by omega, fun _ _ => rfl, .inl ⟨rfl, ⟨_, hq2, fun _ _ => rfl⟩, fun _ => rfl, rfl⟩⟩, fun k hk => ?_, fun k hk => ?_, fun k hk hk' => ?_, (hcut.trans HG1.out).trans hg2⟩
      · have := hcut.sz; omega
      · have := (hcut.trans HG1.out).sz; omega
      · omega
    have HP := Lib.hid hp
    generalize w1.heap.size = br at *
    clear hq2 hg2 hp HQ1 HG1 hsz1 hbq hcut
    go_upto_block 2 with fail
    go_cut [] (fun wx => Hid (QP w wx bq 1024 (Mk 0) br 0 (fun _ => none)))
    case first =>
      go_wp2_with fail
      go_loopw [9] (fun i wx => ∃ k : Nat, k ≤ 1024 ∧ i = .int .i64 k ∧ Hid (QP w wx bq k (Fk k) br 0 (fun _ => none))) (fun i _ => 1024 - (intOf i).toNat)
      case atStart => exact ⟨0, by omega, rfl, HP⟩
      case round =>
        obtain ⟨k, hk, rfl, H⟩ := hrel
        by_cases hlt : k < 1024
        · have hlt' : (k : Int) < 1024 := by omega
          have hk0 : 0 ≤ 255 - (k : Int) % 256 := by omega
          have hk1 : 255 - (k : Int) % 256 ≤ 255 := by omega
          go_wp2_with fail
          refine (H.out.pushU k (255 - (k : Int) % 256) hlt (by simp [Fk])).mono ?_
          rintro e w3 ⟨rfl, hq⟩
          rw [Fk_push] at hq
          have H2 := Lib.hid hq
          clear hq
          go_wp2
          go_roundw
          case rel => exact ⟨k + 1, by omega, by go_num, H2⟩
          case measure => simp [intOf]; omega
        · have hlt' : ¬ (k : Int) < 1024 := by omega
          obtain rfl : k = 1024 := by omega
          go_wp2
          go_meet
          exact Lib.hid (by rw [← Fk_all]; exact H.out)
    case rest =>
      clear HP
      have HP := hcut
      clear hcut
      go_wp2_with fail
      refine (let ⟨S, _, q, _⟩ := HP.out; Push_badU bq 1024 _ _ S 1024 _ _ q (.inr (by decide))).mono ?_
      rintro e w3 ⟨rfl, rfl⟩
      go_wp2_with fail
      refine (HP.out.pushF 0 2 (by omega) rfl).mono ?_
      rintro e w3 ⟨rfl, hq⟩
      have H1 := Lib.hid hq
      clear hq
      go_wp2_with fail
      refine (H1.out.pushF 1 0 (by omega) rfl).mono ?_
      rintro e w4 ⟨rfl, hq⟩
      have H2 := Lib.hid hq
      clear hq
      go_wp2_with fail
      refine (H2.out.pushF 2 1 (by omega) rfl).mono ?_
      rintro e w5 ⟨rfl, hq⟩
      have H3 : Hid (QP w w5 bq 1024 (Mk 0) br 3 rM) := Lib.hid hq
      clear hq H1 H2 HP
      go_upto_block 4 with fail
      go_cut [] (fun wx => Hid (QP w wx bq 0 (Mk 1024) br 3 rM))
      case first =>
        go_wp2_with fail
        go_loopw [10] (fun i wx => ∃ k : Nat, k ≤ 1024 ∧ i = .int .i64 k ∧ Hid (QP w wx bq (1024 - k) (Mk k) br 3 rM)) (fun i _ => 1024 - (intOf i).toNat)
        case atStart => exact ⟨0, by omega, rfl, H3⟩
        case round =>
          obtain ⟨k, hk, rfl, H⟩ := hrel
          by_cases hlt : k < 1024
          · have hlt' : (k : Int) < 1024 := by omega
            go_wp2_with fail
            refine (H.out.popU (by omega)).mono ?_
            rintro e w6 ⟨i, p, rfl, hm, hq⟩
            obtain ⟨hi, rfl⟩ := hm.uniq (Mk_min k hlt)
            rw [hi, Mk_pop k hlt] at hq
            have hi' : (i : Int) = 256 * ((k : Int) % 4) + 255 - (k : Int) / 4 := by omega
            have H2 := Lib.hid hq
            clear hq hm hi
            have hk0 : 0 ≤ (k : Int) / 4 := by omega
            have hk1 : (k : Int) / 4 < 256 := by omega
            go_wp2
            go_roundw
            case rel => exact ⟨k + 1, by omega, by go_num, Lib.hid (by rw [show 1024 - (k + 1) = 1024 - k - 1 by omega]; exact H2.out)⟩
            case measure => simp [intOf]; omega
          · have hlt' : ¬ (k : Int) < 1024 := by omega
            obtain rfl : k = 1024 := by omega
            go_wp2
            go_meet
            exact H
      case rest =>
        clear H3
        have H3 := hcut
        clear hcut
        go_wp2_with fail
        refine (H3.out.popF (by omega)).mono ?_
        rintro e w6 ⟨i, p, rfl, hm, hq⟩
        obtain ⟨rfl, rfl⟩ := hm.uniq rmin1
        have H4 := Lib.hid hq
        clear hq hm H3
        go_wp2_with fail
        refine (H4.out.popF (by omega)).mono ?_
        rintro e w7 ⟨i, p, rfl, hm, hq⟩
        obtain ⟨rfl, rfl⟩ := hm.uniq rmin2
        have HG := Lib.hid hq.g
        clear hq hm H4
        go_wp2_with fail
        refine (works_any _).mono ?_
        rintro e w8 ⟨rfl, hg⟩
        go_wp2
        go_ret
        exact ⟨rfl, HG.out.trans hg⟩
end Go.Proofs.Ythialloenkbpnaa
