/- Contracts of a queue's methods that add and take, at the priorities string. Written from YPqE.base by inst.py. -/
import Derived.Test.YthialloenkbpnaaPqDS
set_option linter.unusedVariables false
set_option linter.unusedSimpArgs false
namespace Go.Proofs.Ythialloenkbpnaa
open Go.RowKit
attribute [local go_sem] OvM cell_ovm obj_ovm

/-- A queue for n ids that holds len of them: at each id what M tells. S: its blocks. -/
def QRS (w : World) (b n len : Nat) (M : Nat → Option UInt8) (S : Nat → Prop) : Prop :=
  0 < n ∧ n ≤ 1024 ∧ (∀ m, n ≤ m → M m = none) ∧
  ((len = 0 ∧ (∃ pl, QB w 103 b n (.slice none 0 0) pl ∧ ∀ i, i < 1024 → pl i = 0) ∧ (∀ m, M m = none) ∧ S = fun k => k = b) ∨
   (∃ cap g pl h, QKS w b n len cap g pl h ∧ (∀ m, m < 1024 → M m = Mo h pl m) ∧ S = QS b g))

theorem QRS.sub {w : World} {b n len : Nat} {M : Nat → Option UInt8} {S : Nat → Prop} (q : QRS w b n len M S) : ∀ k, S k → k < w.heap.size := by
  obtain ⟨_, _, _, ⟨_, ⟨pl, q, _⟩, _, rfl⟩ | ⟨cap, g, pl, h, k, _, rfl⟩⟩ := q
  · rintro k rfl; exact q.lt
  · rintro x (rfl | rfl)
    · exact k.c.q.lt
    · exact k.c.r.lt
theorem QRS.mdh {w w' : World} {b n len : Nat} {M : Nat → Option UInt8} {S F : Nat → Prop} (q : QRS w b n len M S) (m : Mdh F w w') (hs : ∀ k, S k → ¬ F k) : QRS w' b n len M S := by
  obtain ⟨h1, h2, h3, ⟨e, ⟨pl, q, h4⟩, h5, rfl⟩ | ⟨cap, g, pl, h, k, h4, rfl⟩⟩ := q
  · exact ⟨h1, h2, h3, .inl ⟨e, ⟨pl, q.mdh m (hs _ rfl), h4⟩, h5, rfl⟩⟩
  · exact ⟨h1, h2, h3, .inr ⟨cap, g, pl, h, ⟨⟨k.c.q.mdh m (hs _ (.inl rfl)), k.c.r.mdh m (hs _ (.inr rfl)), k.c.ne⟩, k.p, k.k⟩, h4, rfl⟩⟩
theorem QRS.gr {w w' : World} {b n len : Nat} {M : Nat → Option UInt8} {S : Nat → Prop} (q : QRS w b n len M S) (m : Gr w w') : QRS w' b n len M S := q.mdh (m.mdh (fun _ => False)) (fun _ _ h => h)

theorem QRS.set {w : World} {b n len : Nat} {M : Nat → Option UInt8} {S : Nat → Prop} (q : QRS w b n len M S) {p : Addr} (hp : ¬ S p.block) (v : Value) : QRS (w.setCell p v) b n len M S :=
  q.mdh ((Mdh.refl (fun k => k = p.block) w).setCell rfl v) (fun k hk e => hp (e ▸ hk))

/-- What all cases tell: the struct, and the place of each id. -/
theorem QRS.open {w : World} {b n len : Nat} {M : Nat → Option UInt8} {S : Nat → Prop} (q : QRS w b n len M S) : ∃ hv pl, QB w 103 b n hv pl ∧ (∀ m, m < 1024 → (pl m = 0 ↔ M m = none)) ∧ ∃ a cap, hv = .slice a len cap := by
  obtain ⟨h1, h2, h3, ⟨rfl, ⟨pl, q, h4⟩, h5, rfl⟩ | ⟨cap, g, pl, h, k, h4, rfl⟩⟩ := q
  · exact ⟨_, pl, q, fun m hm => by simp [h4 m hm, h5 m], none, 0, rfl⟩
  · refine ⟨_, pl, k.c.q, fun m hm => ?_, some ⟨g, 0, none⟩, cap, rfl⟩
    rw [h4 m hm]
    unfold Mo
    split <;> simp_all

theorem Try.infoEntS : (Try.prog.info? 106).map (fun i => (i.zero, i.size, i.bytes)) = some (some (.agg #[.int .i64 0, .string ⟨#[]⟩]), 2, 24) := by kernel_rfl

set_option maxRecDepth 40000 in
set_option maxHeartbeats 1000000 in
theorem Push_badS (b n len : Nat) (M : Nat → Option UInt8) (S : Nat → Prop) (id : Int) (v : Value) (w : World) (q : QRS w b n len M S) (h : id < 0 ∨ (n : Int) ≤ id) :
    Calls Try.prog 14 #[.pointer (some ⟨b, 0, none⟩), .int .i64 id, v] w fun e w' => e = .returned (.int .i64 3) ∧ w = w' := by
  obtain ⟨hv, pl, qb, _⟩ := q.open
  have hn := q.1
  have hc : chkQ n id = 3 := by unfold chkQ; rw [if_neg (by omega), if_pos h]
  go_enter Try.func14, Try.ntmps14
  go_wp2_with (go_at_call 57; refine (checkS _ _ _ _ _ _ qb).mono ?_; rintro e w1 ⟨rfl, rfl⟩)
  go_ret
  exact ⟨rfl, rfl⟩

set_option maxRecDepth 40000 in
set_option maxHeartbeats 1000000 in
theorem Push_haveS (b n len : Nat) (M : Nat → Option UInt8) (S : Nat → Prop) (id : Nat) (v : Value) (w : World) (q : QRS w b n len M S) (h : id < n) (h' : M id ≠ none) :
    Calls Try.prog 14 #[.pointer (some ⟨b, 0, none⟩), .int .i64 id, v] w fun e w' => e = .returned (.int .i64 6) ∧ w = w' := by
  obtain ⟨hv, pl, qb, hM, _⟩ := q.open
  have hn := q.1
  have hn2 := q.2.1
  have hc : chkQ n id = 0 := by unfold chkQ; rw [if_neg (by omega), if_neg (by omega)]
  have hp := qb.cp id (by omega)
  have hpl : 0 < pl id := Nat.pos_of_ne_zero fun e => h' ((hM id (by omega)).1 e)
  have hidb : (id : Int) < 1024 := by omega
  go_enter Try.func14, Try.ntmps14
  go_wp2_with (go_at_call 57; refine (checkS _ _ _ _ _ _ qb).mono ?_; rintro e w1 ⟨rfl, rfl⟩)
  go_ret
  exact ⟨rfl, rfl⟩

theorem one2S (id : Nat) (p : UInt8) : ∀ u ∈ [Value.int .i64 id, .string ⟨#[p]⟩], u.oneCell' = true := by
  intro u hu
  simp only [List.mem_cons, List.not_mem_nil, or_false] at hu
  rcases hu with rfl | rfl <;> rfl
set_option maxRecDepth 40000 in
set_option maxHeartbeats 2000000 in
theorem Push_okS (b n len : Nat) (M : Nat → Option UInt8) (S : Nat → Prop) (id : Nat) (p : UInt8) (w : World) (q : QRS w b n len M S) (hid : id < n) (h' : M id = none) :
    Calls Try.prog 14 #[.pointer (some ⟨b, 0, none⟩), .int .i64 id, .string ⟨#[p]⟩] w fun e w' => e = .returned (.int .i64 0) ∧ ∃ S', QRS w' b n (len + 1) (upd M id (some p)) S' ∧ Mdh S w w' ∧ ∀ k, S' k → S k ∨ w.heap.size ≤ k := by
  obtain ⟨i0, hi, hz0, hz1, hz2⟩ := info_parts Try.infoEntS
  -- the two shapes in one
  obtain ⟨hv, pl, h, qb, hown, P, K, hM, hne, hS⟩ : ∃ hv pl h, QB w 103 b n hv pl ∧ Own w 106 2 hv len (rowL encS h len) ∧ PI n len h pl ∧ HeapOK ltS len h ∧ (∀ m, m < 1024 → M m = Mo h pl m) ∧ hv.ownBlock ≠ some b ∧ (∀ k, k = b ∨ hv.ownBlock = some k → S k) := by
    obtain ⟨h1, h2, h3, ⟨rfl, ⟨pl, q, h4⟩, h5, rfl⟩ | ⟨cap, g, pl, h, k, h4, rfl⟩⟩ := q
    · refine ⟨_, pl, fun _ => (0, p), q, ⟨rfl, .inl ⟨rfl, rfl⟩⟩, ⟨h2, fun j hj => by omega, fun j hj => by omega, fun i hi hp => absurd (h4 i hi) hp⟩, fun j _ hj => by omega, fun m hm => by rw [h5]; simp [Mo, h4 m hm], by simp [Value.ownBlock], fun k hk => ?_⟩
      rcases hk with hk | hk
      · exact hk
      · cases hk
    · refine ⟨_, pl, h, k.c.q, k.c.r.own, k.p, k.k, h4, by simp [Value.ownBlock]; exact fun e => k.c.ne e.symm, fun x hx => ?_⟩
      rcases hx with hx | hx
      · exact .inl hx
      · exact .inr (by simpa [Value.ownBlock] using hx.symm)
  have hn := q.1
  have hn2 := q.2.1
  have h3 := q.2.2.1
  have hc : chkQ n id = 0 := by unfold chkQ; rw [if_neg (by omega), if_neg (by omega)]
  have hp := qb.cp id (by omega)
  have hpl : pl id = 0 := by
    have := hM id (by omega)
    rw [h'] at this
    unfold Mo at this
    split at this
    · assumption
    · cases this
  rw [hpl] at hp
  have hidb : (id : Int) < 1024 := by omega
  have hfew := P.few
  have q1 := qb.c1
  have HQ := Lib.hid qb
  have HO := Lib.hid hown
  have HPI := Lib.hid P
  have HK := Lib.hid K
  have HM := Lib.hid hM
  have HPL := Lib.hid hpl
  have HS := Lib.hid hS
  have HNE := Lib.hid hne
  have H3 := Lib.hid h3
  have HH := Lib.hid h'
  have hbl := qb.lt
  have hbf := qb.fr
  clear qb hown P K hM hpl hS hne q h3 h'
  go_enter Try.func14, Try.ntmps14
  go_upto_region 7 with (first
    | (go_at_call 57; refine (checkS _ _ _ _ _ _ HQ.out).mono ?_; rintro e w1 ⟨rfl, rfl⟩)
    | (at_builtin; refine wpList_app _ rfl (.tmp 25) (.tmp 29) 101 rfl 106 i0 _ 2 24 Try.underlying101 hi hz0 hz1 hz2 rfl (by decide) hv len (rowL encS h len) rfl (HO.out.gr (by (repeat (first | (with_reducible exact Gr.refl _) | assumption | (with_reducible apply Gr.from_drew) | (with_reducible apply Gr.alloc) | (with_reducible apply Gr.drew) | (with_reducible refine Gr.trans ?_ (by assumption)) | (with_reducible refine Gr.setCell ?_ (by omega) _))))) ⟨w.heap.size, 0, none⟩ 1 1 [.int .i64 id, .string ⟨#[p]⟩] rfl rfl (news2 _ _ _ _) (one2S _ _) (by decide) (by simp only [maxLen]; omega) (by omega) ?_; intro g cap w2 hown2 hwh hgrow; have Q2 := Lib.hid ((HQ.out.gr (Gr.alloc (Gr.refl _) (.cells #[.int .i64 id, .string ⟨#[p]⟩] 106))).grown hgrow (fun e => HNE.out e.symm)); have q21 := Q2.out.c1; have q2p := Q2.out.cp id (by omega); have q2f := Q2.out.fr; rw [HPL.out] at q2p; have HO2 := Lib.hid hown2; have HW := Lib.hid hwh; have HG2 := Lib.hid hgrow; clear hown2 hwh hgrow)
    | fail)
  have hbl2 := Q2.out.lt
  have HBG : Hid (b ≠ g) := Lib.hid (fun e => by
    subst e
    rcases HW.out with e | e
    · exact HNE.out e
    · simp at e; omega)
  go_cut [] (fun wx => QCS wx b n (len + 1) cap g (upd pl id (len + 1)) (upd h len (id, p)) ∧ Mdh S w wx)
  case first =>
    have HRG := Lib.hid (RG.ofOwn (enc := encS) (h := upd h len (id, p)) (by rw [rowL_push]; exact HO2.out))
    have HM2 : Hid (Mdh S w w2) := Lib.hid (((Mdh.refl S w).alloc _).grown HG2.out (fun r hr => HS.out r (.inr hr)))
    have hSb : S b := HS.out b (.inl rfl)
    go_region
    all_goals
      go_wp2
      go_meet
      exact ⟨⟨((Q2.out.setHv _).setPl' (by omega) (len + 1) (by omega)).gr (Gr.drew (Gr.refl _)), ((HRG.out.other (fun e => HBG.out e.symm) _).other (fun e => HBG.out e.symm) _).gr (Gr.drew (Gr.refl _)), HBG.out⟩, ((HM2.out.setCell hSb _).setCell hSb _).drew⟩
  case rest =>
    obtain ⟨hqc, hm⟩ := hcut
    have HC := Lib.hid hqc
    have P2 := HPI.out.push hid HPL.out p
    have HP2 := Lib.hid P2
    have U2 : Up ltS (len + 1) (upd h len (id, p)) len := by
      refine ⟨fun j j0 jl n1 n2 => ?_, fun j j0 jl e => ?_⟩
      · have := par_lt j0
        rw [upd_ne _ _ _ n1, upd_ne _ _ _ n2]
        exact HK.out j j0 (by omega)
      · have := par_lt j0; omega
    have HU2 := Lib.hid U2
    have hq1 := hqc.q.c1
    have el : ((len : Int) + 1 - 1) = len := by omega
    clear hqc P2 U2 q21 q2p q2f q1 hp hbf
    go_wp2_with fail
    refine (settleS b n (len + 1) cap g _ _ len _ HC.out HP2.out HU2.out (by omega)).mono ?_
    rintro e w3 ⟨⟨v, rfl⟩, pl', h', hqk, hmo, hm3⟩
    go_wp2
    go_ret
    have hsub : ∀ k, QS b g k → S k ∨ w.heap.size ≤ k := fun k hk => by
      rcases hk with rfl | rfl
      · exact .inl (HS.out _ (.inl rfl))
      · rcases HW.out with e | e
        · exact .inl (HS.out _ (.inr e))
        · exact .inr (by simp at e; omega)
    refine ⟨rfl, QS b g, ⟨hn, hn2, fun m hm' => ?_, .inr ⟨cap, g, pl', h', hqk, fun m hm' => ?_, rfl⟩⟩, ?_, hsub⟩
    · rw [upd_ne _ _ _ (by omega)]; exact H3.out m hm'
    · rw [hmo m hm', HPI.out.mo_push p m hm']
      unfold upd
      split
      · rfl
      · exact HM.out m hm'
    · exact hm.then hm3 hsub
end Go.Proofs.Ythialloenkbpnaa
