/- A deed between two ends. -/
import Derived.Test.YtnmbblkfaoihfaaZLY27
import Derived.Test.YtnmbblkfaoihfaaZLY29
namespace Go.Proofs.Ytnmbblkfaoihfaa
open Go.RowKit

/-- Which end. -/
def aOf (A : Int) : Bool := !decide (A.tmod 2 = 0)
def doY (p : Play) (k A n : Int) : Play :=
  if k = 1 then sendY p (aOf A) n else if k = 2 then ticksY p else if k = 3 ∨ k = 4 ∨ k = 5 then comeY p (aOf A) n (k == 5) (k == 4) else p
theorem GoodY.do_ {p : Play} (h : GoodY p) {m : Nat} (hf : FewY p m) (hm : m < 1000000) (k A n : Int) : GoodY (doY p k A n) ∧ FewY (doY p k A n) (m + 1) := by
  have few : ∀ {q : Play}, FewY q m → FewY q (m + 1) := fun hq => ⟨fun a => Nat.le_succ_of_le (hq.sent a), by have := hq.now; omega⟩
  unfold doY
  split
  · exact h.send hf hm _ n
  · split
    · exact h.ticks hf hm
    · split
      · obtain ⟨h1, h2⟩ := h.come hf (by omega) (aOf A) n (k == 5) (k == 4)
        exact ⟨h1, few h2⟩
      · exact ⟨h, few hf⟩
theorem upB_self {α : Type} (f : Bool → α) (a : Bool) : upB f a (f a) = f := by funext b; cases a <;> cases b <;> simp [upB]
theorem aOf_tmod (A : Int) : (A.tmod 2 < 0 → -(A.tmod 2) = if aOf A then 1 else 0) ∧ (0 ≤ A.tmod 2 → A.tmod 2 = if aOf A then 1 else 0) ∧ -2 < A.tmod 2 ∧ A.tmod 2 < 2 := by
  have h1 : (A.tmod 2).natAbs = A.natAbs % 2 := by rw [Int.natAbs_tmod]; simp
  have h : A.tmod 2 = 0 ∨ A.tmod 2 = 1 ∨ A.tmod 2 = -1 := by omega
  unfold aOf
  rcases h with h | h | h <;> simp [h]
theorem GoodY.okE {p : Play} (h : GoodY p) {m : Nat} (hf : FewY p m) (hm : m < 1000000) (a : Bool) : OkE (p.e a) :=
  ⟨h.len a, fun x hx => by have h1 := h.tries a x hx; have := hf.now; refine ⟨h1.1, ?_, h1.2.2⟩; omega⟩
theorem GoodY.came_le {p : Play} (h : GoodY p) {m : Nat} (hf : FewY p m) (a : Bool) : (p.came a).length ≤ m := by
  obtain ⟨r, hr⟩ := h.right.came a
  have := hf.sent (!a)
  rw [hr] at this
  simp at this
  omega
theorem IsY.sendE {w W : World} {y : Nat} {pe : Bool → Nat} {P : Play} {vs vc vw : Bool → Value} {zs : Bool → List (LPk × Value)} (h : IsY w y pe P vs vc vw zs W) (a : Bool) (bs : List Nat) (A : Option Addr) (c : Nat) (hb : ByO W (.slice A bs.length c) bs) (hs : 0 ≤ (P.e a).sent ∧ (P.e a).sent < 9223372036854775807) (hn : -9223372036854775808 ≤ P.now ∧ P.now ≤ 9223372036854775807) :
    Calls Try.prog 19 #[.pointer (some ⟨pe a, 0, none⟩), .slice A bs.length c, .int .i64 P.now] W fun e W' => ∃ v, e = .returned v ∧ (∃ v1, v = .tuple #[v1, .int .i64 (sendE (P.e a) bs)] ∧ IsP W' v1 (sendP (P.e a) bs)) ∧ IsY w y pe { P with e := upB P.e a (sendS (P.e a) bs P.now) } vs vc vw zs W' ∧ Keeps W W' := by
  refine (h.callE ((h.ts a).send A c bs P.now hb hs hn)).mono fun e W' ⟨⟨v, he, h1⟩, hI, hk⟩ => ⟨_, he, ⟨v, rfl, h1⟩, hI, hk⟩
theorem wp_region_three {P : Program} {ops : Array Oper} {Q : Exit → Act → World → Prop} {id : Nat} {a : Act} {w : World} {α β γ : Type} {M : α → β → γ → World → Prop} {tm : α → β → γ → Act} (hm : P.follows .mixedOrders = true)
    (h : RegOK Fence.wide 9 P ops (fun x a w => x = .normal ∧ (∃ p q r, a = tm p q r ∧ M p q r w) ∨ x ≠ .normal ∧ Q x a w) a w.drew) (hk : ∀ p q r w, M p q r w → Q .normal (tm p q r) w) : (Code.region id ops true).wp P Q a w :=
  (wpIn_wide (n := 9)).1 (region_mid (fun a w => ∃ p q r, a = tm p q r ∧ M p q r w) hm h fun a w hx => by
    obtain ⟨p, q, r, rfl, hx⟩ := hx
    exact hk p q r w hx)
/-- What lies behind the region that calls Send. -/
def RD7 (w : World) (y : Nat) (pe : Bool → Nat) (P : Play) (vs vc vw : Bool → Value) (zs : Bool → List (LPk × Value)) (K : LPk) (gb : Nat) (b0 b1 : Nat) (Aq : Option Addr) (cq g6 : Nat) (W : World) : Prop :=
  IsY w y pe P vs vc vw zs W ∧ W.heap[gb]? = some (.cells #[.int .u8 b0, .int .u8 b1] 5 (0, 0)) ∧ W.heap[g6]? = some (.cells #[.int .i64 K.seq, .int .i64 K.ack, .slice Aq K.body.length cq] 43 (0, 0)) ∧ ByO W (.slice Aq K.body.length cq) K.body ∧ w.heap.size ≤ g6 ∧ NoRow P vs vc vw zs g6
theorem byo_two {W : World} {g b0 b1 : Nat} (h : W.heap[g]? = some (.cells #[.int .u8 b0, .int .u8 b1] 5 (0, 0))) (h0 : b0 < 256) (h1 : b1 < 256) : ByO W (.slice (some ⟨g, 0, none⟩) [b0, b1].length 2) [b0, b1] := by
  exact ⟨⟨by simp, .inr ⟨g, 2, _, (0, 0), rfl, h, by simp, by unfold maxLen; omega, by simp [u8v]⟩⟩, by simp [h0, h1]⟩

set_option maxRecDepth 100000 in
set_option maxHeartbeats 3000000 in
theorem send_false (w : World) (y : Nat) (pe : Bool → Nat) (P : Play) (k A n : Int) (W : World) (vs vc vw : Bool → Value) (zs : Bool → List (LPk × Value)) (hY : IsY w y pe P vs vc vw zs W) (hG : GoodY P) (m : Nat) (hF : FewY P m) (hm : m < 1000000) (hA : aOf A = false) (hk : k = 1) :
    Calls Try.prog 13 #[.pointer (some ⟨y, 0, none⟩), .agg #[.int .i64 k, .int .i64 A, .int .i64 n]] W fun e W' => e = .returned (.tuple #[]) ∧ ∃ vs' vc' vw' zs', IsY w y pe (sendY P false n) vs' vc' vw' zs' W' := by
  subst hk
  obtain ⟨i2, hi2, hs0, hs1, hs2⟩ := info_parts Try.infoString
  obtain ⟨t1, t2, t3, t4⟩ := aOf_tmod A
  have HT1 := Lib.hid t1
  have HT2 := Lib.hid t2
  rw [hA] at HT1 HT2
  obtain ⟨q, hq⟩ : ∃ q, A.tmod 2 = q := ⟨_, rfl⟩
  rw [hq] at t3 t4 HT1 HT2
  have HY := Lib.hid hY
  have HG := Lib.hid hG
  have HF := Lib.hid hF
  have HA := Lib.hid hA
  clear hY hG hF hA t1 t2
  have hbA := (Below.refl _ W).alloc (Nat.le_refl _) (.cells #[.int .i64 1, .int .i64 A, .int .i64 n] 28)
  have HY0 := Lib.hid (HY.out.below hbA)
  have hq0 := block_new W (.cells #[.int .i64 1, .int .i64 A, .int .i64 n] 28)
  obtain ⟨W0, hW0⟩ : ∃ W0, W.alloc (.cells #[.int .i64 1, .int .i64 A, .int .i64 n] 28) = W0 := ⟨_, rfl⟩
  obtain ⟨b, hbn⟩ : ∃ b, W.heap.size = b := ⟨_, rfl⟩
  have HWB : Hid (w.heap.size ≤ b ∧ y < b) := Lib.hid (by rw [← hbn]; exact ⟨Nat.le_trans HY.out.low (Nat.le_of_lt (lt_of_block HY.out.b)), lt_of_block HY.out.b⟩)
  rw [hW0] at HY0 hq0
  rw [hbn] at hq0
  have HPK := Lib.hid hq0
  have HW0 := Lib.hid hW0
  have HBN := Lib.hid hbn
  clear hbA hq0 hW0 hbn HY
  go_enter Try.func13, Try.ntmps13
  go_upto_if 12 with fail
  clear hq
  rw [HW0.out, HBN.out]
  have d0 := cell_at HPK.out 0
  have d1 := cell_at HPK.out 1
  have d2 := cell_at HPK.out 2
  have hb0 := HY0.out.b
  have HB0 := Lib.hid hb0
  clear hb0
  go_cut [4] (fun s4 wx => s4 = .int .i64 0 ∧ W0 = wx)
  case first =>
    by_cases hq0 : q < 0
    · have e1 : -q = 0 := by have := HT1.out hq0; simpa using this
      have E1 := Lib.hid e1
      clear e1
      go_wp2_with fail
      go_meet
      exact ⟨by rw [E1.out], rfl⟩
    · have e1 : q = 0 := by have := HT2.out (by omega); simpa using this
      have E1 := Lib.hid e1
      clear e1
      go_wp2_with fail
      go_meet
      exact ⟨by rw [E1.out], rfl⟩
  case rest =>
  obtain ⟨rfl, rfl⟩ := hcut
  clear HT1 HT2 t3 t4 HW0 HBN
  have h2 : (2 : Int) = 2 := rfl
  obtain ⟨Av, cv, hv, kv1, kv2⟩ : ∃ A c, vs false = .slice A (P.sent false).length c ∧ (P.sent false).length ≤ c ∧ c ≤ maxLen := by
    have ho := HY0.out.rows.1 ⟨9, 1, vs false, (P.sent false).length, (P.sent false).map strY⟩ (by simp [rowsY])
    obtain ⟨A, c, e, h1, h2, _⟩ := own_slice ho
    exact ⟨A, c, e, h1, h2⟩
  have HV := Lib.hid hv
  obtain ⟨N, hN⟩ : ∃ N, (P.sent false).length = N := ⟨_, rfl⟩
  have hN9 : N ≤ 1000000 := by have := HF.out.sent false; omega
  have HN := Lib.hid hN
  have x2 := cell_at HB0.out 2
  rw [show (#[.pointer (some ⟨pe false, 0, none⟩), .pointer (some ⟨pe true, 0, none⟩), vs false, vs true, vc false, vc true, vw false, vw true, .int .i64 P.now] : Array Value)[2]? = some (vs false) from rfl, HV.out, HN.out] at x2
  obtain ⟨b0, hb0⟩ : ∃ b0 : Nat, (n % 256).toNat = b0 := ⟨_, rfl⟩
  obtain ⟨b1, hb1⟩ : ∃ b1 : Nat, N % 256 = b1 := ⟨_, rfl⟩
  have hbb0 : b0 < 256 := by omega
  have hbb1 : b1 < 256 := by omega
  have HU0 : Hid (IntKind.u8.wrap n = (b0 : Int)) := Lib.hid (by rw [IntKind.wrap_u8]; omega)
  have HU1 : Hid (IntKind.u8.wrap (N : Int) = (b1 : Int)) := Lib.hid (by rw [IntKind.wrap_u8]; omega)
  have HBO : Hid (bodyY P false n = [b0, b1]) := Lib.hid (by unfold bodyY; rw [HN.out, hb0, hb1])
  clear hv hN hb0 hb1 h2
  go_wp2_with fail
  refine wp_region_flow2 (fun W => Below W0.heap.size W0 W) (fun W => True) [0, 1, 2, 3, 4, 5, 6, 7, 8, 9, 10, 11, 12] (by kernel_rfl) (by kernel_rfl) (by kernel_rfl) ((Below.refl _ W0).drew) (trivial) ?_
  refine flow_val ?_ rfl (by kernel_rfl) (by rfl) (fun W hW => ?_) ?_
  rotate_left 1
  · go_simp <;> with_reducible rfl
  simp only [Act.put, List.setIfInBounds_toArray, List.set_cons_succ, List.set_cons_zero]
  refine flow_val ?_ rfl (by kernel_rfl) (by rfl) (fun W hW => ?_) ?_
  rotate_left 1
  · have c1 : W.cell? ⟨b, 2, none⟩ = some (.int .i64 n) := cell_at ((hW.block b (lt_of_block HPK.out)).trans HPK.out) 2; go_simp <;> with_reducible rfl
  simp only [Act.put, List.setIfInBounds_toArray, List.set_cons_succ, List.set_cons_zero]
  refine flow_val ?_ rfl (by kernel_rfl) (by rfl) (fun W hW => ?_) ?_
  rotate_left 1
  · go_simp; rw [HU0.out]
  simp only [Act.put, List.setIfInBounds_toArray, List.set_cons_succ, List.set_cons_zero]
  refine flow_val ?_ rfl (by kernel_rfl) (by rfl) (fun W hW => ?_) ?_
  rotate_left 1
  · go_simp <;> with_reducible rfl
  simp only [Act.put, List.setIfInBounds_toArray, List.set_cons_succ, List.set_cons_zero]
  refine flow_val ?_ rfl (by kernel_rfl) (by rfl) (fun W hW => ?_) ?_
  rotate_left 1
  · go_simp <;> with_reducible rfl
  simp only [Act.put, List.setIfInBounds_toArray, List.set_cons_succ, List.set_cons_zero]
  refine flow_val ?_ rfl (by kernel_rfl) (by rfl) (fun W hW => ?_) ?_
  rotate_left 1
  · go_simp <;> with_reducible rfl
  simp only [Act.put, List.setIfInBounds_toArray, List.set_cons_succ, List.set_cons_zero]
  refine flow_val ?_ rfl (by kernel_rfl) (by rfl) (fun W hW => ?_) ?_
  rotate_left 1
  · go_simp <;> with_reducible rfl
  simp only [Act.put, List.setIfInBounds_toArray, List.set_cons_succ, List.set_cons_zero]
  refine flow_val ?_ rfl (by kernel_rfl) (by rfl) (fun W hW => ?_) ?_
  rotate_left 1
  · go_simp <;> with_reducible rfl
  simp only [Act.put, List.setIfInBounds_toArray, List.set_cons_succ, List.set_cons_zero]
  refine flow_val ?_ rfl (by kernel_rfl) (by rfl) (fun W hW => ?_) ?_
  rotate_left 1
  · have c1 : W.cell? ⟨y, 2, none⟩ = some (.slice Av N cv) := by rw [← x2]; simp only [World.cell?, hW.block y (lt_of_block HB0.out)]
    go_simp <;> with_reducible rfl
  simp only [Act.put, List.setIfInBounds_toArray, List.set_cons_succ, List.set_cons_zero]
  refine flow_val ?_ rfl (by kernel_rfl) (by rfl) (fun W hW => ?_) ?_
  rotate_left 1
  · go_simp <;> with_reducible rfl
  simp only [Act.put, List.setIfInBounds_toArray, List.set_cons_succ, List.set_cons_zero]
  refine flow_val ?_ rfl (by kernel_rfl) (by rfl) (fun W hW => ?_) ?_
  rotate_left 1
  · go_simp; rw [HU1.out]
  simp only [Act.put, List.setIfInBounds_toArray, List.set_cons_succ, List.set_cons_zero]
  refine flow_gmake (fun v W => ∃ g', v = .slice (some ⟨g', 0, none⟩) 2 2 ∧ W.heap[g']? = some (.cells #[.int .u8 b0, .int .u8 b1] 5 (0, 0)) ∧ W0.heap.size ≤ g') rfl (by kernel_rfl) (by rfl) (by kernel_rfl) (fun W hW hC => ?_) ?_
  · have hb : Below W.heap.size W (W.alloc (.cells #[.int .u8 b0, .int .u8 b1] 5)) := (Below.refl _ W).alloc (Nat.le_refl _) _
    exact ⟨_, _, by go_simp <;> with_reducible rfl, hW.trans (hb.mono hW.size), ⟨_, rfl, block_new _ _, hW.size⟩⟩
  rintro v30 ⟨_, _, gb, rfl, _⟩
  simp only [Act.put, List.setIfInBounds_toArray, List.set_cons_succ, List.set_cons_zero]
  refine flow_val ?_ rfl (by kernel_rfl) (by rfl) (fun W hW => ?_) ?_
  rotate_left 1
  · go_simp <;> with_reducible rfl
  simp only [Act.put, List.setIfInBounds_toArray, List.set_cons_succ, List.set_cons_zero]
  refine flow_done2 ?_
  rintro W1 hW1 ⟨g', e1, hg', hg0⟩
  injection e1 with e1
  injection e1 with e1
  injection e1 with e1 _ _
  subst e1
  have HGB := Lib.hid hg'
  have hbW : Below W0.heap.size W0 W1 := hW1.1
  have HY1 := Lib.hid (HY0.out.below hbW)
  have HP1 := Lib.hid ((hbW.block b (lt_of_block HPK.out)).trans HPK.out)
  have hb1 := HY1.out.b
  have HB1 := Lib.hid hb1
  clear hW1 hg' hbW hb1 HB0 HPK HY0 d0 d1 d2 x2 HU0 HU1 hg0
  obtain ⟨K, hK⟩ : ∃ K, sendP (P.e false) [b0, b1] = K := ⟨_, rfl⟩
  obtain ⟨E, hE⟩ : ∃ E, sendE (P.e false) [b0, b1] = E := ⟨_, rfl⟩
  obtain ⟨P2, hP2⟩ : ∃ P2 : Play, { P with e := upB P.e false (sendS (P.e false) [b0, b1] P.now) } = P2 := ⟨_, rfl⟩
  obtain ⟨nw, hnw⟩ : ∃ nw, P.now = nw := ⟨_, rfl⟩
  have HNW := Lib.hid hnw
  have HSC : Hid (∀ W, IsY w y pe P vs vc vw zs W → W.heap[gb]? = some (.cells #[.int .u8 b0, .int .u8 b1] 5 (0, 0)) → Calls Try.prog 19 #[.pointer (some ⟨pe false, 0, none⟩), .slice (some ⟨gb, 0, none⟩) 2 2, .int .i64 nw] W fun e W' => ∃ v, e = .returned v ∧ (∃ v1, v = .tuple #[v1, .int .i64 E] ∧ IsP W' v1 K) ∧ IsY w y pe P2 vs vc vw zs W' ∧ Keeps W W') := Lib.hid (fun W h hb => by
    subst hK; subst hE; subst hP2; subst hnw
    have h1 := HG.out.right.sent false
    have h2 := HF.out.sent false
    have h3 := HF.out.now
    have h4 := HG.out.now
    exact h.sendE false [b0, b1] (some ⟨gb, 0, none⟩) 2 (byo_two hb hbb0 hbb1) (by omega) (by omega))
  have HYK : Hid (∀ W W', IsY w y pe P vs vc vw zs W → IsY w y pe P2 vs vc vw zs W' → W'.heap[y]? = W.heap[y]?) := Lib.hid (fun W W' h h' => by
    subst hP2
    exact isy_keep h h')
  have HNR : Hid (∀ g, NoRow P vs vc vw zs g → NoRow P2 vs vc vw zs g) := Lib.hid (by
    subst hP2
    exact fun g h => h)
  have HON : Hid (sendY P false n = if E = 0 then putY { P2 with sent := upB P2.sent false (P2.sent false ++ [[b0, b1]]) } true K else P) := Lib.hid (by
    subst hK; subst hE; subst hP2
    unfold sendY
    rw [HBO.out]
    rfl)
  have HNE : Hid (E ≠ 0 → P2 = P) := Lib.hid (fun h => by
    subst hK; subst hE; subst hP2
    unfold sendS
    rw [if_neg h, upB_self])
  have HCM2 : Hid ((P2.sent false).length ≤ 1000000) := Lib.hid (by subst hP2; show (P.sent false).length ≤ _; have := HN.out; omega)
  have HWT2 : Hid ((P2.way true).length ≤ 400) := Lib.hid (by subst hP2; exact HG.out.way true)
  clear hK hE hP2 hnw
  go_wp2_with fail
  apply wp_region_three (M := RD7 w y pe P2 vs vc vw zs K gb b0 b1) (hm := by kernel_rfl)
  case h =>
    refine ok_split 15 11 (by decide) ?_ ?_
    · simp only [addAfter, addL]
      refine ok_flow (fun W => W.heap[y]? = W1.heap[y]? ∧ W.heap[gb]? = W1.heap[gb]?) (fun W => IsY w y pe P vs vc vw zs W) [0, 1, 2, 3, 4, 5, 6, 7, 8, 9, 10, 11, 12, 13, 14, 15, 16, 17] (fun _ => trivial) rfl (fun _ _ _ _ _ h => callsIn_wide.2 h) (by kernel_rfl) (by kernel_rfl) (⟨rfl, rfl⟩) (HY1.out.below (Below.refl _ W1).drew) ?_
      refine flow_val ?_ rfl (by kernel_rfl) (by rfl) (fun W hW => ?_) ?_
      rotate_left 1
      · go_simp <;> with_reducible rfl
      simp only [Act.put, List.setIfInBounds_toArray, List.set_cons_succ, List.set_cons_zero]
      refine flow_val ?_ rfl (by kernel_rfl) (by rfl) (fun W hW => ?_) ?_
      rotate_left 1
      · go_simp <;> with_reducible rfl
      simp only [Act.put, List.setIfInBounds_toArray, List.set_cons_succ, List.set_cons_zero]
      refine flow_val ?_ rfl (by kernel_rfl) (by rfl) (fun W hW => ?_) ?_
      rotate_left 1
      · go_simp <;> with_reducible rfl
      simp only [Act.put, List.setIfInBounds_toArray, List.set_cons_succ, List.set_cons_zero]
      refine flow_val ?_ rfl (by kernel_rfl) (by rfl) (fun W hW => ?_) ?_
      rotate_left 1
      · go_simp <;> with_reducible rfl
      simp only [Act.put, List.setIfInBounds_toArray, List.set_cons_succ, List.set_cons_zero]
      refine flow_val ?_ rfl (by kernel_rfl) (by rfl) (fun W hW => ?_) ?_
      rotate_left 1
      · go_simp <;> with_reducible rfl
      simp only [Act.put, List.setIfInBounds_toArray, List.set_cons_succ, List.set_cons_zero]
      refine flow_val ?_ rfl (by kernel_rfl) (by rfl) (fun W hW => ?_) ?_
      rotate_left 1
      · have c1 : W.cell? ⟨y, 0, none⟩ = some (.pointer (some ⟨pe false, 0, none⟩)) := cell_at (hW.1.trans HB1.out) 0; go_simp <;> with_reducible rfl
      simp only [Act.put, List.setIfInBounds_toArray, List.set_cons_succ, List.set_cons_zero]
      refine flow_val ?_ rfl (by kernel_rfl) (by rfl) (fun W hW => ?_) ?_
      rotate_left 1
      · go_simp <;> with_reducible rfl
      simp only [Act.put, List.setIfInBounds_toArray, List.set_cons_succ, List.set_cons_zero]
      refine flow_val ?_ rfl (by kernel_rfl) (by rfl) (fun W hW => ?_) ?_
      rotate_left 1
      · go_simp <;> with_reducible rfl
      simp only [Act.put, List.setIfInBounds_toArray, List.set_cons_succ, List.set_cons_zero]
      refine flow_val ?_ rfl (by kernel_rfl) (by rfl) (fun W hW => ?_) ?_
      rotate_left 1
      · go_simp <;> with_reducible rfl
      simp only [Act.put, List.setIfInBounds_toArray, List.set_cons_succ, List.set_cons_zero]
      refine flow_val ?_ rfl (by kernel_rfl) (by rfl) (fun W hW => ?_) ?_
      rotate_left 1
      · go_simp <;> with_reducible rfl
      simp only [Act.put, List.setIfInBounds_toArray, List.set_cons_succ, List.set_cons_zero]
      refine flow_val ?_ rfl (by kernel_rfl) (by rfl) (fun W hW => ?_) ?_
      rotate_left 1
      · have c1 : W.cell? ⟨y, 8, none⟩ = some (.int .i64 nw) := (cell_at (hW.1.trans HB1.out) 8).trans (by rw [← HNW.out]; rfl); go_simp <;> with_reducible rfl
      simp only [Act.put, List.setIfInBounds_toArray, List.set_cons_succ, List.set_cons_zero]
      refine flow_gcall (fun v W => ∃ v1, v = .tuple #[v1, .int .i64 E] ∧ IsP W v1 K ∧ IsY w y pe P2 vs vc vw zs W) rfl (by kernel_rfl) (by rfl) (by kernel_rfl) (fun W hW hC => ?_) ?_
      · have hC1 := hC
        have hWW := hW
        refine ⟨_, _, _, by go_simp, (HSC.out W hC1 (hWW.2.trans HGB.out)).mono fun e w1 ⟨v, he, ⟨v1, h4, h6⟩, hy, hk⟩ => ⟨v, he, ⟨(HYK.out _ _ hC1 hy).trans hWW.1, (hk.2 _ _ _ _ (hWW.2.trans HGB.out) (by decide) (by decide)).trans HGB.out.symm⟩, v1, h4, h6, hy⟩⟩
      rintro v43 ⟨_, _, v1, rfl, ⟨bx, rfl, hbx⟩, _⟩
      simp only [Act.put, List.setIfInBounds_toArray, List.set_cons_succ, List.set_cons_zero]
      obtain ⟨Aq, cq, rfl, _, _, _, _⟩ := byo_slice hbx
      clear hbx
      refine flow_val ?_ rfl (by kernel_rfl) (by rfl) (fun W hW => ?_) ?_
      rotate_left 1
      · go_simp <;> with_reducible rfl
      simp only [Act.put, List.setIfInBounds_toArray, List.set_cons_succ, List.set_cons_zero]
      refine flow_val ?_ rfl (by kernel_rfl) (by rfl) (fun W hW => ?_) ?_
      rotate_left 1
      · go_simp <;> with_reducible rfl
      simp only [Act.put, List.setIfInBounds_toArray, List.set_cons_succ, List.set_cons_zero]
      refine flow_val ?_ rfl (by kernel_rfl) (by rfl) (fun W hW => ?_) ?_
      rotate_left 1
      · go_simp <;> with_reducible rfl
      simp only [Act.put, List.setIfInBounds_toArray, List.set_cons_succ, List.set_cons_zero]
      refine flow_gmake (fun v W => ∃ g6, v = .pointer (some ⟨g6, 0, none⟩) ∧ W.heap[g6]? = some (.cells #[.int .i64 0, .int .i64 0, .slice none 0 0] 43 (0, 0)) ∧ w.heap.size ≤ g6 ∧ ByO W (.slice Aq K.body.length cq) K.body ∧ IsY w y pe P2 vs vc vw zs W ∧ NoRow P2 vs vc vw zs g6) rfl (by kernel_rfl) (by rfl) (by kernel_rfl) (fun W hW hC => ?_) ?_
      · have hWW := hW.1
        have hbb : Below W.heap.size W (W.alloc (.cells #[.int .i64 0, .int .i64 0, .slice none 0 0] 43)) := (Below.refl _ W).alloc (Nat.le_refl _) _
        obtain ⟨v1, e1, ⟨bx, e2, h6⟩, hy⟩ := hC
        subst e2
        simp at e1
        subst e1
        exact ⟨_, _, by go_simp <;> with_reducible rfl, ⟨⟨(hbb.block _ (lt_of_block (hWW.1.trans HB1.out))).trans hWW.1, (hbb.block _ (lt_of_block (hWW.2.trans HGB.out))).trans hWW.2⟩, trivial⟩, ⟨_, rfl, block_new _ _, hy.two.bel.size, h6.below hbb, hy.below hbb, hy.norow_new (Nat.le_refl _)⟩⟩
      rintro v6 ⟨_, _, g6, rfl, _⟩
      simp only [Act.put, List.setIfInBounds_toArray, List.set_cons_succ, List.set_cons_zero]
      refine flow_store (fun W => RD7 w y pe P2 vs vc vw zs K gb b0 b1 Aq cq g6 W) rfl (by kernel_rfl) (by rfl) (by kernel_rfl) (fun W hW hC => ?_) ?_
      · obtain ⟨g2, e2, h14, hg14, h6, hy, hnr⟩ := hC
        injection e2 with e2
        injection e2 with e2
        injection e2 with e2 _ _
        subst e2
        have hgb := hW.1.1.2.trans HGB.out
        have q0 := cell_at h14 0
        have q1 := cell_at h14 1
        have q2 := cell_at h14 2
        have z0 := frozen_at h14 0
        have z1 := frozen_at h14 1
        have z2 := frozen_at h14 2
        have H8 := Lib.hid h14
        have H6 := Lib.hid h6
        have HYY := Lib.hid hy
        have HNR2 := Lib.hid hnr
        have HG14 := Lib.hid hg14
        have HGB2 := Lib.hid hgb
        have HS1 := Lib.hid hW.1.1.1
        have HS2 := Lib.hid hW.1.1.2
        clear h14 h6 hy hnr hW hg14 hgb
        refine ⟨_, by go_simp <;> with_reducible rfl, ?_⟩
        obtain ⟨W5, hW5, _, _, _, f5, _⟩ := pkt_store H8.out (.int .i64 K.seq) (.int .i64 K.ack) (.slice Aq K.body.length cq)
        have hne : g6 ≠ y := block_ne H8.out HYY.out.b (by decide)
        have hng : g6 ≠ gb := (block_ne HGB2.out H8.out (by decide)).symm
        refine ⟨⟨⟨⟨?_, ?_⟩, trivial⟩, trivial⟩, ?_, ?_, ?_, ?_, HG14.out, HNR2.out⟩
        · rw [hW5]; exact (f5.block y (lt_of_block HYY.out.b) (.inr ⟨fun _ _ _ _ => by simp, by simp; exact hne.symm⟩)).trans HS1.out
        · rw [hW5]; exact (f5.block gb (lt_of_block HGB2.out) (.inr ⟨fun _ _ _ _ => by simp, by simp; exact hng.symm⟩)).trans HS2.out
        · rw [hW5]; exact HYY.out.farP f5 H8.out HG14.out HNR2.out
        · rw [hW5]; exact f5.keep HGB2.out (by simp) (by simp; exact block_ne HGB2.out H8.out (by decide))
        · simpa using block_set (block_set (block_set H8.out 0 (.int .i64 K.seq)) 1 (.int .i64 K.ack)) 2 (.slice Aq K.body.length cq)
        · rw [hW5]; exact H6.out.far f5 H8.out (by decide)
      simp only [Act.put]
      refine flow_val ?_ rfl (by kernel_rfl) (by rfl) (fun W hW => ?_) ?_
      rotate_left 1
      · go_simp <;> with_reducible rfl
      simp only [Act.put, List.setIfInBounds_toArray, List.set_cons_succ, List.set_cons_zero]
      refine flow_end ?_
      rintro W _ hR
      exact .inl ⟨by trivial, Aq, cq, g6, rfl, hR⟩
    · simp only [addAfter, addL]
      refine ok_flow (fun W => W.heap[y]? = W1.heap[y]? ∧ W.heap[gb]? = W1.heap[gb]?) (fun W => IsY w y pe P vs vc vw zs W) [0, 1, 2, 3, 4, 5, 6, 7, 8, 9, 10, 15, 11, 12, 13, 14, 16, 17] (fun _ => trivial) rfl (fun _ _ _ _ _ h => callsIn_wide.2 h) (by kernel_rfl) (by kernel_rfl) (⟨rfl, rfl⟩) (HY1.out.below (Below.refl _ W1).drew) ?_
      refine flow_val ?_ rfl (by kernel_rfl) (by rfl) (fun W hW => ?_) ?_
      rotate_left 1
      · go_simp <;> with_reducible rfl
      simp only [Act.put, List.setIfInBounds_toArray, List.set_cons_succ, List.set_cons_zero]
      refine flow_val ?_ rfl (by kernel_rfl) (by rfl) (fun W hW => ?_) ?_
      rotate_left 1
      · go_simp <;> with_reducible rfl
      simp only [Act.put, List.setIfInBounds_toArray, List.set_cons_succ, List.set_cons_zero]
      refine flow_val ?_ rfl (by kernel_rfl) (by rfl) (fun W hW => ?_) ?_
      rotate_left 1
      · go_simp <;> with_reducible rfl
      simp only [Act.put, List.setIfInBounds_toArray, List.set_cons_succ, List.set_cons_zero]
      refine flow_val ?_ rfl (by kernel_rfl) (by rfl) (fun W hW => ?_) ?_
      rotate_left 1
      · go_simp <;> with_reducible rfl
      simp only [Act.put, List.setIfInBounds_toArray, List.set_cons_succ, List.set_cons_zero]
      refine flow_val ?_ rfl (by kernel_rfl) (by rfl) (fun W hW => ?_) ?_
      rotate_left 1
      · go_simp <;> with_reducible rfl
      simp only [Act.put, List.setIfInBounds_toArray, List.set_cons_succ, List.set_cons_zero]
      refine flow_val ?_ rfl (by kernel_rfl) (by rfl) (fun W hW => ?_) ?_
      rotate_left 1
      · have c1 : W.cell? ⟨y, 0, none⟩ = some (.pointer (some ⟨pe false, 0, none⟩)) := cell_at (hW.1.trans HB1.out) 0; go_simp <;> with_reducible rfl
      simp only [Act.put, List.setIfInBounds_toArray, List.set_cons_succ, List.set_cons_zero]
      refine flow_val ?_ rfl (by kernel_rfl) (by rfl) (fun W hW => ?_) ?_
      rotate_left 1
      · go_simp <;> with_reducible rfl
      simp only [Act.put, List.setIfInBounds_toArray, List.set_cons_succ, List.set_cons_zero]
      refine flow_val ?_ rfl (by kernel_rfl) (by rfl) (fun W hW => ?_) ?_
      rotate_left 1
      · go_simp <;> with_reducible rfl
      simp only [Act.put, List.setIfInBounds_toArray, List.set_cons_succ, List.set_cons_zero]
      refine flow_val ?_ rfl (by kernel_rfl) (by rfl) (fun W hW => ?_) ?_
      rotate_left 1
      · go_simp <;> with_reducible rfl
      simp only [Act.put, List.setIfInBounds_toArray, List.set_cons_succ, List.set_cons_zero]
      refine flow_val ?_ rfl (by kernel_rfl) (by rfl) (fun W hW => ?_) ?_
      rotate_left 1
      · go_simp <;> with_reducible rfl
      simp only [Act.put, List.setIfInBounds_toArray, List.set_cons_succ, List.set_cons_zero]
      refine flow_val ?_ rfl (by kernel_rfl) (by rfl) (fun W hW => ?_) ?_
      rotate_left 1
      · have c1 : W.cell? ⟨y, 8, none⟩ = some (.int .i64 nw) := (cell_at (hW.1.trans HB1.out) 8).trans (by rw [← HNW.out]; rfl); go_simp <;> with_reducible rfl
      simp only [Act.put, List.setIfInBounds_toArray, List.set_cons_succ, List.set_cons_zero]
      refine flow_gmake (fun v W => ∃ g6, v = .pointer (some ⟨g6, 0, none⟩) ∧ W.heap[g6]? = some (.cells #[.int .i64 0, .int .i64 0, .slice none 0 0] 43 (0, 0)) ∧ w.heap.size ≤ g6 ∧ NoRow P vs vc vw zs g6 ∧ IsY w y pe P vs vc vw zs W) rfl (by kernel_rfl) (by rfl) (by kernel_rfl) (fun W hW hC => ?_) ?_
      · have hWW := hW
        have hbb : Below W.heap.size W (W.alloc (.cells #[.int .i64 0, .int .i64 0, .slice none 0 0] 43)) := (Below.refl _ W).alloc (Nat.le_refl _) _
        exact ⟨_, _, by go_simp <;> with_reducible rfl, ⟨(hbb.block _ (lt_of_block (hWW.1.trans HB1.out))).trans hWW.1, (hbb.block _ (lt_of_block (hWW.2.trans HGB.out))).trans hWW.2⟩, ⟨_, rfl, block_new _ _, hC.two.bel.size, hC.norow_new (Nat.le_refl _), hC.below hbb⟩⟩
      rintro v6 ⟨_, _, g6, rfl, _⟩
      simp only [Act.put, List.setIfInBounds_toArray, List.set_cons_succ, List.set_cons_zero]
      refine flow_gcall (fun v W => ∃ v1, v = .tuple #[v1, .int .i64 E] ∧ IsP W v1 K ∧ IsY w y pe P2 vs vc vw zs W ∧ W.heap[g6]? = some (.cells #[.int .i64 0, .int .i64 0, .slice none 0 0] 43 (0, 0)) ∧ w.heap.size ≤ g6 ∧ NoRow P2 vs vc vw zs g6) rfl (by kernel_rfl) (by rfl) (by kernel_rfl) (fun W hW hC => ?_) ?_
      · obtain ⟨g2, e2, h2, h3, h4n, hC1⟩ := hC
        injection e2 with e2
        injection e2 with e2
        injection e2 with e2 _ _
        subst e2
        have hWW := hW.1
        refine ⟨_, _, _, by go_simp, (HSC.out W hC1 (hWW.2.trans HGB.out)).mono fun e w1 ⟨v, he, ⟨v1, h4, h6⟩, hy, hk⟩ => ⟨v, he, ⟨⟨(HYK.out _ _ hC1 hy).trans hWW.1, (hk.2 _ _ _ _ (hWW.2.trans HGB.out) (by decide) (by decide)).trans HGB.out.symm⟩, trivial⟩, v1, h4, h6, hy, hk.2 _ _ _ _ h2 (by decide) (by decide), h3, HNR.out _ h4n⟩⟩
      rintro v43 ⟨_, _, v1, rfl, ⟨bx, rfl, hbx⟩, _⟩
      simp only [Act.put, List.setIfInBounds_toArray, List.set_cons_succ, List.set_cons_zero]
      obtain ⟨Aq, cq, rfl, _, _, _, _⟩ := byo_slice hbx
      clear hbx
      refine flow_val ?_ rfl (by kernel_rfl) (by rfl) (fun W hW => ?_) ?_
      rotate_left 1
      · go_simp <;> with_reducible rfl
      simp only [Act.put, List.setIfInBounds_toArray, List.set_cons_succ, List.set_cons_zero]
      refine flow_val ?_ rfl (by kernel_rfl) (by rfl) (fun W hW => ?_) ?_
      rotate_left 1
      · go_simp <;> with_reducible rfl
      simp only [Act.put, List.setIfInBounds_toArray, List.set_cons_succ, List.set_cons_zero]
      refine flow_val ?_ rfl (by kernel_rfl) (by rfl) (fun W hW => ?_) ?_
      rotate_left 1
      · go_simp <;> with_reducible rfl
      simp only [Act.put, List.setIfInBounds_toArray, List.set_cons_succ, List.set_cons_zero]
      refine flow_store (fun W => RD7 w y pe P2 vs vc vw zs K gb b0 b1 Aq cq g6 W) rfl (by kernel_rfl) (by rfl) (by kernel_rfl) (fun W hW hC => ?_) ?_
      · obtain ⟨v1, e1, ⟨bx, e2, h6⟩, hy, h14, hg14, hnr⟩ := hC
        subst e2
        simp at e1
        subst e1
        have hgb := hW.1.1.2.trans HGB.out
        have q0 := cell_at h14 0
        have q1 := cell_at h14 1
        have q2 := cell_at h14 2
        have z0 := frozen_at h14 0
        have z1 := frozen_at h14 1
        have z2 := frozen_at h14 2
        have H8 := Lib.hid h14
        have H6 := Lib.hid h6
        have HYY := Lib.hid hy
        have HNR2 := Lib.hid hnr
        have HG14 := Lib.hid hg14
        have HGB2 := Lib.hid hgb
        have HS1 := Lib.hid hW.1.1.1
        have HS2 := Lib.hid hW.1.1.2
        clear h14 h6 hy hnr hW hg14 hgb
        refine ⟨_, by go_simp <;> with_reducible rfl, ?_⟩
        obtain ⟨W5, hW5, _, _, _, f5, _⟩ := pkt_store H8.out (.int .i64 K.seq) (.int .i64 K.ack) (.slice Aq K.body.length cq)
        have hne : g6 ≠ y := block_ne H8.out HYY.out.b (by decide)
        have hng : g6 ≠ gb := (block_ne HGB2.out H8.out (by decide)).symm
        refine ⟨⟨⟨⟨?_, ?_⟩, trivial⟩, trivial⟩, ?_, ?_, ?_, ?_, HG14.out, HNR2.out⟩
        · rw [hW5]; exact (f5.block y (lt_of_block HYY.out.b) (.inr ⟨fun _ _ _ _ => by simp, by simp; exact hne.symm⟩)).trans HS1.out
        · rw [hW5]; exact (f5.block gb (lt_of_block HGB2.out) (.inr ⟨fun _ _ _ _ => by simp, by simp; exact hng.symm⟩)).trans HS2.out
        · rw [hW5]; exact HYY.out.farP f5 H8.out HG14.out HNR2.out
        · rw [hW5]; exact f5.keep HGB2.out (by simp) (by simp; exact block_ne HGB2.out H8.out (by decide))
        · simpa using block_set (block_set (block_set H8.out 0 (.int .i64 K.seq)) 1 (.int .i64 K.ack)) 2 (.slice Aq K.body.length cq)
        · rw [hW5]; exact H6.out.far f5 H8.out (by decide)
      simp only [Act.put]
      refine flow_val ?_ rfl (by kernel_rfl) (by rfl) (fun W hW => ?_) ?_
      rotate_left 1
      · go_simp <;> with_reducible rfl
      simp only [Act.put, List.setIfInBounds_toArray, List.set_cons_succ, List.set_cons_zero]
      refine flow_end ?_
      rintro W _ hR
      exact .inl ⟨by trivial, Aq, cq, g6, rfl, hR⟩
  case hk =>
    intro Aq cq g6 W8 hR8
    obtain ⟨hI2, hGB8, hK14, hKb, hg14, hnr⟩ := hR8
    have HI2 := Lib.hid hI2
    have HB8 : Hid (ByO W8 (.slice (some ⟨gb, 0, none⟩) 2 2) [b0, b1]) := Lib.hid (byo_two hGB8 hbb0 hbb1)
    have HK14 := Lib.hid hK14
    have HKB := Lib.hid hKb
    have HNRG := Lib.hid hnr
    have hne : g6 ≠ y := block_ne hK14 hI2.b (by decide)
    have HGNE := Lib.hid hne
    clear hI2 hGB8 hK14 hKb hnr hne hg14 HY1 HP1 HB1 HSC HYK HGB
    by_cases hE : E = 0
    · have hon := HON.out.trans (if_pos hE)
      have HON1 := Lib.hid hon
      subst hE
      clear hon HON HNE
      go_wp2_with fail
      obtain ⟨Ar, cr, hvr, kr1, kr2⟩ : ∃ A c, vs false = .slice A (P2.sent false).length c ∧ (P2.sent false).length ≤ c ∧ c ≤ maxLen := by
        obtain ⟨A', c', e, h1, h2, _⟩ := own_slice (HI2.out.rows.1 ⟨9, 1, vs false, (P2.sent false).length, (P2.sent false).map strY⟩ (by simp [rowsY]))
        exact ⟨A', c', e, h1, h2⟩
      have HVR := Lib.hid hvr
      obtain ⟨m, hm⟩ : ∃ m, (P2.sent false).length = m := ⟨_, rfl⟩
      have hm1 : m ≤ 1000000 := by rw [← hm]; exact HCM2.out
      have HM := Lib.hid hm
      have hbr := HI2.out.b
      rw [show vs false = _ from HVR.out] at hbr
      rw [hm] at kr1 hbr
      have HBR := Lib.hid hbr
      obtain ⟨S, hS⟩ : ∃ S, strOf [b0, b1] = S := ⟨_, rfl⟩
      have HS := Lib.hid hS
      have HNY : Hid (NoRow P2 vs vc vw zs y) := Lib.hid (HI2.out.norow HI2.out.b (by decide) (by decide))
      have HNB : Hid (∀ g cs fz, W8.heap[g]? = some (.cells cs 5 fz) → NoRow P2 vs vc vw zs g) := Lib.hid (fun g cs fz hc => HI2.out.norow hc (by decide) (by decide))
      have HCV : Hid (∀ W, (W8.heap.size ≤ W.heap.size ∧ ∀ g, g < W8.heap.size → NoRow P2 vs vc vw zs g → W.heap[g]? = W8.heap[g]?) → (convert 41 9 (.slice (some ⟨gb, 0, none⟩) 2 2)).run Try.prog W = .ok (.string S) W) := Lib.hid (fun W hW => by
        have hby : ByO W (.slice (some ⟨gb, 0, none⟩) 2 2) [b0, b1] := ⟨HB8.out.1.keep fun k cs fz _ hc => (hW.2 k (lt_of_block hc) (HNB.out k cs fz hc)).trans hc, HB8.out.2⟩
        obtain ⟨_, _, e1, _, _, hrd, _⟩ := byo_slice hby
        injection e1 with e1 e2 e3
        subst e1; subst e3
        exact HS.out ▸ run_str W _ _ _ _ hrd hby.2)
      clear hvr hm hbr hS
      refine wp_region_flow2 (fun W => W8.heap.size ≤ W.heap.size ∧ ∀ g, g < W8.heap.size → NoRow P2 vs vc vw zs g → W.heap[g]? = W8.heap[g]?) (fun W => IsY w y pe P2 vs vc vw zs W ∧ KeepsB W8 W) [0, 1, 2, 3, 4, 5, 6, 7, 8, 9, 12, 13, 10, 11, 14, 15] (by kernel_rfl) (by kernel_rfl) (by kernel_rfl) (⟨Nat.le_refl _, fun _ _ _ => rfl⟩) (⟨HI2.out.below (Below.refl _ W8).drew, KeepsB.below (Below.refl _ W8).drew⟩) ?_
      refine flow_val ?_ rfl (by kernel_rfl) (by rfl) (fun W hW => ?_) ?_
      rotate_left 1
      · go_simp <;> with_reducible rfl
      simp only [Act.put, List.setIfInBounds_toArray, List.set_cons_succ, List.set_cons_zero]
      refine flow_val ?_ rfl (by kernel_rfl) (by rfl) (fun W hW => ?_) ?_
      rotate_left 1
      · go_simp <;> with_reducible rfl
      simp only [Act.put, List.setIfInBounds_toArray, List.set_cons_succ, List.set_cons_zero]
      refine flow_val ?_ rfl (by kernel_rfl) (by rfl) (fun W hW => ?_) ?_
      rotate_left 1
      · go_simp <;> with_reducible rfl
      simp only [Act.put, List.setIfInBounds_toArray, List.set_cons_succ, List.set_cons_zero]
      refine flow_val ?_ rfl (by kernel_rfl) (by rfl) (fun W hW => ?_) ?_
      rotate_left 1
      · go_simp <;> with_reducible rfl
      simp only [Act.put, List.setIfInBounds_toArray, List.set_cons_succ, List.set_cons_zero]
      refine flow_val ?_ rfl (by kernel_rfl) (by rfl) (fun W hW => ?_) ?_
      rotate_left 1
      · go_simp <;> with_reducible rfl
      simp only [Act.put, List.setIfInBounds_toArray, List.set_cons_succ, List.set_cons_zero]
      refine flow_val ?_ rfl (by kernel_rfl) (by rfl) (fun W hW => ?_) ?_
      rotate_left 1
      · go_simp <;> with_reducible rfl
      simp only [Act.put, List.setIfInBounds_toArray, List.set_cons_succ, List.set_cons_zero]
      refine flow_val ?_ rfl (by kernel_rfl) (by rfl) (fun W hW => ?_) ?_
      rotate_left 1
      · go_simp <;> with_reducible rfl
      simp only [Act.put, List.setIfInBounds_toArray, List.set_cons_succ, List.set_cons_zero]
      refine flow_val ?_ rfl (by kernel_rfl) (by rfl) (fun W hW => ?_) ?_
      rotate_left 1
      · have c1 : W.cell? ⟨y, 2, none⟩ = some (.slice Ar m cr) := cell_at ((hW.2 y (lt_of_block HBR.out) HNY.out).trans HBR.out) 2; go_simp <;> with_reducible rfl
      simp only [Act.put, List.setIfInBounds_toArray, List.set_cons_succ, List.set_cons_zero]
      refine flow_val ?_ rfl (by kernel_rfl) (by rfl) (fun W hW => ?_) ?_
      rotate_left 1
      · go_simp <;> with_reducible rfl
      simp only [Act.put, List.setIfInBounds_toArray, List.set_cons_succ, List.set_cons_zero]
      refine flow_val ?_ rfl (by kernel_rfl) (by rfl) (fun W hW => ?_) ?_
      rotate_left 1
      · have c1 := HCV.out W hW; go_simp <;> with_reducible rfl
      simp only [Act.put, List.setIfInBounds_toArray, List.set_cons_succ, List.set_cons_zero]
      refine flow_val ?_ rfl (by kernel_rfl) (by rfl) (fun W hW => ?_) ?_
      rotate_left 1
      · go_simp <;> with_reducible rfl
      simp only [Act.put, List.setIfInBounds_toArray, List.set_cons_succ, List.set_cons_zero]
      refine flow_val ?_ rfl (by kernel_rfl) (by rfl) (fun W hW => ?_) ?_
      rotate_left 1
      · go_simp <;> with_reducible rfl
      simp only [Act.put, List.setIfInBounds_toArray, List.set_cons_succ, List.set_cons_zero]
      refine flow_gmake (fun v W => ∃ g', v = .slice (some ⟨g', 0, none⟩) 1 1 ∧ W.heap[g']? = some (.cells #[.string S] 9 (0, 0)) ∧ IsY w y pe P2 vs vc vw zs W ∧ KeepsB W8 W) rfl (by kernel_rfl) (by rfl) (by kernel_rfl) (fun W hW hC => ?_) ?_
      · have hb : Below W.heap.size W (W.alloc (.cells #[.string S] 9)) := (Below.refl _ W).alloc (Nat.le_refl _) _
        exact ⟨_, _, by go_simp <;> with_reducible rfl, ⟨Nat.le_trans hW.1 hb.size, fun g hg hr => (hb.block _ (Nat.lt_of_lt_of_le hg hW.1)).trans (hW.2 g hg hr)⟩, ⟨_, rfl, block_new _ _, hC.1.below hb, fun v bs hh => (hC.2 v bs hh).below hb⟩⟩
      rintro vb ⟨_, _, gb, rfl, _, _⟩
      simp only [Act.put, List.setIfInBounds_toArray, List.set_cons_succ, List.set_cons_zero]
      refine flow_gmake (fun v W => YF w y pe P2 vs vc vw zs ((rowsY P2 vs vc vw zs).set 0 ⟨9, 1, v, m + 1, (P2.sent false).map strY ++ [.string S]⟩) W ∧ KeepsB W8 W ∧ (v.ownBlock = (vs false).ownBlock ∨ ∃ g, v.ownBlock = some g ∧ W8.heap.size ≤ g)) rfl (by kernel_rfl) (by rfl) (by kernel_rfl) (fun W hW hC => ?_) ?_
      · obtain ⟨g2, e2, hg2, hC2, hC3⟩ := hC
        injection e2 with e2 _ _
        injection e2 with e2
        injection e2 with e2 _ _
        subst e2
        have hir : (rowsY P2 vs vc vw zs)[0]? = some ⟨9, 1, vs false, (P2.sent false).length, (P2.sent false).map strY⟩ := rfl
        have hor := hC2.rows.1 _ (List.mem_of_getElem? hir)
        simp only [HVR.out, HM.out] at hor hir
        refine exec_append_at (.tmp 55) (.tmp 58) 32 rfl w.heap.size 9 i2 (.string ByteArray.empty) 1 16 Try.underlying32 hi2 hs0 hs1 hs2 rfl (by decide) (.slice Ar m cr) m ((P2.sent false).map strY) rfl hor (some ⟨gb, 0, none⟩) 1 1 [.string S] rfl ⟨rfl, fun _ => ⟨_, _, rfl, lt_of_block hg2, fun j u hu => ?_⟩⟩ (by simp [Value.oneCell']) (by unfold maxLen; omega) (by omega) hC2.two.bel.size (fun v' w' x2 x3 x4 => ?_)
        · match j, hu with
          | 0, hu => simp at hu; subst hu; rw [cell_at hg2]; rfl
          | j + 1, hu => simp at hu
        · obtain ⟨hyf, hkb⟩ := hC2.grow hir (by show 9 ≠ 5; decide) (by show 9 ≠ 84; decide) (by show 9 ≠ 80; decide) (by show 9 ≠ 37; decide) x3 x2 x4
          refine ⟨⟨⟨Nat.le_trans hW.1.1 x3.size, fun g hg hr => ?_⟩, trivial⟩, hyf, fun v bs hh => hkb _ _ (hC3 v bs hh), ?_⟩
          · rw [x3.block g (Nat.lt_of_lt_of_le hg hW.1.1) (fun e => hr ⟨9, 1, vs false, (P2.sent false).length, (P2.sent false).map strY⟩ (by simp [rowsY]) (by simp only [HVR.out, HM.out]; exact e.symm))]
            exact hW.1.2 g hg hr
          · rcases x4 with x4 | x4
            · exact .inl (by rw [HVR.out, HM.out]; exact x4)
            · exact .inr ⟨_, x4, hW.1.1⟩
      rintro va ⟨_, _, hva, _⟩
      simp only [Act.put, List.setIfInBounds_toArray, List.set_cons_succ, List.set_cons_zero]
      obtain ⟨Aa, ca, ea⟩ : ∃ A' c', va = .slice A' (m + 1) c' := by
        obtain ⟨A', c', e, _⟩ := own_slice (hva.rows.1 ⟨9, 1, va, m + 1, (P2.sent false).map strY ++ [.string S]⟩ (by simp [rowsY]))
        exact ⟨A', c', e⟩
      subst ea
      clear hva
      refine flow_val ?_ rfl (by kernel_rfl) (by rfl) (fun W hW => ?_) ?_
      rotate_left 1
      · go_simp <;> with_reducible rfl
      simp only [Act.put, List.setIfInBounds_toArray, List.set_cons_succ, List.set_cons_zero]
      refine flow_bar (fun W => RetY w y pe P2 vs vc vw zs W8 { P2 with sent := upB P2.sent false (P2.sent false ++ [[b0, b1]]) } W) (fun _ => True) rfl (by kernel_rfl) (by rfl) (by kernel_rfl) (by kernel_rfl) (fun W hW hC => ?_) ?_
      · obtain ⟨hyf, hkb, hnew⟩ := hC
        have q1 := cell_at hyf.b 2
        have q2 := frozen_at hyf.b 2
        have HF := Lib.hid hyf
        have HKB := Lib.hid hkb
        have HNEW := Lib.hid hnew
        have HWW := Lib.hid hW.1.1
        clear hyf hkb hnew hW
        refine ⟨_, by go_simp <;> with_reducible rfl, ?_, trivial⟩
        obtain ⟨s1, s2, s3⟩ := HF.out.store (by simp [rowsY]) 2 (.slice Aa (m + 1) ca)
        refine ⟨upB vs false (.slice Aa (m + 1) ca), vc, vw, zs, ⟨?_, s2, HF.out.low, HI2.out.map, fun a z hz => s1 _ _ (HF.out.by_ a z hz), ?_⟩, fun v bs hh => s1 _ _ (HKB.out v bs hh), by simpa using HWW.out.1, fun g hg hy hr => ⟨?_, ?_⟩⟩
        · rw [block_set HF.out.b]; simp [upB]
        · have := s3
          simpa [rowsY, upB, HM.out, List.map_append, strY, HS.out] using this
        · exact (Below.heap_setCell _ _ _ g (by simpa using hy)).trans (HWW.out.2 g hg hr)
        · have hnw : (Value.slice Aa (m + 1) ca).ownBlock ≠ some g := by
            rcases HNEW.out with e | ⟨g', e, hg'⟩
            · rw [e]; exact hr ⟨9, 1, vs false, (P2.sent false).length, (P2.sent false).map strY⟩ (by simp [rowsY])
            · rw [e]; intro e2; injection e2 with e2; omega
          intro r hr2
          have hr3 := fun r hh => hr r hh
          simp only [rowsY, List.mem_cons, List.not_mem_nil, or_false] at hr2 hr3
          rcases hr2 with rfl | rfl | rfl | rfl | rfl | rfl
          · simpa [upB] using hnw
          · simpa [upB] using hr3 _ (.inr (.inl rfl))
          · simpa [upB] using hr3 _ (.inr (.inr (.inl rfl)))
          · simpa [upB] using hr3 _ (.inr (.inr (.inr (.inl rfl))))
          · simpa [upB] using hr3 _ (.inr (.inr (.inr (.inr (.inl rfl)))))
          · simpa [upB] using hr3 _ (.inr (.inr (.inr (.inr (.inr (rfl))))))
      simp only [Act.put]
      refine flow_done2 ?_
      intro WR hWR _
      obtain ⟨vs3, vc3, vw3, zs3, h1, h2, _, h4⟩ := hWR.1
      have hg3 := ((h4 g6 (lt_of_block HK14.out) HGNE.out HNRG.out).1).trans HK14.out
      have HY3 := Lib.hid h1
      have HB3 := Lib.hid (h2 _ _ HKB.out)
      have q0 := cell_at hg3 0
      have q1 := cell_at hg3 1
      have q2 := cell_at hg3 2
      obtain ⟨P3, hP3⟩ : ∃ P3, { P2 with sent := upB P2.sent false (P2.sent false ++ [[b0, b1]]) } = P3 := ⟨_, rfl⟩
      rw [hP3] at HY3
      have HWT3 : Hid ((P3.way true).length ≤ 400) := Lib.hid (by subst hP3; exact HWT2.out)
      have HON3 : Hid (sendY P false n = putY P3 true K) := Lib.hid (by rw [HON1.out, hP3])
      clear h1 h2 h4 hg3 hP3 hWR HI2 HB8 HK14 HKB HON1 HWT2 HCM2
      go_wp2_with fail
      refine (put_true w y pe P3 K Aq cq WR vs3 vc3 vw3 zs3 HY3.out HB3.out HWT3.out).mono ?_
      rintro e W9 ⟨rfl, hret⟩
      have HRET := Lib.hid hret
      clear hret q0 q1 q2
      go_wp2
      go_end0
      refine ⟨by simp, ?_⟩
      rw [HON3.out]
      obtain ⟨vs4, vc4, vw4, zs4, h1, _⟩ := HRET.out
      exact ⟨vs4, vc4, vw4, zs4, h1⟩
    · have hEb : (E == 0) = false := by simpa using hE
      have hon := HON.out.trans (if_neg hE)
      have HON1 := Lib.hid hon
      clear hon HON
      have HEE := Lib.hid hE
      clear hE
      go_wp2
      go_end0
      refine ⟨by simp, ?_⟩
      rw [HON1.out]
      have h := HI2.out
      rw [HNE.out HEE.out] at h
      exact ⟨_, _, _, _, h⟩

set_option maxRecDepth 100000 in
set_option maxHeartbeats 3000000 in
theorem dtick_false (w : World) (y : Nat) (pe : Bool → Nat) (P : Play) (k A n : Int) (W : World) (vs vc vw : Bool → Value) (zs : Bool → List (LPk × Value)) (hY : IsY w y pe P vs vc vw zs W) (hG : GoodY P) (m : Nat) (hF : FewY P m) (hm : m < 1000000) (hA : aOf A = false) (hk : k = 2) :
    Calls Try.prog 13 #[.pointer (some ⟨y, 0, none⟩), .agg #[.int .i64 k, .int .i64 A, .int .i64 n]] W fun e W' => e = .returned (.tuple #[]) ∧ ∃ vs' vc' vw' zs', IsY w y pe (ticksY P) vs' vc' vw' zs' W' := by
  subst hk
  obtain ⟨t1, t2, t3, t4⟩ := aOf_tmod A
  have HT1 := Lib.hid t1
  have HT2 := Lib.hid t2
  rw [hA] at HT1 HT2
  obtain ⟨q, hq⟩ : ∃ q, A.tmod 2 = q := ⟨_, rfl⟩
  rw [hq] at t3 t4 HT1 HT2
  have HY := Lib.hid hY
  have HG := Lib.hid hG
  have HF := Lib.hid hF
  have HA := Lib.hid hA
  clear hY hG hF hA t1 t2
  have hbA := (Below.refl _ W).alloc (Nat.le_refl _) (.cells #[.int .i64 2, .int .i64 A, .int .i64 n] 28)
  have HY0 := Lib.hid (HY.out.below hbA)
  have hq0 := block_new W (.cells #[.int .i64 2, .int .i64 A, .int .i64 n] 28)
  obtain ⟨W0, hW0⟩ : ∃ W0, W.alloc (.cells #[.int .i64 2, .int .i64 A, .int .i64 n] 28) = W0 := ⟨_, rfl⟩
  obtain ⟨b, hbn⟩ : ∃ b, W.heap.size = b := ⟨_, rfl⟩
  have HWB : Hid (w.heap.size ≤ b ∧ y < b) := Lib.hid (by rw [← hbn]; exact ⟨Nat.le_trans HY.out.low (Nat.le_of_lt (lt_of_block HY.out.b)), lt_of_block HY.out.b⟩)
  rw [hW0] at HY0 hq0
  rw [hbn] at hq0
  have HPK := Lib.hid hq0
  have HW0 := Lib.hid hW0
  have HBN := Lib.hid hbn
  clear hbA hq0 hW0 hbn HY
  go_enter Try.func13, Try.ntmps13
  go_upto_if 12 with fail
  clear hq
  rw [HW0.out, HBN.out]
  have d0 := cell_at HPK.out 0
  have d1 := cell_at HPK.out 1
  have d2 := cell_at HPK.out 2
  have hb0 := HY0.out.b
  have HB0 := Lib.hid hb0
  clear hb0
  go_cut [4] (fun s4 wx => s4 = .int .i64 0 ∧ W0 = wx)
  case first =>
    by_cases hq0 : q < 0
    · have e1 : -q = 0 := by have := HT1.out hq0; simpa using this
      have E1 := Lib.hid e1
      clear e1
      go_wp2_with fail
      go_meet
      exact ⟨by rw [E1.out], rfl⟩
    · have e1 : q = 0 := by have := HT2.out (by omega); simpa using this
      have E1 := Lib.hid e1
      clear e1
      go_wp2_with fail
      go_meet
      exact ⟨by rw [E1.out], rfl⟩
  case rest =>
  obtain ⟨rfl, rfl⟩ := hcut
  clear HT1 HT2 t3 t4 HW0 HBN
  clear HB0
  go_wp2_with fail
  refine (ytick_any w y pe P W0 vs vc vw zs HY0.out (fun a => HG.out.okE HF.out hm a) (by have := HG.out.now; have := HF.out.now; omega) HG.out.way).mono ?_
  rintro e W9 ⟨rfl, hret⟩
  have HR := Lib.hid hret
  clear hret d0 d1 d2
  go_wp2
  go_end0
  exact ⟨by simp, HR.out⟩

set_option maxRecDepth 100000 in
set_option maxHeartbeats 3000000 in
theorem dcome3_false (w : World) (y : Nat) (pe : Bool → Nat) (P : Play) (k A n : Int) (W : World) (vs vc vw : Bool → Value) (zs : Bool → List (LPk × Value)) (hY : IsY w y pe P vs vc vw zs W) (hG : GoodY P) (m : Nat) (hF : FewY P m) (hm : m < 1000000) (hA : aOf A = false) (hk : k = 3) :
    Calls Try.prog 13 #[.pointer (some ⟨y, 0, none⟩), .agg #[.int .i64 k, .int .i64 A, .int .i64 n]] W fun e W' => e = .returned (.tuple #[]) ∧ ∃ vs' vc' vw' zs', IsY w y pe (comeY P false n false false) vs' vc' vw' zs' W' := by
  subst hk
  obtain ⟨t1, t2, t3, t4⟩ := aOf_tmod A
  have HT1 := Lib.hid t1
  have HT2 := Lib.hid t2
  rw [hA] at HT1 HT2
  obtain ⟨q, hq⟩ : ∃ q, A.tmod 2 = q := ⟨_, rfl⟩
  rw [hq] at t3 t4 HT1 HT2
  have HY := Lib.hid hY
  have HG := Lib.hid hG
  have HF := Lib.hid hF
  have HA := Lib.hid hA
  clear hY hG hF hA t1 t2
  have hbA := (Below.refl _ W).alloc (Nat.le_refl _) (.cells #[.int .i64 3, .int .i64 A, .int .i64 n] 28)
  have HY0 := Lib.hid (HY.out.below hbA)
  have hq0 := block_new W (.cells #[.int .i64 3, .int .i64 A, .int .i64 n] 28)
  obtain ⟨W0, hW0⟩ : ∃ W0, W.alloc (.cells #[.int .i64 3, .int .i64 A, .int .i64 n] 28) = W0 := ⟨_, rfl⟩
  obtain ⟨b, hbn⟩ : ∃ b, W.heap.size = b := ⟨_, rfl⟩
  have HWB : Hid (w.heap.size ≤ b ∧ y < b) := Lib.hid (by rw [← hbn]; exact ⟨Nat.le_trans HY.out.low (Nat.le_of_lt (lt_of_block HY.out.b)), lt_of_block HY.out.b⟩)
  rw [hW0] at HY0 hq0
  rw [hbn] at hq0
  have HPK := Lib.hid hq0
  have HW0 := Lib.hid hW0
  have HBN := Lib.hid hbn
  clear hbA hq0 hW0 hbn HY
  go_enter Try.func13, Try.ntmps13
  go_upto_if 12 with fail
  clear hq
  rw [HW0.out, HBN.out]
  have d0 := cell_at HPK.out 0
  have d1 := cell_at HPK.out 1
  have d2 := cell_at HPK.out 2
  have hb0 := HY0.out.b
  have HB0 := Lib.hid hb0
  clear hb0
  go_cut [4] (fun s4 wx => s4 = .int .i64 0 ∧ W0 = wx)
  case first =>
    by_cases hq0 : q < 0
    · have e1 : -q = 0 := by have := HT1.out hq0; simpa using this
      have E1 := Lib.hid e1
      clear e1
      go_wp2_with fail
      go_meet
      exact ⟨by rw [E1.out], rfl⟩
    · have e1 : q = 0 := by have := HT2.out (by omega); simpa using this
      have E1 := Lib.hid e1
      clear e1
      go_wp2_with fail
      go_meet
      exact ⟨by rw [E1.out], rfl⟩
  case rest =>
  obtain ⟨rfl, rfl⟩ := hcut
  clear HT1 HT2 t3 t4 HW0 HBN
  clear HB0
  have HCO : Hid (Calls Try.prog 17 #[.pointer (some ⟨y, 0, none⟩), .int .i64 0, .int .i64 n, .bool false, .bool false] W0 fun e W' => e = .returned (.tuple #[]) ∧ ∃ vs' vc' vw' zs', IsY w y pe (comeY P false n false false) vs' vc' vw' zs' W') := Lib.hid (come_false w y pe P n false false W0 vs vc vw zs HY0.out HG.out.way (by have := HG.out.came_le HF.out false; omega) (by have h1 := HG.out.mark false; have := HF.out.sent (!false); omega))
  go_wp2_with fail
  refine HCO.out.mono ?_
  rintro e W9 ⟨rfl, hret⟩
  have HR := Lib.hid hret
  clear hret d0 d1 d2
  go_wp2
  go_end0
  exact ⟨by simp, HR.out⟩

set_option maxRecDepth 100000 in
set_option maxHeartbeats 3000000 in
theorem dcome4_false (w : World) (y : Nat) (pe : Bool → Nat) (P : Play) (k A n : Int) (W : World) (vs vc vw : Bool → Value) (zs : Bool → List (LPk × Value)) (hY : IsY w y pe P vs vc vw zs W) (hG : GoodY P) (m : Nat) (hF : FewY P m) (hm : m < 1000000) (hA : aOf A = false) (hk : k = 4) :
    Calls Try.prog 13 #[.pointer (some ⟨y, 0, none⟩), .agg #[.int .i64 k, .int .i64 A, .int .i64 n]] W fun e W' => e = .returned (.tuple #[]) ∧ ∃ vs' vc' vw' zs', IsY w y pe (comeY P false n false true) vs' vc' vw' zs' W' := by
  subst hk
  obtain ⟨t1, t2, t3, t4⟩ := aOf_tmod A
  have HT1 := Lib.hid t1
  have HT2 := Lib.hid t2
  rw [hA] at HT1 HT2
  obtain ⟨q, hq⟩ : ∃ q, A.tmod 2 = q := ⟨_, rfl⟩
  rw [hq] at t3 t4 HT1 HT2
  have HY := Lib.hid hY
  have HG := Lib.hid hG
  have HF := Lib.hid hF
  have HA := Lib.hid hA
  clear hY hG hF hA t1 t2
  have hbA := (Below.refl _ W).alloc (Nat.le_refl _) (.cells #[.int .i64 4, .int .i64 A, .int .i64 n] 28)
  have HY0 := Lib.hid (HY.out.below hbA)
  have hq0 := block_new W (.cells #[.int .i64 4, .int .i64 A, .int .i64 n] 28)
  obtain ⟨W0, hW0⟩ : ∃ W0, W.alloc (.cells #[.int .i64 4, .int .i64 A, .int .i64 n] 28) = W0 := ⟨_, rfl⟩
  obtain ⟨b, hbn⟩ : ∃ b, W.heap.size = b := ⟨_, rfl⟩
  have HWB : Hid (w.heap.size ≤ b ∧ y < b) := Lib.hid (by rw [← hbn]; exact ⟨Nat.le_trans HY.out.low (Nat.le_of_lt (lt_of_block HY.out.b)), lt_of_block HY.out.b⟩)
  rw [hW0] at HY0 hq0
  rw [hbn] at hq0
  have HPK := Lib.hid hq0
  have HW0 := Lib.hid hW0
  have HBN := Lib.hid hbn
  clear hbA hq0 hW0 hbn HY
  go_enter Try.func13, Try.ntmps13
  go_upto_if 12 with fail
  clear hq
  rw [HW0.out, HBN.out]
  have d0 := cell_at HPK.out 0
  have d1 := cell_at HPK.out 1
  have d2 := cell_at HPK.out 2
  have hb0 := HY0.out.b
  have HB0 := Lib.hid hb0
  clear hb0
  go_cut [4] (fun s4 wx => s4 = .int .i64 0 ∧ W0 = wx)
  case first =>
    by_cases hq0 : q < 0
    · have e1 : -q = 0 := by have := HT1.out hq0; simpa using this
      have E1 := Lib.hid e1
      clear e1
      go_wp2_with fail
      go_meet
      exact ⟨by rw [E1.out], rfl⟩
    · have e1 : q = 0 := by have := HT2.out (by omega); simpa using this
      have E1 := Lib.hid e1
      clear e1
      go_wp2_with fail
      go_meet
      exact ⟨by rw [E1.out], rfl⟩
  case rest =>
  obtain ⟨rfl, rfl⟩ := hcut
  clear HT1 HT2 t3 t4 HW0 HBN
  clear HB0
  have HCO : Hid (Calls Try.prog 17 #[.pointer (some ⟨y, 0, none⟩), .int .i64 0, .int .i64 n, .bool false, .bool true] W0 fun e W' => e = .returned (.tuple #[]) ∧ ∃ vs' vc' vw' zs', IsY w y pe (comeY P false n false true) vs' vc' vw' zs' W') := Lib.hid (come_false w y pe P n false true W0 vs vc vw zs HY0.out HG.out.way (by have := HG.out.came_le HF.out false; omega) (by have h1 := HG.out.mark false; have := HF.out.sent (!false); omega))
  go_wp2_with fail
  refine HCO.out.mono ?_
  rintro e W9 ⟨rfl, hret⟩
  have HR := Lib.hid hret
  clear hret d0 d1 d2
  go_wp2
  go_end0
  exact ⟨by simp, HR.out⟩

set_option maxRecDepth 100000 in
set_option maxHeartbeats 3000000 in
theorem dcome5_false (w : World) (y : Nat) (pe : Bool → Nat) (P : Play) (k A n : Int) (W : World) (vs vc vw : Bool → Value) (zs : Bool → List (LPk × Value)) (hY : IsY w y pe P vs vc vw zs W) (hG : GoodY P) (m : Nat) (hF : FewY P m) (hm : m < 1000000) (hA : aOf A = false) (hk : k = 5) :
    Calls Try.prog 13 #[.pointer (some ⟨y, 0, none⟩), .agg #[.int .i64 k, .int .i64 A, .int .i64 n]] W fun e W' => e = .returned (.tuple #[]) ∧ ∃ vs' vc' vw' zs', IsY w y pe (comeY P false n true false) vs' vc' vw' zs' W' := by
  subst hk
  obtain ⟨t1, t2, t3, t4⟩ := aOf_tmod A
  have HT1 := Lib.hid t1
  have HT2 := Lib.hid t2
  rw [hA] at HT1 HT2
  obtain ⟨q, hq⟩ : ∃ q, A.tmod 2 = q := ⟨_, rfl⟩
  rw [hq] at t3 t4 HT1 HT2
  have HY := Lib.hid hY
  have HG := Lib.hid hG
  have HF := Lib.hid hF
  have HA := Lib.hid hA
  clear hY hG hF hA t1 t2
  have hbA := (Below.refl _ W).alloc (Nat.le_refl _) (.cells #[.int .i64 5, .int .i64 A, .int .i64 n] 28)
  have HY0 := Lib.hid (HY.out.below hbA)
  have hq0 := block_new W (.cells #[.int .i64 5, .int .i64 A, .int .i64 n] 28)
  obtain ⟨W0, hW0⟩ : ∃ W0, W.alloc (.cells #[.int .i64 5, .int .i64 A, .int .i64 n] 28) = W0 := ⟨_, rfl⟩
  obtain ⟨b, hbn⟩ : ∃ b, W.heap.size = b := ⟨_, rfl⟩
  have HWB : Hid (w.heap.size ≤ b ∧ y < b) := Lib.hid (by rw [← hbn]; exact ⟨Nat.le_trans HY.out.low (Nat.le_of_lt (lt_of_block HY.out.b)), lt_of_block HY.out.b⟩)
  rw [hW0] at HY0 hq0
  rw [hbn] at hq0
  have HPK := Lib.hid hq0
  have HW0 := Lib.hid hW0
  have HBN := Lib.hid hbn
  clear hbA hq0 hW0 hbn HY
  go_enter Try.func13, Try.ntmps13
  go_upto_if 12 with fail
  clear hq
  rw [HW0.out, HBN.out]
  have d0 := cell_at HPK.out 0
  have d1 := cell_at HPK.out 1
  have d2 := cell_at HPK.out 2
  have hb0 := HY0.out.b
  have HB0 := Lib.hid hb0
  clear hb0
  go_cut [4] (fun s4 wx => s4 = .int .i64 0 ∧ W0 = wx)
  case first =>
    by_cases hq0 : q < 0
    · have e1 : -q = 0 := by have := HT1.out hq0; simpa using this
      have E1 := Lib.hid e1
      clear e1
      go_wp2_with fail
      go_meet
      exact ⟨by rw [E1.out], rfl⟩
    · have e1 : q = 0 := by have := HT2.out (by omega); simpa using this
      have E1 := Lib.hid e1
      clear e1
      go_wp2_with fail
      go_meet
      exact ⟨by rw [E1.out], rfl⟩
  case rest =>
  obtain ⟨rfl, rfl⟩ := hcut
  clear HT1 HT2 t3 t4 HW0 HBN
  clear HB0
  have HCO : Hid (Calls Try.prog 17 #[.pointer (some ⟨y, 0, none⟩), .int .i64 0, .int .i64 n, .bool true, .bool false] W0 fun e W' => e = .returned (.tuple #[]) ∧ ∃ vs' vc' vw' zs', IsY w y pe (comeY P false n true false) vs' vc' vw' zs' W') := Lib.hid (come_false w y pe P n true false W0 vs vc vw zs HY0.out HG.out.way (by have := HG.out.came_le HF.out false; omega) (by have h1 := HG.out.mark false; have := HF.out.sent (!false); omega))
  go_wp2_with fail
  refine HCO.out.mono ?_
  rintro e W9 ⟨rfl, hret⟩
  have HR := Lib.hid hret
  clear hret d0 d1 d2
  go_wp2
  go_end0
  exact ⟨by simp, HR.out⟩

set_option maxRecDepth 100000 in
set_option maxHeartbeats 3000000 in
theorem dnone_false (w : World) (y : Nat) (pe : Bool → Nat) (P : Play) (k A n : Int) (W : World) (vs vc vw : Bool → Value) (zs : Bool → List (LPk × Value)) (hY : IsY w y pe P vs vc vw zs W) (hG : GoodY P) (m : Nat) (hF : FewY P m) (hm : m < 1000000) (hA : aOf A = false) (hk : k ≠ 1 ∧ k ≠ 2 ∧ k ≠ 3 ∧ k ≠ 4 ∧ k ≠ 5) :
    Calls Try.prog 13 #[.pointer (some ⟨y, 0, none⟩), .agg #[.int .i64 k, .int .i64 A, .int .i64 n]] W fun e W' => e = .returned (.tuple #[]) ∧ ∃ vs' vc' vw' zs', IsY w y pe (P) vs' vc' vw' zs' W' := by
  obtain ⟨h1, h2, h3, h4, h5⟩ := hk
  have k1 : (k == 1) = false := by simpa using h1
  have k2 : (k == 2) = false := by simpa using h2
  have k3 : (k == 3) = false := by simpa using h3
  have k4 : (k == 4) = false := by simpa using h4
  have k5 : (k == 5) = false := by simpa using h5
  clear h1 h2 h3 h4 h5
  have _ := hm
  obtain ⟨t1, t2, t3, t4⟩ := aOf_tmod A
  have HT1 := Lib.hid t1
  have HT2 := Lib.hid t2
  rw [hA] at HT1 HT2
  obtain ⟨q, hq⟩ : ∃ q, A.tmod 2 = q := ⟨_, rfl⟩
  rw [hq] at t3 t4 HT1 HT2
  have HY := Lib.hid hY
  have HG := Lib.hid hG
  have HF := Lib.hid hF
  have HA := Lib.hid hA
  clear hY hG hF hA t1 t2
  have hbA := (Below.refl _ W).alloc (Nat.le_refl _) (.cells #[.int .i64 k, .int .i64 A, .int .i64 n] 28)
  have HY0 := Lib.hid (HY.out.below hbA)
  have hq0 := block_new W (.cells #[.int .i64 k, .int .i64 A, .int .i64 n] 28)
  obtain ⟨W0, hW0⟩ : ∃ W0, W.alloc (.cells #[.int .i64 k, .int .i64 A, .int .i64 n] 28) = W0 := ⟨_, rfl⟩
  obtain ⟨b, hbn⟩ : ∃ b, W.heap.size = b := ⟨_, rfl⟩
  have HWB : Hid (w.heap.size ≤ b ∧ y < b) := Lib.hid (by rw [← hbn]; exact ⟨Nat.le_trans HY.out.low (Nat.le_of_lt (lt_of_block HY.out.b)), lt_of_block HY.out.b⟩)
  rw [hW0] at HY0 hq0
  rw [hbn] at hq0
  have HPK := Lib.hid hq0
  have HW0 := Lib.hid hW0
  have HBN := Lib.hid hbn
  clear hbA hq0 hW0 hbn HY
  go_enter Try.func13, Try.ntmps13
  go_upto_if 12 with fail
  clear hq
  rw [HW0.out, HBN.out]
  have d0 := cell_at HPK.out 0
  have d1 := cell_at HPK.out 1
  have d2 := cell_at HPK.out 2
  have hb0 := HY0.out.b
  have HB0 := Lib.hid hb0
  clear hb0
  go_cut [4] (fun s4 wx => s4 = .int .i64 0 ∧ W0 = wx)
  case first =>
    by_cases hq0 : q < 0
    · have e1 : -q = 0 := by have := HT1.out hq0; simpa using this
      have E1 := Lib.hid e1
      clear e1
      go_wp2_with fail
      go_meet
      exact ⟨by rw [E1.out], rfl⟩
    · have e1 : q = 0 := by have := HT2.out (by omega); simpa using this
      have E1 := Lib.hid e1
      clear e1
      go_wp2_with fail
      go_meet
      exact ⟨by rw [E1.out], rfl⟩
  case rest =>
  obtain ⟨rfl, rfl⟩ := hcut
  clear HT1 HT2 t3 t4 HW0 HBN
  clear HB0
  go_wp2
  go_end0
  exact ⟨by simp, _, _, _, _, HY0.out⟩

theorem do_false (w : World) (y : Nat) (pe : Bool → Nat) (P : Play) (k A n : Int) (W : World) (vs vc vw : Bool → Value) (zs : Bool → List (LPk × Value)) (hY : IsY w y pe P vs vc vw zs W) (hG : GoodY P) (m : Nat) (hF : FewY P m) (hm : m < 1000000) (hA : aOf A = false) :
    Calls Try.prog 13 #[.pointer (some ⟨y, 0, none⟩), .agg #[.int .i64 k, .int .i64 A, .int .i64 n]] W fun e W' => e = .returned (.tuple #[]) ∧ ∃ vs' vc' vw' zs', IsY w y pe (doY P k A n) vs' vc' vw' zs' W' := by
  unfold doY
  rw [hA]
  by_cases h1 : k = 1
  · rw [if_pos h1]; exact send_false w y pe P k A n W vs vc vw zs hY hG m hF hm hA h1
  rw [if_neg h1]
  by_cases h2 : k = 2
  · rw [if_pos h2]; exact dtick_false w y pe P k A n W vs vc vw zs hY hG m hF hm hA h2
  rw [if_neg h2]
  by_cases h3 : k = 3
  · rw [if_pos (.inl h3)]; have := dcome3_false w y pe P k A n W vs vc vw zs hY hG m hF hm hA h3; subst h3; exact this
  by_cases h4 : k = 4
  · rw [if_pos (.inr (.inl h4))]; have := dcome4_false w y pe P k A n W vs vc vw zs hY hG m hF hm hA h4; subst h4; exact this
  by_cases h5 : k = 5
  · rw [if_pos (.inr (.inr h5))]; have := dcome5_false w y pe P k A n W vs vc vw zs hY hG m hF hm hA h5; subst h5; exact this
  rw [if_neg (by omega)]
  exact dnone_false w y pe P k A n W vs vc vw zs hY hG m hF hm hA ⟨h1, h2, h3, h4, h5⟩

set_option maxRecDepth 100000 in
set_option maxHeartbeats 3000000 in
theorem send_true (w : World) (y : Nat) (pe : Bool → Nat) (P : Play) (k A n : Int) (W : World) (vs vc vw : Bool → Value) (zs : Bool → List (LPk × Value)) (hY : IsY w y pe P vs vc vw zs W) (hG : GoodY P) (m : Nat) (hF : FewY P m) (hm : m < 1000000) (hA : aOf A = true) (hk : k = 1) :
    Calls Try.prog 13 #[.pointer (some ⟨y, 0, none⟩), .agg #[.int .i64 k, .int .i64 A, .int .i64 n]] W fun e W' => e = .returned (.tuple #[]) ∧ ∃ vs' vc' vw' zs', IsY w y pe (sendY P true n) vs' vc' vw' zs' W' := by
  subst hk
  obtain ⟨i2, hi2, hs0, hs1, hs2⟩ := info_parts Try.infoString
  obtain ⟨t1, t2, t3, t4⟩ := aOf_tmod A
  have HT1 := Lib.hid t1
  have HT2 := Lib.hid t2
  rw [hA] at HT1 HT2
  obtain ⟨q, hq⟩ : ∃ q, A.tmod 2 = q := ⟨_, rfl⟩
  rw [hq] at t3 t4 HT1 HT2
  have HY := Lib.hid hY
  have HG := Lib.hid hG
  have HF := Lib.hid hF
  have HA := Lib.hid hA
  clear hY hG hF hA t1 t2
  have hbA := (Below.refl _ W).alloc (Nat.le_refl _) (.cells #[.int .i64 1, .int .i64 A, .int .i64 n] 28)
  have HY0 := Lib.hid (HY.out.below hbA)
  have hq0 := block_new W (.cells #[.int .i64 1, .int .i64 A, .int .i64 n] 28)
  obtain ⟨W0, hW0⟩ : ∃ W0, W.alloc (.cells #[.int .i64 1, .int .i64 A, .int .i64 n] 28) = W0 := ⟨_, rfl⟩
  obtain ⟨b, hbn⟩ : ∃ b, W.heap.size = b := ⟨_, rfl⟩
  have HWB : Hid (w.heap.size ≤ b ∧ y < b) := Lib.hid (by rw [← hbn]; exact ⟨Nat.le_trans HY.out.low (Nat.le_of_lt (lt_of_block HY.out.b)), lt_of_block HY.out.b⟩)
  rw [hW0] at HY0 hq0
  rw [hbn] at hq0
  have HPK := Lib.hid hq0
  have HW0 := Lib.hid hW0
  have HBN := Lib.hid hbn
  clear hbA hq0 hW0 hbn HY
  go_enter Try.func13, Try.ntmps13
  go_upto_if 12 with fail
  clear hq
  rw [HW0.out, HBN.out]
  have d0 := cell_at HPK.out 0
  have d1 := cell_at HPK.out 1
  have d2 := cell_at HPK.out 2
  have hb0 := HY0.out.b
  have HB0 := Lib.hid hb0
  clear hb0
  go_cut [4] (fun s4 wx => s4 = .int .i64 1 ∧ W0 = wx)
  case first =>
    by_cases hq0 : q < 0
    · have e1 : -q = 1 := by have := HT1.out hq0; simpa using this
      have E1 := Lib.hid e1
      clear e1
      go_wp2_with fail
      go_meet
      exact ⟨by rw [E1.out], rfl⟩
    · have e1 : q = 1 := by have := HT2.out (by omega); simpa using this
      have E1 := Lib.hid e1
      clear e1
      go_wp2_with fail
      go_meet
      exact ⟨by rw [E1.out], rfl⟩
  case rest =>
  obtain ⟨rfl, rfl⟩ := hcut
  clear HT1 HT2 t3 t4 HW0 HBN
  have h2 : (2 : Int) = 2 := rfl
  obtain ⟨Av, cv, hv, kv1, kv2⟩ : ∃ A c, vs true = .slice A (P.sent true).length c ∧ (P.sent true).length ≤ c ∧ c ≤ maxLen := by
    have ho := HY0.out.rows.1 ⟨9, 1, vs true, (P.sent true).length, (P.sent true).map strY⟩ (by simp [rowsY])
    obtain ⟨A, c, e, h1, h2, _⟩ := own_slice ho
    exact ⟨A, c, e, h1, h2⟩
  have HV := Lib.hid hv
  obtain ⟨N, hN⟩ : ∃ N, (P.sent true).length = N := ⟨_, rfl⟩
  have hN9 : N ≤ 1000000 := by have := HF.out.sent true; omega
  have HN := Lib.hid hN
  have x2 := cell_at HB0.out 3
  rw [show (#[.pointer (some ⟨pe false, 0, none⟩), .pointer (some ⟨pe true, 0, none⟩), vs false, vs true, vc false, vc true, vw false, vw true, .int .i64 P.now] : Array Value)[3]? = some (vs true) from rfl, HV.out, HN.out] at x2
  obtain ⟨b0, hb0⟩ : ∃ b0 : Nat, (n % 256).toNat = b0 := ⟨_, rfl⟩
  obtain ⟨b1, hb1⟩ : ∃ b1 : Nat, N % 256 = b1 := ⟨_, rfl⟩
  have hbb0 : b0 < 256 := by omega
  have hbb1 : b1 < 256 := by omega
  have HU0 : Hid (IntKind.u8.wrap n = (b0 : Int)) := Lib.hid (by rw [IntKind.wrap_u8]; omega)
  have HU1 : Hid (IntKind.u8.wrap (N : Int) = (b1 : Int)) := Lib.hid (by rw [IntKind.wrap_u8]; omega)
  have HBO : Hid (bodyY P true n = [b0, b1]) := Lib.hid (by unfold bodyY; rw [HN.out, hb0, hb1])
  clear hv hN hb0 hb1 h2
  go_wp2_with fail
  refine wp_region_flow2 (fun W => Below W0.heap.size W0 W) (fun W => True) [0, 1, 2, 3, 4, 5, 6, 7, 8, 9, 10, 11, 12] (by kernel_rfl) (by kernel_rfl) (by kernel_rfl) ((Below.refl _ W0).drew) (trivial) ?_
  refine flow_val ?_ rfl (by kernel_rfl) (by rfl) (fun W hW => ?_) ?_
  rotate_left 1
  · go_simp <;> with_reducible rfl
  simp only [Act.put, List.setIfInBounds_toArray, List.set_cons_succ, List.set_cons_zero]
  refine flow_val ?_ rfl (by kernel_rfl) (by rfl) (fun W hW => ?_) ?_
  rotate_left 1
  · have c1 : W.cell? ⟨b, 2, none⟩ = some (.int .i64 n) := cell_at ((hW.block b (lt_of_block HPK.out)).trans HPK.out) 2; go_simp <;> with_reducible rfl
  simp only [Act.put, List.setIfInBounds_toArray, List.set_cons_succ, List.set_cons_zero]
  refine flow_val ?_ rfl (by kernel_rfl) (by rfl) (fun W hW => ?_) ?_
  rotate_left 1
  · go_simp; rw [HU0.out]
  simp only [Act.put, List.setIfInBounds_toArray, List.set_cons_succ, List.set_cons_zero]
  refine flow_val ?_ rfl (by kernel_rfl) (by rfl) (fun W hW => ?_) ?_
  rotate_left 1
  · go_simp <;> with_reducible rfl
  simp only [Act.put, List.setIfInBounds_toArray, List.set_cons_succ, List.set_cons_zero]
  refine flow_val ?_ rfl (by kernel_rfl) (by rfl) (fun W hW => ?_) ?_
  rotate_left 1
  · go_simp <;> with_reducible rfl
  simp only [Act.put, List.setIfInBounds_toArray, List.set_cons_succ, List.set_cons_zero]
  refine flow_val ?_ rfl (by kernel_rfl) (by rfl) (fun W hW => ?_) ?_
  rotate_left 1
  · go_simp <;> with_reducible rfl
  simp only [Act.put, List.setIfInBounds_toArray, List.set_cons_succ, List.set_cons_zero]
  refine flow_val ?_ rfl (by kernel_rfl) (by rfl) (fun W hW => ?_) ?_
  rotate_left 1
  · go_simp <;> with_reducible rfl
  simp only [Act.put, List.setIfInBounds_toArray, List.set_cons_succ, List.set_cons_zero]
  refine flow_val ?_ rfl (by kernel_rfl) (by rfl) (fun W hW => ?_) ?_
  rotate_left 1
  · go_simp <;> with_reducible rfl
  simp only [Act.put, List.setIfInBounds_toArray, List.set_cons_succ, List.set_cons_zero]
  refine flow_val ?_ rfl (by kernel_rfl) (by rfl) (fun W hW => ?_) ?_
  rotate_left 1
  · have c1 : W.cell? ⟨y, 3, none⟩ = some (.slice Av N cv) := by rw [← x2]; simp only [World.cell?, hW.block y (lt_of_block HB0.out)]
    go_simp <;> with_reducible rfl
  simp only [Act.put, List.setIfInBounds_toArray, List.set_cons_succ, List.set_cons_zero]
  refine flow_val ?_ rfl (by kernel_rfl) (by rfl) (fun W hW => ?_) ?_
  rotate_left 1
  · go_simp <;> with_reducible rfl
  simp only [Act.put, List.setIfInBounds_toArray, List.set_cons_succ, List.set_cons_zero]
  refine flow_val ?_ rfl (by kernel_rfl) (by rfl) (fun W hW => ?_) ?_
  rotate_left 1
  · go_simp; rw [HU1.out]
  simp only [Act.put, List.setIfInBounds_toArray, List.set_cons_succ, List.set_cons_zero]
  refine flow_gmake (fun v W => ∃ g', v = .slice (some ⟨g', 0, none⟩) 2 2 ∧ W.heap[g']? = some (.cells #[.int .u8 b0, .int .u8 b1] 5 (0, 0)) ∧ W0.heap.size ≤ g') rfl (by kernel_rfl) (by rfl) (by kernel_rfl) (fun W hW hC => ?_) ?_
  · have hb : Below W.heap.size W (W.alloc (.cells #[.int .u8 b0, .int .u8 b1] 5)) := (Below.refl _ W).alloc (Nat.le_refl _) _
    exact ⟨_, _, by go_simp <;> with_reducible rfl, hW.trans (hb.mono hW.size), ⟨_, rfl, block_new _ _, hW.size⟩⟩
  rintro v30 ⟨_, _, gb, rfl, _⟩
  simp only [Act.put, List.setIfInBounds_toArray, List.set_cons_succ, List.set_cons_zero]
  refine flow_val ?_ rfl (by kernel_rfl) (by rfl) (fun W hW => ?_) ?_
  rotate_left 1
  · go_simp <;> with_reducible rfl
  simp only [Act.put, List.setIfInBounds_toArray, List.set_cons_succ, List.set_cons_zero]
  refine flow_done2 ?_
  rintro W1 hW1 ⟨g', e1, hg', hg0⟩
  injection e1 with e1
  injection e1 with e1
  injection e1 with e1 _ _
  subst e1
  have HGB := Lib.hid hg'
  have hbW : Below W0.heap.size W0 W1 := hW1.1
  have HY1 := Lib.hid (HY0.out.below hbW)
  have HP1 := Lib.hid ((hbW.block b (lt_of_block HPK.out)).trans HPK.out)
  have hb1 := HY1.out.b
  have HB1 := Lib.hid hb1
  clear hW1 hg' hbW hb1 HB0 HPK HY0 d0 d1 d2 x2 HU0 HU1 hg0
  obtain ⟨K, hK⟩ : ∃ K, sendP (P.e true) [b0, b1] = K := ⟨_, rfl⟩
  obtain ⟨E, hE⟩ : ∃ E, sendE (P.e true) [b0, b1] = E := ⟨_, rfl⟩
  obtain ⟨P2, hP2⟩ : ∃ P2 : Play, { P with e := upB P.e true (sendS (P.e true) [b0, b1] P.now) } = P2 := ⟨_, rfl⟩
  obtain ⟨nw, hnw⟩ : ∃ nw, P.now = nw := ⟨_, rfl⟩
  have HNW := Lib.hid hnw
  have HSC : Hid (∀ W, IsY w y pe P vs vc vw zs W → W.heap[gb]? = some (.cells #[.int .u8 b0, .int .u8 b1] 5 (0, 0)) → Calls Try.prog 19 #[.pointer (some ⟨pe true, 0, none⟩), .slice (some ⟨gb, 0, none⟩) 2 2, .int .i64 nw] W fun e W' => ∃ v, e = .returned v ∧ (∃ v1, v = .tuple #[v1, .int .i64 E] ∧ IsP W' v1 K) ∧ IsY w y pe P2 vs vc vw zs W' ∧ Keeps W W') := Lib.hid (fun W h hb => by
    subst hK; subst hE; subst hP2; subst hnw
    have h1 := HG.out.right.sent true
    have h2 := HF.out.sent true
    have h3 := HF.out.now
    have h4 := HG.out.now
    exact h.sendE true [b0, b1] (some ⟨gb, 0, none⟩) 2 (byo_two hb hbb0 hbb1) (by omega) (by omega))
  have HYK : Hid (∀ W W', IsY w y pe P vs vc vw zs W → IsY w y pe P2 vs vc vw zs W' → W'.heap[y]? = W.heap[y]?) := Lib.hid (fun W W' h h' => by
    subst hP2
    exact isy_keep h h')
  have HNR : Hid (∀ g, NoRow P vs vc vw zs g → NoRow P2 vs vc vw zs g) := Lib.hid (by
    subst hP2
    exact fun g h => h)
  have HON : Hid (sendY P true n = if E = 0 then putY { P2 with sent := upB P2.sent true (P2.sent true ++ [[b0, b1]]) } false K else P) := Lib.hid (by
    subst hK; subst hE; subst hP2
    unfold sendY
    rw [HBO.out]
    rfl)
  have HNE : Hid (E ≠ 0 → P2 = P) := Lib.hid (fun h => by
    subst hK; subst hE; subst hP2
    unfold sendS
    rw [if_neg h, upB_self])
  have HCM2 : Hid ((P2.sent true).length ≤ 1000000) := Lib.hid (by subst hP2; show (P.sent true).length ≤ _; have := HN.out; omega)
  have HWT2 : Hid ((P2.way false).length ≤ 400) := Lib.hid (by subst hP2; exact HG.out.way false)
  clear hK hE hP2 hnw
  go_wp2_with fail
  apply wp_region_three (M := RD7 w y pe P2 vs vc vw zs K gb b0 b1) (hm := by kernel_rfl)
  case h =>
    refine ok_split 15 11 (by decide) ?_ ?_
    · simp only [addAfter, addL]
      refine ok_flow (fun W => W.heap[y]? = W1.heap[y]? ∧ W.heap[gb]? = W1.heap[gb]?) (fun W => IsY w y pe P vs vc vw zs W) [0, 1, 2, 3, 4, 5, 6, 7, 8, 9, 10, 11, 12, 13, 14, 15, 16, 17] (fun _ => trivial) rfl (fun _ _ _ _ _ h => callsIn_wide.2 h) (by kernel_rfl) (by kernel_rfl) (⟨rfl, rfl⟩) (HY1.out.below (Below.refl _ W1).drew) ?_
      refine flow_val ?_ rfl (by kernel_rfl) (by rfl) (fun W hW => ?_) ?_
      rotate_left 1
      · go_simp <;> with_reducible rfl
      simp only [Act.put, List.setIfInBounds_toArray, List.set_cons_succ, List.set_cons_zero]
      refine flow_val ?_ rfl (by kernel_rfl) (by rfl) (fun W hW => ?_) ?_
      rotate_left 1
      · go_simp <;> with_reducible rfl
      simp only [Act.put, List.setIfInBounds_toArray, List.set_cons_succ, List.set_cons_zero]
      refine flow_val ?_ rfl (by kernel_rfl) (by rfl) (fun W hW => ?_) ?_
      rotate_left 1
      · go_simp <;> with_reducible rfl
      simp only [Act.put, List.setIfInBounds_toArray, List.set_cons_succ, List.set_cons_zero]
      refine flow_val ?_ rfl (by kernel_rfl) (by rfl) (fun W hW => ?_) ?_
      rotate_left 1
      · go_simp <;> with_reducible rfl
      simp only [Act.put, List.setIfInBounds_toArray, List.set_cons_succ, List.set_cons_zero]
      refine flow_val ?_ rfl (by kernel_rfl) (by rfl) (fun W hW => ?_) ?_
      rotate_left 1
      · go_simp <;> with_reducible rfl
      simp only [Act.put, List.setIfInBounds_toArray, List.set_cons_succ, List.set_cons_zero]
      refine flow_val ?_ rfl (by kernel_rfl) (by rfl) (fun W hW => ?_) ?_
      rotate_left 1
      · have c1 : W.cell? ⟨y, 1, none⟩ = some (.pointer (some ⟨pe true, 0, none⟩)) := cell_at (hW.1.trans HB1.out) 1; go_simp <;> with_reducible rfl
      simp only [Act.put, List.setIfInBounds_toArray, List.set_cons_succ, List.set_cons_zero]
      refine flow_val ?_ rfl (by kernel_rfl) (by rfl) (fun W hW => ?_) ?_
      rotate_left 1
      · go_simp <;> with_reducible rfl
      simp only [Act.put, List.setIfInBounds_toArray, List.set_cons_succ, List.set_cons_zero]
      refine flow_val ?_ rfl (by kernel_rfl) (by rfl) (fun W hW => ?_) ?_
      rotate_left 1
      · go_simp <;> with_reducible rfl
      simp only [Act.put, List.setIfInBounds_toArray, List.set_cons_succ, List.set_cons_zero]
      refine flow_val ?_ rfl (by kernel_rfl) (by rfl) (fun W hW => ?_) ?_
      rotate_left 1
      · go_simp <;> with_reducible rfl
      simp only [Act.put, List.setIfInBounds_toArray, List.set_cons_succ, List.set_cons_zero]
      refine flow_val ?_ rfl (by kernel_rfl) (by rfl) (fun W hW => ?_) ?_
      rotate_left 1
      · go_simp <;> with_reducible rfl
      simp only [Act.put, List.setIfInBounds_toArray, List.set_cons_succ, List.set_cons_zero]
      refine flow_val ?_ rfl (by kernel_rfl) (by rfl) (fun W hW => ?_) ?_
      rotate_left 1
      · have c1 : W.cell? ⟨y, 8, none⟩ = some (.int .i64 nw) := (cell_at (hW.1.trans HB1.out) 8).trans (by rw [← HNW.out]; rfl); go_simp <;> with_reducible rfl
      simp only [Act.put, List.setIfInBounds_toArray, List.set_cons_succ, List.set_cons_zero]
      refine flow_gcall (fun v W => ∃ v1, v = .tuple #[v1, .int .i64 E] ∧ IsP W v1 K ∧ IsY w y pe P2 vs vc vw zs W) rfl (by kernel_rfl) (by rfl) (by kernel_rfl) (fun W hW hC => ?_) ?_
      · have hC1 := hC
        have hWW := hW
        refine ⟨_, _, _, by go_simp, (HSC.out W hC1 (hWW.2.trans HGB.out)).mono fun e w1 ⟨v, he, ⟨v1, h4, h6⟩, hy, hk⟩ => ⟨v, he, ⟨(HYK.out _ _ hC1 hy).trans hWW.1, (hk.2 _ _ _ _ (hWW.2.trans HGB.out) (by decide) (by decide)).trans HGB.out.symm⟩, v1, h4, h6, hy⟩⟩
      rintro v43 ⟨_, _, v1, rfl, ⟨bx, rfl, hbx⟩, _⟩
      simp only [Act.put, List.setIfInBounds_toArray, List.set_cons_succ, List.set_cons_zero]
      obtain ⟨Aq, cq, rfl, _, _, _, _⟩ := byo_slice hbx
      clear hbx
      refine flow_val ?_ rfl (by kernel_rfl) (by rfl) (fun W hW => ?_) ?_
      rotate_left 1
      · go_simp <;> with_reducible rfl
      simp only [Act.put, List.setIfInBounds_toArray, List.set_cons_succ, List.set_cons_zero]
      refine flow_val ?_ rfl (by kernel_rfl) (by rfl) (fun W hW => ?_) ?_
      rotate_left 1
      · go_simp <;> with_reducible rfl
      simp only [Act.put, List.setIfInBounds_toArray, List.set_cons_succ, List.set_cons_zero]
      refine flow_val ?_ rfl (by kernel_rfl) (by rfl) (fun W hW => ?_) ?_
      rotate_left 1
      · go_simp <;> with_reducible rfl
      simp only [Act.put, List.setIfInBounds_toArray, List.set_cons_succ, List.set_cons_zero]
      refine flow_gmake (fun v W => ∃ g6, v = .pointer (some ⟨g6, 0, none⟩) ∧ W.heap[g6]? = some (.cells #[.int .i64 0, .int .i64 0, .slice none 0 0] 43 (0, 0)) ∧ w.heap.size ≤ g6 ∧ ByO W (.slice Aq K.body.length cq) K.body ∧ IsY w y pe P2 vs vc vw zs W ∧ NoRow P2 vs vc vw zs g6) rfl (by kernel_rfl) (by rfl) (by kernel_rfl) (fun W hW hC => ?_) ?_
      · have hWW := hW.1
        have hbb : Below W.heap.size W (W.alloc (.cells #[.int .i64 0, .int .i64 0, .slice none 0 0] 43)) := (Below.refl _ W).alloc (Nat.le_refl _) _
        obtain ⟨v1, e1, ⟨bx, e2, h6⟩, hy⟩ := hC
        subst e2
        simp at e1
        subst e1
        exact ⟨_, _, by go_simp <;> with_reducible rfl, ⟨⟨(hbb.block _ (lt_of_block (hWW.1.trans HB1.out))).trans hWW.1, (hbb.block _ (lt_of_block (hWW.2.trans HGB.out))).trans hWW.2⟩, trivial⟩, ⟨_, rfl, block_new _ _, hy.two.bel.size, h6.below hbb, hy.below hbb, hy.norow_new (Nat.le_refl _)⟩⟩
      rintro v6 ⟨_, _, g6, rfl, _⟩
      simp only [Act.put, List.setIfInBounds_toArray, List.set_cons_succ, List.set_cons_zero]
      refine flow_store (fun W => RD7 w y pe P2 vs vc vw zs K gb b0 b1 Aq cq g6 W) rfl (by kernel_rfl) (by rfl) (by kernel_rfl) (fun W hW hC => ?_) ?_
      · obtain ⟨g2, e2, h14, hg14, h6, hy, hnr⟩ := hC
        injection e2 with e2
        injection e2 with e2
        injection e2 with e2 _ _
        subst e2
        have hgb := hW.1.1.2.trans HGB.out
        have q0 := cell_at h14 0
        have q1 := cell_at h14 1
        have q2 := cell_at h14 2
        have z0 := frozen_at h14 0
        have z1 := frozen_at h14 1
        have z2 := frozen_at h14 2
        have H8 := Lib.hid h14
        have H6 := Lib.hid h6
        have HYY := Lib.hid hy
        have HNR2 := Lib.hid hnr
        have HG14 := Lib.hid hg14
        have HGB2 := Lib.hid hgb
        have HS1 := Lib.hid hW.1.1.1
        have HS2 := Lib.hid hW.1.1.2
        clear h14 h6 hy hnr hW hg14 hgb
        refine ⟨_, by go_simp <;> with_reducible rfl, ?_⟩
        obtain ⟨W5, hW5, _, _, _, f5, _⟩ := pkt_store H8.out (.int .i64 K.seq) (.int .i64 K.ack) (.slice Aq K.body.length cq)
        have hne : g6 ≠ y := block_ne H8.out HYY.out.b (by decide)
        have hng : g6 ≠ gb := (block_ne HGB2.out H8.out (by decide)).symm
        refine ⟨⟨⟨⟨?_, ?_⟩, trivial⟩, trivial⟩, ?_, ?_, ?_, ?_, HG14.out, HNR2.out⟩
        · rw [hW5]; exact (f5.block y (lt_of_block HYY.out.b) (.inr ⟨fun _ _ _ _ => by simp, by simp; exact hne.symm⟩)).trans HS1.out
        · rw [hW5]; exact (f5.block gb (lt_of_block HGB2.out) (.inr ⟨fun _ _ _ _ => by simp, by simp; exact hng.symm⟩)).trans HS2.out
        · rw [hW5]; exact HYY.out.farP f5 H8.out HG14.out HNR2.out
        · rw [hW5]; exact f5.keep HGB2.out (by simp) (by simp; exact block_ne HGB2.out H8.out (by decide))
        · simpa using block_set (block_set (block_set H8.out 0 (.int .i64 K.seq)) 1 (.int .i64 K.ack)) 2 (.slice Aq K.body.length cq)
        · rw [hW5]; exact H6.out.far f5 H8.out (by decide)
      simp only [Act.put]
      refine flow_val ?_ rfl (by kernel_rfl) (by rfl) (fun W hW => ?_) ?_
      rotate_left 1
      · go_simp <;> with_reducible rfl
      simp only [Act.put, List.setIfInBounds_toArray, List.set_cons_succ, List.set_cons_zero]
      refine flow_end ?_
      rintro W _ hR
      exact .inl ⟨by trivial, Aq, cq, g6, rfl, hR⟩
    · simp only [addAfter, addL]
      refine ok_flow (fun W => W.heap[y]? = W1.heap[y]? ∧ W.heap[gb]? = W1.heap[gb]?) (fun W => IsY w y pe P vs vc vw zs W) [0, 1, 2, 3, 4, 5, 6, 7, 8, 9, 10, 15, 11, 12, 13, 14, 16, 17] (fun _ => trivial) rfl (fun _ _ _ _ _ h => callsIn_wide.2 h) (by kernel_rfl) (by kernel_rfl) (⟨rfl, rfl⟩) (HY1.out.below (Below.refl _ W1).drew) ?_
      refine flow_val ?_ rfl (by kernel_rfl) (by rfl) (fun W hW => ?_) ?_
      rotate_left 1
      · go_simp <;> with_reducible rfl
      simp only [Act.put, List.setIfInBounds_toArray, List.set_cons_succ, List.set_cons_zero]
      refine flow_val ?_ rfl (by kernel_rfl) (by rfl) (fun W hW => ?_) ?_
      rotate_left 1
      · go_simp <;> with_reducible rfl
      simp only [Act.put, List.setIfInBounds_toArray, List.set_cons_succ, List.set_cons_zero]
      refine flow_val ?_ rfl (by kernel_rfl) (by rfl) (fun W hW => ?_) ?_
      rotate_left 1
      · go_simp <;> with_reducible rfl
      simp only [Act.put, List.setIfInBounds_toArray, List.set_cons_succ, List.set_cons_zero]
      refine flow_val ?_ rfl (by kernel_rfl) (by rfl) (fun W hW => ?_) ?_
      rotate_left 1
      · go_simp <;> with_reducible rfl
      simp only [Act.put, List.setIfInBounds_toArray, List.set_cons_succ, List.set_cons_zero]
      refine flow_val ?_ rfl (by kernel_rfl) (by rfl) (fun W hW => ?_) ?_
      rotate_left 1
      · go_simp <;> with_reducible rfl
      simp only [Act.put, List.setIfInBounds_toArray, List.set_cons_succ, List.set_cons_zero]
      refine flow_val ?_ rfl (by kernel_rfl) (by rfl) (fun W hW => ?_) ?_
      rotate_left 1
      · have c1 : W.cell? ⟨y, 1, none⟩ = some (.pointer (some ⟨pe true, 0, none⟩)) := cell_at (hW.1.trans HB1.out) 1; go_simp <;> with_reducible rfl
      simp only [Act.put, List.setIfInBounds_toArray, List.set_cons_succ, List.set_cons_zero]
      refine flow_val ?_ rfl (by kernel_rfl) (by rfl) (fun W hW => ?_) ?_
      rotate_left 1
      · go_simp <;> with_reducible rfl
      simp only [Act.put, List.setIfInBounds_toArray, List.set_cons_succ, List.set_cons_zero]
      refine flow_val ?_ rfl (by kernel_rfl) (by rfl) (fun W hW => ?_) ?_
      rotate_left 1
      · go_simp <;> with_reducible rfl
      simp only [Act.put, List.setIfInBounds_toArray, List.set_cons_succ, List.set_cons_zero]
      refine flow_val ?_ rfl (by kernel_rfl) (by rfl) (fun W hW => ?_) ?_
      rotate_left 1
      · go_simp <;> with_reducible rfl
      simp only [Act.put, List.setIfInBounds_toArray, List.set_cons_succ, List.set_cons_zero]
      refine flow_val ?_ rfl (by kernel_rfl) (by rfl) (fun W hW => ?_) ?_
      rotate_left 1
      · go_simp <;> with_reducible rfl
      simp only [Act.put, List.setIfInBounds_toArray, List.set_cons_succ, List.set_cons_zero]
      refine flow_val ?_ rfl (by kernel_rfl) (by rfl) (fun W hW => ?_) ?_
      rotate_left 1
      · have c1 : W.cell? ⟨y, 8, none⟩ = some (.int .i64 nw) := (cell_at (hW.1.trans HB1.out) 8).trans (by rw [← HNW.out]; rfl); go_simp <;> with_reducible rfl
      simp only [Act.put, List.setIfInBounds_toArray, List.set_cons_succ, List.set_cons_zero]
      refine flow_gmake (fun v W => ∃ g6, v = .pointer (some ⟨g6, 0, none⟩) ∧ W.heap[g6]? = some (.cells #[.int .i64 0, .int .i64 0, .slice none 0 0] 43 (0, 0)) ∧ w.heap.size ≤ g6 ∧ NoRow P vs vc vw zs g6 ∧ IsY w y pe P vs vc vw zs W) rfl (by kernel_rfl) (by rfl) (by kernel_rfl) (fun W hW hC => ?_) ?_
      · have hWW := hW
        have hbb : Below W.heap.size W (W.alloc (.cells #[.int .i64 0, .int .i64 0, .slice none 0 0] 43)) := (Below.refl _ W).alloc (Nat.le_refl _) _
        exact ⟨_, _, by go_simp <;> with_reducible rfl, ⟨(hbb.block _ (lt_of_block (hWW.1.trans HB1.out))).trans hWW.1, (hbb.block _ (lt_of_block (hWW.2.trans HGB.out))).trans hWW.2⟩, ⟨_, rfl, block_new _ _, hC.two.bel.size, hC.norow_new (Nat.le_refl _), hC.below hbb⟩⟩
      rintro v6 ⟨_, _, g6, rfl, _⟩
      simp only [Act.put, List.setIfInBounds_toArray, List.set_cons_succ, List.set_cons_zero]
      refine flow_gcall (fun v W => ∃ v1, v = .tuple #[v1, .int .i64 E] ∧ IsP W v1 K ∧ IsY w y pe P2 vs vc vw zs W ∧ W.heap[g6]? = some (.cells #[.int .i64 0, .int .i64 0, .slice none 0 0] 43 (0, 0)) ∧ w.heap.size ≤ g6 ∧ NoRow P2 vs vc vw zs g6) rfl (by kernel_rfl) (by rfl) (by kernel_rfl) (fun W hW hC => ?_) ?_
      · obtain ⟨g2, e2, h2, h3, h4n, hC1⟩ := hC
        injection e2 with e2
        injection e2 with e2
        injection e2 with e2 _ _
        subst e2
        have hWW := hW.1
        refine ⟨_, _, _, by go_simp, (HSC.out W hC1 (hWW.2.trans HGB.out)).mono fun e w1 ⟨v, he, ⟨v1, h4, h6⟩, hy, hk⟩ => ⟨v, he, ⟨⟨(HYK.out _ _ hC1 hy).trans hWW.1, (hk.2 _ _ _ _ (hWW.2.trans HGB.out) (by decide) (by decide)).trans HGB.out.symm⟩, trivial⟩, v1, h4, h6, hy, hk.2 _ _ _ _ h2 (by decide) (by decide), h3, HNR.out _ h4n⟩⟩
      rintro v43 ⟨_, _, v1, rfl, ⟨bx, rfl, hbx⟩, _⟩
      simp only [Act.put, List.setIfInBounds_toArray, List.set_cons_succ, List.set_cons_zero]
      obtain ⟨Aq, cq, rfl, _, _, _, _⟩ := byo_slice hbx
      clear hbx
      refine flow_val ?_ rfl (by kernel_rfl) (by rfl) (fun W hW => ?_) ?_
      rotate_left 1
      · go_simp <;> with_reducible rfl
      simp only [Act.put, List.setIfInBounds_toArray, List.set_cons_succ, List.set_cons_zero]
      refine flow_val ?_ rfl (by kernel_rfl) (by rfl) (fun W hW => ?_) ?_
      rotate_left 1
      · go_simp <;> with_reducible rfl
      simp only [Act.put, List.setIfInBounds_toArray, List.set_cons_succ, List.set_cons_zero]
      refine flow_val ?_ rfl (by kernel_rfl) (by rfl) (fun W hW => ?_) ?_
      rotate_left 1
      · go_simp <;> with_reducible rfl
      simp only [Act.put, List.setIfInBounds_toArray, List.set_cons_succ, List.set_cons_zero]
      refine flow_store (fun W => RD7 w y pe P2 vs vc vw zs K gb b0 b1 Aq cq g6 W) rfl (by kernel_rfl) (by rfl) (by kernel_rfl) (fun W hW hC => ?_) ?_
      · obtain ⟨v1, e1, ⟨bx, e2, h6⟩, hy, h14, hg14, hnr⟩ := hC
        subst e2
        simp at e1
        subst e1
        have hgb := hW.1.1.2.trans HGB.out
        have q0 := cell_at h14 0
        have q1 := cell_at h14 1
        have q2 := cell_at h14 2
        have z0 := frozen_at h14 0
        have z1 := frozen_at h14 1
        have z2 := frozen_at h14 2
        have H8 := Lib.hid h14
        have H6 := Lib.hid h6
        have HYY := Lib.hid hy
        have HNR2 := Lib.hid hnr
        have HG14 := Lib.hid hg14
        have HGB2 := Lib.hid hgb
        have HS1 := Lib.hid hW.1.1.1
        have HS2 := Lib.hid hW.1.1.2
        clear h14 h6 hy hnr hW hg14 hgb
        refine ⟨_, by go_simp <;> with_reducible rfl, ?_⟩
        obtain ⟨W5, hW5, _, _, _, f5, _⟩ := pkt_store H8.out (.int .i64 K.seq) (.int .i64 K.ack) (.slice Aq K.body.length cq)
        have hne : g6 ≠ y := block_ne H8.out HYY.out.b (by decide)
        have hng : g6 ≠ gb := (block_ne HGB2.out H8.out (by decide)).symm
        refine ⟨⟨⟨⟨?_, ?_⟩, trivial⟩, trivial⟩, ?_, ?_, ?_, ?_, HG14.out, HNR2.out⟩
        · rw [hW5]; exact (f5.block y (lt_of_block HYY.out.b) (.inr ⟨fun _ _ _ _ => by simp, by simp; exact hne.symm⟩)).trans HS1.out
        · rw [hW5]; exact (f5.block gb (lt_of_block HGB2.out) (.inr ⟨fun _ _ _ _ => by simp, by simp; exact hng.symm⟩)).trans HS2.out
        · rw [hW5]; exact HYY.out.farP f5 H8.out HG14.out HNR2.out
        · rw [hW5]; exact f5.keep HGB2.out (by simp) (by simp; exact block_ne HGB2.out H8.out (by decide))
        · simpa using block_set (block_set (block_set H8.out 0 (.int .i64 K.seq)) 1 (.int .i64 K.ack)) 2 (.slice Aq K.body.length cq)
        · rw [hW5]; exact H6.out.far f5 H8.out (by decide)
      simp only [Act.put]
      refine flow_val ?_ rfl (by kernel_rfl) (by rfl) (fun W hW => ?_) ?_
      rotate_left 1
      · go_simp <;> with_reducible rfl
      simp only [Act.put, List.setIfInBounds_toArray, List.set_cons_succ, List.set_cons_zero]
      refine flow_end ?_
      rintro W _ hR
      exact .inl ⟨by trivial, Aq, cq, g6, rfl, hR⟩
  case hk =>
    intro Aq cq g6 W8 hR8
    obtain ⟨hI2, hGB8, hK14, hKb, hg14, hnr⟩ := hR8
    have HI2 := Lib.hid hI2
    have HB8 : Hid (ByO W8 (.slice (some ⟨gb, 0, none⟩) 2 2) [b0, b1]) := Lib.hid (byo_two hGB8 hbb0 hbb1)
    have HK14 := Lib.hid hK14
    have HKB := Lib.hid hKb
    have HNRG := Lib.hid hnr
    have hne : g6 ≠ y := block_ne hK14 hI2.b (by decide)
    have HGNE := Lib.hid hne
    clear hI2 hGB8 hK14 hKb hnr hne hg14 HY1 HP1 HB1 HSC HYK HGB
    by_cases hE : E = 0
    · have hon := HON.out.trans (if_pos hE)
      have HON1 := Lib.hid hon
      subst hE
      clear hon HON HNE
      go_wp2_with fail
      obtain ⟨Ar, cr, hvr, kr1, kr2⟩ : ∃ A c, vs true = .slice A (P2.sent true).length c ∧ (P2.sent true).length ≤ c ∧ c ≤ maxLen := by
        obtain ⟨A', c', e, h1, h2, _⟩ := own_slice (HI2.out.rows.1 ⟨9, 1, vs true, (P2.sent true).length, (P2.sent true).map strY⟩ (by simp [rowsY]))
        exact ⟨A', c', e, h1, h2⟩
      have HVR := Lib.hid hvr
      obtain ⟨m, hm⟩ : ∃ m, (P2.sent true).length = m := ⟨_, rfl⟩
      have hm1 : m ≤ 1000000 := by rw [← hm]; exact HCM2.out
      have HM := Lib.hid hm
      have hbr := HI2.out.b
      rw [show vs true = _ from HVR.out] at hbr
      rw [hm] at kr1 hbr
      have HBR := Lib.hid hbr
      obtain ⟨S, hS⟩ : ∃ S, strOf [b0, b1] = S := ⟨_, rfl⟩
      have HS := Lib.hid hS
      have HNY : Hid (NoRow P2 vs vc vw zs y) := Lib.hid (HI2.out.norow HI2.out.b (by decide) (by decide))
      have HNB : Hid (∀ g cs fz, W8.heap[g]? = some (.cells cs 5 fz) → NoRow P2 vs vc vw zs g) := Lib.hid (fun g cs fz hc => HI2.out.norow hc (by decide) (by decide))
      have HCV : Hid (∀ W, (W8.heap.size ≤ W.heap.size ∧ ∀ g, g < W8.heap.size → NoRow P2 vs vc vw zs g → W.heap[g]? = W8.heap[g]?) → (convert 41 9 (.slice (some ⟨gb, 0, none⟩) 2 2)).run Try.prog W = .ok (.string S) W) := Lib.hid (fun W hW => by
        have hby : ByO W (.slice (some ⟨gb, 0, none⟩) 2 2) [b0, b1] := ⟨HB8.out.1.keep fun k cs fz _ hc => (hW.2 k (lt_of_block hc) (HNB.out k cs fz hc)).trans hc, HB8.out.2⟩
        obtain ⟨_, _, e1, _, _, hrd, _⟩ := byo_slice hby
        injection e1 with e1 e2 e3
        subst e1; subst e3
        exact HS.out ▸ run_str W _ _ _ _ hrd hby.2)
      clear hvr hm hbr hS
      refine wp_region_flow2 (fun W => W8.heap.size ≤ W.heap.size ∧ ∀ g, g < W8.heap.size → NoRow P2 vs vc vw zs g → W.heap[g]? = W8.heap[g]?) (fun W => IsY w y pe P2 vs vc vw zs W ∧ KeepsB W8 W) [0, 1, 2, 3, 4, 5, 6, 7, 8, 9, 12, 13, 10, 11, 14, 15] (by kernel_rfl) (by kernel_rfl) (by kernel_rfl) (⟨Nat.le_refl _, fun _ _ _ => rfl⟩) (⟨HI2.out.below (Below.refl _ W8).drew, KeepsB.below (Below.refl _ W8).drew⟩) ?_
      refine flow_val ?_ rfl (by kernel_rfl) (by rfl) (fun W hW => ?_) ?_
      rotate_left 1
      · go_simp <;> with_reducible rfl
      simp only [Act.put, List.setIfInBounds_toArray, List.set_cons_succ, List.set_cons_zero]
      refine flow_val ?_ rfl (by kernel_rfl) (by rfl) (fun W hW => ?_) ?_
      rotate_left 1
      · go_simp <;> with_reducible rfl
      simp only [Act.put, List.setIfInBounds_toArray, List.set_cons_succ, List.set_cons_zero]
      refine flow_val ?_ rfl (by kernel_rfl) (by rfl) (fun W hW => ?_) ?_
      rotate_left 1
      · go_simp <;> with_reducible rfl
      simp only [Act.put, List.setIfInBounds_toArray, List.set_cons_succ, List.set_cons_zero]
      refine flow_val ?_ rfl (by kernel_rfl) (by rfl) (fun W hW => ?_) ?_
      rotate_left 1
      · go_simp <;> with_reducible rfl
      simp only [Act.put, List.setIfInBounds_toArray, List.set_cons_succ, List.set_cons_zero]
      refine flow_val ?_ rfl (by kernel_rfl) (by rfl) (fun W hW => ?_) ?_
      rotate_left 1
      · go_simp <;> with_reducible rfl
      simp only [Act.put, List.setIfInBounds_toArray, List.set_cons_succ, List.set_cons_zero]
      refine flow_val ?_ rfl (by kernel_rfl) (by rfl) (fun W hW => ?_) ?_
      rotate_left 1
      · go_simp <;> with_reducible rfl
      simp only [Act.put, List.setIfInBounds_toArray, List.set_cons_succ, List.set_cons_zero]
      refine flow_val ?_ rfl (by kernel_rfl) (by rfl) (fun W hW => ?_) ?_
      rotate_left 1
      · go_simp <;> with_reducible rfl
      simp only [Act.put, List.setIfInBounds_toArray, List.set_cons_succ, List.set_cons_zero]
      refine flow_val ?_ rfl (by kernel_rfl) (by rfl) (fun W hW => ?_) ?_
      rotate_left 1
      · have c1 : W.cell? ⟨y, 3, none⟩ = some (.slice Ar m cr) := cell_at ((hW.2 y (lt_of_block HBR.out) HNY.out).trans HBR.out) 3; go_simp <;> with_reducible rfl
      simp only [Act.put, List.setIfInBounds_toArray, List.set_cons_succ, List.set_cons_zero]
      refine flow_val ?_ rfl (by kernel_rfl) (by rfl) (fun W hW => ?_) ?_
      rotate_left 1
      · go_simp <;> with_reducible rfl
      simp only [Act.put, List.setIfInBounds_toArray, List.set_cons_succ, List.set_cons_zero]
      refine flow_val ?_ rfl (by kernel_rfl) (by rfl) (fun W hW => ?_) ?_
      rotate_left 1
      · have c1 := HCV.out W hW; go_simp <;> with_reducible rfl
      simp only [Act.put, List.setIfInBounds_toArray, List.set_cons_succ, List.set_cons_zero]
      refine flow_val ?_ rfl (by kernel_rfl) (by rfl) (fun W hW => ?_) ?_
      rotate_left 1
      · go_simp <;> with_reducible rfl
      simp only [Act.put, List.setIfInBounds_toArray, List.set_cons_succ, List.set_cons_zero]
      refine flow_val ?_ rfl (by kernel_rfl) (by rfl) (fun W hW => ?_) ?_
      rotate_left 1
      · go_simp <;> with_reducible rfl
      simp only [Act.put, List.setIfInBounds_toArray, List.set_cons_succ, List.set_cons_zero]
      refine flow_gmake (fun v W => ∃ g', v = .slice (some ⟨g', 0, none⟩) 1 1 ∧ W.heap[g']? = some (.cells #[.string S] 9 (0, 0)) ∧ IsY w y pe P2 vs vc vw zs W ∧ KeepsB W8 W) rfl (by kernel_rfl) (by rfl) (by kernel_rfl) (fun W hW hC => ?_) ?_
      · have hb : Below W.heap.size W (W.alloc (.cells #[.string S] 9)) := (Below.refl _ W).alloc (Nat.le_refl _) _
        exact ⟨_, _, by go_simp <;> with_reducible rfl, ⟨Nat.le_trans hW.1 hb.size, fun g hg hr => (hb.block _ (Nat.lt_of_lt_of_le hg hW.1)).trans (hW.2 g hg hr)⟩, ⟨_, rfl, block_new _ _, hC.1.below hb, fun v bs hh => (hC.2 v bs hh).below hb⟩⟩
      rintro vb ⟨_, _, gb, rfl, _, _⟩
      simp only [Act.put, List.setIfInBounds_toArray, List.set_cons_succ, List.set_cons_zero]
      refine flow_gmake (fun v W => YF w y pe P2 vs vc vw zs ((rowsY P2 vs vc vw zs).set 1 ⟨9, 1, v, m + 1, (P2.sent true).map strY ++ [.string S]⟩) W ∧ KeepsB W8 W ∧ (v.ownBlock = (vs true).ownBlock ∨ ∃ g, v.ownBlock = some g ∧ W8.heap.size ≤ g)) rfl (by kernel_rfl) (by rfl) (by kernel_rfl) (fun W hW hC => ?_) ?_
      · obtain ⟨g2, e2, hg2, hC2, hC3⟩ := hC
        injection e2 with e2 _ _
        injection e2 with e2
        injection e2 with e2 _ _
        subst e2
        have hir : (rowsY P2 vs vc vw zs)[1]? = some ⟨9, 1, vs true, (P2.sent true).length, (P2.sent true).map strY⟩ := rfl
        have hor := hC2.rows.1 _ (List.mem_of_getElem? hir)
        simp only [HVR.out, HM.out] at hor hir
        refine exec_append_at (.tmp 55) (.tmp 58) 32 rfl w.heap.size 9 i2 (.string ByteArray.empty) 1 16 Try.underlying32 hi2 hs0 hs1 hs2 rfl (by decide) (.slice Ar m cr) m ((P2.sent true).map strY) rfl hor (some ⟨gb, 0, none⟩) 1 1 [.string S] rfl ⟨rfl, fun _ => ⟨_, _, rfl, lt_of_block hg2, fun j u hu => ?_⟩⟩ (by simp [Value.oneCell']) (by unfold maxLen; omega) (by omega) hC2.two.bel.size (fun v' w' x2 x3 x4 => ?_)
        · match j, hu with
          | 0, hu => simp at hu; subst hu; rw [cell_at hg2]; rfl
          | j + 1, hu => simp at hu
        · obtain ⟨hyf, hkb⟩ := hC2.grow hir (by show 9 ≠ 5; decide) (by show 9 ≠ 84; decide) (by show 9 ≠ 80; decide) (by show 9 ≠ 37; decide) x3 x2 x4
          refine ⟨⟨⟨Nat.le_trans hW.1.1 x3.size, fun g hg hr => ?_⟩, trivial⟩, hyf, fun v bs hh => hkb _ _ (hC3 v bs hh), ?_⟩
          · rw [x3.block g (Nat.lt_of_lt_of_le hg hW.1.1) (fun e => hr ⟨9, 1, vs true, (P2.sent true).length, (P2.sent true).map strY⟩ (by simp [rowsY]) (by simp only [HVR.out, HM.out]; exact e.symm))]
            exact hW.1.2 g hg hr
          · rcases x4 with x4 | x4
            · exact .inl (by rw [HVR.out, HM.out]; exact x4)
            · exact .inr ⟨_, x4, hW.1.1⟩
      rintro va ⟨_, _, hva, _⟩
      simp only [Act.put, List.setIfInBounds_toArray, List.set_cons_succ, List.set_cons_zero]
      obtain ⟨Aa, ca, ea⟩ : ∃ A' c', va = .slice A' (m + 1) c' := by
        obtain ⟨A', c', e, _⟩ := own_slice (hva.rows.1 ⟨9, 1, va, m + 1, (P2.sent true).map strY ++ [.string S]⟩ (by simp [rowsY]))
        exact ⟨A', c', e⟩
      subst ea
      clear hva
      refine flow_val ?_ rfl (by kernel_rfl) (by rfl) (fun W hW => ?_) ?_
      rotate_left 1
      · go_simp <;> with_reducible rfl
      simp only [Act.put, List.setIfInBounds_toArray, List.set_cons_succ, List.set_cons_zero]
      refine flow_bar (fun W => RetY w y pe P2 vs vc vw zs W8 { P2 with sent := upB P2.sent true (P2.sent true ++ [[b0, b1]]) } W) (fun _ => True) rfl (by kernel_rfl) (by rfl) (by kernel_rfl) (by kernel_rfl) (fun W hW hC => ?_) ?_
      · obtain ⟨hyf, hkb, hnew⟩ := hC
        have q1 := cell_at hyf.b 3
        have q2 := frozen_at hyf.b 3
        have HF := Lib.hid hyf
        have HKB := Lib.hid hkb
        have HNEW := Lib.hid hnew
        have HWW := Lib.hid hW.1.1
        clear hyf hkb hnew hW
        refine ⟨_, by go_simp <;> with_reducible rfl, ?_, trivial⟩
        obtain ⟨s1, s2, s3⟩ := HF.out.store (by simp [rowsY]) 3 (.slice Aa (m + 1) ca)
        refine ⟨upB vs true (.slice Aa (m + 1) ca), vc, vw, zs, ⟨?_, s2, HF.out.low, HI2.out.map, fun a z hz => s1 _ _ (HF.out.by_ a z hz), ?_⟩, fun v bs hh => s1 _ _ (HKB.out v bs hh), by simpa using HWW.out.1, fun g hg hy hr => ⟨?_, ?_⟩⟩
        · rw [block_set HF.out.b]; simp [upB]
        · have := s3
          simpa [rowsY, upB, HM.out, List.map_append, strY, HS.out] using this
        · exact (Below.heap_setCell _ _ _ g (by simpa using hy)).trans (HWW.out.2 g hg hr)
        · have hnw : (Value.slice Aa (m + 1) ca).ownBlock ≠ some g := by
            rcases HNEW.out with e | ⟨g', e, hg'⟩
            · rw [e]; exact hr ⟨9, 1, vs true, (P2.sent true).length, (P2.sent true).map strY⟩ (by simp [rowsY])
            · rw [e]; intro e2; injection e2 with e2; omega
          intro r hr2
          have hr3 := fun r hh => hr r hh
          simp only [rowsY, List.mem_cons, List.not_mem_nil, or_false] at hr2 hr3
          rcases hr2 with rfl | rfl | rfl | rfl | rfl | rfl
          · simpa [upB] using hr3 _ (.inl rfl)
          · simpa [upB] using hnw
          · simpa [upB] using hr3 _ (.inr (.inr (.inl rfl)))
          · simpa [upB] using hr3 _ (.inr (.inr (.inr (.inl rfl))))
          · simpa [upB] using hr3 _ (.inr (.inr (.inr (.inr (.inl rfl)))))
          · simpa [upB] using hr3 _ (.inr (.inr (.inr (.inr (.inr (rfl))))))
      simp only [Act.put]
      refine flow_done2 ?_
      intro WR hWR _
      obtain ⟨vs3, vc3, vw3, zs3, h1, h2, _, h4⟩ := hWR.1
      have hg3 := ((h4 g6 (lt_of_block HK14.out) HGNE.out HNRG.out).1).trans HK14.out
      have HY3 := Lib.hid h1
      have HB3 := Lib.hid (h2 _ _ HKB.out)
      have q0 := cell_at hg3 0
      have q1 := cell_at hg3 1
      have q2 := cell_at hg3 2
      obtain ⟨P3, hP3⟩ : ∃ P3, { P2 with sent := upB P2.sent true (P2.sent true ++ [[b0, b1]]) } = P3 := ⟨_, rfl⟩
      rw [hP3] at HY3
      have HWT3 : Hid ((P3.way false).length ≤ 400) := Lib.hid (by subst hP3; exact HWT2.out)
      have HON3 : Hid (sendY P true n = putY P3 false K) := Lib.hid (by rw [HON1.out, hP3])
      clear h1 h2 h4 hg3 hP3 hWR HI2 HB8 HK14 HKB HON1 HWT2 HCM2
      go_wp2_with fail
      refine (put_false w y pe P3 K Aq cq WR vs3 vc3 vw3 zs3 HY3.out HB3.out HWT3.out).mono ?_
      rintro e W9 ⟨rfl, hret⟩
      have HRET := Lib.hid hret
      clear hret q0 q1 q2
      go_wp2
      go_end0
      refine ⟨by simp, ?_⟩
      rw [HON3.out]
      obtain ⟨vs4, vc4, vw4, zs4, h1, _⟩ := HRET.out
      exact ⟨vs4, vc4, vw4, zs4, h1⟩
    · have hEb : (E == 0) = false := by simpa using hE
      have hon := HON.out.trans (if_neg hE)
      have HON1 := Lib.hid hon
      clear hon HON
      have HEE := Lib.hid hE
      clear hE
      go_wp2
      go_end0
      refine ⟨by simp, ?_⟩
      rw [HON1.out]
      have h := HI2.out
      rw [HNE.out HEE.out] at h
      exact ⟨_, _, _, _, h⟩

set_option maxRecDepth 100000 in
set_option maxHeartbeats 3000000 in
theorem dtick_true (w : World) (y : Nat) (pe : Bool → Nat) (P : Play) (k A n : Int) (W : World) (vs vc vw : Bool → Value) (zs : Bool → List (LPk × Value)) (hY : IsY w y pe P vs vc vw zs W) (hG : GoodY P) (m : Nat) (hF : FewY P m) (hm : m < 1000000) (hA : aOf A = true) (hk : k = 2) :
    Calls Try.prog 13 #[.pointer (some ⟨y, 0, none⟩), .agg #[.int .i64 k, .int .i64 A, .int .i64 n]] W fun e W' => e = .returned (.tuple #[]) ∧ ∃ vs' vc' vw' zs', IsY w y pe (ticksY P) vs' vc' vw' zs' W' := by
  subst hk
  obtain ⟨t1, t2, t3, t4⟩ := aOf_tmod A
  have HT1 := Lib.hid t1
  have HT2 := Lib.hid t2
  rw [hA] at HT1 HT2
  obtain ⟨q, hq⟩ : ∃ q, A.tmod 2 = q := ⟨_, rfl⟩
  rw [hq] at t3 t4 HT1 HT2
  have HY := Lib.hid hY
  have HG := Lib.hid hG
  have HF := Lib.hid hF
  have HA := Lib.hid hA
  clear hY hG hF hA t1 t2
  have hbA := (Below.refl _ W).alloc (Nat.le_refl _) (.cells #[.int .i64 2, .int .i64 A, .int .i64 n] 28)
  have HY0 := Lib.hid (HY.out.below hbA)
  have hq0 := block_new W (.cells #[.int .i64 2, .int .i64 A, .int .i64 n] 28)
  obtain ⟨W0, hW0⟩ : ∃ W0, W.alloc (.cells #[.int .i64 2, .int .i64 A, .int .i64 n] 28) = W0 := ⟨_, rfl⟩
  obtain ⟨b, hbn⟩ : ∃ b, W.heap.size = b := ⟨_, rfl⟩
  have HWB : Hid (w.heap.size ≤ b ∧ y < b) := Lib.hid (by rw [← hbn]; exact ⟨Nat.le_trans HY.out.low (Nat.le_of_lt (lt_of_block HY.out.b)), lt_of_block HY.out.b⟩)
  rw [hW0] at HY0 hq0
  rw [hbn] at hq0
  have HPK := Lib.hid hq0
  have HW0 := Lib.hid hW0
  have HBN := Lib.hid hbn
  clear hbA hq0 hW0 hbn HY
  go_enter Try.func13, Try.ntmps13
  go_upto_if 12 with fail
  clear hq
  rw [HW0.out, HBN.out]
  have d0 := cell_at HPK.out 0
  have d1 := cell_at HPK.out 1
  have d2 := cell_at HPK.out 2
  have hb0 := HY0.out.b
  have HB0 := Lib.hid hb0
  clear hb0
  go_cut [4] (fun s4 wx => s4 = .int .i64 1 ∧ W0 = wx)
  case first =>
    by_cases hq0 : q < 0
    · have e1 : -q = 1 := by have := HT1.out hq0; simpa using this
      have E1 := Lib.hid e1
      clear e1
      go_wp2_with fail
      go_meet
      exact ⟨by rw [E1.out], rfl⟩
    · have e1 : q = 1 := by have := HT2.out (by omega); simpa using this
      have E1 := Lib.hid e1
      clear e1
      go_wp2_with fail
      go_meet
      exact ⟨by rw [E1.out], rfl⟩
  case rest =>
  obtain ⟨rfl, rfl⟩ := hcut
  clear HT1 HT2 t3 t4 HW0 HBN
  clear HB0
  go_wp2_with fail
  refine (ytick_any w y pe P W0 vs vc vw zs HY0.out (fun a => HG.out.okE HF.out hm a) (by have := HG.out.now; have := HF.out.now; omega) HG.out.way).mono ?_
  rintro e W9 ⟨rfl, hret⟩
  have HR := Lib.hid hret
  clear hret d0 d1 d2
  go_wp2
  go_end0
  exact ⟨by simp, HR.out⟩

set_option maxRecDepth 100000 in
set_option maxHeartbeats 3000000 in
theorem dcome3_true (w : World) (y : Nat) (pe : Bool → Nat) (P : Play) (k A n : Int) (W : World) (vs vc vw : Bool → Value) (zs : Bool → List (LPk × Value)) (hY : IsY w y pe P vs vc vw zs W) (hG : GoodY P) (m : Nat) (hF : FewY P m) (hm : m < 1000000) (hA : aOf A = true) (hk : k = 3) :
    Calls Try.prog 13 #[.pointer (some ⟨y, 0, none⟩), .agg #[.int .i64 k, .int .i64 A, .int .i64 n]] W fun e W' => e = .returned (.tuple #[]) ∧ ∃ vs' vc' vw' zs', IsY w y pe (comeY P true n false false) vs' vc' vw' zs' W' := by
  subst hk
  obtain ⟨t1, t2, t3, t4⟩ := aOf_tmod A
  have HT1 := Lib.hid t1
  have HT2 := Lib.hid t2
  rw [hA] at HT1 HT2
  obtain ⟨q, hq⟩ : ∃ q, A.tmod 2 = q := ⟨_, rfl⟩
  rw [hq] at t3 t4 HT1 HT2
  have HY := Lib.hid hY
  have HG := Lib.hid hG
  have HF := Lib.hid hF
  have HA := Lib.hid hA
  clear hY hG hF hA t1 t2
  have hbA := (Below.refl _ W).alloc (Nat.le_refl _) (.cells #[.int .i64 3, .int .i64 A, .int .i64 n] 28)
  have HY0 := Lib.hid (HY.out.below hbA)
  have hq0 := block_new W (.cells #[.int .i64 3, .int .i64 A, .int .i64 n] 28)
  obtain ⟨W0, hW0⟩ : ∃ W0, W.alloc (.cells #[.int .i64 3, .int .i64 A, .int .i64 n] 28) = W0 := ⟨_, rfl⟩
  obtain ⟨b, hbn⟩ : ∃ b, W.heap.size = b := ⟨_, rfl⟩
  have HWB : Hid (w.heap.size ≤ b ∧ y < b) := Lib.hid (by rw [← hbn]; exact ⟨Nat.le_trans HY.out.low (Nat.le_of_lt (lt_of_block HY.out.b)), lt_of_block HY.out.b⟩)
  rw [hW0] at HY0 hq0
  rw [hbn] at hq0
  have HPK := Lib.hid hq0
  have HW0 := Lib.hid hW0
  have HBN := Lib.hid hbn
  clear hbA hq0 hW0 hbn HY
  go_enter Try.func13, Try.ntmps13
  go_upto_if 12 with fail
  clear hq
  rw [HW0.out, HBN.out]
  have d0 := cell_at HPK.out 0
  have d1 := cell_at HPK.out 1
  have d2 := cell_at HPK.out 2
  have hb0 := HY0.out.b
  have HB0 := Lib.hid hb0
  clear hb0
  go_cut [4] (fun s4 wx => s4 = .int .i64 1 ∧ W0 = wx)
  case first =>
    by_cases hq0 : q < 0
    · have e1 : -q = 1 := by have := HT1.out hq0; simpa using this
      have E1 := Lib.hid e1
      clear e1
      go_wp2_with fail
      go_meet
      exact ⟨by rw [E1.out], rfl⟩
    · have e1 : q = 1 := by have := HT2.out (by omega); simpa using this
      have E1 := Lib.hid e1
      clear e1
      go_wp2_with fail
      go_meet
      exact ⟨by rw [E1.out], rfl⟩
  case rest =>
  obtain ⟨rfl, rfl⟩ := hcut
  clear HT1 HT2 t3 t4 HW0 HBN
  clear HB0
  have HCO : Hid (Calls Try.prog 17 #[.pointer (some ⟨y, 0, none⟩), .int .i64 1, .int .i64 n, .bool false, .bool false] W0 fun e W' => e = .returned (.tuple #[]) ∧ ∃ vs' vc' vw' zs', IsY w y pe (comeY P true n false false) vs' vc' vw' zs' W') := Lib.hid (come_true w y pe P n false false W0 vs vc vw zs HY0.out HG.out.way (by have := HG.out.came_le HF.out true; omega) (by have h1 := HG.out.mark true; have := HF.out.sent (!true); omega))
  go_wp2_with fail
  refine HCO.out.mono ?_
  rintro e W9 ⟨rfl, hret⟩
  have HR := Lib.hid hret
  clear hret d0 d1 d2
  go_wp2
  go_end0
  exact ⟨by simp, HR.out⟩

set_option maxRecDepth 100000 in
set_option maxHeartbeats 3000000 in
theorem dcome4_true (w : World) (y : Nat) (pe : Bool → Nat) (P : Play) (k A n : Int) (W : World) (vs vc vw : Bool → Value) (zs : Bool → List (LPk × Value)) (hY : IsY w y pe P vs vc vw zs W) (hG : GoodY P) (m : Nat) (hF : FewY P m) (hm : m < 1000000) (hA : aOf A = true) (hk : k = 4) :
    Calls Try.prog 13 #[.pointer (some ⟨y, 0, none⟩), .agg #[.int .i64 k, .int .i64 A, .int .i64 n]] W fun e W' => e = .returned (.tuple #[]) ∧ ∃ vs' vc' vw' zs', IsY w y pe (comeY P true n false true) vs' vc' vw' zs' W' := by
  subst hk
  obtain ⟨t1, t2, t3, t4⟩ := aOf_tmod A
  have HT1 := Lib.hid t1
  have HT2 := Lib.hid t2
  rw [hA] at HT1 HT2
  obtain ⟨q, hq⟩ : ∃ q, A.tmod 2 = q := ⟨_, rfl⟩
  rw [hq] at t3 t4 HT1 HT2
  have HY := Lib.hid hY
  have HG := Lib.hid hG
  have HF := Lib.hid hF
  have HA := Lib.hid hA
  clear hY hG hF hA t1 t2
  have hbA := (Below.refl _ W).alloc (Nat.le_refl _) (.cells #[.int .i64 4, .int .i64 A, .int .i64 n] 28)
  have HY0 := Lib.hid (HY.out.below hbA)
  have hq0 := block_new W (.cells #[.int .i64 4, .int .i64 A, .int .i64 n] 28)
  obtain ⟨W0, hW0⟩ : ∃ W0, W.alloc (.cells #[.int .i64 4, .int .i64 A, .int .i64 n] 28) = W0 := ⟨_, rfl⟩
  obtain ⟨b, hbn⟩ : ∃ b, W.heap.size = b := ⟨_, rfl⟩
  have HWB : Hid (w.heap.size ≤ b ∧ y < b) := Lib.hid (by rw [← hbn]; exact ⟨Nat.le_trans HY.out.low (Nat.le_of_lt (lt_of_block HY.out.b)), lt_of_block HY.out.b⟩)
  rw [hW0] at HY0 hq0
  rw [hbn] at hq0
  have HPK := Lib.hid hq0
  have HW0 := Lib.hid hW0
  have HBN := Lib.hid hbn
  clear hbA hq0 hW0 hbn HY
  go_enter Try.func13, Try.ntmps13
  go_upto_if 12 with fail
  clear hq
  rw [HW0.out, HBN.out]
  have d0 := cell_at HPK.out 0
  have d1 := cell_at HPK.out 1
  have d2 := cell_at HPK.out 2
  have hb0 := HY0.out.b
  have HB0 := Lib.hid hb0
  clear hb0
  go_cut [4] (fun s4 wx => s4 = .int .i64 1 ∧ W0 = wx)
  case first =>
    by_cases hq0 : q < 0
    · have e1 : -q = 1 := by have := HT1.out hq0; simpa using this
      have E1 := Lib.hid e1
      clear e1
      go_wp2_with fail
      go_meet
      exact ⟨by rw [E1.out], rfl⟩
    · have e1 : q = 1 := by have := HT2.out (by omega); simpa using this
      have E1 := Lib.hid e1
      clear e1
      go_wp2_with fail
      go_meet
      exact ⟨by rw [E1.out], rfl⟩
  case rest =>
  obtain ⟨rfl, rfl⟩ := hcut
  clear HT1 HT2 t3 t4 HW0 HBN
  clear HB0
  have HCO : Hid (Calls Try.prog 17 #[.pointer (some ⟨y, 0, none⟩), .int .i64 1, .int .i64 n, .bool false, .bool true] W0 fun e W' => e = .returned (.tuple #[]) ∧ ∃ vs' vc' vw' zs', IsY w y pe (comeY P true n false true) vs' vc' vw' zs' W') := Lib.hid (come_true w y pe P n false true W0 vs vc vw zs HY0.out HG.out.way (by have := HG.out.came_le HF.out true; omega) (by have h1 := HG.out.mark true; have := HF.out.sent (!true); omega))
  go_wp2_with fail
  refine HCO.out.mono ?_
  rintro e W9 ⟨rfl, hret⟩
  have HR := Lib.hid hret
  clear hret d0 d1 d2
  go_wp2
  go_end0
  exact ⟨by simp, HR.out⟩

set_option maxRecDepth 100000 in
set_option maxHeartbeats 3000000 in
theorem dcome5_true (w : World) (y : Nat) (pe : Bool → Nat) (P : Play) (k A n : Int) (W : World) (vs vc vw : Bool → Value) (zs : Bool → List (LPk × Value)) (hY : IsY w y pe P vs vc vw zs W) (hG : GoodY P) (m : Nat) (hF : FewY P m) (hm : m < 1000000) (hA : aOf A = true) (hk : k = 5) :
    Calls Try.prog 13 #[.pointer (some ⟨y, 0, none⟩), .agg #[.int .i64 k, .int .i64 A, .int .i64 n]] W fun e W' => e = .returned (.tuple #[]) ∧ ∃ vs' vc' vw' zs', IsY w y pe (comeY P true n true false) vs' vc' vw' zs' W' := by
  subst hk
  obtain ⟨t1, t2, t3, t4⟩ := aOf_tmod A
  have HT1 := Lib.hid t1
  have HT2 := Lib.hid t2
  rw [hA] at HT1 HT2
  obtain ⟨q, hq⟩ : ∃ q, A.tmod 2 = q := ⟨_, rfl⟩
  rw [hq] at t3 t4 HT1 HT2
  have HY := Lib.hid hY
  have HG := Lib.hid hG
  have HF := Lib.hid hF
  have HA := Lib.hid hA
  clear hY hG hF hA t1 t2
  have hbA := (Below.refl _ W).alloc (Nat.le_refl _) (.cells #[.int .i64 5, .int .i64 A, .int .i64 n] 28)
  have HY0 := Lib.hid (HY.out.below hbA)
  have hq0 := block_new W (.cells #[.int .i64 5, .int .i64 A, .int .i64 n] 28)
  obtain ⟨W0, hW0⟩ : ∃ W0, W.alloc (.cells #[.int .i64 5, .int .i64 A, .int .i64 n] 28) = W0 := ⟨_, rfl⟩
  obtain ⟨b, hbn⟩ : ∃ b, W.heap.size = b := ⟨_, rfl⟩
  have HWB : Hid (w.heap.size ≤ b ∧ y < b) := Lib.hid (by rw [← hbn]; exact ⟨Nat.le_trans HY.out.low (Nat.le_of_lt (lt_of_block HY.out.b)), lt_of_block HY.out.b⟩)
  rw [hW0] at HY0 hq0
  rw [hbn] at hq0
  have HPK := Lib.hid hq0
  have HW0 := Lib.hid hW0
  have HBN := Lib.hid hbn
  clear hbA hq0 hW0 hbn HY
  go_enter Try.func13, Try.ntmps13
  go_upto_if 12 with fail
  clear hq
  rw [HW0.out, HBN.out]
  have d0 := cell_at HPK.out 0
  have d1 := cell_at HPK.out 1
  have d2 := cell_at HPK.out 2
  have hb0 := HY0.out.b
  have HB0 := Lib.hid hb0
  clear hb0
  go_cut [4] (fun s4 wx => s4 = .int .i64 1 ∧ W0 = wx)
  case first =>
    by_cases hq0 : q < 0
    · have e1 : -q = 1 := by have := HT1.out hq0; simpa using this
      have E1 := Lib.hid e1
      clear e1
      go_wp2_with fail
      go_meet
      exact ⟨by rw [E1.out], rfl⟩
    · have e1 : q = 1 := by have := HT2.out (by omega); simpa using this
      have E1 := Lib.hid e1
      clear e1
      go_wp2_with fail
      go_meet
      exact ⟨by rw [E1.out], rfl⟩
  case rest =>
  obtain ⟨rfl, rfl⟩ := hcut
  clear HT1 HT2 t3 t4 HW0 HBN
  clear HB0
  have HCO : Hid (Calls Try.prog 17 #[.pointer (some ⟨y, 0, none⟩), .int .i64 1, .int .i64 n, .bool true, .bool false] W0 fun e W' => e = .returned (.tuple #[]) ∧ ∃ vs' vc' vw' zs', IsY w y pe (comeY P true n true false) vs' vc' vw' zs' W') := Lib.hid (come_true w y pe P n true false W0 vs vc vw zs HY0.out HG.out.way (by have := HG.out.came_le HF.out true; omega) (by have h1 := HG.out.mark true; have := HF.out.sent (!true); omega))
  go_wp2_with fail
  refine HCO.out.mono ?_
  rintro e W9 ⟨rfl, hret⟩
  have HR := Lib.hid hret
  clear hret d0 d1 d2
  go_wp2
  go_end0
  exact ⟨by simp, HR.out⟩

set_option maxRecDepth 100000 in
set_option maxHeartbeats 3000000 in
theorem dnone_true (w : World) (y : Nat) (pe : Bool → Nat) (P : Play) (k A n : Int) (W : World) (vs vc vw : Bool → Value) (zs : Bool → List (LPk × Value)) (hY : IsY w y pe P vs vc vw zs W) (hG : GoodY P) (m : Nat) (hF : FewY P m) (hm : m < 1000000) (hA : aOf A = true) (hk : k ≠ 1 ∧ k ≠ 2 ∧ k ≠ 3 ∧ k ≠ 4 ∧ k ≠ 5) :
    Calls Try.prog 13 #[.pointer (some ⟨y, 0, none⟩), .agg #[.int .i64 k, .int .i64 A, .int .i64 n]] W fun e W' => e = .returned (.tuple #[]) ∧ ∃ vs' vc' vw' zs', IsY w y pe (P) vs' vc' vw' zs' W' := by
  obtain ⟨h1, h2, h3, h4, h5⟩ := hk
  have k1 : (k == 1) = false := by simpa using h1
  have k2 : (k == 2) = false := by simpa using h2
  have k3 : (k == 3) = false := by simpa using h3
  have k4 : (k == 4) = false := by simpa using h4
  have k5 : (k == 5) = false := by simpa using h5
  clear h1 h2 h3 h4 h5
  have _ := hm
  obtain ⟨t1, t2, t3, t4⟩ := aOf_tmod A
  have HT1 := Lib.hid t1
  have HT2 := Lib.hid t2
  rw [hA] at HT1 HT2
  obtain ⟨q, hq⟩ : ∃ q, A.tmod 2 = q := ⟨_, rfl⟩
  rw [hq] at t3 t4 HT1 HT2
  have HY := Lib.hid hY
  have HG := Lib.hid hG
  have HF := Lib.hid hF
  have HA := Lib.hid hA
  clear hY hG hF hA t1 t2
  have hbA := (Below.refl _ W).alloc (Nat.le_refl _) (.cells #[.int .i64 k, .int .i64 A, .int .i64 n] 28)
  have HY0 := Lib.hid (HY.out.below hbA)
  have hq0 := block_new W (.cells #[.int .i64 k, .int .i64 A, .int .i64 n] 28)
  obtain ⟨W0, hW0⟩ : ∃ W0, W.alloc (.cells #[.int .i64 k, .int .i64 A, .int .i64 n] 28) = W0 := ⟨_, rfl⟩
  obtain ⟨b, hbn⟩ : ∃ b, W.heap.size = b := ⟨_, rfl⟩
  have HWB : Hid (w.heap.size ≤ b ∧ y < b) := Lib.hid (by rw [← hbn]; exact ⟨Nat.le_trans HY.out.low (Nat.le_of_lt (lt_of_block HY.out.b)), lt_of_block HY.out.b⟩)
  rw [hW0] at HY0 hq0
  rw [hbn] at hq0
  have HPK := Lib.hid hq0
  have HW0 := Lib.hid hW0
  have HBN := Lib.hid hbn
  clear hbA hq0 hW0 hbn HY
  go_enter Try.func13, Try.ntmps13
  go_upto_if 12 with fail
  clear hq
  rw [HW0.out, HBN.out]
  have d0 := cell_at HPK.out 0
  have d1 := cell_at HPK.out 1
  have d2 := cell_at HPK.out 2
  have hb0 := HY0.out.b
  have HB0 := Lib.hid hb0
  clear hb0
  go_cut [4] (fun s4 wx => s4 = .int .i64 1 ∧ W0 = wx)
  case first =>
    by_cases hq0 : q < 0
    · have e1 : -q = 1 := by have := HT1.out hq0; simpa using this
      have E1 := Lib.hid e1
      clear e1
      go_wp2_with fail
      go_meet
      exact ⟨by rw [E1.out], rfl⟩
    · have e1 : q = 1 := by have := HT2.out (by omega); simpa using this
      have E1 := Lib.hid e1
      clear e1
      go_wp2_with fail
      go_meet
      exact ⟨by rw [E1.out], rfl⟩
  case rest =>
  obtain ⟨rfl, rfl⟩ := hcut
  clear HT1 HT2 t3 t4 HW0 HBN
  clear HB0
  go_wp2
  go_end0
  exact ⟨by simp, _, _, _, _, HY0.out⟩

theorem do_true (w : World) (y : Nat) (pe : Bool → Nat) (P : Play) (k A n : Int) (W : World) (vs vc vw : Bool → Value) (zs : Bool → List (LPk × Value)) (hY : IsY w y pe P vs vc vw zs W) (hG : GoodY P) (m : Nat) (hF : FewY P m) (hm : m < 1000000) (hA : aOf A = true) :
    Calls Try.prog 13 #[.pointer (some ⟨y, 0, none⟩), .agg #[.int .i64 k, .int .i64 A, .int .i64 n]] W fun e W' => e = .returned (.tuple #[]) ∧ ∃ vs' vc' vw' zs', IsY w y pe (doY P k A n) vs' vc' vw' zs' W' := by
  unfold doY
  rw [hA]
  by_cases h1 : k = 1
  · rw [if_pos h1]; exact send_true w y pe P k A n W vs vc vw zs hY hG m hF hm hA h1
  rw [if_neg h1]
  by_cases h2 : k = 2
  · rw [if_pos h2]; exact dtick_true w y pe P k A n W vs vc vw zs hY hG m hF hm hA h2
  rw [if_neg h2]
  by_cases h3 : k = 3
  · rw [if_pos (.inl h3)]; have := dcome3_true w y pe P k A n W vs vc vw zs hY hG m hF hm hA h3; subst h3; exact this
  by_cases h4 : k = 4
  · rw [if_pos (.inr (.inl h4))]; have := dcome4_true w y pe P k A n W vs vc vw zs hY hG m hF hm hA h4; subst h4; exact this
  by_cases h5 : k = 5
  · rw [if_pos (.inr (.inr h5))]; have := dcome5_true w y pe P k A n W vs vc vw zs hY hG m hF hm hA h5; subst h5; exact this
  rw [if_neg (by omega)]
  exact dnone_true w y pe P k A n W vs vc vw zs hY hG m hF hm hA ⟨h1, h2, h3, h4, h5⟩

theorem do_any (w : World) (y : Nat) (pe : Bool → Nat) (P : Play) (k A n : Int) (W : World) (vs vc vw : Bool → Value) (zs : Bool → List (LPk × Value)) (hY : IsY w y pe P vs vc vw zs W) (hG : GoodY P) (m : Nat) (hF : FewY P m) (hm : m < 1000000) :
    Calls Try.prog 13 #[.pointer (some ⟨y, 0, none⟩), .agg #[.int .i64 k, .int .i64 A, .int .i64 n]] W fun e W' => e = .returned (.tuple #[]) ∧ ∃ vs' vc' vw' zs', IsY w y pe (doY P k A n) vs' vc' vw' zs' W' := by
  cases hA : aOf A
  · exact do_false w y pe P k A n W vs vc vw zs hY hG m hF hm hA
  · exact do_true w y pe P k A n W vs vc vw zs hY hG m hF hm hA
end Go.Proofs.Ytnmbblkfaoihfaa
