/- One call on both ends. -/
import Derived.Test.YtnmbblkfaoihfaaZLP20
import Derived.Test.YtnmbblkfaoihfaaZLP29
namespace Go.Proofs.Ytnmbblkfaoihfaa
open Go.RowKit

theorem Two.sendI {w W : World} {p q : Nat} {s r : LSt} (h : Two w p q s r W) (A : Option Addr) (c : Nat) (bs : List Nat) (now : Int) (hb : IsBy w A c bs) (hs : 0 ≤ s.sent ∧ s.sent < 9223372036854775807) (hnow : -9223372036854775808 ≤ now ∧ now ≤ 9223372036854775807) :
    Calls Try.prog 19 #[.pointer (some ⟨p, 0, none⟩), .slice A bs.length c, .int .i64 now] W fun e W' => (∃ v, e = .returned (.tuple #[v, .int .i64 (sendE s bs)]) ∧ IsP W' v (sendP s bs)) ∧ Two w p q (sendS s bs now) r W' ∧ KeepT W W' :=
  h.callE fun G hE hp hG => lsend_any p G s A c bs now W hE (by_in hb h.below hp hG) hb.2.2.2.1 hs hnow
/-- What a call makes of an end. -/
def stepS (s : LSt) (z : LOp) : LSt := if z.kind = 1 then sendS s z.bs z.now else if z.kind = 2 then tickS s z.now else if z.kind = 3 then onS s (pkO z) else s
/-- What a call asks of an end. -/
def StepOk (s : LSt) : Prop := (0 ≤ s.sent ∧ s.sent < 9223372036854775807) ∧ (0 ≤ s.mark ∧ s.mark < 9223372036854775807) ∧ s.l.length ≤ 64 ∧ ∀ x ∈ s.l, 0 ≤ x.tries ∧ x.tries < 9223372036854775807 ∧ x.body.length ≤ 2048

set_option maxRecDepth 100000 in
set_option maxHeartbeats 4000000 in
theorem lstep_any (w : World) (p q : Nat) (s : LSt) (z : LOp) (W : World) (ht : Two w p q s s W) (hz : OkO w z) (hok : StepOk s) :
    Calls Try.prog 34 #[.pointer (some ⟨p, 0, none⟩), .pointer (some ⟨q, 0, none⟩), .agg #[.int .i64 z.kind, .int .i64 z.now, .int .i64 z.seq, .int .i64 z.ack, .slice z.A z.bs.length z.c]] W fun e W' => e = .returned (.bool true) ∧ Two w p q (stepS s z) (stepS s z) W' := by
  obtain ⟨hs, hmk, hsl, htr⟩ := hok
  have HTR := Lib.hid htr
  have HZ := Lib.hid hz
  have hnow := hz.1
  have hbl : z.bs.length ≤ 140737488351232 := Nat.le_trans hz.2.1 hz.2.2.1
  obtain ⟨b, hb⟩ : ∃ b, W.heap.size = b := ⟨_, rfl⟩
  obtain ⟨W0, hW0⟩ : ∃ W0, W.alloc (.cells #[.int .i64 z.kind, .int .i64 z.now, .int .i64 z.seq, .int .i64 z.ack, .slice z.A z.bs.length z.c] 57) = W0 := ⟨_, rfl⟩
  have hop0 : W0.heap[b]? = some (.cells #[.int .i64 z.kind, .int .i64 z.now, .int .i64 z.seq, .int .i64 z.ack, .slice z.A z.bs.length z.c] 57 (0, 0)) := by rw [← hW0, ← hb]; exact block_new _ _
  have HT0 : Hid (Two w p q s s W0) := Lib.hid (ht.keep (by rw [← hW0]; exact (Below.refl _ W).alloc (Nat.le_refl _) _))
  have HB0 := Lib.hid hop0
  have HW0 := Lib.hid hW0
  have HB := Lib.hid hb
  have hblt := lt_of_block hop0
  clear ht hz htr hop0 hW0 hb
  by_cases h1 : z.kind = 1
  · have HSS : Hid (stepS s z = sendS s z.bs z.now) := Lib.hid (by unfold stepS; rw [if_pos h1])
    have hq1 : (z.kind == 1) = true := by simp [h1]
    clear h1
    obtain ⟨P, hP⟩ : ∃ P, sendP s z.bs = P := ⟨_, rfl⟩
    obtain ⟨E, hE⟩ : ∃ E, sendE s z.bs = E := ⟨_, rfl⟩
    obtain ⟨s1, hs1⟩ : ∃ s1, sendS s z.bs z.now = s1 := ⟨_, rfl⟩
    have HS : Hid (∀ W, Two w p q s s W → Calls Try.prog 19 #[.pointer (some ⟨p, 0, none⟩), .slice z.A z.bs.length z.c, .int .i64 z.now] W fun e W' => (∃ v, e = .returned (.tuple #[v, .int .i64 E]) ∧ IsP W' v P) ∧ Two w p q s1 s W' ∧ KeepT W W') := Lib.hid (fun W ht => by
      subst hP; subst hE; subst hs1
      exact ht.sendI z.A z.c z.bs z.now HZ.out.2 hs hnow)
    have HX : Hid (∀ W, Two w p q s1 s W → Calls Try.prog 22 #[.pointer (some ⟨q, 0, none⟩), .slice z.A z.bs.length z.c, .int .i64 z.now] W fun e W' => (∃ v, e = .returned (.tuple #[v, .int .i64 E]) ∧ IsP W' v P) ∧ Two w p q s1 s1 W' ∧ KeepT W W') := Lib.hid (fun W ht => by
      subst hP; subst hE; subst hs1
      exact ht.xsend z.A z.c z.bs z.now HZ.out.2 hs hnow)
    rw [hs1] at HSS
    clear hP hE hs1
    go_enter Try.func34, Try.ntmps34
    go_wp2_with fail
    rw [HW0.out, HB.out]
    refine (HS.out W0 HT0.out).mono ?_
    rintro e w4 ⟨⟨v4, rfl, bx4, rfl, hx4⟩, ht4, hk4⟩
    obtain ⟨X4, d4, rfl, _, _, _, _⟩ := byo_slice hx4
    have hop := hk4.op HB0.out
    have b1 := cell_at hop 1
    have b2 := cell_at hop 2
    have b3 := cell_at hop 3
    have b4 := cell_at hop 4
    have hopl := lt_of_block hop
    have hA := (Below.refl _ w4).alloc (Nat.le_refl _) (.cells #[.int .i64 P.seq, .int .i64 P.ack, .slice X4 P.body.length d4] 43)
    have HX4 := Lib.hid (hx4.below hA)
    have HT4 := Lib.hid (ht4.keep hA)
    have HN4 := Lib.hid (block_new w4 (.cells #[.int .i64 P.seq, .int .i64 P.ack, .slice X4 P.body.length d4] 43))
    clear hx4 ht4 hk4 hop hA HB0 HT0
    go_wp2_with fail
    obtain ⟨n4, hn4⟩ : ∃ n4, w4.heap.size = n4 := ⟨_, rfl⟩
    obtain ⟨W5, hW5⟩ : ∃ W5, w4.alloc (.cells #[.int .i64 P.seq, .int .i64 P.ack, .slice X4 P.body.length d4] 43) = W5 := ⟨_, rfl⟩
    rw [hW5] at HX4 HT4
    rw [hW5, hn4] at HN4
    rw [hW5, hn4]
    clear hW5 hn4 b1 b2 b3 b4 hopl
    refine (HX.out W5 HT4.out).mono ?_
    rintro e w6 ⟨⟨v6, rfl, bx6, rfl, hx6⟩, ht6, hk6⟩
    obtain ⟨X6, d6, rfl, _, _, _, _⟩ := byo_slice hx6
    have hn6 := hk6.cells HN4.out
    have d0 := cell_at hn6 0
    have d1 := cell_at hn6 1
    have d2 := cell_at hn6 2
    have hn6l := lt_of_block hn6
    have hA := (Below.refl _ w6).alloc (Nat.le_refl _) (.cells #[.int .i64 P.seq, .int .i64 P.ack, .slice X6 P.body.length d6] 43)
    have HX4' := Lib.hid ((hk6.1 _ _ HX4.out).below hA)
    have HX6 := Lib.hid (hx6.below hA)
    have HT6 := Lib.hid (ht6.keep hA)
    clear hx6 ht6 hk6 hn6 hA HX4 HT4 HN4
    go_wp2_with fail
    refine (same_eq P X4 X6 d4 d6 _ HX4'.out.bs HX6.out.bs HX4'.out.2).mono ?_
    rintro e w7 ⟨rfl, hb7⟩
    have HT7 := Lib.hid (HT6.out.keep hb7)
    clear hb7 HT6 d0 d1 d2
    go_wp2
    go_ret
    exact ⟨by simp, by rw [HSS.out]; exact HT7.out⟩
  · have hq1 : (z.kind == 1) = false := by simp [h1]
    by_cases h2 : z.kind = 2
    · have HSS : Hid (stepS s z = tickS s z.now) := Lib.hid (by unfold stepS; rw [if_neg h1, if_pos h2])
      have hq2 : (z.kind == 2) = true := by simp [h2]
      clear h1 h2
      obtain ⟨Q, hQ⟩ : ∃ Q, tickP s z.now = Q := ⟨_, rfl⟩
      obtain ⟨s1, hs1⟩ : ∃ s1, tickS s z.now = s1 := ⟨_, rfl⟩
      have HS : Hid (∀ W, Two w p q s s W → Calls Try.prog 21 #[.pointer (some ⟨p, 0, none⟩), .int .i64 z.now] W fun e W' => (∃ v, e = .returned v ∧ IsPs W.heap.size W' v Q) ∧ Two w p q s1 s W' ∧ KeepT W W') := Lib.hid (fun W ht => by
        subst hQ; subst hs1
        exact ht.tick z.now (by omega) (fun x hx => by have := HTR.out x hx; omega) hnow)
      have HX : Hid (∀ W, Two w p q s1 s W → Calls Try.prog 24 #[.pointer (some ⟨q, 0, none⟩), .int .i64 z.now] W fun e W' => (∃ v, e = .returned v ∧ IsPs W.heap.size W' v Q) ∧ Two w p q s1 s1 W' ∧ KeepT W W') := Lib.hid (fun W ht => by
        subst hQ; subst hs1
        exact ht.xtick z.now (by omega) (fun x hx => by have := HTR.out x hx; omega) hnow)
      have hQl : Q.length ≤ 64 := by
        rw [← hQ]
        unfold tickP
        rw [List.length_map]
        exact Nat.le_trans (List.length_filter_le _ _) hsl
      rw [hs1] at HSS
      clear hQ hs1
      go_enter Try.func34, Try.ntmps34
      go_wp2_with fail
      rw [HW0.out, HB.out]
      refine wp_region_flow2 (fun W => W.heap[b]? = some (.cells #[.int .i64 z.kind, .int .i64 z.now, .int .i64 z.seq, .int .i64 z.ack, .slice z.A z.bs.length z.c] 57 (0, 0))) (fun W => Two w p q s s W) [0, 1, 2, 4, 5, 6, 3, 7, 8, 9] (by kernel_rfl) (by kernel_rfl) (by kernel_rfl) (HB0.out) (HT0.out.keep (Below.refl _ W0).drew) ?_
      refine flow_val ?_ rfl (by kernel_rfl) (by rfl) (fun W hW => ?_) ?_
      rotate_left 1
      · go_simp <;> with_reducible rfl
      simp only [Act.put, List.setIfInBounds_toArray, List.set_cons_succ, List.set_cons_zero]
      refine flow_val ?_ rfl (by kernel_rfl) (by rfl) (fun W hW => ?_) ?_
      rotate_left 1
      · go_simp <;> with_reducible rfl
      simp only [Act.put, List.setIfInBounds_toArray, List.set_cons_succ, List.set_cons_zero]
      refine flow_val ?_ rfl (by kernel_rfl) (by rfl) (fun W hW => ?_) ?_
      rotate_left 1
      · have c1 : W.cell? ⟨b, 1, none⟩ = some (.int .i64 z.now) := cell_at hW 1; go_simp <;> with_reducible rfl
      simp only [Act.put, List.setIfInBounds_toArray, List.set_cons_succ, List.set_cons_zero]
      refine flow_val ?_ rfl (by kernel_rfl) (by rfl) (fun W hW => ?_) ?_
      rotate_left 1
      · go_simp <;> with_reducible rfl
      simp only [Act.put, List.setIfInBounds_toArray, List.set_cons_succ, List.set_cons_zero]
      refine flow_val ?_ rfl (by kernel_rfl) (by rfl) (fun W hW => ?_) ?_
      rotate_left 1
      · go_simp <;> with_reducible rfl
      simp only [Act.put, List.setIfInBounds_toArray, List.set_cons_succ, List.set_cons_zero]
      refine flow_val ?_ rfl (by kernel_rfl) (by rfl) (fun W hW => ?_) ?_
      rotate_left 1
      · have c1 : W.cell? ⟨b, 1, none⟩ = some (.int .i64 z.now) := cell_at hW 1; go_simp <;> with_reducible rfl
      simp only [Act.put, List.setIfInBounds_toArray, List.set_cons_succ, List.set_cons_zero]
      refine flow_gcall (fun v W => IsPs 0 W v Q ∧ Two w p q s1 s W) rfl (by kernel_rfl) (by rfl) (by kernel_rfl) (fun W hW hC => ⟨_, _, _, by go_simp, (HS.out W hC).mono fun e w1 ⟨⟨v, he, hp⟩, ht, hk⟩ => ⟨v, he, hk.op hW, hp.low, ht⟩⟩) ?_
      rintro v84 ⟨_, _, ⟨_, _, ho84, _⟩, _⟩
      simp only [Act.put, List.setIfInBounds_toArray, List.set_cons_succ, List.set_cons_zero]
      obtain ⟨A84, c84, rfl, _, _, _, _⟩ := own_slice ho84
      clear ho84
      refine flow_gcall (fun v W => IsPs 0 W (.slice A84 Q.length c84) Q ∧ IsPs 0 W v Q ∧ Two w p q s1 s1 W) rfl (by kernel_rfl) (by rfl) (by kernel_rfl) (fun W hW hC => ⟨_, _, _, by go_simp, (HX.out W hC.2).mono fun e w1 ⟨⟨v, he, hp⟩, ht, hk⟩ => ⟨v, he, ⟨hk.op hW.1, trivial⟩, hk.pks hC.1, hp.low, ht⟩⟩) ?_
      rintro v88 ⟨_, _, _, ⟨_, _, ho88, _⟩, _⟩
      simp only [Act.put, List.setIfInBounds_toArray, List.set_cons_succ, List.set_cons_zero]
      obtain ⟨A88, c88, rfl, _, _, _, _⟩ := own_slice ho88
      clear ho88
      refine flow_val ?_ rfl (by kernel_rfl) (by rfl) (fun W hW => ?_) ?_
      rotate_left 1
      · go_simp <;> with_reducible rfl
      simp only [Act.put, List.setIfInBounds_toArray, List.set_cons_succ, List.set_cons_zero]
      refine flow_val ?_ rfl (by kernel_rfl) (by rfl) (fun W hW => ?_) ?_
      rotate_left 1
      · go_simp <;> with_reducible rfl
      simp only [Act.put, List.setIfInBounds_toArray, List.set_cons_succ, List.set_cons_zero]
      refine flow_done2 ?_
      rintro W4 _ ⟨⟨z1, hz1, ho1, hb1⟩, ⟨z2, hz2, ho2, hb2⟩, ht4⟩
      have HZ1 := Lib.hid hz1
      have HZ2 := Lib.hid hz2
      have HO1 := Lib.hid ho1
      have HO2 := Lib.hid ho2
      have HBY1 := Lib.hid hb1
      have HBY2 := Lib.hid hb2
      have HT4 := Lib.hid ht4
      obtain ⟨m, hm⟩ : ∃ m, Q.length = m := ⟨_, rfl⟩
      rw [hm] at HO1 HO2 hQl
      rw [hm]
      have HM := Lib.hid hm
      clear hz1 hz2 ho1 ho2 hb1 hb2 ht4 hm HT0 HB0
      go_wp2_with fail
      go_loopw [13] (fun kv wr => ∃ kk : Nat, kk ≤ m ∧ kv = .int .i64 kk ∧ Below W4.heap.size W4 wr) (fun kv _ => m - (intOf kv).toNat)
      case atStart => exact ⟨0, Nat.zero_le _, rfl, Below.refl _ _⟩
      case round =>
        obtain ⟨kk, hkk, rfl, hbl⟩ := hrel
        have HBL := Lib.hid hbl
        clear hbl
        by_cases hlm : kk < m
        · obtain ⟨g1, d1, e1⟩ := own_pos HO1.out (by omega)
          injection e1 with e1 _ e2
          subst e1; subst e2
          obtain ⟨g2, d2, e1⟩ := own_pos HO2.out (by omega)
          injection e1 with e1 _ e2
          subst e1; subst e2
          obtain ⟨_, _, e1, _, _, hrd1, _⟩ := own_slice HO1.out
          injection e1 with e1 _ e2
          subst e1; subst e2
          obtain ⟨_, _, e1, _, _, hrd2, _⟩ := own_slice HO2.out
          injection e1 with e1 _ e2
          subst e1; subst e2
          obtain ⟨_, _, e1, hl1, hc1⟩ := hrd1.2 (by omega)
          injection e1 with e1
          injection e1 with e1 e2
          subst e1; subst e2
          obtain ⟨_, _, e1, hl2, hc2⟩ := hrd2.2 (by omega)
          injection e1 with e1
          injection e1 with e1 e2
          subst e1; subst e2
          simp only [Nat.zero_add] at hc1 hc2
          have hn1 : kk < z1.length := by have := congrArg List.length HZ1.out; have := HM.out; simp at *; omega
          have hn2 : kk < z2.length := by have := congrArg List.length HZ2.out; have := HM.out; simp at *; omega
          have hkQ : kk < Q.length := by have := HM.out; omega
          obtain ⟨P, hP⟩ : ∃ P, Q[kk] = P := ⟨_, rfl⟩
          have e1 : z1[kk].1 = P := by
            have h1 : (z1.map (·.1))[kk]'(by simpa using hn1) = Q[kk] := by simp only [HZ1.out]
            rw [hP] at h1
            simpa using h1
          have e2 : z2[kk].1 = P := by
            have h1 : (z2.map (·.1))[kk]'(by simpa using hn2) = Q[kk] := by simp only [HZ2.out]
            rw [hP] at h1
            simpa using h1
          have y1 := (HBY1.out z1[kk] (List.getElem_mem _)).below HBL.out
          have y2 := (HBY2.out z2[kk] (List.getElem_mem _)).below HBL.out
          rw [e1] at y1
          rw [e2] at y2
          obtain ⟨X1, x1, f1, _, _, _, _⟩ := byo_slice y1
          obtain ⟨X2, x2, f2, _, _, _, _⟩ := byo_slice y2
          rw [f1] at y1
          rw [f2] at y2
          have hat1 := fun j (hj : j < 3) => flatP_at z1 kk j hn1 hj
          have hat2 := fun j (hj : j < 3) => flatP_at z2 kk j hn2 hj
          have k10 : wr.cell? ⟨g1, kk * 3, none⟩ = some (.int .i64 P.seq) := (HBL.out.cell (p := ⟨g1, kk * 3, none⟩) hl1).trans (hc1 (kk * 3 + 0) _ ((hat1 0 (by omega)).trans (by simp only [encP, e1]; rfl)))
          have k11 : wr.cell? ⟨g1, kk * 3 + 1, none⟩ = some (.int .i64 P.ack) := (HBL.out.cell (p := ⟨g1, kk * 3 + 1, none⟩) hl1).trans (hc1 (kk * 3 + 1) _ ((hat1 1 (by omega)).trans (by simp only [encP, e1]; rfl)))
          have k12 : wr.cell? ⟨g1, kk * 3 + 2, none⟩ = some (.slice X1 P.body.length x1) := (HBL.out.cell (p := ⟨g1, kk * 3 + 2, none⟩) hl1).trans (hc1 (kk * 3 + 2) _ ((hat1 2 (by omega)).trans (by simp only [encP, f1]; rfl)))
          have k20 : wr.cell? ⟨g2, kk * 3, none⟩ = some (.int .i64 P.seq) := (HBL.out.cell (p := ⟨g2, kk * 3, none⟩) hl2).trans (hc2 (kk * 3 + 0) _ ((hat2 0 (by omega)).trans (by simp only [encP, e2]; rfl)))
          have k21 : wr.cell? ⟨g2, kk * 3 + 1, none⟩ = some (.int .i64 P.ack) := (HBL.out.cell (p := ⟨g2, kk * 3 + 1, none⟩) hl2).trans (hc2 (kk * 3 + 1) _ ((hat2 1 (by omega)).trans (by simp only [encP, e2]; rfl)))
          have k22 : wr.cell? ⟨g2, kk * 3 + 2, none⟩ = some (.slice X2 P.body.length x2) := (HBL.out.cell (p := ⟨g2, kk * 3 + 2, none⟩) hl2).trans (hc2 (kk * 3 + 2) _ ((hat2 2 (by omega)).trans (by simp only [encP, f2]; rfl)))
          have hgl1 : g1 < wr.heap.size := by have := HBL.out.size; omega
          have hgl2 : g2 < wr.heap.size := by have := HBL.out.size; omega
          have HY1 := Lib.hid y1
          have HY2 := Lib.hid y2
          clear hat1 hat2 hc1 hc2 e1 e2 f1 f2 y1 y2 hP hrd1 hrd2
          go_wp2_with fail
          refine wp_region_flow (fun W => Below wr.heap.size wr W) [0, 1, 2, 3, 4, 5, 6, 7, 8, 9] (by kernel_rfl) (by kernel_rfl) (by kernel_rfl) ((Below.refl _ wr).drew) ?_
          refine flow_val ?_ rfl (by kernel_rfl) (by rfl) (fun W hW => ?_) ?_
          rotate_left 1
          · go_simp <;> with_reducible rfl
          simp only [Act.put, List.setIfInBounds_toArray, List.set_cons_succ, List.set_cons_zero]
          refine flow_val ?_ rfl (by kernel_rfl) (by rfl) (fun W hW => ?_) ?_
          rotate_left 1
          · go_simp <;> with_reducible rfl
          simp only [Act.put, List.setIfInBounds_toArray, List.set_cons_succ, List.set_cons_zero]
          refine flow_val ?_ rfl (by kernel_rfl) (by rfl) (fun W hW => ?_) ?_
          rotate_left 1
          · go_simp <;> with_reducible rfl
          simp only [Act.put, List.setIfInBounds_toArray, List.set_cons_succ, List.set_cons_zero]
          refine flow_val ?_ rfl (by kernel_rfl) (by rfl) (fun W hW => ?_) ?_
          rotate_left 1
          · have c10 : W.cell? ⟨g1, kk * 3, none⟩ = some (.int .i64 P.seq) := (hW.cell (p := ⟨g1, kk * 3, none⟩) hgl1).trans k10; have c11 : W.cell? ⟨g1, kk * 3 + 1, none⟩ = some (.int .i64 P.ack) := (hW.cell (p := ⟨g1, kk * 3 + 1, none⟩) hgl1).trans k11; have c12 : W.cell? ⟨g1, kk * 3 + 2, none⟩ = some (.slice X1 P.body.length x1) := (hW.cell (p := ⟨g1, kk * 3 + 2, none⟩) hgl1).trans k12; go_simp <;> with_reducible rfl
          simp only [Act.put, List.setIfInBounds_toArray, List.set_cons_succ, List.set_cons_zero]
          refine flow_val ?_ rfl (by kernel_rfl) (by rfl) (fun W hW => ?_) ?_
          rotate_left 1
          · go_simp <;> with_reducible rfl
          simp only [Act.put, List.setIfInBounds_toArray, List.set_cons_succ, List.set_cons_zero]
          refine flow_val ?_ rfl (by kernel_rfl) (by rfl) (fun W hW => ?_) ?_
          rotate_left 1
          · go_simp <;> with_reducible rfl
          simp only [Act.put, List.setIfInBounds_toArray, List.set_cons_succ, List.set_cons_zero]
          refine flow_val ?_ rfl (by kernel_rfl) (by rfl) (fun W hW => ?_) ?_
          rotate_left 1
          · go_simp <;> with_reducible rfl
          simp only [Act.put, List.setIfInBounds_toArray, List.set_cons_succ, List.set_cons_zero]
          refine flow_val ?_ rfl (by kernel_rfl) (by rfl) (fun W hW => ?_) ?_
          rotate_left 1
          · have c20 : W.cell? ⟨g2, kk * 3, none⟩ = some (.int .i64 P.seq) := (hW.cell (p := ⟨g2, kk * 3, none⟩) hgl2).trans k20; have c21 : W.cell? ⟨g2, kk * 3 + 1, none⟩ = some (.int .i64 P.ack) := (hW.cell (p := ⟨g2, kk * 3 + 1, none⟩) hgl2).trans k21; have c22 : W.cell? ⟨g2, kk * 3 + 2, none⟩ = some (.slice X2 P.body.length x2) := (hW.cell (p := ⟨g2, kk * 3 + 2, none⟩) hgl2).trans k22; go_simp <;> with_reducible rfl
          simp only [Act.put, List.setIfInBounds_toArray, List.set_cons_succ, List.set_cons_zero]
          refine flow_call (.bool true) rfl (by kernel_rfl) (by rfl) (by kernel_rfl) (fun W hW => ⟨_, _, _, by go_simp, (same_eq P X1 X2 x1 x2 W (HY1.out.bs.below hW) (HY2.out.bs.below hW) HY1.out.2).mono fun e w1 ⟨he, hb⟩ => ⟨he, hW.trans (hb.mono hW.size)⟩⟩) ?_
          simp only [Act.put, List.setIfInBounds_toArray, List.set_cons_succ, List.set_cons_zero]
          refine flow_val ?_ rfl (by kernel_rfl) (by rfl) (fun W hW => ?_) ?_
          rotate_left 1
          · go_simp <;> with_reducible rfl
          simp only [Act.put, List.setIfInBounds_toArray, List.set_cons_succ, List.set_cons_zero]
          refine flow_done ?_
          rintro W ⟨hW, _⟩
          have HW := Lib.hid hW
          clear hW k10 k11 k12 k20 k21 k22
          go_wp2_with fail
          go_roundw
          case rel => exact ⟨kk + 1, hlm, by go_num, HBL.out.trans (HW.out.mono HBL.out.size)⟩
          case measure => simp [intOf]; omega
        · have HT5 := Lib.hid (HT4.out.keep HBL.out)
          clear HO1 HO2
          go_wp2
          go_ret
          exact ⟨by simp, by rw [HSS.out]; exact HT5.out⟩
    · have hq2 : (z.kind == 2) = false := by simp [h2]
      by_cases h3 : z.kind = 3
      · have HSS : Hid (stepS s z = onS s (pkO z)) := Lib.hid (by unfold stepS; rw [if_neg h1, if_neg h2, if_pos h3])
        have hq3 : (z.kind == 3) = true := by simp [h3]
        clear h1 h2 h3
        obtain ⟨P, hP⟩ : ∃ P, onP s (pkO z) = P := ⟨_, rfl⟩
        obtain ⟨B, hB⟩ : ∃ B, onB s (pkO z) = B := ⟨_, rfl⟩
        obtain ⟨N, hN⟩ : ∃ N, onI s (pkO z) = N := ⟨_, rfl⟩
        obtain ⟨s1, hs1⟩ : ∃ s1, onS s (pkO z) = s1 := ⟨_, rfl⟩
        have HS : Hid (∀ W, Two w p q s s W → Calls Try.prog 20 #[.pointer (some ⟨p, 0, none⟩), .agg #[.int .i64 z.seq, .int .i64 z.ack, .slice z.A z.bs.length z.c]] W fun e W' => (∃ bv v3, e = .returned (.tuple #[bv, .bool N, v3]) ∧ ByO W' bv B ∧ IsP W' v3 P) ∧ Two w p q s1 s W' ∧ KeepT W W') := Lib.hid (fun W ht => by
          subst hP; subst hB; subst hN; subst hs1
          exact ht.on (pkO z) z.A z.c HZ.out.2 (by show z.bs.length ≤ _; omega) hmk)
        have HX : Hid (∀ W, Two w p q s1 s W → Calls Try.prog 25 #[.pointer (some ⟨q, 0, none⟩), .agg #[.int .i64 z.seq, .int .i64 z.ack, .slice z.A z.bs.length z.c]] W fun e W' => (∃ bv v3, e = .returned (.tuple #[bv, .bool N, v3]) ∧ Bs W' bv B ∧ IsP W' v3 P) ∧ Two w p q s1 s1 W' ∧ KeepT W W') := Lib.hid (fun W ht => by
          subst hP; subst hB; subst hN; subst hs1
          exact ht.xon (pkO z) z.A z.c HZ.out.2 (by show z.bs.length ≤ _; omega) (by omega) hmk)
        rw [hs1] at HSS
        clear hP hB hN hs1
        go_enter Try.func34, Try.ntmps34
        go_wp2_with fail
        rw [HW0.out, HB.out]
        refine (HS.out W0 HT0.out).mono ?_
        rintro e w4 ⟨⟨bv4, v4, rfl, hb4, bx4, rfl, hx4⟩, ht4, hk4⟩
        obtain ⟨A4, c4, rfl, _, _, _, _⟩ := byo_slice hb4
        obtain ⟨X4, d4, rfl, _, _, _, _⟩ := byo_slice hx4
        have hop := hk4.op HB0.out
        have b1 := cell_at hop 1
        have b2 := cell_at hop 2
        have b3 := cell_at hop 3
        have b4 := cell_at hop 4
        have hopl := lt_of_block hop
        have hA := (Below.refl _ w4).alloc (Nat.le_refl _) (.cells #[.int .i64 P.seq, .int .i64 P.ack, .slice X4 P.body.length d4] 43)
        have HB4 := Lib.hid (hb4.below hA)
        have HX4 := Lib.hid (hx4.below hA)
        have HT4 := Lib.hid (ht4.keep hA)
        have HN4 := Lib.hid (block_new w4 (.cells #[.int .i64 P.seq, .int .i64 P.ack, .slice X4 P.body.length d4] 43))
        clear hb4 hx4 ht4 hk4 hop hA HB0 HT0
        go_wp2_with fail
        obtain ⟨n4, hn4⟩ : ∃ n4, w4.heap.size = n4 := ⟨_, rfl⟩
        obtain ⟨W5, hW5⟩ : ∃ W5, w4.alloc (.cells #[.int .i64 P.seq, .int .i64 P.ack, .slice X4 P.body.length d4] 43) = W5 := ⟨_, rfl⟩
        rw [hW5] at HB4 HX4 HT4
        rw [hW5, hn4] at HN4
        rw [hW5, hn4]
        clear hW5 hn4 b1 b2 b3 b4 hopl
        refine (HX.out W5 HT4.out).mono ?_
        rintro e w6 ⟨⟨bv6, v6, rfl, hb6, bx6, rfl, hx6⟩, ht6, hk6⟩
        obtain ⟨A6, c6, rfl, _, _, _⟩ := id hb6
        obtain ⟨X6, d6, rfl, _, _, _, _⟩ := byo_slice hx6
        have hn6 := hk6.cells HN4.out
        have d0 := cell_at hn6 0
        have d1 := cell_at hn6 1
        have d2 := cell_at hn6 2
        have hn6l := lt_of_block hn6
        have hA := (Below.refl _ w6).alloc (Nat.le_refl _) (.cells #[.int .i64 P.seq, .int .i64 P.ack, .slice X6 P.body.length d6] 43)
        have h256 := HB4.out.2
        have r1 := run_str _ A4 B.length c4 B (bs_rd ((hk6.1 _ _ HB4.out).below hA).bs) h256
        have r2 := run_str _ A6 B.length c6 B (bs_rd (hb6.below hA)) h256
        obtain ⟨S, hS⟩ : ∃ S, strOf B = S := ⟨_, rfl⟩
        rw [hS] at r1 r2
        have HX4' := Lib.hid ((hk6.1 _ _ HX4.out).below hA)
        have HX6 := Lib.hid (hx6.below hA)
        have HT6 := Lib.hid (ht6.keep hA)
        clear hb6 hS h256 HB4 hx6 ht6 hk6 hn6 hA HX4 HT4 HN4
        go_wp2_with fail
        refine (same_eq P X4 X6 d4 d6 _ HX4'.out.bs HX6.out.bs HX4'.out.2).mono ?_
        rintro e w7 ⟨rfl, hb7⟩
        have HT7 := Lib.hid (HT6.out.keep hb7)
        clear hb7 HT6 d0 d1 d2 r1 r2
        go_wp2
        go_ret
        exact ⟨by simp, by rw [HSS.out]; exact HT7.out⟩
      · have HSS : Hid (stepS s z = s) := Lib.hid (by unfold stepS; rw [if_neg h1, if_neg h2, if_neg h3])
        have hq3 : (z.kind == 3) = false := by simp [h3]
        clear h1 h2 h3
        go_enter Try.func34, Try.ntmps34
        go_wp2
        go_ret
        rw [HW0.out]
        exact ⟨by simp, by rw [HSS.out]; exact HT0.out⟩
end Go.Proofs.Ytnmbblkfaoihfaa
