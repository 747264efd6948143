/- A packet comes to an end. -/
import Derived.Test.YtnmbblkfaoihfaaZLY26
import Derived.Deep.CutBlock
import Derived.Deep.DeepCutAuto
namespace Go.Proofs.Ytnmbblkfaoihfaa
open Go.RowKit

/-- What lies behind the region that calls On. -/
def RC8 (w : World) (y : Nat) (pe : Bool → Nat) (P : Play) (vs vc vw : Bool → Value) (zs : Bool → List (LPk × Value)) (B : List Nat) (K : LPk) (A8 : Option Addr) (c8 : Nat) (Aq : Option Addr) (cq g14 : Nat) (W : World) : Prop :=
  IsY w y pe P vs vc vw zs W ∧ ByO W (.slice A8 B.length c8) B ∧ W.heap[g14]? = some (.cells #[.int .i64 K.seq, .int .i64 K.ack, .slice Aq K.body.length cq] 43 (0, 0)) ∧ ByO W (.slice Aq K.body.length cq) K.body ∧ w.heap.size ≤ g14 ∧ NoRow P vs vc vw zs g14
theorem isy_keep {w W W' : World} {y : Nat} {pe : Bool → Nat} {P : Play} {s : Bool → LSt} {vs vc vw : Bool → Value} {zs : Bool → List (LPk × Value)} (h : IsY w y pe P vs vc vw zs W) (h' : IsY w y pe { P with e := s } vs vc vw zs W') : W'.heap[y]? = W.heap[y]? := by
  rw [h.b, h'.b]
theorem IsY.farP {w W W' : World} {y n : Nat} {pe : Bool → Nat} {P : Play} {vs vc vw : Bool → Value} {zs : Bool → List (LPk × Value)} (h : IsY w y pe P vs vc vw zs W) (f : Fr 0 [] [n] W W') {cs : Array Value} {fz : Nat × Nat} (hn : W.heap[n]? = some (.cells cs 43 fz)) (hl : w.heap.size ≤ n) (hr : NoRow P vs vc vw zs n) : IsY w y pe P vs vc vw zs W' :=
  h.fr f hn hl (by decide) (by decide) (by decide) (by decide) hr
theorem Try.infoString : (Try.prog.info? 9).map (fun i => (i.zero, i.size, i.bytes)) = some (some (.string ByteArray.empty), 1, 16) := by kernel_rfl
theorem own_empty {w : World} (T : TypeId) (size : Nat) : (w.alloc (.cells #[] T)).ownsRow w.heap.size T size (.slice (some ⟨w.heap.size, 0, none⟩) 0 0) 0 [] :=
  ⟨by simp, .inr ⟨_, 0, #[], rfl, Nat.le_refl _, block_new _ _, Nat.le_refl _, Nat.zero_le _, by simp, by simp⟩⟩
theorem rd_same {W0 W : World} {size n : Nat} {A : Option Addr} {xs : List Value} (h : W0.heap.size ≤ W.heap.size ∧ ∀ g, g < W0.heap.size → W.heap[g]? = W0.heap[g]?) (hr : Rd W0 size A n xs) : Rd W size A n xs :=
  ⟨hr.1, fun hn => by
    obtain ⟨g, o, e, hg, hc⟩ := hr.2 hn
    exact ⟨g, o, e, Nat.lt_of_lt_of_le hg h.1, fun j u hu => by rw [← hc j u hu]; simp only [World.cell?, h.2 g hg]⟩⟩
theorem p_one {W : World} {l : List (LPk × Value)} (h : ∀ z ∈ l, ByO W z.2 z.1.body) : ∀ u ∈ l.flatMap encP, u.oneCell' = true := fun u hu => by
  obtain ⟨z, hz, hu⟩ := List.mem_flatMap.1 hu
  obtain ⟨A, c, e, _⟩ := byo_slice (h z hz)
  simp only [encP, List.mem_cons, List.not_mem_nil, or_false] at hu
  rcases hu with rfl | rfl | rfl
  · rfl
  · rfl
  · rw [e]; rfl

set_option maxRecDepth 100000 in
set_option maxHeartbeats 3000000 in
theorem come_false (w : World) (y : Nat) (pe : Bool → Nat) (P : Play) (n : Int) (stays lost : Bool) (W : World) (vs vc vw : Bool → Value) (zs : Bool → List (LPk × Value)) (hY : IsY w y pe P vs vc vw zs W) (hw : ∀ a, (P.way a).length ≤ 400) (hc : (P.came false).length ≤ 1000000) (hmk : 0 ≤ (P.e false).mark ∧ (P.e false).mark < 9223372036854775807) :
    Calls Try.prog 17 #[.pointer (some ⟨y, 0, none⟩), .int .i64 0, .int .i64 n, .bool stays, .bool lost] W fun e W' => e = .returned (.tuple #[]) ∧ ∃ vs' vc' vw' zs', IsY w y pe (comeY P false n stays lost) vs' vc' vw' zs' W' := by
  obtain ⟨i1, hi1, hy0, hy1, hy2⟩ := info_parts Try.infoPkt
  obtain ⟨i2, hi2, hs0, hs1, hs2⟩ := info_parts Try.infoString
  have hps := hY.pks false
  obtain ⟨Av, cv, hv, kv1, kv2⟩ : ∃ A c, vw false = .slice A (P.way false).length c ∧ (P.way false).length ≤ c ∧ c ≤ maxLen := by
    have ho := hY.rows.1 ⟨43, 3, vw false, (P.way false).length, (zs false).flatMap encP⟩ (by simp [rowsY])
    obtain ⟨A, c, e, h1, h2, _⟩ := own_slice ho
    exact ⟨A, c, e, h1, h2⟩
  have HV := Lib.hid hv
  obtain ⟨N, hN⟩ : ∃ N, (P.way false).length = N := ⟨_, rfl⟩
  have HN := Lib.hid hN
  have hb0 := hY.b
  rw [show vw false = _ from HV.out, HN.out] at hb0
  have hN4 : N ≤ 400 := by rw [← hN]; exact hw false
  have x6 := cell_at hb0 6
  have HB0 := Lib.hid hb0
  have HY := Lib.hid hY
  have HW := Lib.hid hw
  have HMK := Lib.hid hmk
  have HCM := Lib.hid hc
  rw [HN.out] at kv1
  have hcv9 : cv ≤ 9223372036854775807 := by unfold maxLen at kv2; omega
  clear hv hN hb0 hY hw hps kv2 hmk hc
  go_enter Try.func17, Try.ntmps17
  by_cases h0 : N = 0
  · have hlen : decide (N = 0) = true := by simpa using h0
    go_wp2
    refine bodyPost_ret (results_none rfl _ _ _) rfl ⟨rfl, ?_⟩
    rw [comeY_nil (List.eq_nil_of_length_eq_zero (by rw [HN.out]; exact h0))]
    exact ⟨_, _, _, _, HY.out⟩
  · have hN0 : 0 < N := by omega
    obtain ⟨hk1, hk2, hk3⟩ := tmod_small n N hN0 hN4
    obtain ⟨q, hq⟩ : ∃ q, n.tmod (N : Int) = q := ⟨_, rfl⟩
    rw [hq] at hk1 hk2 hk3
    have HQ := Lib.hid hq
    go_upto_if 33 with fail
    clear hq
    go_cut [10] (fun s10 wx => s10 = .int .i64 (q.natAbs : Nat) ∧ W = wx)
    case first =>
      by_cases hq0 : q < 0
      · go_wp2_with fail
        go_meet
        exact ⟨by rw [show -q = ((q.natAbs : Nat) : Int) by omega], rfl⟩
      · go_wp2_with fail
        go_meet
        exact ⟨by rw [show ((q.natAbs : Nat) : Int) = q by omega], rfl⟩
    case rest =>
    obtain ⟨rfl, rfl⟩ := hcut
    obtain ⟨k, hk⟩ : ∃ k, q.natAbs = k := ⟨_, rfl⟩
    rw [hk] at hk3 ⊢
    have HK : Hid ((n.tmod (N : Int)).natAbs = k) := Lib.hid (by rw [HQ.out]; exact hk)
    have hkP : k < (P.way false).length := by rw [HN.out]; exact hk3
    obtain ⟨g, c', X, xc, e1, hg, k0, k1, k2, hby⟩ := pks_at hkP (HY.out.pks false)
    rw [HV.out] at e1
    injection e1 with e1 _ e2
    subst e1; subst e2
    obtain ⟨pk, hpk⟩ : ∃ pk, (P.way false)[k] = pk := ⟨_, rfl⟩
    rw [hpk] at k0 k1 k2 hby
    have HPE : Hid (∀ h : k < (P.way false).length, (P.way false)[k] = pk) := Lib.hid (fun _ => hpk)
    have HKP := Lib.hid hkP
    clear hk hkP HQ hk1 hk2 hpk
    have hbA := (Below.refl _ W).alloc (Nat.le_refl _) (.cells #[.int .i64 pk.seq, .int .i64 pk.ack, .slice X pk.body.length xc] 43)
    have HY0 := Lib.hid (HY.out.below hbA)
    have HBY := Lib.hid (hby.below hbA)
    have hq0 := block_new W (.cells #[.int .i64 pk.seq, .int .i64 pk.ack, .slice X pk.body.length xc] 43)
    obtain ⟨W0, hW0⟩ : ∃ W0, W.alloc (.cells #[.int .i64 pk.seq, .int .i64 pk.ack, .slice X pk.body.length xc] 43) = W0 := ⟨_, rfl⟩
    obtain ⟨b, hbn⟩ : ∃ b, W.heap.size = b := ⟨_, rfl⟩
    have hown : NoRow P vs vc vw zs b := hbn ▸ HY.out.norow_new (Nat.le_refl _)
    have HOWN := Lib.hid hown
    have HWB : Hid (w.heap.size ≤ b ∧ y < b) := Lib.hid (by rw [← hbn]; exact ⟨Nat.le_trans HY.out.low (Nat.le_of_lt (lt_of_block HY.out.b)), lt_of_block HY.out.b⟩)
    rw [hW0] at HY0 HBY hq0
    rw [hbn] at hq0
    have HW0 := Lib.hid hW0
    have HBN := Lib.hid hbn
    have HPK := Lib.hid hq0
    clear hby hq0 hW0 hbn hown hbA
    go_upto_if 46 with fail
    rw [HW0.out, HBN.out]
    clear x6 k0 k1 k2
    have hb0 := block_alloc HB0.out (.cells #[.int .i64 pk.seq, .int .i64 pk.ack, .slice X pk.body.length xc] 43)
    rw [HW0.out] at hb0
    have HB1 := Lib.hid hb0
    clear hb0 HB0 HY
    go_cut [] (fun wx => ∃ vs' vc' vw' zs', IsY w y pe (if stays = true then P else { P with way := upB P.way false ((P.way false).eraseIdx k) }) vs' vc' vw' zs' wx ∧ wx.heap[b]? = some (.cells #[.int .i64 pk.seq, .int .i64 pk.ack, .slice X pk.body.length xc] 43 (0, 0)) ∧ ByO wx (.slice X pk.body.length xc) pk.body)
    case first =>
      cases stays
      · obtain ⟨hrd, hzl⟩ : Rd W0 3 (some ⟨g, 0, none⟩) N ((zs false).flatMap encP) ∧ (zs false).length = N := by
          have ho := HY0.out.rows.1 ⟨43, 3, vw false, (P.way false).length, (zs false).flatMap encP⟩ (by simp [rowsY])
          obtain ⟨_, _, e1, _, _, hrd, _⟩ := own_slice ho
          simp only [HV.out] at e1
          injection e1 with e1 e3 e2
          subst e1; subst e2
          rw [HN.out] at hrd
          refine ⟨hrd, ?_⟩
          have := congrArg List.length (HY0.out.map false)
          rw [HN.out] at this
          simpa using this
        obtain ⟨hr1, hr2⟩ := rd_part hrd hzl k (k + 1) (by omega) (by omega)
        obtain ⟨r, hr⟩ : ∃ r, N - (k + 1) = r := ⟨_, rfl⟩
        obtain ⟨d67, hd⟩ : ∃ d, cv - (k + 1) = d := ⟨_, rfl⟩
        rw [hr] at hr2
        have hrN : k + 1 + r = N := by omega
        obtain ⟨A67, hA67, hr67⟩ : ∃ A67, (if cv = k + 1 then some (⟨g, 0, none⟩ : Addr) else some ⟨g, (k + 1) * 3, none⟩) = A67 ∧ Rd W0 3 A67 r (((zs false).drop (k + 1)).flatMap encP) := by
          refine ⟨_, rfl, ?_⟩
          split
          · refine ⟨hr2.1, fun hp => absurd hp (by omega)⟩
          · exact hr2
        have HR1 := Lib.hid hr1
        have HR67 := Lib.hid hr67
        have HA67 := Lib.hid hA67
        have HRR := Lib.hid hr
        have HDD := Lib.hid hd
        have HZL := Lib.hid hzl
        have hlt0 := HY0.out.rlt
        have HLT := Lib.hid hlt0
        have hn1 : IntKind.i64.wrap ((k : Int) + 1) = (k : Int) + 1 := IntWalk.i64_in _ (by omega)
        clear hrd hzl hr1 hr2 hr67 hA67 hlt0 hr hd
        go_wp2_with fail
        refine wp_region_flow (fun W => Below W0.heap.size W0 W) [0, 1, 3, 4, 5, 6, 7, 8, 9, 10, 12, 13, 14, 15, 16, 17, 18, 19, 20, 22, 23, 2, 11, 21, 24, 25] (by kernel_rfl) (by kernel_rfl) (by kernel_rfl) ((Below.refl _ W0).drew) ?_
        refine flow_val ?_ rfl (by kernel_rfl) (by rfl) (fun W hW => ?_) ?_
        rotate_left 1
        · go_simp <;> with_reducible rfl
        simp only [Act.put, List.setIfInBounds_toArray, List.set_cons_succ, List.set_cons_zero]
        refine flow_val ?_ rfl (by kernel_rfl) (by rfl) (fun W hW => ?_) ?_
        rotate_left 1
        · go_simp <;> with_reducible rfl
        simp only [Act.put, List.setIfInBounds_toArray, List.set_cons_succ, List.set_cons_zero]
        refine flow_val ?_ rfl (by kernel_rfl) (by rfl) (fun W hW => ?_) ?_
        rotate_left 1
        · go_simp <;> with_reducible rfl
        simp only [Act.put, List.setIfInBounds_toArray, List.set_cons_succ, List.set_cons_zero]
        refine flow_val ?_ rfl (by kernel_rfl) (by rfl) (fun W hW => ?_) ?_
        rotate_left 1
        · go_simp <;> with_reducible rfl
        simp only [Act.put, List.setIfInBounds_toArray, List.set_cons_succ, List.set_cons_zero]
        refine flow_val ?_ rfl (by kernel_rfl) (by rfl) (fun W hW => ?_) ?_
        rotate_left 1
        · go_simp <;> with_reducible rfl
        simp only [Act.put, List.setIfInBounds_toArray, List.set_cons_succ, List.set_cons_zero]
        refine flow_val ?_ rfl (by kernel_rfl) (by rfl) (fun W hW => ?_) ?_
        rotate_left 1
        · go_simp <;> with_reducible rfl
        simp only [Act.put, List.setIfInBounds_toArray, List.set_cons_succ, List.set_cons_zero]
        refine flow_val ?_ rfl (by kernel_rfl) (by rfl) (fun W hW => ?_) ?_
        rotate_left 1
        · go_simp <;> with_reducible rfl
        simp only [Act.put, List.setIfInBounds_toArray, List.set_cons_succ, List.set_cons_zero]
        refine flow_val ?_ rfl (by kernel_rfl) (by rfl) (fun W hW => ?_) ?_
        rotate_left 1
        · have c1 : W.cell? ⟨y, 6, none⟩ = some (.slice (some ⟨g, 0, none⟩) N cv) := cell_at ((hW.block y (lt_of_block HB1.out)).trans HB1.out) 6; go_simp <;> with_reducible rfl
        simp only [Act.put, List.setIfInBounds_toArray, List.set_cons_succ, List.set_cons_zero]
        refine flow_val ?_ rfl (by kernel_rfl) (by rfl) (fun W hW => ?_) ?_
        rotate_left 1
        · go_simp <;> with_reducible rfl
        simp only [Act.put, List.setIfInBounds_toArray, List.set_cons_succ, List.set_cons_zero]
        refine flow_val ?_ rfl (by kernel_rfl) (by rfl) (fun W hW => ?_) ?_
        rotate_left 1
        · go_simp; rw [if_pos (by omega)]
        simp only [Act.put, List.setIfInBounds_toArray, List.set_cons_succ, List.set_cons_zero]
        refine flow_val ?_ rfl (by kernel_rfl) (by rfl) (fun W hW => ?_) ?_
        rotate_left 1
        · go_simp <;> with_reducible rfl
        simp only [Act.put, List.setIfInBounds_toArray, List.set_cons_succ, List.set_cons_zero]
        refine flow_val ?_ rfl (by kernel_rfl) (by rfl) (fun W hW => ?_) ?_
        rotate_left 1
        · go_simp <;> with_reducible rfl
        simp only [Act.put, List.setIfInBounds_toArray, List.set_cons_succ, List.set_cons_zero]
        refine flow_val ?_ rfl (by kernel_rfl) (by rfl) (fun W hW => ?_) ?_
        rotate_left 1
        · go_simp <;> with_reducible rfl
        simp only [Act.put, List.setIfInBounds_toArray, List.set_cons_succ, List.set_cons_zero]
        refine flow_val ?_ rfl (by kernel_rfl) (by rfl) (fun W hW => ?_) ?_
        rotate_left 1
        · go_simp <;> with_reducible rfl
        simp only [Act.put, List.setIfInBounds_toArray, List.set_cons_succ, List.set_cons_zero]
        refine flow_val ?_ rfl (by kernel_rfl) (by rfl) (fun W hW => ?_) ?_
        rotate_left 1
        · go_simp <;> with_reducible rfl
        simp only [Act.put, List.setIfInBounds_toArray, List.set_cons_succ, List.set_cons_zero]
        refine flow_val ?_ rfl (by kernel_rfl) (by rfl) (fun W hW => ?_) ?_
        rotate_left 1
        · have c1 : W.cell? ⟨y, 6, none⟩ = some (.slice (some ⟨g, 0, none⟩) N cv) := cell_at ((hW.block y (lt_of_block HB1.out)).trans HB1.out) 6; go_simp <;> with_reducible rfl
        simp only [Act.put, List.setIfInBounds_toArray, List.set_cons_succ, List.set_cons_zero]
        refine flow_val ?_ rfl (by kernel_rfl) (by rfl) (fun W hW => ?_) ?_
        rotate_left 1
        · go_simp <;> with_reducible rfl
        simp only [Act.put, List.setIfInBounds_toArray, List.set_cons_succ, List.set_cons_zero]
        refine flow_val ?_ rfl (by kernel_rfl) (by rfl) (fun W hW => ?_) ?_
        rotate_left 1
        · go_simp <;> with_reducible rfl
        simp only [Act.put, List.setIfInBounds_toArray, List.set_cons_succ, List.set_cons_zero]
        refine flow_val ?_ rfl (by kernel_rfl) (by rfl) (fun W hW => ?_) ?_
        rotate_left 1
        · go_simp; rw [if_pos (by omega), HA67.out, HRR.out, HDD.out]
        simp only [Act.put, List.setIfInBounds_toArray, List.set_cons_succ, List.set_cons_zero]
        refine flow_val ?_ rfl (by kernel_rfl) (by rfl) (fun W hW => ?_) ?_
        rotate_left 1
        · go_simp <;> with_reducible rfl
        simp only [Act.put, List.setIfInBounds_toArray, List.set_cons_succ, List.set_cons_zero]
        refine flow_val ?_ rfl (by kernel_rfl) (by rfl) (fun W hW => ?_) ?_
        rotate_left 1
        · go_simp <;> with_reducible rfl
        simp only [Act.put, List.setIfInBounds_toArray, List.set_cons_succ, List.set_cons_zero]
        refine flow_gmake (fun v W => ∃ g', v = .slice (some ⟨g', 0, none⟩) 0 0 ∧ W.ownsRow W0.heap.size 43 3 (.slice (some ⟨g', 0, none⟩) 0 0) 0 []) rfl (by kernel_rfl) (by rfl) (by kernel_rfl) (fun W hW hC => ?_) ?_
        · have hb : Below W.heap.size W (W.alloc (.cells #[] 43)) := (Below.refl _ W).alloc (Nat.le_refl _) _
          exact ⟨_, _, by go_simp <;> with_reducible rfl, hW.trans (hb.mono hW.size), ⟨_, rfl, own_low (own_empty 43 3) hW.size⟩⟩
        rintro v49 ⟨_, _, g49, rfl, _⟩
        simp only [Act.put, List.setIfInBounds_toArray, List.set_cons_succ, List.set_cons_zero]
        refine flow_gmake (fun v W => W.ownsRow W0.heap.size 43 3 v (k) (((zs false).take k).flatMap encP)) rfl (by kernel_rfl) (by rfl) (by kernel_rfl) (fun W hW hC => ?_) ?_
        · obtain ⟨g2, e2, ho2⟩ := hC
          rw [← e2] at ho2
          refine exec_append_rd (.tmp 49) (.tmp 57) 34 rfl W0.heap.size 43 i1 (.agg #[.int .i64 0, .int .i64 0, .slice none 0 0]) 3 40 Try.underlying34 hi1 hy0 hy1 hy2 rfl (by decide) (.slice (some ⟨g49, 0, none⟩) 0 0) 0 ([]) rfl ho2 (some ⟨g, 0, none⟩) (k) (cv) (((zs false).take k).flatMap encP) rfl (HR1.out.below hW.1) (p_one (W := W0) (fun z hz => HY0.out.by_ false z (List.mem_of_mem_take hz))) (by unfold maxLen; omega) (by omega) hW.1.size (fun v' w' x2 x3 => ?_)
          have fx : Fr W0.heap.size [43] [] W w' := (Fr.refl W).grown x3 (fun j hj => by
            obtain ⟨hb, cs, hc⟩ := own_block ho2 hj
            exact ⟨hb, .inr ⟨cs, _, _, hc, by simp⟩⟩)
          exact ⟨⟨hW.1.trans (fx.below hW.1.size), trivial⟩, by simpa using x2⟩
        rintro v58 ⟨_, _, hv58⟩
        simp only [Act.put, List.setIfInBounds_toArray, List.set_cons_succ, List.set_cons_zero]
        obtain ⟨A58, c58, rfl, _, _, _, _⟩ := own_slice hv58
        clear hv58
        refine flow_gmake (fun v W => W.ownsRow W0.heap.size 43 3 v (k + r) (((zs false).take k).flatMap encP ++ ((zs false).drop (k + 1)).flatMap encP)) rfl (by kernel_rfl) (by rfl) (by kernel_rfl) (fun W hW hC => ?_) ?_
        · have ho2 := hC
          refine exec_append_rd (.tmp 58) (.tmp 67) 34 rfl W0.heap.size 43 i1 (.agg #[.int .i64 0, .int .i64 0, .slice none 0 0]) 3 40 Try.underlying34 hi1 hy0 hy1 hy2 rfl (by decide) (.slice A58 k c58) k (((zs false).take k).flatMap encP) rfl ho2 (A67) (r) (d67) (((zs false).drop (k + 1)).flatMap encP) rfl (HR67.out.below hW.1.1) (p_one (W := W0) (fun z hz => HY0.out.by_ false z (List.mem_of_mem_drop hz))) (by unfold maxLen; omega) (by omega) hW.1.1.size (fun v' w' x2 x3 => ?_)
          have fx : Fr W0.heap.size [43] [] W w' := (Fr.refl W).grown x3 (fun j hj => by
            obtain ⟨hb, cs, hc⟩ := own_block ho2 hj
            exact ⟨hb, .inr ⟨cs, _, _, hc, by simp⟩⟩)
          exact ⟨⟨⟨hW.1.1.trans (fx.below hW.1.1.size), trivial⟩, trivial⟩, by simpa using x2⟩
        rintro v68 ⟨_, _, hv68⟩
        simp only [Act.put, List.setIfInBounds_toArray, List.set_cons_succ, List.set_cons_zero]
        obtain ⟨A68, c68, rfl, _, _, _, _⟩ := own_slice hv68
        clear hv68
        refine flow_val ?_ rfl (by kernel_rfl) (by rfl) (fun W hW => ?_) ?_
        rotate_left 1
        · go_simp <;> with_reducible rfl
        simp only [Act.put, List.setIfInBounds_toArray, List.set_cons_succ, List.set_cons_zero]
        refine flow_bar (fun W => IsY w y pe { P with way := upB P.way false ((P.way false).eraseIdx k) } vs vc (upB vw false (.slice A68 (k + r) c68)) (upB zs false ((zs false).eraseIdx k)) W ∧ W.heap[b]? = some (.cells #[.int .i64 pk.seq, .int .i64 pk.ack, .slice X pk.body.length xc] 43 (0, 0)) ∧ ByO W (.slice X pk.body.length xc) pk.body) (fun _ => True) rfl (by kernel_rfl) (by rfl) (by kernel_rfl) (by kernel_rfl) (fun W hW hC => ?_) ?_
        · have hbe := hW.1.1.1
          have hyy := (hbe.block y (lt_of_block HB1.out)).trans HB1.out
          have q1 := cell_at hyy 6
          have q2 := frozen_at hyy 6
          have HYY := Lib.hid hyy
          have HBE := Lib.hid hbe
          have HO := Lib.hid hC
          clear hW hC hyy hbe
          refine ⟨_, by go_simp <;> with_reducible rfl, ⟨?_, ?_, ?_⟩, trivial⟩
          · have hY2 := HY0.out.below HBE.out
            have hql : ((P.way false).eraseIdx k).length = k + r := by rw [List.length_eraseIdx_of_lt HKP.out, HN.out]; omega
            refine hY2.took (a := false) (l := (zs false).eraseIdx k) (Q := (P.way false).eraseIdx k) (v := .slice A68 (k + r) c68) (M := W0.heap.size) ?_ (fun z hz => List.mem_of_mem_eraseIdx hz) ?_ ?_ HLT.out
            · rw [← HY0.out.map false]
              simp only [List.eraseIdx_eq_take_drop_succ, List.map_append, List.map_take, List.map_drop]
            · rw [hql, flatP_erase]; exact HO.out
            · have := lt_of_block HPK.out; have := HWB.out; omega
          · exact block_far ((HBE.out.block b (lt_of_block HPK.out)).trans HPK.out) (by have := HWB.out; simp; omega) _
          · exact (HBY.out.below HBE.out).far (n := y) ((Fr.refl W).setCell (p := ⟨y, 6, none⟩) _ (Nat.zero_le _) (.inl (by simp))) ((HBE.out.block y (lt_of_block HB1.out)).trans HB1.out) (by decide)
        simp only [Act.put]
        refine flow_done2 ?_
        intro WR hWR _
        go_wp2_with fail
        go_meet
        exact ⟨_, _, _, _, hWR.1.1, hWR.1.2.1, hWR.1.2.2⟩
      · go_wp2_with fail
        go_meet
        exact ⟨_, _, _, _, HY0.out, HPK.out, HBY.out⟩
    case rest =>
    obtain ⟨vs1, vc1, vw1, zs1, hI1, hP1, hY1⟩ := hcut
    obtain ⟨P1, hP1e⟩ : ∃ P1, (if stays = true then P else { P with way := upB P.way false ((P.way false).eraseIdx k) }) = P1 := ⟨_, rfl⟩
    rw [hP1e] at hI1
    have HMK1 : Hid (0 ≤ (P1.e false).mark ∧ (P1.e false).mark < 9223372036854775807) := Lib.hid (by rw [← hP1e]; split <;> exact HMK.out)
    have HCM1 : Hid ((P1.came false).length ≤ 1000000) := Lib.hid (by rw [← hP1e]; split <;> exact HCM.out)
    have HWT1 : Hid ((P1.way true).length ≤ 400) := Lib.hid (by rw [← hP1e]; split; exact HW.out _; simpa [upB] using HW.out true)
    have HCE : Hid (comeY P false n stays lost = if lost = true then P1 else onY P1 false pk) := Lib.hid (by
      rw [comeY_eq HN.out n HK.out HKP.out stays lost, hP1e, HPE.out HKP.out])
    have HI1 := Lib.hid hI1
    have HPK1 := Lib.hid hP1
    have HBY1 := Lib.hid hY1
    clear hI1 hP1 hY1 hP1e HPK HBY HY0 HB1 HOWN HW0 HBN HMK HCM HW HPE HKP HK HN HV
    cases lost
    · obtain ⟨B, hB⟩ : ∃ B, onB (P1.e false) pk = B := ⟨_, rfl⟩
      obtain ⟨NI, hNI⟩ : ∃ NI, onI (P1.e false) pk = NI := ⟨_, rfl⟩
      obtain ⟨K, hK⟩ : ∃ K, onP (P1.e false) pk = K := ⟨_, rfl⟩
      obtain ⟨P2, hP2⟩ : ∃ P2 : Play, { P1 with e := upB P1.e false (onS (P1.e false) pk) } = P2 := ⟨_, rfl⟩
      have HSC : Hid (∀ W, IsY w y pe P1 vs1 vc1 vw1 zs1 W → ByO W (.slice X pk.body.length xc) pk.body → Calls Try.prog 20 #[.pointer (some ⟨pe false, 0, none⟩), .agg #[.int .i64 pk.seq, .int .i64 pk.ack, .slice X pk.body.length xc]] W fun e W' => ∃ v, e = .returned v ∧ (∃ bv v3, v = .tuple #[bv, .bool NI, v3] ∧ ByO W' bv B ∧ IsP W' v3 K) ∧ IsY w y pe P2 vs1 vc1 vw1 zs1 W' ∧ Keeps W W') := Lib.hid (fun W h hb => by
        subst hB; subst hNI; subst hK; subst hP2
        exact h.onE false pk X xc hb HMK1.out)
      have HYK : Hid (∀ W W', IsY w y pe P1 vs1 vc1 vw1 zs1 W → IsY w y pe P2 vs1 vc1 vw1 zs1 W' → W'.heap[y]? = W.heap[y]?) := Lib.hid (fun W W' h h' => by
        subst hP2
        exact isy_keep h h')
      have HNR : Hid (∀ g, NoRow P1 vs1 vc1 vw1 zs1 g → NoRow P2 vs1 vc1 vw1 zs1 g) := Lib.hid (by
        subst hP2
        exact fun g h => h)
      have HON : Hid (onY P1 false pk = (let q : Play := if NI = true then { P2 with came := upB P2.came false (P2.came false ++ [B]) } else P2; if K.seq ≠ 0 ∨ K.ack ≠ 0 then putY q true K else q)) := Lib.hid (by
        subst hB; subst hNI; subst hK; subst hP2
        unfold onY
        simp only
        cases onI (P1.e false) pk <;> rfl)
      have HKS : Hid (K.seq = 0) := Lib.hid (by
        subst hK
        unfold onP
        split <;> rfl)
      have HCM2 : Hid ((P2.came false).length ≤ 1000000) := Lib.hid (by subst hP2; exact HCM1.out)
      have HWT2 : Hid ((P2.way true).length ≤ 400) := Lib.hid (by subst hP2; exact HWT1.out)
      have hb1 := HI1.out.b
      have HB1 := Lib.hid hb1
      clear hB hNI hK hP2 hb1 HMK1 HCM1 HWT1
      go_wp2_with fail
      apply wp_region_mid5 (M := RC8 w y pe P2 vs1 vc1 vw1 zs1 B K) (hm := by kernel_rfl)
      case h =>
        refine ok_split 12 7 (by decide) ?_ ?_
        · simp only [addAfter, addL]
          refine ok_flow (fun W => W.heap[y]? = wc.heap[y]? ∧ W.heap[b]? = wc.heap[b]?) (fun W => IsY w y pe P1 vs1 vc1 vw1 zs1 W ∧ ByO W (.slice X pk.body.length xc) pk.body) [0, 1, 2, 3, 4, 5, 6, 7, 8, 9, 10, 11, 12, 13, 14, 15] (fun _ => trivial) rfl (fun _ _ _ _ _ h => callsIn_wide.2 h) (by kernel_rfl) (by kernel_rfl) (⟨rfl, rfl⟩) (⟨HI1.out.below (Below.refl _ wc).drew, HBY1.out.below (Below.refl _ wc).drew⟩) ?_
          refine flow_val ?_ rfl (by kernel_rfl) (by rfl) (fun W hW => ?_) ?_
          rotate_left 1
          · go_simp <;> with_reducible rfl
          simp only [Act.put, List.setIfInBounds_toArray, List.set_cons_succ, List.set_cons_zero]
          refine flow_val ?_ rfl (by kernel_rfl) (by rfl) (fun W hW => ?_) ?_
          rotate_left 1
          · go_simp <;> with_reducible rfl
          simp only [Act.put, List.setIfInBounds_toArray, List.set_cons_succ, List.set_cons_zero]
          refine flow_val ?_ rfl (by kernel_rfl) (by rfl) (fun W hW => ?_) ?_
          rotate_left 1
          · go_simp <;> with_reducible rfl
          simp only [Act.put, List.setIfInBounds_toArray, List.set_cons_succ, List.set_cons_zero]
          refine flow_val ?_ rfl (by kernel_rfl) (by rfl) (fun W hW => ?_) ?_
          rotate_left 1
          · go_simp <;> with_reducible rfl
          simp only [Act.put, List.setIfInBounds_toArray, List.set_cons_succ, List.set_cons_zero]
          refine flow_val ?_ rfl (by kernel_rfl) (by rfl) (fun W hW => ?_) ?_
          rotate_left 1
          · go_simp <;> with_reducible rfl
          simp only [Act.put, List.setIfInBounds_toArray, List.set_cons_succ, List.set_cons_zero]
          refine flow_val ?_ rfl (by kernel_rfl) (by rfl) (fun W hW => ?_) ?_
          rotate_left 1
          · have c1 : W.cell? ⟨y, 0, none⟩ = some (.pointer (some ⟨pe false, 0, none⟩)) := cell_at (hW.1.trans HB1.out) 0; go_simp <;> with_reducible rfl
          simp only [Act.put, List.setIfInBounds_toArray, List.set_cons_succ, List.set_cons_zero]
          refine flow_val ?_ rfl (by kernel_rfl) (by rfl) (fun W hW => ?_) ?_
          rotate_left 1
          · have hq := hW.2.trans HPK1.out; have c1 : W.cell? ⟨b, 0, none⟩ = some (.int .i64 pk.seq) := cell_at hq 0; have c2 : W.cell? ⟨b, 1, none⟩ = some (.int .i64 pk.ack) := cell_at hq 1; have c3 : W.cell? ⟨b, 2, none⟩ = some (.slice X pk.body.length xc) := cell_at hq 2; clear hq; go_simp <;> with_reducible rfl
          simp only [Act.put, List.setIfInBounds_toArray, List.set_cons_succ, List.set_cons_zero]
          refine flow_gcall (fun v W => ∃ bv v3, v = .tuple #[bv, .bool NI, v3] ∧ ByO W bv B ∧ IsP W v3 K ∧ IsY w y pe P2 vs1 vc1 vw1 zs1 W) rfl (by kernel_rfl) (by rfl) (by kernel_rfl) (fun W hW hC => ?_) ?_
          · obtain ⟨hC1, hC2⟩ := hC
            have hWW := hW
            refine ⟨_, _, _, by go_simp, (HSC.out W hC1 hC2).mono fun e w1 ⟨v, he, ⟨bv, v3, h4, h5, h6⟩, hy, hk⟩ => ⟨v, he, ⟨(HYK.out _ _ hC1 hy).trans hWW.1, (hk.2 _ _ _ _ (hWW.2.trans HPK1.out) (by decide) (by decide)).trans HPK1.out.symm⟩, bv, v3, h4, h5, h6, hy⟩⟩
          rintro v81 ⟨_, _, bv, v3, rfl, hbv, ⟨bx, rfl, hbx⟩, _⟩
          simp only [Act.put, List.setIfInBounds_toArray, List.set_cons_succ, List.set_cons_zero]
          obtain ⟨A8, c8, rfl, _, _, _, _⟩ := byo_slice hbv
          obtain ⟨Aq, cq, rfl, _, _, _, _⟩ := byo_slice hbx
          clear hbv hbx
          refine flow_val ?_ rfl (by kernel_rfl) (by rfl) (fun W hW => ?_) ?_
          rotate_left 1
          · go_simp <;> with_reducible rfl
          simp only [Act.put, List.setIfInBounds_toArray, List.set_cons_succ, List.set_cons_zero]
          refine flow_val ?_ rfl (by kernel_rfl) (by rfl) (fun W hW => ?_) ?_
          rotate_left 1
          · go_simp <;> with_reducible rfl
          simp only [Act.put, List.setIfInBounds_toArray, List.set_cons_succ, List.set_cons_zero]
          refine flow_val ?_ rfl (by kernel_rfl) (by rfl) (fun W hW => ?_) ?_
          rotate_left 1
          · go_simp <;> with_reducible rfl
          simp only [Act.put, List.setIfInBounds_toArray, List.set_cons_succ, List.set_cons_zero]
          refine flow_val ?_ rfl (by kernel_rfl) (by rfl) (fun W hW => ?_) ?_
          rotate_left 1
          · go_simp <;> with_reducible rfl
          simp only [Act.put, List.setIfInBounds_toArray, List.set_cons_succ, List.set_cons_zero]
          refine flow_gmake (fun v W => ∃ g14, v = .pointer (some ⟨g14, 0, none⟩) ∧ W.heap[g14]? = some (.cells #[.int .i64 0, .int .i64 0, .slice none 0 0] 43 (0, 0)) ∧ w.heap.size ≤ g14 ∧ ByO W (.slice A8 B.length c8) B ∧ ByO W (.slice Aq K.body.length cq) K.body ∧ IsY w y pe P2 vs1 vc1 vw1 zs1 W ∧ NoRow P2 vs1 vc1 vw1 zs1 g14) rfl (by kernel_rfl) (by rfl) (by kernel_rfl) (fun W hW hC => ?_) ?_
          · have hWW := hW.1
            have hbb : Below W.heap.size W (W.alloc (.cells #[.int .i64 0, .int .i64 0, .slice none 0 0] 43)) := (Below.refl _ W).alloc (Nat.le_refl _) _
            obtain ⟨bv, v3, e1, h5, ⟨bx, e2, h6⟩, hy⟩ := hC
            subst e2
            simp at e1
            obtain ⟨e1, e2⟩ := e1
            subst e1; subst e2
            exact ⟨_, _, by go_simp <;> with_reducible rfl, ⟨⟨(hbb.block _ (lt_of_block (hWW.1.trans HB1.out))).trans hWW.1, (hbb.block _ (lt_of_block (hWW.2.trans HPK1.out))).trans hWW.2⟩, trivial⟩, ⟨_, rfl, block_new _ _, hy.two.bel.size, h5.below hbb, h6.below hbb, hy.below hbb, hy.norow_new (Nat.le_refl _)⟩⟩
          rintro v14 ⟨_, _, g14, rfl, _⟩
          simp only [Act.put, List.setIfInBounds_toArray, List.set_cons_succ, List.set_cons_zero]
          refine flow_val ?_ rfl (by kernel_rfl) (by rfl) (fun W hW => ?_) ?_
          rotate_left 1
          · go_simp <;> with_reducible rfl
          simp only [Act.put, List.setIfInBounds_toArray, List.set_cons_succ, List.set_cons_zero]
          refine flow_val ?_ rfl (by kernel_rfl) (by rfl) (fun W hW => ?_) ?_
          rotate_left 1
          · go_simp <;> with_reducible rfl
          simp only [Act.put, List.setIfInBounds_toArray, List.set_cons_succ, List.set_cons_zero]
          refine flow_bar (fun W => RC8 w y pe P2 vs1 vc1 vw1 zs1 B K A8 c8 Aq cq g14 W) (fun _ => True) rfl (by kernel_rfl) (by rfl) (by kernel_rfl) (by kernel_rfl) (fun W hW hC => ?_) ?_
          · obtain ⟨g2, e2, h14, hg14, h5, h6, hy, hnr⟩ := hC
            injection e2 with e2
            injection e2 with e2
            injection e2 with e2 _ _
            subst e2
            have q0 := cell_at h14 0
            have q1 := cell_at h14 1
            have q2 := cell_at h14 2
            have z0 := frozen_at h14 0
            have z1 := frozen_at h14 1
            have z2 := frozen_at h14 2
            have H8 := Lib.hid h14
            have H5 := Lib.hid h5
            have H6 := Lib.hid h6
            have HYY := Lib.hid hy
            have HNR2 := Lib.hid hnr
            have HG := Lib.hid hg14
            clear h14 h5 h6 hy hnr hW hg14
            refine ⟨_, by go_simp <;> with_reducible rfl, ?_, trivial⟩
            obtain ⟨W5, hW5, _, _, _, f5, _⟩ := pkt_store H8.out (.int .i64 K.seq) (.int .i64 K.ack) (.slice Aq K.body.length cq)
            have hl := HG.out
            refine ⟨?_, ?_, ?_, ?_, hl, HNR2.out⟩
            · rw [hW5]; exact HYY.out.farP f5 H8.out hl HNR2.out
            · rw [hW5]; exact H5.out.far f5 H8.out (by decide)
            · simpa using block_set (block_set (block_set H8.out 0 (.int .i64 K.seq)) 1 (.int .i64 K.ack)) 2 (.slice Aq K.body.length cq)
            · rw [hW5]; exact H6.out.far f5 H8.out (by decide)
          simp only [Act.put]
          refine flow_end ?_
          rintro W ⟨hR, _⟩ _
          exact .inl ⟨by trivial, A8, c8, Aq, cq, g14, rfl, hR⟩
        · simp only [addAfter, addL]
          refine ok_flow (fun W => W.heap[y]? = wc.heap[y]? ∧ W.heap[b]? = wc.heap[b]?) (fun W => IsY w y pe P1 vs1 vc1 vw1 zs1 W ∧ ByO W (.slice X pk.body.length xc) pk.body) [0, 1, 2, 3, 4, 5, 6, 12, 7, 8, 9, 10, 11, 13, 14, 15] (fun _ => trivial) rfl (fun _ _ _ _ _ h => callsIn_wide.2 h) (by kernel_rfl) (by kernel_rfl) (⟨rfl, rfl⟩) (⟨HI1.out.below (Below.refl _ wc).drew, HBY1.out.below (Below.refl _ wc).drew⟩) ?_
          refine flow_val ?_ rfl (by kernel_rfl) (by rfl) (fun W hW => ?_) ?_
          rotate_left 1
          · go_simp <;> with_reducible rfl
          simp only [Act.put, List.setIfInBounds_toArray, List.set_cons_succ, List.set_cons_zero]
          refine flow_val ?_ rfl (by kernel_rfl) (by rfl) (fun W hW => ?_) ?_
          rotate_left 1
          · go_simp <;> with_reducible rfl
          simp only [Act.put, List.setIfInBounds_toArray, List.set_cons_succ, List.set_cons_zero]
          refine flow_val ?_ rfl (by kernel_rfl) (by rfl) (fun W hW => ?_) ?_
          rotate_left 1
          · go_simp <;> with_reducible rfl
          simp only [Act.put, List.setIfInBounds_toArray, List.set_cons_succ, List.set_cons_zero]
          refine flow_val ?_ rfl (by kernel_rfl) (by rfl) (fun W hW => ?_) ?_
          rotate_left 1
          · go_simp <;> with_reducible rfl
          simp only [Act.put, List.setIfInBounds_toArray, List.set_cons_succ, List.set_cons_zero]
          refine flow_val ?_ rfl (by kernel_rfl) (by rfl) (fun W hW => ?_) ?_
          rotate_left 1
          · go_simp <;> with_reducible rfl
          simp only [Act.put, List.setIfInBounds_toArray, List.set_cons_succ, List.set_cons_zero]
          refine flow_val ?_ rfl (by kernel_rfl) (by rfl) (fun W hW => ?_) ?_
          rotate_left 1
          · have c1 : W.cell? ⟨y, 0, none⟩ = some (.pointer (some ⟨pe false, 0, none⟩)) := cell_at (hW.1.trans HB1.out) 0; go_simp <;> with_reducible rfl
          simp only [Act.put, List.setIfInBounds_toArray, List.set_cons_succ, List.set_cons_zero]
          refine flow_val ?_ rfl (by kernel_rfl) (by rfl) (fun W hW => ?_) ?_
          rotate_left 1
          · have hq := hW.2.trans HPK1.out; have c1 : W.cell? ⟨b, 0, none⟩ = some (.int .i64 pk.seq) := cell_at hq 0; have c2 : W.cell? ⟨b, 1, none⟩ = some (.int .i64 pk.ack) := cell_at hq 1; have c3 : W.cell? ⟨b, 2, none⟩ = some (.slice X pk.body.length xc) := cell_at hq 2; clear hq; go_simp <;> with_reducible rfl
          simp only [Act.put, List.setIfInBounds_toArray, List.set_cons_succ, List.set_cons_zero]
          refine flow_gmake (fun v W => ∃ g14, v = .pointer (some ⟨g14, 0, none⟩) ∧ W.heap[g14]? = some (.cells #[.int .i64 0, .int .i64 0, .slice none 0 0] 43 (0, 0)) ∧ w.heap.size ≤ g14 ∧ NoRow P1 vs1 vc1 vw1 zs1 g14 ∧ IsY w y pe P1 vs1 vc1 vw1 zs1 W ∧ ByO W (.slice X pk.body.length xc) pk.body) rfl (by kernel_rfl) (by rfl) (by kernel_rfl) (fun W hW hC => ?_) ?_
          · have hWW := hW
            have hbb : Below W.heap.size W (W.alloc (.cells #[.int .i64 0, .int .i64 0, .slice none 0 0] 43)) := (Below.refl _ W).alloc (Nat.le_refl _) _
            exact ⟨_, _, by go_simp <;> with_reducible rfl, ⟨(hbb.block _ (lt_of_block (hWW.1.trans HB1.out))).trans hWW.1, (hbb.block _ (lt_of_block (hWW.2.trans HPK1.out))).trans hWW.2⟩, ⟨_, rfl, block_new _ _, hC.1.two.bel.size, hC.1.norow_new (Nat.le_refl _), hC.1.below hbb, hC.2.below hbb⟩⟩
          rintro v14 ⟨_, _, g14, rfl, _⟩
          simp only [Act.put, List.setIfInBounds_toArray, List.set_cons_succ, List.set_cons_zero]
          refine flow_gcall (fun v W => ∃ bv v3, v = .tuple #[bv, .bool NI, v3] ∧ ByO W bv B ∧ IsP W v3 K ∧ IsY w y pe P2 vs1 vc1 vw1 zs1 W ∧ W.heap[g14]? = some (.cells #[.int .i64 0, .int .i64 0, .slice none 0 0] 43 (0, 0)) ∧ w.heap.size ≤ g14 ∧ NoRow P2 vs1 vc1 vw1 zs1 g14) rfl (by kernel_rfl) (by rfl) (by kernel_rfl) (fun W hW hC => ?_) ?_
          · obtain ⟨g2, e2, h2, h3, h4n, hC1, hC2⟩ := hC
            injection e2 with e2
            injection e2 with e2
            injection e2 with e2 _ _
            subst e2
            have hWW := hW.1
            refine ⟨_, _, _, by go_simp, (HSC.out W hC1 hC2).mono fun e w1 ⟨v, he, ⟨bv, v3, h4, h5, h6⟩, hy, hk⟩ => ⟨v, he, ⟨⟨(HYK.out _ _ hC1 hy).trans hWW.1, (hk.2 _ _ _ _ (hWW.2.trans HPK1.out) (by decide) (by decide)).trans HPK1.out.symm⟩, trivial⟩, bv, v3, h4, h5, h6, hy, hk.2 _ _ _ _ h2 (by decide) (by decide), h3, HNR.out _ h4n⟩⟩
          rintro v81 ⟨_, _, bv, v3, rfl, hbv, ⟨bx, rfl, hbx⟩, _⟩
          simp only [Act.put, List.setIfInBounds_toArray, List.set_cons_succ, List.set_cons_zero]
          obtain ⟨A8, c8, rfl, _, _, _, _⟩ := byo_slice hbv
          obtain ⟨Aq, cq, rfl, _, _, _, _⟩ := byo_slice hbx
          clear hbv hbx
          refine flow_val ?_ rfl (by kernel_rfl) (by rfl) (fun W hW => ?_) ?_
          rotate_left 1
          · go_simp <;> with_reducible rfl
          simp only [Act.put, List.setIfInBounds_toArray, List.set_cons_succ, List.set_cons_zero]
          refine flow_val ?_ rfl (by kernel_rfl) (by rfl) (fun W hW => ?_) ?_
          rotate_left 1
          · go_simp <;> with_reducible rfl
          simp only [Act.put, List.setIfInBounds_toArray, List.set_cons_succ, List.set_cons_zero]
          refine flow_val ?_ rfl (by kernel_rfl) (by rfl) (fun W hW => ?_) ?_
          rotate_left 1
          · go_simp <;> with_reducible rfl
          simp only [Act.put, List.setIfInBounds_toArray, List.set_cons_succ, List.set_cons_zero]
          refine flow_val ?_ rfl (by kernel_rfl) (by rfl) (fun W hW => ?_) ?_
          rotate_left 1
          · go_simp <;> with_reducible rfl
          simp only [Act.put, List.setIfInBounds_toArray, List.set_cons_succ, List.set_cons_zero]
          refine flow_val ?_ rfl (by kernel_rfl) (by rfl) (fun W hW => ?_) ?_
          rotate_left 1
          · go_simp <;> with_reducible rfl
          simp only [Act.put, List.setIfInBounds_toArray, List.set_cons_succ, List.set_cons_zero]
          refine flow_val ?_ rfl (by kernel_rfl) (by rfl) (fun W hW => ?_) ?_
          rotate_left 1
          · go_simp <;> with_reducible rfl
          simp only [Act.put, List.setIfInBounds_toArray, List.set_cons_succ, List.set_cons_zero]
          refine flow_bar (fun W => RC8 w y pe P2 vs1 vc1 vw1 zs1 B K A8 c8 Aq cq g14 W) (fun _ => True) rfl (by kernel_rfl) (by rfl) (by kernel_rfl) (by kernel_rfl) (fun W hW hC => ?_) ?_
          · obtain ⟨bv, v3, e1, h5, ⟨bx, e2, h6⟩, hy, h14, hg14, hnr⟩ := hC
            subst e2
            simp at e1
            obtain ⟨e1, e2⟩ := e1
            subst e1; subst e2
            have q0 := cell_at h14 0
            have q1 := cell_at h14 1
            have q2 := cell_at h14 2
            have z0 := frozen_at h14 0
            have z1 := frozen_at h14 1
            have z2 := frozen_at h14 2
            have H8 := Lib.hid h14
            have H5 := Lib.hid h5
            have H6 := Lib.hid h6
            have HYY := Lib.hid hy
            have HNR2 := Lib.hid hnr
            have HG := Lib.hid hg14
            clear h14 h5 h6 hy hnr hW hg14
            refine ⟨_, by go_simp <;> with_reducible rfl, ?_, trivial⟩
            obtain ⟨W5, hW5, _, _, _, f5, _⟩ := pkt_store H8.out (.int .i64 K.seq) (.int .i64 K.ack) (.slice Aq K.body.length cq)
            have hl := HG.out
            refine ⟨?_, ?_, ?_, ?_, hl, HNR2.out⟩
            · rw [hW5]; exact HYY.out.farP f5 H8.out hl HNR2.out
            · rw [hW5]; exact H5.out.far f5 H8.out (by decide)
            · simpa using block_set (block_set (block_set H8.out 0 (.int .i64 K.seq)) 1 (.int .i64 K.ack)) 2 (.slice Aq K.body.length cq)
            · rw [hW5]; exact H6.out.far f5 H8.out (by decide)
          simp only [Act.put]
          refine flow_end ?_
          rintro W ⟨hR, _⟩ _
          exact .inl ⟨by trivial, A8, c8, Aq, cq, g14, rfl, hR⟩
      case hk =>
        intro A8 c8 Aq cq g14 W8 hR8
        obtain ⟨hI2, hB8, hK14, hKb, hg14, hnr⟩ := hR8
        have HI2 := Lib.hid hI2
        have HB8 := Lib.hid hB8
        have HK14 := Lib.hid hK14
        have HKB := Lib.hid hKb
        have HNRG := Lib.hid hnr
        have hne : g14 ≠ y := block_ne hK14 hI2.b (by decide)
        have HNE := Lib.hid hne
        clear hI2 hB8 hK14 hKb hnr hne hg14 HI1 HPK1 HBY1 HB1 HSC HYK
        go_upto_if 85 with fail
        go_cut [] (fun wx => ∃ vs' vc' vw' zs', IsY w y pe (if NI = true then { P2 with came := upB P2.came false (P2.came false ++ [B]) } else P2) vs' vc' vw' zs' wx ∧ wx.heap[g14]? = some (.cells #[.int .i64 K.seq, .int .i64 K.ack, .slice Aq K.body.length cq] 43 (0, 0)) ∧ ByO wx (.slice Aq K.body.length cq) K.body)
        case first =>
          cases NI
          · go_wp2_with fail
            go_meet
            exact ⟨_, _, _, _, HI2.out, HK14.out, HKB.out⟩
          · go_wp2_with fail
            obtain ⟨Ar, cr, hvr, kr1, kr2⟩ : ∃ A c, vc1 false = .slice A (P2.came false).length c ∧ (P2.came false).length ≤ c ∧ c ≤ maxLen := by
              obtain ⟨A', c', e, h1, h2, _⟩ := own_slice (HI2.out.rows.1 ⟨9, 1, vc1 false, (P2.came false).length, (P2.came false).map strY⟩ (by simp [rowsY]))
              exact ⟨A', c', e, h1, h2⟩
            have HVR := Lib.hid hvr
            obtain ⟨m, hm⟩ : ∃ m, (P2.came false).length = m := ⟨_, rfl⟩
            have hm1 : m ≤ 1000000 := by rw [← hm]; exact HCM2.out
            have HM := Lib.hid hm
            have hbr := HI2.out.b
            rw [show vc1 false = _ from HVR.out] at hbr
            rw [hm] at kr1 hbr
            have HBR := Lib.hid hbr
            obtain ⟨S, hS⟩ : ∃ S, strOf B = S := ⟨_, rfl⟩
            have HS := Lib.hid hS
            have HNY : Hid (NoRow P2 vs1 vc1 vw1 zs1 y) := Lib.hid (HI2.out.norow HI2.out.b (by decide) (by decide))
            have HNB : Hid (∀ g cs fz, W8.heap[g]? = some (.cells cs 5 fz) → NoRow P2 vs1 vc1 vw1 zs1 g) := Lib.hid (fun g cs fz hc => HI2.out.norow hc (by decide) (by decide))
            have HCV : Hid (∀ W, (W8.heap.size ≤ W.heap.size ∧ ∀ g, g < W8.heap.size → NoRow P2 vs1 vc1 vw1 zs1 g → W.heap[g]? = W8.heap[g]?) → (convert 41 9 (.slice A8 B.length c8)).run Try.prog W = .ok (.string S) W) := Lib.hid (fun W hW => by
              have hby : ByO W (.slice A8 B.length c8) B := ⟨HB8.out.1.keep fun k cs fz _ hc => (hW.2 k (lt_of_block hc) (HNB.out k cs fz hc)).trans hc, HB8.out.2⟩
              obtain ⟨_, _, e1, _, _, hrd, _⟩ := byo_slice hby
              injection e1 with e1 e2 e3
              subst e1; subst e3
              exact HS.out ▸ run_str W _ _ _ _ hrd hby.2)
            clear hvr hm hbr hS
            refine wp_region_flow2 (fun W => W8.heap.size ≤ W.heap.size ∧ ∀ g, g < W8.heap.size → NoRow P2 vs1 vc1 vw1 zs1 g → W.heap[g]? = W8.heap[g]?) (fun W => IsY w y pe P2 vs1 vc1 vw1 zs1 W ∧ KeepsB W8 W) [0, 1, 2, 3, 4, 5, 6, 7, 8, 9, 12, 13, 10, 11, 14, 15] (by kernel_rfl) (by kernel_rfl) (by kernel_rfl) (⟨Nat.le_refl _, fun _ _ _ => rfl⟩) (⟨HI2.out.below (Below.refl _ W8).drew, KeepsB.below (Below.refl _ W8).drew⟩) ?_
            refine flow_val ?_ rfl (by kernel_rfl) (by rfl) (fun W hW => ?_) ?_
            rotate_left 1
            · go_simp <;> with_reducible rfl
            simp only [Act.put, List.setIfInBounds_toArray, List.set_cons_succ, List.set_cons_zero]
            refine flow_val ?_ rfl (by kernel_rfl) (by rfl) (fun W hW => ?_) ?_
            rotate_left 1
            · go_simp <;> with_reducible rfl
            simp only [Act.put, List.setIfInBounds_toArray, List.set_cons_succ, List.set_cons_zero]
            refine flow_val ?_ rfl (by kernel_rfl) (by rfl) (fun W hW => ?_) ?_
            rotate_left 1
            · go_simp <;> with_reducible rfl
            simp only [Act.put, List.setIfInBounds_toArray, List.set_cons_succ, List.set_cons_zero]
            refine flow_val ?_ rfl (by kernel_rfl) (by rfl) (fun W hW => ?_) ?_
            rotate_left 1
            · go_simp <;> with_reducible rfl
            simp only [Act.put, List.setIfInBounds_toArray, List.set_cons_succ, List.set_cons_zero]
            refine flow_val ?_ rfl (by kernel_rfl) (by rfl) (fun W hW => ?_) ?_
            rotate_left 1
            · go_simp <;> with_reducible rfl
            simp only [Act.put, List.setIfInBounds_toArray, List.set_cons_succ, List.set_cons_zero]
            refine flow_val ?_ rfl (by kernel_rfl) (by rfl) (fun W hW => ?_) ?_
            rotate_left 1
            · go_simp <;> with_reducible rfl
            simp only [Act.put, List.setIfInBounds_toArray, List.set_cons_succ, List.set_cons_zero]
            refine flow_val ?_ rfl (by kernel_rfl) (by rfl) (fun W hW => ?_) ?_
            rotate_left 1
            · go_simp <;> with_reducible rfl
            simp only [Act.put, List.setIfInBounds_toArray, List.set_cons_succ, List.set_cons_zero]
            refine flow_val ?_ rfl (by kernel_rfl) (by rfl) (fun W hW => ?_) ?_
            rotate_left 1
            · have c1 : W.cell? ⟨y, 4, none⟩ = some (.slice Ar m cr) := cell_at ((hW.2 y (lt_of_block HBR.out) HNY.out).trans HBR.out) 4; go_simp <;> with_reducible rfl
            simp only [Act.put, List.setIfInBounds_toArray, List.set_cons_succ, List.set_cons_zero]
            refine flow_val ?_ rfl (by kernel_rfl) (by rfl) (fun W hW => ?_) ?_
            rotate_left 1
            · go_simp <;> with_reducible rfl
            simp only [Act.put, List.setIfInBounds_toArray, List.set_cons_succ, List.set_cons_zero]
            refine flow_val ?_ rfl (by kernel_rfl) (by rfl) (fun W hW => ?_) ?_
            rotate_left 1
            · have c1 := HCV.out W hW; go_simp <;> with_reducible rfl
            simp only [Act.put, List.setIfInBounds_toArray, List.set_cons_succ, List.set_cons_zero]
            refine flow_val ?_ rfl (by kernel_rfl) (by rfl) (fun W hW => ?_) ?_
            rotate_left 1
            · go_simp <;> with_reducible rfl
            simp only [Act.put, List.setIfInBounds_toArray, List.set_cons_succ, List.set_cons_zero]
            refine flow_val ?_ rfl (by kernel_rfl) (by rfl) (fun W hW => ?_) ?_
            rotate_left 1
            · go_simp <;> with_reducible rfl
            simp only [Act.put, List.setIfInBounds_toArray, List.set_cons_succ, List.set_cons_zero]
            refine flow_gmake (fun v W => ∃ g', v = .slice (some ⟨g', 0, none⟩) 1 1 ∧ W.heap[g']? = some (.cells #[.string S] 9 (0, 0)) ∧ IsY w y pe P2 vs1 vc1 vw1 zs1 W ∧ KeepsB W8 W) rfl (by kernel_rfl) (by rfl) (by kernel_rfl) (fun W hW hC => ?_) ?_
            · have hb : Below W.heap.size W (W.alloc (.cells #[.string S] 9)) := (Below.refl _ W).alloc (Nat.le_refl _) _
              exact ⟨_, _, by go_simp <;> with_reducible rfl, ⟨Nat.le_trans hW.1 hb.size, fun g hg hr => (hb.block _ (Nat.lt_of_lt_of_le hg hW.1)).trans (hW.2 g hg hr)⟩, ⟨_, rfl, block_new _ _, hC.1.below hb, fun v bs hh => (hC.2 v bs hh).below hb⟩⟩
            rintro vb ⟨_, _, gb, rfl, _, _⟩
            simp only [Act.put, List.setIfInBounds_toArray, List.set_cons_succ, List.set_cons_zero]
            refine flow_gmake (fun v W => YF w y pe P2 vs1 vc1 vw1 zs1 ((rowsY P2 vs1 vc1 vw1 zs1).set 2 ⟨9, 1, v, m + 1, (P2.came false).map strY ++ [.string S]⟩) W ∧ KeepsB W8 W ∧ (v.ownBlock = (vc1 false).ownBlock ∨ ∃ g, v.ownBlock = some g ∧ W8.heap.size ≤ g)) rfl (by kernel_rfl) (by rfl) (by kernel_rfl) (fun W hW hC => ?_) ?_
            · obtain ⟨g2, e2, hg2, hC2, hC3⟩ := hC
              injection e2 with e2 _ _
              injection e2 with e2
              injection e2 with e2 _ _
              subst e2
              have hir : (rowsY P2 vs1 vc1 vw1 zs1)[2]? = some ⟨9, 1, vc1 false, (P2.came false).length, (P2.came false).map strY⟩ := rfl
              have hor := hC2.rows.1 _ (List.mem_of_getElem? hir)
              simp only [HVR.out, HM.out] at hor hir
              refine exec_append_at (.tmp 93) (.tmp 96) 32 rfl w.heap.size 9 i2 (.string ByteArray.empty) 1 16 Try.underlying32 hi2 hs0 hs1 hs2 rfl (by decide) (.slice Ar m cr) m ((P2.came false).map strY) rfl hor (some ⟨gb, 0, none⟩) 1 1 [.string S] rfl ⟨rfl, fun _ => ⟨_, _, rfl, lt_of_block hg2, fun j u hu => ?_⟩⟩ (by simp [Value.oneCell']) (by unfold maxLen; omega) (by omega) hC2.two.bel.size (fun v' w' x2 x3 x4 => ?_)
              · match j, hu with
                | 0, hu => simp at hu; subst hu; rw [cell_at hg2]; rfl
                | j + 1, hu => simp at hu
              · obtain ⟨hyf, hkb⟩ := hC2.grow hir (by show 9 ≠ 5; decide) (by show 9 ≠ 84; decide) (by show 9 ≠ 80; decide) (by show 9 ≠ 37; decide) x3 x2 x4
                refine ⟨⟨⟨Nat.le_trans hW.1.1 x3.size, fun g hg hr => ?_⟩, trivial⟩, hyf, fun v bs hh => hkb _ _ (hC3 v bs hh), ?_⟩
                · rw [x3.block g (Nat.lt_of_lt_of_le hg hW.1.1) (fun e => hr ⟨9, 1, vc1 false, (P2.came false).length, (P2.came false).map strY⟩ (by simp [rowsY]) (by simp only [HVR.out, HM.out]; exact e.symm))]
                  exact hW.1.2 g hg hr
                · rcases x4 with x4 | x4
                  · exact .inl (by rw [HVR.out, HM.out]; exact x4)
                  · exact .inr ⟨_, x4, hW.1.1⟩
            rintro va ⟨_, _, hva, _⟩
            simp only [Act.put, List.setIfInBounds_toArray, List.set_cons_succ, List.set_cons_zero]
            obtain ⟨Aa, ca, ea⟩ : ∃ A' c', va = .slice A' (m + 1) c' := by
              obtain ⟨A', c', e, _⟩ := own_slice (hva.rows.1 ⟨9, 1, va, m + 1, (P2.came false).map strY ++ [.string S]⟩ (by simp [rowsY]))
              exact ⟨A', c', e⟩
            subst ea
            clear hva
            refine flow_val ?_ rfl (by kernel_rfl) (by rfl) (fun W hW => ?_) ?_
            rotate_left 1
            · go_simp <;> with_reducible rfl
            simp only [Act.put, List.setIfInBounds_toArray, List.set_cons_succ, List.set_cons_zero]
            refine flow_bar (fun W => RetY w y pe P2 vs1 vc1 vw1 zs1 W8 { P2 with came := upB P2.came false (P2.came false ++ [B]) } W) (fun _ => True) rfl (by kernel_rfl) (by rfl) (by kernel_rfl) (by kernel_rfl) (fun W hW hC => ?_) ?_
            · obtain ⟨hyf, hkb, hnew⟩ := hC
              have q1 := cell_at hyf.b 4
              have q2 := frozen_at hyf.b 4
              have HF := Lib.hid hyf
              have HKB := Lib.hid hkb
              have HNEW := Lib.hid hnew
              have HWW := Lib.hid hW.1.1
              clear hyf hkb hnew hW
              refine ⟨_, by go_simp <;> with_reducible rfl, ?_, trivial⟩
              obtain ⟨s1, s2, s3⟩ := HF.out.store (by simp [rowsY]) 4 (.slice Aa (m + 1) ca)
              refine ⟨vs1, upB vc1 false (.slice Aa (m + 1) ca), vw1, zs1, ⟨?_, s2, HF.out.low, HI2.out.map, fun a z hz => s1 _ _ (HF.out.by_ a z hz), ?_⟩, fun v bs hh => s1 _ _ (HKB.out v bs hh), by simpa using HWW.out.1, fun g hg hy hr => ⟨?_, ?_⟩⟩
              · rw [block_set HF.out.b]; simp [upB]
              · have := s3
                simpa [rowsY, upB, HM.out, List.map_append, strY, HS.out] using this
              · exact (Below.heap_setCell _ _ _ g (by simpa using hy)).trans (HWW.out.2 g hg hr)
              · have hnw : (Value.slice Aa (m + 1) ca).ownBlock ≠ some g := by
                  rcases HNEW.out with e | ⟨g', e, hg'⟩
                  · rw [e]; exact hr ⟨9, 1, vc1 false, (P2.came false).length, (P2.came false).map strY⟩ (by simp [rowsY])
                  · rw [e]; intro e2; injection e2 with e2; omega
                intro r hr2
                have hr3 := fun r hh => hr r hh
                simp only [rowsY, List.mem_cons, List.not_mem_nil, or_false] at hr2 hr3
                rcases hr2 with rfl | rfl | rfl | rfl | rfl | rfl
                · simpa [upB] using hr3 _ (.inl rfl)
                · simpa [upB] using hr3 _ (.inr (.inl rfl))
                · simpa [upB] using hnw
                · simpa [upB] using hr3 _ (.inr (.inr (.inr (.inl rfl))))
                · simpa [upB] using hr3 _ (.inr (.inr (.inr (.inr (.inl rfl)))))
                · simpa [upB] using hr3 _ (.inr (.inr (.inr (.inr (.inr (rfl))))))
            simp only [Act.put]
            refine flow_done2 ?_
            intro WR hWR _
            go_wp2_with fail
            go_meet
            obtain ⟨vs3, vc3, vw3, zs3, h1, h2, _, h4⟩ := hWR.1
            exact ⟨vs3, vc3, vw3, zs3, h1, ((h4 g14 (lt_of_block HK14.out) HNE.out HNRG.out).1).trans HK14.out, h2 _ _ HKB.out⟩
        case rest =>
        obtain ⟨vs3, vc3, vw3, zs3, hI3, hK3, hB3⟩ := hcut
        obtain ⟨P3, hP3⟩ : ∃ P3, (if NI = true then { P2 with came := upB P2.came false (P2.came false ++ [B]) } else P2) = P3 := ⟨_, rfl⟩
        rw [hP3] at hI3
        have HWT3 : Hid ((P3.way true).length ≤ 400) := Lib.hid (by rw [← hP3]; split <;> exact HWT2.out)
        have HON3 : Hid (onY P1 false pk = if K.seq ≠ 0 ∨ K.ack ≠ 0 then putY P3 true K else P3) := Lib.hid (by rw [HON.out]; simp only [hP3])
        have hK3' := hK3
        rw [HKS.out] at hK3'
        have d0 := cell_at hK3' 0
        have d1 := cell_at hK3' 1
        have d2 := cell_at hK3' 2
        have HI3 := Lib.hid hI3
        have HB3 := Lib.hid hB3
        clear hI3 hK3 hB3 hP3 hK3' HI2 HB8 HK14 HKB HNRG HNE HON HWT2 HCM2
        by_cases hka : K.ack = 0
        · have hkb : (K.ack == 0) = true := by simpa using hka
          have HKA := Lib.hid hka
          clear hka
          go_wp2
          go_end0
          refine ⟨by simp, ?_⟩
          rw [show comeY P false n stays false = onY P1 false pk from HCE.out, HON3.out, if_neg (by rw [HKS.out, HKA.out]; simp)]
          exact ⟨_, _, _, _, HI3.out⟩
        · have hkb : (K.ack == 0) = false := by simpa using hka
          have HKA := Lib.hid hka
          clear hka
          have HPUT : Hid (∀ W, IsY w y pe P3 vs3 vc3 vw3 zs3 W → ByO W (.slice Aq K.body.length cq) K.body → Calls Try.prog 40 #[.pointer (some ⟨y, 0, none⟩), .int .i64 1, .agg #[.int .i64 0, .int .i64 K.ack, .slice Aq K.body.length cq]] W fun e W' => e = .returned (.tuple #[]) ∧ RetY w y pe P3 vs3 vc3 vw3 zs3 W (putY P3 true K) W') := Lib.hid (fun W h hb => by
            have h := put_true w y pe P3 K Aq cq W vs3 vc3 vw3 zs3 h hb HWT3.out
            rw [HKS.out] at h
            exact h)
          go_wp2_with fail
          refine (HPUT.out _ HI3.out HB3.out).mono ?_
          rintro e W9 ⟨rfl, hret⟩
          have HRET := Lib.hid hret
          clear hret d0 d1 d2
          go_wp2
          go_end0
          refine ⟨by simp, ?_⟩
          rw [show comeY P false n stays false = onY P1 false pk from HCE.out, HON3.out, if_pos (.inr HKA.out)]
          obtain ⟨vs4, vc4, vw4, zs4, h1, _⟩ := HRET.out
          exact ⟨vs4, vc4, vw4, zs4, h1⟩
    · go_wp2
      refine bodyPost_ret (results_none rfl _ _ _) rfl ⟨rfl, ?_⟩
      rw [show comeY P false n stays true = P1 from HCE.out]
      exact ⟨_, _, _, _, HI1.out⟩

set_option maxRecDepth 100000 in
set_option maxHeartbeats 3000000 in
theorem come_true (w : World) (y : Nat) (pe : Bool → Nat) (P : Play) (n : Int) (stays lost : Bool) (W : World) (vs vc vw : Bool → Value) (zs : Bool → List (LPk × Value)) (hY : IsY w y pe P vs vc vw zs W) (hw : ∀ a, (P.way a).length ≤ 400) (hc : (P.came true).length ≤ 1000000) (hmk : 0 ≤ (P.e true).mark ∧ (P.e true).mark < 9223372036854775807) :
    Calls Try.prog 17 #[.pointer (some ⟨y, 0, none⟩), .int .i64 1, .int .i64 n, .bool stays, .bool lost] W fun e W' => e = .returned (.tuple #[]) ∧ ∃ vs' vc' vw' zs', IsY w y pe (comeY P true n stays lost) vs' vc' vw' zs' W' := by
  obtain ⟨i1, hi1, hy0, hy1, hy2⟩ := info_parts Try.infoPkt
  obtain ⟨i2, hi2, hs0, hs1, hs2⟩ := info_parts Try.infoString
  have hps := hY.pks true
  obtain ⟨Av, cv, hv, kv1, kv2⟩ : ∃ A c, vw true = .slice A (P.way true).length c ∧ (P.way true).length ≤ c ∧ c ≤ maxLen := by
    have ho := hY.rows.1 ⟨43, 3, vw true, (P.way true).length, (zs true).flatMap encP⟩ (by simp [rowsY])
    obtain ⟨A, c, e, h1, h2, _⟩ := own_slice ho
    exact ⟨A, c, e, h1, h2⟩
  have HV := Lib.hid hv
  obtain ⟨N, hN⟩ : ∃ N, (P.way true).length = N := ⟨_, rfl⟩
  have HN := Lib.hid hN
  have hb0 := hY.b
  rw [show vw true = _ from HV.out, HN.out] at hb0
  have hN4 : N ≤ 400 := by rw [← hN]; exact hw true
  have x6 := cell_at hb0 7
  have HB0 := Lib.hid hb0
  have HY := Lib.hid hY
  have HW := Lib.hid hw
  have HMK := Lib.hid hmk
  have HCM := Lib.hid hc
  rw [HN.out] at kv1
  have hcv9 : cv ≤ 9223372036854775807 := by unfold maxLen at kv2; omega
  clear hv hN hb0 hY hw hps kv2 hmk hc
  go_enter Try.func17, Try.ntmps17
  by_cases h0 : N = 0
  · have hlen : decide (N = 0) = true := by simpa using h0
    go_wp2
    refine bodyPost_ret (results_none rfl _ _ _) rfl ⟨rfl, ?_⟩
    rw [comeY_nil (List.eq_nil_of_length_eq_zero (by rw [HN.out]; exact h0))]
    exact ⟨_, _, _, _, HY.out⟩
  · have hN0 : 0 < N := by omega
    obtain ⟨hk1, hk2, hk3⟩ := tmod_small n N hN0 hN4
    obtain ⟨q, hq⟩ : ∃ q, n.tmod (N : Int) = q := ⟨_, rfl⟩
    rw [hq] at hk1 hk2 hk3
    have HQ := Lib.hid hq
    go_upto_if 33 with fail
    clear hq
    go_cut [10] (fun s10 wx => s10 = .int .i64 (q.natAbs : Nat) ∧ W = wx)
    case first =>
      by_cases hq0 : q < 0
      · go_wp2_with fail
        go_meet
        exact ⟨by rw [show -q = ((q.natAbs : Nat) : Int) by omega], rfl⟩
      · go_wp2_with fail
        go_meet
        exact ⟨by rw [show ((q.natAbs : Nat) : Int) = q by omega], rfl⟩
    case rest =>
    obtain ⟨rfl, rfl⟩ := hcut
    obtain ⟨k, hk⟩ : ∃ k, q.natAbs = k := ⟨_, rfl⟩
    rw [hk] at hk3 ⊢
    have HK : Hid ((n.tmod (N : Int)).natAbs = k) := Lib.hid (by rw [HQ.out]; exact hk)
    have hkP : k < (P.way true).length := by rw [HN.out]; exact hk3
    obtain ⟨g, c', X, xc, e1, hg, k0, k1, k2, hby⟩ := pks_at hkP (HY.out.pks true)
    rw [HV.out] at e1
    injection e1 with e1 _ e2
    subst e1; subst e2
    obtain ⟨pk, hpk⟩ : ∃ pk, (P.way true)[k] = pk := ⟨_, rfl⟩
    rw [hpk] at k0 k1 k2 hby
    have HPE : Hid (∀ h : k < (P.way true).length, (P.way true)[k] = pk) := Lib.hid (fun _ => hpk)
    have HKP := Lib.hid hkP
    clear hk hkP HQ hk1 hk2 hpk
    have hbA := (Below.refl _ W).alloc (Nat.le_refl _) (.cells #[.int .i64 pk.seq, .int .i64 pk.ack, .slice X pk.body.length xc] 43)
    have HY0 := Lib.hid (HY.out.below hbA)
    have HBY := Lib.hid (hby.below hbA)
    have hq0 := block_new W (.cells #[.int .i64 pk.seq, .int .i64 pk.ack, .slice X pk.body.length xc] 43)
    obtain ⟨W0, hW0⟩ : ∃ W0, W.alloc (.cells #[.int .i64 pk.seq, .int .i64 pk.ack, .slice X pk.body.length xc] 43) = W0 := ⟨_, rfl⟩
    obtain ⟨b, hbn⟩ : ∃ b, W.heap.size = b := ⟨_, rfl⟩
    have hown : NoRow P vs vc vw zs b := hbn ▸ HY.out.norow_new (Nat.le_refl _)
    have HOWN := Lib.hid hown
    have HWB : Hid (w.heap.size ≤ b ∧ y < b) := Lib.hid (by rw [← hbn]; exact ⟨Nat.le_trans HY.out.low (Nat.le_of_lt (lt_of_block HY.out.b)), lt_of_block HY.out.b⟩)
    rw [hW0] at HY0 HBY hq0
    rw [hbn] at hq0
    have HW0 := Lib.hid hW0
    have HBN := Lib.hid hbn
    have HPK := Lib.hid hq0
    clear hby hq0 hW0 hbn hown hbA
    go_upto_if 46 with fail
    rw [HW0.out, HBN.out]
    clear x6 k0 k1 k2
    have hb0 := block_alloc HB0.out (.cells #[.int .i64 pk.seq, .int .i64 pk.ack, .slice X pk.body.length xc] 43)
    rw [HW0.out] at hb0
    have HB1 := Lib.hid hb0
    clear hb0 HB0 HY
    go_cut [] (fun wx => ∃ vs' vc' vw' zs', IsY w y pe (if stays = true then P else { P with way := upB P.way true ((P.way true).eraseIdx k) }) vs' vc' vw' zs' wx ∧ wx.heap[b]? = some (.cells #[.int .i64 pk.seq, .int .i64 pk.ack, .slice X pk.body.length xc] 43 (0, 0)) ∧ ByO wx (.slice X pk.body.length xc) pk.body)
    case first =>
      cases stays
      · obtain ⟨hrd, hzl⟩ : Rd W0 3 (some ⟨g, 0, none⟩) N ((zs true).flatMap encP) ∧ (zs true).length = N := by
          have ho := HY0.out.rows.1 ⟨43, 3, vw true, (P.way true).length, (zs true).flatMap encP⟩ (by simp [rowsY])
          obtain ⟨_, _, e1, _, _, hrd, _⟩ := own_slice ho
          simp only [HV.out] at e1
          injection e1 with e1 e3 e2
          subst e1; subst e2
          rw [HN.out] at hrd
          refine ⟨hrd, ?_⟩
          have := congrArg List.length (HY0.out.map true)
          rw [HN.out] at this
          simpa using this
        obtain ⟨hr1, hr2⟩ := rd_part hrd hzl k (k + 1) (by omega) (by omega)
        obtain ⟨r, hr⟩ : ∃ r, N - (k + 1) = r := ⟨_, rfl⟩
        obtain ⟨d67, hd⟩ : ∃ d, cv - (k + 1) = d := ⟨_, rfl⟩
        rw [hr] at hr2
        have hrN : k + 1 + r = N := by omega
        obtain ⟨A67, hA67, hr67⟩ : ∃ A67, (if cv = k + 1 then some (⟨g, 0, none⟩ : Addr) else some ⟨g, (k + 1) * 3, none⟩) = A67 ∧ Rd W0 3 A67 r (((zs true).drop (k + 1)).flatMap encP) := by
          refine ⟨_, rfl, ?_⟩
          split
          · refine ⟨hr2.1, fun hp => absurd hp (by omega)⟩
          · exact hr2
        have HR1 := Lib.hid hr1
        have HR67 := Lib.hid hr67
        have HA67 := Lib.hid hA67
        have HRR := Lib.hid hr
        have HDD := Lib.hid hd
        have HZL := Lib.hid hzl
        have hlt0 := HY0.out.rlt
        have HLT := Lib.hid hlt0
        have hn1 : IntKind.i64.wrap ((k : Int) + 1) = (k : Int) + 1 := IntWalk.i64_in _ (by omega)
        clear hrd hzl hr1 hr2 hr67 hA67 hlt0 hr hd
        go_wp2_with fail
        refine wp_region_flow (fun W => Below W0.heap.size W0 W) [0, 1, 3, 4, 5, 6, 7, 8, 9, 10, 12, 13, 14, 15, 16, 17, 18, 19, 20, 22, 23, 2, 11, 21, 24, 25] (by kernel_rfl) (by kernel_rfl) (by kernel_rfl) ((Below.refl _ W0).drew) ?_
        refine flow_val ?_ rfl (by kernel_rfl) (by rfl) (fun W hW => ?_) ?_
        rotate_left 1
        · go_simp <;> with_reducible rfl
        simp only [Act.put, List.setIfInBounds_toArray, List.set_cons_succ, List.set_cons_zero]
        refine flow_val ?_ rfl (by kernel_rfl) (by rfl) (fun W hW => ?_) ?_
        rotate_left 1
        · go_simp <;> with_reducible rfl
        simp only [Act.put, List.setIfInBounds_toArray, List.set_cons_succ, List.set_cons_zero]
        refine flow_val ?_ rfl (by kernel_rfl) (by rfl) (fun W hW => ?_) ?_
        rotate_left 1
        · go_simp <;> with_reducible rfl
        simp only [Act.put, List.setIfInBounds_toArray, List.set_cons_succ, List.set_cons_zero]
        refine flow_val ?_ rfl (by kernel_rfl) (by rfl) (fun W hW => ?_) ?_
        rotate_left 1
        · go_simp <;> with_reducible rfl
        simp only [Act.put, List.setIfInBounds_toArray, List.set_cons_succ, List.set_cons_zero]
        refine flow_val ?_ rfl (by kernel_rfl) (by rfl) (fun W hW => ?_) ?_
        rotate_left 1
        · go_simp <;> with_reducible rfl
        simp only [Act.put, List.setIfInBounds_toArray, List.set_cons_succ, List.set_cons_zero]
        refine flow_val ?_ rfl (by kernel_rfl) (by rfl) (fun W hW => ?_) ?_
        rotate_left 1
        · go_simp <;> with_reducible rfl
        simp only [Act.put, List.setIfInBounds_toArray, List.set_cons_succ, List.set_cons_zero]
        refine flow_val ?_ rfl (by kernel_rfl) (by rfl) (fun W hW => ?_) ?_
        rotate_left 1
        · go_simp <;> with_reducible rfl
        simp only [Act.put, List.setIfInBounds_toArray, List.set_cons_succ, List.set_cons_zero]
        refine flow_val ?_ rfl (by kernel_rfl) (by rfl) (fun W hW => ?_) ?_
        rotate_left 1
        · have c1 : W.cell? ⟨y, 7, none⟩ = some (.slice (some ⟨g, 0, none⟩) N cv) := cell_at ((hW.block y (lt_of_block HB1.out)).trans HB1.out) 7; go_simp <;> with_reducible rfl
        simp only [Act.put, List.setIfInBounds_toArray, List.set_cons_succ, List.set_cons_zero]
        refine flow_val ?_ rfl (by kernel_rfl) (by rfl) (fun W hW => ?_) ?_
        rotate_left 1
        · go_simp <;> with_reducible rfl
        simp only [Act.put, List.setIfInBounds_toArray, List.set_cons_succ, List.set_cons_zero]
        refine flow_val ?_ rfl (by kernel_rfl) (by rfl) (fun W hW => ?_) ?_
        rotate_left 1
        · go_simp; rw [if_pos (by omega)]
        simp only [Act.put, List.setIfInBounds_toArray, List.set_cons_succ, List.set_cons_zero]
        refine flow_val ?_ rfl (by kernel_rfl) (by rfl) (fun W hW => ?_) ?_
        rotate_left 1
        · go_simp <;> with_reducible rfl
        simp only [Act.put, List.setIfInBounds_toArray, List.set_cons_succ, List.set_cons_zero]
        refine flow_val ?_ rfl (by kernel_rfl) (by rfl) (fun W hW => ?_) ?_
        rotate_left 1
        · go_simp <;> with_reducible rfl
        simp only [Act.put, List.setIfInBounds_toArray, List.set_cons_succ, List.set_cons_zero]
        refine flow_val ?_ rfl (by kernel_rfl) (by rfl) (fun W hW => ?_) ?_
        rotate_left 1
        · go_simp <;> with_reducible rfl
        simp only [Act.put, List.setIfInBounds_toArray, List.set_cons_succ, List.set_cons_zero]
        refine flow_val ?_ rfl (by kernel_rfl) (by rfl) (fun W hW => ?_) ?_
        rotate_left 1
        · go_simp <;> with_reducible rfl
        simp only [Act.put, List.setIfInBounds_toArray, List.set_cons_succ, List.set_cons_zero]
        refine flow_val ?_ rfl (by kernel_rfl) (by rfl) (fun W hW => ?_) ?_
        rotate_left 1
        · go_simp <;> with_reducible rfl
        simp only [Act.put, List.setIfInBounds_toArray, List.set_cons_succ, List.set_cons_zero]
        refine flow_val ?_ rfl (by kernel_rfl) (by rfl) (fun W hW => ?_) ?_
        rotate_left 1
        · have c1 : W.cell? ⟨y, 7, none⟩ = some (.slice (some ⟨g, 0, none⟩) N cv) := cell_at ((hW.block y (lt_of_block HB1.out)).trans HB1.out) 7; go_simp <;> with_reducible rfl
        simp only [Act.put, List.setIfInBounds_toArray, List.set_cons_succ, List.set_cons_zero]
        refine flow_val ?_ rfl (by kernel_rfl) (by rfl) (fun W hW => ?_) ?_
        rotate_left 1
        · go_simp <;> with_reducible rfl
        simp only [Act.put, List.setIfInBounds_toArray, List.set_cons_succ, List.set_cons_zero]
        refine flow_val ?_ rfl (by kernel_rfl) (by rfl) (fun W hW => ?_) ?_
        rotate_left 1
        · go_simp <;> with_reducible rfl
        simp only [Act.put, List.setIfInBounds_toArray, List.set_cons_succ, List.set_cons_zero]
        refine flow_val ?_ rfl (by kernel_rfl) (by rfl) (fun W hW => ?_) ?_
        rotate_left 1
        · go_simp; rw [if_pos (by omega), HA67.out, HRR.out, HDD.out]
        simp only [Act.put, List.setIfInBounds_toArray, List.set_cons_succ, List.set_cons_zero]
        refine flow_val ?_ rfl (by kernel_rfl) (by rfl) (fun W hW => ?_) ?_
        rotate_left 1
        · go_simp <;> with_reducible rfl
        simp only [Act.put, List.setIfInBounds_toArray, List.set_cons_succ, List.set_cons_zero]
        refine flow_val ?_ rfl (by kernel_rfl) (by rfl) (fun W hW => ?_) ?_
        rotate_left 1
        · go_simp <;> with_reducible rfl
        simp only [Act.put, List.setIfInBounds_toArray, List.set_cons_succ, List.set_cons_zero]
        refine flow_gmake (fun v W => ∃ g', v = .slice (some ⟨g', 0, none⟩) 0 0 ∧ W.ownsRow W0.heap.size 43 3 (.slice (some ⟨g', 0, none⟩) 0 0) 0 []) rfl (by kernel_rfl) (by rfl) (by kernel_rfl) (fun W hW hC => ?_) ?_
        · have hb : Below W.heap.size W (W.alloc (.cells #[] 43)) := (Below.refl _ W).alloc (Nat.le_refl _) _
          exact ⟨_, _, by go_simp <;> with_reducible rfl, hW.trans (hb.mono hW.size), ⟨_, rfl, own_low (own_empty 43 3) hW.size⟩⟩
        rintro v49 ⟨_, _, g49, rfl, _⟩
        simp only [Act.put, List.setIfInBounds_toArray, List.set_cons_succ, List.set_cons_zero]
        refine flow_gmake (fun v W => W.ownsRow W0.heap.size 43 3 v (k) (((zs true).take k).flatMap encP)) rfl (by kernel_rfl) (by rfl) (by kernel_rfl) (fun W hW hC => ?_) ?_
        · obtain ⟨g2, e2, ho2⟩ := hC
          rw [← e2] at ho2
          refine exec_append_rd (.tmp 49) (.tmp 57) 34 rfl W0.heap.size 43 i1 (.agg #[.int .i64 0, .int .i64 0, .slice none 0 0]) 3 40 Try.underlying34 hi1 hy0 hy1 hy2 rfl (by decide) (.slice (some ⟨g49, 0, none⟩) 0 0) 0 ([]) rfl ho2 (some ⟨g, 0, none⟩) (k) (cv) (((zs true).take k).flatMap encP) rfl (HR1.out.below hW.1) (p_one (W := W0) (fun z hz => HY0.out.by_ true z (List.mem_of_mem_take hz))) (by unfold maxLen; omega) (by omega) hW.1.size (fun v' w' x2 x3 => ?_)
          have fx : Fr W0.heap.size [43] [] W w' := (Fr.refl W).grown x3 (fun j hj => by
            obtain ⟨hb, cs, hc⟩ := own_block ho2 hj
            exact ⟨hb, .inr ⟨cs, _, _, hc, by simp⟩⟩)
          exact ⟨⟨hW.1.trans (fx.below hW.1.size), trivial⟩, by simpa using x2⟩
        rintro v58 ⟨_, _, hv58⟩
        simp only [Act.put, List.setIfInBounds_toArray, List.set_cons_succ, List.set_cons_zero]
        obtain ⟨A58, c58, rfl, _, _, _, _⟩ := own_slice hv58
        clear hv58
        refine flow_gmake (fun v W => W.ownsRow W0.heap.size 43 3 v (k + r) (((zs true).take k).flatMap encP ++ ((zs true).drop (k + 1)).flatMap encP)) rfl (by kernel_rfl) (by rfl) (by kernel_rfl) (fun W hW hC => ?_) ?_
        · have ho2 := hC
          refine exec_append_rd (.tmp 58) (.tmp 67) 34 rfl W0.heap.size 43 i1 (.agg #[.int .i64 0, .int .i64 0, .slice none 0 0]) 3 40 Try.underlying34 hi1 hy0 hy1 hy2 rfl (by decide) (.slice A58 k c58) k (((zs true).take k).flatMap encP) rfl ho2 (A67) (r) (d67) (((zs true).drop (k + 1)).flatMap encP) rfl (HR67.out.below hW.1.1) (p_one (W := W0) (fun z hz => HY0.out.by_ true z (List.mem_of_mem_drop hz))) (by unfold maxLen; omega) (by omega) hW.1.1.size (fun v' w' x2 x3 => ?_)
          have fx : Fr W0.heap.size [43] [] W w' := (Fr.refl W).grown x3 (fun j hj => by
            obtain ⟨hb, cs, hc⟩ := own_block ho2 hj
            exact ⟨hb, .inr ⟨cs, _, _, hc, by simp⟩⟩)
          exact ⟨⟨⟨hW.1.1.trans (fx.below hW.1.1.size), trivial⟩, trivial⟩, by simpa using x2⟩
        rintro v68 ⟨_, _, hv68⟩
        simp only [Act.put, List.setIfInBounds_toArray, List.set_cons_succ, List.set_cons_zero]
        obtain ⟨A68, c68, rfl, _, _, _, _⟩ := own_slice hv68
        clear hv68
        refine flow_val ?_ rfl (by kernel_rfl) (by rfl) (fun W hW => ?_) ?_
        rotate_left 1
        · go_simp <;> with_reducible rfl
        simp only [Act.put, List.setIfInBounds_toArray, List.set_cons_succ, List.set_cons_zero]
        refine flow_bar (fun W => IsY w y pe { P with way := upB P.way true ((P.way true).eraseIdx k) } vs vc (upB vw true (.slice A68 (k + r) c68)) (upB zs true ((zs true).eraseIdx k)) W ∧ W.heap[b]? = some (.cells #[.int .i64 pk.seq, .int .i64 pk.ack, .slice X pk.body.length xc] 43 (0, 0)) ∧ ByO W (.slice X pk.body.length xc) pk.body) (fun _ => True) rfl (by kernel_rfl) (by rfl) (by kernel_rfl) (by kernel_rfl) (fun W hW hC => ?_) ?_
        · have hbe := hW.1.1.1
          have hyy := (hbe.block y (lt_of_block HB1.out)).trans HB1.out
          have q1 := cell_at hyy 7
          have q2 := frozen_at hyy 7
          have HYY := Lib.hid hyy
          have HBE := Lib.hid hbe
          have HO := Lib.hid hC
          clear hW hC hyy hbe
          refine ⟨_, by go_simp <;> with_reducible rfl, ⟨?_, ?_, ?_⟩, trivial⟩
          · have hY2 := HY0.out.below HBE.out
            have hql : ((P.way true).eraseIdx k).length = k + r := by rw [List.length_eraseIdx_of_lt HKP.out, HN.out]; omega
            refine hY2.took (a := true) (l := (zs true).eraseIdx k) (Q := (P.way true).eraseIdx k) (v := .slice A68 (k + r) c68) (M := W0.heap.size) ?_ (fun z hz => List.mem_of_mem_eraseIdx hz) ?_ ?_ HLT.out
            · rw [← HY0.out.map true]
              simp only [List.eraseIdx_eq_take_drop_succ, List.map_append, List.map_take, List.map_drop]
            · rw [hql, flatP_erase]; exact HO.out
            · have := lt_of_block HPK.out; have := HWB.out; omega
          · exact block_far ((HBE.out.block b (lt_of_block HPK.out)).trans HPK.out) (by have := HWB.out; simp; omega) _
          · exact (HBY.out.below HBE.out).far (n := y) ((Fr.refl W).setCell (p := ⟨y, 7, none⟩) _ (Nat.zero_le _) (.inl (by simp))) ((HBE.out.block y (lt_of_block HB1.out)).trans HB1.out) (by decide)
        simp only [Act.put]
        refine flow_done2 ?_
        intro WR hWR _
        go_wp2_with fail
        go_meet
        exact ⟨_, _, _, _, hWR.1.1, hWR.1.2.1, hWR.1.2.2⟩
      · go_wp2_with fail
        go_meet
        exact ⟨_, _, _, _, HY0.out, HPK.out, HBY.out⟩
    case rest =>
    obtain ⟨vs1, vc1, vw1, zs1, hI1, hP1, hY1⟩ := hcut
    obtain ⟨P1, hP1e⟩ : ∃ P1, (if stays = true then P else { P with way := upB P.way true ((P.way true).eraseIdx k) }) = P1 := ⟨_, rfl⟩
    rw [hP1e] at hI1
    have HMK1 : Hid (0 ≤ (P1.e true).mark ∧ (P1.e true).mark < 9223372036854775807) := Lib.hid (by rw [← hP1e]; split <;> exact HMK.out)
    have HCM1 : Hid ((P1.came true).length ≤ 1000000) := Lib.hid (by rw [← hP1e]; split <;> exact HCM.out)
    have HWT1 : Hid ((P1.way false).length ≤ 400) := Lib.hid (by rw [← hP1e]; split; exact HW.out _; simpa [upB] using HW.out false)
    have HCE : Hid (comeY P true n stays lost = if lost = true then P1 else onY P1 true pk) := Lib.hid (by
      rw [comeY_eq HN.out n HK.out HKP.out stays lost, hP1e, HPE.out HKP.out])
    have HI1 := Lib.hid hI1
    have HPK1 := Lib.hid hP1
    have HBY1 := Lib.hid hY1
    clear hI1 hP1 hY1 hP1e HPK HBY HY0 HB1 HOWN HW0 HBN HMK HCM HW HPE HKP HK HN HV
    cases lost
    · obtain ⟨B, hB⟩ : ∃ B, onB (P1.e true) pk = B := ⟨_, rfl⟩
      obtain ⟨NI, hNI⟩ : ∃ NI, onI (P1.e true) pk = NI := ⟨_, rfl⟩
      obtain ⟨K, hK⟩ : ∃ K, onP (P1.e true) pk = K := ⟨_, rfl⟩
      obtain ⟨P2, hP2⟩ : ∃ P2 : Play, { P1 with e := upB P1.e true (onS (P1.e true) pk) } = P2 := ⟨_, rfl⟩
      have HSC : Hid (∀ W, IsY w y pe P1 vs1 vc1 vw1 zs1 W → ByO W (.slice X pk.body.length xc) pk.body → Calls Try.prog 20 #[.pointer (some ⟨pe true, 0, none⟩), .agg #[.int .i64 pk.seq, .int .i64 pk.ack, .slice X pk.body.length xc]] W fun e W' => ∃ v, e = .returned v ∧ (∃ bv v3, v = .tuple #[bv, .bool NI, v3] ∧ ByO W' bv B ∧ IsP W' v3 K) ∧ IsY w y pe P2 vs1 vc1 vw1 zs1 W' ∧ Keeps W W') := Lib.hid (fun W h hb => by
        subst hB; subst hNI; subst hK; subst hP2
        exact h.onE true pk X xc hb HMK1.out)
      have HYK : Hid (∀ W W', IsY w y pe P1 vs1 vc1 vw1 zs1 W → IsY w y pe P2 vs1 vc1 vw1 zs1 W' → W'.heap[y]? = W.heap[y]?) := Lib.hid (fun W W' h h' => by
        subst hP2
        exact isy_keep h h')
      have HNR : Hid (∀ g, NoRow P1 vs1 vc1 vw1 zs1 g → NoRow P2 vs1 vc1 vw1 zs1 g) := Lib.hid (by
        subst hP2
        exact fun g h => h)
      have HON : Hid (onY P1 true pk = (let q : Play := if NI = true then { P2 with came := upB P2.came true (P2.came true ++ [B]) } else P2; if K.seq ≠ 0 ∨ K.ack ≠ 0 then putY q false K else q)) := Lib.hid (by
        subst hB; subst hNI; subst hK; subst hP2
        unfold onY
        simp only
        cases onI (P1.e true) pk <;> rfl)
      have HKS : Hid (K.seq = 0) := Lib.hid (by
        subst hK
        unfold onP
        split <;> rfl)
      have HCM2 : Hid ((P2.came true).length ≤ 1000000) := Lib.hid (by subst hP2; exact HCM1.out)
      have HWT2 : Hid ((P2.way false).length ≤ 400) := Lib.hid (by subst hP2; exact HWT1.out)
      have hb1 := HI1.out.b
      have HB1 := Lib.hid hb1
      clear hB hNI hK hP2 hb1 HMK1 HCM1 HWT1
      go_wp2_with fail
      apply wp_region_mid5 (M := RC8 w y pe P2 vs1 vc1 vw1 zs1 B K) (hm := by kernel_rfl)
      case h =>
        refine ok_split 12 7 (by decide) ?_ ?_
        · simp only [addAfter, addL]
          refine ok_flow (fun W => W.heap[y]? = wc.heap[y]? ∧ W.heap[b]? = wc.heap[b]?) (fun W => IsY w y pe P1 vs1 vc1 vw1 zs1 W ∧ ByO W (.slice X pk.body.length xc) pk.body) [0, 1, 2, 3, 4, 5, 6, 7, 8, 9, 10, 11, 12, 13, 14, 15] (fun _ => trivial) rfl (fun _ _ _ _ _ h => callsIn_wide.2 h) (by kernel_rfl) (by kernel_rfl) (⟨rfl, rfl⟩) (⟨HI1.out.below (Below.refl _ wc).drew, HBY1.out.below (Below.refl _ wc).drew⟩) ?_
          refine flow_val ?_ rfl (by kernel_rfl) (by rfl) (fun W hW => ?_) ?_
          rotate_left 1
          · go_simp <;> with_reducible rfl
          simp only [Act.put, List.setIfInBounds_toArray, List.set_cons_succ, List.set_cons_zero]
          refine flow_val ?_ rfl (by kernel_rfl) (by rfl) (fun W hW => ?_) ?_
          rotate_left 1
          · go_simp <;> with_reducible rfl
          simp only [Act.put, List.setIfInBounds_toArray, List.set_cons_succ, List.set_cons_zero]
          refine flow_val ?_ rfl (by kernel_rfl) (by rfl) (fun W hW => ?_) ?_
          rotate_left 1
          · go_simp <;> with_reducible rfl
          simp only [Act.put, List.setIfInBounds_toArray, List.set_cons_succ, List.set_cons_zero]
          refine flow_val ?_ rfl (by kernel_rfl) (by rfl) (fun W hW => ?_) ?_
          rotate_left 1
          · go_simp <;> with_reducible rfl
          simp only [Act.put, List.setIfInBounds_toArray, List.set_cons_succ, List.set_cons_zero]
          refine flow_val ?_ rfl (by kernel_rfl) (by rfl) (fun W hW => ?_) ?_
          rotate_left 1
          · go_simp <;> with_reducible rfl
          simp only [Act.put, List.setIfInBounds_toArray, List.set_cons_succ, List.set_cons_zero]
          refine flow_val ?_ rfl (by kernel_rfl) (by rfl) (fun W hW => ?_) ?_
          rotate_left 1
          · have c1 : W.cell? ⟨y, 1, none⟩ = some (.pointer (some ⟨pe true, 0, none⟩)) := cell_at (hW.1.trans HB1.out) 1; go_simp <;> with_reducible rfl
          simp only [Act.put, List.setIfInBounds_toArray, List.set_cons_succ, List.set_cons_zero]
          refine flow_val ?_ rfl (by kernel_rfl) (by rfl) (fun W hW => ?_) ?_
          rotate_left 1
          · have hq := hW.2.trans HPK1.out; have c1 : W.cell? ⟨b, 0, none⟩ = some (.int .i64 pk.seq) := cell_at hq 0; have c2 : W.cell? ⟨b, 1, none⟩ = some (.int .i64 pk.ack) := cell_at hq 1; have c3 : W.cell? ⟨b, 2, none⟩ = some (.slice X pk.body.length xc) := cell_at hq 2; clear hq; go_simp <;> with_reducible rfl
          simp only [Act.put, List.setIfInBounds_toArray, List.set_cons_succ, List.set_cons_zero]
          refine flow_gcall (fun v W => ∃ bv v3, v = .tuple #[bv, .bool NI, v3] ∧ ByO W bv B ∧ IsP W v3 K ∧ IsY w y pe P2 vs1 vc1 vw1 zs1 W) rfl (by kernel_rfl) (by rfl) (by kernel_rfl) (fun W hW hC => ?_) ?_
          · obtain ⟨hC1, hC2⟩ := hC
            have hWW := hW
            refine ⟨_, _, _, by go_simp, (HSC.out W hC1 hC2).mono fun e w1 ⟨v, he, ⟨bv, v3, h4, h5, h6⟩, hy, hk⟩ => ⟨v, he, ⟨(HYK.out _ _ hC1 hy).trans hWW.1, (hk.2 _ _ _ _ (hWW.2.trans HPK1.out) (by decide) (by decide)).trans HPK1.out.symm⟩, bv, v3, h4, h5, h6, hy⟩⟩
          rintro v81 ⟨_, _, bv, v3, rfl, hbv, ⟨bx, rfl, hbx⟩, _⟩
          simp only [Act.put, List.setIfInBounds_toArray, List.set_cons_succ, List.set_cons_zero]
          obtain ⟨A8, c8, rfl, _, _, _, _⟩ := byo_slice hbv
          obtain ⟨Aq, cq, rfl, _, _, _, _⟩ := byo_slice hbx
          clear hbv hbx
          refine flow_val ?_ rfl (by kernel_rfl) (by rfl) (fun W hW => ?_) ?_
          rotate_left 1
          · go_simp <;> with_reducible rfl
          simp only [Act.put, List.setIfInBounds_toArray, List.set_cons_succ, List.set_cons_zero]
          refine flow_val ?_ rfl (by kernel_rfl) (by rfl) (fun W hW => ?_) ?_
          rotate_left 1
          · go_simp <;> with_reducible rfl
          simp only [Act.put, List.setIfInBounds_toArray, List.set_cons_succ, List.set_cons_zero]
          refine flow_val ?_ rfl (by kernel_rfl) (by rfl) (fun W hW => ?_) ?_
          rotate_left 1
          · go_simp <;> with_reducible rfl
          simp only [Act.put, List.setIfInBounds_toArray, List.set_cons_succ, List.set_cons_zero]
          refine flow_val ?_ rfl (by kernel_rfl) (by rfl) (fun W hW => ?_) ?_
          rotate_left 1
          · go_simp <;> with_reducible rfl
          simp only [Act.put, List.setIfInBounds_toArray, List.set_cons_succ, List.set_cons_zero]
          refine flow_gmake (fun v W => ∃ g14, v = .pointer (some ⟨g14, 0, none⟩) ∧ W.heap[g14]? = some (.cells #[.int .i64 0, .int .i64 0, .slice none 0 0] 43 (0, 0)) ∧ w.heap.size ≤ g14 ∧ ByO W (.slice A8 B.length c8) B ∧ ByO W (.slice Aq K.body.length cq) K.body ∧ IsY w y pe P2 vs1 vc1 vw1 zs1 W ∧ NoRow P2 vs1 vc1 vw1 zs1 g14) rfl (by kernel_rfl) (by rfl) (by kernel_rfl) (fun W hW hC => ?_) ?_
          · have hWW := hW.1
            have hbb : Below W.heap.size W (W.alloc (.cells #[.int .i64 0, .int .i64 0, .slice none 0 0] 43)) := (Below.refl _ W).alloc (Nat.le_refl _) _
            obtain ⟨bv, v3, e1, h5, ⟨bx, e2, h6⟩, hy⟩ := hC
            subst e2
            simp at e1
            obtain ⟨e1, e2⟩ := e1
            subst e1; subst e2
            exact ⟨_, _, by go_simp <;> with_reducible rfl, ⟨⟨(hbb.block _ (lt_of_block (hWW.1.trans HB1.out))).trans hWW.1, (hbb.block _ (lt_of_block (hWW.2.trans HPK1.out))).trans hWW.2⟩, trivial⟩, ⟨_, rfl, block_new _ _, hy.two.bel.size, h5.below hbb, h6.below hbb, hy.below hbb, hy.norow_new (Nat.le_refl _)⟩⟩
          rintro v14 ⟨_, _, g14, rfl, _⟩
          simp only [Act.put, List.setIfInBounds_toArray, List.set_cons_succ, List.set_cons_zero]
          refine flow_val ?_ rfl (by kernel_rfl) (by rfl) (fun W hW => ?_) ?_
          rotate_left 1
          · go_simp <;> with_reducible rfl
          simp only [Act.put, List.setIfInBounds_toArray, List.set_cons_succ, List.set_cons_zero]
          refine flow_val ?_ rfl (by kernel_rfl) (by rfl) (fun W hW => ?_) ?_
          rotate_left 1
          · go_simp <;> with_reducible rfl
          simp only [Act.put, List.setIfInBounds_toArray, List.set_cons_succ, List.set_cons_zero]
          refine flow_bar (fun W => RC8 w y pe P2 vs1 vc1 vw1 zs1 B K A8 c8 Aq cq g14 W) (fun _ => True) rfl (by kernel_rfl) (by rfl) (by kernel_rfl) (by kernel_rfl) (fun W hW hC => ?_) ?_
          · obtain ⟨g2, e2, h14, hg14, h5, h6, hy, hnr⟩ := hC
            injection e2 with e2
            injection e2 with e2
            injection e2 with e2 _ _
            subst e2
            have q0 := cell_at h14 0
            have q1 := cell_at h14 1
            have q2 := cell_at h14 2
            have z0 := frozen_at h14 0
            have z1 := frozen_at h14 1
            have z2 := frozen_at h14 2
            have H8 := Lib.hid h14
            have H5 := Lib.hid h5
            have H6 := Lib.hid h6
            have HYY := Lib.hid hy
            have HNR2 := Lib.hid hnr
            have HG := Lib.hid hg14
            clear h14 h5 h6 hy hnr hW hg14
            refine ⟨_, by go_simp <;> with_reducible rfl, ?_, trivial⟩
            obtain ⟨W5, hW5, _, _, _, f5, _⟩ := pkt_store H8.out (.int .i64 K.seq) (.int .i64 K.ack) (.slice Aq K.body.length cq)
            have hl := HG.out
            refine ⟨?_, ?_, ?_, ?_, hl, HNR2.out⟩
            · rw [hW5]; exact HYY.out.farP f5 H8.out hl HNR2.out
            · rw [hW5]; exact H5.out.far f5 H8.out (by decide)
            · simpa using block_set (block_set (block_set H8.out 0 (.int .i64 K.seq)) 1 (.int .i64 K.ack)) 2 (.slice Aq K.body.length cq)
            · rw [hW5]; exact H6.out.far f5 H8.out (by decide)
          simp only [Act.put]
          refine flow_end ?_
          rintro W ⟨hR, _⟩ _
          exact .inl ⟨by trivial, A8, c8, Aq, cq, g14, rfl, hR⟩
        · simp only [addAfter, addL]
          refine ok_flow (fun W => W.heap[y]? = wc.heap[y]? ∧ W.heap[b]? = wc.heap[b]?) (fun W => IsY w y pe P1 vs1 vc1 vw1 zs1 W ∧ ByO W (.slice X pk.body.length xc) pk.body) [0, 1, 2, 3, 4, 5, 6, 12, 7, 8, 9, 10, 11, 13, 14, 15] (fun _ => trivial) rfl (fun _ _ _ _ _ h => callsIn_wide.2 h) (by kernel_rfl) (by kernel_rfl) (⟨rfl, rfl⟩) (⟨HI1.out.below (Below.refl _ wc).drew, HBY1.out.below (Below.refl _ wc).drew⟩) ?_
          refine flow_val ?_ rfl (by kernel_rfl) (by rfl) (fun W hW => ?_) ?_
          rotate_left 1
          · go_simp <;> with_reducible rfl
          simp only [Act.put, List.setIfInBounds_toArray, List.set_cons_succ, List.set_cons_zero]
          refine flow_val ?_ rfl (by kernel_rfl) (by rfl) (fun W hW => ?_) ?_
          rotate_left 1
          · go_simp <;> with_reducible rfl
          simp only [Act.put, List.setIfInBounds_toArray, List.set_cons_succ, List.set_cons_zero]
          refine flow_val ?_ rfl (by kernel_rfl) (by rfl) (fun W hW => ?_) ?_
          rotate_left 1
          · go_simp <;> with_reducible rfl
          simp only [Act.put, List.setIfInBounds_toArray, List.set_cons_succ, List.set_cons_zero]
          refine flow_val ?_ rfl (by kernel_rfl) (by rfl) (fun W hW => ?_) ?_
          rotate_left 1
          · go_simp <;> with_reducible rfl
          simp only [Act.put, List.setIfInBounds_toArray, List.set_cons_succ, List.set_cons_zero]
          refine flow_val ?_ rfl (by kernel_rfl) (by rfl) (fun W hW => ?_) ?_
          rotate_left 1
          · go_simp <;> with_reducible rfl
          simp only [Act.put, List.setIfInBounds_toArray, List.set_cons_succ, List.set_cons_zero]
          refine flow_val ?_ rfl (by kernel_rfl) (by rfl) (fun W hW => ?_) ?_
          rotate_left 1
          · have c1 : W.cell? ⟨y, 1, none⟩ = some (.pointer (some ⟨pe true, 0, none⟩)) := cell_at (hW.1.trans HB1.out) 1; go_simp <;> with_reducible rfl
          simp only [Act.put, List.setIfInBounds_toArray, List.set_cons_succ, List.set_cons_zero]
          refine flow_val ?_ rfl (by kernel_rfl) (by rfl) (fun W hW => ?_) ?_
          rotate_left 1
          · have hq := hW.2.trans HPK1.out; have c1 : W.cell? ⟨b, 0, none⟩ = some (.int .i64 pk.seq) := cell_at hq 0; have c2 : W.cell? ⟨b, 1, none⟩ = some (.int .i64 pk.ack) := cell_at hq 1; have c3 : W.cell? ⟨b, 2, none⟩ = some (.slice X pk.body.length xc) := cell_at hq 2; clear hq; go_simp <;> with_reducible rfl
          simp only [Act.put, List.setIfInBounds_toArray, List.set_cons_succ, List.set_cons_zero]
          refine flow_gmake (fun v W => ∃ g14, v = .pointer (some ⟨g14, 0, none⟩) ∧ W.heap[g14]? = some (.cells #[.int .i64 0, .int .i64 0, .slice none 0 0] 43 (0, 0)) ∧ w.heap.size ≤ g14 ∧ NoRow P1 vs1 vc1 vw1 zs1 g14 ∧ IsY w y pe P1 vs1 vc1 vw1 zs1 W ∧ ByO W (.slice X pk.body.length xc) pk.body) rfl (by kernel_rfl) (by rfl) (by kernel_rfl) (fun W hW hC => ?_) ?_
          · have hWW := hW
            have hbb : Below W.heap.size W (W.alloc (.cells #[.int .i64 0, .int .i64 0, .slice none 0 0] 43)) := (Below.refl _ W).alloc (Nat.le_refl _) _
            exact ⟨_, _, by go_simp <;> with_reducible rfl, ⟨(hbb.block _ (lt_of_block (hWW.1.trans HB1.out))).trans hWW.1, (hbb.block _ (lt_of_block (hWW.2.trans HPK1.out))).trans hWW.2⟩, ⟨_, rfl, block_new _ _, hC.1.two.bel.size, hC.1.norow_new (Nat.le_refl _), hC.1.below hbb, hC.2.below hbb⟩⟩
          rintro v14 ⟨_, _, g14, rfl, _⟩
          simp only [Act.put, List.setIfInBounds_toArray, List.set_cons_succ, List.set_cons_zero]
          refine flow_gcall (fun v W => ∃ bv v3, v = .tuple #[bv, .bool NI, v3] ∧ ByO W bv B ∧ IsP W v3 K ∧ IsY w y pe P2 vs1 vc1 vw1 zs1 W ∧ W.heap[g14]? = some (.cells #[.int .i64 0, .int .i64 0, .slice none 0 0] 43 (0, 0)) ∧ w.heap.size ≤ g14 ∧ NoRow P2 vs1 vc1 vw1 zs1 g14) rfl (by kernel_rfl) (by rfl) (by kernel_rfl) (fun W hW hC => ?_) ?_
          · obtain ⟨g2, e2, h2, h3, h4n, hC1, hC2⟩ := hC
            injection e2 with e2
            injection e2 with e2
            injection e2 with e2 _ _
            subst e2
            have hWW := hW.1
            refine ⟨_, _, _, by go_simp, (HSC.out W hC1 hC2).mono fun e w1 ⟨v, he, ⟨bv, v3, h4, h5, h6⟩, hy, hk⟩ => ⟨v, he, ⟨⟨(HYK.out _ _ hC1 hy).trans hWW.1, (hk.2 _ _ _ _ (hWW.2.trans HPK1.out) (by decide) (by decide)).trans HPK1.out.symm⟩, trivial⟩, bv, v3, h4, h5, h6, hy, hk.2 _ _ _ _ h2 (by decide) (by decide), h3, HNR.out _ h4n⟩⟩
          rintro v81 ⟨_, _, bv, v3, rfl, hbv, ⟨bx, rfl, hbx⟩, _⟩
          simp only [Act.put, List.setIfInBounds_toArray, List.set_cons_succ, List.set_cons_zero]
          obtain ⟨A8, c8, rfl, _, _, _, _⟩ := byo_slice hbv
          obtain ⟨Aq, cq, rfl, _, _, _, _⟩ := byo_slice hbx
          clear hbv hbx
          refine flow_val ?_ rfl (by kernel_rfl) (by rfl) (fun W hW => ?_) ?_
          rotate_left 1
          · go_simp <;> with_reducible rfl
          simp only [Act.put, List.setIfInBounds_toArray, List.set_cons_succ, List.set_cons_zero]
          refine flow_val ?_ rfl (by kernel_rfl) (by rfl) (fun W hW => ?_) ?_
          rotate_left 1
          · go_simp <;> with_reducible rfl
          simp only [Act.put, List.setIfInBounds_toArray, List.set_cons_succ, List.set_cons_zero]
          refine flow_val ?_ rfl (by kernel_rfl) (by rfl) (fun W hW => ?_) ?_
          rotate_left 1
          · go_simp <;> with_reducible rfl
          simp only [Act.put, List.setIfInBounds_toArray, List.set_cons_succ, List.set_cons_zero]
          refine flow_val ?_ rfl (by kernel_rfl) (by rfl) (fun W hW => ?_) ?_
          rotate_left 1
          · go_simp <;> with_reducible rfl
          simp only [Act.put, List.setIfInBounds_toArray, List.set_cons_succ, List.set_cons_zero]
          refine flow_val ?_ rfl (by kernel_rfl) (by rfl) (fun W hW => ?_) ?_
          rotate_left 1
          · go_simp <;> with_reducible rfl
          simp only [Act.put, List.setIfInBounds_toArray, List.set_cons_succ, List.set_cons_zero]
          refine flow_val ?_ rfl (by kernel_rfl) (by rfl) (fun W hW => ?_) ?_
          rotate_left 1
          · go_simp <;> with_reducible rfl
          simp only [Act.put, List.setIfInBounds_toArray, List.set_cons_succ, List.set_cons_zero]
          refine flow_bar (fun W => RC8 w y pe P2 vs1 vc1 vw1 zs1 B K A8 c8 Aq cq g14 W) (fun _ => True) rfl (by kernel_rfl) (by rfl) (by kernel_rfl) (by kernel_rfl) (fun W hW hC => ?_) ?_
          · obtain ⟨bv, v3, e1, h5, ⟨bx, e2, h6⟩, hy, h14, hg14, hnr⟩ := hC
            subst e2
            simp at e1
            obtain ⟨e1, e2⟩ := e1
            subst e1; subst e2
            have q0 := cell_at h14 0
            have q1 := cell_at h14 1
            have q2 := cell_at h14 2
            have z0 := frozen_at h14 0
            have z1 := frozen_at h14 1
            have z2 := frozen_at h14 2
            have H8 := Lib.hid h14
            have H5 := Lib.hid h5
            have H6 := Lib.hid h6
            have HYY := Lib.hid hy
            have HNR2 := Lib.hid hnr
            have HG := Lib.hid hg14
            clear h14 h5 h6 hy hnr hW hg14
            refine ⟨_, by go_simp <;> with_reducible rfl, ?_, trivial⟩
            obtain ⟨W5, hW5, _, _, _, f5, _⟩ := pkt_store H8.out (.int .i64 K.seq) (.int .i64 K.ack) (.slice Aq K.body.length cq)
            have hl := HG.out
            refine ⟨?_, ?_, ?_, ?_, hl, HNR2.out⟩
            · rw [hW5]; exact HYY.out.farP f5 H8.out hl HNR2.out
            · rw [hW5]; exact H5.out.far f5 H8.out (by decide)
            · simpa using block_set (block_set (block_set H8.out 0 (.int .i64 K.seq)) 1 (.int .i64 K.ack)) 2 (.slice Aq K.body.length cq)
            · rw [hW5]; exact H6.out.far f5 H8.out (by decide)
          simp only [Act.put]
          refine flow_end ?_
          rintro W ⟨hR, _⟩ _
          exact .inl ⟨by trivial, A8, c8, Aq, cq, g14, rfl, hR⟩
      case hk =>
        intro A8 c8 Aq cq g14 W8 hR8
        obtain ⟨hI2, hB8, hK14, hKb, hg14, hnr⟩ := hR8
        have HI2 := Lib.hid hI2
        have HB8 := Lib.hid hB8
        have HK14 := Lib.hid hK14
        have HKB := Lib.hid hKb
        have HNRG := Lib.hid hnr
        have hne : g14 ≠ y := block_ne hK14 hI2.b (by decide)
        have HNE := Lib.hid hne
        clear hI2 hB8 hK14 hKb hnr hne hg14 HI1 HPK1 HBY1 HB1 HSC HYK
        go_upto_if 85 with fail
        go_cut [] (fun wx => ∃ vs' vc' vw' zs', IsY w y pe (if NI = true then { P2 with came := upB P2.came true (P2.came true ++ [B]) } else P2) vs' vc' vw' zs' wx ∧ wx.heap[g14]? = some (.cells #[.int .i64 K.seq, .int .i64 K.ack, .slice Aq K.body.length cq] 43 (0, 0)) ∧ ByO wx (.slice Aq K.body.length cq) K.body)
        case first =>
          cases NI
          · go_wp2_with fail
            go_meet
            exact ⟨_, _, _, _, HI2.out, HK14.out, HKB.out⟩
          · go_wp2_with fail
            obtain ⟨Ar, cr, hvr, kr1, kr2⟩ : ∃ A c, vc1 true = .slice A (P2.came true).length c ∧ (P2.came true).length ≤ c ∧ c ≤ maxLen := by
              obtain ⟨A', c', e, h1, h2, _⟩ := own_slice (HI2.out.rows.1 ⟨9, 1, vc1 true, (P2.came true).length, (P2.came true).map strY⟩ (by simp [rowsY]))
              exact ⟨A', c', e, h1, h2⟩
            have HVR := Lib.hid hvr
            obtain ⟨m, hm⟩ : ∃ m, (P2.came true).length = m := ⟨_, rfl⟩
            have hm1 : m ≤ 1000000 := by rw [← hm]; exact HCM2.out
            have HM := Lib.hid hm
            have hbr := HI2.out.b
            rw [show vc1 true = _ from HVR.out] at hbr
            rw [hm] at kr1 hbr
            have HBR := Lib.hid hbr
            obtain ⟨S, hS⟩ : ∃ S, strOf B = S := ⟨_, rfl⟩
            have HS := Lib.hid hS
            have HNY : Hid (NoRow P2 vs1 vc1 vw1 zs1 y) := Lib.hid (HI2.out.norow HI2.out.b (by decide) (by decide))
            have HNB : Hid (∀ g cs fz, W8.heap[g]? = some (.cells cs 5 fz) → NoRow P2 vs1 vc1 vw1 zs1 g) := Lib.hid (fun g cs fz hc => HI2.out.norow hc (by decide) (by decide))
            have HCV : Hid (∀ W, (W8.heap.size ≤ W.heap.size ∧ ∀ g, g < W8.heap.size → NoRow P2 vs1 vc1 vw1 zs1 g → W.heap[g]? = W8.heap[g]?) → (convert 41 9 (.slice A8 B.length c8)).run Try.prog W = .ok (.string S) W) := Lib.hid (fun W hW => by
              have hby : ByO W (.slice A8 B.length c8) B := ⟨HB8.out.1.keep fun k cs fz _ hc => (hW.2 k (lt_of_block hc) (HNB.out k cs fz hc)).trans hc, HB8.out.2⟩
              obtain ⟨_, _, e1, _, _, hrd, _⟩ := byo_slice hby
              injection e1 with e1 e2 e3
              subst e1; subst e3
              exact HS.out ▸ run_str W _ _ _ _ hrd hby.2)
            clear hvr hm hbr hS
            refine wp_region_flow2 (fun W => W8.heap.size ≤ W.heap.size ∧ ∀ g, g < W8.heap.size → NoRow P2 vs1 vc1 vw1 zs1 g → W.heap[g]? = W8.heap[g]?) (fun W => IsY w y pe P2 vs1 vc1 vw1 zs1 W ∧ KeepsB W8 W) [0, 1, 2, 3, 4, 5, 6, 7, 8, 9, 12, 13, 10, 11, 14, 15] (by kernel_rfl) (by kernel_rfl) (by kernel_rfl) (⟨Nat.le_refl _, fun _ _ _ => rfl⟩) (⟨HI2.out.below (Below.refl _ W8).drew, KeepsB.below (Below.refl _ W8).drew⟩) ?_
            refine flow_val ?_ rfl (by kernel_rfl) (by rfl) (fun W hW => ?_) ?_
            rotate_left 1
            · go_simp <;> with_reducible rfl
            simp only [Act.put, List.setIfInBounds_toArray, List.set_cons_succ, List.set_cons_zero]
            refine flow_val ?_ rfl (by kernel_rfl) (by rfl) (fun W hW => ?_) ?_
            rotate_left 1
            · go_simp <;> with_reducible rfl
            simp only [Act.put, List.setIfInBounds_toArray, List.set_cons_succ, List.set_cons_zero]
            refine flow_val ?_ rfl (by kernel_rfl) (by rfl) (fun W hW => ?_) ?_
            rotate_left 1
            · go_simp <;> with_reducible rfl
            simp only [Act.put, List.setIfInBounds_toArray, List.set_cons_succ, List.set_cons_zero]
            refine flow_val ?_ rfl (by kernel_rfl) (by rfl) (fun W hW => ?_) ?_
            rotate_left 1
            · go_simp <;> with_reducible rfl
            simp only [Act.put, List.setIfInBounds_toArray, List.set_cons_succ, List.set_cons_zero]
            refine flow_val ?_ rfl (by kernel_rfl) (by rfl) (fun W hW => ?_) ?_
            rotate_left 1
            · go_simp <;> with_reducible rfl
            simp only [Act.put, List.setIfInBounds_toArray, List.set_cons_succ, List.set_cons_zero]
            refine flow_val ?_ rfl (by kernel_rfl) (by rfl) (fun W hW => ?_) ?_
            rotate_left 1
            · go_simp <;> with_reducible rfl
            simp only [Act.put, List.setIfInBounds_toArray, List.set_cons_succ, List.set_cons_zero]
            refine flow_val ?_ rfl (by kernel_rfl) (by rfl) (fun W hW => ?_) ?_
            rotate_left 1
            · go_simp <;> with_reducible rfl
            simp only [Act.put, List.setIfInBounds_toArray, List.set_cons_succ, List.set_cons_zero]
            refine flow_val ?_ rfl (by kernel_rfl) (by rfl) (fun W hW => ?_) ?_
            rotate_left 1
            · have c1 : W.cell? ⟨y, 5, none⟩ = some (.slice Ar m cr) := cell_at ((hW.2 y (lt_of_block HBR.out) HNY.out).trans HBR.out) 5; go_simp <;> with_reducible rfl
            simp only [Act.put, List.setIfInBounds_toArray, List.set_cons_succ, List.set_cons_zero]
            refine flow_val ?_ rfl (by kernel_rfl) (by rfl) (fun W hW => ?_) ?_
            rotate_left 1
            · go_simp <;> with_reducible rfl
            simp only [Act.put, List.setIfInBounds_toArray, List.set_cons_succ, List.set_cons_zero]
            refine flow_val ?_ rfl (by kernel_rfl) (by rfl) (fun W hW => ?_) ?_
            rotate_left 1
            · have c1 := HCV.out W hW; go_simp <;> with_reducible rfl
            simp only [Act.put, List.setIfInBounds_toArray, List.set_cons_succ, List.set_cons_zero]
            refine flow_val ?_ rfl (by kernel_rfl) (by rfl) (fun W hW => ?_) ?_
            rotate_left 1
            · go_simp <;> with_reducible rfl
            simp only [Act.put, List.setIfInBounds_toArray, List.set_cons_succ, List.set_cons_zero]
            refine flow_val ?_ rfl (by kernel_rfl) (by rfl) (fun W hW => ?_) ?_
            rotate_left 1
            · go_simp <;> with_reducible rfl
            simp only [Act.put, List.setIfInBounds_toArray, List.set_cons_succ, List.set_cons_zero]
            refine flow_gmake (fun v W => ∃ g', v = .slice (some ⟨g', 0, none⟩) 1 1 ∧ W.heap[g']? = some (.cells #[.string S] 9 (0, 0)) ∧ IsY w y pe P2 vs1 vc1 vw1 zs1 W ∧ KeepsB W8 W) rfl (by kernel_rfl) (by rfl) (by kernel_rfl) (fun W hW hC => ?_) ?_
            · have hb : Below W.heap.size W (W.alloc (.cells #[.string S] 9)) := (Below.refl _ W).alloc (Nat.le_refl _) _
              exact ⟨_, _, by go_simp <;> with_reducible rfl, ⟨Nat.le_trans hW.1 hb.size, fun g hg hr => (hb.block _ (Nat.lt_of_lt_of_le hg hW.1)).trans (hW.2 g hg hr)⟩, ⟨_, rfl, block_new _ _, hC.1.below hb, fun v bs hh => (hC.2 v bs hh).below hb⟩⟩
            rintro vb ⟨_, _, gb, rfl, _, _⟩
            simp only [Act.put, List.setIfInBounds_toArray, List.set_cons_succ, List.set_cons_zero]
            refine flow_gmake (fun v W => YF w y pe P2 vs1 vc1 vw1 zs1 ((rowsY P2 vs1 vc1 vw1 zs1).set 3 ⟨9, 1, v, m + 1, (P2.came true).map strY ++ [.string S]⟩) W ∧ KeepsB W8 W ∧ (v.ownBlock = (vc1 true).ownBlock ∨ ∃ g, v.ownBlock = some g ∧ W8.heap.size ≤ g)) rfl (by kernel_rfl) (by rfl) (by kernel_rfl) (fun W hW hC => ?_) ?_
            · obtain ⟨g2, e2, hg2, hC2, hC3⟩ := hC
              injection e2 with e2 _ _
              injection e2 with e2
              injection e2 with e2 _ _
              subst e2
              have hir : (rowsY P2 vs1 vc1 vw1 zs1)[3]? = some ⟨9, 1, vc1 true, (P2.came true).length, (P2.came true).map strY⟩ := rfl
              have hor := hC2.rows.1 _ (List.mem_of_getElem? hir)
              simp only [HVR.out, HM.out] at hor hir
              refine exec_append_at (.tmp 93) (.tmp 96) 32 rfl w.heap.size 9 i2 (.string ByteArray.empty) 1 16 Try.underlying32 hi2 hs0 hs1 hs2 rfl (by decide) (.slice Ar m cr) m ((P2.came true).map strY) rfl hor (some ⟨gb, 0, none⟩) 1 1 [.string S] rfl ⟨rfl, fun _ => ⟨_, _, rfl, lt_of_block hg2, fun j u hu => ?_⟩⟩ (by simp [Value.oneCell']) (by unfold maxLen; omega) (by omega) hC2.two.bel.size (fun v' w' x2 x3 x4 => ?_)
              · match j, hu with
                | 0, hu => simp at hu; subst hu; rw [cell_at hg2]; rfl
                | j + 1, hu => simp at hu
              · obtain ⟨hyf, hkb⟩ := hC2.grow hir (by show 9 ≠ 5; decide) (by show 9 ≠ 84; decide) (by show 9 ≠ 80; decide) (by show 9 ≠ 37; decide) x3 x2 x4
                refine ⟨⟨⟨Nat.le_trans hW.1.1 x3.size, fun g hg hr => ?_⟩, trivial⟩, hyf, fun v bs hh => hkb _ _ (hC3 v bs hh), ?_⟩
                · rw [x3.block g (Nat.lt_of_lt_of_le hg hW.1.1) (fun e => hr ⟨9, 1, vc1 true, (P2.came true).length, (P2.came true).map strY⟩ (by simp [rowsY]) (by simp only [HVR.out, HM.out]; exact e.symm))]
                  exact hW.1.2 g hg hr
                · rcases x4 with x4 | x4
                  · exact .inl (by rw [HVR.out, HM.out]; exact x4)
                  · exact .inr ⟨_, x4, hW.1.1⟩
            rintro va ⟨_, _, hva, _⟩
            simp only [Act.put, List.setIfInBounds_toArray, List.set_cons_succ, List.set_cons_zero]
            obtain ⟨Aa, ca, ea⟩ : ∃ A' c', va = .slice A' (m + 1) c' := by
              obtain ⟨A', c', e, _⟩ := own_slice (hva.rows.1 ⟨9, 1, va, m + 1, (P2.came true).map strY ++ [.string S]⟩ (by simp [rowsY]))
              exact ⟨A', c', e⟩
            subst ea
            clear hva
            refine flow_val ?_ rfl (by kernel_rfl) (by rfl) (fun W hW => ?_) ?_
            rotate_left 1
            · go_simp <;> with_reducible rfl
            simp only [Act.put, List.setIfInBounds_toArray, List.set_cons_succ, List.set_cons_zero]
            refine flow_bar (fun W => RetY w y pe P2 vs1 vc1 vw1 zs1 W8 { P2 with came := upB P2.came true (P2.came true ++ [B]) } W) (fun _ => True) rfl (by kernel_rfl) (by rfl) (by kernel_rfl) (by kernel_rfl) (fun W hW hC => ?_) ?_
            · obtain ⟨hyf, hkb, hnew⟩ := hC
              have q1 := cell_at hyf.b 5
              have q2 := frozen_at hyf.b 5
              have HF := Lib.hid hyf
              have HKB := Lib.hid hkb
              have HNEW := Lib.hid hnew
              have HWW := Lib.hid hW.1.1
              clear hyf hkb hnew hW
              refine ⟨_, by go_simp <;> with_reducible rfl, ?_, trivial⟩
              obtain ⟨s1, s2, s3⟩ := HF.out.store (by simp [rowsY]) 5 (.slice Aa (m + 1) ca)
              refine ⟨vs1, upB vc1 true (.slice Aa (m + 1) ca), vw1, zs1, ⟨?_, s2, HF.out.low, HI2.out.map, fun a z hz => s1 _ _ (HF.out.by_ a z hz), ?_⟩, fun v bs hh => s1 _ _ (HKB.out v bs hh), by simpa using HWW.out.1, fun g hg hy hr => ⟨?_, ?_⟩⟩
              · rw [block_set HF.out.b]; simp [upB]
              · have := s3
                simpa [rowsY, upB, HM.out, List.map_append, strY, HS.out] using this
              · exact (Below.heap_setCell _ _ _ g (by simpa using hy)).trans (HWW.out.2 g hg hr)
              · have hnw : (Value.slice Aa (m + 1) ca).ownBlock ≠ some g := by
                  rcases HNEW.out with e | ⟨g', e, hg'⟩
                  · rw [e]; exact hr ⟨9, 1, vc1 true, (P2.came true).length, (P2.came true).map strY⟩ (by simp [rowsY])
                  · rw [e]; intro e2; injection e2 with e2; omega
                intro r hr2
                have hr3 := fun r hh => hr r hh
                simp only [rowsY, List.mem_cons, List.not_mem_nil, or_false] at hr2 hr3
                rcases hr2 with rfl | rfl | rfl | rfl | rfl | rfl
                · simpa [upB] using hr3 _ (.inl rfl)
                · simpa [upB] using hr3 _ (.inr (.inl rfl))
                · simpa [upB] using hr3 _ (.inr (.inr (.inl rfl)))
                · simpa [upB] using hnw
                · simpa [upB] using hr3 _ (.inr (.inr (.inr (.inr (.inl rfl)))))
                · simpa [upB] using hr3 _ (.inr (.inr (.inr (.inr (.inr (rfl))))))
            simp only [Act.put]
            refine flow_done2 ?_
            intro WR hWR _
            go_wp2_with fail
            go_meet
            obtain ⟨vs3, vc3, vw3, zs3, h1, h2, _, h4⟩ := hWR.1
            exact ⟨vs3, vc3, vw3, zs3, h1, ((h4 g14 (lt_of_block HK14.out) HNE.out HNRG.out).1).trans HK14.out, h2 _ _ HKB.out⟩
        case rest =>
        obtain ⟨vs3, vc3, vw3, zs3, hI3, hK3, hB3⟩ := hcut
        obtain ⟨P3, hP3⟩ : ∃ P3, (if NI = true then { P2 with came := upB P2.came true (P2.came true ++ [B]) } else P2) = P3 := ⟨_, rfl⟩
        rw [hP3] at hI3
        have HWT3 : Hid ((P3.way false).length ≤ 400) := Lib.hid (by rw [← hP3]; split <;> exact HWT2.out)
        have HON3 : Hid (onY P1 true pk = if K.seq ≠ 0 ∨ K.ack ≠ 0 then putY P3 false K else P3) := Lib.hid (by rw [HON.out]; simp only [hP3])
        have hK3' := hK3
        rw [HKS.out] at hK3'
        have d0 := cell_at hK3' 0
        have d1 := cell_at hK3' 1
        have d2 := cell_at hK3' 2
        have HI3 := Lib.hid hI3
        have HB3 := Lib.hid hB3
        clear hI3 hK3 hB3 hP3 hK3' HI2 HB8 HK14 HKB HNRG HNE HON HWT2 HCM2
        by_cases hka : K.ack = 0
        · have hkb : (K.ack == 0) = true := by simpa using hka
          have HKA := Lib.hid hka
          clear hka
          go_wp2
          go_end0
          refine ⟨by simp, ?_⟩
          rw [show comeY P true n stays false = onY P1 true pk from HCE.out, HON3.out, if_neg (by rw [HKS.out, HKA.out]; simp)]
          exact ⟨_, _, _, _, HI3.out⟩
        · have hkb : (K.ack == 0) = false := by simpa using hka
          have HKA := Lib.hid hka
          clear hka
          have HPUT : Hid (∀ W, IsY w y pe P3 vs3 vc3 vw3 zs3 W → ByO W (.slice Aq K.body.length cq) K.body → Calls Try.prog 40 #[.pointer (some ⟨y, 0, none⟩), .int .i64 0, .agg #[.int .i64 0, .int .i64 K.ack, .slice Aq K.body.length cq]] W fun e W' => e = .returned (.tuple #[]) ∧ RetY w y pe P3 vs3 vc3 vw3 zs3 W (putY P3 false K) W') := Lib.hid (fun W h hb => by
            have h := put_false w y pe P3 K Aq cq W vs3 vc3 vw3 zs3 h hb HWT3.out
            rw [HKS.out] at h
            exact h)
          go_wp2_with fail
          refine (HPUT.out _ HI3.out HB3.out).mono ?_
          rintro e W9 ⟨rfl, hret⟩
          have HRET := Lib.hid hret
          clear hret d0 d1 d2
          go_wp2
          go_end0
          refine ⟨by simp, ?_⟩
          rw [show comeY P true n stays false = onY P1 true pk from HCE.out, HON3.out, if_pos (.inr HKA.out)]
          obtain ⟨vs4, vc4, vw4, zs4, h1, _⟩ := HRET.out
          exact ⟨vs4, vc4, vw4, zs4, h1⟩
    · go_wp2
      refine bodyPost_ret (results_none rfl _ _ _) rfl ⟨rfl, ?_⟩
      rw [show comeY P true n stays true = P1 from HCE.out]
      exact ⟨_, _, _, _, HI1.out⟩
end Go.Proofs.Ytnmbblkfaoihfaa
