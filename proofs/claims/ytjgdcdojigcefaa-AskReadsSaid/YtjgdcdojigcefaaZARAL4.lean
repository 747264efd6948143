/- The law AskReads: the walk. -/
import Derived.Test.YtjgdcdojigcefaaZAR17
import Derived.Test.YtjgdcdojigcefaaZAR22
namespace Go.Proofs.Ytjgdcdojigcefaa
open Go.RowKit

/-- What both readings leave. -/
theorem adecE_any (v : Value) (bs : List Nat) (w : World) (hv : Bs w v bs) (hl : ∀ b ∈ bs, b < 256) (ht : bs.length ≤ 140737488355328) :
    Calls Try.prog 14 #[v] w fun e W => ∃ A c, e = .returned (.tuple #[akV ((unA bs).getD zeroA) (.slice A ((unA bs).getD zeroA).items.length c), .int .i64 (if (unA bs).isSome = true then 0 else 10)]) ∧ Rd W 2 A ((unA bs).getD zeroA).items.length (((unA bs).getD zeroA).items.flatMap encI) ∧ Below w.heap.size w W := by
  refine (adec_any v bs w hv hl ht).mono ?_
  rintro e W ⟨h1, h2⟩
  cases hu : unA bs with
  | some a =>
    obtain ⟨A, c, he, hr, hb⟩ := h1 a hu
    exact ⟨A, c, he, hr, hb⟩
  | none =>
    obtain ⟨he, hb⟩ := h2 hu
    exact ⟨none, 0, he, Rd.nil, hb⟩
theorem xadecE_any (A : Option Addr) (c : Nat) (bs : List Nat) (w : World) (h : IsBy w A c bs) :
    Calls Try.prog 18 #[.slice A bs.length c] w fun e W => ∃ A c, e = .returned (.tuple #[akV ((unA bs).getD zeroA) (.slice A ((unA bs).getD zeroA).items.length c), .bool (unA bs).isSome]) ∧ Rd W 2 A ((unA bs).getD zeroA).items.length (((unA bs).getD zeroA).items.flatMap encI) ∧ Below w.heap.size w W := by
  refine (xadec_any A c bs w h.1 (by have := h.2.1; unfold maxLen; omega) h.2.2.1 h.2.2.2.1 h.2.2.2.2).mono ?_
  rintro e W ⟨h1, h2⟩
  rw [← unA_eq h.2.2.2.1] at h1 h2
  cases hu : unA bs with
  | some a =>
    obtain ⟨A, c, he, hr, hb⟩ := h1 a hu
    exact ⟨A, c, he, hr, hb⟩
  | none =>
    obtain ⟨he, hb⟩ := h2 hu
    exact ⟨none, 0, he, Rd.nil, hb⟩
theorem unA_len {bs : List Nat} (hl : ∀ b ∈ bs, b < 256) : ((unA bs).getD zeroA).items.length ≤ 4611686018427387903 := by
  cases hu : unA bs with
  | some a =>
    have h := mayA_lim ((unA_iff hl a).1 hu).1
    have := (mayI_at h.c9).1
    show a.items.length ≤ _
    omega
  | none => simp [zeroA]
set_option maxRecDepth 100000 in
set_option maxHeartbeats 2000000 in
theorem rdl_any (A : Option Addr) (c : Nat) (bs : List Nat) (w : World) (hp : IsBy w A c bs) :
    Calls Try.prog 4 #[.slice A bs.length c] w fun e W => e = .returned (.bool true) ∧ Below w.heap.size w W := by
  obtain ⟨i0, hi0, hz0, hz1, hz2⟩ := info_parts Try.infoByte
  have hbl : bs.length ≤ 140737488351232 := Nat.le_trans hp.1 hp.2.1
  have hcm : c ≤ 9223372036854775807 := by have := hp.2.1; omega
  have HP := Lib.hid hp
  have HBL := Lib.hid hbl
  clear hp
  go_enter Try.func4, Try.ntmps4
  go_wp2_with (first
    | (at_builtin
       refine wpList_append_rd _ rfl (.tmp 8) (.tmp 9) 26 rfl w.heap.size 5 i0 (.int .u8 0) 1 1 Try.underlying26 hi0 hz0 hz1 hz2 rfl (by decide) (.slice (some ⟨w.heap.size, 0, none⟩) 0 0) 0 [] rfl (own_of_cells w #[] 0 (Nat.zero_le _) rfl) A bs.length c (bs.map u8v) rfl (HP.out.2.2.1.below ((Below.refl _ _).alloc (Nat.le_refl _) _)) (u8_one' _) (by unfold maxLen; omega) (by omega) (by simp) ?_
       intro v2 w2 hown2 hgrow2 _
       have HO2 := Lib.hid hown2
       have hG2 := Fr.grown (B := w.heap.size) (T := [5]) (S := []) ((Fr.refl w).alloc (.cells #[] 5)) hgrow2 (fun j hj => by
         simp [Value.ownBlock] at hj
         subst hj
         exact ⟨Nat.le_refl _, .inr ⟨_, _, _, block_new _ _, by simp⟩⟩)
       have HB2 := Lib.hid (hG2.below (Nat.le_refl _))
       clear hown2 hgrow2 hG2)
    | fail)
  have hbs2 : Bs w2 v2 bs := Bs.own_lt (n := bs.length) (by simpa using HO2.out)
  have HV2 := Lib.hid hbs2
  obtain ⟨A2, c2, rfl, q1, km2, q3⟩ := hbs2
  have hc2 : c2 ≤ 9223372036854775807 := by unfold maxLen at km2; omega
  have HP2 := Lib.hid (HP.out.below HB2.out)
  have HL := Lib.hid HP.out.2.2.2.1
  have HD1 := Lib.hid (adecE_any _ bs w2 HV2.out HL.out (by omega))
  have HD2 := Lib.hid (fun W (hW : Below w2.heap.size w2 W) => xadecE_any A c bs W (HP2.out.below hW))
  have hkl := unA_len HL.out
  obtain ⟨U, hU⟩ : ∃ U, (unA bs).isSome = U := ⟨_, rfl⟩
  obtain ⟨K, hK⟩ : ∃ K, (unA bs).getD zeroA = K := ⟨_, rfl⟩
  obtain ⟨E, hE⟩ : ∃ E : Int, (if U = true then 0 else 10) = E := ⟨_, rfl⟩
  have HE := Lib.hid hE
  rw [hU, hK, hE] at HD1
  rw [hU, hK] at HD2
  rw [hK] at hkl
  have HKL := Lib.hid hkl
  obtain ⟨nk, hnk⟩ : ∃ nk, K.items.length = nk := ⟨_, rfl⟩
  have HNK := Lib.hid hnk
  rw [hnk] at HD1 HD2 hkl
  obtain ⟨n, hn⟩ : ∃ n, bs.length = n := ⟨_, rfl⟩
  have HN := Lib.hid hn
  rw [hn] at HV2 HD1 HD2 hbl ⊢
  clear hi0 hz0 hz1 hz2 km2 HO2 q1 q3 hU hK hE hnk hn
  go_wp2_with fail
  refine HD1.out.mono ?_
  rintro e w3 ⟨A4, c4, rfl, hr4, hb⟩
  have hb4 := hb.trans (((Below.refl w3.heap.size w3).alloc (Nat.le_refl _) (.cells #[.int .i64 K.client, .int .i64 K.number, .int .i64 K.kind, .int .i64 K.order, .int .i64 K.region, .int .i64 K.to, .int .i64 K.n, .string K.good, .slice A4 nk c4] 24)).mono hb.size)
  have kp := block_new w3 (.cells #[.int .i64 K.client, .int .i64 K.number, .int .i64 K.kind, .int .i64 K.order, .int .i64 K.region, .int .i64 K.to, .int .i64 K.n, .string K.good, .slice A4 nk c4] 24)
  have hr44 := hr4.below ((Below.refl w3.heap.size w3).alloc (Nat.le_refl _) (.cells #[.int .i64 K.client, .int .i64 K.number, .int .i64 K.kind, .int .i64 K.order, .int .i64 K.region, .int .i64 K.to, .int .i64 K.n, .string K.good, .slice A4 nk c4] 24))
  obtain ⟨w4, hw4⟩ : ∃ w4, w3.alloc (.cells #[.int .i64 K.client, .int .i64 K.number, .int .i64 K.kind, .int .i64 K.order, .int .i64 K.region, .int .i64 K.to, .int .i64 K.n, .string K.good, .slice A4 nk c4] 24) = w4 := ⟨_, rfl⟩
  obtain ⟨p, hp⟩ : ∃ p, w3.heap.size = p := ⟨_, rfl⟩
  rw [hw4] at kp hb4 hr44
  rw [hp] at kp
  have HC4 : Hid (∀ W, Below w4.heap.size w4 W → W.heap[p]? = some (.cells #[.int .i64 K.client, .int .i64 K.number, .int .i64 K.kind, .int .i64 K.order, .int .i64 K.region, .int .i64 K.to, .int .i64 K.n, .string K.good, .slice A4 nk c4] 24 (0, 0))) := Lib.hid (fun W hW => (hW.block _ (lt_of_block kp)).trans kp)
  have HR4 := Lib.hid hr44
  have HW4 := Lib.hid hw4
  have HPP := Lib.hid hp
  have HB24 := Lib.hid hb4
  clear hb hb4 kp hr4 hr44 hw4 hp
  go_wp2_with fail
  rw [HW4.out, HPP.out]
  refine (HD2.out w4 HB24.out).mono ?_
  rintro e w5 ⟨A6, c6, rfl, hr6, hb⟩
  have hb6 := hb.trans (((Below.refl w5.heap.size w5).alloc (Nat.le_refl _) (.cells #[.int .i64 K.client, .int .i64 K.number, .int .i64 K.kind, .int .i64 K.order, .int .i64 K.region, .int .i64 K.to, .int .i64 K.n, .string K.good, .slice A6 nk c6] 24)).mono hb.size)
  have kp := block_new w5 (.cells #[.int .i64 K.client, .int .i64 K.number, .int .i64 K.kind, .int .i64 K.order, .int .i64 K.region, .int .i64 K.to, .int .i64 K.n, .string K.good, .slice A6 nk c6] 24)
  have hr66 := hr6.below ((Below.refl w5.heap.size w5).alloc (Nat.le_refl _) (.cells #[.int .i64 K.client, .int .i64 K.number, .int .i64 K.kind, .int .i64 K.order, .int .i64 K.region, .int .i64 K.to, .int .i64 K.n, .string K.good, .slice A6 nk c6] 24))
  obtain ⟨w6, hw6⟩ : ∃ w6, w5.alloc (.cells #[.int .i64 K.client, .int .i64 K.number, .int .i64 K.kind, .int .i64 K.order, .int .i64 K.region, .int .i64 K.to, .int .i64 K.n, .string K.good, .slice A6 nk c6] 24) = w6 := ⟨_, rfl⟩
  obtain ⟨q, hq⟩ : ∃ q, w5.heap.size = q := ⟨_, rfl⟩
  rw [hw6] at kp hb6 hr66
  rw [hq] at kp
  have HC6 : Hid (∀ W, Below w6.heap.size w6 W → W.heap[q]? = some (.cells #[.int .i64 K.client, .int .i64 K.number, .int .i64 K.kind, .int .i64 K.order, .int .i64 K.region, .int .i64 K.to, .int .i64 K.n, .string K.good, .slice A6 nk c6] 24 (0, 0))) := Lib.hid (fun W hW => (hW.block _ (lt_of_block kp)).trans kp)
  have HR6 := Lib.hid hr66
  have HW6 := Lib.hid hw6
  have HQQ := Lib.hid hq
  have HB46 := Lib.hid hb6
  clear hb hb6 kp hr6 hr66 hw6 hq
  go_wp2_with fail
  rw [HW6.out, HQQ.out]
  refine (alives_any w6).mono ?_
  rintro e w7 ⟨rfl, hb⟩
  have HB67 := Lib.hid hb
  have HB47 := Lib.hid (HB46.out.trans (hb.mono HB46.out.size))
  have HSM : Hid (Calls Try.prog 17 #[akV K (.slice A4 nk c4), akV K (.slice A6 nk c6)] w7 fun e W' => e = .returned (.bool true) ∧ Below w7.heap.size w7 W') := Lib.hid (by
    have h := xsameA_any K K A4 c4 A6 c6 w7 (HNK.out.symm ▸ HR4.out.below HB47.out) (HNK.out.symm ▸ HR6.out.below HB67.out) HKL.out
    rw [eqA_iff.2 rfl, HNK.out] at h
    exact h)
  clear hb
  have p0 := cell_at (HC4.out w7 HB47.out) 0
  have p1 := cell_at (HC4.out w7 HB47.out) 1
  have p2 := cell_at (HC4.out w7 HB47.out) 2
  have p3 := cell_at (HC4.out w7 HB47.out) 3
  have p4 := cell_at (HC4.out w7 HB47.out) 4
  have p5 := cell_at (HC4.out w7 HB47.out) 5
  have p6 := cell_at (HC4.out w7 HB47.out) 6
  have p7 := cell_at (HC4.out w7 HB47.out) 7
  have p8 := cell_at (HC4.out w7 HB47.out) 8
  have q0 := cell_at (HC6.out w7 HB67.out) 0
  have q1 := cell_at (HC6.out w7 HB67.out) 1
  have q2 := cell_at (HC6.out w7 HB67.out) 2
  have q3 := cell_at (HC6.out w7 HB67.out) 3
  have q4 := cell_at (HC6.out w7 HB67.out) 4
  have q5 := cell_at (HC6.out w7 HB67.out) 5
  have q6 := cell_at (HC6.out w7 HB67.out) 6
  have q7 := cell_at (HC6.out w7 HB67.out) 7
  have q8 := cell_at (HC6.out w7 HB67.out) 8
  go_wp2_with fail
  refine HSM.out.mono ?_
  rintro e w8 ⟨rfl, hb⟩
  have HB48 := Lib.hid (HB47.out.trans (hb.mono HB47.out.size))
  have HB28 := Lib.hid (HB24.out.trans (HB48.out.mono HB24.out.size))
  clear hb p0 p1 p2 p3 p4 p5 p6 p7 p8 q0 q1 q2 q3 q4 q5 q6 q7 q8
  obtain ⟨A2', c2', e1, _, _, r1⟩ := HV2.out.below HB28.out
  cases e1
  have r2 := (HP2.out.below HB28.out).2.2.1
  rw [HN.out] at r2
  obtain ⟨S, hS⟩ : ∃ S, strOf bs = S := ⟨_, rfl⟩
  have s1 := hS ▸ run_str w8 A2 _ c2 bs r1 HL.out
  have s2 := hS ▸ run_str w8 A _ c bs r2 HL.out
  clear r1 r2 hS
  cases U
  · obtain rfl : E = 10 := HE.out.symm
    go_wp2
    go_ret
    exact ⟨ret_bool (by simp), HB2.out.trans (HB28.out.mono HB2.out.size)⟩
  · obtain rfl : E = 0 := HE.out.symm
    go_wp2
    go_ret
    exact ⟨ret_bool (by simp), HB2.out.trans (HB28.out.mono HB2.out.size)⟩
end Go.Proofs.Ytjgdcdojigcefaa
