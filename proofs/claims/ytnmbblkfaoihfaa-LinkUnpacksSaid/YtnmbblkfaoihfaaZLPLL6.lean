/- The law LinkUnpacks: what any bytes are as an end. The walk. -/
import Derived.Test.YtnmbblkfaoihfaaZLP34
namespace Go.Proofs.Ytnmbblkfaoihfaa
open Go.RowKit

set_option maxRecDepth 100000 in
set_option maxHeartbeats 4000000 in
theorem lunpacks_any (A : Option Addr) (c : Nat) (bs : List Nat) (z : LOp) (w : World) (hb : IsBy w A c bs) (hz : OkO w z) : Calls Try.prog 10 #[.slice A bs.length c, .agg #[.int .i64 z.kind, .int .i64 z.now, .int .i64 z.seq, .int .i64 z.ack, .slice z.A z.bs.length z.c]] w fun e w' => e = .returned (.bool true) ∧ Below w.heap.size w w' := by
  obtain ⟨i0, hi0, hz0, hz1, hz2⟩ := info_parts Try.infoByte
  have HBB := Lib.hid hb.2.2.2.1
  have hl : bs.length ≤ 140737488351232 := Nat.le_trans hb.1 hb.2.1
  obtain ⟨n, hn⟩ : ∃ n, bs.length = n := ⟨_, rfl⟩
  have HN := Lib.hid hn
  have HV := Lib.hid hb
  have HZ := Lib.hid hz
  rw [hn] at hl
  simp only [hn]
  obtain ⟨b, hbn⟩ : ∃ b, w.heap.size = b := ⟨_, rfl⟩
  obtain ⟨W0, hW0⟩ : ∃ W0, w.alloc (.cells #[.int .i64 z.kind, .int .i64 z.now, .int .i64 z.seq, .int .i64 z.ack, .slice z.A z.bs.length z.c] 57) = W0 := ⟨_, rfl⟩
  have hop0 : W0.heap[b]? = some (.cells #[.int .i64 z.kind, .int .i64 z.now, .int .i64 z.seq, .int .i64 z.ack, .slice z.A z.bs.length z.c] 57 (0, 0)) := by rw [← hW0, ← hbn]; exact block_new _ _
  have hb0 : Below w.heap.size w W0 := by rw [← hW0]; exact (Below.refl _ w).alloc (Nat.le_refl _) _
  have HOP0 := Lib.hid hop0
  have HB0 := Lib.hid hb0
  have HW0 := Lib.hid hW0
  have HBN := Lib.hid hbn
  have HS0 : Hid (w.heap.size + 1 = W0.heap.size) := Lib.hid (by rw [← hW0]; simp)
  clear hb hn hz hop0 hb0 hW0 hbn
  go_enter Try.func10, Try.ntmps10
  by_cases hlong : 5000 < z.bs.length
  · go_wp2_with fail
    rw [HW0.out]
    refine (lives_any W0).mono ?_
    rintro e w2 ⟨rfl, hb2⟩
    have HB2 := Lib.hid (HB0.out.trans (hb2.mono HB0.out.size))
    clear hb2
    go_wp2
    go_ret
    exact ⟨by simp, HB2.out⟩
  have HO0 := Lib.hid (own_of_cells W0 #[] 0 (Nat.zero_le _) rfl)
  have HE0 : Hid (Rd (W0.alloc (.cells #[] 5)) 1 A n (bs.map u8v)) := Lib.hid (HN.out ▸ ((HV.out.below HB0.out).below ((Below.refl _ W0).alloc (Nat.le_refl _) (.cells #[] 5))).2.2.1)
  go_wp2_with (at_builtin
               rw [HW0.out, HS0.out]
               refine wpList_append_rd _ rfl (.tmp 16) (.tmp 17) 41 rfl W0.heap.size 5 i0 (.int .u8 0) 1 1 Try.underlying41 hi0 hz0 hz1 hz2 rfl (by decide) (.slice (some ⟨W0.heap.size, 0, none⟩) 0 0) 0 [] rfl HO0.out A n c (bs.map u8v) rfl HE0.out (u8_one' _) (by unfold maxLen; omega) (by omega) (by simp) ?_
               intro v2 w2 hown2 hgrow2 _
               have hb2 : Below W0.heap.size W0 w2 := ((Below.refl _ W0).alloc (Nat.le_refl _) (.cells #[] 5)).trans ((((Fr.refl (W0.alloc (.cells #[] 5))).grown (B := W0.heap.size) (T := [5]) (S := []) hgrow2 fun j hj => by
                 obtain ⟨hb, cs, hc⟩ := own_block HO0.out hj
                 exact ⟨hb, .inr ⟨cs, _, _, hc, by simp⟩⟩)).below (by simp))
               simp only [Nat.zero_add, List.nil_append] at hown2
               have HO2 := Lib.hid (Bs.own_n hown2)
               have HB2 := Lib.hid (HB0.out.trans (hb2.mono HB0.out.size))
               have HOP2 := Lib.hid ((hb2.block _ (lt_of_block HOP0.out)).trans HOP0.out)
               clear hown2 hgrow2 hb2)
  refine (lunpack_any v2 bs w2 HO2.out HBB.out (by rw [HN.out]; omega)).mono ?_
  rintro e w3 ⟨h3, hb3⟩
  have HB3 := Lib.hid (HB2.out.trans (hb3.mono HB2.out.size))
  have HOP3 := Lib.hid ((hb3.block _ (lt_of_block HOP2.out)).trans HOP2.out)
  have HO3 := Lib.hid (HO2.out.below hb3)
  have HZZ := Lib.hid HB2.out.size
  obtain ⟨Ao, co, rfl, _, _, ro⟩ := id HO3.out
  have HRO := Lib.hid ro
  clear ro HO2 HO3
  cases hu : unE bs with
  | none =>
    rw [hu] at h3
    obtain rfl := h3
    have HU := Lib.hid hu
    clear hu hb3
    go_wp2_with fail
    have hx := lxunpack_any A c bs w3 (HV.out.below HB3.out)
    rw [HN.out] at hx
    refine hx.mono ?_
    rintro e w4 ⟨h4, hb4⟩
    rw [HU.out] at h4
    obtain rfl := h4
    have HB4 := Lib.hid (HB3.out.trans (hb4.mono HB3.out.size))
    have HR4 := Lib.hid (HRO.out.below hb4)
    clear hx hb4
    go_wp2_with fail
    refine (lives_any w4).mono ?_
    rintro e w5 ⟨rfl, hb5⟩
    have HB5 := Lib.hid (HB4.out.trans (hb5.mono HB4.out.size))
    obtain ⟨S, hS⟩ : ∃ S, strOf bs = S := ⟨_, rfl⟩
    have r5 := HR4.out.below hb5
    have q5 := (HV.out.below HB5.out).2.2.1
    rw [HN.out] at r5 q5
    simp only [HN.out]
    have s1 := hS ▸ run_str w5 Ao n co bs r5 HBB.out
    have s2 := hS ▸ run_str w5 A n c bs q5 HBB.out
    clear hb5 hS r5 q5
    go_wp2
    go_ret
    exact ⟨by simp, HB5.out⟩
  | some s =>
    rw [hu] at h3
    obtain ⟨p, G, rfl, hi3, hlow3, hG3⟩ := h3
    have HU := Lib.hid hu
    have hgp := pack_unE HBB.out hu
    have HG := Lib.hid hgp.1
    have HPK := Lib.hid hgp.2
    have HI3 := Lib.hid hi3
    have HL3 : Hid (w.heap.size ≤ p ∧ ∀ g, G = some g → w.heap.size ≤ g) := Lib.hid ⟨Nat.le_trans HZZ.out hlow3, fun g hg => Nat.le_trans HZZ.out (hG3 g hg)⟩
    clear hu hb3 hi3 hgp hlow3 hG3
    go_wp2_with fail
    have hx := lxunpack_any A c bs w3 (HV.out.below HB3.out)
    rw [HN.out] at hx
    refine hx.mono ?_
    rintro e w4 ⟨h4, hb4⟩
    rw [HU.out] at h4
    obtain ⟨q, H, rfl, hx4, hlow4, hG4⟩ := h4
    have HB4 := Lib.hid (HB3.out.trans (hb4.mono HB3.out.size))
    have HT4 : Hid (Two w p q s s w4) := Lib.hid ⟨G, H, HI3.out.below hb4, hx4, HL3.out.1, Nat.le_trans HB3.out.size hlow4, HL3.out.2, fun g hg => Nat.le_trans HB3.out.size (hG4 g hg), HB4.out⟩
    have HR4 := Lib.hid (HRO.out.below hb4)
    have HOP4 := Lib.hid ((hb4.block _ (lt_of_block HOP3.out)).trans HOP3.out)
    clear hx hb4 hx4 hlow4 hG4 HI3
    go_wp2_with fail
    refine (lives_any w4).mono ?_
    rintro e w5 ⟨rfl, hb5⟩
    have HB5 := Lib.hid (HB4.out.trans (hb5.mono HB4.out.size))
    have HT5 := Lib.hid (HT4.out.keep hb5)
    have HOP5 := Lib.hid ((hb5.block _ (lt_of_block HOP4.out)).trans HOP4.out)
    obtain ⟨S, hS⟩ : ∃ S, strOf bs = S := ⟨_, rfl⟩
    have HSS := Lib.hid hS
    have r5 := HR4.out.below hb5
    have q5 := (HV.out.below HB5.out).2.2.1
    rw [HN.out] at r5 q5
    simp only [HN.out]
    have HQ5 := Lib.hid q5
    have s1 := hS ▸ run_str w5 Ao n co bs r5 HBB.out
    have s2 := hS ▸ run_str w5 A n c bs q5 HBB.out
    clear hb5 hS r5 q5
    go_wp2_with fail
    clear s1 s2
    rw [HBN.out]
    obtain ⟨Aq, cq, hqb⟩ := HT5.out.cells
    have HQB := Lib.hid hqb
    have HFAR : Hid (∀ W, Below w5.heap.size w5 W → Calls Try.prog 39 #[.pointer (some ⟨q, 0, none⟩)] W fun e w' => e = .returned (.bool (farB s.l)) ∧ W = w') := Lib.hid (fun W hW => by
      obtain ⟨_, H, _, h2, _⟩ := HT5.out.keep hW
      exact lfar_any q H s W h2)
    clear hqb
    obtain ⟨FB, hFB⟩ : ∃ FB, farB s.l = FB := ⟨_, rfl⟩
    rw [hFB] at HFAR
    have HFB := Lib.hid hFB
    clear hFB
    by_cases a1 : (1099511627776 : Int) < s.sent
    · refine wp_region_flow (fun W => Below w5.heap.size w5 W) [0, 3, 4, 1, 2, 5, 6, 7, 8, 9, 10, 11, 12, 13, 14, 15, 16, 17, 18, 19, 20, 21, 22, 23, 24, 25, 26, 27, 28, 29, 30, 31, 32, 33, 34, 35, 36, 37, 38, 39, 40, 41, 42, 43, 44, 45, 46, 47, 48, 49, 50, 51, 52, 53, 54, 55, 56, 57, 58] (by kernel_rfl) (by kernel_rfl) (by kernel_rfl) ((Below.refl _ w5).drew) ?_
      refine flow_val ?_ rfl (by kernel_rfl) (by rfl) (fun W hW => ?_) ?_
      rotate_left 1
      · go_simp <;> with_reducible rfl
      simp only [Act.put, List.setIfInBounds_toArray, List.set_cons_succ, List.set_cons_zero]
      refine flow_val ?_ rfl (by kernel_rfl) (by rfl) (fun W hW => ?_) ?_
      rotate_left 1
      · go_simp <;> with_reducible rfl
      simp only [Act.put, List.setIfInBounds_toArray, List.set_cons_succ, List.set_cons_zero]
      refine flow_val ?_ rfl (by kernel_rfl) (by rfl) (fun W hW => ?_) ?_
      rotate_left 1
      · have s2 := HSS.out ▸ run_str W A n c bs (HQ5.out.below hW) HBB.out; go_simp <;> with_reducible rfl
      simp only [Act.put, List.setIfInBounds_toArray, List.set_cons_succ, List.set_cons_zero]
      refine flow_new (fun v W => Bs W v bs) rfl (by kernel_rfl) (by rfl) (by kernel_rfl) (fun W hW => ⟨_, _, _, by go_simp, ((HT5.out.keep hW).pack HG.out).mono fun e w' ⟨v, he, hv, hb⟩ => ⟨v, he, hW.trans (hb.mono hW.size), HPK.out ▸ hv⟩⟩) ?_
      rintro v61 ⟨_, _, A61, c61, rfl, _, _, _⟩
      simp only [Act.put, List.setIfInBounds_toArray, List.set_cons_succ, List.set_cons_zero]
      refine flow_val ?_ rfl (by kernel_rfl) (by rfl) (fun W hW => ?_) ?_
      rotate_left 1
      · have s1 := HSS.out ▸ run_str W A61 bs.length c61 bs hW.2.rd' HBB.out; go_simp <;> with_reducible rfl
      simp only [Act.put, List.setIfInBounds_toArray, List.set_cons_succ, List.set_cons_zero]
      refine flow_val ?_ rfl (by kernel_rfl) (by rfl) (fun W hW => ?_) ?_
      rotate_left 1
      · go_simp <;> with_reducible rfl
      simp only [Act.put, List.setIfInBounds_toArray, List.set_cons_succ, List.set_cons_zero]
      refine flow_val ?_ rfl (by kernel_rfl) (by rfl) (fun W hW => ?_) ?_
      rotate_left 1
      · go_simp <;> with_reducible rfl
      simp only [Act.put, List.setIfInBounds_toArray, List.set_cons_succ, List.set_cons_zero]
      refine flow_val ?_ rfl (by kernel_rfl) (by rfl) (fun W hW => ?_) ?_
      rotate_left 1
      · go_simp <;> with_reducible rfl
      simp only [Act.put, List.setIfInBounds_toArray, List.set_cons_succ, List.set_cons_zero]
      refine flow_quiet (.int .i64 s.sent) rfl (by kernel_rfl) (by rfl) (fun W hW => ⟨_, _, by go_simp, (HT5.out.keep hW.1).sent⟩) ?_
      simp only [Act.put, List.setIfInBounds_toArray, List.set_cons_succ, List.set_cons_zero]
      refine flow_val ?_ rfl (by kernel_rfl) (by rfl) (fun W hW => ?_) ?_
      rotate_left 1
      · go_simp <;> with_reducible rfl
      simp only [Act.put, List.setIfInBounds_toArray, List.set_cons_succ, List.set_cons_zero]
      refine flow_val ?_ rfl (by kernel_rfl) (by rfl) (fun W hW => ?_) ?_
      rotate_left 1
      · go_simp <;> with_reducible rfl
      simp only [Act.put, List.setIfInBounds_toArray, List.set_cons_succ, List.set_cons_zero]
      refine flow_val ?_ rfl (by kernel_rfl) (by rfl) (fun W hW => ?_) ?_
      rotate_left 1
      · go_simp <;> with_reducible rfl
      simp only [Act.put, List.setIfInBounds_toArray, List.set_cons_succ, List.set_cons_zero]
      refine flow_val ?_ rfl (by kernel_rfl) (by rfl) (fun W hW => ?_) ?_
      rotate_left 1
      · have c1 : W.cell? ⟨q, 1, none⟩ = some (.int .i64 s.sent) := cell_at ((hW.1.block _ (lt_of_block HQB.out)).trans HQB.out) 1; go_simp <;> with_reducible rfl
      simp only [Act.put, List.setIfInBounds_toArray, List.set_cons_succ, List.set_cons_zero]
      refine flow_val ?_ rfl (by kernel_rfl) (by rfl) (fun W hW => ?_) ?_
      rotate_left 1
      · go_simp <;> with_reducible rfl
      simp only [Act.put, List.setIfInBounds_toArray, List.set_cons_succ, List.set_cons_zero]
      refine flow_val ?_ rfl (by kernel_rfl) (by rfl) (fun W hW => ?_) ?_
      rotate_left 1
      · go_simp <;> with_reducible rfl
      simp only [Act.put, List.setIfInBounds_toArray, List.set_cons_succ, List.set_cons_zero]
      refine flow_val ?_ rfl (by kernel_rfl) (by rfl) (fun W hW => ?_) ?_
      rotate_left 1
      · go_simp <;> with_reducible rfl
      simp only [Act.put, List.setIfInBounds_toArray, List.set_cons_succ, List.set_cons_zero]
      refine flow_val ?_ rfl (by kernel_rfl) (by rfl) (fun W hW => ?_) ?_
      rotate_left 1
      · go_simp <;> with_reducible rfl
      simp only [Act.put, List.setIfInBounds_toArray, List.set_cons_succ, List.set_cons_zero]
      refine flow_quiet (.int .i64 s.mark) rfl (by kernel_rfl) (by rfl) (fun W hW => ⟨_, _, by go_simp, (HT5.out.keep hW.1).mark⟩) ?_
      simp only [Act.put, List.setIfInBounds_toArray, List.set_cons_succ, List.set_cons_zero]
      refine flow_val ?_ rfl (by kernel_rfl) (by rfl) (fun W hW => ?_) ?_
      rotate_left 1
      · go_simp <;> with_reducible rfl
      simp only [Act.put, List.setIfInBounds_toArray, List.set_cons_succ, List.set_cons_zero]
      refine flow_val ?_ rfl (by kernel_rfl) (by rfl) (fun W hW => ?_) ?_
      rotate_left 1
      · go_simp <;> with_reducible rfl
      simp only [Act.put, List.setIfInBounds_toArray, List.set_cons_succ, List.set_cons_zero]
      refine flow_val ?_ rfl (by kernel_rfl) (by rfl) (fun W hW => ?_) ?_
      rotate_left 1
      · go_simp <;> with_reducible rfl
      simp only [Act.put, List.setIfInBounds_toArray, List.set_cons_succ, List.set_cons_zero]
      refine flow_val ?_ rfl (by kernel_rfl) (by rfl) (fun W hW => ?_) ?_
      rotate_left 1
      · have c1 : W.cell? ⟨q, 2, none⟩ = some (.int .i64 s.mark) := cell_at ((hW.1.block _ (lt_of_block HQB.out)).trans HQB.out) 2; go_simp <;> with_reducible rfl
      simp only [Act.put, List.setIfInBounds_toArray, List.set_cons_succ, List.set_cons_zero]
      refine flow_val ?_ rfl (by kernel_rfl) (by rfl) (fun W hW => ?_) ?_
      rotate_left 1
      · go_simp <;> with_reducible rfl
      simp only [Act.put, List.setIfInBounds_toArray, List.set_cons_succ, List.set_cons_zero]
      refine flow_val ?_ rfl (by kernel_rfl) (by rfl) (fun W hW => ?_) ?_
      rotate_left 1
      · go_simp <;> with_reducible rfl
      simp only [Act.put, List.setIfInBounds_toArray, List.set_cons_succ, List.set_cons_zero]
      refine flow_val ?_ rfl (by kernel_rfl) (by rfl) (fun W hW => ?_) ?_
      rotate_left 1
      · go_simp <;> with_reducible rfl
      simp only [Act.put, List.setIfInBounds_toArray, List.set_cons_succ, List.set_cons_zero]
      refine flow_val ?_ rfl (by kernel_rfl) (by rfl) (fun W hW => ?_) ?_
      rotate_left 1
      · go_simp <;> with_reducible rfl
      simp only [Act.put, List.setIfInBounds_toArray, List.set_cons_succ, List.set_cons_zero]
      refine flow_quiet (.int .i64 s.l.length) rfl (by kernel_rfl) (by rfl) (fun W hW => ⟨_, _, by go_simp, (HT5.out.keep hW.1).open_⟩) ?_
      simp only [Act.put, List.setIfInBounds_toArray, List.set_cons_succ, List.set_cons_zero]
      refine flow_val ?_ rfl (by kernel_rfl) (by rfl) (fun W hW => ?_) ?_
      rotate_left 1
      · go_simp <;> with_reducible rfl
      simp only [Act.put, List.setIfInBounds_toArray, List.set_cons_succ, List.set_cons_zero]
      refine flow_val ?_ rfl (by kernel_rfl) (by rfl) (fun W hW => ?_) ?_
      rotate_left 1
      · go_simp <;> with_reducible rfl
      simp only [Act.put, List.setIfInBounds_toArray, List.set_cons_succ, List.set_cons_zero]
      refine flow_val ?_ rfl (by kernel_rfl) (by rfl) (fun W hW => ?_) ?_
      rotate_left 1
      · go_simp <;> with_reducible rfl
      simp only [Act.put, List.setIfInBounds_toArray, List.set_cons_succ, List.set_cons_zero]
      refine flow_val ?_ rfl (by kernel_rfl) (by rfl) (fun W hW => ?_) ?_
      rotate_left 1
      · have c1 : W.cell? ⟨q, 0, none⟩ = some (.slice Aq s.l.length cq) := cell_at ((hW.1.block _ (lt_of_block HQB.out)).trans HQB.out) 0; go_simp <;> with_reducible rfl
      simp only [Act.put, List.setIfInBounds_toArray, List.set_cons_succ, List.set_cons_zero]
      refine flow_val ?_ rfl (by kernel_rfl) (by rfl) (fun W hW => ?_) ?_
      rotate_left 1
      · go_simp <;> with_reducible rfl
      simp only [Act.put, List.setIfInBounds_toArray, List.set_cons_succ, List.set_cons_zero]
      refine flow_val ?_ rfl (by kernel_rfl) (by rfl) (fun W hW => ?_) ?_
      rotate_left 1
      · go_simp <;> with_reducible rfl
      simp only [Act.put, List.setIfInBounds_toArray, List.set_cons_succ, List.set_cons_zero]
      refine flow_val ?_ rfl (by kernel_rfl) (by rfl) (fun W hW => ?_) ?_
      rotate_left 1
      · go_simp <;> with_reducible rfl
      simp only [Act.put, List.setIfInBounds_toArray, List.set_cons_succ, List.set_cons_zero]
      refine flow_val ?_ rfl (by kernel_rfl) (by rfl) (fun W hW => ?_) ?_
      rotate_left 1
      · go_simp <;> with_reducible rfl
      simp only [Act.put, List.setIfInBounds_toArray, List.set_cons_succ, List.set_cons_zero]
      refine flow_val ?_ rfl (by kernel_rfl) (by rfl) (fun W hW => ?_) ?_
      rotate_left 1
      · go_simp <;> with_reducible rfl
      simp only [Act.put, List.setIfInBounds_toArray, List.set_cons_succ, List.set_cons_zero]
      refine flow_val ?_ rfl (by kernel_rfl) (by rfl) (fun W hW => ?_) ?_
      rotate_left 1
      · go_simp <;> with_reducible rfl
      simp only [Act.put, List.setIfInBounds_toArray, List.set_cons_succ, List.set_cons_zero]
      refine flow_val ?_ rfl (by kernel_rfl) (by rfl) (fun W hW => ?_) ?_
      rotate_left 1
      · go_simp <;> with_reducible rfl
      simp only [Act.put, List.setIfInBounds_toArray, List.set_cons_succ, List.set_cons_zero]
      refine flow_val ?_ rfl (by kernel_rfl) (by rfl) (fun W hW => ?_) ?_
      rotate_left 1
      · have c1 : W.cell? ⟨q, 1, none⟩ = some (.int .i64 s.sent) := cell_at ((hW.1.block _ (lt_of_block HQB.out)).trans HQB.out) 1; go_simp <;> with_reducible rfl
      simp only [Act.put, List.setIfInBounds_toArray, List.set_cons_succ, List.set_cons_zero]
      refine flow_val ?_ rfl (by kernel_rfl) (by rfl) (fun W hW => ?_) ?_
      rotate_left 1
      · go_simp <;> with_reducible rfl
      simp only [Act.put, List.setIfInBounds_toArray, List.set_cons_succ, List.set_cons_zero]
      refine flow_val ?_ rfl (by kernel_rfl) (by rfl) (fun W hW => ?_) ?_
      rotate_left 1
      · go_simp <;> with_reducible rfl
      simp only [Act.put, List.setIfInBounds_toArray, List.set_cons_succ, List.set_cons_zero]
      refine flow_off rfl (by kernel_rfl) (by rfl) ?_
      simp only [Act.put, List.setIfInBounds_toArray, List.set_cons_succ, List.set_cons_zero]
      refine flow_off rfl (by kernel_rfl) (by rfl) ?_
      simp only [Act.put, List.setIfInBounds_toArray, List.set_cons_succ, List.set_cons_zero]
      refine flow_off rfl (by kernel_rfl) (by rfl) ?_
      simp only [Act.put, List.setIfInBounds_toArray, List.set_cons_succ, List.set_cons_zero]
      refine flow_off rfl (by kernel_rfl) (by rfl) ?_
      simp only [Act.put, List.setIfInBounds_toArray, List.set_cons_succ, List.set_cons_zero]
      refine flow_off rfl (by kernel_rfl) (by rfl) ?_
      simp only [Act.put, List.setIfInBounds_toArray, List.set_cons_succ, List.set_cons_zero]
      refine flow_val ?_ rfl (by kernel_rfl) (by rfl) (fun W hW => ?_) ?_
      rotate_left 1
      · go_simp <;> with_reducible rfl
      simp only [Act.put, List.setIfInBounds_toArray, List.set_cons_succ, List.set_cons_zero]
      refine flow_val ?_ rfl (by kernel_rfl) (by rfl) (fun W hW => ?_) ?_
      rotate_left 1
      · go_simp <;> with_reducible rfl
      simp only [Act.put, List.setIfInBounds_toArray, List.set_cons_succ, List.set_cons_zero]
      refine flow_off rfl (by kernel_rfl) (by rfl) ?_
      simp only [Act.put, List.setIfInBounds_toArray, List.set_cons_succ, List.set_cons_zero]
      refine flow_off rfl (by kernel_rfl) (by rfl) ?_
      simp only [Act.put, List.setIfInBounds_toArray, List.set_cons_succ, List.set_cons_zero]
      refine flow_val ?_ rfl (by kernel_rfl) (by rfl) (fun W hW => ?_) ?_
      rotate_left 1
      · go_simp <;> with_reducible rfl
      simp only [Act.put, List.setIfInBounds_toArray, List.set_cons_succ, List.set_cons_zero]
      refine flow_val ?_ rfl (by kernel_rfl) (by rfl) (fun W hW => ?_) ?_
      rotate_left 1
      · go_simp <;> with_reducible rfl
      simp only [Act.put, List.setIfInBounds_toArray, List.set_cons_succ, List.set_cons_zero]
      refine flow_off rfl (by kernel_rfl) (by rfl) ?_
      simp only [Act.put, List.setIfInBounds_toArray, List.set_cons_succ, List.set_cons_zero]
      refine flow_off rfl (by kernel_rfl) (by rfl) ?_
      simp only [Act.put, List.setIfInBounds_toArray, List.set_cons_succ, List.set_cons_zero]
      refine flow_off rfl (by kernel_rfl) (by rfl) ?_
      simp only [Act.put, List.setIfInBounds_toArray, List.set_cons_succ, List.set_cons_zero]
      refine flow_off rfl (by kernel_rfl) (by rfl) ?_
      simp only [Act.put, List.setIfInBounds_toArray, List.set_cons_succ, List.set_cons_zero]
      refine flow_val ?_ rfl (by kernel_rfl) (by rfl) (fun W hW => ?_) ?_
      rotate_left 1
      · go_simp <;> with_reducible rfl
      simp only [Act.put, List.setIfInBounds_toArray, List.set_cons_succ, List.set_cons_zero]
      refine flow_val ?_ rfl (by kernel_rfl) (by rfl) (fun W hW => ?_) ?_
      rotate_left 1
      · go_simp <;> with_reducible rfl
      simp only [Act.put, List.setIfInBounds_toArray, List.set_cons_succ, List.set_cons_zero]
      refine flow_val ?_ rfl (by kernel_rfl) (by rfl) (fun W hW => ?_) ?_
      rotate_left 1
      · go_simp <;> with_reducible rfl
      simp only [Act.put, List.setIfInBounds_toArray, List.set_cons_succ, List.set_cons_zero]
      refine flow_done ?_
      intro W hW
      have HB6 := Lib.hid (HB5.out.trans (hW.1.mono HB5.out.size))
      clear hW
      go_wp2
      go_ret
      exact ⟨by simp, HB6.out⟩
    · by_cases a2 : (1099511627776 : Int) < s.mark
      · refine wp_region_flow (fun W => Below w5.heap.size w5 W) [0, 3, 4, 1, 2, 5, 6, 7, 8, 9, 10, 11, 12, 13, 14, 15, 16, 17, 18, 19, 20, 21, 22, 23, 24, 25, 26, 27, 28, 29, 30, 31, 32, 33, 34, 35, 36, 37, 38, 39, 40, 41, 42, 43, 44, 45, 46, 47, 48, 49, 50, 51, 52, 53, 54, 55, 56, 57, 58] (by kernel_rfl) (by kernel_rfl) (by kernel_rfl) ((Below.refl _ w5).drew) ?_
        refine flow_val ?_ rfl (by kernel_rfl) (by rfl) (fun W hW => ?_) ?_
        rotate_left 1
        · go_simp <;> with_reducible rfl
        simp only [Act.put, List.setIfInBounds_toArray, List.set_cons_succ, List.set_cons_zero]
        refine flow_val ?_ rfl (by kernel_rfl) (by rfl) (fun W hW => ?_) ?_
        rotate_left 1
        · go_simp <;> with_reducible rfl
        simp only [Act.put, List.setIfInBounds_toArray, List.set_cons_succ, List.set_cons_zero]
        refine flow_val ?_ rfl (by kernel_rfl) (by rfl) (fun W hW => ?_) ?_
        rotate_left 1
        · have s2 := HSS.out ▸ run_str W A n c bs (HQ5.out.below hW) HBB.out; go_simp <;> with_reducible rfl
        simp only [Act.put, List.setIfInBounds_toArray, List.set_cons_succ, List.set_cons_zero]
        refine flow_new (fun v W => Bs W v bs) rfl (by kernel_rfl) (by rfl) (by kernel_rfl) (fun W hW => ⟨_, _, _, by go_simp, ((HT5.out.keep hW).pack HG.out).mono fun e w' ⟨v, he, hv, hb⟩ => ⟨v, he, hW.trans (hb.mono hW.size), HPK.out ▸ hv⟩⟩) ?_
        rintro v61 ⟨_, _, A61, c61, rfl, _, _, _⟩
        simp only [Act.put, List.setIfInBounds_toArray, List.set_cons_succ, List.set_cons_zero]
        refine flow_val ?_ rfl (by kernel_rfl) (by rfl) (fun W hW => ?_) ?_
        rotate_left 1
        · have s1 := HSS.out ▸ run_str W A61 bs.length c61 bs hW.2.rd' HBB.out; go_simp <;> with_reducible rfl
        simp only [Act.put, List.setIfInBounds_toArray, List.set_cons_succ, List.set_cons_zero]
        refine flow_val ?_ rfl (by kernel_rfl) (by rfl) (fun W hW => ?_) ?_
        rotate_left 1
        · go_simp <;> with_reducible rfl
        simp only [Act.put, List.setIfInBounds_toArray, List.set_cons_succ, List.set_cons_zero]
        refine flow_val ?_ rfl (by kernel_rfl) (by rfl) (fun W hW => ?_) ?_
        rotate_left 1
        · go_simp <;> with_reducible rfl
        simp only [Act.put, List.setIfInBounds_toArray, List.set_cons_succ, List.set_cons_zero]
        refine flow_val ?_ rfl (by kernel_rfl) (by rfl) (fun W hW => ?_) ?_
        rotate_left 1
        · go_simp <;> with_reducible rfl
        simp only [Act.put, List.setIfInBounds_toArray, List.set_cons_succ, List.set_cons_zero]
        refine flow_quiet (.int .i64 s.sent) rfl (by kernel_rfl) (by rfl) (fun W hW => ⟨_, _, by go_simp, (HT5.out.keep hW.1).sent⟩) ?_
        simp only [Act.put, List.setIfInBounds_toArray, List.set_cons_succ, List.set_cons_zero]
        refine flow_val ?_ rfl (by kernel_rfl) (by rfl) (fun W hW => ?_) ?_
        rotate_left 1
        · go_simp <;> with_reducible rfl
        simp only [Act.put, List.setIfInBounds_toArray, List.set_cons_succ, List.set_cons_zero]
        refine flow_val ?_ rfl (by kernel_rfl) (by rfl) (fun W hW => ?_) ?_
        rotate_left 1
        · go_simp <;> with_reducible rfl
        simp only [Act.put, List.setIfInBounds_toArray, List.set_cons_succ, List.set_cons_zero]
        refine flow_val ?_ rfl (by kernel_rfl) (by rfl) (fun W hW => ?_) ?_
        rotate_left 1
        · go_simp <;> with_reducible rfl
        simp only [Act.put, List.setIfInBounds_toArray, List.set_cons_succ, List.set_cons_zero]
        refine flow_val ?_ rfl (by kernel_rfl) (by rfl) (fun W hW => ?_) ?_
        rotate_left 1
        · have c1 : W.cell? ⟨q, 1, none⟩ = some (.int .i64 s.sent) := cell_at ((hW.1.block _ (lt_of_block HQB.out)).trans HQB.out) 1; go_simp <;> with_reducible rfl
        simp only [Act.put, List.setIfInBounds_toArray, List.set_cons_succ, List.set_cons_zero]
        refine flow_val ?_ rfl (by kernel_rfl) (by rfl) (fun W hW => ?_) ?_
        rotate_left 1
        · go_simp <;> with_reducible rfl
        simp only [Act.put, List.setIfInBounds_toArray, List.set_cons_succ, List.set_cons_zero]
        refine flow_val ?_ rfl (by kernel_rfl) (by rfl) (fun W hW => ?_) ?_
        rotate_left 1
        · go_simp <;> with_reducible rfl
        simp only [Act.put, List.setIfInBounds_toArray, List.set_cons_succ, List.set_cons_zero]
        refine flow_val ?_ rfl (by kernel_rfl) (by rfl) (fun W hW => ?_) ?_
        rotate_left 1
        · go_simp <;> with_reducible rfl
        simp only [Act.put, List.setIfInBounds_toArray, List.set_cons_succ, List.set_cons_zero]
        refine flow_val ?_ rfl (by kernel_rfl) (by rfl) (fun W hW => ?_) ?_
        rotate_left 1
        · go_simp <;> with_reducible rfl
        simp only [Act.put, List.setIfInBounds_toArray, List.set_cons_succ, List.set_cons_zero]
        refine flow_quiet (.int .i64 s.mark) rfl (by kernel_rfl) (by rfl) (fun W hW => ⟨_, _, by go_simp, (HT5.out.keep hW.1).mark⟩) ?_
        simp only [Act.put, List.setIfInBounds_toArray, List.set_cons_succ, List.set_cons_zero]
        refine flow_val ?_ rfl (by kernel_rfl) (by rfl) (fun W hW => ?_) ?_
        rotate_left 1
        · go_simp <;> with_reducible rfl
        simp only [Act.put, List.setIfInBounds_toArray, List.set_cons_succ, List.set_cons_zero]
        refine flow_val ?_ rfl (by kernel_rfl) (by rfl) (fun W hW => ?_) ?_
        rotate_left 1
        · go_simp <;> with_reducible rfl
        simp only [Act.put, List.setIfInBounds_toArray, List.set_cons_succ, List.set_cons_zero]
        refine flow_val ?_ rfl (by kernel_rfl) (by rfl) (fun W hW => ?_) ?_
        rotate_left 1
        · go_simp <;> with_reducible rfl
        simp only [Act.put, List.setIfInBounds_toArray, List.set_cons_succ, List.set_cons_zero]
        refine flow_val ?_ rfl (by kernel_rfl) (by rfl) (fun W hW => ?_) ?_
        rotate_left 1
        · have c1 : W.cell? ⟨q, 2, none⟩ = some (.int .i64 s.mark) := cell_at ((hW.1.block _ (lt_of_block HQB.out)).trans HQB.out) 2; go_simp <;> with_reducible rfl
        simp only [Act.put, List.setIfInBounds_toArray, List.set_cons_succ, List.set_cons_zero]
        refine flow_val ?_ rfl (by kernel_rfl) (by rfl) (fun W hW => ?_) ?_
        rotate_left 1
        · go_simp <;> with_reducible rfl
        simp only [Act.put, List.setIfInBounds_toArray, List.set_cons_succ, List.set_cons_zero]
        refine flow_val ?_ rfl (by kernel_rfl) (by rfl) (fun W hW => ?_) ?_
        rotate_left 1
        · go_simp <;> with_reducible rfl
        simp only [Act.put, List.setIfInBounds_toArray, List.set_cons_succ, List.set_cons_zero]
        refine flow_val ?_ rfl (by kernel_rfl) (by rfl) (fun W hW => ?_) ?_
        rotate_left 1
        · go_simp <;> with_reducible rfl
        simp only [Act.put, List.setIfInBounds_toArray, List.set_cons_succ, List.set_cons_zero]
        refine flow_val ?_ rfl (by kernel_rfl) (by rfl) (fun W hW => ?_) ?_
        rotate_left 1
        · go_simp <;> with_reducible rfl
        simp only [Act.put, List.setIfInBounds_toArray, List.set_cons_succ, List.set_cons_zero]
        refine flow_quiet (.int .i64 s.l.length) rfl (by kernel_rfl) (by rfl) (fun W hW => ⟨_, _, by go_simp, (HT5.out.keep hW.1).open_⟩) ?_
        simp only [Act.put, List.setIfInBounds_toArray, List.set_cons_succ, List.set_cons_zero]
        refine flow_val ?_ rfl (by kernel_rfl) (by rfl) (fun W hW => ?_) ?_
        rotate_left 1
        · go_simp <;> with_reducible rfl
        simp only [Act.put, List.setIfInBounds_toArray, List.set_cons_succ, List.set_cons_zero]
        refine flow_val ?_ rfl (by kernel_rfl) (by rfl) (fun W hW => ?_) ?_
        rotate_left 1
        · go_simp <;> with_reducible rfl
        simp only [Act.put, List.setIfInBounds_toArray, List.set_cons_succ, List.set_cons_zero]
        refine flow_val ?_ rfl (by kernel_rfl) (by rfl) (fun W hW => ?_) ?_
        rotate_left 1
        · go_simp <;> with_reducible rfl
        simp only [Act.put, List.setIfInBounds_toArray, List.set_cons_succ, List.set_cons_zero]
        refine flow_val ?_ rfl (by kernel_rfl) (by rfl) (fun W hW => ?_) ?_
        rotate_left 1
        · have c1 : W.cell? ⟨q, 0, none⟩ = some (.slice Aq s.l.length cq) := cell_at ((hW.1.block _ (lt_of_block HQB.out)).trans HQB.out) 0; go_simp <;> with_reducible rfl
        simp only [Act.put, List.setIfInBounds_toArray, List.set_cons_succ, List.set_cons_zero]
        refine flow_val ?_ rfl (by kernel_rfl) (by rfl) (fun W hW => ?_) ?_
        rotate_left 1
        · go_simp <;> with_reducible rfl
        simp only [Act.put, List.setIfInBounds_toArray, List.set_cons_succ, List.set_cons_zero]
        refine flow_val ?_ rfl (by kernel_rfl) (by rfl) (fun W hW => ?_) ?_
        rotate_left 1
        · go_simp <;> with_reducible rfl
        simp only [Act.put, List.setIfInBounds_toArray, List.set_cons_succ, List.set_cons_zero]
        refine flow_val ?_ rfl (by kernel_rfl) (by rfl) (fun W hW => ?_) ?_
        rotate_left 1
        · go_simp <;> with_reducible rfl
        simp only [Act.put, List.setIfInBounds_toArray, List.set_cons_succ, List.set_cons_zero]
        refine flow_val ?_ rfl (by kernel_rfl) (by rfl) (fun W hW => ?_) ?_
        rotate_left 1
        · go_simp <;> with_reducible rfl
        simp only [Act.put, List.setIfInBounds_toArray, List.set_cons_succ, List.set_cons_zero]
        refine flow_val ?_ rfl (by kernel_rfl) (by rfl) (fun W hW => ?_) ?_
        rotate_left 1
        · go_simp <;> with_reducible rfl
        simp only [Act.put, List.setIfInBounds_toArray, List.set_cons_succ, List.set_cons_zero]
        refine flow_val ?_ rfl (by kernel_rfl) (by rfl) (fun W hW => ?_) ?_
        rotate_left 1
        · go_simp <;> with_reducible rfl
        simp only [Act.put, List.setIfInBounds_toArray, List.set_cons_succ, List.set_cons_zero]
        refine flow_val ?_ rfl (by kernel_rfl) (by rfl) (fun W hW => ?_) ?_
        rotate_left 1
        · go_simp <;> with_reducible rfl
        simp only [Act.put, List.setIfInBounds_toArray, List.set_cons_succ, List.set_cons_zero]
        refine flow_val ?_ rfl (by kernel_rfl) (by rfl) (fun W hW => ?_) ?_
        rotate_left 1
        · have c1 : W.cell? ⟨q, 1, none⟩ = some (.int .i64 s.sent) := cell_at ((hW.1.block _ (lt_of_block HQB.out)).trans HQB.out) 1; go_simp <;> with_reducible rfl
        simp only [Act.put, List.setIfInBounds_toArray, List.set_cons_succ, List.set_cons_zero]
        refine flow_val ?_ rfl (by kernel_rfl) (by rfl) (fun W hW => ?_) ?_
        rotate_left 1
        · go_simp <;> with_reducible rfl
        simp only [Act.put, List.setIfInBounds_toArray, List.set_cons_succ, List.set_cons_zero]
        refine flow_val ?_ rfl (by kernel_rfl) (by rfl) (fun W hW => ?_) ?_
        rotate_left 1
        · go_simp <;> with_reducible rfl
        simp only [Act.put, List.setIfInBounds_toArray, List.set_cons_succ, List.set_cons_zero]
        refine flow_val ?_ rfl (by kernel_rfl) (by rfl) (fun W hW => ?_) ?_
        rotate_left 1
        · go_simp <;> with_reducible rfl
        simp only [Act.put, List.setIfInBounds_toArray, List.set_cons_succ, List.set_cons_zero]
        refine flow_val ?_ rfl (by kernel_rfl) (by rfl) (fun W hW => ?_) ?_
        rotate_left 1
        · go_simp <;> with_reducible rfl
        simp only [Act.put, List.setIfInBounds_toArray, List.set_cons_succ, List.set_cons_zero]
        refine flow_val ?_ rfl (by kernel_rfl) (by rfl) (fun W hW => ?_) ?_
        rotate_left 1
        · go_simp <;> with_reducible rfl
        simp only [Act.put, List.setIfInBounds_toArray, List.set_cons_succ, List.set_cons_zero]
        refine flow_val ?_ rfl (by kernel_rfl) (by rfl) (fun W hW => ?_) ?_
        rotate_left 1
        · have c1 : W.cell? ⟨q, 2, none⟩ = some (.int .i64 s.mark) := cell_at ((hW.1.block _ (lt_of_block HQB.out)).trans HQB.out) 2; go_simp <;> with_reducible rfl
        simp only [Act.put, List.setIfInBounds_toArray, List.set_cons_succ, List.set_cons_zero]
        refine flow_val ?_ rfl (by kernel_rfl) (by rfl) (fun W hW => ?_) ?_
        rotate_left 1
        · go_simp <;> with_reducible rfl
        simp only [Act.put, List.setIfInBounds_toArray, List.set_cons_succ, List.set_cons_zero]
        refine flow_val ?_ rfl (by kernel_rfl) (by rfl) (fun W hW => ?_) ?_
        rotate_left 1
        · go_simp <;> with_reducible rfl
        simp only [Act.put, List.setIfInBounds_toArray, List.set_cons_succ, List.set_cons_zero]
        refine flow_val ?_ rfl (by kernel_rfl) (by rfl) (fun W hW => ?_) ?_
        rotate_left 1
        · go_simp <;> with_reducible rfl
        simp only [Act.put, List.setIfInBounds_toArray, List.set_cons_succ, List.set_cons_zero]
        refine flow_off rfl (by kernel_rfl) (by rfl) ?_
        simp only [Act.put, List.setIfInBounds_toArray, List.set_cons_succ, List.set_cons_zero]
        refine flow_off rfl (by kernel_rfl) (by rfl) ?_
        simp only [Act.put, List.setIfInBounds_toArray, List.set_cons_succ, List.set_cons_zero]
        refine flow_val ?_ rfl (by kernel_rfl) (by rfl) (fun W hW => ?_) ?_
        rotate_left 1
        · go_simp <;> with_reducible rfl
        simp only [Act.put, List.setIfInBounds_toArray, List.set_cons_succ, List.set_cons_zero]
        refine flow_val ?_ rfl (by kernel_rfl) (by rfl) (fun W hW => ?_) ?_
        rotate_left 1
        · go_simp <;> with_reducible rfl
        simp only [Act.put, List.setIfInBounds_toArray, List.set_cons_succ, List.set_cons_zero]
        refine flow_off rfl (by kernel_rfl) (by rfl) ?_
        simp only [Act.put, List.setIfInBounds_toArray, List.set_cons_succ, List.set_cons_zero]
        refine flow_off rfl (by kernel_rfl) (by rfl) ?_
        simp only [Act.put, List.setIfInBounds_toArray, List.set_cons_succ, List.set_cons_zero]
        refine flow_off rfl (by kernel_rfl) (by rfl) ?_
        simp only [Act.put, List.setIfInBounds_toArray, List.set_cons_succ, List.set_cons_zero]
        refine flow_off rfl (by kernel_rfl) (by rfl) ?_
        simp only [Act.put, List.setIfInBounds_toArray, List.set_cons_succ, List.set_cons_zero]
        refine flow_val ?_ rfl (by kernel_rfl) (by rfl) (fun W hW => ?_) ?_
        rotate_left 1
        · go_simp <;> with_reducible rfl
        simp only [Act.put, List.setIfInBounds_toArray, List.set_cons_succ, List.set_cons_zero]
        refine flow_val ?_ rfl (by kernel_rfl) (by rfl) (fun W hW => ?_) ?_
        rotate_left 1
        · go_simp <;> with_reducible rfl
        simp only [Act.put, List.setIfInBounds_toArray, List.set_cons_succ, List.set_cons_zero]
        refine flow_val ?_ rfl (by kernel_rfl) (by rfl) (fun W hW => ?_) ?_
        rotate_left 1
        · go_simp <;> with_reducible rfl
        simp only [Act.put, List.setIfInBounds_toArray, List.set_cons_succ, List.set_cons_zero]
        refine flow_done ?_
        intro W hW
        have HB6 := Lib.hid (HB5.out.trans (hW.1.mono HB5.out.size))
        clear hW
        go_wp2
        go_ret
        exact ⟨by simp, HB6.out⟩
      · cases FB
        · have hok : StepOk s := by
            have h1 := HG.out.sent
            have h2 := HG.out.mark
            refine ⟨by omega, by omega, HG.out.len, fun x hx => ?_⟩
            have h3 := HG.out.it x hx
            have h4 : ¬ 5000 < x.tries := fun h => by
              have := HFB.out
              unfold farB at this
              rw [List.any_eq_false] at this
              exact this x hx (by simpa using h)
            obtain ⟨g1, g2, g3, g4, g5⟩ := h3
            exact ⟨by omega, by omega, g1⟩
          have HOK := Lib.hid hok
          clear hok
          refine wp_region_flow (fun W => Below w5.heap.size w5 W) [0, 3, 4, 1, 2, 5, 6, 7, 8, 9, 10, 11, 12, 13, 14, 15, 16, 17, 18, 19, 20, 21, 22, 23, 24, 25, 26, 27, 28, 29, 30, 31, 32, 33, 34, 35, 36, 37, 38, 39, 40, 41, 42, 43, 44, 45, 46, 47, 48, 49, 50, 51, 52, 53, 54, 55, 56, 57, 58] (by kernel_rfl) (by kernel_rfl) (by kernel_rfl) ((Below.refl _ w5).drew) ?_
          refine flow_val ?_ rfl (by kernel_rfl) (by rfl) (fun W hW => ?_) ?_
          rotate_left 1
          · go_simp <;> with_reducible rfl
          simp only [Act.put, List.setIfInBounds_toArray, List.set_cons_succ, List.set_cons_zero]
          refine flow_val ?_ rfl (by kernel_rfl) (by rfl) (fun W hW => ?_) ?_
          rotate_left 1
          · go_simp <;> with_reducible rfl
          simp only [Act.put, List.setIfInBounds_toArray, List.set_cons_succ, List.set_cons_zero]
          refine flow_val ?_ rfl (by kernel_rfl) (by rfl) (fun W hW => ?_) ?_
          rotate_left 1
          · have s2 := HSS.out ▸ run_str W A n c bs (HQ5.out.below hW) HBB.out; go_simp <;> with_reducible rfl
          simp only [Act.put, List.setIfInBounds_toArray, List.set_cons_succ, List.set_cons_zero]
          refine flow_new (fun v W => Bs W v bs) rfl (by kernel_rfl) (by rfl) (by kernel_rfl) (fun W hW => ⟨_, _, _, by go_simp, ((HT5.out.keep hW).pack HG.out).mono fun e w' ⟨v, he, hv, hb⟩ => ⟨v, he, hW.trans (hb.mono hW.size), HPK.out ▸ hv⟩⟩) ?_
          rintro v61 ⟨_, _, A61, c61, rfl, _, _, _⟩
          simp only [Act.put, List.setIfInBounds_toArray, List.set_cons_succ, List.set_cons_zero]
          refine flow_val ?_ rfl (by kernel_rfl) (by rfl) (fun W hW => ?_) ?_
          rotate_left 1
          · have s1 := HSS.out ▸ run_str W A61 bs.length c61 bs hW.2.rd' HBB.out; go_simp <;> with_reducible rfl
          simp only [Act.put, List.setIfInBounds_toArray, List.set_cons_succ, List.set_cons_zero]
          refine flow_val ?_ rfl (by kernel_rfl) (by rfl) (fun W hW => ?_) ?_
          rotate_left 1
          · go_simp <;> with_reducible rfl
          simp only [Act.put, List.setIfInBounds_toArray, List.set_cons_succ, List.set_cons_zero]
          refine flow_val ?_ rfl (by kernel_rfl) (by rfl) (fun W hW => ?_) ?_
          rotate_left 1
          · go_simp <;> with_reducible rfl
          simp only [Act.put, List.setIfInBounds_toArray, List.set_cons_succ, List.set_cons_zero]
          refine flow_val ?_ rfl (by kernel_rfl) (by rfl) (fun W hW => ?_) ?_
          rotate_left 1
          · go_simp <;> with_reducible rfl
          simp only [Act.put, List.setIfInBounds_toArray, List.set_cons_succ, List.set_cons_zero]
          refine flow_quiet (.int .i64 s.sent) rfl (by kernel_rfl) (by rfl) (fun W hW => ⟨_, _, by go_simp, (HT5.out.keep hW.1).sent⟩) ?_
          simp only [Act.put, List.setIfInBounds_toArray, List.set_cons_succ, List.set_cons_zero]
          refine flow_val ?_ rfl (by kernel_rfl) (by rfl) (fun W hW => ?_) ?_
          rotate_left 1
          · go_simp <;> with_reducible rfl
          simp only [Act.put, List.setIfInBounds_toArray, List.set_cons_succ, List.set_cons_zero]
          refine flow_val ?_ rfl (by kernel_rfl) (by rfl) (fun W hW => ?_) ?_
          rotate_left 1
          · go_simp <;> with_reducible rfl
          simp only [Act.put, List.setIfInBounds_toArray, List.set_cons_succ, List.set_cons_zero]
          refine flow_val ?_ rfl (by kernel_rfl) (by rfl) (fun W hW => ?_) ?_
          rotate_left 1
          · go_simp <;> with_reducible rfl
          simp only [Act.put, List.setIfInBounds_toArray, List.set_cons_succ, List.set_cons_zero]
          refine flow_val ?_ rfl (by kernel_rfl) (by rfl) (fun W hW => ?_) ?_
          rotate_left 1
          · have c1 : W.cell? ⟨q, 1, none⟩ = some (.int .i64 s.sent) := cell_at ((hW.1.block _ (lt_of_block HQB.out)).trans HQB.out) 1; go_simp <;> with_reducible rfl
          simp only [Act.put, List.setIfInBounds_toArray, List.set_cons_succ, List.set_cons_zero]
          refine flow_val ?_ rfl (by kernel_rfl) (by rfl) (fun W hW => ?_) ?_
          rotate_left 1
          · go_simp <;> with_reducible rfl
          simp only [Act.put, List.setIfInBounds_toArray, List.set_cons_succ, List.set_cons_zero]
          refine flow_val ?_ rfl (by kernel_rfl) (by rfl) (fun W hW => ?_) ?_
          rotate_left 1
          · go_simp <;> with_reducible rfl
          simp only [Act.put, List.setIfInBounds_toArray, List.set_cons_succ, List.set_cons_zero]
          refine flow_val ?_ rfl (by kernel_rfl) (by rfl) (fun W hW => ?_) ?_
          rotate_left 1
          · go_simp <;> with_reducible rfl
          simp only [Act.put, List.setIfInBounds_toArray, List.set_cons_succ, List.set_cons_zero]
          refine flow_val ?_ rfl (by kernel_rfl) (by rfl) (fun W hW => ?_) ?_
          rotate_left 1
          · go_simp <;> with_reducible rfl
          simp only [Act.put, List.setIfInBounds_toArray, List.set_cons_succ, List.set_cons_zero]
          refine flow_quiet (.int .i64 s.mark) rfl (by kernel_rfl) (by rfl) (fun W hW => ⟨_, _, by go_simp, (HT5.out.keep hW.1).mark⟩) ?_
          simp only [Act.put, List.setIfInBounds_toArray, List.set_cons_succ, List.set_cons_zero]
          refine flow_val ?_ rfl (by kernel_rfl) (by rfl) (fun W hW => ?_) ?_
          rotate_left 1
          · go_simp <;> with_reducible rfl
          simp only [Act.put, List.setIfInBounds_toArray, List.set_cons_succ, List.set_cons_zero]
          refine flow_val ?_ rfl (by kernel_rfl) (by rfl) (fun W hW => ?_) ?_
          rotate_left 1
          · go_simp <;> with_reducible rfl
          simp only [Act.put, List.setIfInBounds_toArray, List.set_cons_succ, List.set_cons_zero]
          refine flow_val ?_ rfl (by kernel_rfl) (by rfl) (fun W hW => ?_) ?_
          rotate_left 1
          · go_simp <;> with_reducible rfl
          simp only [Act.put, List.setIfInBounds_toArray, List.set_cons_succ, List.set_cons_zero]
          refine flow_val ?_ rfl (by kernel_rfl) (by rfl) (fun W hW => ?_) ?_
          rotate_left 1
          · have c1 : W.cell? ⟨q, 2, none⟩ = some (.int .i64 s.mark) := cell_at ((hW.1.block _ (lt_of_block HQB.out)).trans HQB.out) 2; go_simp <;> with_reducible rfl
          simp only [Act.put, List.setIfInBounds_toArray, List.set_cons_succ, List.set_cons_zero]
          refine flow_val ?_ rfl (by kernel_rfl) (by rfl) (fun W hW => ?_) ?_
          rotate_left 1
          · go_simp <;> with_reducible rfl
          simp only [Act.put, List.setIfInBounds_toArray, List.set_cons_succ, List.set_cons_zero]
          refine flow_val ?_ rfl (by kernel_rfl) (by rfl) (fun W hW => ?_) ?_
          rotate_left 1
          · go_simp <;> with_reducible rfl
          simp only [Act.put, List.setIfInBounds_toArray, List.set_cons_succ, List.set_cons_zero]
          refine flow_val ?_ rfl (by kernel_rfl) (by rfl) (fun W hW => ?_) ?_
          rotate_left 1
          · go_simp <;> with_reducible rfl
          simp only [Act.put, List.setIfInBounds_toArray, List.set_cons_succ, List.set_cons_zero]
          refine flow_val ?_ rfl (by kernel_rfl) (by rfl) (fun W hW => ?_) ?_
          rotate_left 1
          · go_simp <;> with_reducible rfl
          simp only [Act.put, List.setIfInBounds_toArray, List.set_cons_succ, List.set_cons_zero]
          refine flow_quiet (.int .i64 s.l.length) rfl (by kernel_rfl) (by rfl) (fun W hW => ⟨_, _, by go_simp, (HT5.out.keep hW.1).open_⟩) ?_
          simp only [Act.put, List.setIfInBounds_toArray, List.set_cons_succ, List.set_cons_zero]
          refine flow_val ?_ rfl (by kernel_rfl) (by rfl) (fun W hW => ?_) ?_
          rotate_left 1
          · go_simp <;> with_reducible rfl
          simp only [Act.put, List.setIfInBounds_toArray, List.set_cons_succ, List.set_cons_zero]
          refine flow_val ?_ rfl (by kernel_rfl) (by rfl) (fun W hW => ?_) ?_
          rotate_left 1
          · go_simp <;> with_reducible rfl
          simp only [Act.put, List.setIfInBounds_toArray, List.set_cons_succ, List.set_cons_zero]
          refine flow_val ?_ rfl (by kernel_rfl) (by rfl) (fun W hW => ?_) ?_
          rotate_left 1
          · go_simp <;> with_reducible rfl
          simp only [Act.put, List.setIfInBounds_toArray, List.set_cons_succ, List.set_cons_zero]
          refine flow_val ?_ rfl (by kernel_rfl) (by rfl) (fun W hW => ?_) ?_
          rotate_left 1
          · have c1 : W.cell? ⟨q, 0, none⟩ = some (.slice Aq s.l.length cq) := cell_at ((hW.1.block _ (lt_of_block HQB.out)).trans HQB.out) 0; go_simp <;> with_reducible rfl
          simp only [Act.put, List.setIfInBounds_toArray, List.set_cons_succ, List.set_cons_zero]
          refine flow_val ?_ rfl (by kernel_rfl) (by rfl) (fun W hW => ?_) ?_
          rotate_left 1
          · go_simp <;> with_reducible rfl
          simp only [Act.put, List.setIfInBounds_toArray, List.set_cons_succ, List.set_cons_zero]
          refine flow_val ?_ rfl (by kernel_rfl) (by rfl) (fun W hW => ?_) ?_
          rotate_left 1
          · go_simp <;> with_reducible rfl
          simp only [Act.put, List.setIfInBounds_toArray, List.set_cons_succ, List.set_cons_zero]
          refine flow_val ?_ rfl (by kernel_rfl) (by rfl) (fun W hW => ?_) ?_
          rotate_left 1
          · go_simp <;> with_reducible rfl
          simp only [Act.put, List.setIfInBounds_toArray, List.set_cons_succ, List.set_cons_zero]
          refine flow_val ?_ rfl (by kernel_rfl) (by rfl) (fun W hW => ?_) ?_
          rotate_left 1
          · go_simp <;> with_reducible rfl
          simp only [Act.put, List.setIfInBounds_toArray, List.set_cons_succ, List.set_cons_zero]
          refine flow_val ?_ rfl (by kernel_rfl) (by rfl) (fun W hW => ?_) ?_
          rotate_left 1
          · go_simp <;> with_reducible rfl
          simp only [Act.put, List.setIfInBounds_toArray, List.set_cons_succ, List.set_cons_zero]
          refine flow_val ?_ rfl (by kernel_rfl) (by rfl) (fun W hW => ?_) ?_
          rotate_left 1
          · go_simp <;> with_reducible rfl
          simp only [Act.put, List.setIfInBounds_toArray, List.set_cons_succ, List.set_cons_zero]
          refine flow_val ?_ rfl (by kernel_rfl) (by rfl) (fun W hW => ?_) ?_
          rotate_left 1
          · go_simp <;> with_reducible rfl
          simp only [Act.put, List.setIfInBounds_toArray, List.set_cons_succ, List.set_cons_zero]
          refine flow_val ?_ rfl (by kernel_rfl) (by rfl) (fun W hW => ?_) ?_
          rotate_left 1
          · have c1 : W.cell? ⟨q, 1, none⟩ = some (.int .i64 s.sent) := cell_at ((hW.1.block _ (lt_of_block HQB.out)).trans HQB.out) 1; go_simp <;> with_reducible rfl
          simp only [Act.put, List.setIfInBounds_toArray, List.set_cons_succ, List.set_cons_zero]
          refine flow_val ?_ rfl (by kernel_rfl) (by rfl) (fun W hW => ?_) ?_
          rotate_left 1
          · go_simp <;> with_reducible rfl
          simp only [Act.put, List.setIfInBounds_toArray, List.set_cons_succ, List.set_cons_zero]
          refine flow_val ?_ rfl (by kernel_rfl) (by rfl) (fun W hW => ?_) ?_
          rotate_left 1
          · go_simp <;> with_reducible rfl
          simp only [Act.put, List.setIfInBounds_toArray, List.set_cons_succ, List.set_cons_zero]
          refine flow_val ?_ rfl (by kernel_rfl) (by rfl) (fun W hW => ?_) ?_
          rotate_left 1
          · go_simp <;> with_reducible rfl
          simp only [Act.put, List.setIfInBounds_toArray, List.set_cons_succ, List.set_cons_zero]
          refine flow_val ?_ rfl (by kernel_rfl) (by rfl) (fun W hW => ?_) ?_
          rotate_left 1
          · go_simp <;> with_reducible rfl
          simp only [Act.put, List.setIfInBounds_toArray, List.set_cons_succ, List.set_cons_zero]
          refine flow_val ?_ rfl (by kernel_rfl) (by rfl) (fun W hW => ?_) ?_
          rotate_left 1
          · go_simp <;> with_reducible rfl
          simp only [Act.put, List.setIfInBounds_toArray, List.set_cons_succ, List.set_cons_zero]
          refine flow_val ?_ rfl (by kernel_rfl) (by rfl) (fun W hW => ?_) ?_
          rotate_left 1
          · have c1 : W.cell? ⟨q, 2, none⟩ = some (.int .i64 s.mark) := cell_at ((hW.1.block _ (lt_of_block HQB.out)).trans HQB.out) 2; go_simp <;> with_reducible rfl
          simp only [Act.put, List.setIfInBounds_toArray, List.set_cons_succ, List.set_cons_zero]
          refine flow_val ?_ rfl (by kernel_rfl) (by rfl) (fun W hW => ?_) ?_
          rotate_left 1
          · go_simp <;> with_reducible rfl
          simp only [Act.put, List.setIfInBounds_toArray, List.set_cons_succ, List.set_cons_zero]
          refine flow_val ?_ rfl (by kernel_rfl) (by rfl) (fun W hW => ?_) ?_
          rotate_left 1
          · go_simp <;> with_reducible rfl
          simp only [Act.put, List.setIfInBounds_toArray, List.set_cons_succ, List.set_cons_zero]
          refine flow_val ?_ rfl (by kernel_rfl) (by rfl) (fun W hW => ?_) ?_
          rotate_left 1
          · go_simp <;> with_reducible rfl
          simp only [Act.put, List.setIfInBounds_toArray, List.set_cons_succ, List.set_cons_zero]
          refine flow_val ?_ rfl (by kernel_rfl) (by rfl) (fun W hW => ?_) ?_
          rotate_left 1
          · go_simp <;> with_reducible rfl
          simp only [Act.put, List.setIfInBounds_toArray, List.set_cons_succ, List.set_cons_zero]
          refine flow_quiet (.bool false) rfl (by kernel_rfl) (by rfl) (fun W hW => ⟨_, _, by go_simp, HFAR.out W hW.1⟩) ?_
          simp only [Act.put, List.setIfInBounds_toArray, List.set_cons_succ, List.set_cons_zero]
          refine flow_val ?_ rfl (by kernel_rfl) (by rfl) (fun W hW => ?_) ?_
          rotate_left 1
          · go_simp <;> with_reducible rfl
          simp only [Act.put, List.setIfInBounds_toArray, List.set_cons_succ, List.set_cons_zero]
          refine flow_val ?_ rfl (by kernel_rfl) (by rfl) (fun W hW => ?_) ?_
          rotate_left 1
          · go_simp <;> with_reducible rfl
          simp only [Act.put, List.setIfInBounds_toArray, List.set_cons_succ, List.set_cons_zero]
          refine flow_val ?_ rfl (by kernel_rfl) (by rfl) (fun W hW => ?_) ?_
          rotate_left 1
          · go_simp <;> with_reducible rfl
          simp only [Act.put, List.setIfInBounds_toArray, List.set_cons_succ, List.set_cons_zero]
          refine flow_val ?_ rfl (by kernel_rfl) (by rfl) (fun W hW => ?_) ?_
          rotate_left 1
          · go_simp <;> with_reducible rfl
          simp only [Act.put, List.setIfInBounds_toArray, List.set_cons_succ, List.set_cons_zero]
          refine flow_val ?_ rfl (by kernel_rfl) (by rfl) (fun W hW => ?_) ?_
          rotate_left 1
          · have o0 : W.cell? ⟨b, 0, none⟩ = some (.int .i64 z.kind) := cell_at ((hW.1.block _ (lt_of_block HOP5.out)).trans HOP5.out) 0; have o1 : W.cell? ⟨b, 1, none⟩ = some (.int .i64 z.now) := cell_at ((hW.1.block _ (lt_of_block HOP5.out)).trans HOP5.out) 1; have o2 : W.cell? ⟨b, 2, none⟩ = some (.int .i64 z.seq) := cell_at ((hW.1.block _ (lt_of_block HOP5.out)).trans HOP5.out) 2; have o3 : W.cell? ⟨b, 3, none⟩ = some (.int .i64 z.ack) := cell_at ((hW.1.block _ (lt_of_block HOP5.out)).trans HOP5.out) 3; have o4 : W.cell? ⟨b, 4, none⟩ = some (.slice z.A z.bs.length z.c) := cell_at ((hW.1.block _ (lt_of_block HOP5.out)).trans HOP5.out) 4; go_simp <;> with_reducible rfl
          simp only [Act.put, List.setIfInBounds_toArray, List.set_cons_succ, List.set_cons_zero]
          refine flow_bcall (fun W => Below w.heap.size w W) (fun v _ => v = .bool true) rfl (by kernel_rfl) (by rfl) (by kernel_rfl) (by kernel_rfl) (fun W hW hC => ⟨_, _, _, by go_simp, (lstep_any w p q s z W (HT5.out.keep hW.1) HZ.out HOK.out).mono fun e w1 ⟨he, ht⟩ => ⟨_, he, ht.below, rfl⟩⟩) ?_
          rintro v115 ⟨_, _, rfl⟩
          simp only [Act.put, List.setIfInBounds_toArray, List.set_cons_succ, List.set_cons_zero]
          refine flow_val ?_ rfl (by kernel_rfl) (by rfl) (fun W hW => ?_) ?_
          rotate_left 1
          · go_simp <;> with_reducible rfl
          simp only [Act.put, List.setIfInBounds_toArray, List.set_cons_succ, List.set_cons_zero]
          refine flow_val ?_ rfl (by kernel_rfl) (by rfl) (fun W hW => ?_) ?_
          rotate_left 1
          · go_simp <;> with_reducible rfl
          simp only [Act.put, List.setIfInBounds_toArray, List.set_cons_succ, List.set_cons_zero]
          refine flow_val ?_ rfl (by kernel_rfl) (by rfl) (fun W hW => ?_) ?_
          rotate_left 1
          · go_simp <;> with_reducible rfl
          simp only [Act.put, List.setIfInBounds_toArray, List.set_cons_succ, List.set_cons_zero]
          refine flow_done2 ?_
          intro W hW _
          have HB6 := Lib.hid hW.1
          clear hW
          go_wp2
          go_ret
          exact ⟨by simp, HB6.out⟩
        · refine wp_region_flow (fun W => Below w5.heap.size w5 W) [0, 3, 4, 1, 2, 5, 6, 7, 8, 9, 10, 11, 12, 13, 14, 15, 16, 17, 18, 19, 20, 21, 22, 23, 24, 25, 26, 27, 28, 29, 30, 31, 32, 33, 34, 35, 36, 37, 38, 39, 40, 41, 42, 43, 44, 45, 46, 47, 48, 49, 50, 51, 52, 53, 54, 55, 56, 57, 58] (by kernel_rfl) (by kernel_rfl) (by kernel_rfl) ((Below.refl _ w5).drew) ?_
          refine flow_val ?_ rfl (by kernel_rfl) (by rfl) (fun W hW => ?_) ?_
          rotate_left 1
          · go_simp <;> with_reducible rfl
          simp only [Act.put, List.setIfInBounds_toArray, List.set_cons_succ, List.set_cons_zero]
          refine flow_val ?_ rfl (by kernel_rfl) (by rfl) (fun W hW => ?_) ?_
          rotate_left 1
          · go_simp <;> with_reducible rfl
          simp only [Act.put, List.setIfInBounds_toArray, List.set_cons_succ, List.set_cons_zero]
          refine flow_val ?_ rfl (by kernel_rfl) (by rfl) (fun W hW => ?_) ?_
          rotate_left 1
          · have s2 := HSS.out ▸ run_str W A n c bs (HQ5.out.below hW) HBB.out; go_simp <;> with_reducible rfl
          simp only [Act.put, List.setIfInBounds_toArray, List.set_cons_succ, List.set_cons_zero]
          refine flow_new (fun v W => Bs W v bs) rfl (by kernel_rfl) (by rfl) (by kernel_rfl) (fun W hW => ⟨_, _, _, by go_simp, ((HT5.out.keep hW).pack HG.out).mono fun e w' ⟨v, he, hv, hb⟩ => ⟨v, he, hW.trans (hb.mono hW.size), HPK.out ▸ hv⟩⟩) ?_
          rintro v61 ⟨_, _, A61, c61, rfl, _, _, _⟩
          simp only [Act.put, List.setIfInBounds_toArray, List.set_cons_succ, List.set_cons_zero]
          refine flow_val ?_ rfl (by kernel_rfl) (by rfl) (fun W hW => ?_) ?_
          rotate_left 1
          · have s1 := HSS.out ▸ run_str W A61 bs.length c61 bs hW.2.rd' HBB.out; go_simp <;> with_reducible rfl
          simp only [Act.put, List.setIfInBounds_toArray, List.set_cons_succ, List.set_cons_zero]
          refine flow_val ?_ rfl (by kernel_rfl) (by rfl) (fun W hW => ?_) ?_
          rotate_left 1
          · go_simp <;> with_reducible rfl
          simp only [Act.put, List.setIfInBounds_toArray, List.set_cons_succ, List.set_cons_zero]
          refine flow_val ?_ rfl (by kernel_rfl) (by rfl) (fun W hW => ?_) ?_
          rotate_left 1
          · go_simp <;> with_reducible rfl
          simp only [Act.put, List.setIfInBounds_toArray, List.set_cons_succ, List.set_cons_zero]
          refine flow_val ?_ rfl (by kernel_rfl) (by rfl) (fun W hW => ?_) ?_
          rotate_left 1
          · go_simp <;> with_reducible rfl
          simp only [Act.put, List.setIfInBounds_toArray, List.set_cons_succ, List.set_cons_zero]
          refine flow_quiet (.int .i64 s.sent) rfl (by kernel_rfl) (by rfl) (fun W hW => ⟨_, _, by go_simp, (HT5.out.keep hW.1).sent⟩) ?_
          simp only [Act.put, List.setIfInBounds_toArray, List.set_cons_succ, List.set_cons_zero]
          refine flow_val ?_ rfl (by kernel_rfl) (by rfl) (fun W hW => ?_) ?_
          rotate_left 1
          · go_simp <;> with_reducible rfl
          simp only [Act.put, List.setIfInBounds_toArray, List.set_cons_succ, List.set_cons_zero]
          refine flow_val ?_ rfl (by kernel_rfl) (by rfl) (fun W hW => ?_) ?_
          rotate_left 1
          · go_simp <;> with_reducible rfl
          simp only [Act.put, List.setIfInBounds_toArray, List.set_cons_succ, List.set_cons_zero]
          refine flow_val ?_ rfl (by kernel_rfl) (by rfl) (fun W hW => ?_) ?_
          rotate_left 1
          · go_simp <;> with_reducible rfl
          simp only [Act.put, List.setIfInBounds_toArray, List.set_cons_succ, List.set_cons_zero]
          refine flow_val ?_ rfl (by kernel_rfl) (by rfl) (fun W hW => ?_) ?_
          rotate_left 1
          · have c1 : W.cell? ⟨q, 1, none⟩ = some (.int .i64 s.sent) := cell_at ((hW.1.block _ (lt_of_block HQB.out)).trans HQB.out) 1; go_simp <;> with_reducible rfl
          simp only [Act.put, List.setIfInBounds_toArray, List.set_cons_succ, List.set_cons_zero]
          refine flow_val ?_ rfl (by kernel_rfl) (by rfl) (fun W hW => ?_) ?_
          rotate_left 1
          · go_simp <;> with_reducible rfl
          simp only [Act.put, List.setIfInBounds_toArray, List.set_cons_succ, List.set_cons_zero]
          refine flow_val ?_ rfl (by kernel_rfl) (by rfl) (fun W hW => ?_) ?_
          rotate_left 1
          · go_simp <;> with_reducible rfl
          simp only [Act.put, List.setIfInBounds_toArray, List.set_cons_succ, List.set_cons_zero]
          refine flow_val ?_ rfl (by kernel_rfl) (by rfl) (fun W hW => ?_) ?_
          rotate_left 1
          · go_simp <;> with_reducible rfl
          simp only [Act.put, List.setIfInBounds_toArray, List.set_cons_succ, List.set_cons_zero]
          refine flow_val ?_ rfl (by kernel_rfl) (by rfl) (fun W hW => ?_) ?_
          rotate_left 1
          · go_simp <;> with_reducible rfl
          simp only [Act.put, List.setIfInBounds_toArray, List.set_cons_succ, List.set_cons_zero]
          refine flow_quiet (.int .i64 s.mark) rfl (by kernel_rfl) (by rfl) (fun W hW => ⟨_, _, by go_simp, (HT5.out.keep hW.1).mark⟩) ?_
          simp only [Act.put, List.setIfInBounds_toArray, List.set_cons_succ, List.set_cons_zero]
          refine flow_val ?_ rfl (by kernel_rfl) (by rfl) (fun W hW => ?_) ?_
          rotate_left 1
          · go_simp <;> with_reducible rfl
          simp only [Act.put, List.setIfInBounds_toArray, List.set_cons_succ, List.set_cons_zero]
          refine flow_val ?_ rfl (by kernel_rfl) (by rfl) (fun W hW => ?_) ?_
          rotate_left 1
          · go_simp <;> with_reducible rfl
          simp only [Act.put, List.setIfInBounds_toArray, List.set_cons_succ, List.set_cons_zero]
          refine flow_val ?_ rfl (by kernel_rfl) (by rfl) (fun W hW => ?_) ?_
          rotate_left 1
          · go_simp <;> with_reducible rfl
          simp only [Act.put, List.setIfInBounds_toArray, List.set_cons_succ, List.set_cons_zero]
          refine flow_val ?_ rfl (by kernel_rfl) (by rfl) (fun W hW => ?_) ?_
          rotate_left 1
          · have c1 : W.cell? ⟨q, 2, none⟩ = some (.int .i64 s.mark) := cell_at ((hW.1.block _ (lt_of_block HQB.out)).trans HQB.out) 2; go_simp <;> with_reducible rfl
          simp only [Act.put, List.setIfInBounds_toArray, List.set_cons_succ, List.set_cons_zero]
          refine flow_val ?_ rfl (by kernel_rfl) (by rfl) (fun W hW => ?_) ?_
          rotate_left 1
          · go_simp <;> with_reducible rfl
          simp only [Act.put, List.setIfInBounds_toArray, List.set_cons_succ, List.set_cons_zero]
          refine flow_val ?_ rfl (by kernel_rfl) (by rfl) (fun W hW => ?_) ?_
          rotate_left 1
          · go_simp <;> with_reducible rfl
          simp only [Act.put, List.setIfInBounds_toArray, List.set_cons_succ, List.set_cons_zero]
          refine flow_val ?_ rfl (by kernel_rfl) (by rfl) (fun W hW => ?_) ?_
          rotate_left 1
          · go_simp <;> with_reducible rfl
          simp only [Act.put, List.setIfInBounds_toArray, List.set_cons_succ, List.set_cons_zero]
          refine flow_val ?_ rfl (by kernel_rfl) (by rfl) (fun W hW => ?_) ?_
          rotate_left 1
          · go_simp <;> with_reducible rfl
          simp only [Act.put, List.setIfInBounds_toArray, List.set_cons_succ, List.set_cons_zero]
          refine flow_quiet (.int .i64 s.l.length) rfl (by kernel_rfl) (by rfl) (fun W hW => ⟨_, _, by go_simp, (HT5.out.keep hW.1).open_⟩) ?_
          simp only [Act.put, List.setIfInBounds_toArray, List.set_cons_succ, List.set_cons_zero]
          refine flow_val ?_ rfl (by kernel_rfl) (by rfl) (fun W hW => ?_) ?_
          rotate_left 1
          · go_simp <;> with_reducible rfl
          simp only [Act.put, List.setIfInBounds_toArray, List.set_cons_succ, List.set_cons_zero]
          refine flow_val ?_ rfl (by kernel_rfl) (by rfl) (fun W hW => ?_) ?_
          rotate_left 1
          · go_simp <;> with_reducible rfl
          simp only [Act.put, List.setIfInBounds_toArray, List.set_cons_succ, List.set_cons_zero]
          refine flow_val ?_ rfl (by kernel_rfl) (by rfl) (fun W hW => ?_) ?_
          rotate_left 1
          · go_simp <;> with_reducible rfl
          simp only [Act.put, List.setIfInBounds_toArray, List.set_cons_succ, List.set_cons_zero]
          refine flow_val ?_ rfl (by kernel_rfl) (by rfl) (fun W hW => ?_) ?_
          rotate_left 1
          · have c1 : W.cell? ⟨q, 0, none⟩ = some (.slice Aq s.l.length cq) := cell_at ((hW.1.block _ (lt_of_block HQB.out)).trans HQB.out) 0; go_simp <;> with_reducible rfl
          simp only [Act.put, List.setIfInBounds_toArray, List.set_cons_succ, List.set_cons_zero]
          refine flow_val ?_ rfl (by kernel_rfl) (by rfl) (fun W hW => ?_) ?_
          rotate_left 1
          · go_simp <;> with_reducible rfl
          simp only [Act.put, List.setIfInBounds_toArray, List.set_cons_succ, List.set_cons_zero]
          refine flow_val ?_ rfl (by kernel_rfl) (by rfl) (fun W hW => ?_) ?_
          rotate_left 1
          · go_simp <;> with_reducible rfl
          simp only [Act.put, List.setIfInBounds_toArray, List.set_cons_succ, List.set_cons_zero]
          refine flow_val ?_ rfl (by kernel_rfl) (by rfl) (fun W hW => ?_) ?_
          rotate_left 1
          · go_simp <;> with_reducible rfl
          simp only [Act.put, List.setIfInBounds_toArray, List.set_cons_succ, List.set_cons_zero]
          refine flow_val ?_ rfl (by kernel_rfl) (by rfl) (fun W hW => ?_) ?_
          rotate_left 1
          · go_simp <;> with_reducible rfl
          simp only [Act.put, List.setIfInBounds_toArray, List.set_cons_succ, List.set_cons_zero]
          refine flow_val ?_ rfl (by kernel_rfl) (by rfl) (fun W hW => ?_) ?_
          rotate_left 1
          · go_simp <;> with_reducible rfl
          simp only [Act.put, List.setIfInBounds_toArray, List.set_cons_succ, List.set_cons_zero]
          refine flow_val ?_ rfl (by kernel_rfl) (by rfl) (fun W hW => ?_) ?_
          rotate_left 1
          · go_simp <;> with_reducible rfl
          simp only [Act.put, List.setIfInBounds_toArray, List.set_cons_succ, List.set_cons_zero]
          refine flow_val ?_ rfl (by kernel_rfl) (by rfl) (fun W hW => ?_) ?_
          rotate_left 1
          · go_simp <;> with_reducible rfl
          simp only [Act.put, List.setIfInBounds_toArray, List.set_cons_succ, List.set_cons_zero]
          refine flow_val ?_ rfl (by kernel_rfl) (by rfl) (fun W hW => ?_) ?_
          rotate_left 1
          · have c1 : W.cell? ⟨q, 1, none⟩ = some (.int .i64 s.sent) := cell_at ((hW.1.block _ (lt_of_block HQB.out)).trans HQB.out) 1; go_simp <;> with_reducible rfl
          simp only [Act.put, List.setIfInBounds_toArray, List.set_cons_succ, List.set_cons_zero]
          refine flow_val ?_ rfl (by kernel_rfl) (by rfl) (fun W hW => ?_) ?_
          rotate_left 1
          · go_simp <;> with_reducible rfl
          simp only [Act.put, List.setIfInBounds_toArray, List.set_cons_succ, List.set_cons_zero]
          refine flow_val ?_ rfl (by kernel_rfl) (by rfl) (fun W hW => ?_) ?_
          rotate_left 1
          · go_simp <;> with_reducible rfl
          simp only [Act.put, List.setIfInBounds_toArray, List.set_cons_succ, List.set_cons_zero]
          refine flow_val ?_ rfl (by kernel_rfl) (by rfl) (fun W hW => ?_) ?_
          rotate_left 1
          · go_simp <;> with_reducible rfl
          simp only [Act.put, List.setIfInBounds_toArray, List.set_cons_succ, List.set_cons_zero]
          refine flow_val ?_ rfl (by kernel_rfl) (by rfl) (fun W hW => ?_) ?_
          rotate_left 1
          · go_simp <;> with_reducible rfl
          simp only [Act.put, List.setIfInBounds_toArray, List.set_cons_succ, List.set_cons_zero]
          refine flow_val ?_ rfl (by kernel_rfl) (by rfl) (fun W hW => ?_) ?_
          rotate_left 1
          · go_simp <;> with_reducible rfl
          simp only [Act.put, List.setIfInBounds_toArray, List.set_cons_succ, List.set_cons_zero]
          refine flow_val ?_ rfl (by kernel_rfl) (by rfl) (fun W hW => ?_) ?_
          rotate_left 1
          · have c1 : W.cell? ⟨q, 2, none⟩ = some (.int .i64 s.mark) := cell_at ((hW.1.block _ (lt_of_block HQB.out)).trans HQB.out) 2; go_simp <;> with_reducible rfl
          simp only [Act.put, List.setIfInBounds_toArray, List.set_cons_succ, List.set_cons_zero]
          refine flow_val ?_ rfl (by kernel_rfl) (by rfl) (fun W hW => ?_) ?_
          rotate_left 1
          · go_simp <;> with_reducible rfl
          simp only [Act.put, List.setIfInBounds_toArray, List.set_cons_succ, List.set_cons_zero]
          refine flow_val ?_ rfl (by kernel_rfl) (by rfl) (fun W hW => ?_) ?_
          rotate_left 1
          · go_simp <;> with_reducible rfl
          simp only [Act.put, List.setIfInBounds_toArray, List.set_cons_succ, List.set_cons_zero]
          refine flow_val ?_ rfl (by kernel_rfl) (by rfl) (fun W hW => ?_) ?_
          rotate_left 1
          · go_simp <;> with_reducible rfl
          simp only [Act.put, List.setIfInBounds_toArray, List.set_cons_succ, List.set_cons_zero]
          refine flow_val ?_ rfl (by kernel_rfl) (by rfl) (fun W hW => ?_) ?_
          rotate_left 1
          · go_simp <;> with_reducible rfl
          simp only [Act.put, List.setIfInBounds_toArray, List.set_cons_succ, List.set_cons_zero]
          refine flow_quiet (.bool true) rfl (by kernel_rfl) (by rfl) (fun W hW => ⟨_, _, by go_simp, HFAR.out W hW.1⟩) ?_
          simp only [Act.put, List.setIfInBounds_toArray, List.set_cons_succ, List.set_cons_zero]
          refine flow_val ?_ rfl (by kernel_rfl) (by rfl) (fun W hW => ?_) ?_
          rotate_left 1
          · go_simp <;> with_reducible rfl
          simp only [Act.put, List.setIfInBounds_toArray, List.set_cons_succ, List.set_cons_zero]
          refine flow_val ?_ rfl (by kernel_rfl) (by rfl) (fun W hW => ?_) ?_
          rotate_left 1
          · go_simp <;> with_reducible rfl
          simp only [Act.put, List.setIfInBounds_toArray, List.set_cons_succ, List.set_cons_zero]
          refine flow_off rfl (by kernel_rfl) (by rfl) ?_
          simp only [Act.put, List.setIfInBounds_toArray, List.set_cons_succ, List.set_cons_zero]
          refine flow_off rfl (by kernel_rfl) (by rfl) ?_
          simp only [Act.put, List.setIfInBounds_toArray, List.set_cons_succ, List.set_cons_zero]
          refine flow_off rfl (by kernel_rfl) (by rfl) ?_
          simp only [Act.put, List.setIfInBounds_toArray, List.set_cons_succ, List.set_cons_zero]
          refine flow_off rfl (by kernel_rfl) (by rfl) ?_
          simp only [Act.put, List.setIfInBounds_toArray, List.set_cons_succ, List.set_cons_zero]
          refine flow_val ?_ rfl (by kernel_rfl) (by rfl) (fun W hW => ?_) ?_
          rotate_left 1
          · go_simp <;> with_reducible rfl
          simp only [Act.put, List.setIfInBounds_toArray, List.set_cons_succ, List.set_cons_zero]
          refine flow_val ?_ rfl (by kernel_rfl) (by rfl) (fun W hW => ?_) ?_
          rotate_left 1
          · go_simp <;> with_reducible rfl
          simp only [Act.put, List.setIfInBounds_toArray, List.set_cons_succ, List.set_cons_zero]
          refine flow_val ?_ rfl (by kernel_rfl) (by rfl) (fun W hW => ?_) ?_
          rotate_left 1
          · go_simp <;> with_reducible rfl
          simp only [Act.put, List.setIfInBounds_toArray, List.set_cons_succ, List.set_cons_zero]
          refine flow_done ?_
          intro W hW
          have HB6 := Lib.hid (HB5.out.trans (hW.1.mono HB5.out.size))
          clear hW
          go_wp2
          go_ret
          exact ⟨by simp, HB6.out⟩
end Go.Proofs.Ytnmbblkfaoihfaa
