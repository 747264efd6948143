/- Joined: The walk of the law BacklogUnpacks. -/
import Derived.Test.YtglfbihdbdcgiaaZBP29
import Derived.Test.YtglfbihdbdcgiaaZBP31
namespace Go.Proofs.Ytglfbihdbdcgiaa
open Go.RowKit

theorem IsB.lower {w : World} {B B' p : Nat} {rs : List (Int × Bool)} {out : Int} (h : IsB w B p rs out) (hB : B' ≤ B) : IsB w B' p rs out := by
  obtain ⟨h1, v, h2, h3⟩ := h
  exact ⟨by omega, v, h2, own_zero2 h3 hB⟩
theorem IsX.lower {w : World} {B B' p : Nat} {rs : List (Int × Bool)} {out : Int} (h : IsX w B p rs out) (hB : B' ≤ B) : IsX w B' p rs out := by
  obtain ⟨h1, v, h2, h3⟩ := h
  exact ⟨by omega, v, h2, own_zero2 h3 hB⟩
theorem Bs.sl {w : World} {v : Value} {bs : List Nat} (h : Bs w v bs) : ∃ A c, v = .slice A bs.length c ∧ Rd w 1 A bs.length (bs.map u8v) := by
  obtain ⟨A, c, e, _, _, h⟩ := h
  exact ⟨A, c, e, h⟩

set_option maxRecDepth 100000 in
set_option maxHeartbeats 1600000 in
theorem unpacks_any (A : Option Addr) (c : Nat) (bs : List Nat) (w : World) (hb : IsBy w A c bs) : Calls Try.prog 8 #[.slice A bs.length c] w fun e w' => e = .returned (.bool true) ∧ Below w.heap.size w w' := by
  obtain ⟨i0, hi0, hz0, hz1, hz2⟩ := info_parts Try.infoByte
  have HBB := Lib.hid hb.2.2.2.1
  have hl : bs.length ≤ 140737488351232 := Nat.le_trans hb.1 hb.2.1
  obtain ⟨n, hn⟩ : ∃ n, bs.length = n := ⟨_, rfl⟩
  have HN := Lib.hid hn
  have HV := Lib.hid hb
  rw [hn] at hl
  simp only [hn]
  clear hb hn
  go_enter Try.func8, Try.ntmps8
  have HO0 := Lib.hid (own_of_cells w #[] 0 (Nat.zero_le _) rfl)
  have HE0 : Hid (Rd (w.alloc (.cells #[] 5)) 1 A n (bs.map u8v)) := Lib.hid (HN.out ▸ (HV.out.below ((Below.refl _ w).alloc (Nat.le_refl _) (.cells #[] 5))).2.2.1)
  go_wp2_with (at_builtin
               refine wpList_append_rd _ rfl (.tmp 8) (.tmp 9) 49 rfl w.heap.size 5 i0 (.int .u8 0) 1 1 Try.underlying49 hi0 hz0 hz1 hz2 rfl (by decide) (.slice (some ⟨w.heap.size, 0, none⟩) 0 0) 0 [] rfl HO0.out A n c (bs.map u8v) rfl HE0.out (u8_one' _) (by unfold maxLen; omega) (by omega) (by simp) ?_
               intro v2 w2 hown2 hgrow2 _
               have hb2 : Below w.heap.size w w2 := ((Below.refl _ w).alloc (Nat.le_refl _) (.cells #[] 5)).trans ((((Fr.refl (w.alloc (.cells #[] 5))).grown (B := w.heap.size) (T := [5]) (S := []) hgrow2 fun j hj => by
                 obtain ⟨hb, cs, hc⟩ := own_block HO0.out hj
                 exact ⟨hb, .inr ⟨cs, _, _, hc, by simp⟩⟩)).below (by simp))
               simp only [Nat.zero_add, List.nil_append] at hown2
               have HO2 := Lib.hid (Bs.own_n hown2)
               have HB2 := Lib.hid hb2
               clear hown2 hgrow2 hb2)
  refine (unpack_any v2 bs w2 HO2.out HBB.out (by rw [HN.out]; omega)).mono ?_
  rintro e w3 ⟨h3, hb3⟩
  have HB3 := Lib.hid (HB2.out.trans (hb3.mono HB2.out.size))
  have HO3 := Lib.hid (HO2.out.below hb3)
  have HZ := Lib.hid HB2.out.size
  cases hu : unB bs with
  | none =>
    rw [hu] at h3
    obtain rfl := h3
    have HU := Lib.hid hu
    clear hu hb3
    obtain ⟨Ao, co, rfl, ro⟩ := HO3.out.sl
    have HRO := Lib.hid ro
    clear ro HO2 HO3
    go_wp2_with fail
    have hx := xunpack_any A c bs w3 (HV.out.below HB3.out)
    rw [HN.out] at hx
    refine hx.mono ?_
    rintro e w4 ⟨h4, hb4⟩
    rw [HU.out] at h4
    obtain rfl := h4
    have HB4 := Lib.hid (HB3.out.trans (hb4.mono HB3.out.size))
    have HR4 := Lib.hid (HRO.out.below hb4)
    clear hx hb4
    go_wp2_with fail
    refine (lives_any w4).mono ?_
    rintro e w5 ⟨rfl, hb5⟩
    have HB5 := Lib.hid (HB4.out.trans (hb5.mono HB4.out.size))
    obtain ⟨S, hS⟩ : ∃ S, strOf bs = S := ⟨_, rfl⟩
    have r5 := HR4.out.below hb5
    have q5 := (HV.out.below HB5.out).2.2.1
    rw [HN.out] at r5 q5
    simp only [HN.out]
    have s1 := hS ▸ run_str w5 Ao n co bs r5 HBB.out
    have s2 := hS ▸ run_str w5 A n c bs q5 HBB.out
    clear hb5 hS r5 q5
    go_wp2_with fail
    refine wp_region_flow (fun W => Below w5.heap.size w5 W) [0, 1, 2, 3, 4, 5, 6, 7, 8, 9, 10, 11, 12, 13, 14, 15] (by kernel_rfl) (by kernel_rfl) (by kernel_rfl) ((Below.refl _ w5).drew) ?_
    refine flow_val ?_ rfl (by kernel_rfl) (by rfl) (fun W hW => ?_) ?_
    rotate_left 1
    · go_simp <;> with_reducible rfl
    simp only [Act.put, List.setIfInBounds_toArray, List.set_cons_succ, List.set_cons_zero]
    refine flow_val ?_ rfl (by kernel_rfl) (by rfl) (fun W hW => ?_) ?_
    rotate_left 1
    · go_simp <;> with_reducible rfl
    simp only [Act.put, List.setIfInBounds_toArray, List.set_cons_succ, List.set_cons_zero]
    refine flow_val ?_ rfl (by kernel_rfl) (by rfl) (fun W hW => ?_) ?_
    rotate_left 1
    · go_simp <;> with_reducible rfl
    simp only [Act.put, List.setIfInBounds_toArray, List.set_cons_succ, List.set_cons_zero]
    refine flow_off rfl (by kernel_rfl) (by rfl) ?_
    simp only [Act.put, List.setIfInBounds_toArray, List.set_cons_succ, List.set_cons_zero]
    refine flow_off rfl (by kernel_rfl) (by rfl) ?_
    simp only [Act.put, List.setIfInBounds_toArray, List.set_cons_succ, List.set_cons_zero]
    refine flow_off rfl (by kernel_rfl) (by rfl) ?_
    simp only [Act.put, List.setIfInBounds_toArray, List.set_cons_succ, List.set_cons_zero]
    refine flow_off rfl (by kernel_rfl) (by rfl) ?_
    simp only [Act.put, List.setIfInBounds_toArray, List.set_cons_succ, List.set_cons_zero]
    refine flow_off rfl (by kernel_rfl) (by rfl) ?_
    simp only [Act.put, List.setIfInBounds_toArray, List.set_cons_succ, List.set_cons_zero]
    refine flow_off rfl (by kernel_rfl) (by rfl) ?_
    simp only [Act.put, List.setIfInBounds_toArray, List.set_cons_succ, List.set_cons_zero]
    refine flow_off rfl (by kernel_rfl) (by rfl) ?_
    simp only [Act.put, List.setIfInBounds_toArray, List.set_cons_succ, List.set_cons_zero]
    refine flow_off rfl (by kernel_rfl) (by rfl) ?_
    simp only [Act.put, List.setIfInBounds_toArray, List.set_cons_succ, List.set_cons_zero]
    refine flow_off rfl (by kernel_rfl) (by rfl) ?_
    simp only [Act.put, List.setIfInBounds_toArray, List.set_cons_succ, List.set_cons_zero]
    refine flow_off rfl (by kernel_rfl) (by rfl) ?_
    simp only [Act.put, List.setIfInBounds_toArray, List.set_cons_succ, List.set_cons_zero]
    refine flow_off rfl (by kernel_rfl) (by rfl) ?_
    simp only [Act.put, List.setIfInBounds_toArray, List.set_cons_succ, List.set_cons_zero]
    refine flow_val ?_ rfl (by kernel_rfl) (by rfl) (fun W hW => ?_) ?_
    rotate_left 1
    · go_simp <;> with_reducible rfl
    simp only [Act.put, List.setIfInBounds_toArray, List.set_cons_succ, List.set_cons_zero]
    refine flow_val ?_ rfl (by kernel_rfl) (by rfl) (fun W hW => ?_) ?_
    rotate_left 1
    · go_simp <;> with_reducible rfl
    simp only [Act.put, List.setIfInBounds_toArray, List.set_cons_succ, List.set_cons_zero]
    refine flow_done ?_
    intro W hW
    have HB6 := Lib.hid (HB5.out.trans (hW.mono HB5.out.size))
    clear hW s1 s2
    go_wp2
    go_ret
    exact ⟨by simp, HB6.out⟩
  | some r =>
    obtain ⟨rs, out⟩ := r
    rw [hu] at h3
    obtain ⟨p, rfl, hi3⟩ := h3
    have HU := Lib.hid hu
    have hgp := pack_unB HBB.out hu
    have HG := Lib.hid hgp.1
    have HPK := Lib.hid hgp.2
    have HI3 := Lib.hid (hi3.lower HZ.out)
    clear hu hb3 hi3 hgp
    obtain ⟨Ao, co, rfl, ro⟩ := HO3.out.sl
    have HRO := Lib.hid ro
    clear ro HO2 HO3
    go_wp2_with fail
    have hx := xunpack_any A c bs w3 (HV.out.below HB3.out)
    rw [HN.out] at hx
    refine hx.mono ?_
    rintro e w4 ⟨h4, hb4⟩
    rw [HU.out] at h4
    obtain ⟨q, rfl, hx4⟩ := h4
    have HX4 := Lib.hid (hx4.lower HB3.out.size)
    have HI4 := Lib.hid (HI3.out.below hb4)
    have HB4 := Lib.hid (HB3.out.trans (hb4.mono HB3.out.size))
    have HR4 := Lib.hid (HRO.out.below hb4)
    clear hx hb4 hx4
    go_wp2_with fail
    refine (lives_any w4).mono ?_
    rintro e w5 ⟨rfl, hb5⟩
    have HB5 := Lib.hid (HB4.out.trans (hb5.mono HB4.out.size))
    have HX5 := Lib.hid (HX4.out.below hb5)
    have HI5 := Lib.hid (HI4.out.below hb5)
    obtain ⟨S, hS⟩ : ∃ S, strOf bs = S := ⟨_, rfl⟩
    have HSS := Lib.hid hS
    have r5 := HR4.out.below hb5
    have q5 := (HV.out.below HB5.out).2.2.1
    rw [HN.out] at r5 q5
    simp only [HN.out]
    have HQ5 := Lib.hid q5
    have s1 := hS ▸ run_str w5 Ao n co bs r5 HBB.out
    have s2 := hS ▸ run_str w5 A n c bs q5 HBB.out
    clear hb5 hS r5 q5
    go_wp2_with fail
    clear s1 s2
    refine wp_region_flow (fun W => Below w5.heap.size w5 W) [0, 1, 2, 3, 4, 5, 6, 7, 10, 11, 8, 9, 12, 13, 14, 15] (by kernel_rfl) (by kernel_rfl) (by kernel_rfl) ((Below.refl _ w5).drew) ?_
    refine flow_val ?_ rfl (by kernel_rfl) (by rfl) (fun W hW => ?_) ?_
    rotate_left 1
    · go_simp <;> with_reducible rfl
    simp only [Act.put, List.setIfInBounds_toArray, List.set_cons_succ, List.set_cons_zero]
    refine flow_val ?_ rfl (by kernel_rfl) (by rfl) (fun W hW => ?_) ?_
    rotate_left 1
    · go_simp <;> with_reducible rfl
    simp only [Act.put, List.setIfInBounds_toArray, List.set_cons_succ, List.set_cons_zero]
    refine flow_val ?_ rfl (by kernel_rfl) (by rfl) (fun W hW => ?_) ?_
    rotate_left 1
    · go_simp <;> with_reducible rfl
    simp only [Act.put, List.setIfInBounds_toArray, List.set_cons_succ, List.set_cons_zero]
    refine flow_val ?_ rfl (by kernel_rfl) (by rfl) (fun W hW => ?_) ?_
    rotate_left 1
    · go_simp <;> with_reducible rfl
    simp only [Act.put, List.setIfInBounds_toArray, List.set_cons_succ, List.set_cons_zero]
    refine flow_val ?_ rfl (by kernel_rfl) (by rfl) (fun W hW => ?_) ?_
    rotate_left 1
    · go_simp <;> with_reducible rfl
    simp only [Act.put, List.setIfInBounds_toArray, List.set_cons_succ, List.set_cons_zero]
    refine flow_call (.bool true) rfl (by kernel_rfl) (by rfl) (by kernel_rfl) (fun W hW => ⟨_, _, _, by go_simp, (looks_any w.heap.size p q rs out W (HI5.out.below hW) (HX5.out.below hW) HG.out.good.1 HG.out.good.inj).mono fun e w' ⟨he, hb⟩ => ⟨he, hW.trans (hb.mono hW.size)⟩⟩) ?_
    simp only [Act.put, List.setIfInBounds_toArray, List.set_cons_succ, List.set_cons_zero]
    refine flow_val ?_ rfl (by kernel_rfl) (by rfl) (fun W hW => ?_) ?_
    rotate_left 1
    · go_simp <;> with_reducible rfl
    simp only [Act.put, List.setIfInBounds_toArray, List.set_cons_succ, List.set_cons_zero]
    refine flow_val ?_ rfl (by kernel_rfl) (by rfl) (fun W hW => ?_) ?_
    rotate_left 1
    · go_simp <;> with_reducible rfl
    simp only [Act.put, List.setIfInBounds_toArray, List.set_cons_succ, List.set_cons_zero]
    refine flow_val ?_ rfl (by kernel_rfl) (by rfl) (fun W hW => ?_) ?_
    rotate_left 1
    · go_simp <;> with_reducible rfl
    simp only [Act.put, List.setIfInBounds_toArray, List.set_cons_succ, List.set_cons_zero]
    refine flow_val ?_ rfl (by kernel_rfl) (by rfl) (fun W hW => ?_) ?_
    rotate_left 1
    · have s2 := HSS.out ▸ run_str W A n c bs (HQ5.out.below hW.1) HBB.out; go_simp <;> with_reducible rfl
    simp only [Act.put, List.setIfInBounds_toArray, List.set_cons_succ, List.set_cons_zero]
    refine flow_new (fun v W => Bs W v bs) rfl (by kernel_rfl) (by rfl) (by kernel_rfl) (fun W hW => ⟨_, _, _, by go_simp, (pack_any w.heap.size p rs out W (HI5.out.below hW.1) HG.out).mono fun e w' ⟨v, he, hv, hb⟩ => ⟨v, he, ⟨hW.1.trans (hb.mono hW.1.size), trivial⟩, HPK.out ▸ hv⟩⟩) ?_
    rintro v58 ⟨_, _, A58, c58, rfl, _, _, _⟩
    simp only [Act.put, List.setIfInBounds_toArray, List.set_cons_succ, List.set_cons_zero]
    refine flow_val ?_ rfl (by kernel_rfl) (by rfl) (fun W hW => ?_) ?_
    rotate_left 1
    · have s1 := HSS.out ▸ run_str W A58 bs.length c58 bs hW.2.rd' HBB.out; go_simp <;> with_reducible rfl
    simp only [Act.put, List.setIfInBounds_toArray, List.set_cons_succ, List.set_cons_zero]
    refine flow_val ?_ rfl (by kernel_rfl) (by rfl) (fun W hW => ?_) ?_
    rotate_left 1
    · go_simp <;> with_reducible rfl
    simp only [Act.put, List.setIfInBounds_toArray, List.set_cons_succ, List.set_cons_zero]
    refine flow_val ?_ rfl (by kernel_rfl) (by rfl) (fun W hW => ?_) ?_
    rotate_left 1
    · go_simp <;> with_reducible rfl
    simp only [Act.put, List.setIfInBounds_toArray, List.set_cons_succ, List.set_cons_zero]
    refine flow_val ?_ rfl (by kernel_rfl) (by rfl) (fun W hW => ?_) ?_
    rotate_left 1
    · go_simp <;> with_reducible rfl
    simp only [Act.put, List.setIfInBounds_toArray, List.set_cons_succ, List.set_cons_zero]
    refine flow_val ?_ rfl (by kernel_rfl) (by rfl) (fun W hW => ?_) ?_
    rotate_left 1
    · go_simp <;> with_reducible rfl
    simp only [Act.put, List.setIfInBounds_toArray, List.set_cons_succ, List.set_cons_zero]
    refine flow_done ?_
    intro W hW
    have HB6 := Lib.hid (HB5.out.trans (hW.1.1.mono HB5.out.size))
    clear hW
    go_wp2
    go_ret
    exact ⟨by simp, HB6.out⟩
end Go.Proofs.Ytglfbihdbdcgiaa
