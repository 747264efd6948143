/- The walk of the law BacklogPacks, and the statement. -/
import Derived.Test.YtglfbihdbdcgiaaZBP32
import Derived.Test.YtglfbihdbdcgiaaZBP12
namespace Go.Proofs.Ytglfbihdbdcgiaa
open Go.ChangeShapes Go.WideShapes Go.ChangeAt Go.RowKit

set_option maxRecDepth 100000 in
set_option maxHeartbeats 8000000 in
theorem packs_any (A : Option Addr) (len cap : Nat) (zs : List (Int × Int)) (w : World) (hr : IsPairs w A len cap zs) :
    Calls Try.prog 9 #[.slice A len cap] w fun e w' => e = .returned (.bool true) ∧ Below w.heap.size w w' := by
  have hm : len ≤ 9223372036854775807 := by have := Nat.le_trans hr.1 hr.2.1; unfold maxLen at this; omega
  have HZ := Lib.hid hr.length
  have HR := Lib.hid hr
  clear hr
  go_enter Try.func9, Try.ntmps9
  go_wp2_with fail
  refine (bnew_any _ w.heap.size (Nat.le_refl _)).mono ?_
  rintro e w1 ⟨rfl, i1, b1⟩
  go_wp2_with fail
  refine (lives_any _).mono ?_
  rintro e w2 ⟨rfl, b2⟩
  have x1 : IsX (w1.alloc (.cells #[.slice none 0 0, .int .i64 0] 43)) w.heap.size w1.heap.size [] 0 := ⟨b1.size, _, block_new _ _, rfl, .inl ⟨rfl, rfl⟩⟩
  have x2 := x1.below b2
  have i2 := (i1.below ((Below.refl _ _).alloc (Nat.le_refl _) (.cells #[.slice none 0 0, .int .i64 0] 43))).below b2
  have b3 := (b1.alloc b1.size (.cells #[.slice none 0 0, .int .i64 0] 43))
  have b4 := b3.trans (b2.mono b3.size)
  obtain ⟨q, hq⟩ : ∃ q, w1.heap.size = q := ⟨_, rfl⟩
  rw [hq] at x2
  simp only [hq]
  clear i1 b1 b2 b3 x1 hq
  go_wp2_with fail
  go_loopw [3, 5] (fun bv i wr => ∃ (k : Nat) (rs : List (Int × Bool)) (out : Int) (p : Nat), k ≤ len ∧ bv = .pointer (some ⟨p, 0, none⟩) ∧ i = .int .i64 k ∧ GoodB rs out ∧ IsB wr w.heap.size p rs out ∧ IsX wr w.heap.size q rs out ∧ Below w.heap.size w wr) (fun _ i _ => len - (intOf i).toNat)
  case atStart => exact ⟨0, [], 0, _, Nat.zero_le _, rfl, rfl, GoodB.nil, i2, x2, b4⟩
  case round =>
    obtain ⟨k, rs, out, p, hk, rfl, rfl, hg, hi, hx, hb⟩ := hrel
    have G := Lib.hid hg
    clear i2 x2 b4 hg
    by_cases hgo : k < len ∧ k < 300
    · obtain ⟨hlt, h300⟩ := hgo
      obtain ⟨g, o, rfl, hgb, hc⟩ := HR.out.at_ (by omega)
      have hzl : k < zs.length := by rw [HZ.out]; exact hlt
      obtain ⟨hc0, hc1⟩ := hc k hzl
      have hwf := bounds_i64 (HR.out.2.2.2 zs[k] (List.getElem_mem hzl)).2
      obtain ⟨K, hK⟩ : ∃ K, zs[k].1 = K := ⟨_, rfl⟩
      obtain ⟨N, hN⟩ : ∃ N, zs[k].2 = N := ⟨_, rfl⟩
      rw [hK] at hc0
      rw [hN] at hc1 hwf
      have HNB := Lib.hid hwf
      have c0 : wr.cell? ⟨g, o + k * 2, none⟩ = some (.int .i64 K) := (hb.cell (p := ⟨g, o + k * 2, none⟩) hgb).trans hc0
      have c1 : wr.cell? ⟨g, o + k * 2 + 1, none⟩ = some (.int .i64 N) := (hb.cell (p := ⟨g, o + k * 2 + 1, none⟩) hgb).trans hc1
      have ba := (Below.refl wr.heap.size wr).alloc (Nat.le_refl _) (.cells #[.int .i64 K, .int .i64 N] 28)
      have ds0 : DS w p q wr.heap.size K N rs out rs out (wr.alloc (.cells #[.int .i64 K, .int .i64 N] 28)) :=
        ⟨hi.below ba, hx.below ba, hb.trans (ba.mono hb.size), block_new _ _⟩
      have DS0 := Lib.hid ds0
      clear hc hc0 hc1 hK hN hi hx hb ba hwf ds0 hzl
      by_cases e1 : K = 1
      · subst e1
        have G1 : Hid (GoodB (pushS rs N) (out)) := Lib.hid (G.out.push HNB.out.2)
        go_wp2_with fail
        refine (DS.b DS0.out (push_any N _ _ _ _ _ DS0.out.1 G.out.good.1)).mono ?_
        rintro e w3 ⟨rfl, d3⟩
        have D3 := Lib.hid d3
        have c1 := d3.c1
        clear d3
        go_wp2_with fail
        refine (DS.x D3.out (xpush_any N _ _ _ _ _ D3.out.2.1 G.out.good.1)).mono ?_
        rintro e W4 ⟨rfl, ds⟩
        clear c1
        go_wp2_with fail
        refine (pack_any _ p (pushS rs N) (out) W4 ds.1 G1.out).mono ?_
        rintro e w5 ⟨v7, rfl, hv7, hb5⟩
        obtain ⟨A7, c7, rfl, r7⟩ := hv7.sl
        have d5 := ds.below hb5
        have D5 := Lib.hid d5
        have HR7 := Lib.hid r7
        have HUP := Lib.hid (unB_pack G1.out)
        have HPL := Lib.hid (packB_len (pushS rs N) (out))
        have HGL := Lib.hid G1.out.good.1
        have HPB := Lib.hid (packB_lt (pushS rs N) (out))
        have HXP : Hid (∀ W, Below w5.heap.size w5 W → Calls Try.prog 31 #[.pointer (some ⟨q, 0, none⟩)] W fun e w' => ∃ v, e = .returned v ∧ Bs w' v (packB (pushS rs N) (out)) ∧ Below W.heap.size W w') := Lib.hid (fun W hW => xpack_any _ q _ _ W (D5.out.2.1.below hW) G1.out)
        have HV7 := Lib.hid hv7
        obtain ⟨P, hP⟩ : ∃ P, packB (pushS rs N) (out) = P := ⟨_, rfl⟩
        rw [hP] at HR7 HPB HXP HV7
        rw [hP] at HUP HPL
        simp only [hP]
        obtain ⟨S, hS⟩ : ∃ S, strOf P = S := ⟨_, rfl⟩
        have HSS := Lib.hid hS
        obtain ⟨m, hm⟩ : ∃ m, P.length = m := ⟨_, rfl⟩
        have HM := Lib.hid hm
        simp only [hm]
        clear ds hb5 d5 r7 hv7 hP hS hm
        go_wp2_with fail
        refine wp_region_flow (fun W => Below w5.heap.size w5 W) [0, 1, 2, 3, 4, 5] (by kernel_rfl) (by kernel_rfl) (by kernel_rfl) ((Below.refl _ w5).drew) ?_
        refine flow_val ?_ rfl (by kernel_rfl) (by rfl) (fun W hW => ?_) ?_
        rotate_left 1
        · go_simp <;> with_reducible rfl
        simp only [Act.put, List.setIfInBounds_toArray, List.set_cons_succ, List.set_cons_zero]
        refine flow_val ?_ rfl (by kernel_rfl) (by rfl) (fun W hW => ?_) ?_
        rotate_left 1
        · have s1 := HSS.out ▸ run_str W A7 m c7 P (HM.out ▸ HR7.out.below hW) HPB.out; go_simp <;> with_reducible rfl
        simp only [Act.put, List.setIfInBounds_toArray, List.set_cons_succ, List.set_cons_zero]
        refine flow_val ?_ rfl (by kernel_rfl) (by rfl) (fun W hW => ?_) ?_
        rotate_left 1
        · go_simp <;> with_reducible rfl
        simp only [Act.put, List.setIfInBounds_toArray, List.set_cons_succ, List.set_cons_zero]
        refine flow_new (fun v W => Bs W v P) rfl (by kernel_rfl) (by rfl) (by kernel_rfl) (fun W hW => ⟨_, _, _, by go_simp, (HXP.out W hW).mono fun e w' ⟨v, he, hv, hb⟩ => ⟨v, he, hW.trans (hb.mono hW.size), hv⟩⟩) ?_
        rintro v82 ⟨_, _, A82, c82, rfl, _, _, _⟩
        simp only [Act.put, List.setIfInBounds_toArray, List.set_cons_succ, List.set_cons_zero]
        refine flow_val ?_ rfl (by kernel_rfl) (by rfl) (fun W hW => ?_) ?_
        rotate_left 1
        · have s2 := HSS.out ▸ run_str W A82 P.length c82 P hW.2.rd' HPB.out; go_simp <;> with_reducible rfl
        simp only [Act.put, List.setIfInBounds_toArray, List.set_cons_succ, List.set_cons_zero]
        refine flow_val ?_ rfl (by kernel_rfl) (by rfl) (fun W hW => ?_) ?_
        rotate_left 1
        · go_simp <;> with_reducible rfl
        simp only [Act.put, List.setIfInBounds_toArray, List.set_cons_succ, List.set_cons_zero]
        refine flow_done ?_
        intro W hW
        have hW0 := hW.1
        have H6 := Lib.hid hW0
        clear hW hW0
        have hv6 := HV7.out.below H6.out
        rw [HM.out] at hv6
        have HV6 := Lib.hid hv6
        have D6 := Lib.hid (D5.out.below H6.out)
        clear hv6 H6 HR7 HXP D5 HV7
        go_wp2_with fail
        refine (unpack_any (.slice A7 m c7) P W HV6.out HPB.out (by have := HPL.out; have := HGL.out; omega)).mono ?_
        rintro e w7 ⟨h7, hb7⟩
        rw [HUP.out] at h7
        obtain ⟨p', rfl, hi7⟩ := h7
        have D7 := Lib.hid (D6.out.below hb7)
        have HI7 := Lib.hid (hi7.lower D6.out.2.2.1.size)
        clear hb7 hi7 D6 HV6
        go_wp2_with fail
        refine (looks_any w.heap.size p' q (pushS rs N) (out) w7 HI7.out D7.out.2.1 G1.out.good.1 G1.out.good.inj).mono ?_
        rintro e w8 ⟨rfl, hb8⟩
        have D8 := Lib.hid (D7.out.below hb8)
        have HI8 := Lib.hid (HI7.out.below hb8)
        clear hb8 D7 HI7
        go_wp2_with fail
        go_roundw
        case rel => exact ⟨k + 1, _, _, p', hlt, rfl, by go_num, G1.out, HI8.out, D8.out.2.1, D8.out.2.2.1⟩
        case measure => simp [intOf]; omega
      · skip
        by_cases e2 : K = 2
        · subst e2
          have G1 : Hid (GoodB (dropS rs N) (dropO rs out N)) := Lib.hid (G.out.drop N)
          go_wp2_with fail
          refine (DS.b DS0.out (drop_any N _ _ _ _ _ DS0.out.1 G.out.good.1)).mono ?_
          rintro e w3 ⟨rfl, d3⟩
          have D3 := Lib.hid d3
          have c1 := d3.c1
          clear d3
          go_wp2_with fail
          refine (DS.x D3.out (xdrop_any N _ _ _ _ _ D3.out.2.1 G.out.good.1)).mono ?_
          rintro e W4 ⟨rfl, ds⟩
          clear c1
          go_wp2_with fail
          refine (pack_any _ p (dropS rs N) (dropO rs out N) W4 ds.1 G1.out).mono ?_
          rintro e w5 ⟨v7, rfl, hv7, hb5⟩
          obtain ⟨A7, c7, rfl, r7⟩ := hv7.sl
          have d5 := ds.below hb5
          have D5 := Lib.hid d5
          have HR7 := Lib.hid r7
          have HUP := Lib.hid (unB_pack G1.out)
          have HPL := Lib.hid (packB_len (dropS rs N) (dropO rs out N))
          have HGL := Lib.hid G1.out.good.1
          have HPB := Lib.hid (packB_lt (dropS rs N) (dropO rs out N))
          have HXP : Hid (∀ W, Below w5.heap.size w5 W → Calls Try.prog 31 #[.pointer (some ⟨q, 0, none⟩)] W fun e w' => ∃ v, e = .returned v ∧ Bs w' v (packB (dropS rs N) (dropO rs out N)) ∧ Below W.heap.size W w') := Lib.hid (fun W hW => xpack_any _ q _ _ W (D5.out.2.1.below hW) G1.out)
          have HV7 := Lib.hid hv7
          obtain ⟨P, hP⟩ : ∃ P, packB (dropS rs N) (dropO rs out N) = P := ⟨_, rfl⟩
          rw [hP] at HR7 HPB HXP HV7
          rw [hP] at HUP HPL
          simp only [hP]
          obtain ⟨S, hS⟩ : ∃ S, strOf P = S := ⟨_, rfl⟩
          have HSS := Lib.hid hS
          obtain ⟨m, hm⟩ : ∃ m, P.length = m := ⟨_, rfl⟩
          have HM := Lib.hid hm
          simp only [hm]
          clear ds hb5 d5 r7 hv7 hP hS hm
          go_wp2_with fail
          refine wp_region_flow (fun W => Below w5.heap.size w5 W) [0, 1, 2, 3, 4, 5] (by kernel_rfl) (by kernel_rfl) (by kernel_rfl) ((Below.refl _ w5).drew) ?_
          refine flow_val ?_ rfl (by kernel_rfl) (by rfl) (fun W hW => ?_) ?_
          rotate_left 1
          · go_simp <;> with_reducible rfl
          simp only [Act.put, List.setIfInBounds_toArray, List.set_cons_succ, List.set_cons_zero]
          refine flow_val ?_ rfl (by kernel_rfl) (by rfl) (fun W hW => ?_) ?_
          rotate_left 1
          · have s1 := HSS.out ▸ run_str W A7 m c7 P (HM.out ▸ HR7.out.below hW) HPB.out; go_simp <;> with_reducible rfl
          simp only [Act.put, List.setIfInBounds_toArray, List.set_cons_succ, List.set_cons_zero]
          refine flow_val ?_ rfl (by kernel_rfl) (by rfl) (fun W hW => ?_) ?_
          rotate_left 1
          · go_simp <;> with_reducible rfl
          simp only [Act.put, List.setIfInBounds_toArray, List.set_cons_succ, List.set_cons_zero]
          refine flow_new (fun v W => Bs W v P) rfl (by kernel_rfl) (by rfl) (by kernel_rfl) (fun W hW => ⟨_, _, _, by go_simp, (HXP.out W hW).mono fun e w' ⟨v, he, hv, hb⟩ => ⟨v, he, hW.trans (hb.mono hW.size), hv⟩⟩) ?_
          rintro v82 ⟨_, _, A82, c82, rfl, _, _, _⟩
          simp only [Act.put, List.setIfInBounds_toArray, List.set_cons_succ, List.set_cons_zero]
          refine flow_val ?_ rfl (by kernel_rfl) (by rfl) (fun W hW => ?_) ?_
          rotate_left 1
          · have s2 := HSS.out ▸ run_str W A82 P.length c82 P hW.2.rd' HPB.out; go_simp <;> with_reducible rfl
          simp only [Act.put, List.setIfInBounds_toArray, List.set_cons_succ, List.set_cons_zero]
          refine flow_val ?_ rfl (by kernel_rfl) (by rfl) (fun W hW => ?_) ?_
          rotate_left 1
          · go_simp <;> with_reducible rfl
          simp only [Act.put, List.setIfInBounds_toArray, List.set_cons_succ, List.set_cons_zero]
          refine flow_done ?_
          intro W hW
          have hW0 := hW.1
          have H6 := Lib.hid hW0
          clear hW hW0
          have hv6 := HV7.out.below H6.out
          rw [HM.out] at hv6
          have HV6 := Lib.hid hv6
          have D6 := Lib.hid (D5.out.below H6.out)
          clear hv6 H6 HR7 HXP D5 HV7
          go_wp2_with fail
          refine (unpack_any (.slice A7 m c7) P W HV6.out HPB.out (by have := HPL.out; have := HGL.out; omega)).mono ?_
          rintro e w7 ⟨h7, hb7⟩
          rw [HUP.out] at h7
          obtain ⟨p', rfl, hi7⟩ := h7
          have D7 := Lib.hid (D6.out.below hb7)
          have HI7 := Lib.hid (hi7.lower D6.out.2.2.1.size)
          clear hb7 hi7 D6 HV6
          go_wp2_with fail
          refine (looks_any w.heap.size p' q (dropS rs N) (dropO rs out N) w7 HI7.out D7.out.2.1 G1.out.good.1 G1.out.good.inj).mono ?_
          rintro e w8 ⟨rfl, hb8⟩
          have D8 := Lib.hid (D7.out.below hb8)
          have HI8 := Lib.hid (HI7.out.below hb8)
          clear hb8 D7 HI7
          go_wp2_with fail
          go_roundw
          case rel => exact ⟨k + 1, _, _, p', hlt, rfl, by go_num, G1.out, HI8.out, D8.out.2.1, D8.out.2.2.1⟩
          case measure => simp [intOf]; omega
        · skip
          by_cases e3 : K = 3
          · subst e3
            have G1 : Hid (GoodB (rs.map (newsRow out)) (out)) := Lib.hid (G.out.news)
            go_wp2_with fail
            refine (DS.b DS0.out (news_any _ _ _ _ _ DS0.out.1)).mono ?_
            rintro e w3 ⟨rfl, d3⟩
            have D3 := Lib.hid d3
            have c1 := d3.c1
            clear d3
            go_wp2_with fail
            refine (DS.x D3.out (xnews _ _ _ _ _ D3.out.2.1 G.out.good.1)).mono ?_
            rintro e W4 ⟨rfl, ds⟩
            clear c1
            go_wp2_with fail
            refine (pack_any _ p (rs.map (newsRow out)) (out) W4 ds.1 G1.out).mono ?_
            rintro e w5 ⟨v7, rfl, hv7, hb5⟩
            obtain ⟨A7, c7, rfl, r7⟩ := hv7.sl
            have d5 := ds.below hb5
            have D5 := Lib.hid d5
            have HR7 := Lib.hid r7
            have HUP := Lib.hid (unB_pack G1.out)
            have HPL := Lib.hid (packB_len (rs.map (newsRow out)) (out))
            have HGL := Lib.hid G1.out.good.1
            have HPB := Lib.hid (packB_lt (rs.map (newsRow out)) (out))
            have HXP : Hid (∀ W, Below w5.heap.size w5 W → Calls Try.prog 31 #[.pointer (some ⟨q, 0, none⟩)] W fun e w' => ∃ v, e = .returned v ∧ Bs w' v (packB (rs.map (newsRow out)) (out)) ∧ Below W.heap.size W w') := Lib.hid (fun W hW => xpack_any _ q _ _ W (D5.out.2.1.below hW) G1.out)
            have HV7 := Lib.hid hv7
            obtain ⟨P, hP⟩ : ∃ P, packB (rs.map (newsRow out)) (out) = P := ⟨_, rfl⟩
            rw [hP] at HR7 HPB HXP HV7
            rw [hP] at HUP HPL
            simp only [hP]
            obtain ⟨S, hS⟩ : ∃ S, strOf P = S := ⟨_, rfl⟩
            have HSS := Lib.hid hS
            obtain ⟨m, hm⟩ : ∃ m, P.length = m := ⟨_, rfl⟩
            have HM := Lib.hid hm
            simp only [hm]
            clear ds hb5 d5 r7 hv7 hP hS hm
            go_wp2_with fail
            refine wp_region_flow (fun W => Below w5.heap.size w5 W) [0, 1, 2, 3, 4, 5] (by kernel_rfl) (by kernel_rfl) (by kernel_rfl) ((Below.refl _ w5).drew) ?_
            refine flow_val ?_ rfl (by kernel_rfl) (by rfl) (fun W hW => ?_) ?_
            rotate_left 1
            · go_simp <;> with_reducible rfl
            simp only [Act.put, List.setIfInBounds_toArray, List.set_cons_succ, List.set_cons_zero]
            refine flow_val ?_ rfl (by kernel_rfl) (by rfl) (fun W hW => ?_) ?_
            rotate_left 1
            · have s1 := HSS.out ▸ run_str W A7 m c7 P (HM.out ▸ HR7.out.below hW) HPB.out; go_simp <;> with_reducible rfl
            simp only [Act.put, List.setIfInBounds_toArray, List.set_cons_succ, List.set_cons_zero]
            refine flow_val ?_ rfl (by kernel_rfl) (by rfl) (fun W hW => ?_) ?_
            rotate_left 1
            · go_simp <;> with_reducible rfl
            simp only [Act.put, List.setIfInBounds_toArray, List.set_cons_succ, List.set_cons_zero]
            refine flow_new (fun v W => Bs W v P) rfl (by kernel_rfl) (by rfl) (by kernel_rfl) (fun W hW => ⟨_, _, _, by go_simp, (HXP.out W hW).mono fun e w' ⟨v, he, hv, hb⟩ => ⟨v, he, hW.trans (hb.mono hW.size), hv⟩⟩) ?_
            rintro v82 ⟨_, _, A82, c82, rfl, _, _, _⟩
            simp only [Act.put, List.setIfInBounds_toArray, List.set_cons_succ, List.set_cons_zero]
            refine flow_val ?_ rfl (by kernel_rfl) (by rfl) (fun W hW => ?_) ?_
            rotate_left 1
            · have s2 := HSS.out ▸ run_str W A82 P.length c82 P hW.2.rd' HPB.out; go_simp <;> with_reducible rfl
            simp only [Act.put, List.setIfInBounds_toArray, List.set_cons_succ, List.set_cons_zero]
            refine flow_val ?_ rfl (by kernel_rfl) (by rfl) (fun W hW => ?_) ?_
            rotate_left 1
            · go_simp <;> with_reducible rfl
            simp only [Act.put, List.setIfInBounds_toArray, List.set_cons_succ, List.set_cons_zero]
            refine flow_done ?_
            intro W hW
            have hW0 := hW.1
            have H6 := Lib.hid hW0
            clear hW hW0
            have hv6 := HV7.out.below H6.out
            rw [HM.out] at hv6
            have HV6 := Lib.hid hv6
            have D6 := Lib.hid (D5.out.below H6.out)
            clear hv6 H6 HR7 HXP D5 HV7
            go_wp2_with fail
            refine (unpack_any (.slice A7 m c7) P W HV6.out HPB.out (by have := HPL.out; have := HGL.out; omega)).mono ?_
            rintro e w7 ⟨h7, hb7⟩
            rw [HUP.out] at h7
            obtain ⟨p', rfl, hi7⟩ := h7
            have D7 := Lib.hid (D6.out.below hb7)
            have HI7 := Lib.hid (hi7.lower D6.out.2.2.1.size)
            clear hb7 hi7 D6 HV6
            go_wp2_with fail
            refine (looks_any w.heap.size p' q (rs.map (newsRow out)) (out) w7 HI7.out D7.out.2.1 G1.out.good.1 G1.out.good.inj).mono ?_
            rintro e w8 ⟨rfl, hb8⟩
            have D8 := Lib.hid (D7.out.below hb8)
            have HI8 := Lib.hid (HI7.out.below hb8)
            clear hb8 D7 HI7
            go_wp2_with fail
            go_roundw
            case rel => exact ⟨k + 1, _, _, p', hlt, rfl, by go_num, G1.out, HI8.out, D8.out.2.1, D8.out.2.2.1⟩
            case measure => simp [intOf]; omega
          · skip
            by_cases e4 : K = 4
            · subst e4
              have G1 : Hid (GoodB (tryS rs out) (tryO rs out)) := Lib.hid (G.out.try)
              go_wp2_with fail
              refine (DS.b DS0.out (try_any _ _ _ _ _ DS0.out.1)).mono ?_
              rintro e w3 ⟨rfl, d3⟩
              have D3 := Lib.hid d3
              have c1 := d3.c1
              clear d3
              go_wp2_with fail
              refine (DS.x D3.out (xtry_any _ _ _ _ _ D3.out.2.1 G.out.good.1)).mono ?_
              rintro e W4 ⟨rfl, ds⟩
              clear c1
              go_wp2_with fail
              refine (pack_any _ p (tryS rs out) (tryO rs out) W4 ds.1 G1.out).mono ?_
              rintro e w5 ⟨v7, rfl, hv7, hb5⟩
              obtain ⟨A7, c7, rfl, r7⟩ := hv7.sl
              have d5 := ds.below hb5
              have D5 := Lib.hid d5
              have HR7 := Lib.hid r7
              have HUP := Lib.hid (unB_pack G1.out)
              have HPL := Lib.hid (packB_len (tryS rs out) (tryO rs out))
              have HGL := Lib.hid G1.out.good.1
              have HPB := Lib.hid (packB_lt (tryS rs out) (tryO rs out))
              have HXP : Hid (∀ W, Below w5.heap.size w5 W → Calls Try.prog 31 #[.pointer (some ⟨q, 0, none⟩)] W fun e w' => ∃ v, e = .returned v ∧ Bs w' v (packB (tryS rs out) (tryO rs out)) ∧ Below W.heap.size W w') := Lib.hid (fun W hW => xpack_any _ q _ _ W (D5.out.2.1.below hW) G1.out)
              have HV7 := Lib.hid hv7
              obtain ⟨P, hP⟩ : ∃ P, packB (tryS rs out) (tryO rs out) = P := ⟨_, rfl⟩
              rw [hP] at HR7 HPB HXP HV7
              rw [hP] at HUP HPL
              simp only [hP]
              obtain ⟨S, hS⟩ : ∃ S, strOf P = S := ⟨_, rfl⟩
              have HSS := Lib.hid hS
              obtain ⟨m, hm⟩ : ∃ m, P.length = m := ⟨_, rfl⟩
              have HM := Lib.hid hm
              simp only [hm]
              clear ds hb5 d5 r7 hv7 hP hS hm
              go_wp2_with fail
              refine wp_region_flow (fun W => Below w5.heap.size w5 W) [0, 1, 2, 3, 4, 5] (by kernel_rfl) (by kernel_rfl) (by kernel_rfl) ((Below.refl _ w5).drew) ?_
              refine flow_val ?_ rfl (by kernel_rfl) (by rfl) (fun W hW => ?_) ?_
              rotate_left 1
              · go_simp <;> with_reducible rfl
              simp only [Act.put, List.setIfInBounds_toArray, List.set_cons_succ, List.set_cons_zero]
              refine flow_val ?_ rfl (by kernel_rfl) (by rfl) (fun W hW => ?_) ?_
              rotate_left 1
              · have s1 := HSS.out ▸ run_str W A7 m c7 P (HM.out ▸ HR7.out.below hW) HPB.out; go_simp <;> with_reducible rfl
              simp only [Act.put, List.setIfInBounds_toArray, List.set_cons_succ, List.set_cons_zero]
              refine flow_val ?_ rfl (by kernel_rfl) (by rfl) (fun W hW => ?_) ?_
              rotate_left 1
              · go_simp <;> with_reducible rfl
              simp only [Act.put, List.setIfInBounds_toArray, List.set_cons_succ, List.set_cons_zero]
              refine flow_new (fun v W => Bs W v P) rfl (by kernel_rfl) (by rfl) (by kernel_rfl) (fun W hW => ⟨_, _, _, by go_simp, (HXP.out W hW).mono fun e w' ⟨v, he, hv, hb⟩ => ⟨v, he, hW.trans (hb.mono hW.size), hv⟩⟩) ?_
              rintro v82 ⟨_, _, A82, c82, rfl, _, _, _⟩
              simp only [Act.put, List.setIfInBounds_toArray, List.set_cons_succ, List.set_cons_zero]
              refine flow_val ?_ rfl (by kernel_rfl) (by rfl) (fun W hW => ?_) ?_
              rotate_left 1
              · have s2 := HSS.out ▸ run_str W A82 P.length c82 P hW.2.rd' HPB.out; go_simp <;> with_reducible rfl
              simp only [Act.put, List.setIfInBounds_toArray, List.set_cons_succ, List.set_cons_zero]
              refine flow_val ?_ rfl (by kernel_rfl) (by rfl) (fun W hW => ?_) ?_
              rotate_left 1
              · go_simp <;> with_reducible rfl
              simp only [Act.put, List.setIfInBounds_toArray, List.set_cons_succ, List.set_cons_zero]
              refine flow_done ?_
              intro W hW
              have hW0 := hW.1
              have H6 := Lib.hid hW0
              clear hW hW0
              have hv6 := HV7.out.below H6.out
              rw [HM.out] at hv6
              have HV6 := Lib.hid hv6
              have D6 := Lib.hid (D5.out.below H6.out)
              clear hv6 H6 HR7 HXP D5 HV7
              go_wp2_with fail
              refine (unpack_any (.slice A7 m c7) P W HV6.out HPB.out (by have := HPL.out; have := HGL.out; omega)).mono ?_
              rintro e w7 ⟨h7, hb7⟩
              rw [HUP.out] at h7
              obtain ⟨p', rfl, hi7⟩ := h7
              have D7 := Lib.hid (D6.out.below hb7)
              have HI7 := Lib.hid (hi7.lower D6.out.2.2.1.size)
              clear hb7 hi7 D6 HV6
              go_wp2_with fail
              refine (looks_any w.heap.size p' q (tryS rs out) (tryO rs out) w7 HI7.out D7.out.2.1 G1.out.good.1 G1.out.good.inj).mono ?_
              rintro e w8 ⟨rfl, hb8⟩
              have D8 := Lib.hid (D7.out.below hb8)
              have HI8 := Lib.hid (HI7.out.below hb8)
              clear hb8 D7 HI7
              go_wp2_with fail
              go_roundw
              case rel => exact ⟨k + 1, _, _, p', hlt, rfl, by go_num, G1.out, HI8.out, D8.out.2.1, D8.out.2.2.1⟩
              case measure => simp [intOf]; omega
            · skip
              by_cases e5 : K = 5
              · subst e5
                have G1 : Hid (GoodB (rs) (backO out N)) := Lib.hid (G.out.back N)
                go_wp2_with fail
                refine (DS.b DS0.out (back_any N _ _ _ _ _ DS0.out.1)).mono ?_
                rintro e w3 ⟨rfl, d3⟩
                have D3 := Lib.hid d3
                have c1 := d3.c1
                clear d3
                go_wp2_with fail
                refine (DS.x D3.out (xback_any N _ _ _ _ _ D3.out.2.1)).mono ?_
                rintro e W4 ⟨rfl, ds⟩
                clear c1
                go_wp2_with fail
                refine (pack_any _ p (rs) (backO out N) W4 ds.1 G1.out).mono ?_
                rintro e w5 ⟨v7, rfl, hv7, hb5⟩
                obtain ⟨A7, c7, rfl, r7⟩ := hv7.sl
                have d5 := ds.below hb5
                have D5 := Lib.hid d5
                have HR7 := Lib.hid r7
                have HUP := Lib.hid (unB_pack G1.out)
                have HPL := Lib.hid (packB_len (rs) (backO out N))
                have HGL := Lib.hid G1.out.good.1
                have HPB := Lib.hid (packB_lt (rs) (backO out N))
                have HXP : Hid (∀ W, Below w5.heap.size w5 W → Calls Try.prog 31 #[.pointer (some ⟨q, 0, none⟩)] W fun e w' => ∃ v, e = .returned v ∧ Bs w' v (packB (rs) (backO out N)) ∧ Below W.heap.size W w') := Lib.hid (fun W hW => xpack_any _ q _ _ W (D5.out.2.1.below hW) G1.out)
                have HV7 := Lib.hid hv7
                obtain ⟨P, hP⟩ : ∃ P, packB (rs) (backO out N) = P := ⟨_, rfl⟩
                rw [hP] at HR7 HPB HXP HV7
                rw [hP] at HUP HPL
                simp only [hP]
                obtain ⟨S, hS⟩ : ∃ S, strOf P = S := ⟨_, rfl⟩
                have HSS := Lib.hid hS
                obtain ⟨m, hm⟩ : ∃ m, P.length = m := ⟨_, rfl⟩
                have HM := Lib.hid hm
                simp only [hm]
                clear ds hb5 d5 r7 hv7 hP hS hm
                go_wp2_with fail
                refine wp_region_flow (fun W => Below w5.heap.size w5 W) [0, 1, 2, 3, 4, 5] (by kernel_rfl) (by kernel_rfl) (by kernel_rfl) ((Below.refl _ w5).drew) ?_
                refine flow_val ?_ rfl (by kernel_rfl) (by rfl) (fun W hW => ?_) ?_
                rotate_left 1
                · go_simp <;> with_reducible rfl
                simp only [Act.put, List.setIfInBounds_toArray, List.set_cons_succ, List.set_cons_zero]
                refine flow_val ?_ rfl (by kernel_rfl) (by rfl) (fun W hW => ?_) ?_
                rotate_left 1
                · have s1 := HSS.out ▸ run_str W A7 m c7 P (HM.out ▸ HR7.out.below hW) HPB.out; go_simp <;> with_reducible rfl
                simp only [Act.put, List.setIfInBounds_toArray, List.set_cons_succ, List.set_cons_zero]
                refine flow_val ?_ rfl (by kernel_rfl) (by rfl) (fun W hW => ?_) ?_
                rotate_left 1
                · go_simp <;> with_reducible rfl
                simp only [Act.put, List.setIfInBounds_toArray, List.set_cons_succ, List.set_cons_zero]
                refine flow_new (fun v W => Bs W v P) rfl (by kernel_rfl) (by rfl) (by kernel_rfl) (fun W hW => ⟨_, _, _, by go_simp, (HXP.out W hW).mono fun e w' ⟨v, he, hv, hb⟩ => ⟨v, he, hW.trans (hb.mono hW.size), hv⟩⟩) ?_
                rintro v82 ⟨_, _, A82, c82, rfl, _, _, _⟩
                simp only [Act.put, List.setIfInBounds_toArray, List.set_cons_succ, List.set_cons_zero]
                refine flow_val ?_ rfl (by kernel_rfl) (by rfl) (fun W hW => ?_) ?_
                rotate_left 1
                · have s2 := HSS.out ▸ run_str W A82 P.length c82 P hW.2.rd' HPB.out; go_simp <;> with_reducible rfl
                simp only [Act.put, List.setIfInBounds_toArray, List.set_cons_succ, List.set_cons_zero]
                refine flow_val ?_ rfl (by kernel_rfl) (by rfl) (fun W hW => ?_) ?_
                rotate_left 1
                · go_simp <;> with_reducible rfl
                simp only [Act.put, List.setIfInBounds_toArray, List.set_cons_succ, List.set_cons_zero]
                refine flow_done ?_
                intro W hW
                have hW0 := hW.1
                have H6 := Lib.hid hW0
                clear hW hW0
                have hv6 := HV7.out.below H6.out
                rw [HM.out] at hv6
                have HV6 := Lib.hid hv6
                have D6 := Lib.hid (D5.out.below H6.out)
                clear hv6 H6 HR7 HXP D5 HV7
                go_wp2_with fail
                refine (unpack_any (.slice A7 m c7) P W HV6.out HPB.out (by have := HPL.out; have := HGL.out; omega)).mono ?_
                rintro e w7 ⟨h7, hb7⟩
                rw [HUP.out] at h7
                obtain ⟨p', rfl, hi7⟩ := h7
                have D7 := Lib.hid (D6.out.below hb7)
                have HI7 := Lib.hid (hi7.lower D6.out.2.2.1.size)
                clear hb7 hi7 D6 HV6
                go_wp2_with fail
                refine (looks_any w.heap.size p' q (rs) (backO out N) w7 HI7.out D7.out.2.1 G1.out.good.1 G1.out.good.inj).mono ?_
                rintro e w8 ⟨rfl, hb8⟩
                have D8 := Lib.hid (D7.out.below hb8)
                have HI8 := Lib.hid (HI7.out.below hb8)
                clear hb8 D7 HI7
                go_wp2_with fail
                go_roundw
                case rel => exact ⟨k + 1, _, _, p', hlt, rfl, by go_num, G1.out, HI8.out, D8.out.2.1, D8.out.2.2.1⟩
                case measure => simp [intOf]; omega
              · skip
                have G1 : Hid (GoodB (rs) (out)) := Lib.hid G.out
                have ds := DS0.out
                obtain ⟨W4, hW4⟩ : ∃ W4, wr.alloc (.cells #[.int .i64 K, .int .i64 N] 28) = W4 := ⟨_, rfl⟩
                have HW4 := Lib.hid hW4
                rw [hW4] at ds
                clear hW4
                go_wp2_with fail
                rw [HW4.out]
                refine (pack_any _ p (rs) (out) W4 ds.1 G1.out).mono ?_
                rintro e w5 ⟨v7, rfl, hv7, hb5⟩
                obtain ⟨A7, c7, rfl, r7⟩ := hv7.sl
                have d5 := ds.below hb5
                have D5 := Lib.hid d5
                have HR7 := Lib.hid r7
                have HUP := Lib.hid (unB_pack G1.out)
                have HPL := Lib.hid (packB_len (rs) (out))
                have HGL := Lib.hid G1.out.good.1
                have HPB := Lib.hid (packB_lt (rs) (out))
                have HXP : Hid (∀ W, Below w5.heap.size w5 W → Calls Try.prog 31 #[.pointer (some ⟨q, 0, none⟩)] W fun e w' => ∃ v, e = .returned v ∧ Bs w' v (packB (rs) (out)) ∧ Below W.heap.size W w') := Lib.hid (fun W hW => xpack_any _ q _ _ W (D5.out.2.1.below hW) G1.out)
                have HV7 := Lib.hid hv7
                obtain ⟨P, hP⟩ : ∃ P, packB (rs) (out) = P := ⟨_, rfl⟩
                rw [hP] at HR7 HPB HXP HV7
                rw [hP] at HUP HPL
                simp only [hP]
                obtain ⟨S, hS⟩ : ∃ S, strOf P = S := ⟨_, rfl⟩
                have HSS := Lib.hid hS
                obtain ⟨m, hm⟩ : ∃ m, P.length = m := ⟨_, rfl⟩
                have HM := Lib.hid hm
                simp only [hm]
                clear ds hb5 d5 r7 hv7 hP hS hm
                go_wp2_with fail
                refine wp_region_flow (fun W => Below w5.heap.size w5 W) [0, 1, 2, 3, 4, 5] (by kernel_rfl) (by kernel_rfl) (by kernel_rfl) ((Below.refl _ w5).drew) ?_
                refine flow_val ?_ rfl (by kernel_rfl) (by rfl) (fun W hW => ?_) ?_
                rotate_left 1
                · go_simp <;> with_reducible rfl
                simp only [Act.put, List.setIfInBounds_toArray, List.set_cons_succ, List.set_cons_zero]
                refine flow_val ?_ rfl (by kernel_rfl) (by rfl) (fun W hW => ?_) ?_
                rotate_left 1
                · have s1 := HSS.out ▸ run_str W A7 m c7 P (HM.out ▸ HR7.out.below hW) HPB.out; go_simp <;> with_reducible rfl
                simp only [Act.put, List.setIfInBounds_toArray, List.set_cons_succ, List.set_cons_zero]
                refine flow_val ?_ rfl (by kernel_rfl) (by rfl) (fun W hW => ?_) ?_
                rotate_left 1
                · go_simp <;> with_reducible rfl
                simp only [Act.put, List.setIfInBounds_toArray, List.set_cons_succ, List.set_cons_zero]
                refine flow_new (fun v W => Bs W v P) rfl (by kernel_rfl) (by rfl) (by kernel_rfl) (fun W hW => ⟨_, _, _, by go_simp, (HXP.out W hW).mono fun e w' ⟨v, he, hv, hb⟩ => ⟨v, he, hW.trans (hb.mono hW.size), hv⟩⟩) ?_
                rintro v82 ⟨_, _, A82, c82, rfl, _, _, _⟩
                simp only [Act.put, List.setIfInBounds_toArray, List.set_cons_succ, List.set_cons_zero]
                refine flow_val ?_ rfl (by kernel_rfl) (by rfl) (fun W hW => ?_) ?_
                rotate_left 1
                · have s2 := HSS.out ▸ run_str W A82 P.length c82 P hW.2.rd' HPB.out; go_simp <;> with_reducible rfl
                simp only [Act.put, List.setIfInBounds_toArray, List.set_cons_succ, List.set_cons_zero]
                refine flow_val ?_ rfl (by kernel_rfl) (by rfl) (fun W hW => ?_) ?_
                rotate_left 1
                · go_simp <;> with_reducible rfl
                simp only [Act.put, List.setIfInBounds_toArray, List.set_cons_succ, List.set_cons_zero]
                refine flow_done ?_
                intro W hW
                have hW0 := hW.1
                have H6 := Lib.hid hW0
                clear hW hW0
                have hv6 := HV7.out.below H6.out
                rw [HM.out] at hv6
                have HV6 := Lib.hid hv6
                have D6 := Lib.hid (D5.out.below H6.out)
                clear hv6 H6 HR7 HXP D5 HV7
                go_wp2_with fail
                refine (unpack_any (.slice A7 m c7) P W HV6.out HPB.out (by have := HPL.out; have := HGL.out; omega)).mono ?_
                rintro e w7 ⟨h7, hb7⟩
                rw [HUP.out] at h7
                obtain ⟨p', rfl, hi7⟩ := h7
                have D7 := Lib.hid (D6.out.below hb7)
                have HI7 := Lib.hid (hi7.lower D6.out.2.2.1.size)
                clear hb7 hi7 D6 HV6
                go_wp2_with fail
                refine (looks_any w.heap.size p' q (rs) (out) w7 HI7.out D7.out.2.1 G1.out.good.1 G1.out.good.inj).mono ?_
                rintro e w8 ⟨rfl, hb8⟩
                have D8 := Lib.hid (D7.out.below hb8)
                have HI8 := Lib.hid (HI7.out.below hb8)
                clear hb8 D7 HI7
                go_wp2_with fail
                go_roundw
                case rel => exact ⟨k + 1, _, _, p', hlt, rfl, by go_num, G1.out, HI8.out, D8.out.2.1, D8.out.2.2.1⟩
                case measure => simp [intOf]; omega
    · rcases (by omega : k = len ∨ k < len ∧ ¬ k < 300) with h | ⟨h, h3⟩
      · subst h
        clear hgo
        go_wp2
        go_ret
        exact ⟨rfl, hb⟩
      · clear hgo
        go_wp2
        go_ret
        exact ⟨rfl, hb⟩

set_option maxRecDepth 100000 in
theorem backlogPacks_lifted (os : Os) (started : os.Started) (H : Type) (enc : TypeId × Value → H) :
    ReturnsInHanded {} Try.checked os 9 .any (Rows.backlogPacksSpec.pre6 enc Try.prog Try.f9 Rows.backlogPacksRow.domain false) (Rows.backlogPacksSpec.post enc Try.prog Try.f9 false true false false) := by
  refine returnsInHanded_of_change (C := Try.checked) own started (by kernel_rfl) Try.func9
    (ChangeSpec.witness6 (enc := enc) (C := Try.checked) false ⟨#[], #[.slice none 0 0], []⟩ 8 (by kernel_rfl) (by kernel_rfl) (by kernel_rfl) (by kernel_rfl)) ?_
  intro W base args ds gs before hval0 hW _ _
  have hval : ∀ (j : Nat) t v, Try.f9.params[j]? = some t → args[j]? = some v → Value.okWide Try.prog W .any base t v := hval0
  have hW' := hW
  obtain ⟨p, q, hA0, hV, hpq, hfz, hnd⟩ := hW
  have hA : DataW.TrodAll enc Try.prog W 0 (fun _ => true) true Try.f9.params.toList args.toList ds p := hA0
  rw [Try.params9] at hA hval
  obtain ⟨v0, vs0, d0, ds0, p0, q0, hargs, rfl, rfl, h0, r0⟩ := trodAll_cons hA
  obtain ⟨rfl, rfl, rfl⟩ := trodAll_nil r0
  obtain rfl : args = #[v0] := by cases args; simp_all
  obtain ⟨a0, len0, cap0, z0, rfl, w0⟩ := open_pairs Try.underlying22 Try.underlying28 (by kernel_rfl) rfl rfl (by kernel_rfl) (by kernel_rfl) Try.underlying3 Try.underlying3 (hval 0 22 v0 rfl rfl) h0
  obtain ⟨rfl, rfl⟩ := trodVars_none hV
  clear hA0 hval0
  refine (packs_any a0 len0 cap0 z0 W w0).mono fun e W' ⟨he, bel⟩ => ?_
  subst he
  exact ⟨_, rfl, post_true laidOut (by intro t ht; simp only [Try.params9] at ht; simp at ht; rcases ht with rfl <;> exact ⟨by kernel_rfl, of_decide_eq_true (by kernel_rfl)⟩) (by kernel_rfl) Try.underlying4 rfl rfl rfl rfl hW' bel⟩

theorem backlogPacks_holds : Rows.BacklogPacksSaid :=
  OpenClaim.holds_of_wide 9 Try.f9 rfl rfl rfl rfl rfl rfl rfl ⟨rfl, rfl, rfl, rfl, rfl⟩ rfl rfl rfl rfl rfl (by kernel_rfl) Try.func9 (by kernel_rfl)
    (of_decide_eq_true (by kernel_rfl)) (by unfold Func.isWrapper; first | (rw [if_pos (by decide +kernel)]; kernel_rfl) | (rw [if_neg (by decide +kernel)]; exact ⟨rfl, rfl⟩))
    (fun os started H enc _ => backlogPacks_lifted os started H enc)
#print axioms backlogPacks_holds

end Go.Proofs.Ytglfbihdbdcgiaa
