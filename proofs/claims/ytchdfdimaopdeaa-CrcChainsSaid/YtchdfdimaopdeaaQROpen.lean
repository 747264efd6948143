/- The reference: the first frame; a frame. -/
import Derived.Test.YtchdfdimaopdeaaQOpen
namespace Go.Proofs.Ytchdfdimaopdeaa
open Go.RowKit

def badR : Ending := .returned (.tuple #[.slice none 0 0, .int .u64 0, .bool false])
def goodR (v : Value) (m : Nat) : Ending := .returned (.tuple #[v, .int .u64 (m : Nat), .bool true])

set_option maxRecDepth 100000 in
set_option maxHeartbeats 800000 in
theorem ropen_short (s : Int) (v : Value) (bs : List Nat) (w : World) (hv : Bs w v bs) (h16 : bs.length < 16) : Calls Try.prog 23 #[.int .u64 s, v] w fun e w' => OpenR s bs badR goodR e w' ∧ w = w' := by
  have hN : openN s bs = none := by unfold openN; rw [if_pos h16]
  obtain ⟨A, c, rfl, hl, hlc, hcm⟩ := hv.slice
  have HN := Lib.hid hN
  clear hv hN
  go_enter Try.func23, Try.ntmps23
  go_wp2
  refine bodyPost_ret (results_tmp3 rfl _ _ _) rfl ?_
  exact ⟨OpenR.none HN.out, rfl⟩

set_option maxRecDepth 100000 in
set_option maxHeartbeats 1600000 in
theorem ropen_any (s : Int) (v : Value) (bs : List Nat) (hb : ∀ b ∈ bs, b < 256) (hlen : bs.length ≤ 140737488351232) (w : World) (hv : Bs w v bs) (h16 : 16 ≤ bs.length) : Calls Try.prog 23 #[.int .u64 s, v] w fun e w' => OpenR s bs badR goodR e w' ∧ Below w.heap.size w w' := by
  obtain ⟨i0, hi0, hz0, hz1, hz2⟩ := info_parts Try.infoByte
  obtain ⟨A, c, rfl, hl, hlc, hcm⟩ := hv.slice
  have hA := hv.pos (by omega)
  obtain ⟨g, o, rfl⟩ := hA
  have HV := Lib.hid hv
  have HB := Lib.hid hb
  obtain ⟨n, hn⟩ : ∃ n, bs.length = n := ⟨_, rfl⟩
  have hL0 := loN_lt (l := bs.take 4) (fun b hx => hb b (List.mem_of_mem_take hx))
  rw [List.length_take, Nat.min_eq_left (by omega)] at hL0
  have hn1l : loN (bs.take 4) < 4294967296 := hL0
  have hL1 := loN_lt (l := (bs.drop 4).take 4) (fun b hx => hb b (List.mem_of_mem_drop (List.mem_of_mem_take hx)))
  rw [List.length_take, List.length_drop, Nat.min_eq_left (by omega)] at hL1
  have hsml : loN ((bs.drop 4).take 4) < 4294967296 := hL1
  rw [hn] at hl hlen hlc h16
  rw [hn] at HV
  simp only [hn]
  obtain ⟨R, hR1, hR2⟩ : ∃ R : Option Addr, (c = 16 → R = some ⟨g, o, none⟩) ∧ (c ≠ 16 → R = some ⟨g, o + 16, none⟩) := by
    by_cases h : c = 16
    · exact ⟨_, fun _ => rfl, fun e => absurd h e⟩
    · exact ⟨_, fun e => absurd e h, fun _ => rfl⟩
  have g4 : (4 : Int) ≤ (c : Int) := by omega
  have g8 : (8 : Int) ≤ (c : Int) := by omega
  have g16 : (16 : Int) ≤ (c : Int) := by omega
  obtain ⟨n1, hn1⟩ : ∃ n1, loN (bs.take 4) = n1 := ⟨_, rfl⟩
  obtain ⟨sm, hsm⟩ : ∃ sm, loN ((bs.drop 4).take 4) = sm := ⟨_, rfl⟩
  obtain ⟨mx, hmx⟩ : ∃ mx, loN ((bs.drop 8).take 8) = mx := ⟨_, rfl⟩
  rw [hn1] at hn1l
  rw [hsm] at hsml
  have gw3 : IntKind.u32.wrap (sm : Int) = (sm : Int) := IntWalk.u32_in _ (by omega)
  have g4' : ¬ c = 4 := by omega
  have g8' : ¬ c = 8 := by omega
  have gw1 : IntKind.i64.wrap (n1 : Int) = (n1 : Int) := IntWalk.i64_in _ (by omega)
  have gw2 : IntKind.i64.wrap ((n1 : Int) - 1) = (n1 : Int) - 1 := IntWalk.i64_in _ (by omega)
  have HN1 := Lib.hid hn1
  have HSM := Lib.hid hsm
  have HMX := Lib.hid hmx
  have HN := Lib.hid hn
  have H1 := Lib.hid hR1
  have H2 := Lib.hid hR2
  clear hv hb hn1 hsm hmx hn hR1 hR2 hL0 hL1
  go_enter Try.func23, Try.ntmps23
  go_wp2_with fail
  refine wp_region_flow (fun W => Bs W (.slice (some ⟨g, o, none⟩) n c) bs ∧ Below w.heap.size w W) [0, 1, 2, 3, 4, 5, 6, 7, 8, 9, 10, 11, 12, 13, 14] (by kernel_rfl) (by kernel_rfl) (by kernel_rfl) (⟨HV.out.below ((Below.refl _ w).drew), (Below.refl _ w).drew⟩) ?_
  refine flow_val ?_ rfl (by kernel_rfl) (by rfl) (fun W hW => ?_) ?_
  rotate_left 1
  · go_simp <;> with_reducible rfl
  simp only [Act.put, List.setIfInBounds_toArray, List.set_cons_succ, List.set_cons_zero]
  refine flow_val ?_ rfl (by kernel_rfl) (by rfl) (fun W hW => ?_) ?_
  rotate_left 1
  · go_simp <;> with_reducible rfl
  simp only [Act.put, List.setIfInBounds_toArray, List.set_cons_succ, List.set_cons_zero]
  refine flow_quiet (.int .u64 (n1 : Nat)) rfl (by kernel_rfl) (by rfl) (fun W hW => ⟨_, _, by go_simp, HN1.out ▸ low_any (.slice (some ⟨g, o, none⟩) 4 c) (bs.take 4) (fun b hb => HB.out b (List.mem_of_mem_take hb)) (by rw [List.length_take]; omega) W (hW.1.pre 4 (by omega))⟩) ?_
  simp only [Act.put, List.setIfInBounds_toArray, List.set_cons_succ, List.set_cons_zero]
  refine flow_val ?_ rfl (by kernel_rfl) (by rfl) (fun W hW => ?_) ?_
  rotate_left 1
  · go_simp <;> with_reducible rfl
  simp only [Act.put, List.setIfInBounds_toArray, List.set_cons_succ, List.set_cons_zero]
  refine flow_val ?_ rfl (by kernel_rfl) (by rfl) (fun W hW => ?_) ?_
  rotate_left 1
  · go_simp <;> with_reducible rfl
  simp only [Act.put, List.setIfInBounds_toArray, List.set_cons_succ, List.set_cons_zero]
  refine flow_val ?_ rfl (by kernel_rfl) (by rfl) (fun W hW => ?_) ?_
  rotate_left 1
  · go_simp <;> with_reducible rfl
  simp only [Act.put, List.setIfInBounds_toArray, List.set_cons_succ, List.set_cons_zero]
  refine flow_val ?_ rfl (by kernel_rfl) (by rfl) (fun W hW => ?_) ?_
  rotate_left 1
  · go_simp <;> with_reducible rfl
  simp only [Act.put, List.setIfInBounds_toArray, List.set_cons_succ, List.set_cons_zero]
  refine flow_quiet (.int .u64 (sm : Nat)) rfl (by kernel_rfl) (by rfl) (fun W hW => ⟨_, _, by go_simp, HSM.out ▸ low_any (.slice (some ⟨g, o + 4, none⟩) 4 (c - 4)) ((bs.drop 4).take 4) (fun b hb => HB.out b (List.mem_of_mem_drop (List.mem_of_mem_take hb))) (by rw [List.length_take]; omega) W (hW.1.sub 4 4 (by omega) (by omega) (by omega) (fun _ => rfl))⟩) ?_
  simp only [Act.put, List.setIfInBounds_toArray, List.set_cons_succ, List.set_cons_zero]
  refine flow_val ?_ rfl (by kernel_rfl) (by rfl) (fun W hW => ?_) ?_
  rotate_left 1
  · go_simp <;> with_reducible rfl
  simp only [Act.put, List.setIfInBounds_toArray, List.set_cons_succ, List.set_cons_zero]
  refine flow_val ?_ rfl (by kernel_rfl) (by rfl) (fun W hW => ?_) ?_
  rotate_left 1
  · go_simp <;> with_reducible rfl
  simp only [Act.put, List.setIfInBounds_toArray, List.set_cons_succ, List.set_cons_zero]
  refine flow_val ?_ rfl (by kernel_rfl) (by rfl) (fun W hW => ?_) ?_
  rotate_left 1
  · go_simp <;> with_reducible rfl
  simp only [Act.put, List.setIfInBounds_toArray, List.set_cons_succ, List.set_cons_zero]
  refine flow_quiet (.int .u64 (mx : Nat)) rfl (by kernel_rfl) (by rfl) (fun W hW => ⟨_, _, by go_simp, HMX.out ▸ low_any (.slice (some ⟨g, o + 8, none⟩) 8 (c - 8)) ((bs.drop 8).take 8) (fun b hb => HB.out b (List.mem_of_mem_drop (List.mem_of_mem_take hb))) (by rw [List.length_take]; omega) W (hW.1.sub 8 8 (by omega) (by omega) (by omega) (fun _ => rfl))⟩) ?_
  simp only [Act.put, List.setIfInBounds_toArray, List.set_cons_succ, List.set_cons_zero]
  refine flow_val ?_ rfl (by kernel_rfl) (by rfl) (fun W hW => ?_) ?_
  rotate_left 1
  · go_simp <;> with_reducible rfl
  simp only [Act.put, List.setIfInBounds_toArray, List.set_cons_succ, List.set_cons_zero]
  refine flow_val ?_ rfl (by kernel_rfl) (by rfl) (fun W hW => ?_) ?_
  rotate_left 1
  · go_simp <;> with_reducible rfl
  simp only [Act.put, List.setIfInBounds_toArray, List.set_cons_succ, List.set_cons_zero]
  refine flow_val ?_ rfl (by kernel_rfl) (by rfl) (fun W hW => ?_) ?_
  rotate_left 1
  · go_simp <;> with_reducible rfl
  simp only [Act.put, List.setIfInBounds_toArray, List.set_cons_succ, List.set_cons_zero]
  refine flow_done ?_
  rintro W1 ⟨hv1, hb1⟩
  have HV1 := Lib.hid hv1
  have HB1 := Lib.hid hb1
  clear hv1 hb1 g4 g8 g4' g8' gw1 gw2 gw3
  have hbad : n1 = 0 ∨ 65537 < n1 ∨ n < 15 + n1 → openN s bs = none := by
    intro h
    have h1 := HN1.out
    have h2 := HN.out
    unfold openN
    rw [if_neg (by omega)]
    simp only [h1]
    rw [if_pos]
    rcases h with h | h | h
    · exact .inl h
    · exact .inr (.inl h)
    · exact .inr (.inr (.inl (by omega)))
  have HBAD := Lib.hid hbad
  clear hbad HV
  cases n1 with
  | zero =>
    have HO := Lib.hid (HBAD.out (.inl rfl))
    go_wp2
    refine bodyPost_ret (results_tmp3 rfl _ _ _) rfl ?_
    exact ⟨OpenR.none HO.out, HB1.out⟩
  | succ d =>
    have ed : (((d + 1 : Nat) : Int) - 1) = (d : Int) := by omega
    rw [ed]
    by_cases h1 : 65536 < d
    · have HO := Lib.hid (HBAD.out (.inr (.inl (by omega))))
      clear ed
      go_wp2
      refine bodyPost_ret (results_tmp3 rfl _ _ _) rfl ?_
      exact ⟨OpenR.none HO.out, HB1.out⟩
    · by_cases h2 : n < 16 + d
      · have HO := Lib.hid (HBAD.out (.inr (.inr (by omega))))
        clear ed
        go_wp2
        refine bodyPost_ret (results_tmp3 rfl _ _ _) rfl ?_
        exact ⟨OpenR.none HO.out, HB1.out⟩
      · have hif : (if c = 16 then (some ⟨g, o, none⟩ : Option Addr) else some ⟨g, o + 16, none⟩) = R := by
          split
          · rename_i h
            exact (H1.out h).symm
          · rename_i h
            exact (H2.out h).symm
        obtain ⟨x, hx⟩ : ∃ x, (bs.drop 16).take d = x := ⟨_, rfl⟩
        have hvx := HV1.out.sub 16 d (A' := R) (c' := c - 16) (by omega) (by omega) (by omega) (fun h => H2.out (by omega))
        rw [hx] at hvx
        have HX := Lib.hid hvx
        have hxb : ∀ b ∈ x, b < 256 := by rw [← hx]; exact fun b hb => HB.out b (List.mem_of_mem_drop (List.mem_of_mem_take hb))
        have hxl : x.length = d := hvx.len
        have hop : onN 0 x = sm → mixN s x = mx → openN s bs = some (x, mx) := by
          intro e1 e2
          have k1 := HN1.out
          have k2 := HN.out
          have k3 := HSM.out
          have k4 := HMX.out
          unfold openN
          rw [if_neg (by omega)]
          simp only [k1, k3, k4, Nat.add_sub_cancel, hx]
          rw [if_neg]
          rintro (h | h | h | h | h)
          · omega
          · omega
          · omega
          · exact h e1
          · exact h e2
        have hno : ¬ (onN 0 x = sm ∧ mixN s x = mx) → openN s bs = none := by
          intro e
          have k1 := HN1.out
          have k2 := HN.out
          have k3 := HSM.out
          have k4 := HMX.out
          unfold openN
          rw [if_neg (by omega)]
          simp only [k1, k3, k4, Nat.add_sub_cancel, hx]
          rw [if_pos]
          by_cases e1 : onN 0 x = sm
          · exact .inr (.inr (.inr (.inr fun e2 => e ⟨e1, e2⟩)))
          · exact .inr (.inr (.inr (.inl e1)))

        have HOP := Lib.hid hop
        have HNO := Lib.hid hno
        have HXB := Lib.hid hxb
        have HXL := Lib.hid hxl
        obtain ⟨q, hq⟩ : ∃ q, onN 0 x = q := ⟨_, rfl⟩
        have hql : q < 4294967296 := by rw [← hq]; exact onN_lt 0 x
        obtain ⟨m, hm⟩ : ∃ m, mixN s x = m := ⟨_, rfl⟩
        have HQ := Lib.hid hq
        have HM := Lib.hid hm
        rw [hq, hm] at HOP HNO
        have hdc : (16 : Int) + (d : Int) ≤ (c : Int) := by omega
        have h1' : ¬ (65536 : Int) < (d : Int) := by omega
        have h2' : ¬ (n : Int) - 16 < (d : Int) := by omega
        have hd8 : d ≤ 65536 := by omega
        clear ed hx hvx hxb hxl hop hno hq hm h1 h2 HBAD
        go_wp2_with fail
        refine (ron_any 0 _ x (by omega) HXB.out W1 HX.out).mono ?_
        rintro e w2 ⟨rfl, rfl⟩
        rw [HQ.out]
        by_cases hqs : q = sm
        · have HQS := Lib.hid hqs
          have hqs' : (q : Int) = (sm : Int) := by omega
          clear hqs
          go_wp2_with fail
          refine (rmix_any s _ x HXB.out (by rw [HXL.out]; omega) W1 HX.out).mono ?_
          rintro e w3 ⟨rfl, hb3⟩
          rw [mixN_eq, HM.out]
          have HX3 := Lib.hid (HX.out.below hb3)
          have HB3 := Lib.hid (HB1.out.trans (hb3.mono HB1.out.size))
          clear hb3
          by_cases hms : m = mx
          · have HMS := Lib.hid hms
            have hms' : (m : Int) = (mx : Int) := by omega
            clear hms
            have HO0 := Lib.hid (own_of_cells w3 #[] 0 (Nat.zero_le _) rfl)
            have HE0 := Lib.hid ((HX3.out.below ((Below.refl _ w3).alloc (Nat.le_refl _) (.cells #[] 5))).rd')
            go_wp2_with (at_builtin
                         refine wpList_append_rd _ rfl (.tmp 57) (.tmp 61) 23 rfl w3.heap.size 5 i0 (.int .u8 0) 1 1 Try.underlying23 hi0 hz0 hz1 hz2 rfl (by decide) (.slice (some ⟨w3.heap.size, 0, none⟩) 0 0) 0 [] rfl HO0.out R (16 + d - 16) (c - 16) (x.map u8v) rfl (by rw [Nat.add_sub_cancel_left]; exact HE0.out) (u8_one' _) (by unfold maxLen; omega) (by omega) (by simp) ?_
                         intro v5 w5 hown5 hgrow5 _
                         have hb5 := grown_below ((Below.refl _ w3).alloc (Nat.le_refl _) (.cells #[] 5)) (by simp) HO0.out hgrow5
                         have HO5 := Lib.hid hown5
                         have HB5 := Lib.hid hb5
                         clear hown5 hgrow5 hb5)
            refine bodyPost_ret (results_tmp3 rfl _ _ _) rfl ?_
            exact ⟨OpenR.some (HOP.out HQS.out HMS.out) (own_zero HO5.out), HB3.out.trans (HB5.out.mono HB3.out.size)⟩
          · have hms' : ¬ (m : Int) = (mx : Int) := by omega
            have hms3 : ((m : Int) != (mx : Int)) = true := by simp; omega
            have HO := Lib.hid (HNO.out (fun h => hms h.2))
            clear hms
            go_wp2
            refine bodyPost_ret (results_tmp3 rfl _ _ _) rfl ?_
            exact ⟨OpenR.none HO.out, HB3.out⟩
        · have hqs' : ¬ (q : Int) = (sm : Int) := by omega
          have HO := Lib.hid (HNO.out (fun h => hqs h.1))
          clear hqs
          go_wp2
          refine bodyPost_ret (results_tmp3 rfl _ _ _) rfl ?_
          exact ⟨OpenR.none HO.out, HB1.out⟩
end Go.Proofs.Ytchdfdimaopdeaa
