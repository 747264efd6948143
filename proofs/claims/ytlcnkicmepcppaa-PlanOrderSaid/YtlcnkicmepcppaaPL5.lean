/- The walk of the law PlanOrder. -/
import Derived.Test.YtlcnkicmepcppaaPSmall
import Derived.Test.YtlcnkicmepcppaaPLives
import Derived.Test.YtlcnkicmepcppaaPPlain
import Derived.Test.YtlcnkicmepcppaaFlow2
namespace Go.Proofs.Ytlcnkicmepcppaa
open Go.RowKit
theorem rot_rd {W : World} {hs : List Value} {ls : List (List It)} {k : Nat} (hl : hs.length = ls.length) (hk : k ≤ ls.length) (h : ∀ (j : Nat) (hj : j < ls.length), ∃ u, hs[j]? = some u ∧ RdI W u ls[j]) :
    ∀ (j : Nat) (hj : j < (ls.drop k ++ ls.take k).length), ∃ u, (hs.drop k ++ hs.take k)[j]? = some u ∧ RdI W u (ls.drop k ++ ls.take k)[j] := by
  intro j hj
  have hj2 : j < ls.length := by simp at hj; omega
  by_cases hjk : j < ls.length - k
  · obtain ⟨u, h1, h2⟩ := h (k + j) (by omega)
    refine ⟨u, ?_, ?_⟩
    · rw [List.getElem?_append_left (by simp; omega), List.getElem?_drop]; exact h1
    · rw [List.getElem_append_left (by simp; omega), List.getElem_drop]; exact h2
  · obtain ⟨u, h1, h2⟩ := h (j - (ls.length - k)) (by omega)
    refine ⟨u, ?_, ?_⟩
    · rw [List.getElem?_append_right (by simp; omega), List.length_drop, hl, List.getElem?_take_of_lt (by omega)]; exact h1
    · rw [List.getElem_append_right (by simp; omega), List.getElem_take]
      simp only [List.length_drop]
      exact h2
theorem splitR_left (want : List It) (offers : List (List It)) : (splitR want offers).2 = if mayP want offers then leftP want offers else [] := by
  unfold splitR
  split <;> rfl
theorem mayP_turn (want : List It) (a b : List (List It)) : mayP want (b ++ a) = mayP want (a ++ b) := by
  unfold mayP
  have e1 : (b ++ a).length = (a ++ b).length := by simp [Nat.add_comm]
  have e2 : (b ++ a).all mayI = (a ++ b).all mayI := by rw [List.all_append, List.all_append, Bool.and_comm]
  rw [e1, e2]
theorem rot_split (want : List It) (offers : List (List It)) (k : Nat) : (splitR want (offers.drop k ++ offers.take k)).2 = (splitR want offers).2 ∧ enoughR want (offers.drop k ++ offers.take k) = enoughR want offers := by
  have e : (splitR want (offers.drop k ++ offers.take k)).2 = (splitR want offers).2 := by
    rw [splitR_left, splitR_turn, List.take_append_drop, splitR_left]
  refine ⟨e, ?_⟩
  unfold enoughR
  rw [e, mayP_turn, List.take_append_drop]
set_option maxRecDepth 100000 in
set_option maxHeartbeats 1000000 in
theorem porder_any (v1 v2 : Value) (want : List It) (offers : List (List It)) (turn : Int) (w : World) (h1 : RdI w v1 want) (h2 : RdII w v2 offers) (hb1 : BdL want) (hb2 : ∀ l ∈ offers, BdL l) (hm : offers.length ≤ 4611686018427387903) :
    Calls Try.prog 7 #[v1, v2, .int .i64 turn] w fun e W => e = .returned (.bool true) ∧ Below w.heap.size w W := by
  obtain ⟨i0, hi0, hz0, hz1, hz2⟩ := info_parts Try.infoItems
  have HS := Lib.hid (psmall_any v1 v2 want offers w h1 h2)
  have H1 := Lib.hid h1
  have H2 := Lib.hid h2
  obtain ⟨A1, c1, rfl, _, _, _⟩ := h1
  obtain ⟨A2, c2, hs2, rfl, hc1, hc2, hr, hi⟩ := h2
  obtain ⟨m, hm2⟩ : ∃ m, offers.length = m := ⟨_, rfl⟩
  have HM := Lib.hid hm2
  obtain ⟨n1, hn1⟩ : ∃ n1, want.length = n1 := ⟨_, rfl⟩
  obtain ⟨SP, hSP⟩ : ∃ SP, smallP want offers = SP := ⟨_, rfl⟩
  rw [hSP] at HS
  rw [hm2] at HS H2 hm hc1 hr ⊢
  rw [hn1] at HS H1 ⊢
  clear hn1 hm2 hSP
  go_enter Try.func7, Try.ntmps7
  go_wp2_with fail
  refine HS.out.mono ?_
  rintro e w1 ⟨rfl, rfl⟩
  cases SP
  · go_wp2_with fail
    refine (plives_any w).mono ?_
    rintro e w1 ⟨rfl, hb⟩
    go_wp2
    go_ret
    exact ⟨rfl, hb⟩
  · by_cases hm1 : 1 ≤ m
    · have d1 : decide ((m : Int) < 1) = false := by simp; omega
      have hm0 : ¬ (m : Int) = 0 := by omega
      by_cases hm8 : m ≤ 8
      · have d2 : decide ((8 : Int) < (m : Int)) = false := by simp; omega
        have hmo : offers.length ≤ 4611686018427387903 := by have := HM.out; omega
        obtain ⟨g2, o2, rfl, hg2, _⟩ := hr.2 (by omega)
        have HDD : Hid (∀ k, k < m → Hid (∀ W, Below w.heap.size w W → Rd W 1 (some ⟨g2, o2 + k, none⟩) (m - k) (hs2.drop k))) := Lib.hid (fun k hk => Lib.hid (fun W hW => by
          have := (hr.below hW).drop (k := k) (by omega) (A := some ⟨g2, o2 + k, none⟩) (fun _ => by rw [Nat.mul_one])
          rwa [Nat.mul_one] at this))
        have HTT : Hid (∀ k, k < m → Hid (∀ W, Below w.heap.size w W → Rd W 1 (some ⟨g2, o2, none⟩) k (hs2.take k))) := Lib.hid (fun k hk => Lib.hid (fun W hW => by
          have := (hr.below hW).take (k := k) (by omega)
          rwa [Nat.mul_one] at this))
        have HONE : Hid (∀ u ∈ hs2, u.oneCell' = true) := Lib.hid (fun u hu => by
          obtain ⟨j, hj, rfl⟩ := List.getElem_of_mem hu
          obtain ⟨u', hu', A', c', e', _⟩ := hi j (by have := hr.1; have := HM.out; omega)
          rw [List.getElem?_eq_getElem hj] at hu'
          injection hu' with hu'
          rw [hu', e']; rfl)
        obtain ⟨r, hrm⟩ : ∃ r, turn.tmod (m : Int) = r := ⟨_, rfl⟩
        have hrb : -(m : Int) < r ∧ r < m := by rw [← hrm]; exact ⟨Int.lt_tmod_of_pos _ (by omega), Int.tmod_lt_of_pos _ (by omega)⟩
        by_cases hr0 : 0 ≤ r
        · obtain ⟨k, rfl⟩ : ∃ k : Nat, r = k := ⟨r.toNat, by omega⟩
          have hkm : k < m := by omega
          have hkc : k ≤ c2 := by omega
          have d3 : decide ((k : Int) < 0) = false := by simp
          have hkI : (k : Int) ≤ (m : Int) := by omega
          have hck : ¬ c2 = k := by omega
          have HD := HDD.out k hkm
          have HT := HTT.out k hkm
          clear hrb hr0
          go_wp2_with fail
          refine wp_region_flow (fun W => Below w.heap.size w W) [1, 2, 3, 5, 6, 7, 0, 4, 8, 9] (by kernel_rfl) (by kernel_rfl) (by kernel_rfl) ((Below.refl _ _).drew) ?_
          refine flow_val ?_ rfl (by kernel_rfl) (by rfl) (fun W hW => ?_) ?_
          rotate_left 1
          · go_simp <;> with_reducible rfl
          simp only [Act.put, List.setIfInBounds_toArray, List.set_cons_succ, List.set_cons_zero]
          refine flow_val ?_ rfl (by kernel_rfl) (by rfl) (fun W hW => ?_) ?_
          rotate_left 1
          · go_simp <;> with_reducible rfl
          simp only [Act.put, List.setIfInBounds_toArray, List.set_cons_succ, List.set_cons_zero]
          refine flow_val ?_ rfl (by kernel_rfl) (by rfl) (fun W hW => ?_) ?_
          rotate_left 1
          · go_simp <;> with_reducible rfl
          simp only [Act.put, List.setIfInBounds_toArray, List.set_cons_succ, List.set_cons_zero]
          refine flow_val ?_ rfl (by kernel_rfl) (by rfl) (fun W hW => ?_) ?_
          rotate_left 1
          · go_simp <;> with_reducible rfl
          simp only [Act.put, List.setIfInBounds_toArray, List.set_cons_succ, List.set_cons_zero]
          refine flow_val ?_ rfl (by kernel_rfl) (by rfl) (fun W hW => ?_) ?_
          rotate_left 1
          · go_simp <;> with_reducible rfl
          simp only [Act.put, List.setIfInBounds_toArray, List.set_cons_succ, List.set_cons_zero]
          refine flow_val ?_ rfl (by kernel_rfl) (by rfl) (fun W hW => ?_) ?_
          rotate_left 1
          · go_simp <;> with_reducible rfl
          simp only [Act.put, List.setIfInBounds_toArray, List.set_cons_succ, List.set_cons_zero]
          refine flow_gmake (fun v W => W.ownsRow w.heap.size 26 1 v 0 [] ∧ ∃ g, v = .slice (some ⟨g, 0, none⟩) 0 0) rfl (by kernel_rfl) (by rfl) (by kernel_rfl) (fun W hW _ => ⟨_, _, by go_simp <;> with_reducible rfl, hW.alloc hW.size _, ⟨ownI_low (own_empty (w := W) 26 1) hW.size, _, rfl⟩⟩) ?_
          rintro v36 ⟨W0, _, _, g36, rfl⟩
          simp only [Act.put, List.setIfInBounds_toArray, List.set_cons_succ, List.set_cons_zero]
          refine flow_gmake (fun v W => W.ownsRow w.heap.size 26 1 v (0 + (m - k)) ([] ++ hs2.drop k)) rfl (by kernel_rfl) (by rfl) (by kernel_rfl) (fun W hW hC => ?_) ?_
          · obtain ⟨hC, _⟩ := hC
            refine exec_append_rd (.tmp 36) (.tmp 39) 27 rfl w.heap.size 26 i0 (.slice none 0 0) 1 24 Try.underlying27 hi0 hz0 hz1 hz2 rfl (by decide) _ _ _ rfl hC (some ⟨g2, o2 + k, none⟩) (m - k) (c2 - k) (hs2.drop k) rfl (HD.out W hW.1) (fun u hu => HONE.out u (List.mem_of_mem_drop hu)) (by unfold maxLen; omega) (by omega) hW.1.size (fun v' w' x2 x3 => ?_)
            have fx : Fr w.heap.size [26] [] W w' := (Fr.refl W).grown x3 (fun j hj => by
              obtain ⟨hb, cs, hc⟩ := own_block hC hj
              exact ⟨hb, .inr ⟨cs, _, _, hc, by simp⟩⟩)
            exact ⟨⟨hW.1.trans (fx.below hW.1.size), trivial⟩, x2⟩
          rintro v40 ⟨W0, _, hv40⟩
          obtain ⟨A40, c40, rfl, _, _, _, _⟩ := own_slice hv40
          clear hv40
          simp only [Act.put, List.setIfInBounds_toArray, List.set_cons_succ, List.set_cons_zero]
          refine flow_gmake (fun v W => W.ownsRow w.heap.size 26 1 v m (hs2.drop k ++ hs2.take k)) rfl (by kernel_rfl) (by rfl) (by kernel_rfl) (fun W hW hC => ?_) ?_
          · refine exec_append_rd (.tmp 40) (.tmp 43) 27 rfl w.heap.size 26 i0 (.slice none 0 0) 1 24 Try.underlying27 hi0 hz0 hz1 hz2 rfl (by decide) _ _ _ rfl hC (some ⟨g2, o2, none⟩) k c2 (hs2.take k) rfl (HT.out W hW.1.1) (fun u hu => HONE.out u (List.mem_of_mem_take hu)) (by unfold maxLen; omega) (by omega) hW.1.1.size (fun v' w' x2 x3 => ?_)
            have fx : Fr w.heap.size [26] [] W w' := (Fr.refl W).grown x3 (fun j hj => by
              obtain ⟨hb, cs, hc⟩ := own_block hC hj
              exact ⟨hb, .inr ⟨cs, _, _, hc, by simp⟩⟩)
            exact ⟨⟨⟨hW.1.1.trans (fx.below hW.1.1.size), trivial⟩, trivial⟩, by rwa [show 0 + (m - k) + k = m by omega, List.nil_append] at x2⟩
          rintro v44 ⟨W0, _, hv44⟩
          obtain ⟨A44, c44, rfl, _, _, _, _⟩ := own_slice hv44
          clear hv44
          simp only [Act.put, List.setIfInBounds_toArray, List.set_cons_succ, List.set_cons_zero]
          refine flow_val ?_ rfl (by kernel_rfl) (by rfl) (fun W hW => ?_) ?_
          rotate_left 1
          · go_simp <;> with_reducible rfl
          simp only [Act.put, List.setIfInBounds_toArray, List.set_cons_succ, List.set_cons_zero]
          refine flow_done2 ?_
          intro W hW hC
          have hbw := hW.1.1.1
          have hrot : RdII W (.slice A44 m c44) (offers.drop k ++ offers.take k) := by
            obtain ⟨A', c', e', k1, k2, k3, _⟩ := own_slice hC
            have hlen : (offers.drop k ++ offers.take k).length = m := by have := HM.out; simp; omega
            refine ⟨A', c', _, by rw [hlen]; exact e', by rw [hlen]; exact k1, k2, by rw [hlen]; exact k3, ?_⟩
            exact rot_rd (by have := hr.1; have := HM.out; omega) (by have := HM.out; omega) (fun j hj => by obtain ⟨u, q1, q2⟩ := hi j hj; exact ⟨u, q1, q2.below hbw⟩)
          have HBW := Lib.hid hbw
          have HROT := Lib.hid hrot
          have HB3 : Hid (∀ l ∈ offers.drop k ++ offers.take k, BdL l) := Lib.hid (fun l hl => by
            rcases List.mem_append.1 hl with h | h
            · exact hb2 l (List.mem_of_mem_drop h)
            · exact hb2 l (List.mem_of_mem_take h))
          have HL3 : Hid ((offers.drop k ++ offers.take k).length ≤ 4611686018427387903) := Lib.hid (by have := HM.out; simp; omega)
          have HRS := Lib.hid (rot_split want offers k)
          obtain ⟨rot, hrt⟩ : ∃ rot, offers.drop k ++ offers.take k = rot := ⟨_, rfl⟩
          rw [hrt] at HROT HB3 HL3 HRS
          obtain ⟨L, hL⟩ : ∃ L, (splitR want offers).2 = L := ⟨_, rfl⟩
          obtain ⟨EE, hEE⟩ : ∃ EE, enoughR want offers = EE := ⟨_, rfl⟩
          rw [hL, hEE] at HRS
          have HLL := Lib.hid hL
          have HEE := Lib.hid hEE
          clear hbw hrot hW hC hrt hL hEE
          go_wp2_with fail
          refine (psplit_any _ _ want offers W (H1.out.below HBW.out) (H2.out.below HBW.out) hb1 hb2 hmo).mono ?_
          rintro e w2 ⟨u1, u2, rfl, h1, hl, hb⟩
          rw [HLL.out] at hl
          obtain ⟨Al, cl, rfl, hrl⟩ := hl.bd
          obtain ⟨Au, cu, _, rfl, _⟩ := h1
          have HRL := Lib.hid hrl
          have HBL : Hid (L.length ≤ 4611686018427387903) := Lib.hid (by rw [← HLL.out, splitR_left]; split; · rename_i hc; unfold mayP at hc; simp only [Bool.and_eq_true] at hc; have := (mayI_at (leftP_may hc.1.1 (fun o ho => List.all_eq_true.1 hc.2 o ho))).1; omega
                                                                         · simp)
          obtain ⟨nl, hnl⟩ : ∃ nl, L.length = nl := ⟨_, rfl⟩
          have HNL := Lib.hid hnl
          have HB2 := Lib.hid (HBW.out.trans (hb.mono HBW.out.size))
          rw [hnl]
          have HRO26 := Lib.hid (HROT.out.below hb)
          clear hl hrl hb hnl
          go_wp2_with fail
          refine (psplit_any _ _ want rot w2 (H1.out.below HB2.out) HRO26.out hb1 HB3.out HL3.out).mono ?_
          rintro e w3 ⟨u3, u4, rfl, h1, hl, hb⟩
          rw [HRS.out.1] at hl
          obtain ⟨Am, cm, rfl, hrl⟩ := hl.bd
          obtain ⟨Au3, cu3, _, rfl, _⟩ := h1
          have HRM := Lib.hid hrl
          have HRL3 := Lib.hid (HRL.out.below hb)
          have HROT3 := Lib.hid (HRO26.out.below hb)
          have HB33 := Lib.hid (HB2.out.trans (hb.mono HB2.out.size))
          rw [HNL.out]
          clear hl hrl hb
          go_wp2_with fail
          refine (plives_any w3).mono ?_
          rintro e w4 ⟨rfl, hb⟩
          have HRM4 := Lib.hid (HRM.out.below hb)
          have HRL4 := Lib.hid (HRL3.out.below hb)
          have HROT4 := Lib.hid (HROT3.out.below hb)
          have HB4 := Lib.hid (HB33.out.trans (hb.mono HB33.out.size))
          have HSM := Lib.hid (xsame_any Al cl Am cm L w4 HRL4.out HRM4.out HBL.out)
          rw [HNL.out] at HSM
          clear hb
          go_wp2_with fail
          refine HSM.out.mono ?_
          rintro e w5 ⟨rfl, hb⟩
          have HROT5 := Lib.hid (HROT4.out.below hb)
          have HB5 := Lib.hid (HB4.out.trans (hb.mono HB4.out.size))
          clear hb
          go_wp2_with fail
          refine (pen_any _ _ want offers w5 (H1.out.below HB5.out) (H2.out.below HB5.out) hb1 hb2 hmo).mono ?_
          rintro e w6 ⟨rfl, hb⟩
          have HROT6 := Lib.hid (HROT5.out.below hb)
          have HB6 := Lib.hid (HB5.out.trans (hb.mono HB5.out.size))
          rw [HEE.out]
          clear hb
          go_wp2_with fail
          refine (pen_any _ _ want rot w6 (H1.out.below HB6.out) HROT6.out hb1 HB3.out HL3.out).mono ?_
          rintro e w7 ⟨rfl, hb⟩
          have HB7 := Lib.hid (HB6.out.trans (hb.mono HB6.out.size))
          rw [HRS.out.2]
          clear hb
          go_wp2
          go_ret
          exact ⟨by simp, HB7.out⟩
        · obtain ⟨k, hk⟩ : ∃ k : Nat, -r = k := ⟨(-r).toNat, by omega⟩
          have hkm : k < m := by omega
          have hkc : k ≤ c2 := by omega
          have d3 : decide (r < 0) = true := by simp; omega
          have hw64 : wrap64 (-r) = (k : Int) := by rw [hk]; unfold wrap64; omega
          have hkI : (k : Int) ≤ (m : Int) := by omega
          have hck : ¬ c2 = k := by omega
          have HD := HDD.out k hkm
          have HT := HTT.out k hkm
          clear hrb hr0 hk
          go_wp2_with fail
          refine wp_region_flow (fun W => Below w.heap.size w W) [1, 2, 3, 5, 6, 7, 0, 4, 8, 9] (by kernel_rfl) (by kernel_rfl) (by kernel_rfl) ((Below.refl _ _).drew) ?_
          refine flow_val ?_ rfl (by kernel_rfl) (by rfl) (fun W hW => ?_) ?_
          rotate_left 1
          · go_simp <;> with_reducible rfl
          simp only [Act.put, List.setIfInBounds_toArray, List.set_cons_succ, List.set_cons_zero]
          refine flow_val ?_ rfl (by kernel_rfl) (by rfl) (fun W hW => ?_) ?_
          rotate_left 1
          · go_simp <;> with_reducible rfl
          simp only [Act.put, List.setIfInBounds_toArray, List.set_cons_succ, List.set_cons_zero]
          refine flow_val ?_ rfl (by kernel_rfl) (by rfl) (fun W hW => ?_) ?_
          rotate_left 1
          · go_simp <;> with_reducible rfl
          simp only [Act.put, List.setIfInBounds_toArray, List.set_cons_succ, List.set_cons_zero]
          refine flow_val ?_ rfl (by kernel_rfl) (by rfl) (fun W hW => ?_) ?_
          rotate_left 1
          · go_simp <;> with_reducible rfl
          simp only [Act.put, List.setIfInBounds_toArray, List.set_cons_succ, List.set_cons_zero]
          refine flow_val ?_ rfl (by kernel_rfl) (by rfl) (fun W hW => ?_) ?_
          rotate_left 1
          · go_simp <;> with_reducible rfl
          simp only [Act.put, List.setIfInBounds_toArray, List.set_cons_succ, List.set_cons_zero]
          refine flow_val ?_ rfl (by kernel_rfl) (by rfl) (fun W hW => ?_) ?_
          rotate_left 1
          · go_simp <;> with_reducible rfl
          simp only [Act.put, List.setIfInBounds_toArray, List.set_cons_succ, List.set_cons_zero]
          refine flow_gmake (fun v W => W.ownsRow w.heap.size 26 1 v 0 [] ∧ ∃ g, v = .slice (some ⟨g, 0, none⟩) 0 0) rfl (by kernel_rfl) (by rfl) (by kernel_rfl) (fun W hW _ => ⟨_, _, by go_simp <;> with_reducible rfl, hW.alloc hW.size _, ⟨ownI_low (own_empty (w := W) 26 1) hW.size, _, rfl⟩⟩) ?_
          rintro v36 ⟨W0, _, _, g36, rfl⟩
          simp only [Act.put, List.setIfInBounds_toArray, List.set_cons_succ, List.set_cons_zero]
          refine flow_gmake (fun v W => W.ownsRow w.heap.size 26 1 v (0 + (m - k)) ([] ++ hs2.drop k)) rfl (by kernel_rfl) (by rfl) (by kernel_rfl) (fun W hW hC => ?_) ?_
          · obtain ⟨hC, _⟩ := hC
            refine exec_append_rd (.tmp 36) (.tmp 39) 27 rfl w.heap.size 26 i0 (.slice none 0 0) 1 24 Try.underlying27 hi0 hz0 hz1 hz2 rfl (by decide) _ _ _ rfl hC (some ⟨g2, o2 + k, none⟩) (m - k) (c2 - k) (hs2.drop k) rfl (HD.out W hW.1) (fun u hu => HONE.out u (List.mem_of_mem_drop hu)) (by unfold maxLen; omega) (by omega) hW.1.size (fun v' w' x2 x3 => ?_)
            have fx : Fr w.heap.size [26] [] W w' := (Fr.refl W).grown x3 (fun j hj => by
              obtain ⟨hb, cs, hc⟩ := own_block hC hj
              exact ⟨hb, .inr ⟨cs, _, _, hc, by simp⟩⟩)
            exact ⟨⟨hW.1.trans (fx.below hW.1.size), trivial⟩, x2⟩
          rintro v40 ⟨W0, _, hv40⟩
          obtain ⟨A40, c40, rfl, _, _, _, _⟩ := own_slice hv40
          clear hv40
          simp only [Act.put, List.setIfInBounds_toArray, List.set_cons_succ, List.set_cons_zero]
          refine flow_gmake (fun v W => W.ownsRow w.heap.size 26 1 v m (hs2.drop k ++ hs2.take k)) rfl (by kernel_rfl) (by rfl) (by kernel_rfl) (fun W hW hC => ?_) ?_
          · refine exec_append_rd (.tmp 40) (.tmp 43) 27 rfl w.heap.size 26 i0 (.slice none 0 0) 1 24 Try.underlying27 hi0 hz0 hz1 hz2 rfl (by decide) _ _ _ rfl hC (some ⟨g2, o2, none⟩) k c2 (hs2.take k) rfl (HT.out W hW.1.1) (fun u hu => HONE.out u (List.mem_of_mem_take hu)) (by unfold maxLen; omega) (by omega) hW.1.1.size (fun v' w' x2 x3 => ?_)
            have fx : Fr w.heap.size [26] [] W w' := (Fr.refl W).grown x3 (fun j hj => by
              obtain ⟨hb, cs, hc⟩ := own_block hC hj
              exact ⟨hb, .inr ⟨cs, _, _, hc, by simp⟩⟩)
            exact ⟨⟨⟨hW.1.1.trans (fx.below hW.1.1.size), trivial⟩, trivial⟩, by rwa [show 0 + (m - k) + k = m by omega, List.nil_append] at x2⟩
          rintro v44 ⟨W0, _, hv44⟩
          obtain ⟨A44, c44, rfl, _, _, _, _⟩ := own_slice hv44
          clear hv44
          simp only [Act.put, List.setIfInBounds_toArray, List.set_cons_succ, List.set_cons_zero]
          refine flow_val ?_ rfl (by kernel_rfl) (by rfl) (fun W hW => ?_) ?_
          rotate_left 1
          · go_simp <;> with_reducible rfl
          simp only [Act.put, List.setIfInBounds_toArray, List.set_cons_succ, List.set_cons_zero]
          refine flow_done2 ?_
          intro W hW hC
          have hbw := hW.1.1.1
          have hrot : RdII W (.slice A44 m c44) (offers.drop k ++ offers.take k) := by
            obtain ⟨A', c', e', k1, k2, k3, _⟩ := own_slice hC
            have hlen : (offers.drop k ++ offers.take k).length = m := by have := HM.out; simp; omega
            refine ⟨A', c', _, by rw [hlen]; exact e', by rw [hlen]; exact k1, k2, by rw [hlen]; exact k3, ?_⟩
            exact rot_rd (by have := hr.1; have := HM.out; omega) (by have := HM.out; omega) (fun j hj => by obtain ⟨u, q1, q2⟩ := hi j hj; exact ⟨u, q1, q2.below hbw⟩)
          have HBW := Lib.hid hbw
          have HROT := Lib.hid hrot
          have HB3 : Hid (∀ l ∈ offers.drop k ++ offers.take k, BdL l) := Lib.hid (fun l hl => by
            rcases List.mem_append.1 hl with h | h
            · exact hb2 l (List.mem_of_mem_drop h)
            · exact hb2 l (List.mem_of_mem_take h))
          have HL3 : Hid ((offers.drop k ++ offers.take k).length ≤ 4611686018427387903) := Lib.hid (by have := HM.out; simp; omega)
          have HRS := Lib.hid (rot_split want offers k)
          obtain ⟨rot, hrt⟩ : ∃ rot, offers.drop k ++ offers.take k = rot := ⟨_, rfl⟩
          rw [hrt] at HROT HB3 HL3 HRS
          obtain ⟨L, hL⟩ : ∃ L, (splitR want offers).2 = L := ⟨_, rfl⟩
          obtain ⟨EE, hEE⟩ : ∃ EE, enoughR want offers = EE := ⟨_, rfl⟩
          rw [hL, hEE] at HRS
          have HLL := Lib.hid hL
          have HEE := Lib.hid hEE
          clear hbw hrot hW hC hrt hL hEE
          go_wp2_with fail
          refine (psplit_any _ _ want offers W (H1.out.below HBW.out) (H2.out.below HBW.out) hb1 hb2 hmo).mono ?_
          rintro e w2 ⟨u1, u2, rfl, h1, hl, hb⟩
          rw [HLL.out] at hl
          obtain ⟨Al, cl, rfl, hrl⟩ := hl.bd
          obtain ⟨Au, cu, _, rfl, _⟩ := h1
          have HRL := Lib.hid hrl
          have HBL : Hid (L.length ≤ 4611686018427387903) := Lib.hid (by rw [← HLL.out, splitR_left]; split; · rename_i hc; unfold mayP at hc; simp only [Bool.and_eq_true] at hc; have := (mayI_at (leftP_may hc.1.1 (fun o ho => List.all_eq_true.1 hc.2 o ho))).1; omega
                                                                         · simp)
          obtain ⟨nl, hnl⟩ : ∃ nl, L.length = nl := ⟨_, rfl⟩
          have HNL := Lib.hid hnl
          have HB2 := Lib.hid (HBW.out.trans (hb.mono HBW.out.size))
          rw [hnl]
          have HRO26 := Lib.hid (HROT.out.below hb)
          clear hl hrl hb hnl
          go_wp2_with fail
          refine (psplit_any _ _ want rot w2 (H1.out.below HB2.out) HRO26.out hb1 HB3.out HL3.out).mono ?_
          rintro e w3 ⟨u3, u4, rfl, h1, hl, hb⟩
          rw [HRS.out.1] at hl
          obtain ⟨Am, cm, rfl, hrl⟩ := hl.bd
          obtain ⟨Au3, cu3, _, rfl, _⟩ := h1
          have HRM := Lib.hid hrl
          have HRL3 := Lib.hid (HRL.out.below hb)
          have HROT3 := Lib.hid (HRO26.out.below hb)
          have HB33 := Lib.hid (HB2.out.trans (hb.mono HB2.out.size))
          rw [HNL.out]
          clear hl hrl hb
          go_wp2_with fail
          refine (plives_any w3).mono ?_
          rintro e w4 ⟨rfl, hb⟩
          have HRM4 := Lib.hid (HRM.out.below hb)
          have HRL4 := Lib.hid (HRL3.out.below hb)
          have HROT4 := Lib.hid (HROT3.out.below hb)
          have HB4 := Lib.hid (HB33.out.trans (hb.mono HB33.out.size))
          have HSM := Lib.hid (xsame_any Al cl Am cm L w4 HRL4.out HRM4.out HBL.out)
          rw [HNL.out] at HSM
          clear hb
          go_wp2_with fail
          refine HSM.out.mono ?_
          rintro e w5 ⟨rfl, hb⟩
          have HROT5 := Lib.hid (HROT4.out.below hb)
          have HB5 := Lib.hid (HB4.out.trans (hb.mono HB4.out.size))
          clear hb
          go_wp2_with fail
          refine (pen_any _ _ want offers w5 (H1.out.below HB5.out) (H2.out.below HB5.out) hb1 hb2 hmo).mono ?_
          rintro e w6 ⟨rfl, hb⟩
          have HROT6 := Lib.hid (HROT5.out.below hb)
          have HB6 := Lib.hid (HB5.out.trans (hb.mono HB5.out.size))
          rw [HEE.out]
          clear hb
          go_wp2_with fail
          refine (pen_any _ _ want rot w6 (H1.out.below HB6.out) HROT6.out hb1 HB3.out HL3.out).mono ?_
          rintro e w7 ⟨rfl, hb⟩
          have HB7 := Lib.hid (HB6.out.trans (hb.mono HB6.out.size))
          rw [HRS.out.2]
          clear hb
          go_wp2
          go_ret
          exact ⟨by simp, HB7.out⟩
      · have d2 : decide ((8 : Int) < (m : Int)) = true := by simp; omega
        go_wp2_with fail
        refine (plives_any w).mono ?_
        rintro e w1 ⟨rfl, hb⟩
        go_wp2
        go_ret
        exact ⟨rfl, hb⟩
    · have d1 : decide ((m : Int) < 1) = true := by simp; omega
      go_wp2_with fail
      refine (plives_any w).mono ?_
      rintro e w1 ⟨rfl, hb⟩
      go_wp2
      go_ret
      exact ⟨rfl, hb⟩
end Go.Proofs.Ytlcnkicmepcppaa
