/- Joined: The reference's May of lists. ask.Has, the reference's Has and has, within, and what asks for a field. -/
import Derived.Test.YtpccbobomppdbaaZR7
import Derived.Test.YtpccbobomppdbaaZR4
namespace Go.Proofs.Ytpccbobomppdbaa
open Go.RowKit

set_option maxRecDepth 100000 in
set_option maxHeartbeats 2000000 in
theorem xmayI_any (A : Option Addr) (c : Nat) (l : List It) (w : World) (hr : Rd w 2 A l.length (l.flatMap encI)) (hb : ∀ z ∈ l, BdIt z) (hm : l.length ≤ 4611686018427387903) :
    Calls Try.prog 35 #[.slice A l.length c] w fun e w' => e = .returned (.bool (mayI l)) ∧ Below w.heap.size w w' := by
  obtain ⟨m, hm2⟩ : ∃ m, l.length = m := ⟨_, rfl⟩
  have HM := Lib.hid hm2
  have HRD := Lib.hid hr
  have HBD := Lib.hid hb
  rw [hm2] at hm ⊢
  clear hr hb hm2
  go_enter Try.func35, Try.ntmps35
  go_wp2_with fail
  go_loopw [3] (fun iv wr => ∃ k : Nat, k ≤ m ∧ iv = .int .i64 k ∧ (∀ j, j < k → okAt l j = true) ∧ Below w.heap.size w wr) (fun iv _ => m - (intOf iv).toNat)
  case atStart => exact ⟨0, Nat.zero_le _, rfl, fun j hj => absurd hj (by omega), Below.refl _ _⟩
  case round =>
    obtain ⟨k, hk, rfl, hall, hbw⟩ := hrel
    have HALL := Lib.hid hall
    have HBW := Lib.hid hbw
    clear hall hbw
    by_cases hlt : k < m
    · have hkl : k < l.length := by have := HM.out; omega
      obtain ⟨g, o, rfl, hg, c0, c1⟩ := rdi_at (HRD.out.below HBW.out) hkl
      have hbd := HBD.out _ (List.getElem_mem hkl)
      obtain ⟨z, hz⟩ : ∃ z, l[k] = z := ⟨_, rfl⟩
      rw [hz] at c0 c1 hbd
      have HZ : Hid (l[k] = z) := Lib.hid hz
      clear hz
      obtain ⟨gd, n⟩ := z
      obtain ⟨hx1, hx2, hx3⟩ := hbd
      simp only at c0 c1 hx1 hx2 hx3
      have hok : okAt l k = (okItem ⟨gd, n⟩ && (match k with | 0 => true | j + 1 => match l[j]? with | none => false | some x => ltS x.good gd)) := by
        unfold okAt
        rw [List.getElem?_eq_getElem hkl, HZ.out]
        cases k <;> rfl
      have HOK := Lib.hid hok
      clear hok
      have hgo := xgood_any gd
      obtain ⟨G, hG⟩ : ∃ G, goodS gd = G := ⟨_, rfl⟩
      rw [hG] at hgo
      have HGD := Lib.hid hG
      have HGO := Lib.hid hgo
      clear hG hgo
      cases G
      · have HBAD : Hid (mayI l = false) := Lib.hid (mayI_bad hkl (by rw [HOK.out]; simp [okItem, HGD.out]))
        go_wp2_with fail
        refine wp_region_flow (fun W => W = wr.drew) [0, 1, 2, 3, 4, 5, 6, 7, 8, 9, 10, 11, 12, 13, 14, 15, 16, 17, 18, 19, 20, 21, 22, 23, 24, 25, 26, 27, 28, 29, 30, 31, 32, 33, 34, 35, 36, 37, 38, 39, 40, 41] (by kernel_rfl) (by kernel_rfl) (by kernel_rfl) (rfl) ?_
        iterate 5
         refine flow_val ?_ rfl (by kernel_rfl) (by rfl) (fun W hW => ?_) ?_
         rotate_left 1
         · go_simp <;> with_reducible rfl
         simp only [puts]
        refine flow_quiet (.bool false) rfl (by kernel_rfl) (by rfl) (fun W hW => ⟨_, _, by go_simp, HGO.out W hx1⟩) ?_
        simp only [puts]
        iterate 2
         refine flow_val ?_ rfl (by kernel_rfl) (by rfl) (fun W hW => ?_) ?_
         rotate_left 1
         · go_simp <;> with_reducible rfl
         simp only [puts]
         refine flow_val ?_ rfl (by kernel_rfl) (by rfl) (fun W hW => ?_) ?_
         rotate_left 1
         · go_simp <;> with_reducible rfl
         simp only [puts]
         refine flow_off rfl (by kernel_rfl) (by rfl) ?_
         simp only [puts]
         refine flow_off rfl (by kernel_rfl) (by rfl) ?_
         simp only [puts]
         refine flow_off rfl (by kernel_rfl) (by rfl) ?_
         simp only [puts]
         refine flow_off rfl (by kernel_rfl) (by rfl) ?_
         simp only [puts]
         refine flow_off rfl (by kernel_rfl) (by rfl) ?_
         simp only [puts]
         refine flow_off rfl (by kernel_rfl) (by rfl) ?_
         simp only [puts]
        refine flow_off rfl (by kernel_rfl) (by rfl) ?_
        simp only [puts]
        iterate 2
         refine flow_val ?_ rfl (by kernel_rfl) (by rfl) (fun W hW => ?_) ?_
         rotate_left 1
         · go_simp <;> with_reducible rfl
         simp only [puts]
        iterate 16
         refine flow_off rfl (by kernel_rfl) (by rfl) ?_
         simp only [puts]
        refine flow_val ?_ rfl (by kernel_rfl) (by rfl) (fun W hW => ?_) ?_
        rotate_left 1
        · go_simp <;> with_reducible rfl
        simp only [puts]
        refine flow_done ?_
        rintro W hW
        subst hW
        go_wp2
        go_ret
        exact ⟨ret_bool HBAD.out.symm, HBW.out.drew⟩
      · by_cases h1 : 1 ≤ n
        · have hd1 : decide (n < 1) = false := by simp; omega
          cases hmc : mayC n
          · have h2 : ¬ n ≤ 1099511627776 := fun h => by rw [show mayC n = true by simp [mayC, h]; omega] at hmc; cases hmc
            have HBAD : Hid (mayI l = false) := Lib.hid (mayI_bad hkl (by rw [HOK.out]; simp [okItem, h2]))
            have HMC := Lib.hid hmc
            clear hmc
            go_wp2_with fail
            refine wp_region_flow (fun W => W = wr.drew) [0, 1, 2, 3, 4, 5, 6, 7, 8, 9, 10, 11, 12, 13, 14, 15, 16, 17, 18, 19, 20, 21, 22, 23, 24, 25, 26, 27, 28, 29, 30, 31, 32, 33, 34, 35, 36, 37, 38, 39, 40, 41] (by kernel_rfl) (by kernel_rfl) (by kernel_rfl) (rfl) ?_
            iterate 5
             refine flow_val ?_ rfl (by kernel_rfl) (by rfl) (fun W hW => ?_) ?_
             rotate_left 1
             · go_simp <;> with_reducible rfl
             simp only [puts]
            refine flow_quiet (.bool true) rfl (by kernel_rfl) (by rfl) (fun W hW => ⟨_, _, by go_simp, HGO.out W hx1⟩) ?_
            simp only [puts]
            iterate 15
             refine flow_val ?_ rfl (by kernel_rfl) (by rfl) (fun W hW => ?_) ?_
             rotate_left 1
             · go_simp <;> with_reducible rfl
             simp only [puts]
            refine flow_quiet (.bool false) rfl (by kernel_rfl) (by rfl) (fun W hW => ⟨_, _, by go_simp, HMC.out ▸ xcmay_any n W⟩) ?_
            simp only [puts]
            iterate 3
             refine flow_val ?_ rfl (by kernel_rfl) (by rfl) (fun W hW => ?_) ?_
             rotate_left 1
             · go_simp <;> with_reducible rfl
             simp only [puts]
            iterate 16
             refine flow_off rfl (by kernel_rfl) (by rfl) ?_
             simp only [puts]
            refine flow_val ?_ rfl (by kernel_rfl) (by rfl) (fun W hW => ?_) ?_
            rotate_left 1
            · go_simp <;> with_reducible rfl
            simp only [puts]
            refine flow_done ?_
            rintro W hW
            subst hW
            go_wp2
            go_ret
            exact ⟨ret_bool HBAD.out.symm, HBW.out.drew⟩
          · have hn2 : n ≤ 1099511627776 := by simp [mayC] at hmc; omega
            have hoi : okItem ⟨gd, n⟩ = true := okItem_iff.2 ⟨HGD.out, h1, hn2⟩
            have HOI := Lib.hid hoi
            have HMC := Lib.hid hmc
            clear hmc hoi
            by_cases hk0 : k = 0
            · subst hk0
              simp only [Nat.zero_mul, Nat.add_zero] at c0 c1
              have HGOOD : Hid (okAt l 0 = true) := Lib.hid (by rw [HOK.out, HOI.out]; rfl)
              go_wp2_with fail
              refine wp_region_flow (fun W => W = wr.drew) [0, 1, 2, 3, 4, 5, 6, 7, 8, 9, 10, 11, 12, 13, 14, 15, 16, 17, 18, 19, 20, 21, 22, 23, 24, 25, 26, 27, 28, 29, 30, 31, 32, 33, 34, 35, 36, 37, 38, 39, 40, 41] (by kernel_rfl) (by kernel_rfl) (by kernel_rfl) (rfl) ?_
              iterate 5
               refine flow_val ?_ rfl (by kernel_rfl) (by rfl) (fun W hW => ?_) ?_
               rotate_left 1
               · go_simp <;> with_reducible rfl
               simp only [puts]
              refine flow_quiet (.bool true) rfl (by kernel_rfl) (by rfl) (fun W hW => ⟨_, _, by go_simp, HGO.out W hx1⟩) ?_
              simp only [puts]
              iterate 15
               refine flow_val ?_ rfl (by kernel_rfl) (by rfl) (fun W hW => ?_) ?_
               rotate_left 1
               · go_simp <;> with_reducible rfl
               simp only [puts]
              refine flow_quiet (.bool true) rfl (by kernel_rfl) (by rfl) (fun W hW => ⟨_, _, by go_simp, HMC.out ▸ xcmay_any n W⟩) ?_
              simp only [puts]
              iterate 6
               refine flow_val ?_ rfl (by kernel_rfl) (by rfl) (fun W hW => ?_) ?_
               rotate_left 1
               · go_simp <;> with_reducible rfl
               simp only [puts]
              iterate 12
               refine flow_off rfl (by kernel_rfl) (by rfl) ?_
               simp only [puts]
              iterate 2
               refine flow_val ?_ rfl (by kernel_rfl) (by rfl) (fun W hW => ?_) ?_
               rotate_left 1
               · go_simp <;> with_reducible rfl
               simp only [puts]
              refine flow_done ?_
              rintro W hW
              subst hW
              go_wp2_with fail
              go_roundw
              case rel =>
                refine ⟨0 + 1, by omega, by go_num, fun i hi => ?_, HBW.out.drew⟩
                rcases Nat.lt_or_ge i (0) with h | h
                · exact HALL.out i h
                · obtain rfl : i = 0 := by omega
                  exact HGOOD.out
              case measure => simp [intOf]; omega
            · obtain ⟨j, hj⟩ : ∃ j, j + 1 = k := ⟨k - 1, by omega⟩
              have hjl : j < l.length := by omega
              obtain ⟨_, _, e1, _, p0, _⟩ := rdi_at (HRD.out.below HBW.out) hjl
              injection e1 with e1
              injection e1 with e1 e2
              subst e1; subst e2
              obtain ⟨LG, hLG⟩ : ∃ LG, l[j].good = LG := ⟨_, rfl⟩
              rw [hLG] at p0
              obtain ⟨LT, hLT⟩ : ∃ LT, ltS LG gd = LT := ⟨_, rfl⟩
              have HOK2 : Hid (okAt l k = LT) := Lib.hid (by
                rw [HOK.out, HOI.out, Bool.true_and]
                subst hj
                simp only [List.getElem?_eq_getElem hjl, hLG, hLT])
              have hlt2 : Op.bytesLess LG.toList gd.toList = LT := hLT
              have hw1 : IntKind.i64.wrap ((k : Int) - 1) = (j : Int) := by rw [show ((k : Int) - 1) = (j : Int) by omega]; exact IntWalk.i64_in _ (by omega)
              have hgt : decide ((k : Int) > 0) = true := by simp; omega
              have hgt' : decide (0 < (k : Int)) = true := by simp; omega
              have hjm : j < m := by omega
              have hgn : decide (0 < k) = true := by simp; omega
              clear hLG hLT HOK hj
              cases LT
              · have HBAD : Hid (mayI l = false) := Lib.hid (mayI_bad hkl HOK2.out)
                go_wp2_with fail
                refine wp_region_flow (fun W => W = wr.drew) [0, 1, 2, 3, 4, 5, 6, 7, 8, 9, 10, 11, 12, 13, 14, 15, 16, 17, 18, 19, 20, 21, 22, 23, 24, 25, 26, 27, 28, 29, 30, 31, 32, 33, 34, 35, 36, 37, 38, 39, 40, 41] (by kernel_rfl) (by kernel_rfl) (by kernel_rfl) (rfl) ?_
                iterate 5
                 refine flow_val ?_ rfl (by kernel_rfl) (by rfl) (fun W hW => ?_) ?_
                 rotate_left 1
                 · go_simp <;> with_reducible rfl
                 simp only [puts]
                refine flow_quiet (.bool true) rfl (by kernel_rfl) (by rfl) (fun W hW => ⟨_, _, by go_simp, HGO.out W hx1⟩) ?_
                simp only [puts]
                iterate 15
                 refine flow_val ?_ rfl (by kernel_rfl) (by rfl) (fun W hW => ?_) ?_
                 rotate_left 1
                 · go_simp <;> with_reducible rfl
                 simp only [puts]
                refine flow_quiet (.bool true) rfl (by kernel_rfl) (by rfl) (fun W hW => ⟨_, _, by go_simp, HMC.out ▸ xcmay_any n W⟩) ?_
                simp only [puts]
                iterate 20
                 refine flow_val ?_ rfl (by kernel_rfl) (by rfl) (fun W hW => ?_) ?_
                 rotate_left 1
                 · go_simp <;> with_reducible rfl
                 simp only [puts]
                refine flow_done ?_
                rintro W hW
                subst hW
                go_wp2
                go_ret
                exact ⟨ret_bool HBAD.out.symm, HBW.out.drew⟩
              · have HGOOD : Hid (okAt l k = true) := HOK2
                go_wp2_with fail
                refine wp_region_flow (fun W => W = wr.drew) [0, 1, 2, 3, 4, 5, 6, 7, 8, 9, 10, 11, 12, 13, 14, 15, 16, 17, 18, 19, 20, 21, 22, 23, 24, 25, 26, 27, 28, 29, 30, 31, 32, 33, 34, 35, 36, 37, 38, 39, 40, 41] (by kernel_rfl) (by kernel_rfl) (by kernel_rfl) (rfl) ?_
                iterate 5
                 refine flow_val ?_ rfl (by kernel_rfl) (by rfl) (fun W hW => ?_) ?_
                 rotate_left 1
                 · go_simp <;> with_reducible rfl
                 simp only [puts]
                refine flow_quiet (.bool true) rfl (by kernel_rfl) (by rfl) (fun W hW => ⟨_, _, by go_simp, HGO.out W hx1⟩) ?_
                simp only [puts]
                iterate 15
                 refine flow_val ?_ rfl (by kernel_rfl) (by rfl) (fun W hW => ?_) ?_
                 rotate_left 1
                 · go_simp <;> with_reducible rfl
                 simp only [puts]
                refine flow_quiet (.bool true) rfl (by kernel_rfl) (by rfl) (fun W hW => ⟨_, _, by go_simp, HMC.out ▸ xcmay_any n W⟩) ?_
                simp only [puts]
                iterate 20
                 refine flow_val ?_ rfl (by kernel_rfl) (by rfl) (fun W hW => ?_) ?_
                 rotate_left 1
                 · go_simp <;> with_reducible rfl
                 simp only [puts]
                refine flow_done ?_
                rintro W hW
                subst hW
                go_wp2_with fail
                go_roundw
                case rel =>
                  refine ⟨k + 1, by omega, by go_num, fun i hi => ?_, HBW.out.drew⟩
                  rcases Nat.lt_or_ge i (k) with h | h
                  · exact HALL.out i h
                  · obtain rfl : i = k := by omega
                    exact HGOOD.out
                case measure => simp [intOf]; omega
        · have hd1 : decide (n < 1) = true := by simp; omega
          have HBAD : Hid (mayI l = false) := Lib.hid (mayI_bad hkl (by rw [HOK.out]; simp [okItem, h1]))
          go_wp2_with fail
          refine wp_region_flow (fun W => W = wr.drew) [0, 1, 2, 3, 4, 5, 6, 7, 8, 9, 10, 11, 12, 13, 14, 15, 16, 17, 18, 19, 20, 21, 22, 23, 24, 25, 26, 27, 28, 29, 30, 31, 32, 33, 34, 35, 36, 37, 38, 39, 40, 41] (by kernel_rfl) (by kernel_rfl) (by kernel_rfl) (rfl) ?_
          iterate 5
           refine flow_val ?_ rfl (by kernel_rfl) (by rfl) (fun W hW => ?_) ?_
           rotate_left 1
           · go_simp <;> with_reducible rfl
           simp only [puts]
          refine flow_quiet (.bool true) rfl (by kernel_rfl) (by rfl) (fun W hW => ⟨_, _, by go_simp, HGO.out W hx1⟩) ?_
          simp only [puts]
          iterate 10
           refine flow_val ?_ rfl (by kernel_rfl) (by rfl) (fun W hW => ?_) ?_
           rotate_left 1
           · go_simp <;> with_reducible rfl
           simp only [puts]
          iterate 7
           refine flow_off rfl (by kernel_rfl) (by rfl) ?_
           simp only [puts]
          iterate 2
           refine flow_val ?_ rfl (by kernel_rfl) (by rfl) (fun W hW => ?_) ?_
           rotate_left 1
           · go_simp <;> with_reducible rfl
           simp only [puts]
          iterate 16
           refine flow_off rfl (by kernel_rfl) (by rfl) ?_
           simp only [puts]
          refine flow_val ?_ rfl (by kernel_rfl) (by rfl) (fun W hW => ?_) ?_
          rotate_left 1
          · go_simp <;> with_reducible rfl
          simp only [puts]
          refine flow_done ?_
          rintro W hW
          subst hW
          go_wp2
          go_ret
          exact ⟨ret_bool HBAD.out.symm, HBW.out.drew⟩
    · have hmay : mayI l = decide ((m : Int) ≤ 16) := by
        rw [mayI_all (fun j hj => HALL.out j (by have := HM.out; omega)), HM.out]
        exact decide_eq_decide.2 (by omega)
      have HMAY := Lib.hid hmay
      clear hmay
      go_wp2
      go_ret
      exact ⟨ret_bool HMAY.out.symm, HBW.out⟩
end Go.Proofs.Ytpccbobomppdbaa

namespace Go.Proofs.Ytpccbobomppdbaa
open Go.RowKit

/-- The fields of a kind, as a text. -/
def hasA (k : Int) : ByteArray := strOf (fldA k)
theorem fldA_cases (k : Int) : fldA k ∈ [[110, 105], [111], [111, 114, 105], [114, 105], [114, 110, 103], [114, 116, 105], [110], []] := by
  unfold fldA
  repeat' split
  all_goals decide
theorem fldA_of {k : Int} (h : k < 1 ∨ 11 < k) : fldA k = [] := by
  unfold fldA
  repeat' split
  all_goals first | omega | rfl
theorem hasA_of {k : Int} (h : k < 1 ∨ 11 < k) : hasA k = ByteArray.empty := by
  unfold hasA
  rw [fldA_of h]
  rfl
theorem idx_has (k : Int) (c : Nat) (hc : c ∈ [111, 114, 116, 103, 105]) : decide (0 ≤ Lib.indexByte (hasA k).data.toList (UInt8.ofNat c)) = hasF k c := by
  unfold hasA hasF
  have key : ∀ l ∈ [[110, 105], [111], [111, 114, 105], [114, 105], [114, 110, 103], [114, 116, 105], [110], []], ∀ c ∈ [111, 114, 116, 103, 105], decide (0 ≤ Lib.indexByte (strOf l).data.toList (UInt8.ofNat c)) = l.contains c := by decide +kernel
  exact key _ (fldA_cases k) c hc
set_option maxRecDepth 100000 in
theorem has_any (k : Int) (w : World) : Calls Try.prog 60 #[.int .i64 k] w fun e W => e = .returned (.string (hasA k)) ∧ w = W := by
  by_cases hr : 1 ≤ k ∧ k ≤ 11
  · have hk : k = 1 ∨ k = 2 ∨ k = 3 ∨ k = 4 ∨ k = 5 ∨ k = 6 ∨ k = 7 ∨ k = 8 ∨ k = 9 ∨ k = 10 ∨ k = 11 := by omega
    clear hr
    go_enter Try.func60, Try.ntmps60
    rcases hk with rfl | rfl | rfl | rfl | rfl | rfl | rfl | rfl | rfl | rfl | rfl
    all_goals
      go_wp2
      go_ret
      exact ⟨rfl, rfl⟩
  · have he : hasA k = ByteArray.empty := hasA_of (by omega)
    rw [he]
    have e1 : (k == 1) = false := by simp; omega
    have e2 : (k == 2) = false := by simp; omega
    have e3 : (k == 3) = false := by simp; omega
    have e4 : (k == 4) = false := by simp; omega
    have e5 : (k == 5) = false := by simp; omega
    have e6 : (k == 6) = false := by simp; omega
    have e7 : (k == 7) = false := by simp; omega
    have e8 : (k == 8) = false := by simp; omega
    have e9 : (k == 9) = false := by simp; omega
    have e10 : (k == 10) = false := by simp; omega
    have e11 : (k == 11) = false := by simp; omega
    clear he hr
    go_enter Try.func60, Try.ntmps60
    go_wp2
    go_ret
    exact ⟨rfl, rfl⟩
set_option maxRecDepth 100000 in
set_option maxHeartbeats 8000000 in
theorem xhas_any (k : Int) (w : World) : Calls Try.prog 67 #[.int .i64 k] w fun e W => e = .returned (.string (hasA k)) ∧ Below w.heap.size w W := by
  by_cases hr : 0 ≤ k ∧ k ≤ 11
  · have hk : k = 0 ∨ k = 1 ∨ k = 2 ∨ k = 3 ∨ k = 4 ∨ k = 5 ∨ k = 6 ∨ k = 7 ∨ k = 8 ∨ k = 9 ∨ k = 10 ∨ k = 11 := by omega
    clear hr
    go_enter Try.func67, Try.ntmps67
    rcases hk with rfl | rfl | rfl | rfl | rfl | rfl | rfl | rfl | rfl | rfl | rfl | rfl
    all_goals
      go_wp2
      go_ret
      exact ⟨rfl, (Below.refl _ w).alloc (Nat.le_refl _) _⟩
  · have he : hasA k = ByteArray.empty := hasA_of (by omega)
    rw [he]
    clear he
    by_cases h0 : k < 0
    · go_enter Try.func67, Try.ntmps67
      go_wp2
      go_ret
      exact ⟨rfl, (Below.refl _ w).alloc (Nat.le_refl _) _⟩
    · have h1 : 12 ≤ k := by omega
      clear hr
      go_enter Try.func67, Try.ntmps67
      go_wp2
      go_ret
      exact ⟨rfl, (Below.refl _ w).alloc (Nat.le_refl _) _⟩
theorem has_at {l : List Nat} {j : Nat} (hj : j < (strOf l).size) (h : ∀ x ∈ l, x < 256) : ∃ h2 : j < l.length, ((strOf l)[j]'hj).toNat = l[j] := by
  have hl := strOf_size' l
  refine ⟨by omega, ?_⟩
  have e : (strOf l)[j]'hj = UInt8.ofNat (l[j]'(by omega)) := by
    have h1 : ((strOf l).data.toList)[j]? = some (UInt8.ofNat (l[j]'(by omega))) := by
      unfold strOf
      rw [List.toList_toArray, List.getElem?_map, List.getElem?_eq_getElem (by omega)]
      rfl
    have h2 : ((strOf l).data.toList)[j]? = some ((strOf l)[j]'hj) := by
      rw [Array.getElem?_toList]
      exact Array.getElem?_eq_getElem hj
    rw [h2] at h1
    injection h1
  rw [e]
  have := h (l[j]'(by omega)) (List.getElem_mem _)
  simp [Nat.mod_eq_of_lt this]
theorem fldA_lt (k : Int) : ∀ x ∈ fldA k, x < 256 := by
  have key : ∀ l ∈ [[110, 105], [111], [111, 114, 105], [114, 105], [114, 110, 103], [114, 116, 105], [110], []], ∀ x ∈ l, x < 256 := by decide
  exact key _ (fldA_cases k)
set_option maxRecDepth 100000 in
theorem xhasf_any (k : Int) (c : Nat) (w : World) : Calls Try.prog 68 #[.int .i64 k, .int .u8 c] w fun e W => e = .returned (.bool (hasF k c)) ∧ Below w.heap.size w W := by
  have hlt := fldA_lt k
  have HC := Lib.hid (xhas_any k w)
  obtain ⟨l, hl⟩ : ∃ l, fldA k = l := ⟨_, rfl⟩
  have HH : Hid (hasF k c = l.contains c) := Lib.hid (by unfold hasF; rw [hl])
  have hs : hasA k = strOf l := by unfold hasA; rw [hl]
  rw [hs] at HC
  rw [hl] at hlt
  have HLT := Lib.hid hlt
  have hsz := strOf_size' l
  have hl3 : l.length ≤ 3 := by
    have key : ∀ l ∈ [[110, 105], [111], [111, 114, 105], [114, 105], [114, 110, 103], [114, 116, 105], [110], []], l.length ≤ 3 := by decide
    rw [← hl]
    exact key _ (fldA_cases k)
  obtain ⟨s, hse⟩ : ∃ s, strOf l = s := ⟨_, rfl⟩
  have HAT : Hid (∀ (j : Nat) (hj : j < s.size), ∃ h2 : j < l.length, (s[j]'hj).toNat = l[j]) := Lib.hid (by rw [← hse]; exact fun j hj => has_at hj hlt)
  rw [hse] at HC hsz
  have hs3 : s.size ≤ 3 := by omega
  have HSZ := Lib.hid hsz
  clear hlt hs hl hse hsz hl3
  go_enter Try.func68, Try.ntmps68
  go_wp2_with fail
  refine HC.out.mono ?_
  rintro e w1 ⟨rfl, hb⟩
  have HB := Lib.hid hb
  clear hb HC
  go_wp2_with fail
  go_loop [6] (fun i => ∃ j : Nat, j ≤ s.size ∧ i = .int .i64 j ∧ ∀ i (hi : i < l.length), i < j → l[i] ≠ c) (fun i => s.size - (intOf i).toNat)
  case atStart => exact ⟨0, Nat.zero_le _, rfl, fun j _ h => absurd h (by omega)⟩
  case round =>
    obtain ⟨j, hj, rfl, hq⟩ := hrel
    have HQ := Lib.hid hq
    clear hq
    by_cases hlt : j < s.size
    · obtain ⟨hjl, hat⟩ := HAT.out j hlt
      obtain ⟨x, hx⟩ : ∃ x, s[j]'hlt = x := ⟨_, rfl⟩
      rw [hx] at hat
      have HX := Lib.hid hat
      clear hat
      by_cases hxc : x.toNat = c
      · have hxb : ((x.toNat : Int) == (c : Int)) = true := by simp; omega
        have HT : Hid (hasF k c = true) := Lib.hid (by rw [HH.out, List.contains_iff_mem, ← hxc, HX.out]; exact List.getElem_mem _)
        clear hxc
        go_wp2
        go_ret
        exact ⟨ret_bool HT.out.symm, HB.out⟩
      · have hxb : ((x.toNat : Int) == (c : Int)) = false := by simp; omega
        have HN : Hid (l[j] ≠ c) := Lib.hid (by rw [← HX.out]; exact hxc)
        clear hxc
        go_wp2
        go_round
        case rel =>
          refine ⟨j + 1, by omega, by go_num, fun i hi hij => ?_⟩
          rcases Nat.lt_or_ge i j with h | h
          · exact HQ.out i hi h
          · obtain rfl : i = j := by omega
            exact HN.out
        case measure => simp [intOf]; omega
    · have HF : Hid (hasF k c = false) := Lib.hid (by
        rw [HH.out]
        cases h : l.contains c with
        | false => rfl
        | true =>
          rw [List.contains_iff_mem] at h
          obtain ⟨i, hi, e⟩ := List.getElem_of_mem h
          exact absurd e (HQ.out i hi (by have := HSZ.out; omega)))
      go_wp2
      go_ret
      exact ⟨ret_bool HF.out.symm, HB.out⟩
theorem inB_lo {n a b : Int} (h : n < a) : inB n a b = false := by unfold inB; rw [decide_eq_false (show ¬ a ≤ n by omega)]; rfl
theorem inB_hi {n a b : Int} (h : b < n) : inB n a b = false := by unfold inB; rw [decide_eq_false (show ¬ n ≤ b by omega), Bool.and_false]
theorem inB_in {n a b : Int} (h1 : a ≤ n) (h2 : n ≤ b) : inB n a b = true := inB_iff.2 ⟨h1, h2⟩
theorem inB_lo2 {n a b : Int} (h : a ≤ n) : inB n a b = decide (n ≤ b) := by unfold inB; rw [decide_eq_true h, Bool.true_and]
theorem within_any (n a b : Int) (w : World) : Calls Try.prog 63 #[.int .i64 n, .int .i64 a, .int .i64 b] w fun e W => e = .returned (.bool (inB n a b)) ∧ w = W := by
  go_enter Try.func63, Try.ntmps63
  by_cases h1 : a ≤ n
  · go_wp2
    go_ret
    exact ⟨ret_bool (inB_lo2 h1).symm, rfl⟩
  · go_wp2
    go_ret
    exact ⟨ret_bool (inB_lo h1).symm, rfl⟩
theorem isreg_any (n : Int) (w : World) : Calls Try.prog 62 #[.int .i64 n] w fun e W => e = .returned (.bool (inB n 0 7)) ∧ w = W := by
  go_enter Try.func62, Try.ntmps62
  go_wp2_with fail
  refine (within_any n 0 7 w).mono ?_
  rintro e w1 ⟨rfl, rfl⟩
  go_wp2
  go_ret
  exact ⟨rfl, rfl⟩
theorem xmay9_any (c n : Int) (w : World) : Calls Try.prog 37 #[.int .i64 c, .int .i64 n] w fun e W => e = .returned (.bool (inB c 0 63 && inB n 1 4294967296)) ∧ w = W := by
  go_enter Try.func37, Try.ntmps37
  by_cases h1 : 0 ≤ c
  · by_cases h2 : c < 64
    · by_cases h3 : 1 ≤ n
      · go_wp2
        go_ret
        exact ⟨ret_bool (by rw [inB_in h1 (by omega), inB_lo2 h3]; rfl), rfl⟩
      · go_wp2
        go_ret
        exact ⟨ret_bool (by rw [inB_lo (n := n) h3, Bool.and_false]), rfl⟩
    · go_wp2
      go_ret
      exact ⟨ret_bool (by rw [inB_hi (n := c) (by omega)]; rfl), rfl⟩
  · go_wp2
    go_ret
    exact ⟨ret_bool (by rw [inB_lo (n := c) h1]; rfl), rfl⟩
/-- Asking for a field: what may be there, or what is empty. -/
theorem right_any (k : Int) (p : Nat) (c : Nat) (hc : c ∈ [111, 114, 116, 103, 105]) (x y : Bool) (w : World) (hp : w.cell? ⟨p, 0, none⟩ = some (.string (hasA k))) :
    Calls Try.prog 61 #[.string ⟨#[UInt8.ofNat c]⟩, .bool x, .bool y, .pointer (some ⟨p, 0, none⟩)] w fun e W => e = .returned (.bool (rightB k c x y)) ∧ w = W := by
  have H := Lib.hid (Try.strings_Contains_one (hasA k) (UInt8.ofNat c) w)
  rw [idx_has k c hc] at H
  obtain ⟨T, hT⟩ : ∃ T, hasF k c = T := ⟨_, rfl⟩
  have HT := Lib.hid hT
  rw [hT] at H
  clear hT hc
  go_enter Try.func61, Try.ntmps61
  go_wp2_with fail
  refine H.out.mono ?_
  rintro e w1 ⟨rfl, rfl⟩
  cases T
  · go_wp2
    go_ret
    exact ⟨ret_bool (by unfold rightB; rw [HT.out]; rfl), rfl⟩
  · go_wp2
    go_ret
    exact ⟨ret_bool (by unfold rightB; rw [HT.out]; rfl), rfl⟩
end Go.Proofs.Ytpccbobomppdbaa
