/- The reference's May of lists. -/
import Derived.Test.YtjgdcdojigcefaaZAR6
namespace Go.Proofs.Ytjgdcdojigcefaa
open Go.RowKit

set_option maxRecDepth 100000 in
set_option maxHeartbeats 2000000 in
theorem xmayI_any (A : Option Addr) (c : Nat) (l : List It) (w : World) (hr : Rd w 2 A l.length (l.flatMap encI)) (hb : ∀ z ∈ l, BdIt z) (hm : l.length ≤ 4611686018427387903) :
    Calls Try.prog 39 #[.slice A l.length c] w fun e w' => e = .returned (.bool (mayI l)) ∧ Below w.heap.size w w' := by
  obtain ⟨m, hm2⟩ : ∃ m, l.length = m := ⟨_, rfl⟩
  have HM := Lib.hid hm2
  have HRD := Lib.hid hr
  have HBD := Lib.hid hb
  rw [hm2] at hm ⊢
  clear hr hb hm2
  go_enter Try.func39, Try.ntmps39
  go_wp2_with fail
  go_loopw [3] (fun iv wr => ∃ k : Nat, k ≤ m ∧ iv = .int .i64 k ∧ (∀ j, j < k → okAt l j = true) ∧ Below w.heap.size w wr) (fun iv _ => m - (intOf iv).toNat)
  case atStart => exact ⟨0, Nat.zero_le _, rfl, fun j hj => absurd hj (by omega), Below.refl _ _⟩
  case round =>
    obtain ⟨k, hk, rfl, hall, hbw⟩ := hrel
    have HALL := Lib.hid hall
    have HBW := Lib.hid hbw
    clear hall hbw
    by_cases hlt : k < m
    · have hkl : k < l.length := by have := HM.out; omega
      obtain ⟨g, o, rfl, hg, c0, c1⟩ := rdi_at (HRD.out.below HBW.out) hkl
      have hbd := HBD.out _ (List.getElem_mem hkl)
      obtain ⟨z, hz⟩ : ∃ z, l[k] = z := ⟨_, rfl⟩
      rw [hz] at c0 c1 hbd
      have HZ : Hid (l[k] = z) := Lib.hid hz
      clear hz
      obtain ⟨gd, n⟩ := z
      obtain ⟨hx1, hx2, hx3⟩ := hbd
      simp only at c0 c1 hx1 hx2 hx3
      have hok : okAt l k = (okItem ⟨gd, n⟩ && (match k with | 0 => true | j + 1 => match l[j]? with | none => false | some x => ltS x.good gd)) := by
        unfold okAt
        rw [List.getElem?_eq_getElem hkl, HZ.out]
        cases k <;> rfl
      have HOK := Lib.hid hok
      clear hok
      have hgo := xgood_any gd
      obtain ⟨G, hG⟩ : ∃ G, goodS gd = G := ⟨_, rfl⟩
      rw [hG] at hgo
      have HGD := Lib.hid hG
      have HGO := Lib.hid hgo
      clear hG hgo
      cases G
      · have HBAD : Hid (mayI l = false) := Lib.hid (mayI_bad hkl (by rw [HOK.out]; simp [okItem, HGD.out]))
        go_wp2_with fail
        refine wp_region_flow (fun W => W = wr.drew) [0, 1, 2, 3, 4, 5, 6, 7, 8, 9, 10, 11, 12, 13, 14, 15, 16, 17, 18, 19, 20, 21, 22, 23, 24, 25, 26, 27, 28, 29, 30, 31, 32, 33, 34, 35, 36, 37, 38, 39, 40, 41] (by kernel_rfl) (by kernel_rfl) (by kernel_rfl) (rfl) ?_
        refine flow_val ?_ rfl (by kernel_rfl) (by rfl) (fun W hW => ?_) ?_
        rotate_left 1
        · go_simp <;> with_reducible rfl
        simp only [Act.put, List.setIfInBounds_toArray, List.set_cons_succ, List.set_cons_zero]
        refine flow_val ?_ rfl (by kernel_rfl) (by rfl) (fun W hW => ?_) ?_
        rotate_left 1
        · go_simp <;> with_reducible rfl
        simp only [Act.put, List.setIfInBounds_toArray, List.set_cons_succ, List.set_cons_zero]
        refine flow_val ?_ rfl (by kernel_rfl) (by rfl) (fun W hW => ?_) ?_
        rotate_left 1
        · go_simp <;> with_reducible rfl
        simp only [Act.put, List.setIfInBounds_toArray, List.set_cons_succ, List.set_cons_zero]
        refine flow_val ?_ rfl (by kernel_rfl) (by rfl) (fun W hW => ?_) ?_
        rotate_left 1
        · go_simp <;> with_reducible rfl
        simp only [Act.put, List.setIfInBounds_toArray, List.set_cons_succ, List.set_cons_zero]
        refine flow_val ?_ rfl (by kernel_rfl) (by rfl) (fun W hW => ?_) ?_
        rotate_left 1
        · go_simp <;> with_reducible rfl
        simp only [Act.put, List.setIfInBounds_toArray, List.set_cons_succ, List.set_cons_zero]
        refine flow_quiet (.bool false) rfl (by kernel_rfl) (by rfl) (fun W hW => ⟨_, _, by go_simp, HGO.out W hx1⟩) ?_
        simp only [Act.put, List.setIfInBounds_toArray, List.set_cons_succ, List.set_cons_zero]
        refine flow_val ?_ rfl (by kernel_rfl) (by rfl) (fun W hW => ?_) ?_
        rotate_left 1
        · go_simp <;> with_reducible rfl
        simp only [Act.put, List.setIfInBounds_toArray, List.set_cons_succ, List.set_cons_zero]
        refine flow_val ?_ rfl (by kernel_rfl) (by rfl) (fun W hW => ?_) ?_
        rotate_left 1
        · go_simp <;> with_reducible rfl
        simp only [Act.put, List.setIfInBounds_toArray, List.set_cons_succ, List.set_cons_zero]
        refine flow_off rfl (by kernel_rfl) (by rfl) ?_
        simp only [Act.put, List.setIfInBounds_toArray, List.set_cons_succ, List.set_cons_zero]
        refine flow_off rfl (by kernel_rfl) (by rfl) ?_
        simp only [Act.put, List.setIfInBounds_toArray, List.set_cons_succ, List.set_cons_zero]
        refine flow_off rfl (by kernel_rfl) (by rfl) ?_
        simp only [Act.put, List.setIfInBounds_toArray, List.set_cons_succ, List.set_cons_zero]
        refine flow_off rfl (by kernel_rfl) (by rfl) ?_
        simp only [Act.put, List.setIfInBounds_toArray, List.set_cons_succ, List.set_cons_zero]
        refine flow_off rfl (by kernel_rfl) (by rfl) ?_
        simp only [Act.put, List.setIfInBounds_toArray, List.set_cons_succ, List.set_cons_zero]
        refine flow_off rfl (by kernel_rfl) (by rfl) ?_
        simp only [Act.put, List.setIfInBounds_toArray, List.set_cons_succ, List.set_cons_zero]
        refine flow_val ?_ rfl (by kernel_rfl) (by rfl) (fun W hW => ?_) ?_
        rotate_left 1
        · go_simp <;> with_reducible rfl
        simp only [Act.put, List.setIfInBounds_toArray, List.set_cons_succ, List.set_cons_zero]
        refine flow_val ?_ rfl (by kernel_rfl) (by rfl) (fun W hW => ?_) ?_
        rotate_left 1
        · go_simp <;> with_reducible rfl
        simp only [Act.put, List.setIfInBounds_toArray, List.set_cons_succ, List.set_cons_zero]
        refine flow_off rfl (by kernel_rfl) (by rfl) ?_
        simp only [Act.put, List.setIfInBounds_toArray, List.set_cons_succ, List.set_cons_zero]
        refine flow_off rfl (by kernel_rfl) (by rfl) ?_
        simp only [Act.put, List.setIfInBounds_toArray, List.set_cons_succ, List.set_cons_zero]
        refine flow_off rfl (by kernel_rfl) (by rfl) ?_
        simp only [Act.put, List.setIfInBounds_toArray, List.set_cons_succ, List.set_cons_zero]
        refine flow_off rfl (by kernel_rfl) (by rfl) ?_
        simp only [Act.put, List.setIfInBounds_toArray, List.set_cons_succ, List.set_cons_zero]
        refine flow_off rfl (by kernel_rfl) (by rfl) ?_
        simp only [Act.put, List.setIfInBounds_toArray, List.set_cons_succ, List.set_cons_zero]
        refine flow_off rfl (by kernel_rfl) (by rfl) ?_
        simp only [Act.put, List.setIfInBounds_toArray, List.set_cons_succ, List.set_cons_zero]
        refine flow_off rfl (by kernel_rfl) (by rfl) ?_
        simp only [Act.put, List.setIfInBounds_toArray, List.set_cons_succ, List.set_cons_zero]
        refine flow_val ?_ rfl (by kernel_rfl) (by rfl) (fun W hW => ?_) ?_
        rotate_left 1
        · go_simp <;> with_reducible rfl
        simp only [Act.put, List.setIfInBounds_toArray, List.set_cons_succ, List.set_cons_zero]
        refine flow_val ?_ rfl (by kernel_rfl) (by rfl) (fun W hW => ?_) ?_
        rotate_left 1
        · go_simp <;> with_reducible rfl
        simp only [Act.put, List.setIfInBounds_toArray, List.set_cons_succ, List.set_cons_zero]
        refine flow_off rfl (by kernel_rfl) (by rfl) ?_
        simp only [Act.put, List.setIfInBounds_toArray, List.set_cons_succ, List.set_cons_zero]
        refine flow_off rfl (by kernel_rfl) (by rfl) ?_
        simp only [Act.put, List.setIfInBounds_toArray, List.set_cons_succ, List.set_cons_zero]
        refine flow_off rfl (by kernel_rfl) (by rfl) ?_
        simp only [Act.put, List.setIfInBounds_toArray, List.set_cons_succ, List.set_cons_zero]
        refine flow_off rfl (by kernel_rfl) (by rfl) ?_
        simp only [Act.put, List.setIfInBounds_toArray, List.set_cons_succ, List.set_cons_zero]
        refine flow_off rfl (by kernel_rfl) (by rfl) ?_
        simp only [Act.put, List.setIfInBounds_toArray, List.set_cons_succ, List.set_cons_zero]
        refine flow_off rfl (by kernel_rfl) (by rfl) ?_
        simp only [Act.put, List.setIfInBounds_toArray, List.set_cons_succ, List.set_cons_zero]
        refine flow_off rfl (by kernel_rfl) (by rfl) ?_
        simp only [Act.put, List.setIfInBounds_toArray, List.set_cons_succ, List.set_cons_zero]
        refine flow_off rfl (by kernel_rfl) (by rfl) ?_
        simp only [Act.put, List.setIfInBounds_toArray, List.set_cons_succ, List.set_cons_zero]
        refine flow_off rfl (by kernel_rfl) (by rfl) ?_
        simp only [Act.put, List.setIfInBounds_toArray, List.set_cons_succ, List.set_cons_zero]
        refine flow_off rfl (by kernel_rfl) (by rfl) ?_
        simp only [Act.put, List.setIfInBounds_toArray, List.set_cons_succ, List.set_cons_zero]
        refine flow_off rfl (by kernel_rfl) (by rfl) ?_
        simp only [Act.put, List.setIfInBounds_toArray, List.set_cons_succ, List.set_cons_zero]
        refine flow_off rfl (by kernel_rfl) (by rfl) ?_
        simp only [Act.put, List.setIfInBounds_toArray, List.set_cons_succ, List.set_cons_zero]
        refine flow_off rfl (by kernel_rfl) (by rfl) ?_
        simp only [Act.put, List.setIfInBounds_toArray, List.set_cons_succ, List.set_cons_zero]
        refine flow_off rfl (by kernel_rfl) (by rfl) ?_
        simp only [Act.put, List.setIfInBounds_toArray, List.set_cons_succ, List.set_cons_zero]
        refine flow_off rfl (by kernel_rfl) (by rfl) ?_
        simp only [Act.put, List.setIfInBounds_toArray, List.set_cons_succ, List.set_cons_zero]
        refine flow_off rfl (by kernel_rfl) (by rfl) ?_
        simp only [Act.put, List.setIfInBounds_toArray, List.set_cons_succ, List.set_cons_zero]
        refine flow_val ?_ rfl (by kernel_rfl) (by rfl) (fun W hW => ?_) ?_
        rotate_left 1
        · go_simp <;> with_reducible rfl
        simp only [Act.put, List.setIfInBounds_toArray, List.set_cons_succ, List.set_cons_zero]
        refine flow_done ?_
        rintro W hW
        subst hW
        go_wp2
        go_ret
        exact ⟨ret_bool HBAD.out.symm, HBW.out.drew⟩
      · by_cases h1 : 1 ≤ n
        · have hd1 : decide (n < 1) = false := by simp; omega
          cases hmc : mayC n
          · have h2 : ¬ n ≤ 1099511627776 := fun h => by rw [show mayC n = true by simp [mayC, h]; omega] at hmc; cases hmc
            have HBAD : Hid (mayI l = false) := Lib.hid (mayI_bad hkl (by rw [HOK.out]; simp [okItem, h2]))
            have HMC := Lib.hid hmc
            clear hmc
            go_wp2_with fail
            refine wp_region_flow (fun W => W = wr.drew) [0, 1, 2, 3, 4, 5, 6, 7, 8, 9, 10, 11, 12, 13, 14, 15, 16, 17, 18, 19, 20, 21, 22, 23, 24, 25, 26, 27, 28, 29, 30, 31, 32, 33, 34, 35, 36, 37, 38, 39, 40, 41] (by kernel_rfl) (by kernel_rfl) (by kernel_rfl) (rfl) ?_
            refine flow_val ?_ rfl (by kernel_rfl) (by rfl) (fun W hW => ?_) ?_
            rotate_left 1
            · go_simp <;> with_reducible rfl
            simp only [Act.put, List.setIfInBounds_toArray, List.set_cons_succ, List.set_cons_zero]
            refine flow_val ?_ rfl (by kernel_rfl) (by rfl) (fun W hW => ?_) ?_
            rotate_left 1
            · go_simp <;> with_reducible rfl
            simp only [Act.put, List.setIfInBounds_toArray, List.set_cons_succ, List.set_cons_zero]
            refine flow_val ?_ rfl (by kernel_rfl) (by rfl) (fun W hW => ?_) ?_
            rotate_left 1
            · go_simp <;> with_reducible rfl
            simp only [Act.put, List.setIfInBounds_toArray, List.set_cons_succ, List.set_cons_zero]
            refine flow_val ?_ rfl (by kernel_rfl) (by rfl) (fun W hW => ?_) ?_
            rotate_left 1
            · go_simp <;> with_reducible rfl
            simp only [Act.put, List.setIfInBounds_toArray, List.set_cons_succ, List.set_cons_zero]
            refine flow_val ?_ rfl (by kernel_rfl) (by rfl) (fun W hW => ?_) ?_
            rotate_left 1
            · go_simp <;> with_reducible rfl
            simp only [Act.put, List.setIfInBounds_toArray, List.set_cons_succ, List.set_cons_zero]
            refine flow_quiet (.bool true) rfl (by kernel_rfl) (by rfl) (fun W hW => ⟨_, _, by go_simp, HGO.out W hx1⟩) ?_
            simp only [Act.put, List.setIfInBounds_toArray, List.set_cons_succ, List.set_cons_zero]
            refine flow_val ?_ rfl (by kernel_rfl) (by rfl) (fun W hW => ?_) ?_
            rotate_left 1
            · go_simp <;> with_reducible rfl
            simp only [Act.put, List.setIfInBounds_toArray, List.set_cons_succ, List.set_cons_zero]
            refine flow_val ?_ rfl (by kernel_rfl) (by rfl) (fun W hW => ?_) ?_
            rotate_left 1
            · go_simp <;> with_reducible rfl
            simp only [Act.put, List.setIfInBounds_toArray, List.set_cons_succ, List.set_cons_zero]
            refine flow_val ?_ rfl (by kernel_rfl) (by rfl) (fun W hW => ?_) ?_
            rotate_left 1
            · go_simp <;> with_reducible rfl
            simp only [Act.put, List.setIfInBounds_toArray, List.set_cons_succ, List.set_cons_zero]
            refine flow_val ?_ rfl (by kernel_rfl) (by rfl) (fun W hW => ?_) ?_
            rotate_left 1
            · go_simp <;> with_reducible rfl
            simp only [Act.put, List.setIfInBounds_toArray, List.set_cons_succ, List.set_cons_zero]
            refine flow_val ?_ rfl (by kernel_rfl) (by rfl) (fun W hW => ?_) ?_
            rotate_left 1
            · go_simp <;> with_reducible rfl
            simp only [Act.put, List.setIfInBounds_toArray, List.set_cons_succ, List.set_cons_zero]
            refine flow_val ?_ rfl (by kernel_rfl) (by rfl) (fun W hW => ?_) ?_
            rotate_left 1
            · go_simp <;> with_reducible rfl
            simp only [Act.put, List.setIfInBounds_toArray, List.set_cons_succ, List.set_cons_zero]
            refine flow_val ?_ rfl (by kernel_rfl) (by rfl) (fun W hW => ?_) ?_
            rotate_left 1
            · go_simp <;> with_reducible rfl
            simp only [Act.put, List.setIfInBounds_toArray, List.set_cons_succ, List.set_cons_zero]
            refine flow_val ?_ rfl (by kernel_rfl) (by rfl) (fun W hW => ?_) ?_
            rotate_left 1
            · go_simp <;> with_reducible rfl
            simp only [Act.put, List.setIfInBounds_toArray, List.set_cons_succ, List.set_cons_zero]
            refine flow_val ?_ rfl (by kernel_rfl) (by rfl) (fun W hW => ?_) ?_
            rotate_left 1
            · go_simp <;> with_reducible rfl
            simp only [Act.put, List.setIfInBounds_toArray, List.set_cons_succ, List.set_cons_zero]
            refine flow_val ?_ rfl (by kernel_rfl) (by rfl) (fun W hW => ?_) ?_
            rotate_left 1
            · go_simp <;> with_reducible rfl
            simp only [Act.put, List.setIfInBounds_toArray, List.set_cons_succ, List.set_cons_zero]
            refine flow_val ?_ rfl (by kernel_rfl) (by rfl) (fun W hW => ?_) ?_
            rotate_left 1
            · go_simp <;> with_reducible rfl
            simp only [Act.put, List.setIfInBounds_toArray, List.set_cons_succ, List.set_cons_zero]
            refine flow_val ?_ rfl (by kernel_rfl) (by rfl) (fun W hW => ?_) ?_
            rotate_left 1
            · go_simp <;> with_reducible rfl
            simp only [Act.put, List.setIfInBounds_toArray, List.set_cons_succ, List.set_cons_zero]
            refine flow_val ?_ rfl (by kernel_rfl) (by rfl) (fun W hW => ?_) ?_
            rotate_left 1
            · go_simp <;> with_reducible rfl
            simp only [Act.put, List.setIfInBounds_toArray, List.set_cons_succ, List.set_cons_zero]
            refine flow_val ?_ rfl (by kernel_rfl) (by rfl) (fun W hW => ?_) ?_
            rotate_left 1
            · go_simp <;> with_reducible rfl
            simp only [Act.put, List.setIfInBounds_toArray, List.set_cons_succ, List.set_cons_zero]
            refine flow_val ?_ rfl (by kernel_rfl) (by rfl) (fun W hW => ?_) ?_
            rotate_left 1
            · go_simp <;> with_reducible rfl
            simp only [Act.put, List.setIfInBounds_toArray, List.set_cons_succ, List.set_cons_zero]
            refine flow_quiet (.bool false) rfl (by kernel_rfl) (by rfl) (fun W hW => ⟨_, _, by go_simp, HMC.out ▸ xcmay_any n W⟩) ?_
            simp only [Act.put, List.setIfInBounds_toArray, List.set_cons_succ, List.set_cons_zero]
            refine flow_val ?_ rfl (by kernel_rfl) (by rfl) (fun W hW => ?_) ?_
            rotate_left 1
            · go_simp <;> with_reducible rfl
            simp only [Act.put, List.setIfInBounds_toArray, List.set_cons_succ, List.set_cons_zero]
            refine flow_val ?_ rfl (by kernel_rfl) (by rfl) (fun W hW => ?_) ?_
            rotate_left 1
            · go_simp <;> with_reducible rfl
            simp only [Act.put, List.setIfInBounds_toArray, List.set_cons_succ, List.set_cons_zero]
            refine flow_val ?_ rfl (by kernel_rfl) (by rfl) (fun W hW => ?_) ?_
            rotate_left 1
            · go_simp <;> with_reducible rfl
            simp only [Act.put, List.setIfInBounds_toArray, List.set_cons_succ, List.set_cons_zero]
            refine flow_off rfl (by kernel_rfl) (by rfl) ?_
            simp only [Act.put, List.setIfInBounds_toArray, List.set_cons_succ, List.set_cons_zero]
            refine flow_off rfl (by kernel_rfl) (by rfl) ?_
            simp only [Act.put, List.setIfInBounds_toArray, List.set_cons_succ, List.set_cons_zero]
            refine flow_off rfl (by kernel_rfl) (by rfl) ?_
            simp only [Act.put, List.setIfInBounds_toArray, List.set_cons_succ, List.set_cons_zero]
            refine flow_off rfl (by kernel_rfl) (by rfl) ?_
            simp only [Act.put, List.setIfInBounds_toArray, List.set_cons_succ, List.set_cons_zero]
            refine flow_off rfl (by kernel_rfl) (by rfl) ?_
            simp only [Act.put, List.setIfInBounds_toArray, List.set_cons_succ, List.set_cons_zero]
            refine flow_off rfl (by kernel_rfl) (by rfl) ?_
            simp only [Act.put, List.setIfInBounds_toArray, List.set_cons_succ, List.set_cons_zero]
            refine flow_off rfl (by kernel_rfl) (by rfl) ?_
            simp only [Act.put, List.setIfInBounds_toArray, List.set_cons_succ, List.set_cons_zero]
            refine flow_off rfl (by kernel_rfl) (by rfl) ?_
            simp only [Act.put, List.setIfInBounds_toArray, List.set_cons_succ, List.set_cons_zero]
            refine flow_off rfl (by kernel_rfl) (by rfl) ?_
            simp only [Act.put, List.setIfInBounds_toArray, List.set_cons_succ, List.set_cons_zero]
            refine flow_off rfl (by kernel_rfl) (by rfl) ?_
            simp only [Act.put, List.setIfInBounds_toArray, List.set_cons_succ, List.set_cons_zero]
            refine flow_off rfl (by kernel_rfl) (by rfl) ?_
            simp only [Act.put, List.setIfInBounds_toArray, List.set_cons_succ, List.set_cons_zero]
            refine flow_off rfl (by kernel_rfl) (by rfl) ?_
            simp only [Act.put, List.setIfInBounds_toArray, List.set_cons_succ, List.set_cons_zero]
            refine flow_off rfl (by kernel_rfl) (by rfl) ?_
            simp only [Act.put, List.setIfInBounds_toArray, List.set_cons_succ, List.set_cons_zero]
            refine flow_off rfl (by kernel_rfl) (by rfl) ?_
            simp only [Act.put, List.setIfInBounds_toArray, List.set_cons_succ, List.set_cons_zero]
            refine flow_off rfl (by kernel_rfl) (by rfl) ?_
            simp only [Act.put, List.setIfInBounds_toArray, List.set_cons_succ, List.set_cons_zero]
            refine flow_off rfl (by kernel_rfl) (by rfl) ?_
            simp only [Act.put, List.setIfInBounds_toArray, List.set_cons_succ, List.set_cons_zero]
            refine flow_val ?_ rfl (by kernel_rfl) (by rfl) (fun W hW => ?_) ?_
            rotate_left 1
            · go_simp <;> with_reducible rfl
            simp only [Act.put, List.setIfInBounds_toArray, List.set_cons_succ, List.set_cons_zero]
            refine flow_done ?_
            rintro W hW
            subst hW
            go_wp2
            go_ret
            exact ⟨ret_bool HBAD.out.symm, HBW.out.drew⟩
          · have hn2 : n ≤ 1099511627776 := by simp [mayC] at hmc; omega
            have hoi : okItem ⟨gd, n⟩ = true := okItem_iff.2 ⟨HGD.out, h1, hn2⟩
            have HOI := Lib.hid hoi
            have HMC := Lib.hid hmc
            clear hmc hoi
            by_cases hk0 : k = 0
            · subst hk0
              simp only [Nat.zero_mul, Nat.add_zero] at c0 c1
              have HGOOD : Hid (okAt l 0 = true) := Lib.hid (by rw [HOK.out, HOI.out]; rfl)
              go_wp2_with fail
              refine wp_region_flow (fun W => W = wr.drew) [0, 1, 2, 3, 4, 5, 6, 7, 8, 9, 10, 11, 12, 13, 14, 15, 16, 17, 18, 19, 20, 21, 22, 23, 24, 25, 26, 27, 28, 29, 30, 31, 32, 33, 34, 35, 36, 37, 38, 39, 40, 41] (by kernel_rfl) (by kernel_rfl) (by kernel_rfl) (rfl) ?_
              refine flow_val ?_ rfl (by kernel_rfl) (by rfl) (fun W hW => ?_) ?_
              rotate_left 1
              · go_simp <;> with_reducible rfl
              simp only [Act.put, List.setIfInBounds_toArray, List.set_cons_succ, List.set_cons_zero]
              refine flow_val ?_ rfl (by kernel_rfl) (by rfl) (fun W hW => ?_) ?_
              rotate_left 1
              · go_simp <;> with_reducible rfl
              simp only [Act.put, List.setIfInBounds_toArray, List.set_cons_succ, List.set_cons_zero]
              refine flow_val ?_ rfl (by kernel_rfl) (by rfl) (fun W hW => ?_) ?_
              rotate_left 1
              · go_simp <;> with_reducible rfl
              simp only [Act.put, List.setIfInBounds_toArray, List.set_cons_succ, List.set_cons_zero]
              refine flow_val ?_ rfl (by kernel_rfl) (by rfl) (fun W hW => ?_) ?_
              rotate_left 1
              · go_simp <;> with_reducible rfl
              simp only [Act.put, List.setIfInBounds_toArray, List.set_cons_succ, List.set_cons_zero]
              refine flow_val ?_ rfl (by kernel_rfl) (by rfl) (fun W hW => ?_) ?_
              rotate_left 1
              · go_simp <;> with_reducible rfl
              simp only [Act.put, List.setIfInBounds_toArray, List.set_cons_succ, List.set_cons_zero]
              refine flow_quiet (.bool true) rfl (by kernel_rfl) (by rfl) (fun W hW => ⟨_, _, by go_simp, HGO.out W hx1⟩) ?_
              simp only [Act.put, List.setIfInBounds_toArray, List.set_cons_succ, List.set_cons_zero]
              refine flow_val ?_ rfl (by kernel_rfl) (by rfl) (fun W hW => ?_) ?_
              rotate_left 1
              · go_simp <;> with_reducible rfl
              simp only [Act.put, List.setIfInBounds_toArray, List.set_cons_succ, List.set_cons_zero]
              refine flow_val ?_ rfl (by kernel_rfl) (by rfl) (fun W hW => ?_) ?_
              rotate_left 1
              · go_simp <;> with_reducible rfl
              simp only [Act.put, List.setIfInBounds_toArray, List.set_cons_succ, List.set_cons_zero]
              refine flow_val ?_ rfl (by kernel_rfl) (by rfl) (fun W hW => ?_) ?_
              rotate_left 1
              · go_simp <;> with_reducible rfl
              simp only [Act.put, List.setIfInBounds_toArray, List.set_cons_succ, List.set_cons_zero]
              refine flow_val ?_ rfl (by kernel_rfl) (by rfl) (fun W hW => ?_) ?_
              rotate_left 1
              · go_simp <;> with_reducible rfl
              simp only [Act.put, List.setIfInBounds_toArray, List.set_cons_succ, List.set_cons_zero]
              refine flow_val ?_ rfl (by kernel_rfl) (by rfl) (fun W hW => ?_) ?_
              rotate_left 1
              · go_simp <;> with_reducible rfl
              simp only [Act.put, List.setIfInBounds_toArray, List.set_cons_succ, List.set_cons_zero]
              refine flow_val ?_ rfl (by kernel_rfl) (by rfl) (fun W hW => ?_) ?_
              rotate_left 1
              · go_simp <;> with_reducible rfl
              simp only [Act.put, List.setIfInBounds_toArray, List.set_cons_succ, List.set_cons_zero]
              refine flow_val ?_ rfl (by kernel_rfl) (by rfl) (fun W hW => ?_) ?_
              rotate_left 1
              · go_simp <;> with_reducible rfl
              simp only [Act.put, List.setIfInBounds_toArray, List.set_cons_succ, List.set_cons_zero]
              refine flow_val ?_ rfl (by kernel_rfl) (by rfl) (fun W hW => ?_) ?_
              rotate_left 1
              · go_simp <;> with_reducible rfl
              simp only [Act.put, List.setIfInBounds_toArray, List.set_cons_succ, List.set_cons_zero]
              refine flow_val ?_ rfl (by kernel_rfl) (by rfl) (fun W hW => ?_) ?_
              rotate_left 1
              · go_simp <;> with_reducible rfl
              simp only [Act.put, List.setIfInBounds_toArray, List.set_cons_succ, List.set_cons_zero]
              refine flow_val ?_ rfl (by kernel_rfl) (by rfl) (fun W hW => ?_) ?_
              rotate_left 1
              · go_simp <;> with_reducible rfl
              simp only [Act.put, List.setIfInBounds_toArray, List.set_cons_succ, List.set_cons_zero]
              refine flow_val ?_ rfl (by kernel_rfl) (by rfl) (fun W hW => ?_) ?_
              rotate_left 1
              · go_simp <;> with_reducible rfl
              simp only [Act.put, List.setIfInBounds_toArray, List.set_cons_succ, List.set_cons_zero]
              refine flow_val ?_ rfl (by kernel_rfl) (by rfl) (fun W hW => ?_) ?_
              rotate_left 1
              · go_simp <;> with_reducible rfl
              simp only [Act.put, List.setIfInBounds_toArray, List.set_cons_succ, List.set_cons_zero]
              refine flow_val ?_ rfl (by kernel_rfl) (by rfl) (fun W hW => ?_) ?_
              rotate_left 1
              · go_simp <;> with_reducible rfl
              simp only [Act.put, List.setIfInBounds_toArray, List.set_cons_succ, List.set_cons_zero]
              refine flow_val ?_ rfl (by kernel_rfl) (by rfl) (fun W hW => ?_) ?_
              rotate_left 1
              · go_simp <;> with_reducible rfl
              simp only [Act.put, List.setIfInBounds_toArray, List.set_cons_succ, List.set_cons_zero]
              refine flow_val ?_ rfl (by kernel_rfl) (by rfl) (fun W hW => ?_) ?_
              rotate_left 1
              · go_simp <;> with_reducible rfl
              simp only [Act.put, List.setIfInBounds_toArray, List.set_cons_succ, List.set_cons_zero]
              refine flow_quiet (.bool true) rfl (by kernel_rfl) (by rfl) (fun W hW => ⟨_, _, by go_simp, HMC.out ▸ xcmay_any n W⟩) ?_
              simp only [Act.put, List.setIfInBounds_toArray, List.set_cons_succ, List.set_cons_zero]
              refine flow_val ?_ rfl (by kernel_rfl) (by rfl) (fun W hW => ?_) ?_
              rotate_left 1
              · go_simp <;> with_reducible rfl
              simp only [Act.put, List.setIfInBounds_toArray, List.set_cons_succ, List.set_cons_zero]
              refine flow_val ?_ rfl (by kernel_rfl) (by rfl) (fun W hW => ?_) ?_
              rotate_left 1
              · go_simp <;> with_reducible rfl
              simp only [Act.put, List.setIfInBounds_toArray, List.set_cons_succ, List.set_cons_zero]
              refine flow_val ?_ rfl (by kernel_rfl) (by rfl) (fun W hW => ?_) ?_
              rotate_left 1
              · go_simp <;> with_reducible rfl
              simp only [Act.put, List.setIfInBounds_toArray, List.set_cons_succ, List.set_cons_zero]
              refine flow_val ?_ rfl (by kernel_rfl) (by rfl) (fun W hW => ?_) ?_
              rotate_left 1
              · go_simp <;> with_reducible rfl
              simp only [Act.put, List.setIfInBounds_toArray, List.set_cons_succ, List.set_cons_zero]
              refine flow_val ?_ rfl (by kernel_rfl) (by rfl) (fun W hW => ?_) ?_
              rotate_left 1
              · go_simp <;> with_reducible rfl
              simp only [Act.put, List.setIfInBounds_toArray, List.set_cons_succ, List.set_cons_zero]
              refine flow_val ?_ rfl (by kernel_rfl) (by rfl) (fun W hW => ?_) ?_
              rotate_left 1
              · go_simp <;> with_reducible rfl
              simp only [Act.put, List.setIfInBounds_toArray, List.set_cons_succ, List.set_cons_zero]
              refine flow_off rfl (by kernel_rfl) (by rfl) ?_
              simp only [Act.put, List.setIfInBounds_toArray, List.set_cons_succ, List.set_cons_zero]
              refine flow_off rfl (by kernel_rfl) (by rfl) ?_
              simp only [Act.put, List.setIfInBounds_toArray, List.set_cons_succ, List.set_cons_zero]
              refine flow_off rfl (by kernel_rfl) (by rfl) ?_
              simp only [Act.put, List.setIfInBounds_toArray, List.set_cons_succ, List.set_cons_zero]
              refine flow_off rfl (by kernel_rfl) (by rfl) ?_
              simp only [Act.put, List.setIfInBounds_toArray, List.set_cons_succ, List.set_cons_zero]
              refine flow_off rfl (by kernel_rfl) (by rfl) ?_
              simp only [Act.put, List.setIfInBounds_toArray, List.set_cons_succ, List.set_cons_zero]
              refine flow_off rfl (by kernel_rfl) (by rfl) ?_
              simp only [Act.put, List.setIfInBounds_toArray, List.set_cons_succ, List.set_cons_zero]
              refine flow_off rfl (by kernel_rfl) (by rfl) ?_
              simp only [Act.put, List.setIfInBounds_toArray, List.set_cons_succ, List.set_cons_zero]
              refine flow_off rfl (by kernel_rfl) (by rfl) ?_
              simp only [Act.put, List.setIfInBounds_toArray, List.set_cons_succ, List.set_cons_zero]
              refine flow_off rfl (by kernel_rfl) (by rfl) ?_
              simp only [Act.put, List.setIfInBounds_toArray, List.set_cons_succ, List.set_cons_zero]
              refine flow_off rfl (by kernel_rfl) (by rfl) ?_
              simp only [Act.put, List.setIfInBounds_toArray, List.set_cons_succ, List.set_cons_zero]
              refine flow_off rfl (by kernel_rfl) (by rfl) ?_
              simp only [Act.put, List.setIfInBounds_toArray, List.set_cons_succ, List.set_cons_zero]
              refine flow_off rfl (by kernel_rfl) (by rfl) ?_
              simp only [Act.put, List.setIfInBounds_toArray, List.set_cons_succ, List.set_cons_zero]
              refine flow_val ?_ rfl (by kernel_rfl) (by rfl) (fun W hW => ?_) ?_
              rotate_left 1
              · go_simp <;> with_reducible rfl
              simp only [Act.put, List.setIfInBounds_toArray, List.set_cons_succ, List.set_cons_zero]
              refine flow_val ?_ rfl (by kernel_rfl) (by rfl) (fun W hW => ?_) ?_
              rotate_left 1
              · go_simp <;> with_reducible rfl
              simp only [Act.put, List.setIfInBounds_toArray, List.set_cons_succ, List.set_cons_zero]
              refine flow_done ?_
              rintro W hW
              subst hW
              go_wp2_with fail
              go_roundw
              case rel =>
                refine ⟨0 + 1, by omega, by go_num, fun i hi => ?_, HBW.out.drew⟩
                rcases Nat.lt_or_ge i (0) with h | h
                · exact HALL.out i h
                · obtain rfl : i = 0 := by omega
                  exact HGOOD.out
              case measure => simp [intOf]; omega
            · obtain ⟨j, hj⟩ : ∃ j, j + 1 = k := ⟨k - 1, by omega⟩
              have hjl : j < l.length := by omega
              obtain ⟨_, _, e1, _, p0, _⟩ := rdi_at (HRD.out.below HBW.out) hjl
              injection e1 with e1
              injection e1 with e1 e2
              subst e1; subst e2
              obtain ⟨LG, hLG⟩ : ∃ LG, l[j].good = LG := ⟨_, rfl⟩
              rw [hLG] at p0
              obtain ⟨LT, hLT⟩ : ∃ LT, ltS LG gd = LT := ⟨_, rfl⟩
              have HOK2 : Hid (okAt l k = LT) := Lib.hid (by
                rw [HOK.out, HOI.out, Bool.true_and]
                subst hj
                simp only [List.getElem?_eq_getElem hjl, hLG, hLT])
              have hlt2 : Op.bytesLess LG.toList gd.toList = LT := hLT
              have hw1 : IntKind.i64.wrap ((k : Int) - 1) = (j : Int) := by rw [show ((k : Int) - 1) = (j : Int) by omega]; exact IntWalk.i64_in _ (by omega)
              have hgt : decide ((k : Int) > 0) = true := by simp; omega
              have hgt' : decide (0 < (k : Int)) = true := by simp; omega
              have hjm : j < m := by omega
              have hgn : decide (0 < k) = true := by simp; omega
              clear hLG hLT HOK hj
              cases LT
              · have HBAD : Hid (mayI l = false) := Lib.hid (mayI_bad hkl HOK2.out)
                go_wp2_with fail
                refine wp_region_flow (fun W => W = wr.drew) [0, 1, 2, 3, 4, 5, 6, 7, 8, 9, 10, 11, 12, 13, 14, 15, 16, 17, 18, 19, 20, 21, 22, 23, 24, 25, 26, 27, 28, 29, 30, 31, 32, 33, 34, 35, 36, 37, 38, 39, 40, 41] (by kernel_rfl) (by kernel_rfl) (by kernel_rfl) (rfl) ?_
                refine flow_val ?_ rfl (by kernel_rfl) (by rfl) (fun W hW => ?_) ?_
                rotate_left 1
                · go_simp <;> with_reducible rfl
                simp only [Act.put, List.setIfInBounds_toArray, List.set_cons_succ, List.set_cons_zero]
                refine flow_val ?_ rfl (by kernel_rfl) (by rfl) (fun W hW => ?_) ?_
                rotate_left 1
                · go_simp <;> with_reducible rfl
                simp only [Act.put, List.setIfInBounds_toArray, List.set_cons_succ, List.set_cons_zero]
                refine flow_val ?_ rfl (by kernel_rfl) (by rfl) (fun W hW => ?_) ?_
                rotate_left 1
                · go_simp <;> with_reducible rfl
                simp only [Act.put, List.setIfInBounds_toArray, List.set_cons_succ, List.set_cons_zero]
                refine flow_val ?_ rfl (by kernel_rfl) (by rfl) (fun W hW => ?_) ?_
                rotate_left 1
                · go_simp <;> with_reducible rfl
                simp only [Act.put, List.setIfInBounds_toArray, List.set_cons_succ, List.set_cons_zero]
                refine flow_val ?_ rfl (by kernel_rfl) (by rfl) (fun W hW => ?_) ?_
                rotate_left 1
                · go_simp <;> with_reducible rfl
                simp only [Act.put, List.setIfInBounds_toArray, List.set_cons_succ, List.set_cons_zero]
                refine flow_quiet (.bool true) rfl (by kernel_rfl) (by rfl) (fun W hW => ⟨_, _, by go_simp, HGO.out W hx1⟩) ?_
                simp only [Act.put, List.setIfInBounds_toArray, List.set_cons_succ, List.set_cons_zero]
                refine flow_val ?_ rfl (by kernel_rfl) (by rfl) (fun W hW => ?_) ?_
                rotate_left 1
                · go_simp <;> with_reducible rfl
                simp only [Act.put, List.setIfInBounds_toArray, List.set_cons_succ, List.set_cons_zero]
                refine flow_val ?_ rfl (by kernel_rfl) (by rfl) (fun W hW => ?_) ?_
                rotate_left 1
                · go_simp <;> with_reducible rfl
                simp only [Act.put, List.setIfInBounds_toArray, List.set_cons_succ, List.set_cons_zero]
                refine flow_val ?_ rfl (by kernel_rfl) (by rfl) (fun W hW => ?_) ?_
                rotate_left 1
                · go_simp <;> with_reducible rfl
                simp only [Act.put, List.setIfInBounds_toArray, List.set_cons_succ, List.set_cons_zero]
                refine flow_val ?_ rfl (by kernel_rfl) (by rfl) (fun W hW => ?_) ?_
                rotate_left 1
                · go_simp <;> with_reducible rfl
                simp only [Act.put, List.setIfInBounds_toArray, List.set_cons_succ, List.set_cons_zero]
                refine flow_val ?_ rfl (by kernel_rfl) (by rfl) (fun W hW => ?_) ?_
                rotate_left 1
                · go_simp <;> with_reducible rfl
                simp only [Act.put, List.setIfInBounds_toArray, List.set_cons_succ, List.set_cons_zero]
                refine flow_val ?_ rfl (by kernel_rfl) (by rfl) (fun W hW => ?_) ?_
                rotate_left 1
                · go_simp <;> with_reducible rfl
                simp only [Act.put, List.setIfInBounds_toArray, List.set_cons_succ, List.set_cons_zero]
                refine flow_val ?_ rfl (by kernel_rfl) (by rfl) (fun W hW => ?_) ?_
                rotate_left 1
                · go_simp <;> with_reducible rfl
                simp only [Act.put, List.setIfInBounds_toArray, List.set_cons_succ, List.set_cons_zero]
                refine flow_val ?_ rfl (by kernel_rfl) (by rfl) (fun W hW => ?_) ?_
                rotate_left 1
                · go_simp <;> with_reducible rfl
                simp only [Act.put, List.setIfInBounds_toArray, List.set_cons_succ, List.set_cons_zero]
                refine flow_val ?_ rfl (by kernel_rfl) (by rfl) (fun W hW => ?_) ?_
                rotate_left 1
                · go_simp <;> with_reducible rfl
                simp only [Act.put, List.setIfInBounds_toArray, List.set_cons_succ, List.set_cons_zero]
                refine flow_val ?_ rfl (by kernel_rfl) (by rfl) (fun W hW => ?_) ?_
                rotate_left 1
                · go_simp <;> with_reducible rfl
                simp only [Act.put, List.setIfInBounds_toArray, List.set_cons_succ, List.set_cons_zero]
                refine flow_val ?_ rfl (by kernel_rfl) (by rfl) (fun W hW => ?_) ?_
                rotate_left 1
                · go_simp <;> with_reducible rfl
                simp only [Act.put, List.setIfInBounds_toArray, List.set_cons_succ, List.set_cons_zero]
                refine flow_val ?_ rfl (by kernel_rfl) (by rfl) (fun W hW => ?_) ?_
                rotate_left 1
                · go_simp <;> with_reducible rfl
                simp only [Act.put, List.setIfInBounds_toArray, List.set_cons_succ, List.set_cons_zero]
                refine flow_val ?_ rfl (by kernel_rfl) (by rfl) (fun W hW => ?_) ?_
                rotate_left 1
                · go_simp <;> with_reducible rfl
                simp only [Act.put, List.setIfInBounds_toArray, List.set_cons_succ, List.set_cons_zero]
                refine flow_val ?_ rfl (by kernel_rfl) (by rfl) (fun W hW => ?_) ?_
                rotate_left 1
                · go_simp <;> with_reducible rfl
                simp only [Act.put, List.setIfInBounds_toArray, List.set_cons_succ, List.set_cons_zero]
                refine flow_val ?_ rfl (by kernel_rfl) (by rfl) (fun W hW => ?_) ?_
                rotate_left 1
                · go_simp <;> with_reducible rfl
                simp only [Act.put, List.setIfInBounds_toArray, List.set_cons_succ, List.set_cons_zero]
                refine flow_quiet (.bool true) rfl (by kernel_rfl) (by rfl) (fun W hW => ⟨_, _, by go_simp, HMC.out ▸ xcmay_any n W⟩) ?_
                simp only [Act.put, List.setIfInBounds_toArray, List.set_cons_succ, List.set_cons_zero]
                refine flow_val ?_ rfl (by kernel_rfl) (by rfl) (fun W hW => ?_) ?_
                rotate_left 1
                · go_simp <;> with_reducible rfl
                simp only [Act.put, List.setIfInBounds_toArray, List.set_cons_succ, List.set_cons_zero]
                refine flow_val ?_ rfl (by kernel_rfl) (by rfl) (fun W hW => ?_) ?_
                rotate_left 1
                · go_simp <;> with_reducible rfl
                simp only [Act.put, List.setIfInBounds_toArray, List.set_cons_succ, List.set_cons_zero]
                refine flow_val ?_ rfl (by kernel_rfl) (by rfl) (fun W hW => ?_) ?_
                rotate_left 1
                · go_simp <;> with_reducible rfl
                simp only [Act.put, List.setIfInBounds_toArray, List.set_cons_succ, List.set_cons_zero]
                refine flow_val ?_ rfl (by kernel_rfl) (by rfl) (fun W hW => ?_) ?_
                rotate_left 1
                · go_simp <;> with_reducible rfl
                simp only [Act.put, List.setIfInBounds_toArray, List.set_cons_succ, List.set_cons_zero]
                refine flow_val ?_ rfl (by kernel_rfl) (by rfl) (fun W hW => ?_) ?_
                rotate_left 1
                · go_simp <;> with_reducible rfl
                simp only [Act.put, List.setIfInBounds_toArray, List.set_cons_succ, List.set_cons_zero]
                refine flow_val ?_ rfl (by kernel_rfl) (by rfl) (fun W hW => ?_) ?_
                rotate_left 1
                · go_simp <;> with_reducible rfl
                simp only [Act.put, List.setIfInBounds_toArray, List.set_cons_succ, List.set_cons_zero]
                refine flow_val ?_ rfl (by kernel_rfl) (by rfl) (fun W hW => ?_) ?_
                rotate_left 1
                · go_simp <;> with_reducible rfl
                simp only [Act.put, List.setIfInBounds_toArray, List.set_cons_succ, List.set_cons_zero]
                refine flow_val ?_ rfl (by kernel_rfl) (by rfl) (fun W hW => ?_) ?_
                rotate_left 1
                · go_simp <;> with_reducible rfl
                simp only [Act.put, List.setIfInBounds_toArray, List.set_cons_succ, List.set_cons_zero]
                refine flow_val ?_ rfl (by kernel_rfl) (by rfl) (fun W hW => ?_) ?_
                rotate_left 1
                · go_simp <;> with_reducible rfl
                simp only [Act.put, List.setIfInBounds_toArray, List.set_cons_succ, List.set_cons_zero]
                refine flow_val ?_ rfl (by kernel_rfl) (by rfl) (fun W hW => ?_) ?_
                rotate_left 1
                · go_simp <;> with_reducible rfl
                simp only [Act.put, List.setIfInBounds_toArray, List.set_cons_succ, List.set_cons_zero]
                refine flow_val ?_ rfl (by kernel_rfl) (by rfl) (fun W hW => ?_) ?_
                rotate_left 1
                · go_simp <;> with_reducible rfl
                simp only [Act.put, List.setIfInBounds_toArray, List.set_cons_succ, List.set_cons_zero]
                refine flow_val ?_ rfl (by kernel_rfl) (by rfl) (fun W hW => ?_) ?_
                rotate_left 1
                · go_simp <;> with_reducible rfl
                simp only [Act.put, List.setIfInBounds_toArray, List.set_cons_succ, List.set_cons_zero]
                refine flow_val ?_ rfl (by kernel_rfl) (by rfl) (fun W hW => ?_) ?_
                rotate_left 1
                · go_simp <;> with_reducible rfl
                simp only [Act.put, List.setIfInBounds_toArray, List.set_cons_succ, List.set_cons_zero]
                refine flow_val ?_ rfl (by kernel_rfl) (by rfl) (fun W hW => ?_) ?_
                rotate_left 1
                · go_simp <;> with_reducible rfl
                simp only [Act.put, List.setIfInBounds_toArray, List.set_cons_succ, List.set_cons_zero]
                refine flow_val ?_ rfl (by kernel_rfl) (by rfl) (fun W hW => ?_) ?_
                rotate_left 1
                · go_simp <;> with_reducible rfl
                simp only [Act.put, List.setIfInBounds_toArray, List.set_cons_succ, List.set_cons_zero]
                refine flow_val ?_ rfl (by kernel_rfl) (by rfl) (fun W hW => ?_) ?_
                rotate_left 1
                · go_simp <;> with_reducible rfl
                simp only [Act.put, List.setIfInBounds_toArray, List.set_cons_succ, List.set_cons_zero]
                refine flow_val ?_ rfl (by kernel_rfl) (by rfl) (fun W hW => ?_) ?_
                rotate_left 1
                · go_simp <;> with_reducible rfl
                simp only [Act.put, List.setIfInBounds_toArray, List.set_cons_succ, List.set_cons_zero]
                refine flow_val ?_ rfl (by kernel_rfl) (by rfl) (fun W hW => ?_) ?_
                rotate_left 1
                · go_simp <;> with_reducible rfl
                simp only [Act.put, List.setIfInBounds_toArray, List.set_cons_succ, List.set_cons_zero]
                refine flow_val ?_ rfl (by kernel_rfl) (by rfl) (fun W hW => ?_) ?_
                rotate_left 1
                · go_simp <;> with_reducible rfl
                simp only [Act.put, List.setIfInBounds_toArray, List.set_cons_succ, List.set_cons_zero]
                refine flow_val ?_ rfl (by kernel_rfl) (by rfl) (fun W hW => ?_) ?_
                rotate_left 1
                · go_simp <;> with_reducible rfl
                simp only [Act.put, List.setIfInBounds_toArray, List.set_cons_succ, List.set_cons_zero]
                refine flow_done ?_
                rintro W hW
                subst hW
                go_wp2
                go_ret
                exact ⟨ret_bool HBAD.out.symm, HBW.out.drew⟩
              · have HGOOD : Hid (okAt l k = true) := HOK2
                go_wp2_with fail
                refine wp_region_flow (fun W => W = wr.drew) [0, 1, 2, 3, 4, 5, 6, 7, 8, 9, 10, 11, 12, 13, 14, 15, 16, 17, 18, 19, 20, 21, 22, 23, 24, 25, 26, 27, 28, 29, 30, 31, 32, 33, 34, 35, 36, 37, 38, 39, 40, 41] (by kernel_rfl) (by kernel_rfl) (by kernel_rfl) (rfl) ?_
                refine flow_val ?_ rfl (by kernel_rfl) (by rfl) (fun W hW => ?_) ?_
                rotate_left 1
                · go_simp <;> with_reducible rfl
                simp only [Act.put, List.setIfInBounds_toArray, List.set_cons_succ, List.set_cons_zero]
                refine flow_val ?_ rfl (by kernel_rfl) (by rfl) (fun W hW => ?_) ?_
                rotate_left 1
                · go_simp <;> with_reducible rfl
                simp only [Act.put, List.setIfInBounds_toArray, List.set_cons_succ, List.set_cons_zero]
                refine flow_val ?_ rfl (by kernel_rfl) (by rfl) (fun W hW => ?_) ?_
                rotate_left 1
                · go_simp <;> with_reducible rfl
                simp only [Act.put, List.setIfInBounds_toArray, List.set_cons_succ, List.set_cons_zero]
                refine flow_val ?_ rfl (by kernel_rfl) (by rfl) (fun W hW => ?_) ?_
                rotate_left 1
                · go_simp <;> with_reducible rfl
                simp only [Act.put, List.setIfInBounds_toArray, List.set_cons_succ, List.set_cons_zero]
                refine flow_val ?_ rfl (by kernel_rfl) (by rfl) (fun W hW => ?_) ?_
                rotate_left 1
                · go_simp <;> with_reducible rfl
                simp only [Act.put, List.setIfInBounds_toArray, List.set_cons_succ, List.set_cons_zero]
                refine flow_quiet (.bool true) rfl (by kernel_rfl) (by rfl) (fun W hW => ⟨_, _, by go_simp, HGO.out W hx1⟩) ?_
                simp only [Act.put, List.setIfInBounds_toArray, List.set_cons_succ, List.set_cons_zero]
                refine flow_val ?_ rfl (by kernel_rfl) (by rfl) (fun W hW => ?_) ?_
                rotate_left 1
                · go_simp <;> with_reducible rfl
                simp only [Act.put, List.setIfInBounds_toArray, List.set_cons_succ, List.set_cons_zero]
                refine flow_val ?_ rfl (by kernel_rfl) (by rfl) (fun W hW => ?_) ?_
                rotate_left 1
                · go_simp <;> with_reducible rfl
                simp only [Act.put, List.setIfInBounds_toArray, List.set_cons_succ, List.set_cons_zero]
                refine flow_val ?_ rfl (by kernel_rfl) (by rfl) (fun W hW => ?_) ?_
                rotate_left 1
                · go_simp <;> with_reducible rfl
                simp only [Act.put, List.setIfInBounds_toArray, List.set_cons_succ, List.set_cons_zero]
                refine flow_val ?_ rfl (by kernel_rfl) (by rfl) (fun W hW => ?_) ?_
                rotate_left 1
                · go_simp <;> with_reducible rfl
                simp only [Act.put, List.setIfInBounds_toArray, List.set_cons_succ, List.set_cons_zero]
                refine flow_val ?_ rfl (by kernel_rfl) (by rfl) (fun W hW => ?_) ?_
                rotate_left 1
                · go_simp <;> with_reducible rfl
                simp only [Act.put, List.setIfInBounds_toArray, List.set_cons_succ, List.set_cons_zero]
                refine flow_val ?_ rfl (by kernel_rfl) (by rfl) (fun W hW => ?_) ?_
                rotate_left 1
                · go_simp <;> with_reducible rfl
                simp only [Act.put, List.setIfInBounds_toArray, List.set_cons_succ, List.set_cons_zero]
                refine flow_val ?_ rfl (by kernel_rfl) (by rfl) (fun W hW => ?_) ?_
                rotate_left 1
                · go_simp <;> with_reducible rfl
                simp only [Act.put, List.setIfInBounds_toArray, List.set_cons_succ, List.set_cons_zero]
                refine flow_val ?_ rfl (by kernel_rfl) (by rfl) (fun W hW => ?_) ?_
                rotate_left 1
                · go_simp <;> with_reducible rfl
                simp only [Act.put, List.setIfInBounds_toArray, List.set_cons_succ, List.set_cons_zero]
                refine flow_val ?_ rfl (by kernel_rfl) (by rfl) (fun W hW => ?_) ?_
                rotate_left 1
                · go_simp <;> with_reducible rfl
                simp only [Act.put, List.setIfInBounds_toArray, List.set_cons_succ, List.set_cons_zero]
                refine flow_val ?_ rfl (by kernel_rfl) (by rfl) (fun W hW => ?_) ?_
                rotate_left 1
                · go_simp <;> with_reducible rfl
                simp only [Act.put, List.setIfInBounds_toArray, List.set_cons_succ, List.set_cons_zero]
                refine flow_val ?_ rfl (by kernel_rfl) (by rfl) (fun W hW => ?_) ?_
                rotate_left 1
                · go_simp <;> with_reducible rfl
                simp only [Act.put, List.setIfInBounds_toArray, List.set_cons_succ, List.set_cons_zero]
                refine flow_val ?_ rfl (by kernel_rfl) (by rfl) (fun W hW => ?_) ?_
                rotate_left 1
                · go_simp <;> with_reducible rfl
                simp only [Act.put, List.setIfInBounds_toArray, List.set_cons_succ, List.set_cons_zero]
                refine flow_val ?_ rfl (by kernel_rfl) (by rfl) (fun W hW => ?_) ?_
                rotate_left 1
                · go_simp <;> with_reducible rfl
                simp only [Act.put, List.setIfInBounds_toArray, List.set_cons_succ, List.set_cons_zero]
                refine flow_val ?_ rfl (by kernel_rfl) (by rfl) (fun W hW => ?_) ?_
                rotate_left 1
                · go_simp <;> with_reducible rfl
                simp only [Act.put, List.setIfInBounds_toArray, List.set_cons_succ, List.set_cons_zero]
                refine flow_val ?_ rfl (by kernel_rfl) (by rfl) (fun W hW => ?_) ?_
                rotate_left 1
                · go_simp <;> with_reducible rfl
                simp only [Act.put, List.setIfInBounds_toArray, List.set_cons_succ, List.set_cons_zero]
                refine flow_quiet (.bool true) rfl (by kernel_rfl) (by rfl) (fun W hW => ⟨_, _, by go_simp, HMC.out ▸ xcmay_any n W⟩) ?_
                simp only [Act.put, List.setIfInBounds_toArray, List.set_cons_succ, List.set_cons_zero]
                refine flow_val ?_ rfl (by kernel_rfl) (by rfl) (fun W hW => ?_) ?_
                rotate_left 1
                · go_simp <;> with_reducible rfl
                simp only [Act.put, List.setIfInBounds_toArray, List.set_cons_succ, List.set_cons_zero]
                refine flow_val ?_ rfl (by kernel_rfl) (by rfl) (fun W hW => ?_) ?_
                rotate_left 1
                · go_simp <;> with_reducible rfl
                simp only [Act.put, List.setIfInBounds_toArray, List.set_cons_succ, List.set_cons_zero]
                refine flow_val ?_ rfl (by kernel_rfl) (by rfl) (fun W hW => ?_) ?_
                rotate_left 1
                · go_simp <;> with_reducible rfl
                simp only [Act.put, List.setIfInBounds_toArray, List.set_cons_succ, List.set_cons_zero]
                refine flow_val ?_ rfl (by kernel_rfl) (by rfl) (fun W hW => ?_) ?_
                rotate_left 1
                · go_simp <;> with_reducible rfl
                simp only [Act.put, List.setIfInBounds_toArray, List.set_cons_succ, List.set_cons_zero]
                refine flow_val ?_ rfl (by kernel_rfl) (by rfl) (fun W hW => ?_) ?_
                rotate_left 1
                · go_simp <;> with_reducible rfl
                simp only [Act.put, List.setIfInBounds_toArray, List.set_cons_succ, List.set_cons_zero]
                refine flow_val ?_ rfl (by kernel_rfl) (by rfl) (fun W hW => ?_) ?_
                rotate_left 1
                · go_simp <;> with_reducible rfl
                simp only [Act.put, List.setIfInBounds_toArray, List.set_cons_succ, List.set_cons_zero]
                refine flow_val ?_ rfl (by kernel_rfl) (by rfl) (fun W hW => ?_) ?_
                rotate_left 1
                · go_simp <;> with_reducible rfl
                simp only [Act.put, List.setIfInBounds_toArray, List.set_cons_succ, List.set_cons_zero]
                refine flow_val ?_ rfl (by kernel_rfl) (by rfl) (fun W hW => ?_) ?_
                rotate_left 1
                · go_simp <;> with_reducible rfl
                simp only [Act.put, List.setIfInBounds_toArray, List.set_cons_succ, List.set_cons_zero]
                refine flow_val ?_ rfl (by kernel_rfl) (by rfl) (fun W hW => ?_) ?_
                rotate_left 1
                · go_simp <;> with_reducible rfl
                simp only [Act.put, List.setIfInBounds_toArray, List.set_cons_succ, List.set_cons_zero]
                refine flow_val ?_ rfl (by kernel_rfl) (by rfl) (fun W hW => ?_) ?_
                rotate_left 1
                · go_simp <;> with_reducible rfl
                simp only [Act.put, List.setIfInBounds_toArray, List.set_cons_succ, List.set_cons_zero]
                refine flow_val ?_ rfl (by kernel_rfl) (by rfl) (fun W hW => ?_) ?_
                rotate_left 1
                · go_simp <;> with_reducible rfl
                simp only [Act.put, List.setIfInBounds_toArray, List.set_cons_succ, List.set_cons_zero]
                refine flow_val ?_ rfl (by kernel_rfl) (by rfl) (fun W hW => ?_) ?_
                rotate_left 1
                · go_simp <;> with_reducible rfl
                simp only [Act.put, List.setIfInBounds_toArray, List.set_cons_succ, List.set_cons_zero]
                refine flow_val ?_ rfl (by kernel_rfl) (by rfl) (fun W hW => ?_) ?_
                rotate_left 1
                · go_simp <;> with_reducible rfl
                simp only [Act.put, List.setIfInBounds_toArray, List.set_cons_succ, List.set_cons_zero]
                refine flow_val ?_ rfl (by kernel_rfl) (by rfl) (fun W hW => ?_) ?_
                rotate_left 1
                · go_simp <;> with_reducible rfl
                simp only [Act.put, List.setIfInBounds_toArray, List.set_cons_succ, List.set_cons_zero]
                refine flow_val ?_ rfl (by kernel_rfl) (by rfl) (fun W hW => ?_) ?_
                rotate_left 1
                · go_simp <;> with_reducible rfl
                simp only [Act.put, List.setIfInBounds_toArray, List.set_cons_succ, List.set_cons_zero]
                refine flow_val ?_ rfl (by kernel_rfl) (by rfl) (fun W hW => ?_) ?_
                rotate_left 1
                · go_simp <;> with_reducible rfl
                simp only [Act.put, List.setIfInBounds_toArray, List.set_cons_succ, List.set_cons_zero]
                refine flow_val ?_ rfl (by kernel_rfl) (by rfl) (fun W hW => ?_) ?_
                rotate_left 1
                · go_simp <;> with_reducible rfl
                simp only [Act.put, List.setIfInBounds_toArray, List.set_cons_succ, List.set_cons_zero]
                refine flow_val ?_ rfl (by kernel_rfl) (by rfl) (fun W hW => ?_) ?_
                rotate_left 1
                · go_simp <;> with_reducible rfl
                simp only [Act.put, List.setIfInBounds_toArray, List.set_cons_succ, List.set_cons_zero]
                refine flow_val ?_ rfl (by kernel_rfl) (by rfl) (fun W hW => ?_) ?_
                rotate_left 1
                · go_simp <;> with_reducible rfl
                simp only [Act.put, List.setIfInBounds_toArray, List.set_cons_succ, List.set_cons_zero]
                refine flow_val ?_ rfl (by kernel_rfl) (by rfl) (fun W hW => ?_) ?_
                rotate_left 1
                · go_simp <;> with_reducible rfl
                simp only [Act.put, List.setIfInBounds_toArray, List.set_cons_succ, List.set_cons_zero]
                refine flow_done ?_
                rintro W hW
                subst hW
                go_wp2_with fail
                go_roundw
                case rel =>
                  refine ⟨k + 1, by omega, by go_num, fun i hi => ?_, HBW.out.drew⟩
                  rcases Nat.lt_or_ge i (k) with h | h
                  · exact HALL.out i h
                  · obtain rfl : i = k := by omega
                    exact HGOOD.out
                case measure => simp [intOf]; omega
        · have hd1 : decide (n < 1) = true := by simp; omega
          have HBAD : Hid (mayI l = false) := Lib.hid (mayI_bad hkl (by rw [HOK.out]; simp [okItem, h1]))
          go_wp2_with fail
          refine wp_region_flow (fun W => W = wr.drew) [0, 1, 2, 3, 4, 5, 6, 7, 8, 9, 10, 11, 12, 13, 14, 15, 16, 17, 18, 19, 20, 21, 22, 23, 24, 25, 26, 27, 28, 29, 30, 31, 32, 33, 34, 35, 36, 37, 38, 39, 40, 41] (by kernel_rfl) (by kernel_rfl) (by kernel_rfl) (rfl) ?_
          refine flow_val ?_ rfl (by kernel_rfl) (by rfl) (fun W hW => ?_) ?_
          rotate_left 1
          · go_simp <;> with_reducible rfl
          simp only [Act.put, List.setIfInBounds_toArray, List.set_cons_succ, List.set_cons_zero]
          refine flow_val ?_ rfl (by kernel_rfl) (by rfl) (fun W hW => ?_) ?_
          rotate_left 1
          · go_simp <;> with_reducible rfl
          simp only [Act.put, List.setIfInBounds_toArray, List.set_cons_succ, List.set_cons_zero]
          refine flow_val ?_ rfl (by kernel_rfl) (by rfl) (fun W hW => ?_) ?_
          rotate_left 1
          · go_simp <;> with_reducible rfl
          simp only [Act.put, List.setIfInBounds_toArray, List.set_cons_succ, List.set_cons_zero]
          refine flow_val ?_ rfl (by kernel_rfl) (by rfl) (fun W hW => ?_) ?_
          rotate_left 1
          · go_simp <;> with_reducible rfl
          simp only [Act.put, List.setIfInBounds_toArray, List.set_cons_succ, List.set_cons_zero]
          refine flow_val ?_ rfl (by kernel_rfl) (by rfl) (fun W hW => ?_) ?_
          rotate_left 1
          · go_simp <;> with_reducible rfl
          simp only [Act.put, List.setIfInBounds_toArray, List.set_cons_succ, List.set_cons_zero]
          refine flow_quiet (.bool true) rfl (by kernel_rfl) (by rfl) (fun W hW => ⟨_, _, by go_simp, HGO.out W hx1⟩) ?_
          simp only [Act.put, List.setIfInBounds_toArray, List.set_cons_succ, List.set_cons_zero]
          refine flow_val ?_ rfl (by kernel_rfl) (by rfl) (fun W hW => ?_) ?_
          rotate_left 1
          · go_simp <;> with_reducible rfl
          simp only [Act.put, List.setIfInBounds_toArray, List.set_cons_succ, List.set_cons_zero]
          refine flow_val ?_ rfl (by kernel_rfl) (by rfl) (fun W hW => ?_) ?_
          rotate_left 1
          · go_simp <;> with_reducible rfl
          simp only [Act.put, List.setIfInBounds_toArray, List.set_cons_succ, List.set_cons_zero]
          refine flow_val ?_ rfl (by kernel_rfl) (by rfl) (fun W hW => ?_) ?_
          rotate_left 1
          · go_simp <;> with_reducible rfl
          simp only [Act.put, List.setIfInBounds_toArray, List.set_cons_succ, List.set_cons_zero]
          refine flow_val ?_ rfl (by kernel_rfl) (by rfl) (fun W hW => ?_) ?_
          rotate_left 1
          · go_simp <;> with_reducible rfl
          simp only [Act.put, List.setIfInBounds_toArray, List.set_cons_succ, List.set_cons_zero]
          refine flow_val ?_ rfl (by kernel_rfl) (by rfl) (fun W hW => ?_) ?_
          rotate_left 1
          · go_simp <;> with_reducible rfl
          simp only [Act.put, List.setIfInBounds_toArray, List.set_cons_succ, List.set_cons_zero]
          refine flow_val ?_ rfl (by kernel_rfl) (by rfl) (fun W hW => ?_) ?_
          rotate_left 1
          · go_simp <;> with_reducible rfl
          simp only [Act.put, List.setIfInBounds_toArray, List.set_cons_succ, List.set_cons_zero]
          refine flow_val ?_ rfl (by kernel_rfl) (by rfl) (fun W hW => ?_) ?_
          rotate_left 1
          · go_simp <;> with_reducible rfl
          simp only [Act.put, List.setIfInBounds_toArray, List.set_cons_succ, List.set_cons_zero]
          refine flow_val ?_ rfl (by kernel_rfl) (by rfl) (fun W hW => ?_) ?_
          rotate_left 1
          · go_simp <;> with_reducible rfl
          simp only [Act.put, List.setIfInBounds_toArray, List.set_cons_succ, List.set_cons_zero]
          refine flow_val ?_ rfl (by kernel_rfl) (by rfl) (fun W hW => ?_) ?_
          rotate_left 1
          · go_simp <;> with_reducible rfl
          simp only [Act.put, List.setIfInBounds_toArray, List.set_cons_succ, List.set_cons_zero]
          refine flow_val ?_ rfl (by kernel_rfl) (by rfl) (fun W hW => ?_) ?_
          rotate_left 1
          · go_simp <;> with_reducible rfl
          simp only [Act.put, List.setIfInBounds_toArray, List.set_cons_succ, List.set_cons_zero]
          refine flow_off rfl (by kernel_rfl) (by rfl) ?_
          simp only [Act.put, List.setIfInBounds_toArray, List.set_cons_succ, List.set_cons_zero]
          refine flow_off rfl (by kernel_rfl) (by rfl) ?_
          simp only [Act.put, List.setIfInBounds_toArray, List.set_cons_succ, List.set_cons_zero]
          refine flow_off rfl (by kernel_rfl) (by rfl) ?_
          simp only [Act.put, List.setIfInBounds_toArray, List.set_cons_succ, List.set_cons_zero]
          refine flow_off rfl (by kernel_rfl) (by rfl) ?_
          simp only [Act.put, List.setIfInBounds_toArray, List.set_cons_succ, List.set_cons_zero]
          refine flow_off rfl (by kernel_rfl) (by rfl) ?_
          simp only [Act.put, List.setIfInBounds_toArray, List.set_cons_succ, List.set_cons_zero]
          refine flow_off rfl (by kernel_rfl) (by rfl) ?_
          simp only [Act.put, List.setIfInBounds_toArray, List.set_cons_succ, List.set_cons_zero]
          refine flow_off rfl (by kernel_rfl) (by rfl) ?_
          simp only [Act.put, List.setIfInBounds_toArray, List.set_cons_succ, List.set_cons_zero]
          refine flow_val ?_ rfl (by kernel_rfl) (by rfl) (fun W hW => ?_) ?_
          rotate_left 1
          · go_simp <;> with_reducible rfl
          simp only [Act.put, List.setIfInBounds_toArray, List.set_cons_succ, List.set_cons_zero]
          refine flow_val ?_ rfl (by kernel_rfl) (by rfl) (fun W hW => ?_) ?_
          rotate_left 1
          · go_simp <;> with_reducible rfl
          simp only [Act.put, List.setIfInBounds_toArray, List.set_cons_succ, List.set_cons_zero]
          refine flow_off rfl (by kernel_rfl) (by rfl) ?_
          simp only [Act.put, List.setIfInBounds_toArray, List.set_cons_succ, List.set_cons_zero]
          refine flow_off rfl (by kernel_rfl) (by rfl) ?_
          simp only [Act.put, List.setIfInBounds_toArray, List.set_cons_succ, List.set_cons_zero]
          refine flow_off rfl (by kernel_rfl) (by rfl) ?_
          simp only [Act.put, List.setIfInBounds_toArray, List.set_cons_succ, List.set_cons_zero]
          refine flow_off rfl (by kernel_rfl) (by rfl) ?_
          simp only [Act.put, List.setIfInBounds_toArray, List.set_cons_succ, List.set_cons_zero]
          refine flow_off rfl (by kernel_rfl) (by rfl) ?_
          simp only [Act.put, List.setIfInBounds_toArray, List.set_cons_succ, List.set_cons_zero]
          refine flow_off rfl (by kernel_rfl) (by rfl) ?_
          simp only [Act.put, List.setIfInBounds_toArray, List.set_cons_succ, List.set_cons_zero]
          refine flow_off rfl (by kernel_rfl) (by rfl) ?_
          simp only [Act.put, List.setIfInBounds_toArray, List.set_cons_succ, List.set_cons_zero]
          refine flow_off rfl (by kernel_rfl) (by rfl) ?_
          simp only [Act.put, List.setIfInBounds_toArray, List.set_cons_succ, List.set_cons_zero]
          refine flow_off rfl (by kernel_rfl) (by rfl) ?_
          simp only [Act.put, List.setIfInBounds_toArray, List.set_cons_succ, List.set_cons_zero]
          refine flow_off rfl (by kernel_rfl) (by rfl) ?_
          simp only [Act.put, List.setIfInBounds_toArray, List.set_cons_succ, List.set_cons_zero]
          refine flow_off rfl (by kernel_rfl) (by rfl) ?_
          simp only [Act.put, List.setIfInBounds_toArray, List.set_cons_succ, List.set_cons_zero]
          refine flow_off rfl (by kernel_rfl) (by rfl) ?_
          simp only [Act.put, List.setIfInBounds_toArray, List.set_cons_succ, List.set_cons_zero]
          refine flow_off rfl (by kernel_rfl) (by rfl) ?_
          simp only [Act.put, List.setIfInBounds_toArray, List.set_cons_succ, List.set_cons_zero]
          refine flow_off rfl (by kernel_rfl) (by rfl) ?_
          simp only [Act.put, List.setIfInBounds_toArray, List.set_cons_succ, List.set_cons_zero]
          refine flow_off rfl (by kernel_rfl) (by rfl) ?_
          simp only [Act.put, List.setIfInBounds_toArray, List.set_cons_succ, List.set_cons_zero]
          refine flow_off rfl (by kernel_rfl) (by rfl) ?_
          simp only [Act.put, List.setIfInBounds_toArray, List.set_cons_succ, List.set_cons_zero]
          refine flow_val ?_ rfl (by kernel_rfl) (by rfl) (fun W hW => ?_) ?_
          rotate_left 1
          · go_simp <;> with_reducible rfl
          simp only [Act.put, List.setIfInBounds_toArray, List.set_cons_succ, List.set_cons_zero]
          refine flow_done ?_
          rintro W hW
          subst hW
          go_wp2
          go_ret
          exact ⟨ret_bool HBAD.out.symm, HBW.out.drew⟩
    · have hmay : mayI l = decide ((m : Int) ≤ 16) := by
        rw [mayI_all (fun j hj => HALL.out j (by have := HM.out; omega)), HM.out]
        exact decide_eq_decide.2 (by omega)
      have HMAY := Lib.hid hmay
      clear hmay
      go_wp2
      go_ret
      exact ⟨ret_bool HMAY.out.symm, HBW.out⟩
end Go.Proofs.Ytjgdcdojigcefaa
