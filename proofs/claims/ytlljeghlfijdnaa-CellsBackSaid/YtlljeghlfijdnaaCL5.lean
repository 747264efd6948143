/- The law CellsBack: what was made is taken, cell by cell. The walk. -/
import Derived.Test.YtlljeghlfijdnaaCOps
namespace Go.Proofs.Ytlljeghlfijdnaa
open Go.RowKit

theorem cellsOp_lt (z : Op1) : ∀ b ∈ cellsOp z, b < 256 := by
  intro b hb
  unfold cellsOp textB flagB at hb
  simp only [List.mem_append] at hb
  rcases hb with hb | (hb | hb) | hb
  · exact numB_lt _ b hb
  · exact numB_lt _ b hb
  · exact natsOf_lt _ b hb
  · exact numB_lt _ b hb
theorem cellsOps_lt (ys : List Op1) : ∀ b ∈ ys.flatMap cellsOp, b < 256 := by
  intro b hb
  obtain ⟨z, _, hz⟩ := List.mem_flatMap.1 hb
  exact cellsOp_lt z b hz

set_option maxRecDepth 100000 in
set_option maxHeartbeats 8000000 in
theorem back_any (A : Option Addr) (c : Nat) (zs : List Op1) (w : World) (hz : IsOps w A c zs) :
    Calls Try.prog 7 #[.slice A zs.length c] w fun e w' => e = .returned (.bool true) ∧ Below w.heap.size w w' := by
  have HZ := Lib.hid hz
  have hcm := hz.2.1
  have hzc := hz.1
  have hzm : c ≤ 9223372036854775807 := by unfold maxLen at hcm; omega
  clear hz hcm
  go_enter Try.func7, Try.ntmps7
  go_wp2_with fail
  refine (mk_new (Below.refl _ _)).mono ?_
  rintro e w1 ⟨rfl, hm1⟩
  have HM1 := Lib.hid hm1
  clear hm1
  go_wp2_with fail
  refine (lives_any _).mono ?_
  rintro e w2 ⟨rfl, hb2⟩
  have HM2 := Lib.hid (HM1.out.keep hb2)
  clear hb2 HM1
  go_wp2_with fail
  go_loopw [3, 4] (fun m i wr => m = .pointer (some ⟨w.heap.size, 0, none⟩) ∧ ∃ k : Nat, k ≤ zs.length ∧ k ≤ 500 ∧ i = .int .i64 k ∧ Mk w w.heap.size (mkAll (zs.take k)) wr) (fun _ i _ => (500 - (intOf i).toNat))
  case atStart => exact ⟨rfl, 0, Nat.zero_le _, Nat.zero_le _, rfl, HM2.out⟩
  case round =>
    obtain ⟨rfl, k, hk1, hk2, rfl, hm⟩ := hrel
    have HM := Lib.hid hm
    clear hm HM2
    by_cases hlt : k < zs.length ∧ k < 500
    · obtain ⟨hlt, hl5⟩ := hlt
      obtain ⟨g, o, rfl, hg, hcell⟩ := HZ.out.at_ (by omega)
      obtain ⟨q0, q1, q2, _, _⟩ := hcell k hlt
      have hok := HZ.out.2.2.2 zs[k] (List.getElem_mem hlt)
      have HOK := Lib.hid hok
      have HSucc := Lib.hid (mkAll_succ zs k hlt)
      have HQ : Hid (∀ W, Below w.heap.size w W → W.cell? ⟨g, o + k * 5, none⟩ = some (.int .i64 zs[k].k) ∧ W.cell? ⟨g, o + k * 5 + 1, none⟩ = some (.int .i64 zs[k].n) ∧ W.cell? ⟨g, o + k * 5 + 2, none⟩ = some (.string zs[k].s)) := Lib.hid (fun W hW => ⟨(hW.cell (p := ⟨g, o + k * 5, none⟩) hg).trans q0, (hW.cell (p := ⟨g, o + k * 5 + 1, none⟩) hg).trans q1, (hW.cell (p := ⟨g, o + k * 5 + 2, none⟩) hg).trans q2⟩)
      have i0 : (0 : Int) ≤ (k : Int) := by omega
      have i1 : (k : Int) < (zs.length : Int) := by omega
      obtain ⟨z, hzk⟩ : ∃ z, zs[k] = z := ⟨_, rfl⟩
      rw [hzk] at HOK HSucc HQ
      obtain ⟨s0, hs0⟩ : ∃ s0, mkAll (zs.take k) = s0 := ⟨_, rfl⟩
      rw [hs0] at HM HSucc
      clear hcell q0 q1 q2 hok hzk hs0
      go_wp2_with fail
      refine wp_region_flow2 (fun W => Below w.heap.size w W) (Mk w w.heap.size s0) [0, 1, 2, 3, 4, 5, 7, 8, 9, 10, 11, 13, 14, 15, 16, 17, 18, 6, 12, 19, 20] (by kernel_rfl) (by kernel_rfl) (by kernel_rfl) HM.out.below.drew (HM.out.keep (Below.refl _ _).drew) ?_
      refine flow_val ?_ rfl (by kernel_rfl) (by rfl) (fun W hW => ?_) ?_
      rotate_left 1
      · go_simp <;> with_reducible rfl
      simp only [Act.put, List.setIfInBounds_toArray, List.set_cons_succ, List.set_cons_zero]
      refine flow_val ?_ rfl (by kernel_rfl) (by rfl) (fun W hW => ?_) ?_
      rotate_left 1
      · go_simp <;> with_reducible rfl
      simp only [Act.put, List.setIfInBounds_toArray, List.set_cons_succ, List.set_cons_zero]
      refine flow_val ?_ rfl (by kernel_rfl) (by rfl) (fun W hW => ?_) ?_
      rotate_left 1
      · go_simp <;> with_reducible rfl
      simp only [Act.put, List.setIfInBounds_toArray, List.set_cons_succ, List.set_cons_zero]
      refine flow_val ?_ rfl (by kernel_rfl) (by rfl) (fun W hW => ?_) ?_
      rotate_left 1
      · go_simp <;> with_reducible rfl
      simp only [Act.put, List.setIfInBounds_toArray, List.set_cons_succ, List.set_cons_zero]
      refine flow_val ?_ rfl (by kernel_rfl) (by rfl) (fun W hW => ?_) ?_
      rotate_left 1
      · go_simp <;> with_reducible rfl
      simp only [Act.put, List.setIfInBounds_toArray, List.set_cons_succ, List.set_cons_zero]
      refine flow_val ?_ rfl (by kernel_rfl) (by rfl) (fun W hW => ?_) ?_
      rotate_left 1
      · obtain ⟨q0, q1, q2⟩ := HQ.out W hW; go_simp <;> with_reducible rfl
      simp only [Act.put, List.setIfInBounds_toArray, List.set_cons_succ, List.set_cons_zero]
      refine flow_val ?_ rfl (by kernel_rfl) (by rfl) (fun W hW => ?_) ?_
      rotate_left 1
      · go_simp <;> with_reducible rfl
      simp only [Act.put, List.setIfInBounds_toArray, List.set_cons_succ, List.set_cons_zero]
      refine flow_val ?_ rfl (by kernel_rfl) (by rfl) (fun W hW => ?_) ?_
      rotate_left 1
      · go_simp <;> with_reducible rfl
      simp only [Act.put, List.setIfInBounds_toArray, List.set_cons_succ, List.set_cons_zero]
      refine flow_val ?_ rfl (by kernel_rfl) (by rfl) (fun W hW => ?_) ?_
      rotate_left 1
      · go_simp <;> with_reducible rfl
      simp only [Act.put, List.setIfInBounds_toArray, List.set_cons_succ, List.set_cons_zero]
      refine flow_val ?_ rfl (by kernel_rfl) (by rfl) (fun W hW => ?_) ?_
      rotate_left 1
      · go_simp <;> with_reducible rfl
      simp only [Act.put, List.setIfInBounds_toArray, List.set_cons_succ, List.set_cons_zero]
      refine flow_val ?_ rfl (by kernel_rfl) (by rfl) (fun W hW => ?_) ?_
      rotate_left 1
      · obtain ⟨q0, q1, q2⟩ := HQ.out W hW; go_simp <;> with_reducible rfl
      simp only [Act.put, List.setIfInBounds_toArray, List.set_cons_succ, List.set_cons_zero]
      refine flow_val ?_ rfl (by kernel_rfl) (by rfl) (fun W hW => ?_) ?_
      rotate_left 1
      · go_simp <;> with_reducible rfl
      simp only [Act.put, List.setIfInBounds_toArray, List.set_cons_succ, List.set_cons_zero]
      refine flow_val ?_ rfl (by kernel_rfl) (by rfl) (fun W hW => ?_) ?_
      rotate_left 1
      · go_simp <;> with_reducible rfl
      simp only [Act.put, List.setIfInBounds_toArray, List.set_cons_succ, List.set_cons_zero]
      refine flow_val ?_ rfl (by kernel_rfl) (by rfl) (fun W hW => ?_) ?_
      rotate_left 1
      · go_simp <;> with_reducible rfl
      simp only [Act.put, List.setIfInBounds_toArray, List.set_cons_succ, List.set_cons_zero]
      refine flow_val ?_ rfl (by kernel_rfl) (by rfl) (fun W hW => ?_) ?_
      rotate_left 1
      · go_simp <;> with_reducible rfl
      simp only [Act.put, List.setIfInBounds_toArray, List.set_cons_succ, List.set_cons_zero]
      refine flow_val ?_ rfl (by kernel_rfl) (by rfl) (fun W hW => ?_) ?_
      rotate_left 1
      · obtain ⟨q0, q1, q2⟩ := HQ.out W hW; go_simp <;> with_reducible rfl
      simp only [Act.put, List.setIfInBounds_toArray, List.set_cons_succ, List.set_cons_zero]
      refine flow_val ?_ rfl (by kernel_rfl) (by rfl) (fun W hW => ?_) ?_
      rotate_left 1
      · go_simp <;> with_reducible rfl
      simp only [Act.put, List.setIfInBounds_toArray, List.set_cons_succ, List.set_cons_zero]
      refine flow_turn (.pointer (some ⟨w.heap.size, 0, none⟩)) (Mk w w.heap.size (putS s0 (numB z.n))) rfl (by kernel_rfl) (by rfl) (by kernel_rfl) (fun W hW hC => ⟨_, _, _, by go_simp, (mk_num hC z.n HOK.out.1).mono fun e w' ⟨he, hk⟩ => ⟨he, hk.below, hk⟩⟩) ?_
      simp only [Act.put, List.setIfInBounds_toArray, List.set_cons_succ, List.set_cons_zero]
      refine flow_turn (.pointer (some ⟨w.heap.size, 0, none⟩)) (Mk w w.heap.size (putS (putS s0 (numB z.n)) (textB (natsOf z.s)))) rfl (by kernel_rfl) (by rfl) (by kernel_rfl) (fun W hW hC => ⟨_, _, _, by go_simp, (mk_text hC z.s HOK.out.2).mono fun e w' ⟨he, hk⟩ => ⟨he, ⟨hk.below, trivial⟩, hk⟩⟩) ?_
      simp only [Act.put, List.setIfInBounds_toArray, List.set_cons_succ, List.set_cons_zero]
      refine flow_turn (.pointer (some ⟨w.heap.size, 0, none⟩)) (Mk w w.heap.size (putOp s0 z)) rfl (by kernel_rfl) (by rfl) (by kernel_rfl) (fun W hW hC => ⟨_, _, _, by go_simp, (mk_flag hC (z.k == 1)).mono fun e w' ⟨he, hk⟩ => ⟨he, ⟨⟨hk.below, trivial⟩, trivial⟩, hk⟩⟩) ?_
      simp only [Act.put, List.setIfInBounds_toArray, List.set_cons_succ, List.set_cons_zero]
      refine flow_val ?_ rfl (by kernel_rfl) (by rfl) (fun W hW => ?_) ?_
      rotate_left 1
      · go_simp <;> with_reducible rfl
      simp only [Act.put, List.setIfInBounds_toArray, List.set_cons_succ, List.set_cons_zero]
      refine flow_done2 ?_
      intro W _ hC
      have HC := Lib.hid hC
      clear hC
      go_wp2
      go_roundw
      case rel => exact ⟨rfl, k + 1, hlt, by omega, by go_num, by rw [HSucc.out]; exact HC.out⟩
      case measure => simp [intOf]; omega
    · have hstop : zs.take 500 = zs.take k := by
        by_cases h : k < zs.length
        · obtain rfl : k = 500 := by omega
          rfl
        · rw [List.take_of_length_le (by omega), List.take_of_length_le (by omega)]
      have hkl : k = (zs.take 500).length := by rw [List.length_take]; omega
      obtain ⟨ys, hys⟩ : ∃ ys, zs.take 500 = ys := ⟨_, rfl⟩
      rw [← hstop, hys] at HM
      have HKL := Lib.hid (hys ▸ hkl)
      have HYS := Lib.hid hys
      have hd : (decide ((k : Int) < (zs.length : Int)) && decide ((k : Int) < 500)) = false := by
        rw [Bool.and_eq_false_iff]
        simp
        omega
      have hml := mkAll_len ys
      have HML := Lib.hid hml
      have hcase : (¬ (k : Int) < (zs.length : Int)) ∨ ((k : Int) < (zs.length : Int) ∧ ¬ (k : Int) < 500) := by omega
      clear hlt hstop hkl hys hd hml
      have hdone : ∀ (s : List Nat × Bool), s = mkAll ys → True := fun _ _ => trivial
      clear hdone
      rcases hcase with hcase | ⟨hcase1, hcase⟩
      all_goals
        go_wp2_with fail
        refine (mk_done HM.out HML.out).mono ?_
        rintro e w3 ⟨v, rfl, hv, hvg, _, hm3⟩
        by_cases hlong : (mkAll ys).2 = true
        · rw [hlong] at hv ⊢
          have HM3 := Lib.hid hm3
          obtain ⟨A3, c3, rfl, _, _, _⟩ := hv
          simp only [if_true]
          clear hm3 hlong
          go_wp2
          go_ret
          exact ⟨rfl, HM3.out.below⟩
        · have hlong' : (mkAll ys).2 = false := by simpa using hlong
          obtain ⟨hbytes, hsz⟩ := mkAll_ok ys hlong'
          rw [hlong'] at hv ⊢
          simp only [Bool.false_eq_true, if_false] at hv ⊢
          rw [hbytes] at hv
          have hlb : ∀ b ∈ ys.flatMap cellsOp, b < 256 := cellsOps_lt ys
          have HRest : Hid (restOp ys 0 = ys.flatMap cellsOp) := Lib.hid (by unfold restOp; rw [List.drop_zero])
          have htot : (ys.flatMap cellsOp).length ≤ 140737488355328 := by have := HML.out; rw [hbytes] at this; omega
          obtain ⟨R, hR⟩ : ∃ R, ys.flatMap cellsOp = R := ⟨_, rfl⟩
          rw [hR] at hv hlb htot HRest
          clear hR
          have HBy := Lib.hid hv
          have HSz := Lib.hid hsz
          have HLb := Lib.hid hlb
          have HTot := Lib.hid htot
          have HM3 := Lib.hid hm3
          obtain ⟨A3, c3, rfl, _, _, _⟩ := hv
          clear hm3 hlong hlong' hbytes hsz hlb htot
          go_wp2_with fail
          refine (tk_take HM3.out.below _ _ HBy.out HLb.out HTot.out).mono ?_
          rintro e w4 ⟨q, rfl, ht4⟩
          have HT4 := Lib.hid ht4
          clear ht4
          go_wp2_with fail
          go_loopw [8] (fun i wr => ∃ j : Nat, j ≤ ys.length ∧ i = .int .i64 j ∧ Tk w q (restOp ys j, false) wr) (fun i _ => (500 - (intOf i).toNat))
          case atStart => exact ⟨0, Nat.zero_le _, rfl, by rw [HRest.out]; exact HT4.out⟩
          case round =>
            obtain ⟨j, hj, rfl, ht⟩ := hrel
            have HT := Lib.hid ht
            clear ht HT4
            have hyl : ys.length ≤ 500 ∧ ys.length ≤ zs.length := by rw [← HYS.out, List.length_take]; omega
            by_cases hjl : j < ys.length
            · obtain ⟨g, o, rfl, hg, hcell⟩ := HZ.out.at_ (by omega)
              obtain ⟨q0, q1, q2, _, _⟩ := hcell j (by omega)
              have hyj : zs[j]'(by omega) = ys[j] := by
                have := HYS.out
                subst this
                rw [List.getElem_take]
              rw [hyj] at q0 q1 q2
              have HOK := Lib.hid (HZ.out.2.2.2 ys[j] (by rw [← hyj]; exact List.getElem_mem _))
              have HL := Lib.hid (HSz.out ys[j] (List.getElem_mem hjl))
              have HSucc := Lib.hid (restOp_succ ys j hjl)
              have HQ : Hid (∀ W, Below w.heap.size w W → W.cell? ⟨g, o + j * 5, none⟩ = some (.int .i64 ys[j].k) ∧ W.cell? ⟨g, o + j * 5 + 1, none⟩ = some (.int .i64 ys[j].n) ∧ W.cell? ⟨g, o + j * 5 + 2, none⟩ = some (.string ys[j].s)) := Lib.hid (fun W hW => ⟨(hW.cell (p := ⟨g, o + j * 5, none⟩) hg).trans q0, (hW.cell (p := ⟨g, o + j * 5 + 1, none⟩) hg).trans q1, (hW.cell (p := ⟨g, o + j * 5 + 2, none⟩) hg).trans q2⟩)
              have i0 : (0 : Int) ≤ (j : Int) := by omega
              have i1 : (j : Int) < (zs.length : Int) := by omega
              obtain ⟨z, hzk⟩ : ∃ z, ys[j] = z := ⟨_, rfl⟩
              rw [hzk] at HOK HSucc HQ HL
              rw [HSucc.out] at HT
              obtain ⟨r, hr⟩ : ∃ r, restOp ys (j + 1) = r := ⟨_, rfl⟩
              rw [hr] at HT
              have HR := Lib.hid hr
              have HN := Lib.hid (numT_put z.n HOK.out.1 (textB (natsOf z.s) ++ (flagB (z.k == 1) ++ r)) (a := -9223372036854775808) (b := 9223372036854775807) HOK.out.1.1 HOK.out.1.2)
              have HTx := Lib.hid (textT_put (natsOf z.s) (flagB (z.k == 1) ++ r) (most := 262144) (by have := HL.out; omega) (by have := HL.out; omega))
              have HFl := Lib.hid (flagT_put (z.k == 1) r)
              clear hcell q0 q1 q2 hzk hyj hr
              go_wp2_with fail
              refine wp_region_flow2 (fun W => Below w.heap.size w W) (Tk w q (numB z.n ++ (textB (natsOf z.s) ++ (flagB (z.k == 1) ++ r)), false)) [0, 2, 3, 4, 5, 6, 1, 7, 8, 9, 11, 12, 13, 14, 15, 10, 16, 17, 18, 19, 21, 22, 23, 24, 25, 26, 20, 27, 28] (by kernel_rfl) (by kernel_rfl) (by kernel_rfl) HT.out.below.drew (HT.out.keep (Below.refl _ _).drew) ?_
              refine flow_val ?_ rfl (by kernel_rfl) (by rfl) (fun W hW => ?_) ?_
              rotate_left 1
              · go_simp <;> with_reducible rfl
              simp only [Act.put, List.setIfInBounds_toArray, List.set_cons_succ, List.set_cons_zero]
              refine flow_val ?_ rfl (by kernel_rfl) (by rfl) (fun W hW => ?_) ?_
              rotate_left 1
              · go_simp <;> with_reducible rfl
              simp only [Act.put, List.setIfInBounds_toArray, List.set_cons_succ, List.set_cons_zero]
              refine flow_val ?_ rfl (by kernel_rfl) (by rfl) (fun W hW => ?_) ?_
              rotate_left 1
              · go_simp <;> with_reducible rfl
              simp only [Act.put, List.setIfInBounds_toArray, List.set_cons_succ, List.set_cons_zero]
              refine flow_val ?_ rfl (by kernel_rfl) (by rfl) (fun W hW => ?_) ?_
              rotate_left 1
              · go_simp <;> with_reducible rfl
              simp only [Act.put, List.setIfInBounds_toArray, List.set_cons_succ, List.set_cons_zero]
              refine flow_val ?_ rfl (by kernel_rfl) (by rfl) (fun W hW => ?_) ?_
              rotate_left 1
              · go_simp <;> with_reducible rfl
              simp only [Act.put, List.setIfInBounds_toArray, List.set_cons_succ, List.set_cons_zero]
              refine flow_val ?_ rfl (by kernel_rfl) (by rfl) (fun W hW => ?_) ?_
              rotate_left 1
              · obtain ⟨q0, q1, q2⟩ := HQ.out W hW; go_simp <;> with_reducible rfl
              simp only [Act.put, List.setIfInBounds_toArray, List.set_cons_succ, List.set_cons_zero]
              refine flow_turn (.int .i64 z.n) (Tk w q (textB (natsOf z.s) ++ (flagB (z.k == 1) ++ r), false)) rfl (by kernel_rfl) (by rfl) (by kernel_rfl) (fun W hW hC => ⟨_, _, _, by go_simp, (tk_num hC (-9223372036854775808) 9223372036854775807).mono fun e w' ⟨he, hk⟩ => by rw [HN.out] at he hk; exact ⟨he, hk.below, hk⟩⟩) ?_
              simp only [Act.put, List.setIfInBounds_toArray, List.set_cons_succ, List.set_cons_zero]
              refine flow_val ?_ rfl (by kernel_rfl) (by rfl) (fun W hW => ?_) ?_
              rotate_left 1
              · go_simp <;> with_reducible rfl
              simp only [Act.put, List.setIfInBounds_toArray, List.set_cons_succ, List.set_cons_zero]
              refine flow_val ?_ rfl (by kernel_rfl) (by rfl) (fun W hW => ?_) ?_
              rotate_left 1
              · go_simp <;> with_reducible rfl
              simp only [Act.put, List.setIfInBounds_toArray, List.set_cons_succ, List.set_cons_zero]
              refine flow_val ?_ rfl (by kernel_rfl) (by rfl) (fun W hW => ?_) ?_
              rotate_left 1
              · go_simp <;> with_reducible rfl
              simp only [Act.put, List.setIfInBounds_toArray, List.set_cons_succ, List.set_cons_zero]
              refine flow_val ?_ rfl (by kernel_rfl) (by rfl) (fun W hW => ?_) ?_
              rotate_left 1
              · go_simp <;> with_reducible rfl
              simp only [Act.put, List.setIfInBounds_toArray, List.set_cons_succ, List.set_cons_zero]
              refine flow_val ?_ rfl (by kernel_rfl) (by rfl) (fun W hW => ?_) ?_
              rotate_left 1
              · go_simp <;> with_reducible rfl
              simp only [Act.put, List.setIfInBounds_toArray, List.set_cons_succ, List.set_cons_zero]
              refine flow_val ?_ rfl (by kernel_rfl) (by rfl) (fun W hW => ?_) ?_
              rotate_left 1
              · go_simp <;> with_reducible rfl
              simp only [Act.put, List.setIfInBounds_toArray, List.set_cons_succ, List.set_cons_zero]
              refine flow_val ?_ rfl (by kernel_rfl) (by rfl) (fun W hW => ?_) ?_
              rotate_left 1
              · go_simp <;> with_reducible rfl
              simp only [Act.put, List.setIfInBounds_toArray, List.set_cons_succ, List.set_cons_zero]
              refine flow_val ?_ rfl (by kernel_rfl) (by rfl) (fun W hW => ?_) ?_
              rotate_left 1
              · obtain ⟨q0, q1, q2⟩ := HQ.out W hW.1; go_simp <;> with_reducible rfl
              simp only [Act.put, List.setIfInBounds_toArray, List.set_cons_succ, List.set_cons_zero]
              refine flow_turn (.string z.s) (Tk w q (flagB (z.k == 1) ++ r, false)) rfl (by kernel_rfl) (by rfl) (by kernel_rfl) (fun W hW hC => ⟨_, _, _, by go_simp, (tk_text hC 262144).mono fun e w' ⟨he, hk⟩ => by rw [HTx.out] at he hk; simp only at he; rw [strOf_natsOf] at he; exact ⟨he, ⟨hk.below, trivial⟩, hk⟩⟩) ?_
              simp only [Act.put, List.setIfInBounds_toArray, List.set_cons_succ, List.set_cons_zero]
              refine flow_val ?_ rfl (by kernel_rfl) (by rfl) (fun W hW => ?_) ?_
              rotate_left 1
              · go_simp <;> with_reducible rfl
              simp only [Act.put, List.setIfInBounds_toArray, List.set_cons_succ, List.set_cons_zero]
              refine flow_val ?_ rfl (by kernel_rfl) (by rfl) (fun W hW => ?_) ?_
              rotate_left 1
              · go_simp <;> with_reducible rfl
              simp only [Act.put, List.setIfInBounds_toArray, List.set_cons_succ, List.set_cons_zero]
              refine flow_val ?_ rfl (by kernel_rfl) (by rfl) (fun W hW => ?_) ?_
              rotate_left 1
              · go_simp <;> with_reducible rfl
              simp only [Act.put, List.setIfInBounds_toArray, List.set_cons_succ, List.set_cons_zero]
              refine flow_val ?_ rfl (by kernel_rfl) (by rfl) (fun W hW => ?_) ?_
              rotate_left 1
              · go_simp <;> with_reducible rfl
              simp only [Act.put, List.setIfInBounds_toArray, List.set_cons_succ, List.set_cons_zero]
              refine flow_val ?_ rfl (by kernel_rfl) (by rfl) (fun W hW => ?_) ?_
              rotate_left 1
              · go_simp <;> with_reducible rfl
              simp only [Act.put, List.setIfInBounds_toArray, List.set_cons_succ, List.set_cons_zero]
              refine flow_val ?_ rfl (by kernel_rfl) (by rfl) (fun W hW => ?_) ?_
              rotate_left 1
              · go_simp <;> with_reducible rfl
              simp only [Act.put, List.setIfInBounds_toArray, List.set_cons_succ, List.set_cons_zero]
              refine flow_val ?_ rfl (by kernel_rfl) (by rfl) (fun W hW => ?_) ?_
              rotate_left 1
              · go_simp <;> with_reducible rfl
              simp only [Act.put, List.setIfInBounds_toArray, List.set_cons_succ, List.set_cons_zero]
              refine flow_val ?_ rfl (by kernel_rfl) (by rfl) (fun W hW => ?_) ?_
              rotate_left 1
              · go_simp <;> with_reducible rfl
              simp only [Act.put, List.setIfInBounds_toArray, List.set_cons_succ, List.set_cons_zero]
              refine flow_val ?_ rfl (by kernel_rfl) (by rfl) (fun W hW => ?_) ?_
              rotate_left 1
              · obtain ⟨q0, q1, q2⟩ := HQ.out W hW.1.1; go_simp <;> with_reducible rfl
              simp only [Act.put, List.setIfInBounds_toArray, List.set_cons_succ, List.set_cons_zero]
              refine flow_val ?_ rfl (by kernel_rfl) (by rfl) (fun W hW => ?_) ?_
              rotate_left 1
              · go_simp <;> with_reducible rfl
              simp only [Act.put, List.setIfInBounds_toArray, List.set_cons_succ, List.set_cons_zero]
              refine flow_turn (.bool (z.k == 1)) (Tk w q (r, false)) rfl (by kernel_rfl) (by rfl) (by kernel_rfl) (fun W hW hC => ⟨_, _, _, by go_simp, (tk_flag hC).mono fun e w' ⟨he, hk⟩ => by rw [HFl.out] at he hk; exact ⟨he, ⟨⟨hk.below, trivial⟩, trivial⟩, hk⟩⟩) ?_
              simp only [Act.put, List.setIfInBounds_toArray, List.set_cons_succ, List.set_cons_zero]
              refine flow_val ?_ rfl (by kernel_rfl) (by rfl) (fun W hW => ?_) ?_
              rotate_left 1
              · go_simp <;> with_reducible rfl
              simp only [Act.put, List.setIfInBounds_toArray, List.set_cons_succ, List.set_cons_zero]
              refine flow_val ?_ rfl (by kernel_rfl) (by rfl) (fun W hW => ?_) ?_
              rotate_left 1
              · go_simp <;> with_reducible rfl
              simp only [Act.put, List.setIfInBounds_toArray, List.set_cons_succ, List.set_cons_zero]
              refine flow_done2 ?_
              intro W _ hC
              have HC := Lib.hid hC
              clear hC
              go_wp2
              go_roundw
              case rel => exact ⟨j + 1, hjl, by go_num, by rw [HR.out]; exact HC.out⟩
              case measure => simp [intOf]; omega
            · obtain rfl : j = ys.length := by omega
              have hjk : ys.length = k := HKL.out.symm
              have HJK := Lib.hid hjk
              have hd1 : ¬ ((ys.length : Int) < (zs.length : Int)) ∨ ¬ ((ys.length : Int) < 500) := by omega
              have hrest : restOp ys ys.length = [] := by unfold restOp; simp
              rw [hrest] at HT
              have HD : Hid (doneT ([], false) = 0) := Lib.hid (by decide +kernel)
              clear hjk hrest hcase
              have hcases : (¬ (ys.length : Int) < (zs.length : Int)) ∨ ((ys.length : Int) < (zs.length : Int) ∧ ¬ (ys.length : Int) < 500) := by omega
              clear hd1
              rcases hcases with hc | ⟨hc1, hc⟩
              all_goals
                go_wp2_with fail
                refine (tk_done HT.out).mono ?_
                rintro e w6 ⟨rfl, rfl⟩
                rw [HD.out]
                go_wp2
                go_ret
                exact ⟨rfl, HT.out.below⟩
end Go.Proofs.Ytlljeghlfijdnaa
