/- The walk of the law PlanVisits. -/
import Derived.Test.YtlcnkicmepcppaaPLives
namespace Go.Proofs.Ytlcnkicmepcppaa
open Go.RowKit

set_option maxRecDepth 100000 in
set_option maxHeartbeats 1000000 in
theorem visits_any (first regions : Int) (w : World) (hi : -9223372036854775808 ≤ first ∧ first ≤ 9223372036854775807) : Calls Try.prog 3 #[.int .i64 first, .int .i64 regions] w fun e W => e = .returned (.bool true) ∧ Below w.heap.size w W := by
  go_enter Try.func3, Try.ntmps3
  go_wp2_with fail
  refine (visit_any first regions w hi).mono ?_
  rintro e w1 ⟨v, rfl, hown, hb1⟩
  obtain ⟨A, c, rfl, _, _, hrd, _⟩ := own_slice hown
  have HB1 := Lib.hid hb1
  have HRD := Lib.hid hrd
  clear hown hrd hb1
  obtain ⟨vs, hvs⟩ : ∃ vs, visitS first regions = vs := ⟨_, rfl⟩
  rw [hvs] at HRD ⊢
  have HVS := Lib.hid hvs
  clear hvs
  obtain ⟨m, hm⟩ : ∃ m, vs.length = m := ⟨_, rfl⟩
  rw [hm]
  have HM := Lib.hid hm
  clear hm
  go_wp2_with fail
  refine (plives_any w1).mono ?_
  rintro e w2 ⟨rfl, hb2⟩
  have HB2 := Lib.hid hb2
  have HB := Lib.hid (HB1.out.trans (hb2.mono HB1.out.size))
  clear hb2
  by_cases hc : 1 ≤ regions ∧ regions ≤ 8 ∧ 0 ≤ first ∧ first < regions
  · have hv : visitS first regions = visK first regions regions.toNat := if_pos hc
    obtain ⟨h1, h2, h3, h4⟩ := hc
    obtain ⟨r, rfl⟩ : ∃ r : Nat, regions = r := ⟨regions.toNat, by omega⟩
    obtain ⟨f, rfl⟩ : ∃ f : Nat, first = f := ⟨first.toNat, by omega⟩
    rw [Int.toNat_natCast] at hv
    obtain rfl : m = r := by rw [← HM.out, ← HVS.out, hv, visK_len]
    have HV := Lib.hid (HVS.out.symm.trans hv)
    clear hv
    have d1 : decide ((m : Int) < 1) = false := by simp; omega
    have d2 : decide ((8 : Int) < (m : Int)) = false := by simp; omega
    have d3 : decide ((f : Int) < 0) = false := by simp
    have d4 : decide (m ≤ f) = false := by simp; omega
    have hm0 : ((m : Int) == 0) = false := by simp; omega
    go_wp2_with fail
    go_loopw [6] (fun iv wr => Below w2.heap.size w2 wr ∧ ∃ k : Nat, k ≤ m ∧ iv = .int .i64 k) (fun iv => fun _ => m - (intOf iv).toNat)
    case atStart => exact ⟨Below.refl _ _, 0, Nat.zero_le _, rfl⟩
    case round =>
      obtain ⟨hbr, k, hk, rfl⟩ := hrel
      have HBR := Lib.hid hbr
      clear hbr
      by_cases hlt : k < m
      · have hkl : k < vs.length := by have := HM.out; omega
        obtain ⟨g, o, rfl, hg, hcell⟩ := HRD.out.2 (by omega)
        have c0 : wr.cell? ⟨g, o + k, none⟩ = some (.int .i64 (((f : Int) + k) % (m : Int))) := ((HB2.out.trans (HBR.out.mono HB2.out.size)).cell (p := ⟨g, o + k, none⟩) hg).trans (hcell k _ (by rw [List.getElem?_map, List.getElem?_eq_getElem hkl]; simp only [HV.out, visK, List.getElem_map, List.getElem_range, Option.map_some, i64v]))
        have hlt' : decide ((k : Int) < (m : Int)) = true := by simp; omega
        have hltI : (k : Int) < (m : Int) := by omega
        have hmI : ¬ (m : Int) = 0 := by omega
        clear hcell hg
        go_wp2_with fail
        go_region
        go_wp2_with fail
        go_roundw
        case rel => exact ⟨HBR.out.drew, k + 1, hlt, by go_num⟩
        case measure => simp [intOf]; omega
      · have ekm : k = m := by omega
        subst ekm
        go_wp2
        go_ret
        exact ⟨by simp, HB.out.trans (HBR.out.mono HB.out.size)⟩
  · have hm0 : m = 0 := by rw [← HM.out, ← HVS.out, show visitS first regions = [] from if_neg hc]; rfl
    subst hm0
    by_cases c1 : 1 ≤ regions
    · have d1 : decide (regions < 1) = false := by simp; omega
      by_cases c2 : regions ≤ 8
      · have d2 : decide ((8 : Int) < regions) = false := by simp; omega
        by_cases c3 : 0 ≤ first
        · have c4 : ¬ first < regions := fun h => hc ⟨c1, c2, c3, h⟩
          have d3 : decide (first < 0) = false := by simp; omega
          have d4 : decide (regions ≤ first) = true := by simp; omega
          clear hc
          go_wp2
          go_ret
          exact ⟨by simp, HB.out⟩
        · have d3 : decide (first < 0) = true := by simp; omega
          clear hc
          go_wp2
          go_ret
          exact ⟨by simp, HB.out⟩
      · have d2 : decide ((8 : Int) < regions) = true := by simp; omega
        clear hc
        go_wp2
        go_ret
        exact ⟨by simp, HB.out⟩
    · have d1 : decide (regions < 1) = true := by simp; omega
      clear hc
      go_wp2
      go_ret
      exact ⟨by simp, HB.out⟩
end Go.Proofs.Ytlcnkicmepcppaa
