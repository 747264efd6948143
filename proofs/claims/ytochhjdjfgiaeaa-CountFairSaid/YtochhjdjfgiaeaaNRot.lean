/- slices.rotateCmpFunc on parts. -/
import Derived.Test.YtochhjdjfgiaeaaNSwap
namespace Go.Proofs.Ytochhjdjfgiaeaa
open Go.RowKit

set_option maxRecDepth 100000 in
set_option maxHeartbeats 4000000 in
theorem rot_any (a m b base g c : Nat) (rs : List (Nat × Nat)) (w : World) (ha : a < m) (hmb : m < b) (hb : b ≤ rs.length) (hm : rs.length ≤ 1048576)
    (hown : w.ownsRow base 56 2 (.slice (some ⟨g, 0, none⟩) rs.length c) rs.length (rs.flatMap encQ)) :
    Calls Try.prog 60 #[.slice (some ⟨g, 0, none⟩) rs.length c, .int .i64 (a : Int), .int .i64 (m : Int), .int .i64 (b : Int), .func (.func 31) #[] #[]] w fun e w' => e = .returned (.tuple #[]) ∧ (∃ l, SymP.Rot a m b rs l ∧ w'.ownsRow base 56 2 (.slice (some ⟨g, 0, none⟩) rs.length c) rs.length (l.flatMap encQ)) ∧ Fr base [56] [] w w' := by
  have HOWN := Lib.hid hown
  have hs1 : (m : Int) - (a : Int) = ((m - a : Nat) : Int) := by omega
  have hs2 : (b : Int) - (m : Int) = ((b - m : Nat) : Int) := by omega
  have hw1 : IntKind.i64.wrap ((m - a : Nat) : Int) = ((m - a : Nat) : Int) := IntWalk.i64_in _ (by omega)
  have hw2 : IntKind.i64.wrap ((b - m : Nat) : Int) = ((b - m : Nat) : Int) := IntWalk.i64_in _ (by omega)
  have HMA : Hid (m - (m - a) = a) := Lib.hid (by omega)
  have HMB : Hid (m + (b - m) = b) := Lib.hid (by omega)
  have hia : 0 < m - a ∧ m - a ≤ m := by omega
  have hib : 0 < b - m ∧ m + (b - m) ≤ rs.length := by omega
  obtain ⟨i0, hi0⟩ : ∃ i0, m - a = i0 := ⟨_, rfl⟩
  obtain ⟨j0, hj0⟩ : ∃ j0, b - m = j0 := ⟨_, rfl⟩
  rw [hi0] at hs1 hw1 HMA hia
  rw [hj0] at hs2 hw2 HMB hib
  clear hown hi0 hj0
  go_enter Try.func60, Try.ntmps60
  go_wp2_with fail
  go_loopw [10, 11] (fun iv jv wr => ∃ (i j : Nat) (l : List (Nat × Nat)), 0 < i ∧ i ≤ m ∧ 0 < j ∧ m + j ≤ rs.length ∧ iv = .int .i64 (i : Int) ∧ jv = .int .i64 (j : Int) ∧ l.length = rs.length ∧ (∀ l', SymP.Rot (m - i) m (m + j) l l' → SymP.Rot a m b rs l') ∧ wr.ownsRow base 56 2 (.slice (some ⟨g, 0, none⟩) rs.length c) rs.length (l.flatMap encQ) ∧ Fr base [56] [] w wr) (fun iv jv _ => (intOf iv).toNat + (intOf jv).toNat)
  case atStart => exact ⟨i0, j0, rs, hia.1, hia.2, hib.1, hib.2, rfl, rfl, rfl, fun l' h => by rwa [HMA.out, HMB.out] at h, HOWN.out, Fr.refl w⟩
  case round =>
    obtain ⟨i, j, l, h1, h2, h3, h4, rfl, rfl, hll, hrot, hown, hfr⟩ := hrel
    have hown' := hown
    rw [← hll] at hown'
    have HLL := Lib.hid hll
    have HROT := Lib.hid hrot
    have HFR := Lib.hid hfr
    obtain ⟨x, hx⟩ : ∃ x, m - i = x := ⟨_, rfl⟩
    have hmx : (m : Int) - (i : Int) = (x : Int) := by omega
    have hwx : IntKind.i64.wrap (x : Int) = (x : Int) := IntWalk.i64_in _ (by omega)
    have HX := Lib.hid hx
    have HOW := Lib.hid hown'
    by_cases heq : i = j
    · subst heq
      have HS := Lib.hid (swr_any x m i base g c l wr (by omega) (by omega) (by omega) hown')
      rw [hll] at HS
      clear hll hrot hown hfr hown' hx
      go_wp2_with fail
      refine HS.out.mono ?_
      rintro e w1 ⟨rfl, ho1, hf1⟩
      have HO1 := Lib.hid ho1
      have HF1 := Lib.hid hf1
      clear ho1 hf1
      go_wp2_with fail
      go_end0
      refine ⟨rfl, ⟨_, HROT.out _ ?_, HO1.out⟩, HFR.out.trans HF1.out⟩
      have := SymP.rot_eq (m := m) (i := i) (l := l) h2 (by rw [HLL.out]; exact h4)
      rwa [HX.out] at this ⊢
    · have hne : ((i : Int) == (j : Int)) = false := by rw [beq_eq_false_iff_ne]; omega
      by_cases hgt : j < i
      · have HS := Lib.hid (swr_any x m j base g c l wr (by omega) (by omega) (by omega) hown')
        rw [hll] at HS
        have hgt' : (j : Int) < (i : Int) := by omega
        obtain ⟨i', hi'⟩ : ∃ i', i - j = i' := ⟨_, rfl⟩
        have hsi : (i : Int) - (j : Int) = (i' : Int) := by omega
        have hwi : IntKind.i64.wrap (i' : Int) = (i' : Int) := IntWalk.i64_in _ (by omega)
        have HI := Lib.hid hi'
        clear hll hrot hown hfr hown' hx hi' heq
        go_wp2_with fail
        refine HS.out.mono ?_
        rintro e w1 ⟨rfl, ho1, hf1⟩
        have HO1 := Lib.hid ho1
        have HF1 := Lib.hid hf1
        clear ho1 hf1
        go_wp2_with fail
        go_roundw
        case rel =>
          have hii := HI.out
          refine ⟨i', j, _, by omega, by omega, h3, h4, by go_num, rfl, by rw [SymP.swR_len]; exact HLL.out, fun l' h => HROT.out l' ?_, HO1.out, HFR.out.trans HF1.out⟩
          refine SymP.rot_gt h2 hgt (by rw [HLL.out]; exact h4) ?_
          rw [HI.out, HX.out]
          exact h
        case measure => have := HI.out; simp [intOf]; omega
      · obtain ⟨y, hy⟩ : ∃ y, m + j - i = y := ⟨_, rfl⟩
        have hlt : i < j := by omega
        have hsy : (m : Int) + (j : Int) - (i : Int) = (y : Int) := by omega
        have hwy : IntKind.i64.wrap (y : Int) = (y : Int) := IntWalk.i64_in _ (by omega)
        have hwmj : IntKind.i64.wrap ((m : Int) + (j : Int)) = (m : Int) + (j : Int) := IntWalk.i64_in _ (by omega)
        have HS := Lib.hid (swr_any x y i base g c l wr (by omega) (by omega) (by omega) hown')
        rw [hll] at HS
        have hgt' : ¬ (j : Int) < (i : Int) := by omega
        obtain ⟨j', hj'⟩ : ∃ j', j - i = j' := ⟨_, rfl⟩
        have hsj : (j : Int) - (i : Int) = (j' : Int) := by omega
        have hwj : IntKind.i64.wrap (j' : Int) = (j' : Int) := IntWalk.i64_in _ (by omega)
        have HJ := Lib.hid hj'
        have HY := Lib.hid hy
        clear hll hrot hown hfr hown' hx hj' hy heq hgt
        go_wp2_with fail
        refine HS.out.mono ?_
        rintro e w1 ⟨rfl, ho1, hf1⟩
        have HO1 := Lib.hid ho1
        have HF1 := Lib.hid hf1
        clear ho1 hf1
        go_wp2_with fail
        go_roundw
        case rel =>
          have hjj := HJ.out
          refine ⟨i, j', _, h1, h2, by omega, by omega, rfl, by go_num, by rw [SymP.swR_len]; exact HLL.out, fun l' h => HROT.out l' ?_, HO1.out, HFR.out.trans HF1.out⟩
          refine SymP.rot_lt h2 hlt (by rw [HLL.out]; exact h4) ?_
          rw [HJ.out, HX.out, HY.out]
          rw [HX.out] at h
          exact h
        case measure => have := HJ.out; simp [intOf]; omega
end Go.Proofs.Ytochhjdjfgiaeaa
