/- The law CountAdds: sums and differences of any numbers. The walk. -/
import Derived.Test.YtochhjdjfgiaeaaNLives
namespace Go.Proofs.Ytochhjdjfgiaeaa
open Go.RowKit

set_option maxRecDepth 100000 in
set_option maxHeartbeats 2000000 in
theorem adds_any (a n : Int) (w : World) :
    Calls Try.prog 3 #[.int .i64 a, .int .i64 n] w fun e w' => e = .returned (.bool true) ∧ Below w.heap.size w w' := by
  go_enter Try.func3, Try.ntmps3
  go_wp2_with fail
  refine (add_any a n w).mono ?_
  rintro e w1 ⟨rfl, h1⟩
  have H1 := Lib.hid h1
  clear h1
  obtain ⟨R, hR⟩ : ∃ R, addR a n = R := ⟨_, rfl⟩
  obtain ⟨E, hE⟩ : ∃ E, addE a n = E := ⟨_, rfl⟩
  rw [hR, hE]
  have HR := Lib.hid hR
  have HE := Lib.hid hE
  clear hR hE
  go_wp2_with fail
  refine (less_any a n w1).mono ?_
  rintro e w2 ⟨rfl, h2⟩
  have H2 := Lib.hid (H1.out.trans (h2.mono H1.out.size))
  clear h2
  obtain ⟨D, hD⟩ : ∃ D, lessR a n = D := ⟨_, rfl⟩
  obtain ⟨F, hF⟩ : ∃ F, lessE a n = F := ⟨_, rfl⟩
  rw [hD, hF]
  have HD := Lib.hid hD
  have HF := Lib.hid hF
  clear hD hF
  go_wp2_with fail
  refine (lives_any w2).mono ?_
  rintro e w3 ⟨rfl, h3⟩
  have H3 := Lib.hid (H2.out.trans (h3.mono H2.out.size))
  clear h3
  go_wp2_with fail
  refine (may_any n w3).mono ?_
  rintro e w4 ⟨rfl, rfl⟩
  go_wp2_with fail
  refine (xmay_any n w3).mono ?_
  rintro e w4 ⟨rfl, rfl⟩
  have hxx : (mayN n != mayN n) = false := by cases mayN n <;> rfl
  obtain ⟨M, hM⟩ : ∃ M, mayN n = M := ⟨_, rfl⟩
  have HM := Lib.hid hM
  rw [hM] at hxx ⊢
  clear hM
  go_wp2_with fail
  refine (xmay_any a w3).mono ?_
  rintro e w4 ⟨rfl, rfl⟩
  cases hA : mayN a
  · have HA := Lib.hid hA
    clear hA
    obtain rfl : E = 1 := by rw [← HE.out]; unfold addE; rw [if_neg (by rw [HA.out]; simp)]
    obtain rfl : F = 1 := by rw [← HF.out]; unfold lessE; rw [if_neg (by rw [HA.out]; simp)]
    obtain rfl : R = 0 := by rw [← HR.out]; unfold addR; rw [HE.out]; rfl
    obtain rfl : D = 0 := by rw [← HD.out]; unfold lessR; rw [HF.out]; rfl
    go_wp2
    go_ret
    exact ⟨rfl, H3.out⟩
  · have HA := Lib.hid hA
    clear hA
    go_wp2_with fail
    refine (xmay_any n w3).mono ?_
    rintro e w4 ⟨rfl, rfl⟩
    rw [HM.out]
    cases M
    · obtain rfl : E = 1 := by rw [← HE.out]; unfold addE; rw [if_neg (by rw [HM.out]; simp)]
      obtain rfl : F = 1 := by rw [← HF.out]; unfold lessE; rw [if_neg (by rw [HM.out]; simp)]
      obtain rfl : R = 0 := by rw [← HR.out]; unfold addR; rw [HE.out]; rfl
      obtain rfl : D = 0 := by rw [← HD.out]; unfold lessR; rw [HF.out]; rfl
      go_wp2
      go_ret
      exact ⟨rfl, H3.out⟩
    · have ra := mayN_iff.1 HA.out
      have rn := mayN_iff.1 HM.out
      by_cases hs : a + n ≤ 1099511627776
      · obtain rfl : E = 0 := by rw [← HE.out]; unfold addE; rw [if_pos ⟨HA.out, HM.out⟩, if_neg (by omega)]
        obtain rfl : R = a + n := by rw [← HR.out]; unfold addR; rw [HE.out]; rfl
        by_cases hd : n ≤ a
        · obtain rfl : F = 0 := by rw [← HF.out]; unfold lessE; rw [if_pos ⟨HA.out, HM.out⟩, if_neg (by omega)]
          obtain rfl : D = a - n := by rw [← HD.out]; unfold lessR; rw [HF.out]; rfl
          go_wp2
          go_ret
          exact ⟨rfl, H3.out⟩
        · obtain rfl : F = 51 := by rw [← HF.out]; unfold lessE; rw [if_pos ⟨HA.out, HM.out⟩, if_pos (by omega)]
          obtain rfl : D = 0 := by rw [← HD.out]; unfold lessR; rw [HF.out]; rfl
          go_wp2
          go_ret
          exact ⟨rfl, H3.out⟩
      · obtain rfl : E = 50 := by rw [← HE.out]; unfold addE; rw [if_pos ⟨HA.out, HM.out⟩, if_pos (by omega)]
        obtain rfl : R = 0 := by rw [← HR.out]; unfold addR; rw [HE.out]; rfl
        by_cases hd : n ≤ a
        · obtain rfl : F = 0 := by rw [← HF.out]; unfold lessE; rw [if_pos ⟨HA.out, HM.out⟩, if_neg (by omega)]
          obtain rfl : D = a - n := by rw [← HD.out]; unfold lessR; rw [HF.out]; rfl
          go_wp2
          go_ret
          exact ⟨rfl, H3.out⟩
        · obtain rfl : F = 51 := by rw [← HF.out]; unfold lessE; rw [if_pos ⟨HA.out, HM.out⟩, if_pos (by omega)]
          obtain rfl : D = 0 := by rw [← HD.out]; unfold lessR; rw [HF.out]; rfl
          go_wp2
          go_ret
          exact ⟨rfl, H3.out⟩
end Go.Proofs.Ytochhjdjfgiaeaa
