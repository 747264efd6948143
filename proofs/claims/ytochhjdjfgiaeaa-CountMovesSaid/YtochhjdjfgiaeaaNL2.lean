/- The law CountMoves: what is moved from one to another, and back. The walk. -/
import Derived.Test.YtochhjdjfgiaeaaNLives
namespace Go.Proofs.Ytochhjdjfgiaeaa
open Go.RowKit

set_option maxRecDepth 100000 in
set_option maxHeartbeats 2000000 in
theorem moves_any (f t n : Int) (w : World) :
    Calls Try.prog 4 #[.int .i64 f, .int .i64 t, .int .i64 n] w fun e w' => e = .returned (.bool true) ∧ Below w.heap.size w w' := by
  go_enter Try.func4, Try.ntmps4
  go_wp2_with fail
  refine (move_any f t n w).mono ?_
  rintro e w1 ⟨rfl, h1⟩
  have H1 := Lib.hid h1
  clear h1
  obtain ⟨X, hX⟩ : ∃ X, moveA f t n = X := ⟨_, rfl⟩
  obtain ⟨Y, hY⟩ : ∃ Y, moveB f t n = Y := ⟨_, rfl⟩
  obtain ⟨E, hE⟩ : ∃ E, moveE f t n = E := ⟨_, rfl⟩
  rw [hX, hY, hE]
  have HX := Lib.hid hX
  have HY := Lib.hid hY
  have HE := Lib.hid hE
  clear hX hY hE
  go_wp2_with fail
  refine (lives_any w1).mono ?_
  rintro e w2 ⟨rfl, h2⟩
  have H2 := Lib.hid (H1.out.trans (h2.mono H1.out.size))
  clear h2
  go_wp2_with fail
  refine (xmay_any f w2).mono ?_
  rintro e w3 ⟨rfl, rfl⟩
  cases hF : mayN f
  · obtain rfl : E = 1 := by rw [← HE.out]; unfold moveE; rw [if_neg (by rw [hF]; simp)]
    obtain rfl : X = 0 := by rw [← HX.out]; unfold moveA; rw [HE.out]; rfl
    obtain rfl : Y = 0 := by rw [← HY.out]; unfold moveB; rw [HE.out]; rfl
    clear hF
    go_wp2
    go_ret
    exact ⟨rfl, H2.out⟩
  · have HF := Lib.hid hF
    clear hF
    go_wp2_with fail
    refine (xmay_any t w2).mono ?_
    rintro e w3 ⟨rfl, rfl⟩
    cases hT : mayN t
    · obtain rfl : E = 1 := by rw [← HE.out]; unfold moveE; rw [if_neg (by rw [hT]; simp)]
      obtain rfl : X = 0 := by rw [← HX.out]; unfold moveA; rw [HE.out]; rfl
      obtain rfl : Y = 0 := by rw [← HY.out]; unfold moveB; rw [HE.out]; rfl
      clear hT
      go_wp2
      go_ret
      exact ⟨rfl, H2.out⟩
    · have HT := Lib.hid hT
      clear hT
      go_wp2_with fail
      refine (xmay_any n w2).mono ?_
      rintro e w3 ⟨rfl, rfl⟩
      cases hN : mayN n
      · obtain rfl : E = 1 := by rw [← HE.out]; unfold moveE; rw [if_neg (by rw [hN]; simp)]
        obtain rfl : X = 0 := by rw [← HX.out]; unfold moveA; rw [HE.out]; rfl
        obtain rfl : Y = 0 := by rw [← HY.out]; unfold moveB; rw [HE.out]; rfl
        clear hN
        go_wp2
        go_ret
        exact ⟨rfl, H2.out⟩
      · have HN := Lib.hid hN
        clear hN
        have rf := mayN_iff.1 HF.out
        have rt := mayN_iff.1 HT.out
        have rn := mayN_iff.1 HN.out
        by_cases h1 : f < n
        · obtain rfl : E = 51 := by rw [← HE.out]; unfold moveE; rw [if_pos ⟨HF.out, HT.out, HN.out⟩, if_pos h1]
          obtain rfl : X = 0 := by rw [← HX.out]; unfold moveA; rw [HE.out]; rfl
          obtain rfl : Y = 0 := by rw [← HY.out]; unfold moveB; rw [HE.out]; rfl
          go_wp2
          go_ret
          exact ⟨rfl, H2.out⟩
        · by_cases h2 : 1099511627776 < t + n
          · obtain rfl : E = 50 := by rw [← HE.out]; unfold moveE; rw [if_pos ⟨HF.out, HT.out, HN.out⟩, if_neg h1, if_pos (by omega)]
            obtain rfl : X = 0 := by rw [← HX.out]; unfold moveA; rw [HE.out]; rfl
            obtain rfl : Y = 0 := by rw [← HY.out]; unfold moveB; rw [HE.out]; rfl
            go_wp2
            go_ret
            exact ⟨rfl, H2.out⟩
          · obtain rfl : E = 0 := by rw [← HE.out]; unfold moveE; rw [if_pos ⟨HF.out, HT.out, HN.out⟩, if_neg h1, if_neg (by omega)]
            obtain rfl : X = f - n := by rw [← HX.out]; unfold moveA; rw [HE.out]; rfl
            obtain rfl : Y = t + n := by rw [← HY.out]; unfold moveB; rw [HE.out]; rfl
            have e2 : moveE (t + n) (f - n) n = 0 := by
              unfold moveE
              rw [if_pos ⟨mayN_iff.2 (by omega), mayN_iff.2 (by omega), HN.out⟩, if_neg (by omega), if_neg (by omega)]
            have a2 : moveA (t + n) (f - n) n = t := by unfold moveA; rw [e2]; simp
            have b2 : moveB (t + n) (f - n) n = f := by unfold moveB; rw [e2]; simp
            have HE2 := Lib.hid e2
            have HA2 := Lib.hid a2
            have HB2 := Lib.hid b2
            clear e2 a2 b2
            go_wp2_with fail
            refine (move_any (t + n) (f - n) n w2).mono ?_
            rintro e w3 ⟨rfl, h3⟩
            rw [HE2.out, HA2.out, HB2.out]
            have H3 := Lib.hid (H2.out.trans (h3.mono H2.out.size))
            clear h3
            go_wp2
            go_ret
            exact ⟨rfl, H3.out⟩
end Go.Proofs.Ytochhjdjfgiaeaa
