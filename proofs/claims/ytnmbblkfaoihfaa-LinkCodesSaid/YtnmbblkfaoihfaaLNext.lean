/- How long one waits: backoff.Wait and Next, and the reference's. -/
import Derived.Test.YtnmbblkfaoihfaaRows
import Derived.Test.YtnmbblkfaoihfaaLPure
import Derived.Test.YtnmbblkfaoihfaaMem
import Derived.Deep.QuietTactic
import Derived.BigQuiet
namespace Go.Proofs.Ytnmbblkfaoihfaa
open Go.RowKit

theorem waitL_pos {t : Int} (h : 0 ≤ t) : 2 ≤ waitL t ∧ waitL t ≤ 16 := by
  unfold waitL
  split
  · omega
  · split
    · omega
    · split
      · omega
      · split <;> omega

set_option maxHeartbeats 1000000 in
theorem wait_any (t : Int) (w : World) (ht : 0 ≤ t ∧ t ≤ 9223372036854775807) :
    Calls Try.prog 59 #[.int .i64 2, .int .i64 16, .int .i64 t] w fun e w' => e = .returned (.int .i64 (waitL t)) ∧ w = w' := by
  go_enter Try.func59, Try.ntmps59
  go_wp2_with fail
  go_loopw [2, 7] (fun tr wv wr => w = wr ∧ ∃ j : Nat, j ≤ 3 ∧ (j : Int) ≤ t ∧ tr = .int .i64 (t - j) ∧ wv = .int .i64 ((2 ^ (j + 1) : Nat) : Int)) (fun tr _ _ => (intOf tr).toNat)
  case atStart => exact ⟨rfl, 0, by omega, by omega, by simp, rfl⟩
  case round =>
    obtain ⟨rfl, j, hj, hjt, rfl, rfl⟩ := hrel
    by_cases h : t = j
    · subst h
      obtain rfl | rfl | rfl | rfl : j = 0 ∨ j = 1 ∨ j = 2 ∨ j = 3 := by omega
      all_goals go_wp2
      all_goals go_ret
      all_goals exact ⟨rfl, rfl⟩
    · obtain rfl | rfl | rfl | rfl : j = 0 ∨ j = 1 ∨ j = 2 ∨ j = 3 := by omega
      · go_wp2
        go_roundw
        case rel => exact ⟨trivial, 1, by omega, by omega, by go_num, rfl⟩
        case measure => simp [intOf]; omega
      · go_wp2
        go_roundw
        case rel => exact ⟨trivial, 2, by omega, by omega, by go_num, rfl⟩
        case measure => simp [intOf]; omega
      · go_wp2
        go_roundw
        case rel => exact ⟨trivial, 3, by omega, by omega, by go_num, rfl⟩
        case measure => simp [intOf]; omega
      · go_wp2
        go_ret
        have : waitL t = 16 := by unfold waitL; rw [if_neg (by omega), if_neg (by omega), if_neg (by omega), if_neg (by omega)]
        rw [this]
        exact ⟨rfl, rfl⟩

set_option maxHeartbeats 1000000 in
theorem next_any (now t : Int) (w : World) (hn : -9223372036854775808 ≤ now ∧ now ≤ 9223372036854775807) (ht : 0 ≤ t ∧ t ≤ 9223372036854775807) :
    Calls Try.prog 42 #[.int .i64 now, .int .i64 2, .int .i64 16, .int .i64 t] w fun e w' => e = .returned (.int .i64 (nextL now t)) ∧ w = w' := by
  have hp := waitL_pos ht.1
  have hw := wait_any t w ht
  obtain ⟨x, hx⟩ : ∃ x, waitL t = x := ⟨_, rfl⟩
  rw [hx] at hp hw
  have HW := Lib.hid hw
  have hnx : nextL now t = if 9223372036854775807 - x < now then 9223372036854775807 else now + x := by unfold nextL; rw [hx]
  have HN := Lib.hid hnx
  clear hw hx hnx ht
  go_enter Try.func42, Try.ntmps42
  go_wp2_with fail
  refine HW.out.mono ?_
  rintro e w1 ⟨rfl, rfl⟩
  by_cases h : 9223372036854775807 - x < now
  · go_wp2
    go_ret
    rw [HN.out, if_pos h]
    exact ⟨rfl, rfl⟩
  · go_wp2
    go_ret
    rw [HN.out, if_neg (by omega)]
    exact ⟨rfl, rfl⟩

set_option maxHeartbeats 1000000 in
theorem rwait_any (t : Int) (w : World) (ht : 0 ≤ t ∧ t ≤ 9223372036854775807) :
    Calls Try.prog 61 #[.int .i64 2, .int .i64 16, .int .i64 t] w fun e w' => e = .returned (.int .i64 (waitL t)) ∧ w = w' := by
  go_enter Try.func61, Try.ntmps61
  go_wp2_with fail
  go_loopw [7, 8] (fun wv i wr => w = wr ∧ ∃ j : Nat, j ≤ 3 ∧ (j : Int) ≤ t ∧ i = .int .i64 j ∧ wv = .int .i64 ((2 ^ (j + 1) : Nat) : Int)) (fun _ i _ => (t - intOf i).toNat)
  case atStart => exact ⟨rfl, 0, by omega, by omega, by simp, rfl⟩
  case round =>
    obtain ⟨rfl, j, hj, hjt, rfl, rfl⟩ := hrel
    by_cases h : t = j
    · subst h
      obtain rfl | rfl | rfl | rfl : j = 0 ∨ j = 1 ∨ j = 2 ∨ j = 3 := by omega
      all_goals go_wp2
      all_goals go_ret
      all_goals exact ⟨rfl, rfl⟩
    · obtain rfl | rfl | rfl | rfl : j = 0 ∨ j = 1 ∨ j = 2 ∨ j = 3 := by omega
      · go_wp2
        go_roundw
        case rel => exact ⟨trivial, 1, by omega, by omega, by go_num, rfl⟩
        case measure => simp [intOf]; omega
      · go_wp2
        go_roundw
        case rel => exact ⟨trivial, 2, by omega, by omega, by go_num, rfl⟩
        case measure => simp [intOf]; omega
      · go_wp2
        go_roundw
        case rel => exact ⟨trivial, 3, by omega, by omega, by go_num, rfl⟩
        case measure => simp [intOf]; omega
      · go_wp2
        go_ret
        have : waitL t = 16 := by unfold waitL; rw [if_neg (by omega), if_neg (by omega), if_neg (by omega), if_neg (by omega)]
        rw [this]
        exact ⟨rfl, rfl⟩

set_option maxHeartbeats 1000000 in
theorem rnext_any (now t : Int) (w : World) (hn : -9223372036854775808 ≤ now ∧ now ≤ 9223372036854775807) (ht : 0 ≤ t ∧ t ≤ 9223372036854775807) :
    Calls Try.prog 46 #[.int .i64 now, .int .i64 t] w fun e w' => e = .returned (.int .i64 (nextL now t)) ∧ w = w' := by
  have hp := waitL_pos ht.1
  have hw := rwait_any t w ht
  obtain ⟨x, hx⟩ : ∃ x, waitL t = x := ⟨_, rfl⟩
  rw [hx] at hp hw
  have HW := Lib.hid hw
  have hnx : nextL now t = if 9223372036854775807 - x < now then 9223372036854775807 else now + x := by unfold nextL; rw [hx]
  have HN := Lib.hid hnx
  clear hw hx hnx ht
  go_enter Try.func46, Try.ntmps46
  go_wp2_with fail
  refine HW.out.mono ?_
  rintro e w1 ⟨rfl, rfl⟩
  by_cases h : 9223372036854775807 - x < now
  · go_wp2
    go_ret
    rw [HN.out, if_pos h]
    exact ⟨rfl, rfl⟩
  · go_wp2
    go_ret
    rw [HN.out, if_neg (by omega)]
    exact ⟨rfl, rfl⟩
end Go.Proofs.Ytnmbblkfaoihfaa
