/- Package crc and the reference: a step of a sum. -/
import Derived.Test.YtchdfdimaopdeaaQBit
import Derived.Test.YtchdfdimaopdeaaQB
namespace Go.Proofs.Ytchdfdimaopdeaa
open Go.RowKit

set_option maxRecDepth 100000 in
set_option maxHeartbeats 400000 in
theorem step_any (s b : Nat) (hs : s < 4294967296) (hb : b < 256) (w : World) : Calls Try.prog 16 #[.int .u32 s, .int .u8 b] w fun e w' => e = .returned (.int .u32 (stepN s b : Nat)) ∧ w = w' := by
  have hx := xor32 hs (show b < 4294967296 by omega)
  obtain ⟨y, hy⟩ : ∃ y, s ^^^ b = y := ⟨_, rfl⟩
  have hyl : y < 4294967296 := by rw [← hy]; exact xor_lt32 hs (by omega)
  rw [hy] at hx
  have HX := Lib.hid hx
  have HR : Hid (stepN s b = crcK 8 y) := Lib.hid (by unfold stepN; rw [hy])
  have HY := Lib.hid hyl
  clear hy hyl
  go_enter Try.func16, Try.ntmps16
  go_wp2_with fail
  go_loop [0, 10] (fun x i => ∃ k : Nat, k ≤ 8 ∧ i = .int .i64 k ∧ x = .int .u32 (crcK k y : Nat)) (fun _ i => 8 - (intOf i).toNat)
  case atStart => exact ⟨0, Nat.zero_le _, rfl, by first | rfl | rw [HX.out]; rfl⟩
  case round =>
    obtain ⟨k, hk, rfl, rfl⟩ := hrel
    clear hx
    by_cases hlt : k < 8
    · obtain ⟨x, hx⟩ : ∃ x, crcK k y = x := ⟨_, rfl⟩
      have hxl : x < 4294967296 := by rw [← hx]; exact crcK_lt k HY.out
      simp only [hx]
      have HE := Lib.hid hx
      have HL := Lib.hid hxl
      clear hx hxl
      go_wp2_with fail
      go_round
      case rel =>
        refine ⟨k + 1, hlt, by go_num, ?_⟩
        rw [crcK_succ, HE.out, and_one32 HL.out, show (2197175160 * ((x % 2 : Nat) : Int)) % 4294967296 = ((2197175160 * (x % 2) : Nat) : Int) by omega, show (x : Int) / 2 = ((x / 2 : Nat) : Int) by omega, crcL_mul HL.out]
      case measure => simp [intOf]; omega
    · obtain rfl : k = 8 := by omega
      rw [← HR.out]
      go_wp2
      go_ret
      exact ⟨rfl, rfl⟩

set_option maxRecDepth 100000 in
set_option maxHeartbeats 400000 in
theorem rstep_any (s b : Nat) (hs : s < 4294967296) (hb : b < 256) (w : World) : Calls Try.prog 17 #[.int .u32 s, .int .u8 b] w fun e w' => e = .returned (.int .u32 (stepN s b : Nat)) ∧ w = w' := by
  have hx := xor32 hs (show b < 4294967296 by omega)
  obtain ⟨y, hy⟩ : ∃ y, s ^^^ b = y := ⟨_, rfl⟩
  have hyl : y < 4294967296 := by rw [← hy]; exact xor_lt32 hs (by omega)
  rw [hy] at hx
  have HX := Lib.hid hx
  have HR : Hid (stepN s b = crcK 8 y) := Lib.hid (by unfold stepN; rw [hy])
  have HY := Lib.hid hyl
  clear hy hyl
  go_enter Try.func17, Try.ntmps17
  go_wp2_with fail
  go_loop [0, 5] (fun x i => ∃ k : Nat, k ≤ 8 ∧ i = .int .i64 k ∧ x = .int .u32 (crcK k y : Nat)) (fun _ i => 8 - (intOf i).toNat)
  case atStart => exact ⟨0, Nat.zero_le _, rfl, by first | rfl | rw [HX.out]; rfl⟩
  case round =>
    obtain ⟨k, hk, rfl, rfl⟩ := hrel
    clear hx
    by_cases hlt : k < 8
    · obtain ⟨x, hx⟩ : ∃ x, crcK k y = x := ⟨_, rfl⟩
      have hxl : x < 4294967296 := by rw [← hx]; exact crcK_lt k HY.out
      simp only [hx]
      have HE := Lib.hid hx
      have HL := Lib.hid hxl
      clear hx hxl
      by_cases ho : x % 2 = 1
      · have ho' : (x : Int) % 2 = 1 := by omega
        have HO := Lib.hid ho
        clear ho
        go_wp2_with fail
        go_round
        case rel =>
          refine ⟨k + 1, hlt, by go_num, ?_⟩
          have hm := crcL_mul HL.out
          rw [HO.out] at hm
          rw [crcK_succ, HE.out, ← hm, show (x : Int) / 2 = ((x / 2 : Nat) : Int) by omega]
          rfl
        case measure => simp [intOf]; omega
      · have ho' : (x : Int) % 2 = 0 := by omega
        have HO := Lib.hid ho
        clear ho
        go_wp2_with fail
        go_round
        case rel =>
          refine ⟨k + 1, hlt, by go_num, ?_⟩
          rw [crcK_succ, HE.out, crcL_even HO.out, show (x : Int) / 2 = ((x / 2 : Nat) : Int) by omega]
        case measure => simp [intOf]; omega
    · obtain rfl : k = 8 := by omega
      rw [← HR.out]
      go_wp2
      go_ret
      exact ⟨rfl, rfl⟩
end Go.Proofs.Ytchdfdimaopdeaa
