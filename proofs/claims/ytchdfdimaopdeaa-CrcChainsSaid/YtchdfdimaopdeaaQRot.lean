/- A word turned: math/bits.RotateLeft64 and the reference's turn. -/
import Derived.Test.YtchdfdimaopdeaaQBit
import Derived.Test.YtchdfdimaopdeaaQB
namespace Go.Proofs.Ytchdfdimaopdeaa
open Go.RowKit

/-- A word, turned by the bits of which p and q are the powers. -/
def rotI (p q x : Int) : Int := bits .or .u64 (IntKind.u64.wrap (x * p)) (x / q)

set_option maxRecDepth 100000 in
set_option maxHeartbeats 400000 in
theorem rot13 (x : Int) (w : World) : Calls Try.prog 40 #[.int .u64 x, .int .i64 13] w fun e w' => e = .returned (.int .u64 (rotI 8192 2251799813685248 x)) ∧ w = w' := by
  have ha : bits .and .u64 13 63 = 13 := by kernel_rfl
  go_enter Try.func40, Try.ntmps40
  go_wp2
  go_ret
  exact ⟨rfl, rfl⟩
set_option maxRecDepth 100000 in
set_option maxHeartbeats 400000 in
theorem turn13 (x : Int) (w : World) : Calls Try.prog 41 #[.int .u64 x, .int .i64 13] w fun e w' => e = .returned (.int .u64 (rotI 8192 2251799813685248 x)) ∧ w' = w.drew := by
  go_enter Try.func41, Try.ntmps41
  go_wp2_with fail
  go_region
  all_goals go_wp2
  all_goals go_ret
  all_goals exact ⟨rfl, rfl⟩

set_option maxRecDepth 100000 in
set_option maxHeartbeats 400000 in
theorem rot16 (x : Int) (w : World) : Calls Try.prog 40 #[.int .u64 x, .int .i64 16] w fun e w' => e = .returned (.int .u64 (rotI 65536 281474976710656 x)) ∧ w = w' := by
  have ha : bits .and .u64 16 63 = 16 := by kernel_rfl
  go_enter Try.func40, Try.ntmps40
  go_wp2
  go_ret
  exact ⟨rfl, rfl⟩
set_option maxRecDepth 100000 in
set_option maxHeartbeats 400000 in
theorem turn16 (x : Int) (w : World) : Calls Try.prog 41 #[.int .u64 x, .int .i64 16] w fun e w' => e = .returned (.int .u64 (rotI 65536 281474976710656 x)) ∧ w' = w.drew := by
  go_enter Try.func41, Try.ntmps41
  go_wp2_with fail
  go_region
  all_goals go_wp2
  all_goals go_ret
  all_goals exact ⟨rfl, rfl⟩

set_option maxRecDepth 100000 in
set_option maxHeartbeats 400000 in
theorem rot17 (x : Int) (w : World) : Calls Try.prog 40 #[.int .u64 x, .int .i64 17] w fun e w' => e = .returned (.int .u64 (rotI 131072 140737488355328 x)) ∧ w = w' := by
  have ha : bits .and .u64 17 63 = 17 := by kernel_rfl
  go_enter Try.func40, Try.ntmps40
  go_wp2
  go_ret
  exact ⟨rfl, rfl⟩
set_option maxRecDepth 100000 in
set_option maxHeartbeats 400000 in
theorem turn17 (x : Int) (w : World) : Calls Try.prog 41 #[.int .u64 x, .int .i64 17] w fun e w' => e = .returned (.int .u64 (rotI 131072 140737488355328 x)) ∧ w' = w.drew := by
  go_enter Try.func41, Try.ntmps41
  go_wp2_with fail
  go_region
  all_goals go_wp2
  all_goals go_ret
  all_goals exact ⟨rfl, rfl⟩

set_option maxRecDepth 100000 in
set_option maxHeartbeats 400000 in
theorem rot21 (x : Int) (w : World) : Calls Try.prog 40 #[.int .u64 x, .int .i64 21] w fun e w' => e = .returned (.int .u64 (rotI 2097152 8796093022208 x)) ∧ w = w' := by
  have ha : bits .and .u64 21 63 = 21 := by kernel_rfl
  go_enter Try.func40, Try.ntmps40
  go_wp2
  go_ret
  exact ⟨rfl, rfl⟩
set_option maxRecDepth 100000 in
set_option maxHeartbeats 400000 in
theorem turn21 (x : Int) (w : World) : Calls Try.prog 41 #[.int .u64 x, .int .i64 21] w fun e w' => e = .returned (.int .u64 (rotI 2097152 8796093022208 x)) ∧ w' = w.drew := by
  go_enter Try.func41, Try.ntmps41
  go_wp2_with fail
  go_region
  all_goals go_wp2
  all_goals go_ret
  all_goals exact ⟨rfl, rfl⟩

set_option maxRecDepth 100000 in
set_option maxHeartbeats 400000 in
theorem rot32 (x : Int) (w : World) : Calls Try.prog 40 #[.int .u64 x, .int .i64 32] w fun e w' => e = .returned (.int .u64 (rotI 4294967296 4294967296 x)) ∧ w = w' := by
  have ha : bits .and .u64 32 63 = 32 := by kernel_rfl
  go_enter Try.func40, Try.ntmps40
  go_wp2
  go_ret
  exact ⟨rfl, rfl⟩
set_option maxRecDepth 100000 in
set_option maxHeartbeats 400000 in
theorem turn32 (x : Int) (w : World) : Calls Try.prog 41 #[.int .u64 x, .int .i64 32] w fun e w' => e = .returned (.int .u64 (rotI 4294967296 4294967296 x)) ∧ w' = w.drew := by
  go_enter Try.func41, Try.ntmps41
  go_wp2_with fail
  go_region
  all_goals go_wp2
  all_goals go_ret
  all_goals exact ⟨rfl, rfl⟩
end Go.Proofs.Ytchdfdimaopdeaa
