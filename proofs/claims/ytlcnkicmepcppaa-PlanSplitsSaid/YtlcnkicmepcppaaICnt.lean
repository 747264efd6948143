/- count.May and the reference's. -/
import Derived.Test.YtlcnkicmepcppaaIAll
namespace Go.Proofs.Ytlcnkicmepcppaa
open Go.RowKit

def mayC (n : Int) : Bool := decide (0 ≤ n) && decide (n ≤ 1099511627776)
theorem cmay_any (n : Int) (w : World) : Calls Try.prog 47 #[.int .i64 n] w fun e w' => e = .returned (.bool (mayC n)) ∧ w = w' := by
  go_enter Try.func47, Try.ntmps47
  by_cases h0 : 0 ≤ n
  · by_cases h1 : n ≤ 1099511627776
    all_goals
      go_wp2
      go_ret
      exact ⟨ret_bool (by simp [mayC]; omega), rfl⟩
  · go_wp2
    go_ret
    exact ⟨ret_bool (by simp [mayC]; omega), rfl⟩
theorem xcmay_any (n : Int) (w : World) : Calls Try.prog 29 #[.int .i64 n] w fun e w' => e = .returned (.bool (mayC n)) ∧ w = w' := by
  go_enter Try.func29, Try.ntmps29
  by_cases h0 : 0 ≤ n
  · by_cases h1 : n ≤ 1099511627776
    all_goals
      go_wp2
      go_ret
      exact ⟨ret_bool (by simp [mayC]; omega), rfl⟩
  · go_wp2
    go_ret
    exact ⟨ret_bool (by simp [mayC]; omega), rfl⟩
end Go.Proofs.Ytlcnkicmepcppaa
