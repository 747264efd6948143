/- count.May and the reference's. -/
import Derived.Test.YtjgdcdojigcefaaIAll
namespace Go.Proofs.Ytjgdcdojigcefaa
open Go.RowKit

def mayC (n : Int) : Bool := decide (0 ≤ n) && decide (n ≤ 1099511627776)
theorem cmay_any (n : Int) (w : World) : Calls Try.prog 58 #[.int .i64 n] w fun e w' => e = .returned (.bool (mayC n)) ∧ w = w' := by
  go_enter Try.func58, Try.ntmps58
  by_cases h0 : 0 ≤ n
  · by_cases h1 : n ≤ 1099511627776
    all_goals
      go_wp2
      go_ret
      exact ⟨ret_bool (by simp [mayC]; omega), rfl⟩
  · go_wp2
    go_ret
    exact ⟨ret_bool (by simp [mayC]; omega), rfl⟩
theorem xcmay_any (n : Int) (w : World) : Calls Try.prog 40 #[.int .i64 n] w fun e w' => e = .returned (.bool (mayC n)) ∧ w = w' := by
  go_enter Try.func40, Try.ntmps40
  by_cases h0 : 0 ≤ n
  · by_cases h1 : n ≤ 1099511627776
    all_goals
      go_wp2
      go_ret
      exact ⟨ret_bool (by simp [mayC]; omega), rfl⟩
  · go_wp2
    go_ret
    exact ⟨ret_bool (by simp [mayC]; omega), rfl⟩
end Go.Proofs.Ytjgdcdojigcefaa
