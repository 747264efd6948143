/- Arrays of eight numbers, compared. -/
import Derived.Test.YtochhjdjfgiaeaaNTal
import Derived.ChangeKeysEq
namespace Go.Proofs.Ytochhjdjfgiaeaa
open Go.RowKit

set_option maxRecDepth 100000 in
theorem eq8_same (y0 y1 y2 y3 y4 y5 y6 y7 : Int) (w : World) :
    (Op.equalIn 10000 41 (.agg #[.int .i64 y0, .int .i64 y1, .int .i64 y2, .int .i64 y3, .int .i64 y4, .int .i64 y5, .int .i64 y6, .int .i64 y7]) (.agg #[.int .i64 y0, .int .i64 y1, .int .i64 y2, .int .i64 y3, .int .i64 y4, .int .i64 y5, .int .i64 y6, .int .i64 y7])).run Try.prog w = .ok true w := by
  obtain ⟨i0, hi0, _, _⟩ : ∃ i, Try.prog.info? 3 = some i ∧ True ∧ True := by
    cases h : Try.prog.info? 3 with
    | none => exact absurd (congrArg Option.isSome h) (by decide +kernel)
    | some i => exact ⟨i, rfl, trivial, trivial⟩
  have hc : Try.prog.cellsOf 3 = 1 := by kernel_rfl
  rw [run_equalIn_array (P := Try.prog) w 9999 (n := 8) _ _ Try.underlying41 hi0, hc]
  simp [Op.eqItems, List.range, List.range.loop, go_sem]
end Go.Proofs.Ytochhjdjfgiaeaa
