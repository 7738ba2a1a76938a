/- An element of an array of two numbers. -/
import Derived.Test.YtpifknmoimlpoaaElems
set_option linter.unusedVariables false
namespace Go.Proofs.Ytpifknmoimlpoaa
open Go.RowKit
theorem idx2_0 (x y : Int) (w : World) : (Instr.index 43 (.agg #[.int .i64 x, .int .i64 y]) (.int .i64 0)).run Try.prog w = .ok (.int .i64 x) w := by
  obtain ⟨i, h1, h2, h3, h4⟩ := elemInt.info
  simp [Instr.index, asIntOf, run_underlying Try.underlying43, sizeOf, typeInfo, h1, h3, part, isAgg, run_underlying Try.underlying3]
theorem idx2_1 (x y : Int) (w : World) : (Instr.index 43 (.agg #[.int .i64 x, .int .i64 y]) (.int .i64 1)).run Try.prog w = .ok (.int .i64 y) w := by
  obtain ⟨i, h1, h2, h3, h4⟩ := elemInt.info
  simp [Instr.index, asIntOf, run_underlying Try.underlying43, sizeOf, typeInfo, h1, h3, part, isAgg, run_underlying Try.underlying3]
end Go.Proofs.Ytpifknmoimlpoaa
