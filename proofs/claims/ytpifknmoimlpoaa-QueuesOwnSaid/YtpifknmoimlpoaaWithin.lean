/- headkeep.Within returns the number modulo 2^64 and then modulo n. -/
import Derived.Test.YtpifknmoimlpoaaProg
import Derived.Test.YtpifknmoimlpoaaBase
set_option linter.unusedVariables false
namespace Go.Proofs.Ytpifknmoimlpoaa
open Go.RowKit
theorem within_any (k n : Int) (W : World) (h1 : 1 ≤ n) (h2 : n ≤ 9223372036854775807) :
    Calls Try.prog 19 #[.int .i64 k, .int .i64 n] W fun e w' => e = .returned (.int .i64 (within k n)) ∧ W = w' := by
  go_enter Try.func19, Try.ntmps19
  go_wp2
  go_ret
  exact ⟨ret_int (within_eq k n h1 h2), rfl⟩
end Go.Proofs.Ytpifknmoimlpoaa
