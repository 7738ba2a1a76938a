/- headkeep.Within returns the number modulo 2^64 and then modulo n. -/
import Derived.Test.YtjgkcokffpbgnaaProg
import Derived.Test.YtjgkcokffpbgnaaBase
set_option linter.unusedVariables false
namespace Go.Proofs.Ytjgkcokffpbgnaa
open Go.RowKit
theorem within_any (k n : Int) (W : World) (h1 : 1 ≤ n) (h2 : n ≤ 9223372036854775807) :
    Calls Try.prog 11 #[.int .i64 k, .int .i64 n] W fun e w' => e = .returned (.int .i64 (within k n)) ∧ W = w' := by
  go_enter Try.func11, Try.ntmps11
  go_wp2
  go_ret
  exact ⟨ret_int (within_eq k n h1 h2), rfl⟩
end Go.Proofs.Ytjgkcokffpbgnaa
