/- window.Done returns the time at which the last piece is acknowledged. -/
import Derived.Test.YtidmncoakockkaaWinB
set_option linter.unusedVariables false
namespace Go.Proofs.Ytidmncoakockkaa
open Go.RowKit
def doneAt (n w trip : Int) : Int := if n = 0 then 0 else wtime w.toNat trip.toNat (n.toNat - 1) + trip
theorem doneAt_pos {n w trip : Int} (h : n ≠ 0) : doneAt n w trip = wtime w.toNat trip.toNat (n.toNat - 1) + trip := by unfold doneAt; rw [if_neg h]
end Go.Proofs.Ytidmncoakockkaa
