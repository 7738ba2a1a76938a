/- slices.Clone of a slice of ints: a copy of the call's own. -/
import Derived.Test.YtcklkmgheaofgaaElems
set_option linter.unusedVariables false
namespace Go.Proofs.Ytcklkmgheaofgaa
open Go.RowKit
end Go.Proofs.Ytcklkmgheaofgaa
