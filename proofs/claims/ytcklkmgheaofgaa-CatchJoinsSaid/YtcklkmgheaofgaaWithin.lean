/- headkeep.Within returns the number modulo 2^64 and then modulo n. -/
import Derived.Test.YtcklkmgheaofgaaProg
import Derived.Test.YtcklkmgheaofgaaBase
set_option linter.unusedVariables false
namespace Go.Proofs.Ytcklkmgheaofgaa
open Go.RowKit
end Go.Proofs.Ytcklkmgheaofgaa
