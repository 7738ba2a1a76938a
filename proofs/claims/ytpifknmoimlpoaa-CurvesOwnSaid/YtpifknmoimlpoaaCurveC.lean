/- headkeep.le: is the one at most the other? -/
import Derived.Test.YtpifknmoimlpoaaCurveB
set_option linter.unusedVariables false
namespace Go.Proofs.Ytpifknmoimlpoaa
open Go.RowKit
instance (f g : List Int) (n : Nat) : Decidable (leTo f g n) := by unfold leTo; infer_instance
def leB (f g : List Int) (n : Nat) : Bool := decide (leTo f g n)
def bothB (f g : List Int) : Bool := decide (bothErr f g = 0)
end Go.Proofs.Ytpifknmoimlpoaa
