/- curve.Check. -/
import Derived.Test.YtihhldphpoddhaaElems
import Derived.Test.YtihhldphpoddhaaCurveP
set_option linter.unusedVariables false
namespace Go.Proofs.Ytihhldphpoddhaa
open Go.RowKit
theorem cfirst_stay {f : List Int} {k : Nat} (h : cfirst f k ≠ 0) (j : Nat) (hj : k ≤ j) : cfirst f j = cfirst f k := by
  induction j with
  | zero => obtain rfl : k = 0 := by omega
            rfl
  | succ j ih =>
    rcases Nat.lt_or_ge j k with h' | h'
    · obtain rfl : k = j + 1 := by omega
      rfl
    · rw [cfirst_succ, ih h', if_neg h]
theorem cfirst_at {f : List Int} {k : Nat} (h0 : cfirst f k = 0) (h : cbad f k ≠ 0) (j : Nat) (hj : k < j) : cfirst f j = cbad f k := by
  have e : cfirst f (k + 1) = cbad f k := by rw [cfirst_succ, if_pos h0]
  rw [cfirst_stay (k := k + 1) (by rw [e]; exact h) j hj, e]
theorem cfirst_next {f : List Int} {k : Nat} (h0 : cfirst f k = 0) (h : cbad f k = 0) : cfirst f (k + 1) = 0 := by rw [cfirst_succ, if_pos h0, h]
end Go.Proofs.Ytihhldphpoddhaa
