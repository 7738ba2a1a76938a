/- curve.Both and curve.Le. -/
import Derived.Test.YtihhldphpoddhaaCurveA
set_option linter.unusedVariables false
namespace Go.Proofs.Ytihhldphpoddhaa
open Go.RowKit
/-- f is at most g, at all times ahead of n. -/
def leTo (f g : List Int) (n : Nat) : Prop := ∀ i, i < n → gi f i ≤ gi g i
theorem leTo_or (f g : List Int) (n : Nat) : leTo f g n ∨ ∃ k, k < n ∧ leTo f g k ∧ gi g k < gi f k := by
  induction n with
  | zero => exact .inl fun i hi => by omega
  | succ n ih =>
    rcases ih with h | ⟨k, h1, h2, h3⟩
    · by_cases hn : gi f n ≤ gi g n
      · refine .inl fun i hi => ?_
        rcases Nat.lt_or_ge i n with h' | h'
        · exact h i h'
        · obtain rfl : i = n := by omega
          exact hn
      · exact .inr ⟨n, by omega, h, by omega⟩
    · exact .inr ⟨k, by omega, h2, h3⟩
end Go.Proofs.Ytihhldphpoddhaa
