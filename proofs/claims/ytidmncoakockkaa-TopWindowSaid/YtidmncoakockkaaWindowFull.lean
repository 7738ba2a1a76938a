/- WindowFull: at most a window is on the way, and none waits in vain. -/
import Derived.Test.YtidmncoakockkaaWinC
import Derived.Test.YtidmncoakockkaaEqual
import Derived.Test.YtidmncoakockkaaWindowGrows
set_option linter.unusedVariables false
namespace Go.Proofs.Ytidmncoakockkaa
open Go.RowKit
theorem sent_315 (W : World) : Calls Try.prog 27 #[.int .i64 3, .int .i64 1, .int .i64 5] W fun e w' => ∃ A c, e = .returned (.tuple #[.slice A 3 c, .int .i64 0]) ∧
    Sl w' w'.heap.size A 3 (ints [0, 5, 10]) ∧ Below W.heap.size W w' :=
  (sent_ok 3 1 5 W (by unfold winOk; decide)).mono fun _ _ ⟨A, c, h1, h2, h3, _⟩ => ⟨A, c, h1, h2, h3⟩
theorem wtime_lag (w t i j : Nat) (hw : 1 ≤ w) (ht : 1 ≤ t) (h : j + w ≤ i) : wtime w t j + t ≤ wtime w t i := by
  have a := wtime_mono_i w t j hw ht (i - w - j)
  rw [show j + (i - w - j) = i - w by omega] at a
  rw [wtime_step w t i hw ht (by omega), if_pos (by omega)]
  omega
theorem wtime_prev (w t i : Nat) (hw : 1 ≤ w) (ht : 1 ≤ t) (h : 0 < i) : wtime w t (i - 1) + 1 ≤ wtime w t i := by
  rw [wtime_step w t i hw ht h]
  split <;> omega
theorem wtime_why (w t i : Nat) (hw : 1 ≤ w) (ht : 1 ≤ t) (h : 0 < i) (h2 : wtime w t (i - 1) + 1 < wtime w t i) : w ≤ i ∧ wtime w t i = wtime w t (i - w) + t := by
  have e := wtime_step w t i hw ht h
  split at e
  · exact ⟨by assumption, by omega⟩
  · omega
end Go.Proofs.Ytidmncoakockkaa
