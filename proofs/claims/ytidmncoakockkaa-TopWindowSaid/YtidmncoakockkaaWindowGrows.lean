/- WindowGrows: with a larger window, a shorter trip or fewer pieces it is done no later. -/
import Derived.Test.YtidmncoakockkaaWinC
import Derived.Test.YtidmncoakockkaaWithin
set_option linter.unusedVariables false
namespace Go.Proofs.Ytidmncoakockkaa
open Go.RowKit
theorem wtime_mono_trip (w t1 t2 i : Nat) (hw : 1 ≤ w) (h1 : 1 ≤ t1) (h : t1 ≤ t2) : wtime w t1 i ≤ wtime w t2 i := by
  induction i using Nat.strongRecOn with
  | _ i ih =>
    rcases Nat.eq_zero_or_pos i with rfl | h0
    · rw [wtime_zero, wtime_zero]; omega
    · rw [wtime_step w t1 i hw h1 h0, wtime_step w t2 i hw (by omega) h0]
      have a := ih (i - 1) (by omega)
      split
      · have b := ih (i - w) (by omega)
        omega
      · omega
theorem wtime_mono_i (w t i : Nat) (hw : 1 ≤ w) (h1 : 1 ≤ t) : ∀ d, wtime w t i ≤ wtime w t (i + d) := by
  intro d
  induction d with
  | zero => exact Nat.le_refl _
  | succ d ih =>
    rw [wtime_step w t (i + (d + 1)) hw h1 (by omega)]
    have e : i + (d + 1) - 1 = i + d := by omega
    rw [e]
    split <;> omega
theorem wtime_mono_w (w1 w2 t i : Nat) (hw : 1 ≤ w1) (h : w1 ≤ w2) (h1 : 1 ≤ t) : wtime w2 t i ≤ wtime w1 t i := by
  induction i using Nat.strongRecOn with
  | _ i ih =>
    rcases Nat.eq_zero_or_pos i with rfl | h0
    · rw [wtime_zero, wtime_zero]; omega
    · rw [wtime_step w1 t i hw h1 h0, wtime_step w2 t i (by omega) h1 h0]
      have a := ih (i - 1) (by omega)
      by_cases h2 : w2 ≤ i
      · rw [if_pos h2, if_pos (by omega)]
        have b := ih (i - w2) (by omega)
        have c := wtime_mono_i w1 t (i - w2) hw h1 (w2 - w1)
        rw [show i - w2 + (w2 - w1) = i - w1 by omega] at c
        omega
      · rw [if_neg h2]
        split <;> omega
theorem doneAt_mono (n w t n' w' t' : Int) (h : winOk n w t) (h1 : 0 ≤ n') (h2 : n' ≤ n) (h3 : w ≤ w') (h4 : 1 ≤ t') (h5 : t' ≤ t) : doneAt n' w' t' ≤ doneAt n w t := by
  obtain ⟨a1, a2, a3, a4, a5, a6⟩ := h
  unfold doneAt
  split
  · split <;> omega
  · rw [if_neg (by omega)]
    have b1 := wtime_mono_w w.toNat w'.toNat t'.toNat (n'.toNat - 1) (by omega) (by omega) (by omega)
    have b2 := wtime_mono_trip w.toNat t'.toNat t.toNat (n'.toNat - 1) (by omega) (by omega) (by omega)
    have b3 := wtime_mono_i w.toNat t.toNat (n'.toNat - 1) (by omega) (by omega) (n.toNat - n'.toNat)
    rw [show n'.toNat - 1 + (n.toNat - n'.toNat) = n.toNat - 1 by omega] at b3
    omega
end Go.Proofs.Ytidmncoakockkaa
