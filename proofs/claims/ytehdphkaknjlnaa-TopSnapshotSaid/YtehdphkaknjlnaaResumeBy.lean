/- ResumeBy: with no more crashes than assumed the object is complete by the computed time. -/
import Derived.Test.YtehdphkaknjlnaaResumeB
import Derived.Test.YtehdphkaknjlnaaEqual
set_option linter.unusedVariables false
namespace Go.Proofs.Ytehdphkaknjlnaa
open Go.RowKit
theorem run_ex (A : Option Addr) (c : Nat) (W : World) (hs : Sl W W.heap.size A 4 (bools [false, true, false, false])) :
    Calls Try.prog 40 #[.int .i64 7, .int .i64 3, .int .i64 2, .slice A 4 c] W fun e w' => ∃ A' c', e = .returned (.tuple #[.slice A' 4 c', .int .i64 0]) ∧
      Sl w' w'.heap.size A' 4 (ints [2, 3, 5, 7]) ∧ Below W.heap.size W w' :=
  (run_ok 7 3 2 A 4 c _ W (by unfold resumeOk; decide) (by decide) hs).mono fun _ _ ⟨A', c', h1, h2, h3, _⟩ => ⟨A', c', h1, by
    have e : rres 7 3 2 [false, true, false, false] 4 = [2, 3, 5, 7] := by decide
    rw [e] at h2
    exact h2, h3⟩
theorem bound_ex (W : World) : Calls Try.prog 41 #[.int .i64 7, .int .i64 3, .int .i64 2, .int .i64 1] W fun e w' => e = .returned (.tuple #[.int .i64 5, .int .i64 0]) ∧ W = w' :=
  bound_some 7 3 2 1 W (by unfold resumeOk; decide) (by decide) (by decide) (by decide) (by decide)
/-- Enough slots: all is there. -/
theorem resume_done {s u r : Int} (h : resumeOk s u r) (bs : List Bool) (k : Nat) (hr : r ≠ 0) (hk : (rneed s u (crashes bs k) + r - 1) / r ≤ k) : rgot s u r bs k = s := by
  have hb := rgot_bd h bs k
  rcases rgot_least h bs k with e | e
  · exact e
  · obtain ⟨h1, h2, h3, h4, h5, h6⟩ := h
    have m := Int.mul_ediv_add_emod (rneed s u (crashes bs k) + r - 1) r
    have m2 := Int.emod_lt_of_pos (rneed s u (crashes bs k) + r - 1) (show 0 < r by omega)
    have m3 : r * ((rneed s u (crashes bs k) + r - 1) / r) ≤ r * k := Int.mul_le_mul_of_nonneg_left hk h5
    have hn : s + crashes bs k * (u - 1) ≤ rneed s u (crashes bs k) ∨ s = 0 := by
      unfold rneed
      split
      · left; exact Int.le_refl _
      · right; omega
    omega
theorem resume_zero {s u r : Int} (h : resumeOk s u r) (bs : List Bool) (k : Nat) (hn : rneed s u (crashes bs k) = 0) : rgot s u r bs k = s := by
  have hb := rgot_bd h bs k
  have a : s = 0 := by
    unfold rneed at hn
    split at hn
    · have : 0 ≤ (crashes bs k : Int) * (u - 1) := Int.mul_nonneg (by omega) (by have := h.2.2.1; omega)
      omega
    · exact hn
  omega
end Go.Proofs.Ytehdphkaknjlnaa
