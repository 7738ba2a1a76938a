/- piece.many, piece.one, piece.look and piece.Sizes. -/
import Derived.Test.YtpifknmoimlpoaaElems
import Derived.Test.YtpifknmoimlpoaaShareA
set_option linter.unusedVariables false
namespace Go.Proofs.Ytpifknmoimlpoaa
open Go.RowKit
def pieceIn (s u : Int) : Prop := 0 ≤ s ∧ s ≤ 1000000 ∧ 1 ≤ u ∧ u ≤ 1000000
def pieceOk (s u : Int) : Prop := pieceIn s u ∧ ceil s u ≤ 200
/-- The size of piece i. -/
def psize (s u : Int) (i : Nat) : Int := mn u (s - i * u)
theorem piece_mid {s u : Int} (h : pieceOk s u) {i : Nat} (hi : (i : Int) < ceil s u) : (i : Int) * u < s := by
  have a := ceil_hi (d := s) h.1.2.2.1
  have b : (i : Int) * u ≤ (ceil s u - 1) * u := Int.mul_le_mul_of_nonneg_right (by omega) (by have := h.1.2.2.1; omega)
  omega
theorem many_in (s u : Int) (W : World) (h : pieceIn s u) :
    Calls Try.prog 116 #[.int .i64 s, .int .i64 u] W fun e w' => e = .returned (.int .i64 (ceil s u)) ∧ W = w' := by
  obtain ⟨h1, h2, h3, h4⟩ := h
  have hcl := ceil_le (d := s) h3 h1
  have hcl0 := ceil_nonneg (d := s) h3 h1
  have e1 : wrap64 ((s + u - 1) / u) = ceil s u := by
    rw [show (s + u - 1) / u = ceil s u from rfl]
    exact IntWalk.wrap64_in _ ⟨by omega, by omega⟩
  have hr0 : (u == 0) = false := by simp; omega
  go_enter Try.func116, Try.ntmps116
  go_wp2_with fail
  go_ret
  exact ⟨rfl, rfl⟩
theorem plook_ok (s u : Int) (W : World) (h : pieceOk s u) :
    Calls Try.prog 115 #[.int .i64 s, .int .i64 u] W fun e w' => e = .returned (.int .i64 0) ∧ W = w' := by
  have H := Lib.hid h.1
  have g5 : ¬ (200 < ceil s u) := by have := h.2; omega
  obtain ⟨h1, h2, h3, h4⟩ := h.1
  have g1 : ¬ (s < 0) := by omega
  have g2 : ¬ (1000000 < s) := by omega
  have g3 : ¬ (u < 1) := by omega
  have g4 : ¬ (1000000 < u) := by omega
  clear h
  go_enter Try.func115, Try.ntmps115
  go_wp2_with fail
  refine (many_in s u _ H.out).mono ?_
  rintro e w' ⟨rfl, rfl⟩
  go_wp2_with fail
  go_ret
  exact ⟨rfl, rfl⟩
theorem plook_bad (s u : Int) (W : World) (h : ¬ pieceOk s u) :
    Calls Try.prog 115 #[.int .i64 s, .int .i64 u] W fun e w' => ∃ k : Int, k ≠ 0 ∧ e = .returned (.int .i64 k) ∧ W = w' := by
  by_cases hin : pieceIn s u
  · have H := Lib.hid hin
    have g5 : 200 < ceil s u := by
      rcases Int.lt_or_le 200 (ceil s u) with h' | h'
      · exact h'
      · exact absurd ⟨hin, h'⟩ h
    obtain ⟨h1, h2, h3, h4⟩ := hin
    have g1 : ¬ (s < 0) := by omega
    have g2 : ¬ (1000000 < s) := by omega
    have g3 : ¬ (u < 1) := by omega
    have g4 : ¬ (1000000 < u) := by omega
    clear h
    go_enter Try.func115, Try.ntmps115
    go_wp2_with fail
    refine (many_in s u _ H.out).mono ?_
    rintro e w' ⟨rfl, rfl⟩
    go_wp2_with fail
    go_ret
    exact ⟨2, by decide, rfl, rfl⟩
  · have hr : s < 0 ∨ (¬ s < 0 ∧ 1000000 < s) ∨ (¬ s < 0 ∧ ¬ 1000000 < s ∧ u < 1) ∨ (¬ s < 0 ∧ ¬ 1000000 < s ∧ ¬ u < 1 ∧ 1000000 < u) := by
      unfold pieceIn at hin
      omega
    clear h hin
    rcases hr with h1 | ⟨h1, h2⟩ | ⟨h1, h2, h3⟩ | ⟨h1, h2, h3, h4⟩
    all_goals
      go_enter Try.func115, Try.ntmps115
      go_wp2_with fail
      go_ret
      exact ⟨1, by decide, rfl, rfl⟩
end Go.Proofs.Ytpifknmoimlpoaa
