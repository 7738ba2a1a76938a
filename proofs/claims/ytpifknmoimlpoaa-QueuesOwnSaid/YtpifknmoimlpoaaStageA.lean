/- piece.Check, piece.Got, piece.Next, piece.Put. -/
import Derived.Test.YtpifknmoimlpoaaPieceA
import Derived.Test.YtpifknmoimlpoaaBucketR
import Derived.Test.YtpifknmoimlpoaaKit0
import Derived.StillTailTactics
set_option linter.unusedVariables false
namespace Go.Proofs.Ytpifknmoimlpoaa
open Go.RowKit
def stageOk (s u : Int) (n : Nat) : Prop := pieceOk s u ∧ (n : Int) = ceil s u
theorem stage_len {s u : Int} {n : Nat} (h : stageOk s u n) : n ≤ 200 := by have := h.1.2; have := h.2; omega
set_option maxHeartbeats 1600000 in
theorem scheck_ok (s u : Int) (A : Option Addr) (n c : Nat) (W : World) (h : stageOk s u n) :
    Calls Try.prog 109 #[.agg #[.int .i64 s, .int .i64 u, .slice A n c]] W fun e w' => e = .returned (.int .i64 0) ∧ Below W.heap.size W w' := by
  have H := Lib.hid h
  have e0 : ((n : Int) != ceil s u) = false := by simp; exact h.2
  have bA := (Below.refl W.heap.size W).alloc (Nat.le_refl _) (.cells #[.int .i64 s, .int .i64 u, .slice A n c] 84)
  clear h
  go_enter Try.func109, Try.ntmps109
  go_wp2_with fail
  refine (plook_ok s u _ H.out.1).mono ?_
  rintro e w1 ⟨rfl, rfl⟩
  go_wp2_with fail
  go_quiet ((go_at_call 116; exact Calls.quiet_of_same ((many_in s u _ H.out.1.1).mono fun _ _ ⟨h1, h2⟩ => ⟨h1, h2.symm⟩)))
  go_wp2_with fail
  go_ret
  exact ⟨rfl, below_drewN bA _⟩
set_option maxHeartbeats 1600000 in
theorem scheck_bad (s u : Int) (A : Option Addr) (n c : Nat) (W : World) (h : ¬ stageOk s u n) :
    Calls Try.prog 109 #[.agg #[.int .i64 s, .int .i64 u, .slice A n c]] W fun e w' => ∃ k : Int, k ≠ 0 ∧ e = .returned (.int .i64 k) ∧ Below W.heap.size W w' := by
  have bA := (Below.refl W.heap.size W).alloc (Nat.le_refl _) (.cells #[.int .i64 s, .int .i64 u, .slice A n c] 84)
  by_cases hp : pieceOk s u
  · have H := Lib.hid hp
    have e0 : ((n : Int) != ceil s u) = true := by simp; exact fun hh => h ⟨hp, hh⟩
    clear h hp
    go_enter Try.func109, Try.ntmps109
    go_wp2_with fail
    refine (plook_ok s u _ H.out).mono ?_
    rintro e w1 ⟨rfl, rfl⟩
    go_wp2_with fail
    go_quiet ((go_at_call 116; exact Calls.quiet_of_same ((many_in s u _ H.out.1).mono fun _ _ ⟨h1, h2⟩ => ⟨h1, h2.symm⟩)))
    go_wp2_with fail
    go_ret
    exact ⟨4, by decide, rfl, below_drewN bA _⟩
  · have H := Lib.hid hp
    clear h hp
    go_enter Try.func109, Try.ntmps109
    go_wp2_with fail
    refine (plook_bad s u _ H.out).mono ?_
    rintro e w1 ⟨k, hk, rfl, rfl⟩
    have e0 : (k != 0) = true := by simpa using hk
    have HK := Lib.hid hk
    clear hk
    go_wp2_with fail
    go_ret
    exact ⟨k, HK.out, rfl, bA⟩
end Go.Proofs.Ytpifknmoimlpoaa
