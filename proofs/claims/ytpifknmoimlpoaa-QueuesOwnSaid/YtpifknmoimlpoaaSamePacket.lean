/- slices.Equal of two slices of Packet that read alike. -/
import Derived.Test.YtpifknmoimlpoaaElems
import Derived.Test.YtpifknmoimlpoaaOpen
import Derived.Deep.QuietTactic
import Derived.BigQuiet
set_option linter.unusedVariables false
namespace Go.Proofs.Ytpifknmoimlpoaa
open Go.RowKit
set_option maxHeartbeats 800000 in
theorem samePacket (A B : Option Addr) (n c d : Nat) (xs : List Int) (W : World) (B1 B2 : Nat) (hx : Sl W B1 A (n * 3) (ints xs)) (hy : Sl W B2 B (n * 3) (ints xs)) (hn : n ≤ 9223372036854775807) :
    Calls Try.prog 33 #[.slice A n c, .slice B n d] W fun e w' => e = .returned (.bool true) ∧ Below W.heap.size W w' := by
  have hne : ((n : Int) != n) = false := by simp
  go_enter Try.func33, Try.ntmps33
  go_wp2
  go_loopw [13, 5] (fun i _ wr => ∃ k : Nat, k ≤ n ∧ i = .int .i64 k ∧ ∃ q, wr = W.drewN q) (fun i _ _ => n - (intOf i).toNat)
  case atStart => exact ⟨0, Nat.zero_le _, rfl, 0, rfl⟩
  case round =>
    obtain ⟨k, hk, rfl, q, rfl⟩ := hrel
    have h0 : (0 : Int) ≤ k := by omega
    by_cases hlt : k < n
    · obtain ⟨b, off, rfl, hb, -⟩ := hx.int_at (k := k * 3) (by omega)
      obtain ⟨b', off', rfl, hb', -⟩ := hy.int_at (k := k * 3) (by omega)
      have c0 := hx.int_cell (k := k * 3) (by omega)
      have c1 := hx.int_cell (k := k * 3 + 1) (by omega)
      rw [← Nat.add_assoc] at c1
      have c2 := hx.int_cell (k := k * 3 + 2) (by omega)
      rw [← Nat.add_assoc] at c2
      have d0 := hy.int_cell (k := k * 3) (by omega)
      have d1 := hy.int_cell (k := k * 3 + 1) (by omega)
      rw [← Nat.add_assoc] at d1
      have d2 := hy.int_cell (k := k * 3 + 2) (by omega)
      rw [← Nat.add_assoc] at d2
      have hn1 : (k : Int) < n := by omega
      clear hx hy
      go_wp2
      go_quiet (fail)
      go_wp2
      go_roundw
      case rel => exact ⟨k + 1, by omega, by go_num, _, rfl⟩
      case measure => simp [intOf]; omega
    · have hn1 : ¬ (k : Int) < n := by omega
      clear hx hy
      go_wp2
      go_ret
      exact ⟨rfl, bel_drewN (Below.refl _ _) _⟩
end Go.Proofs.Ytpifknmoimlpoaa
