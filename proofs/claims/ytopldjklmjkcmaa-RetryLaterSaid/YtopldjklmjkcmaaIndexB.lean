/- slices.Index of a slice of bools: the first place of false. -/
import Derived.Test.YtopldjklmjkcmaaElems
import Derived.Test.YtopldjklmjkcmaaRetryA
set_option linter.unusedVariables false
namespace Go.Proofs.Ytopldjklmjkcmaa
open Go.RowKit
set_option maxHeartbeats 400000 in
theorem indexFalse (A : Option Addr) (n c k : Nat) (bs : List Bool) (W : World) (B : Nat) (hs : Sl W B A n (bools bs)) (hk : FirstGot bs k) (hn : n ≤ 9223372036854775807) :
    Calls Try.prog 21 #[.slice A n c, .bool false] W fun e w' => e = .returned (.int .i64 k) ∧ W = w' := by
  have hlen := hs.bool_len
  obtain ⟨k1, k2, k3⟩ := hk
  have hkn : k < n := by omega
  have K2 := Lib.hid k2
  have K3 := Lib.hid k3
  clear hlen k2 k3
  go_enter Try.func21, Try.ntmps21
  go_wp2
  go_loop [8, 5] (fun i _ => ∃ j : Nat, j ≤ k ∧ i = .int .i64 j) (fun i _ => k - (intOf i).toNat)
  case atStart => exact ⟨0, Nat.zero_le _, rfl⟩
  case round =>
    obtain ⟨j, hj, rfl⟩ := hrel
    obtain ⟨b, off, rfl, hbl, hc⟩ := hs.bool_at (k := j) (by omega)
    have hj1 : (j : Int) < n := by omega
    have hj0 : (0 : Int) ≤ j := by omega
    by_cases hlt : j < k
    · rw [K3.out j hlt] at hc
      clear hs
      go_wp2
      go_round
      case rel => exact ⟨j + 1, by omega, by go_num⟩
      case measure => simp [intOf]; omega
    · have hjk : j = k := by omega
      subst hjk
      rw [K2.out] at hc
      clear hs
      go_wp2
      go_ret
      exact ⟨rfl, rfl⟩
end Go.Proofs.Ytopldjklmjkcmaa
