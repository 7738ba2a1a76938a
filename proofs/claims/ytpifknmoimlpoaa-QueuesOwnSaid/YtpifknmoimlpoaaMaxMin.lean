/- slices.Max, slices.Min of numbers. -/
import Derived.Test.YtpifknmoimlpoaaElems
set_option linter.unusedVariables false
namespace Go.Proofs.Ytpifknmoimlpoaa
open Go.RowKit
theorem smaxP (A : Option Addr) (n c B : Nat) (l : List Int) (W : World) (hs : Sl W B A n (ints l)) (hn : n ≤ 9223372036854775807) (hp : 0 < n) :
    Calls Try.prog 20 #[.slice A n c] W fun e w' => (∃ v, e = .returned (.int .i64 v) ∧ (∃ j, j < n ∧ gi l j = v) ∧ ∀ j, j < n → gi l j ≤ v) ∧ W = w' := by
  have h1 : ¬ (n : Int) < 1 := by omega
  have h2 : (0 : Int) < n := by omega
  obtain ⟨b, off, rfl, hb, -⟩ := hs.int_at hp
  have hc0 := hs.int_cell hp
  rw [Nat.add_zero] at hc0
  go_enter Try.func20, Try.ntmps20
  go_wp2_with fail
  clear hc0
  go_loopw [4, 3] (fun i m wr => ∃ k : Nat, ∃ v : Int, 0 < k ∧ k ≤ n ∧ i = .int .i64 k ∧ m = .int .i64 v ∧ Hid ((∃ j, j < k ∧ gi l j = v) ∧ ∀ j, j < k → gi l j ≤ v) ∧ wr = W) (fun i _ _ => n - (intOf i).toNat)
  case atStart => exact ⟨1, gi l 0, by omega, by omega, rfl, rfl, Lib.hid ⟨⟨0, by omega, rfl⟩, fun j hj => by rw [show j = 0 by omega]; exact Int.le_refl _⟩, rfl⟩
  case round =>
    obtain ⟨k, v, hk0, hk, rfl, rfl, hv, rfl⟩ := hrel
    by_cases hlt : k < n
    · have hc := hs.int_cell hlt
      have m1 : (k : Int) < n := by omega
      have m0 : (0 : Int) ≤ k := by omega
      obtain ⟨nv, hnv⟩ : ∃ z, (if v < gi l k then gi l k else v) = z := ⟨_, rfl⟩
      have HN : Hid ((∃ j, j < k + 1 ∧ gi l j = nv) ∧ ∀ j, j < k + 1 → gi l j ≤ nv) := Lib.hid (by
        obtain ⟨⟨j, hj, e⟩, ha⟩ := hv.out
        constructor
        · by_cases h : v ≤ gi l k
          · exact ⟨k, by omega, by rw [← hnv]; split <;> omega⟩
          · exact ⟨j, by omega, by rw [← hnv]; split <;> omega⟩
        · intro q hq
          rcases Nat.lt_or_ge q k with h' | h'
          · have := ha q h'; rw [← hnv]; split <;> omega
          · obtain rfl : q = k := by omega
            rw [← hnv]; split <;> omega)
      clear hs
      go_wp2_with fail
      go_roundw
      case rel => exact ⟨k + 1, nv, by omega, by omega, by go_num, by first | rfl | rw [hnv], HN, by first | trivial | rfl⟩
      case measure => simp [intOf]; omega
    · have hkn : k = n := by omega
      subst hkn
      have m1 : ¬ (k : Int) < k := by omega
      clear hs
      go_wp2_with fail
      go_ret
      exact ⟨⟨v, rfl, hv.out.1, hv.out.2⟩, by first | trivial | rfl⟩
end Go.Proofs.Ytpifknmoimlpoaa
