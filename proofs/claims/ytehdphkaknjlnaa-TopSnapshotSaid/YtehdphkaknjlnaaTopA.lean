/- headtop.begun, headtop.le, slices.Max. -/
import Derived.Test.YtehdphkaknjlnaaConvA
import Derived.Test.YtehdphkaknjlnaaLawKit
set_option linter.unusedVariables false
namespace Go.Proofs.Ytehdphkaknjlnaa
open Go.RowKit
theorem begun_any (W : World) (v : Bool) (hv : true = v) : Calls Try.prog 39 #[] W fun e w' => e = .returned (.bool v) ∧ Below W.heap.size W w' := by
  subst hv
  go_enter Try.func39, Try.ntmps39
  go_wp2_with fail
  refine (conv_any _ 2 _ [0, 4] _ 2 _ [1, 2] _ (slMore (Sl.built_ _ (ints [0, 4]) 3 _ rfl rfl) _) (Sl.built_ _ (ints [1, 2]) 3 _ (by simp) rfl) (by omega) (by omega) [1, 2] 0 2 (by decide +kernel) rfl).mono ?_
  rintro e w1 ⟨A1, c1, rfl, s1, l1, bb1⟩
  have b1 := belLit2 (Below.refl W.heap.size W) bb1
  clear bb1
  go_wp2_with fail
  refine (equal_t A1 2 c1 [1, 2] _ 2 _ [1, 2] _ (slMore s1 _) (Sl.built_ _ (ints [1, 2]) 3 _ rfl rfl) (by omega) (by omega) true (by decide)).mono ?_
  rintro e w2 ⟨rfl, bb2⟩
  have b2 := belLit1 b1 bb2
  clear s1 b1 bb2
  go_wp2_with fail
  go_ret
  exact ⟨rfl, b2⟩
/-- slices.Max of a slice that is not empty. -/
theorem smax_any (A : Option Addr) (n c : Nat) (l : List Int) (W : World) (hs : Sl W W.heap.size A n (ints l)) (hn : n ≤ 9223372036854775807) (hp : 0 < n) (v : Int) (hv : hi (gi l) (n - 1) = v) :
    Calls Try.prog 23 #[.slice A n c] W fun e w' => e = .returned (.int .i64 v) ∧ Below W.heap.size W w' := by
  subst hv
  have h1 : ¬ (n : Int) < 1 := by omega
  have h2 : (0 : Int) < n := by omega
  obtain ⟨b, off, rfl, hb, -⟩ := hs.int_at hp
  have hc0 := hs.int_cell hp
  rw [Nat.add_zero] at hc0
  go_enter Try.func23, Try.ntmps23
  go_wp2_with fail
  clear hc0
  go_loop [4, 3] (fun i m => ∃ k : Nat, 0 < k ∧ k ≤ n ∧ i = .int .i64 k ∧ m = .int .i64 (hi (gi l) (k - 1))) (fun i _ => n - (intOf i).toNat)
  case atStart => exact ⟨1, by omega, by omega, rfl, rfl⟩
  case round =>
    obtain ⟨k, hk0, hk, rfl, rfl⟩ := hrel
    by_cases hlt : k < n
    · have hc := hs.int_cell hlt
      have m1 : (k : Int) < n := by omega
      have m0 : (0 : Int) ≤ k := by omega
      have hsu := hi_succ (gi l) (k - 1)
      rw [show k - 1 + 1 = k by omega] at hsu
      obtain ⟨cur, hcur⟩ : ∃ z, hi (gi l) (k - 1) = z := ⟨_, rfl⟩
      rw [hcur] at hsu ⊢
      obtain ⟨nv, hnv⟩ : ∃ z, (if cur < gi l k then gi l k else cur) = z := ⟨_, rfl⟩
      have HS : Hid (hi (gi l) k = nv) := by show _ = _; rw [hsu, ← hnv]; rfl
      clear hs hcur hsu
      go_wp2_with fail
      go_round
      case rel => exact ⟨k + 1, by omega, by omega, by go_num, by rw [Nat.add_sub_cancel, HS.out]⟩
      case measure => simp [intOf]; omega
    · have hkn : k = n := by omega
      subst hkn
      have m1 : ¬ (k : Int) < k := by omega
      clear hs
      go_wp2_with fail
      go_ret
      exact ⟨rfl, Below.refl _ _⟩
end Go.Proofs.Ytehdphkaknjlnaa
