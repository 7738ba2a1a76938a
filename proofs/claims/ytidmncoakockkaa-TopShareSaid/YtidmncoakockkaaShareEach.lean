/- ShareEach: nobody waits longer than if all lagged by as much as he. -/
import Derived.Test.YtidmncoakockkaaShareB
import Derived.Test.YtidmncoakockkaaEqual
import Derived.Test.YtidmncoakockkaaWithin
set_option linter.unusedVariables false
namespace Go.Proofs.Ytidmncoakockkaa
open Go.RowKit
theorem shareDone_ex (l : List Int) (r : Int) (out : List Int) (n : Nat) (hl : l.length = n) (hok : shareOk l r) (hout : slist l r n = out) (A : Option Addr) (c : Nat) (W : World) (hs : Sl W W.heap.size A n (ints l)) :
    Calls Try.prog 9 #[.slice A n c, .int .i64 r] W fun e w' => ∃ A' c', e = .returned (.tuple #[.slice A' n c', .int .i64 0]) ∧
      Sl w' w'.heap.size A' n (ints out) ∧ Below W.heap.size W w' :=
  (shareDone_ok A n c l r W hok hs).mono fun _ _ ⟨A', c', h1, h2, h3, _⟩ => ⟨A', c', h1, by rw [hout] at h2; exact h2, h3⟩
theorem dpart_each {l : List Int} (h : lagsOk l) {i k : Nat} (hi : i < l.length) (hk : k ≤ l.length) :
    dpart l i k ≤ (if i < k then (k : Int) else k + 1) * gi l i := by
  have b := lag_bd h hi
  induction k with
  | zero => simp [dpart]
  | succ k ih =>
    have := ih (by omega)
    have c := contr_bd h hi (show k < l.length by omega)
    rw [dpart_succ]
    rcases Nat.lt_trichotomy i k with h1 | h1 | h1
    · rw [if_pos h1] at this
      rw [if_pos (by omega), Int.natCast_succ, Int.add_mul, Int.one_mul]
      omega
    · subst h1
      rw [if_neg (by omega)] at this
      rw [if_pos (by omega), Int.natCast_succ]
      have e : contr l i i = 0 := by unfold contr; rw [if_neg (by omega), if_neg (by omega)]
      omega
    · rw [if_neg (by omega)] at this
      rw [if_neg (by omega), Int.natCast_succ, Int.add_mul _ 1, Int.one_mul]
      omega
theorem dsum_each {l : List Int} (h : lagsOk l) {i : Nat} (hi : i < l.length) : dsum l i ≤ l.length * gi l i := by
  have := dpart_each h hi (Nat.le_refl _)
  rwa [if_pos hi] at this
end Go.Proofs.Ytidmncoakockkaa
