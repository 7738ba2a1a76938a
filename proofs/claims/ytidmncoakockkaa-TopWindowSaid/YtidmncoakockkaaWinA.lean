/- Plain facts on the times of a window. -/
import Derived.Test.YtidmncoakockkaaBase
set_option linter.unusedVariables false
namespace Go.Proofs.Ytidmncoakockkaa
/-- The time at which piece i is sent. -/
def wtime (w trip i : Nat) : Nat := if trip ≤ w then i else i / w * trip + i % w
theorem wtime_zero (w trip : Nat) : wtime w trip 0 = 0 := by unfold wtime; split <;> simp
theorem wtime_le (w trip i : Nat) (hw : 1 ≤ w) (ht : 1 ≤ trip) : wtime w trip i ≤ i * trip := by
  unfold wtime
  split
  · exact Nat.le_mul_of_pos_right _ ht
  · have h := Nat.div_add_mod i w
    have h2 : i % w ≤ i % w * trip := Nat.le_mul_of_pos_right _ ht
    have h3 : i * trip = (w * (i / w) + i % w) * trip := by rw [h]
    rw [h3, Nat.add_mul]
    have h4 : i / w * trip ≤ w * (i / w) * trip := Nat.mul_le_mul_right _ (Nat.le_mul_of_pos_left _ hw)
    omega
theorem wtime_bd (w trip i : Nat) (hw : 1 ≤ w) (ht : 1 ≤ trip) (hi : i ≤ 200) (ht2 : trip ≤ 200) : wtime w trip i ≤ 40000 := by
  have := wtime_le w trip i hw ht
  have h2 : i * trip ≤ 200 * 200 := Nat.mul_le_mul hi ht2
  omega
/-- The step by one piece: inside a window, or over its end. -/
theorem wtime_parts (w i : Nat) (hw : 1 ≤ w) (q r : Nat) (h : i = w * q + r) (hr : r < w) : i / w = q ∧ i % w = r := by
  subst h
  have h1 : (w * q + r) / w = q := by rw [Nat.mul_add_div (by omega), Nat.div_eq_of_lt hr]; omega
  have h2 : (w * q + r) % w = r := by rw [Nat.mul_add_mod, Nat.mod_eq_of_lt hr]
  exact ⟨h1, h2⟩
theorem wtime_step (w trip k : Nat) (hw : 1 ≤ w) (ht : 1 ≤ trip) (h0 : 0 < k) :
    wtime w trip k = if w ≤ k then max (wtime w trip (k - 1) + 1) (wtime w trip (k - w) + trip) else wtime w trip (k - 1) + 1 := by
  unfold wtime
  by_cases hT : trip ≤ w
  · simp only [hT, if_true]
    split <;> omega
  · simp only [hT, if_false]
    have hd := Nat.div_add_mod k w
    have hm := Nat.mod_lt k (show w > 0 by omega)
    generalize k / w = Q at *
    generalize k % w = R at *
    by_cases hr : R = 0
    · -- over the end of a window
      subst hr
      rcases Q with _ | q
      · simp at hd
        omega
      rw [Nat.mul_add] at hd
      obtain ⟨a1, a2⟩ := wtime_parts w (k - 1) hw q (w - 1) (by omega) (by omega)
      obtain ⟨b1, b2⟩ := wtime_parts w (k - w) hw q 0 (by omega) (by omega)
      have hwk : w ≤ k := by omega
      rw [a1, a2, b1, b2, if_pos hwk, Nat.add_mul]
      omega
    · obtain ⟨a1, a2⟩ := wtime_parts w (k - 1) hw Q (R - 1) (by omega) (by omega)
      rw [a1, a2]
      by_cases hwk : w ≤ k
      · rcases Q with _ | q
        · simp at hd
          omega
        rw [Nat.mul_add] at hd
        obtain ⟨b1, b2⟩ := wtime_parts w (k - w) hw q R (by omega) (by omega)
        rw [b1, b2, if_pos hwk, Nat.add_mul]
        omega
      · rw [if_neg hwk]
        omega
def wlist (w trip n : Nat) : List Int := (List.range n).map fun i => (wtime w trip i : Int)
theorem wlist_len (w trip n : Nat) : (wlist w trip n).length = n := by simp [wlist]
theorem wlist_get (w trip n i : Nat) (h : i < n) : gi (wlist w trip n) i = wtime w trip i := by simp [wlist, gi, h]
theorem wlist_succ (w trip n : Nat) : wlist w trip (n + 1) = wlist w trip n ++ [(wtime w trip n : Int)] := by simp [wlist, List.range_succ]
theorem wlist_at (w trip n i : Nat) (h : i < n) : (ints (wlist w trip n))[i]? = some (.int .i64 (wtime w trip i)) := by
  rw [ints_get (by rw [wlist_len]; exact h), wlist_get _ _ _ _ h]
theorem wlist_push (w trip k : Nat) (x : Int) (h : x = wtime w trip k) : ints (wlist w trip k) ++ [.int .i64 x] = ints (wlist w trip (k + 1)) := by
  subst h
  rw [wlist_succ, ints_snoc]
theorem wstep_zero (w trip : Nat) : (0 : Int) = wtime w trip 0 := by rw [wtime_zero]; rfl
theorem wstep_in (w trip k : Nat) (hw : 1 ≤ w) (ht : 1 ≤ trip) (h0 : 0 < k) (h : ¬ w ≤ k) : (wtime w trip (k - 1) : Int) + 1 = wtime w trip k := by
  rw [wtime_step w trip k hw ht h0, if_neg h]; omega
theorem wstep_over (w trip k : Nat) (hw : 1 ≤ w) (ht : 1 ≤ trip) (h0 : 0 < k) (h : w ≤ k) :
    (if (wtime w trip (k - 1) : Int) + 1 < (wtime w trip (k - w) : Int) + trip then (wtime w trip (k - w) : Int) + trip else (wtime w trip (k - 1) : Int) + 1) = wtime w trip k := by
  rw [wtime_step w trip k hw ht h0, if_pos h]; split <;> omega
end Go.Proofs.Ytidmncoakockkaa
