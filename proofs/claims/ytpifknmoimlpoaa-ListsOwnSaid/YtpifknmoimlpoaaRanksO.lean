/- Plain laws of ranks: two neighbours, the later of the lesser Due, change places; sorted by Dues. -/
import Derived.Test.YtpifknmoimlpoaaRanksP
import Derived.Test.YtpifknmoimlpoaaEdfP
set_option linter.unusedVariables false
namespace Go.Proofs.Ytpifknmoimlpoaa
open Go.RowKit
theorem swap_lo {zs : List Int} {n j : Nat} (hj : j + 1 < n) {q : Nat} (hq : q < n) (h1 : q ≠ j) (h2 : q ≠ j + 1) {b : Nat} (hb : b < 3) : fd (swapT zs n (j + 1) j) q b = fd zs q b := by
  rw [swapT_fd hq hb, if_neg h1, if_neg h2]
theorem swap_a {zs : List Int} {n j : Nat} (hj : j + 1 < n) {b : Nat} (hb : b < 3) : fd (swapT zs n (j + 1) j) j b = fd zs (j + 1) b := by
  rw [swapT_fd (by omega) hb, if_pos rfl]
theorem swap_b {zs : List Int} {n j : Nat} (hj : j + 1 < n) {b : Nat} (hb : b < 3) : fd (swapT zs n (j + 1) j) (j + 1) b = fd zs j b := by
  rw [swapT_fd (by omega) hb, if_neg (by omega), if_pos rfl]
theorem swap_ranks {zs : List Int} {n j : Nat} (hj : j + 1 < n) (h : ranksOk zs n) : ranksOk (swapT zs n (j + 1) j) n := by
  refine ⟨h.1, fun i hi => ?_⟩
  by_cases h1 : i = j
  · subst h1
    have := h.2 (i + 1) hj
    unfold taskOk at *
    rw [swap_a hj (by omega), swap_a hj (by omega), swap_a hj (by omega)]
    exact this
  · by_cases h2 : i = j + 1
    · subst h2
      have := h.2 j (by omega)
      unfold taskOk at *
      rw [swap_b hj (by omega), swap_b hj (by omega), swap_b hj (by omega)]
      exact this
    · have := h.2 i hi
      unfold taskOk at *
      rw [swap_lo hj hi h1 h2 (by omega), swap_lo hj hi h1 h2 (by omega), swap_lo hj hi h1 h2 (by omega)]
      exact this
theorem swap_rsum_lo {zs : List Int} {n j : Nat} (hj : j + 1 < n) (x : Int) (k : Nat) (hk : k ≤ j) : rsum (swapT zs n (j + 1) j) x k = rsum zs x k :=
  rsum_congr k fun q hq => ⟨swap_lo hj (by omega) (by omega) (by omega) (by omega), swap_lo hj (by omega) (by omega) (by omega) (by omega)⟩
theorem swap_rsum_hi {zs : List Int} {n j : Nat} (hj : j + 1 < n) (x : Int) (k : Nat) (hk : j + 2 ≤ k) (hn : k ≤ n) : rsum (swapT zs n (j + 1) j) x k = rsum zs x k := by
  induction k with
  | zero => omega
  | succ k ih =>
    rcases Nat.lt_or_ge (j + 1) k with h | h
    · rw [rsum_succ, rsum_succ, ih (by omega) (by omega), swap_lo hj (by omega) (by omega) (by omega) (by omega), swap_lo hj (by omega) (by omega) (by omega) (by omega)]
    · obtain rfl : k = j + 1 := by omega
      rw [rsum_succ, rsum_succ, rsum_succ, rsum_succ, swap_rsum_lo hj x j (Nat.le_refl _), swap_a hj (by omega), swap_a hj (by omega), swap_b hj (by omega), swap_b hj (by omega)]
      omega
theorem swap_fits {zs : List Int} {n j : Nat} (hj : j + 1 < n) (h : ranksOk zs n) (hd : fd zs (j + 1) 2 < fd zs j 2) (hf : fitsR zs n) : fitsR (swapT zs n (j + 1) j) n := by
  intro i hi
  obtain ⟨p0, p1, p2, p3, p4⟩ := h.2 j (by omega)
  obtain ⟨q0, q1, q2, q3, q4⟩ := h.2 (j + 1) hj
  obtain ⟨y, y0, y1, y2⟩ := hf (j + 1) hj
  rw [rsum_succ] at y2
  have rn := rsum_nonneg h.2 y0 j (by omega)
  have un := upv_bd y0 p0
  have mn := Int.mul_nonneg un.1 (show 0 ≤ fd zs j 1 by omega)
  rcases Nat.lt_trichotomy i j with hij | hij | hij
  · obtain ⟨x, x0, x1, x2⟩ := hf i hi
    exact ⟨x, x0, by rw [swap_lo hj hi (by omega) (by omega) (by omega)]; exact x1, by rw [swap_lo hj hi (by omega) (by omega) (by omega), swap_rsum_lo hj x i (by omega)]; exact x2⟩
  · subst hij
    exact ⟨y, y0, by rw [swap_a hj (by omega)]; exact y1, by rw [swap_a hj (by omega), swap_rsum_lo hj y i (Nat.le_refl _)]; omega⟩
  · rcases Nat.lt_or_ge (j + 1) i with h2 | h2
    · obtain ⟨x, x0, x1, x2⟩ := hf i hi
      exact ⟨x, x0, by rw [swap_lo hj hi (by omega) (by omega) (by omega)]; exact x1, by rw [swap_lo hj hi (by omega) (by omega) (by omega), swap_rsum_hi hj x i (by omega) (by omega)]; exact x2⟩
    · obtain rfl : i = j + 1 := by omega
      refine ⟨y, y0, by rw [swap_b hj (by omega)]; omega, ?_⟩
      rw [swap_b hj (by omega), rsum_succ, swap_rsum_lo hj y j (Nat.le_refl _), swap_a hj (by omega), swap_a hj (by omega)]
      have u1 : 1 ≤ upv y (fd zs j 0) := (Int.le_ediv_iff_mul_le (by omega)).2 (by omega)
      have u2 : upv y (fd zs (j + 1) 0) ≤ 1 := by
        have : upv y (fd zs (j + 1) 0) < 2 := by unfold upv; exact Int.ediv_lt_of_lt_mul (by omega) (by omega)
        omega
      have a := Int.mul_le_mul_of_nonneg_right u1 (show 0 ≤ fd zs j 1 by omega)
      have b := Int.mul_le_mul_of_nonneg_right u2 (show 0 ≤ fd zs (j + 1) 1 by omega)
      omega
/-- The first i + 1 are in order, but for the one at j, which is on its way down. -/
def sortTo (zs : List Int) (i j : Nat) : Prop := ∀ p q, p < q → q ≤ i → q ≠ j → fd zs p 2 ≤ fd zs q 2
theorem sortTo_start {zs : List Int} {i : Nat} (h : sortTo zs i 0) : sortTo zs (i + 1) (i + 1) := fun p q h1 h2 h3 => h p q h1 (by omega) (by omega)
theorem sortTo_swap {zs : List Int} {n i j : Nat} (hn : i < n) (hj : j + 1 ≤ i) (hd : fd zs (j + 1) 2 < fd zs j 2) (h : sortTo zs i (j + 1)) : sortTo (swapT zs n (j + 1) j) i j := by
  have hj' : j + 1 < n := by omega
  intro p q h1 h2 h3
  by_cases hq : q = j + 1
  · subst hq
    rw [swap_b hj' (by omega)]
    by_cases hp : p = j
    · subst hp; rw [swap_a hj' (by omega)]; omega
    · rw [swap_lo hj' (by omega) hp (by omega) (by omega)]
      exact h p j (by omega) (by omega) (by omega)
  · rw [swap_lo hj' (show q < n by omega) h3 hq (by omega)]
    by_cases hp : p = j
    · subst hp; rw [swap_a hj' (by omega)]; exact h (p + 1) q (by omega) h2 hq
    · by_cases hp2 : p = j + 1
      · subst hp2; rw [swap_b hj' (by omega)]; exact h j q (by omega) h2 hq
      · rw [swap_lo hj' (by omega) hp hp2 (by omega)]; exact h p q h1 h2 hq
theorem sortTo_done {zs : List Int} {i j : Nat} (hj : j + 1 ≤ i) (hd : ¬ fd zs (j + 1) 2 < fd zs j 2) (h : sortTo zs i (j + 1)) : sortTo zs i 0 := by
  intro p q h1 h2 h3
  by_cases hq : q = j + 1
  · subst hq
    rcases Nat.lt_or_ge p j with hp | hp
    · have := h p j hp (by omega) (by omega); omega
    · obtain rfl : p = j := by omega
      omega
  · exact h p q h1 h2 hq
end Go.Proofs.Ytpifknmoimlpoaa
