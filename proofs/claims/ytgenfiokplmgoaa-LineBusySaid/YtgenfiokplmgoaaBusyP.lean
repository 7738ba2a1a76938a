/- Plain laws of busy times of a line. -/
import Derived.Test.YtgenfiokplmgoaaLineK
set_option linter.unusedVariables false
namespace Go.Proofs.Ytgenfiokplmgoaa
open Go.RowKit
/-- How many times in a row something waited, up to k; the most. -/
def bzn (q : Nat → Int) : Nat → Nat
  | 0 => 0
  | k + 1 => if 0 < q k then bzn q k + 1 else 0
def bzm (q : Nat → Int) : Nat → Nat
  | 0 => 0
  | k + 1 => if bzm q k < bzn q (k + 1) then bzn q (k + 1) else bzm q k
theorem bzn_succ (q : Nat → Int) (k : Nat) : bzn q (k + 1) = if 0 < q k then bzn q k + 1 else 0 := rfl
theorem bzm_succ (q : Nat → Int) (k : Nat) : bzm q (k + 1) = if bzm q k < bzn q (k + 1) then bzn q (k + 1) else bzm q k := rfl
theorem bzn_le (q : Nat → Int) (k : Nat) : bzn q k ≤ k := by
  induction k with
  | zero => exact Nat.le_refl _
  | succ k ih => rw [bzn_succ]; split <;> omega
theorem bzm_le (q : Nat → Int) (k : Nat) : bzm q k ≤ k := by
  induction k with
  | zero => exact Nat.le_refl _
  | succ k ih => rw [bzm_succ]; have := bzn_le q (k + 1); split <;> omega
theorem bzm_lt {q : Nat → Int} {d : Nat} (hd : 0 < d) (n : Nat) (h : ∀ k, k ≤ n → bzn q k < d) : bzm q n < d := by
  induction n with
  | zero => exact hd
  | succ n ih =>
    rw [bzm_succ]
    have := ih fun k hk => h k (by omega)
    have := h (n + 1) (Nat.le_refl _)
    split <;> omega
theorem lbuf_ge {a : List Int} {r : Int} (h : lineOk a r) (k : Nat) (hk : k ≤ a.length) : 0 ≤ lbuf a r k := (lbuf_bd h k hk).1
theorem busy_run {a : List Int} {r : Int} (h : lineOk a r) (k : Nat) (hk : k ≤ a.length) : lbuf a r (k - bzn (fun i => lbuf a r (i + 1)) k) = 0 ∧ ∀ i, k - bzn (fun i => lbuf a r (i + 1)) k < i → i ≤ k → 0 < lbuf a r i := by
  induction k with
  | zero => exact ⟨rfl, fun i h1 h2 => by omega⟩
  | succ k ih =>
    obtain ⟨i1, i2⟩ := ih (by omega)
    have hb := bzn_le (fun i => lbuf a r (i + 1)) k
    rw [bzn_succ]
    by_cases hq : 0 < lbuf a r (k + 1)
    · rw [if_pos hq, show k + 1 - (bzn (fun i => lbuf a r (i + 1)) k + 1) = k - bzn (fun i => lbuf a r (i + 1)) k by omega]
      refine ⟨i1, fun i h1 h2 => ?_⟩
      rcases Nat.lt_or_ge k i with h3 | h3
      · obtain rfl : i = k + 1 := by omega
        exact hq
      · exact i2 i h1 h3
    · rw [if_neg hq, Nat.sub_zero]
      have := lbuf_ge h (k + 1) hk
      exact ⟨by omega, fun i h1 h2 => by omega⟩
theorem busy_sum {a : List Int} {r : Int} {s : Nat} (h0 : lbuf a r s = 0) (j : Nat) (h : ∀ i, s < i → i ≤ s + j → 0 < lbuf a r i) : lbuf a r (s + j) = psum a (s + j) - psum a s - r * (j : Int) := by
  induction j with
  | zero => simp; exact h0
  | succ j ih =>
    have e := ih fun i h1 h2 => h i h1 (by omega)
    have z := h (s + (j + 1)) (by omega) (Nat.le_refl _)
    rw [show s + (j + 1) = (s + j) + 1 by omega] at z ⊢
    rw [lbuf_succ] at z ⊢
    rw [psum_succ, show ((j + 1 : Nat) : Int) = (j : Int) + 1 by omega, Int.mul_add, Int.mul_one]
    have e2 : ldep a r (s + j) = mn (lbuf a r (s + j) + gi a (s + j)) r := rfl
    have m := mn_le (lbuf a r (s + j) + gi a (s + j)) r
    rcases m.2.2 with k | k
    · omega
    · omega
/-- In some times no more comes than the line takes in as many: something waits for fewer times in a row. -/
theorem busy_lt {a l : List Int} {r : Int} (h : lineOk a r) {n d : Nat} (hn : n = a.length) (hd0 : 0 < d) (hf : ∀ t, t < n + 1 → ∀ s, s ≤ t → psum a t - psum a s ≤ gi l (t - s)) (hl : gi l d ≤ r * d) : bzm (fun i => lbuf a r (i + 1)) n < d := by
  refine bzm_lt hd0 n fun k hk => ?_
  obtain ⟨i1, i2⟩ := busy_run h k (by omega)
  have hb := bzn_le (fun i => lbuf a r (i + 1)) k
  generalize bzn (fun i => lbuf a r (i + 1)) k = j at *
  rcases Nat.lt_or_ge j d with h1 | h1
  · exact h1
  · have e := busy_sum i1 d fun i h2 h3 => i2 i h2 (by omega)
    have z := i2 (k - j + d) (by omega) (by omega)
    have f := hf (k - j + d) (by omega) (k - j) (by omega)
    rw [show k - j + d - (k - j) = d by omega] at f
    omega
end Go.Proofs.Ytgenfiokplmgoaa
