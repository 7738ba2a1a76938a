/- ShareLast: the last one is done when all bytes went; who lags by less is done no later; nobody is done ahead of his own bytes. -/
import Derived.Test.YtidmncoakockkaaShareEach
set_option linter.unusedVariables false
namespace Go.Proofs.Ytidmncoakockkaa
open Go.RowKit
/-- What participant j is sent ahead of participant i's last byte, i's own bytes among it. -/
def ee (l : List Int) (i j : Nat) : Int := if j = i then gi l i else contr l i j
def epart (l : List Int) (i : Nat) : Nat → Int
  | 0 => 0
  | k + 1 => epart l i k + ee l i k
theorem dpart_epart (l : List Int) (i k : Nat) : dpart l i k = epart l i k + if i < k then 0 else gi l i := by
  induction k with
  | zero => simp [dpart, epart]
  | succ k ih =>
    rw [dpart_succ, ih]
    show _ = epart l i k + ee l i k + _
    unfold ee
    rcases Nat.lt_trichotomy k i with h | h | h
    · rw [if_neg (by omega), if_neg (by omega), if_neg (by omega)]; (try omega)
    · subst h
      have e : contr l k k = 0 := by unfold contr; rw [if_neg (by omega), if_neg (by omega)]
      rw [if_neg (by omega), if_pos rfl, if_pos (by omega), e]; (try omega)
    · rw [if_pos h, if_neg (by omega), if_pos (by omega)]; (try omega)
theorem epart_mono (l l' : List Int) (i i' : Nat) (k : Nat) (h : ∀ j, j < k → ee l i j ≤ ee l' i' j) : epart l i k ≤ epart l' i' k := by
  induction k with
  | zero => exact Int.le_refl _
  | succ k ih =>
    have a := ih fun j hj => h j (by omega)
    have b := h k (by omega)
    show epart l i k + ee l i k ≤ epart l' i' k + ee l' i' k
    omega
theorem dsum_epart (l : List Int) {i : Nat} (hi : i < l.length) : dsum l i = epart l i l.length := by
  unfold dsum
  rw [dpart_epart, if_pos hi, Int.add_zero]
/-- Who lags by less is done no later. -/
theorem dsum_less {l : List Int} (h : lagsOk l) {i k : Nat} (hi : i < l.length) (hk : k < l.length) (hlt : gi l k < gi l i) : dsum l k ≤ dsum l i := by
  rw [dsum_epart l hi, dsum_epart l hk]
  refine epart_mono _ _ _ _ _ fun j hj => ?_
  have bi := lag_bd h hi
  have bk := lag_bd h hk
  have bj := lag_bd h hj
  unfold ee contr
  have a1 := mn_le (gi l j) (gi l k)
  have a2 := mn_le (gi l j) (mx 0 (gi l k - 1))
  have a3 := mx_le 0 (gi l k - 1)
  have a4 := mx_le 0 (gi l i - 1)
  have a5 := mn_le (gi l j) (gi l i)
  have a6 := mn_le (gi l j) (mx 0 (gi l i - 1))
  by_cases e1 : j = k
  · subst e1
    have hji : j ≠ i := by
      rintro rfl
      omega
    rw [if_pos rfl, if_neg hji]
    split
    · omega
    · rw [if_pos (by omega)]; omega
  · rw [if_neg e1]
    by_cases e2 : j = i
    · subst e2
      rw [if_pos rfl]
      split
      · omega
      · split <;> omega
    · rw [if_neg e2]
      split <;> split <;> (try split) <;> (try split) <;> omega
def lsum (l : List Int) : Nat → Int
  | 0 => 0
  | k + 1 => lsum l k + gi l k
theorem lsum_succ (l : List Int) (k : Nat) : lsum l (k + 1) = lsum l k + gi l k := rfl
theorem lsum_bd {l : List Int} (h : lagsOk l) (k : Nat) (hk : k ≤ l.length) : 0 ≤ lsum l k ∧ lsum l k ≤ 1000 * k := by
  induction k with
  | zero => simp [lsum]
  | succ k ih =>
    have a := ih (by omega)
    have b := lag_bd h (show k < l.length by omega)
    rw [lsum_succ]
    omega
theorem dsum_all {l : List Int} (h : lagsOk l) {i : Nat} (hi : i < l.length) : dsum l i ≤ lsum l l.length := by
  rw [dsum_epart l hi]
  have key : ∀ k, k ≤ l.length → epart l i k ≤ lsum l k := by
    intro k hk
    induction k with
    | zero => exact Int.le_refl _
    | succ k ih =>
      have a := ih (by omega)
      have b := contr_bd h hi (show k < l.length by omega)
      show epart l i k + ee l i k ≤ lsum l k + gi l k
      unfold ee
      split
      · rename_i e; subst e; omega
      · omega
  exact key _ (Nat.le_refl _)
theorem last_most (l : List Int) (n : Nat) (h : 0 < n) : ∃ i, i < n ∧ (∀ k, k < i → gi l k ≤ gi l i) ∧ ∀ k, i < k → k < n → gi l k < gi l i := by
  induction n with
  | zero => omega
  | succ n ih =>
    rcases Nat.eq_zero_or_pos n with rfl | hn
    · exact ⟨0, by omega, fun k hk => by omega, fun k h1 h2 => by omega⟩
    · obtain ⟨i, h1, h2, h3⟩ := ih hn
      by_cases hc : gi l n < gi l i
      · refine ⟨i, by omega, h2, fun k hk1 hk2 => ?_⟩
        rcases Nat.lt_or_ge k n with hk | hk
        · exact h3 k hk1 hk
        · obtain rfl : k = n := by omega
          exact hc
      · refine ⟨n, by omega, fun k hk => ?_, fun k hk1 hk2 => by omega⟩
        rcases Nat.lt_trichotomy k i with hk2 | hk2 | hk2
        · have := h2 k hk2; omega
        · subst hk2; omega
        · have := h3 k hk2 hk; omega
theorem dsum_most {l : List Int} (h : lagsOk l) (hn : 0 < l.length) : ∃ i, i < l.length ∧ dsum l i = lsum l l.length := by
  obtain ⟨i, h1, h2, h3⟩ := last_most l l.length hn
  refine ⟨i, h1, ?_⟩
  rw [dsum_epart l h1]
  have key : ∀ k, k ≤ l.length → epart l i k = lsum l k := by
    intro k hk
    induction k with
    | zero => rfl
    | succ k ih =>
      have a := ih (by omega)
      have bk := lag_bd h (show k < l.length by omega)
      have bi := lag_bd h h1
      show epart l i k + ee l i k = lsum l k + gi l k
      rw [a]
      unfold ee contr
      have a5 := mn_le (gi l k) (gi l i)
      rcases Nat.lt_trichotomy k i with hk2 | hk2 | hk2
      · have := h2 k hk2
        rw [if_neg (by omega), if_pos hk2]
        unfold mn
        split <;> omega
      · subst hk2
        rw [if_pos rfl]
      · have := h3 k hk2 (by omega)
        rw [if_neg (by omega), if_neg (by omega), if_pos hk2]
        unfold mn mx
        split <;> split at * <;> omega
  exact key _ (Nat.le_refl _)
def plast (l : List Int) (r : Int) : Nat → Int
  | 0 => 0
  | k + 1 => if plast l r k < ceil (dsum l k) r then ceil (dsum l k) r else plast l r k
theorem plast_succ (l : List Int) (r : Int) (k : Nat) : plast l r (k + 1) = if plast l r k < ceil (dsum l k) r then ceil (dsum l k) r else plast l r k := rfl
theorem plast_ge (l : List Int) (r : Int) (n i : Nat) (h : i < n) : ceil (dsum l i) r ≤ plast l r n := by
  induction n with
  | zero => omega
  | succ n ih =>
    rw [plast_succ]
    rcases Nat.lt_or_ge i n with hi | hi
    · have := ih hi
      split <;> omega
    · obtain rfl : i = n := by omega
      split <;> omega
theorem plast_le (l : List Int) (r : Int) (n : Nat) (m : Int) (h0 : 0 ≤ m) (h : ∀ i, i < n → ceil (dsum l i) r ≤ m) : 0 ≤ plast l r n ∧ plast l r n ≤ m := by
  induction n with
  | zero => exact ⟨Int.le_refl _, h0⟩
  | succ n ih =>
    have a := ih fun i hi => h i (by omega)
    have b := h n (by omega)
    rw [plast_succ]
    split <;> omega
theorem plast_eq {l : List Int} {r : Int} (h : shareOk l r) : plast l r l.length = ceil (lsum l l.length) r := by
  have hp := lsum_bd h.1 l.length (Nat.le_refl _)
  have hr := h.2.1
  have c0 := ceil_nonneg (d := lsum l l.length) hr hp.1
  have a := plast_le l r l.length _ c0 fun i hi => ceil_mono hr (dsum_all h.1 hi)
  rcases Nat.eq_zero_or_pos l.length with h0 | h0
  · rw [h0]
    show (0 : Int) = ceil 0 r
    have := ceil_le (d := 0) hr (by omega)
    have := ceil_nonneg (d := 0) hr (by omega)
    omega
  · obtain ⟨i, h1, h2⟩ := dsum_most h.1 h0
    have b := plast_ge l r l.length i h1
    rw [h2] at b
    omega
end Go.Proofs.Ytidmncoakockkaa
