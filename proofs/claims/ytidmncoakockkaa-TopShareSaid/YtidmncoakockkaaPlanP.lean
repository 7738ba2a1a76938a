/- Plain laws of plan.Rate, plan.Room, catch.Bound. -/
import Derived.Test.YtidmncoakockkaaCurveQ
set_option linter.unusedVariables false
namespace Go.Proofs.Ytidmncoakockkaa
open Go.RowKit
/-- The rate that clears what is there by time t. -/
def rt (f : Nat → Int) (lag : Int) (t : Nat) : Int := (lag + f t + t - 1) / t
/-- The least of them, times 1 to k; -1 if there is none. -/
def rb (f : Nat → Int) (lag : Int) : Nat → Int
  | 0 => -1
  | k + 1 => if rb f lag k < 0 ∨ rt f lag (k + 1) < rb f lag k then rt f lag (k + 1) else rb f lag k
theorem rb_succ (f : Nat → Int) (lag : Int) (k : Nat) : rb f lag (k + 1) = if rb f lag k < 0 ∨ rt f lag (k + 1) < rb f lag k then rt f lag (k + 1) else rb f lag k := rfl
theorem pceil_le {x c t : Int} (ht : 0 < t) : (x + t - 1) / t ≤ c ↔ x ≤ c * t := by
  rw [← Int.lt_add_one_iff, Int.ediv_lt_iff_lt_mul ht, Int.add_mul]
  omega
theorem rt_le {f : Nat → Int} {lag c : Int} {t : Nat} (ht : 0 < t) : rt f lag t ≤ c ↔ lag + f t ≤ c * t := by
  unfold rt
  exact pceil_le (by omega)
theorem rt_nonneg {f : Nat → Int} {lag : Int} {t : Nat} (ht : 0 < t) (h : 0 ≤ lag + f t) : 0 ≤ rt f lag t := Int.ediv_nonneg (by omega) (by omega)
theorem rb_spec {n : Nat} {f : Nat → Int} {lag : Int} (hl : 0 ≤ lag) (hf : ∀ i, i < n → 0 ≤ f i) (k : Nat) (hk : k < n) : (k = 0 → rb f lag k = -1) ∧ (0 < k → 0 ≤ rb f lag k) ∧ (∀ t, 0 < t → t ≤ k → rb f lag k ≤ rt f lag t) ∧ (0 < k → ∃ t, 0 < t ∧ t ≤ k ∧ rb f lag k = rt f lag t) := by
  induction k with
  | zero => exact ⟨fun _ => rfl, fun h => by omega, fun t h1 h2 => by omega, fun h => by omega⟩
  | succ k ih =>
    obtain ⟨i0, i1, i2, i3⟩ := ih (by omega)
    have hn := rt_nonneg (f := f) (lag := lag) (t := k + 1) (by omega) (by have := hf (k + 1) hk; omega)
    rw [rb_succ]
    refine ⟨fun h => by omega, fun _ => ?_, fun t h1 h2 => ?_, fun _ => ?_⟩
    · split
      · exact hn
      · omega
    · rcases Nat.lt_or_ge k t with h | h
      · obtain rfl : t = k + 1 := by omega
        split
        · exact Int.le_refl _
        · omega
      · have y1 := i2 t h1 h
        have y2 := i1 (by omega)
        split
        · rename_i hh
          rcases hh with hh | hh <;> omega
        · exact y1
    · by_cases hc : rb f lag k < 0 ∨ rt f lag (k + 1) < rb f lag k
      · rw [if_pos hc]; exact ⟨k + 1, by omega, by omega, rfl⟩
      · rw [if_neg hc]
        rcases Nat.eq_zero_or_pos k with h | h
        · subst h
          exact absurd (.inl (by rw [i0 rfl]; omega)) hc
        · obtain ⟨t, t1, t2, t3⟩ := i3 h
          exact ⟨t, t1, by omega, t3⟩
theorem rb_bd {n : Nat} {f : List Int} {lag : Int} (hl : 0 ≤ lag) (hl2 : lag ≤ 1000000) (hf : IsC n f) (k : Nat) (hk : k < n) : -1 ≤ rb (gi f) lag k ∧ rb (gi f) lag k ≤ 2000000 := by
  obtain ⟨i0, i1, i2, i3⟩ := rb_spec hl hf.lo k hk
  rcases Nat.eq_zero_or_pos k with h | h
  · have := i0 h; omega
  · have a := i1 h
    obtain ⟨t, t1, t2, t3⟩ := i3 h
    have b : rt (gi f) lag t ≤ 2000000 := (rt_le t1).2 (by
      have x := hf.hi t (by omega)
      have y : (2000000 : Int) * 1 ≤ 2000000 * (t : Int) := Int.mul_le_mul_of_nonneg_left (by omega) (by omega)
      omega)
    omega
theorem rt_bd {n : Nat} {f : List Int} {lag : Int} (hl : 0 ≤ lag) (hl2 : lag ≤ 1000000) (hf : IsC n f) {t : Nat} (h0 : 0 < t) (ht : t < n) : 0 ≤ rt (gi f) lag t ∧ rt (gi f) lag t ≤ 2000000 :=
  ⟨rt_nonneg h0 (by have := hf.lo t ht; omega), (rt_le h0).2 (by
    have x := hf.hi t ht
    have y : (2000000 : Int) * 1 ≤ 2000000 * (t : Int) := Int.mul_le_mul_of_nonneg_left (by omega) (by omega)
    omega)⟩
/-- What plan.look says. -/
def planE (n : Nat) (f : List Int) (d : Int) : Int := if curveErr f = 0 then (if d < 0 ∨ (n : Int) ≤ d then 1 else 0) else curveErr f
theorem planE_ok {n : Nat} {f : List Int} {d : Int} (h : planE n f d = 0) : curveErr f = 0 ∧ 0 ≤ d ∧ d < n := by
  unfold planE at h
  split at h
  · rename_i h1
    split at h
    · cases h
    · exact ⟨h1, by omega, by omega⟩
  · rename_i h1; exact absurd h h1
/-- What plan.Rate answers, lag in its bounds and the rest in order. -/
def rateV (f : List Int) (lag : Int) (d : Nat) : Int × Int :=
  if lag + gi f 0 = 0 then (0, 0) else if rb (gi f) lag d < 0 ∨ 10000 < rb (gi f) lag d then (0, 5) else (rb (gi f) lag d, 0)
/-- The greatest lag for which there is room. -/
def rm (f : Nat → Int) (r : Int) (k : Nat) : Int := top1 (fun t => r * t - f t) k
where
  /-- The greatest of -1 and of the first k values. -/
  top1 (u : Nat → Int) : Nat → Int
  | 0 => -1
  | n + 1 => mx (top1 u n) (u n)
theorem rm_succ (f : Nat → Int) (r : Int) (k : Nat) : rm f r (k + 1) = mx (rm f r k) (r * k - f k) := rfl
theorem rm_ge (f : Nat → Int) (r : Int) (k : Nat) : -1 ≤ rm f r k := by
  induction k with
  | zero => exact Int.le_refl _
  | succ k ih => rw [rm_succ]; have := mx_le (rm f r k) (r * k - f k); omega
theorem le_rm (f : Nat → Int) (r : Int) {k t : Nat} (h : t < k) : r * t - f t ≤ rm f r k := by
  induction k with
  | zero => omega
  | succ k ih =>
    rw [rm_succ]
    have := mx_le (rm f r k) (r * k - f k)
    rcases Nat.lt_or_ge t k with h' | h'
    · have := ih h'; omega
    · obtain rfl : t = k := by omega
      omega
theorem rm_ex (f : Nat → Int) (r : Int) (k : Nat) : rm f r k = -1 ∨ ∃ t, t < k ∧ rm f r k = r * t - f t := by
  induction k with
  | zero => exact .inl rfl
  | succ k ih =>
    rw [rm_succ]
    rcases (mx_le (rm f r k) (r * k - f k)).2.2 with h | h
    · rcases ih with e | ⟨t, h1, e⟩
      · exact .inl (h.trans e)
      · exact .inr ⟨t, by omega, h.trans e⟩
    · exact .inr ⟨k, by omega, h⟩
theorem rm_bd {n : Nat} {f : List Int} {r : Int} (r0 : 0 ≤ r) (r1 : r ≤ 10000) (hf : IsC n f) {k : Nat} (hk : k ≤ n) : -1 ≤ rm (gi f) r k ∧ rm (gi f) r k ≤ 600000 := by
  refine ⟨rm_ge _ _ _, ?_⟩
  rcases rm_ex (gi f) r k with e | ⟨t, h1, e⟩
  · omega
  · rw [e]
    have a := hf.lo t (by omega)
    have b : r * (t : Int) ≤ 10000 * t := Int.mul_le_mul_of_nonneg_right r1 (by omega)
    have c := hf.top
    omega
def roomV (f : List Int) (r : Int) (d : Nat) : Int × Int := if rm (gi f) r (d + 1) < 0 then (0, 5) else (rm (gi f) r (d + 1), 0)
/-- What catch.Bound answers on a curve. -/
def boundP (f : List Int) (r g : Int) (d : Nat) : Prop := g + gi f d ≤ r * d
def boundR (n : Nat) (f : List Int) (r g v er : Int) : Prop := (∃ d : Nat, d < n ∧ boundP f r g d ∧ (∀ j, j < d → ¬ boundP f r g j) ∧ v = d ∧ er = 0) ∨ ((∀ j, j < n → ¬ boundP f r g j) ∧ v = 0 ∧ er = 5)
theorem boundR_ex (n : Nat) (f : List Int) (r g : Int) : (∃ d : Nat, d < n ∧ boundP f r g d ∧ (∀ j, j < d → ¬ boundP f r g j) ∧ boundR n f r g d 0) ∨ ((∀ j, j < n → ¬ boundP f r g j) ∧ boundR n f r g 0 5) := by
  have key : ∀ m, (∀ i, i < m → ¬ boundP f r g i) ∨ ∃ k, k < m ∧ (∀ i, i < k → ¬ boundP f r g i) ∧ boundP f r g k := by
    intro m
    induction m with
    | zero => exact .inl fun i hi => by omega
    | succ m ih =>
      rcases ih with h | ⟨k, h1, h2, h3⟩
      · by_cases hm : boundP f r g m
        · exact .inr ⟨m, by omega, h, hm⟩
        · refine .inl fun i hi => ?_
          rcases Nat.lt_or_ge i m with h' | h'
          · exact h i h'
          · obtain rfl : i = m := by omega
            exact hm
      · exact .inr ⟨k, by omega, h2, h3⟩
  rcases key n with h | ⟨k, h1, h2, h3⟩
  · exact .inr ⟨h, .inr ⟨h, rfl, rfl⟩⟩
  · exact .inl ⟨k, h1, h3, h2, .inl ⟨k, h1, h3, h2, rfl, rfl⟩⟩
end Go.Proofs.Ytidmncoakockkaa
