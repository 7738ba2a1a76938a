/- Little's law for numbers: the plain law. -/
import Derived.Test.YtpifknmoimlpoaaBase
set_option linter.unusedVariables false
namespace Go.Proofs.Ytpifknmoimlpoaa
open Go.RowKit
/-- How many of n are there at t: from a k on, till b k. -/
def lcnt (a b : Nat → Int) (t : Int) : Nat → Int
  | 0 => 0
  | k + 1 => lcnt a b t k + if a k ≤ t ∧ t < b k then 1 else 0
def lall (a b : Nat → Int) (n : Nat) (ts : Nat → Int) : Nat → Int
  | 0 => 0
  | d + 1 => lall a b n ts d + lcnt a b (ts d) n * (ts (d + 1) - ts d)
def lsum (a b : Nat → Int) : Nat → Int
  | 0 => 0
  | k + 1 => lsum a b k + (b k - a k)
/-- t, kept between a and b. -/
def lcl (a b t : Int) : Int := if t < a then a else if b < t then b else t
def lcs (a b : Nat → Int) (t : Int) : Nat → Int
  | 0 => 0
  | k + 1 => lcs a b t k + lcl (a k) (b k) t
theorem lcl_step {a b t u : Int} (hab : a ≤ b) (htu : t ≤ u) (ha : t < a → u ≤ a) (hb : t < b → u ≤ b) : (if a ≤ t ∧ t < b then u - t else 0) = lcl a b u - lcl a b t := by
  unfold lcl
  repeat' split
  all_goals omega
theorem lcnt_mul (a b : Nat → Int) {t u : Int} (htu : t ≤ u) (n : Nat) (hab : ∀ k, k < n → a k ≤ b k) (ha : ∀ k, k < n → t < a k → u ≤ a k) (hb : ∀ k, k < n → t < b k → u ≤ b k) :
    lcnt a b t n * (u - t) = lcs a b u n - lcs a b t n := by
  induction n with
  | zero => show (0 : Int) * _ = 0 - 0; omega
  | succ n ih =>
    have := ih (fun k hk => hab k (by omega)) (fun k hk => ha k (by omega)) (fun k hk => hb k (by omega))
    have s := lcl_step (hab n (by omega)) htu (ha n (by omega)) (hb n (by omega))
    show (lcnt a b t n + _) * _ = lcs a b u n + _ - (lcs a b t n + _)
    rw [Int.add_mul, this]
    have e : (if a n ≤ t ∧ t < b n then (1 : Int) else 0) * (u - t) = if a n ≤ t ∧ t < b n then u - t else 0 := by
      split
      · rw [Int.one_mul]
      · rw [Int.zero_mul]
    rw [e, s]
    omega
theorem lcnt_bd (a b : Nat → Int) (t : Int) (n : Nat) : 0 ≤ lcnt a b t n ∧ lcnt a b t n ≤ n := by
  induction n with
  | zero => exact ⟨Int.le_refl _, Int.le_refl _⟩
  | succ n ih =>
    show 0 ≤ lcnt a b t n + (if _ then (1 : Int) else 0) ∧ lcnt a b t n + (if _ then (1 : Int) else 0) ≤ _
    split <;> push_cast <;> omega
/-- The times in order, and both times of each among them. -/
structure LOk (a b : Nat → Int) (n : Nat) (ts : Nat → Int) (m : Nat) : Prop where
  ab : ∀ k, k < n → a k ≤ b k
  up : ∀ i j, i ≤ j → j < m → ts i ≤ ts j
  ia : ∀ k, k < n → ∃ i, i < m ∧ ts i = a k
  ib : ∀ k, k < n → ∃ i, i < m ∧ ts i = b k
theorem lall_eq {a b : Nat → Int} {n : Nat} {ts : Nat → Int} {m : Nat} (h : LOk a b n ts m) : ∀ d, d < m → lall a b n ts d = lcs a b (ts d) n - lcs a b (ts 0) n := by
  intro d
  induction d with
  | zero => intro _; show (0 : Int) = _; omega
  | succ d ih =>
    intro hd
    have in_ : ∀ x, (∃ i, i < m ∧ ts i = x) → ts d < x → ts (d + 1) ≤ x := by
      rintro x ⟨i, hi, rfl⟩ hlt
      rcases Nat.lt_or_ge d i with h1 | h1
      · exact h.up _ _ h1 hi
      · have := h.up i d h1 (by omega)
        omega
    show lall a b n ts d + _ = _
    rw [ih (by omega), lcnt_mul a b (h.up d (d + 1) (by omega) hd) n h.ab (fun k hk => in_ _ (h.ia k hk)) (fun k hk => in_ _ (h.ib k hk))]
    omega
theorem little {a b : Nat → Int} {n : Nat} {ts : Nat → Int} {m : Nat} (h : LOk a b n ts m) (hm : 0 < m) : lall a b n ts (m - 1) = lsum a b n := by
  rw [lall_eq h _ (by omega)]
  have lo : ∀ k, k < n → ts 0 ≤ a k ∧ b k ≤ ts (m - 1) := by
    intro k hk
    obtain ⟨i, hi, e⟩ := h.ia k hk
    obtain ⟨j, hj, e2⟩ := h.ib k hk
    have h1 := h.up 0 i (by omega) hi
    have h2 := h.up j (m - 1) (by omega) (by omega)
    omega
  have key : ∀ k, k ≤ n → lcs a b (ts (m - 1)) k - lcs a b (ts 0) k = lsum a b k := by
    intro k
    induction k with
    | zero => intro _; rfl
    | succ k ih =>
      intro hk
      have := ih (by omega)
      have l := lo k (by omega)
      have ab := h.ab k (by omega)
      show lcs a b (ts (m - 1)) k + lcl (a k) (b k) (ts (m - 1)) - (lcs a b (ts 0) k + lcl (a k) (b k) (ts 0)) = lsum a b k + (b k - a k)
      have e1 : lcl (a k) (b k) (ts (m - 1)) = b k := by unfold lcl; split <;> (try split) <;> omega
      have e2 : lcl (a k) (b k) (ts 0) = a k := by unfold lcl; split <;> (try split) <;> omega
      rw [e1, e2]
      omega
  exact key n (Nat.le_refl _)
theorem lprod_bd {c u B : Int} (h0 : 0 ≤ c) (h1 : c ≤ 60) (h2 : 0 ≤ u) (h3 : u ≤ B) : 0 ≤ c * u ∧ c * u ≤ 60 * B := by
  refine ⟨Int.mul_nonneg h0 h2, ?_⟩
  have := Int.mul_le_mul_of_nonneg_right h1 h2
  omega
theorem lall_bd {a b : Nat → Int} {n : Nat} (hn : n ≤ 60) {ts : Nat → Int} {m : Nat} (h : ∀ i j, i ≤ j → j < m → ts i ≤ ts j) {B : Int} (lo : ∀ i, i < m → 0 ≤ ts i ∧ ts i ≤ B) : ∀ d, d < m → 0 ≤ lall a b n ts d ∧ lall a b n ts d ≤ 60 * B * d := by
  intro d
  induction d with
  | zero => intro _; exact ⟨Int.le_refl _, by show (0 : Int) ≤ 60 * B * ((0 : Nat) : Int); simp⟩
  | succ d ih =>
    intro hd
    have := ih (by omega)
    have c := lcnt_bd a b (ts d) n
    have p := lprod_bd (B := B) c.1 (by omega) (u := ts (d + 1) - ts d) (by have := h d (d + 1) (by omega) hd; omega) (by have := lo d (by omega); have := lo (d + 1) hd; omega)
    show 0 ≤ lall a b n ts d + _ ∧ lall a b n ts d + _ ≤ _
    have e : 60 * B * ((d + 1 : Nat) : Int) = 60 * B * d + 60 * B := by push_cast; rw [Int.mul_add, Int.mul_one]
    rw [e]
    omega
end Go.Proofs.Ytpifknmoimlpoaa
