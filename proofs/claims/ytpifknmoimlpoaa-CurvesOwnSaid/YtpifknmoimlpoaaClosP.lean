/- Plain laws: the subadditive closure, the superadditive one. -/
import Derived.Test.YtpifknmoimlpoaaCurveP
set_option linter.unusedVariables false
namespace Go.Proofs.Ytpifknmoimlpoaa
open Go.RowKit
/-- The least of f t and of the first k pairs of o that make t. -/
def cw (f o : Nat → Int) (t : Nat) : Nat → Int
  | 0 => f t
  | k + 1 => mn (cw f o t k) (o (k + 1) + o (t - (k + 1)))
theorem cw_succ (f o : Nat → Int) (t k : Nat) : cw f o t (k + 1) = mn (cw f o t k) (o (k + 1) + o (t - (k + 1))) := rfl
def cloL (f : Nat → Int) : Nat → List Int
  | 0 => [0]
  | t + 1 => cloL f t ++ [cw f (gi (cloL f t)) (t + 1) t]
def clo (f : Nat → Int) (t : Nat) : Int := gi (cloL f t) t
theorem cloL_len (f : Nat → Int) (t : Nat) : (cloL f t).length = t + 1 := by
  induction t with
  | zero => rfl
  | succ t ih => rw [cloL, List.length_append, ih]; rfl
theorem gi_append_lt {l m : List Int} {i : Nat} (h : i < l.length) : gi (l ++ m) i = gi l i := by simp [gi, List.getElem?_append_left h]
theorem gi_append_at {l : List Int} {x : Int} {i : Nat} (h : i = l.length) : gi (l ++ [x]) i = x := by subst h; simp [gi]
theorem cloL_get (f : Nat → Int) {t j : Nat} (h : j ≤ t) : gi (cloL f t) j = clo f j := by
  induction t with
  | zero => obtain rfl : j = 0 := by omega
            rfl
  | succ t ih =>
    rcases Nat.lt_or_ge t j with h' | h'
    · obtain rfl : j = t + 1 := by omega
      rfl
    · rw [cloL, gi_append_lt (by rw [cloL_len]; omega)]
      exact ih h'
theorem cw_congr {f o o' : Nat → Int} {t k : Nat} (h : ∀ i, 0 < i → i < t → o i = o' i) (hk : k < t) : cw f o t k = cw f o' t k := by
  induction k with
  | zero => rfl
  | succ k ih => rw [cw_succ, cw_succ, ih (by omega), h (k + 1) (by omega) (by omega), h (t - (k + 1)) (by omega) (by omega)]
theorem clo_zero (f : Nat → Int) : clo f 0 = 0 := rfl
theorem clo_eq (f : Nat → Int) {t : Nat} (ht : 0 < t) : clo f t = cw f (clo f) t (t - 1) := by
  obtain ⟨k, rfl⟩ : ∃ k, t = k + 1 := ⟨t - 1, by omega⟩
  show gi (cloL f (k + 1)) (k + 1) = _
  rw [cloL, gi_append_at (by rw [cloL_len])]
  exact cw_congr (fun i _ hi => cloL_get f (by omega)) (by omega)
theorem cw_le0 (f o : Nat → Int) (t k : Nat) : cw f o t k ≤ f t := by
  induction k with
  | zero => exact Int.le_refl _
  | succ k ih => rw [cw_succ]; have := mn_le (cw f o t k) (o (k + 1) + o (t - (k + 1))); omega
theorem cw_le (f o : Nat → Int) {t k s : Nat} (h0 : 0 < s) (h : s ≤ k) : cw f o t k ≤ o s + o (t - s) := by
  induction k with
  | zero => omega
  | succ k ih =>
    rw [cw_succ]
    have := mn_le (cw f o t k) (o (k + 1) + o (t - (k + 1)))
    rcases Nat.lt_or_ge k s with h' | h'
    · obtain rfl : s = k + 1 := by omega
      omega
    · have := ih h'; omega
theorem cw_ex (f o : Nat → Int) (t k : Nat) : cw f o t k = f t ∨ ∃ s, 0 < s ∧ s ≤ k ∧ cw f o t k = o s + o (t - s) := by
  induction k with
  | zero => exact .inl rfl
  | succ k ih =>
    rw [cw_succ]
    rcases (mn_le (cw f o t k) (o (k + 1) + o (t - (k + 1)))).2.2 with h | h
    · rcases ih with e | ⟨s, h1, h2, e⟩
      · exact .inl (h.trans e)
      · exact .inr ⟨s, h1, by omega, h.trans e⟩
    · exact .inr ⟨k + 1, by omega, by omega, h⟩
theorem clo_le (f : Nat → Int) {t : Nat} (ht : 0 < t) : clo f t ≤ f t := by rw [clo_eq f ht]; exact cw_le0 _ _ _ _
theorem clo_sub (f : Nat → Int) {s t : Nat} (h : s ≤ t) : clo f t ≤ clo f s + clo f (t - s) := by
  rcases Nat.eq_zero_or_pos s with rfl | hs
  · rw [clo_zero, Nat.sub_zero]; omega
  · rcases Nat.eq_or_lt_of_le h with rfl | h'
    · rw [Nat.sub_self, clo_zero]; omega
    · rw [clo_eq f (by omega)]; exact cw_le _ _ hs (by omega)
theorem clo_ex (f : Nat → Int) {t : Nat} (ht : 0 < t) : clo f t = f t ∨ ∃ s, 0 < s ∧ s < t ∧ clo f t = clo f s + clo f (t - s) := by
  rw [clo_eq f ht]
  rcases cw_ex f (clo f) t (t - 1) with e | ⟨s, h1, h2, e⟩
  · exact .inl e
  · exact .inr ⟨s, h1, by omega, e⟩
theorem clo_nonneg {f : Nat → Int} {n : Nat} (h : ∀ i, i < n → 0 ≤ f i) (t : Nat) (ht : t < n) : 0 ≤ clo f t := by
  induction t using Nat.strongRecOn with
  | ind t ih =>
    rcases Nat.eq_zero_or_pos t with rfl | h0
    · exact Int.le_refl _
    · rcases clo_ex f h0 with e | ⟨s, h1, h2, e⟩
      · rw [e]; exact h t ht
      · have := ih s h2 (by omega); have := ih (t - s) (by omega) (by omega); omega
theorem clo_up {f : Nat → Int} {n : Nat} (h0 : ∀ i, i < n → 0 ≤ f i) (h : ∀ i j, i ≤ j → j < n → f i ≤ f j) (t : Nat) (ht : t + 1 < n) : clo f t ≤ clo f (t + 1) := by
  induction t using Nat.strongRecOn with
  | ind t ih =>
    have mono : ∀ i j, i ≤ j → j ≤ t → clo f i ≤ clo f j := fun i j hij hj => by
      induction j with
      | zero => obtain rfl : i = 0 := by omega
                exact Int.le_refl _
      | succ j ihj =>
        rcases Nat.lt_or_ge j i with h' | h'
        · obtain rfl : i = j + 1 := by omega
          exact Int.le_refl _
        · exact Int.le_trans (ihj h' (by omega)) (ih j (by omega) (by omega))
    rcases Nat.eq_zero_or_pos t with rfl | hp
    · rw [clo_zero]; exact clo_nonneg h0 1 (by omega)
    · rcases clo_ex f (t := t + 1) (by omega) with e | ⟨s, h1, h2, e⟩
      · have := clo_le f hp; have := h t (t + 1) (by omega) ht; omega
      · have h3 := clo_sub f (s := s) (t := t) (by omega)
        have h4 := mono (t - s) (t + 1 - s) (by omega) (by omega)
        omega
/-- Any subadditive g with g 0 ≥ 0 that is at most f behind 0 is at most the closure. -/
theorem le_clo {f g : Nat → Int} {n : Nat} (h0 : g 0 ≤ 0) (hf : ∀ i, 0 < i → i < n → g i ≤ f i) (hg : ∀ s t, s ≤ t → t < n → g t ≤ g s + g (t - s)) (t : Nat) (ht : t < n) : g t ≤ clo f t := by
  induction t using Nat.strongRecOn with
  | ind t ih =>
    rcases Nat.eq_zero_or_pos t with rfl | hp
    · exact h0
    · rcases clo_ex f hp with e | ⟨s, h1, h2, e⟩
      · rw [e]; exact hf t hp ht
      · have := ih s h2 (by omega); have := ih (t - s) (by omega) (by omega); have := hg s t (by omega) ht; omega
theorem clo_congr {f f' : Nat → Int} {n : Nat} (h : ∀ i, 0 < i → i < n → f i = f' i) (t : Nat) (ht : t < n) : clo f t = clo f' t := by
  refine Int.le_antisymm (le_clo (n := n) (by rw [clo_zero]; omega) (fun i h1 h2 => by rw [← h i h1 h2]; exact clo_le f h1) (fun s t h1 _ => clo_sub f h1) t ht)
    (le_clo (n := n) (by rw [clo_zero]; omega) (fun i h1 h2 => by rw [h i h1 h2]; exact clo_le f' h1) (fun s t h1 _ => clo_sub f' h1) t ht)
def closureL (f : List Int) : List Int := tab f.length (clo (gi f))
theorem closureL_get {f : List Int} {n i : Nat} (hf : f.length = n) (hi : i < n) : gi (closureL f) i = clo (gi f) i := by
  unfold closureL
  rw [hf, tab_get _ hi]
theorem closure_C {n : Nat} {f : List Int} (hf : IsC n f) : IsC n (closureL f) := by
  have e : closureL f = tab n (clo (gi f)) := by unfold closureL; rw [hf.len]
  rw [e]
  refine isC_tab hf.pos hf.top (fun i hi => clo_nonneg hf.lo i hi) (fun i hi => ?_) (fun i hi => clo_up hf.lo hf.up i hi)
  rcases Nat.eq_zero_or_pos i with rfl | h0
  · rw [clo_zero]; omega
  · exact Int.le_trans (clo_le _ h0) (hf.hi i hi)
/-- The table while time t is under way, k of its pairs tried. -/
def clt (f : Nat → Int) (t k : Nat) (j : Nat) : Int := if j < t then clo f j else if j = t then cw f (clo f) t k else 0
theorem clt_done (f : Nat → Int) {t : Nat} (ht : 0 < t) (j : Nat) : clt f t (t - 1) j = if j < t + 1 then clo f j else 0 := by
  unfold clt
  by_cases h : j < t
  · rw [if_pos h, if_pos (by omega)]
  · rw [if_neg h]
    by_cases h2 : j = t
    · subst h2; rw [if_pos rfl, if_pos (by omega), ← clo_eq f ht]
    · rw [if_neg h2, if_neg (by omega)]
theorem cw_bd {f : List Int} {n : Nat} (hf : IsC n f) {t k : Nat} (ht : t < n) (hk : k < t) : 0 ≤ cw (gi f) (clo (gi f)) t k ∧ cw (gi f) (clo (gi f)) t k ≤ 1000000 := by
  refine ⟨?_, Int.le_trans (cw_le0 _ _ _ _) (hf.hi t ht)⟩
  rcases cw_ex (gi f) (clo (gi f)) t k with e | ⟨s, h1, h2, e⟩
  · rw [e]; exact hf.lo t ht
  · rw [e]
    have h3 := clo_nonneg hf.lo s (by omega)
    have h4 := clo_nonneg hf.lo (t - s) (by omega)
    omega
end Go.Proofs.Ytpifknmoimlpoaa
