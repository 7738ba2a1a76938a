/- Plain laws: max-plus convolution, the superadditive closure. -/
import Derived.Test.YtpifknmoimlpoaaClosP
import Derived.Test.YtpifknmoimlpoaaCurveQ
set_option linter.unusedVariables false
namespace Go.Proofs.Ytpifknmoimlpoaa
open Go.RowKit
theorem dv_ge (f g : Nat → Int) {t s : Nat} (h : s ≤ t) : f s + g (t - s) ≤ dv f g t := le_top (fun s => f s + g (t - s)) (by omega)
theorem dv_nonneg (f g : Nat → Int) (t : Nat) : 0 ≤ dv f g t := top_nonneg _ _
theorem dv_le {f g : Nat → Int} {t : Nat} {z : Int} (h0 : 0 ≤ z) (h : ∀ s, s ≤ t → f s + g (t - s) ≤ z) : dv f g t ≤ z := top_le h0 fun s hs => h s (by omega)
theorem dv_up {n : Nat} {f g : Nat → Int} (hf : ∀ i j, i ≤ j → j < n → f i ≤ f j) (hg : ∀ i j, i ≤ j → j < n → g i ≤ g j) {t : Nat} (ht : t + 1 < n) : dv f g t ≤ dv f g (t + 1) :=
  dv_le (dv_nonneg _ _ _) fun s hs => by
    have h1 := dv_ge f g (t := t + 1) (s := s) (by omega)
    have h2 := hg (t - s) (t + 1 - s) (by omega) (by omega)
    omega
theorem dv_comm (f g : Nat → Int) (t : Nat) : dv f g t = dv g f t := by
  refine Int.le_antisymm (dv_le (dv_nonneg _ _ _) fun s hs => ?_) (dv_le (dv_nonneg _ _ _) fun s hs => ?_)
  · have := dv_ge g f (t := t) (s := t - s) (by omega)
    rw [show t - (t - s) = s by omega] at this
    omega
  · have := dv_ge f g (t := t) (s := t - s) (by omega)
    rw [show t - (t - s) = s by omega] at this
    omega
theorem dv_assoc {n : Nat} {f g h : Nat → Int} (hf : ∀ i, i < n → 0 ≤ f i) (hg : ∀ i, i < n → 0 ≤ g i) (hh : ∀ i, i < n → 0 ≤ h i) {t : Nat} (ht : t < n) : dv (dv f g) h t = dv f (dv g h) t := by
  refine Int.le_antisymm (dv_le (dv_nonneg _ _ _) fun s hs => ?_) (dv_le (dv_nonneg _ _ _) fun s hs => ?_)
  · have key : dv f g s ≤ dv f (dv g h) t - h (t - s) := by
      refine dv_le ?_ fun r hr => ?_
      · have h1 := dv_ge f (dv g h) (t := t) (s := 0) (by omega)
        have h2 := dv_ge g h (t := t - 0) (s := s) (by omega)
        rw [show t - 0 - s = t - s by omega] at h2
        have := hf 0 (by omega); have := hg s (by omega)
        omega
      · have h1 := dv_ge f (dv g h) (t := t) (s := r) (by omega)
        have h2 := dv_ge g h (t := t - r) (s := s - r) (by omega)
        rw [show t - r - (s - r) = t - s by omega] at h2
        omega
    omega
  · have key : dv g h (t - s) ≤ dv (dv f g) h t - f s := by
      refine dv_le ?_ fun r hr => ?_
      · have h1 := dv_ge (dv f g) h (t := t) (s := s) (by omega)
        have h2 := dv_ge f g (t := s) (s := s) (by omega)
        rw [Nat.sub_self] at h2
        have := hg 0 (by omega); have := hh (t - s) (by omega)
        omega
      · have h1 := dv_ge (dv f g) h (t := t) (s := s + r) (by omega)
        have h2 := dv_ge f g (t := s + r) (s := s) (by omega)
        rw [show s + r - s = r by omega] at h2
        rw [show t - (s + r) = t - s - r by omega] at h1
        omega
    omega
theorem dv_congr {f f' g g' : Nat → Int} {n t : Nat} (ht : t < n) (hf : ∀ i, i < n → f i = f' i) (hg : ∀ i, i < n → g i = g' i) : dv f g t = dv f' g' t :=
  top_congr fun s hs => by rw [hf s (by omega), hg (t - s) (by omega)]
theorem dualL_get {f g : List Int} {n i : Nat} (hf : f.length = n) (hi : i < n) : gi (dualL f g) i = dv (gi f) (gi g) i := by
  unfold dualL
  rw [hf, tab_get _ hi]
theorem dualL_comm {f g : List Int} (h : f.length = g.length) : dualL f g = dualL g f := by
  unfold dualL
  rw [h]
  exact tab_congr fun i _ => dv_comm _ _ i
theorem dual_C {n : Nat} {f g : List Int} (hf : IsC n f) (hg : IsC n g) (h : fits (dualL f g) = true) : IsC n (dualL f g) := by
  have e : dualL f g = tab n (dv (gi f) (gi g)) := by unfold dualL; rw [hf.len]
  rw [e] at h ⊢
  exact isC_tab hf.pos hf.top (fun i hi => dv_nonneg _ _ _) (fits_tab.1 h) fun i hi => dv_up hf.up hg.up hi
theorem dualL_assoc {n : Nat} {f g h : List Int} (hf : IsC n f) (hg : IsC n g) (hh : IsC n h) : dualL (dualL f g) h = dualL f (dualL g h) := by
  unfold dualL
  rw [tab_len, hf.len, hg.len]
  refine tab_congr fun i hi => ?_
  rw [dv_congr (n := n) hi (fun j hj => tab_get _ hj) (fun j _ => rfl), dv_assoc hf.lo hg.lo hh.lo hi]
  exact (dv_congr (n := n) hi (fun j _ => rfl) (fun j hj => tab_get _ hj)).symm
theorem dual_yes {n : Nat} {f g z : List Int} (hf : IsC n f) (hg : IsC n g) (h : fits (dualL f g) = true) (hz : dualL f g = z) : of2 f g (fit (dualL f g)) = (z, 0) := by rw [of2_ok hf hg, fit_yes h, hz]
theorem dual_no {n : Nat} {f g : List Int} (hf : IsC n f) (hg : IsC n g) (h : ¬ fits (dualL f g) = true) : of2 f g (fit (dualL f g)) = ([], 2) := by rw [of2_ok hf hg, fit_no h]
/-- The greatest of f t and of the first k pairs of o that make t. -/
def sw (f o : Nat → Int) (t : Nat) : Nat → Int
  | 0 => f t
  | k + 1 => mx (sw f o t k) (o (k + 1) + o (t - (k + 1)))
theorem sw_succ (f o : Nat → Int) (t k : Nat) : sw f o t (k + 1) = mx (sw f o t k) (o (k + 1) + o (t - (k + 1))) := rfl
def supL (f : Nat → Int) : Nat → List Int
  | 0 => [0]
  | t + 1 => supL f t ++ [sw f (gi (supL f t)) (t + 1) t]
def sup (f : Nat → Int) (t : Nat) : Int := gi (supL f t) t
theorem supL_len (f : Nat → Int) (t : Nat) : (supL f t).length = t + 1 := by
  induction t with
  | zero => rfl
  | succ t ih => rw [supL, List.length_append, ih]; rfl
theorem supL_get (f : Nat → Int) {t j : Nat} (h : j ≤ t) : gi (supL f t) j = sup f j := by
  induction t with
  | zero => obtain rfl : j = 0 := by omega
            rfl
  | succ t ih =>
    rcases Nat.lt_or_ge t j with h' | h'
    · obtain rfl : j = t + 1 := by omega
      rfl
    · rw [supL, gi_append_lt (by rw [supL_len]; omega)]
      exact ih h'
theorem sw_congr {f o o' : Nat → Int} {t k : Nat} (h : ∀ i, 0 < i → i < t → o i = o' i) (hk : k < t) : sw f o t k = sw f o' t k := by
  induction k with
  | zero => rfl
  | succ k ih => rw [sw_succ, sw_succ, ih (by omega), h (k + 1) (by omega) (by omega), h (t - (k + 1)) (by omega) (by omega)]
theorem sup_zero (f : Nat → Int) : sup f 0 = 0 := rfl
theorem sup_eq (f : Nat → Int) {t : Nat} (ht : 0 < t) : sup f t = sw f (sup f) t (t - 1) := by
  obtain ⟨k, rfl⟩ : ∃ k, t = k + 1 := ⟨t - 1, by omega⟩
  show gi (supL f (k + 1)) (k + 1) = _
  rw [supL, gi_append_at (by rw [supL_len])]
  exact sw_congr (fun i _ hi => supL_get f (by omega)) (by omega)
theorem sw_ge0 (f o : Nat → Int) (t k : Nat) : f t ≤ sw f o t k := by
  induction k with
  | zero => exact Int.le_refl _
  | succ k ih => rw [sw_succ]; have := mx_le (sw f o t k) (o (k + 1) + o (t - (k + 1))); omega
theorem sw_ge (f o : Nat → Int) {t k s : Nat} (h0 : 0 < s) (h : s ≤ k) : o s + o (t - s) ≤ sw f o t k := by
  induction k with
  | zero => omega
  | succ k ih =>
    rw [sw_succ]
    have := mx_le (sw f o t k) (o (k + 1) + o (t - (k + 1)))
    rcases Nat.lt_or_ge k s with h' | h'
    · obtain rfl : s = k + 1 := by omega
      omega
    · have := ih h'; omega
theorem sw_ex (f o : Nat → Int) (t k : Nat) : sw f o t k = f t ∨ ∃ s, 0 < s ∧ s ≤ k ∧ sw f o t k = o s + o (t - s) := by
  induction k with
  | zero => exact .inl rfl
  | succ k ih =>
    rw [sw_succ]
    rcases (mx_le (sw f o t k) (o (k + 1) + o (t - (k + 1)))).2.2 with h | h
    · rcases ih with e | ⟨s, h1, h2, e⟩
      · exact .inl (h.trans e)
      · exact .inr ⟨s, h1, by omega, h.trans e⟩
    · exact .inr ⟨k + 1, by omega, by omega, h⟩
theorem sup_ge (f : Nat → Int) {t : Nat} (ht : 0 < t) : f t ≤ sup f t := by rw [sup_eq f ht]; exact sw_ge0 _ _ _ _
theorem sup_add (f : Nat → Int) {s t : Nat} (h : s ≤ t) : sup f s + sup f (t - s) ≤ sup f t := by
  rcases Nat.eq_zero_or_pos s with rfl | hs
  · rw [sup_zero, Nat.sub_zero]; omega
  · rcases Nat.eq_or_lt_of_le h with rfl | h'
    · rw [Nat.sub_self, sup_zero]; omega
    · rw [sup_eq f (t := t) (by omega)]; exact sw_ge _ _ hs (by omega)
theorem sup_ex (f : Nat → Int) {t : Nat} (ht : 0 < t) : sup f t = f t ∨ ∃ s, 0 < s ∧ s < t ∧ sup f t = sup f s + sup f (t - s) := by
  rw [sup_eq f ht]
  rcases sw_ex f (sup f) t (t - 1) with e | ⟨s, h1, h2, e⟩
  · exact .inl e
  · exact .inr ⟨s, h1, by omega, e⟩
theorem sup_nonneg {f : Nat → Int} {n : Nat} (h : ∀ i, i < n → 0 ≤ f i) (t : Nat) (ht : t < n) : 0 ≤ sup f t := by
  rcases Nat.eq_zero_or_pos t with rfl | h0
  · exact Int.le_refl _
  · exact Int.le_trans (h t ht) (sup_ge f h0)
theorem sup_up {f : Nat → Int} {n : Nat} (h : ∀ i, i < n → 0 ≤ f i) {t : Nat} (ht : t + 1 < n) : sup f t ≤ sup f (t + 1) := by
  have h1 := sup_add f (s := t) (t := t + 1) (by omega)
  have h2 := sup_nonneg h (t + 1 - t) (by omega)
  omega
/-- Any superadditive g that is at least f behind 0 is at least the closure. -/
theorem sup_le {f g : Nat → Int} {n : Nat} (h0 : 0 ≤ g 0) (hf : ∀ i, 0 < i → i < n → f i ≤ g i) (hg : ∀ s t, s ≤ t → t < n → g s + g (t - s) ≤ g t) (t : Nat) (ht : t < n) : sup f t ≤ g t := by
  induction t using Nat.strongRecOn with
  | ind t ih =>
    rcases Nat.eq_zero_or_pos t with rfl | hp
    · exact h0
    · rcases sup_ex f hp with e | ⟨s, h1, h2, e⟩
      · rw [e]; exact hf t hp ht
      · have := ih s h2 (by omega); have := ih (t - s) (by omega) (by omega); have := hg s t (by omega) ht; omega
theorem sup_bd {f : Nat → Int} {n : Nat} {z : Int} (hz : 0 ≤ z) (h : ∀ i, i < n → f i ≤ z) (t : Nat) (ht : t < n) : sup f t ≤ z * t := by
  induction t using Nat.strongRecOn with
  | ind t ih =>
    rcases Nat.eq_zero_or_pos t with rfl | hp
    · rw [sup_zero]; simp
    · rcases sup_ex f hp with e | ⟨s, h1, h2, e⟩
      · rw [e]
        have a := h t ht
        have b : z * 1 ≤ z * (t : Int) := Int.mul_le_mul_of_nonneg_left (by omega) hz
        omega
      · have a := ih s h2 (by omega)
        have b := ih (t - s) (by omega) (by omega)
        have c : z * (t : Int) = z * (s : Int) + z * ((t - s : Nat) : Int) := by rw [← Int.mul_add]; congr 1; omega
        omega
def superL (f : List Int) : List Int := tab f.length (sup (gi f))
theorem superL_get {f : List Int} {n i : Nat} (hf : f.length = n) (hi : i < n) : gi (superL f) i = sup (gi f) i := by
  unfold superL
  rw [hf, tab_get _ hi]
theorem super_C {n : Nat} {f : List Int} (hf : IsC n f) (h : fits (superL f) = true) : IsC n (superL f) := by
  have e : superL f = tab n (sup (gi f)) := by unfold superL; rw [hf.len]
  rw [e] at h ⊢
  exact isC_tab hf.pos hf.top (fun i hi => sup_nonneg hf.lo i hi) (fits_tab.1 h) (fun i hi => sup_up hf.lo hi)
/-- The table while time t is under way, k of its pairs tried. -/
def spt (f : Nat → Int) (t k : Nat) (j : Nat) : Int := if j < t then sup f j else if j = t then sw f (sup f) t k else 0
theorem spt_done (f : Nat → Int) {t : Nat} (ht : 0 < t) (j : Nat) : spt f t (t - 1) j = if j < t + 1 then sup f j else 0 := by
  unfold spt
  by_cases h : j < t
  · rw [if_pos h, if_pos (by omega)]
  · rw [if_neg h]
    by_cases h2 : j = t
    · subst h2; rw [if_pos rfl, if_pos (by omega), ← sup_eq f ht]
    · rw [if_neg h2, if_neg (by omega)]
theorem sup_small {f : List Int} {n : Nat} (hf : IsC n f) {t : Nat} (ht : t < n) : 0 ≤ sup (gi f) t ∧ sup (gi f) t ≤ 61000000 := by
  refine ⟨sup_nonneg hf.lo t ht, ?_⟩
  have a := sup_bd (z := 1000000) (by omega) hf.hi t ht
  have b := hf.top
  omega
theorem sw_bd {f : List Int} {n : Nat} (hf : IsC n f) {t k : Nat} (ht : t < n) (hk : k < t) : 0 ≤ sw (gi f) (sup (gi f)) t k ∧ sw (gi f) (sup (gi f)) t k ≤ 200000000 := by
  refine ⟨Int.le_trans (hf.lo t ht) (sw_ge0 _ _ _ _), ?_⟩
  rcases sw_ex (gi f) (sup (gi f)) t k with e | ⟨s, h1, h2, e⟩
  · rw [e]; have := hf.hi t ht; omega
  · rw [e]
    have h3 := sup_small hf (t := s) (by omega)
    have h4 := sup_small hf (t := t - s) (by omega)
    omega
end Go.Proofs.Ytpifknmoimlpoaa
