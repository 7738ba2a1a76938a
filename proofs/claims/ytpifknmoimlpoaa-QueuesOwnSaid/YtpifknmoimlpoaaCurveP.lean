/- Plain laws of curves: what they are, least and greatest values over times. -/
import Derived.Test.YtpifknmoimlpoaaBase
set_option linter.unusedVariables false
namespace Go.Proofs.Ytpifknmoimlpoaa
open Go.RowKit
/-- What is wrong at a time. -/
def cbad (f : List Int) (i : Nat) : Int := if gi f i < 0 then 1 else if 1000000 < gi f i then 2 else if 0 < i ∧ gi f i < gi f (i - 1) then 3 else 0
/-- What is wrong first, ahead of a time. -/
def cfirst (f : List Int) : Nat → Int
  | 0 => 0
  | k + 1 => if cfirst f k = 0 then cbad f k else cfirst f k
def curveErr (f : List Int) : Int := if f.length = 0 then 1 else if 61 < f.length then 2 else cfirst f f.length
def curveOk (f : List Int) : Prop := curveErr f = 0
def bothErr (f g : List Int) : Int := if curveErr f = 0 then (if curveErr g = 0 then (if f.length = g.length then 0 else 4) else curveErr g) else curveErr f
theorem cfirst_succ (f : List Int) (k : Nat) : cfirst f (k + 1) = if cfirst f k = 0 then cbad f k else cfirst f k := rfl
theorem cfirst_zero (f : List Int) (n : Nat) : cfirst f n = 0 ↔ ∀ i, i < n → cbad f i = 0 := by
  induction n with
  | zero => exact ⟨fun _ i hi => absurd hi (by omega), fun _ => rfl⟩
  | succ n ih =>
    rw [cfirst_succ]
    constructor
    · intro h i hi
      by_cases h0 : cfirst f n = 0
      · rw [if_pos h0] at h
        rcases Nat.lt_or_ge i n with h1 | h1
        · exact ih.1 h0 i h1
        · obtain rfl : i = n := by omega
          exact h
      · rw [if_neg h0] at h
        exact absurd h h0
    · intro h
      rw [if_pos (ih.2 fun i hi => h i (by omega))]
      exact h n (by omega)
theorem cbad_zero {f : List Int} {i : Nat} : cbad f i = 0 ↔ 0 ≤ gi f i ∧ gi f i ≤ 1000000 ∧ (0 < i → gi f (i - 1) ≤ gi f i) := by
  unfold cbad
  split
  · omega
  · split
    · omega
    · split <;> omega
/-- A curve of n times. -/
structure IsC (n : Nat) (f : List Int) : Prop where
  len : f.length = n
  pos : 0 < n
  top : n ≤ 61
  lo : ∀ i, i < n → 0 ≤ gi f i
  hi : ∀ i, i < n → gi f i ≤ 1000000
  up : ∀ i j, i ≤ j → j < n → gi f i ≤ gi f j
theorem IsC.mk' {n : Nat} {f : List Int} (h1 : f.length = n) (h2 : 0 < n) (h3 : n ≤ 61) (h4 : ∀ i, i < n → 0 ≤ gi f i) (h5 : ∀ i, i < n → gi f i ≤ 1000000) (h6 : ∀ i, i + 1 < n → gi f i ≤ gi f (i + 1)) : IsC n f := by
  refine ⟨h1, h2, h3, h4, h5, fun i j hij hj => ?_⟩
  induction j with
  | zero => obtain rfl : i = 0 := by omega
            exact Int.le_refl _
  | succ j ih =>
    rcases Nat.lt_or_ge j i with h | h
    · obtain rfl : i = j + 1 := by omega
      exact Int.le_refl _
    · exact Int.le_trans (ih h (by omega)) (h6 j hj)
theorem IsC.err {n : Nat} {f : List Int} (h : IsC n f) : curveErr f = 0 := by
  unfold curveErr
  rw [if_neg (by have := h.len; have := h.pos; omega), if_neg (by have := h.len; have := h.top; omega)]
  refine (cfirst_zero _ _).2 fun i hi => cbad_zero.2 ⟨h.lo i (by rw [← h.len]; exact hi), h.hi i (by rw [← h.len]; exact hi), fun h0 => h.up _ _ (by omega) (by rw [← h.len]; exact hi)⟩
theorem isC_of {f : List Int} (h : curveErr f = 0) : IsC f.length f := by
  unfold curveErr at h
  split at h
  · cases h
  · split at h
    · cases h
    · have h' := (cfirst_zero _ _).1 h
      have h'' := fun i hi => cbad_zero.1 (h' i hi)
      exact IsC.mk' rfl (by omega) (by omega) (fun i hi => (h'' i hi).1) (fun i hi => (h'' i hi).2.1) (fun i hi => by have := (h'' (i + 1) hi).2.2 (by omega); simpa using this)
theorem isC_iff {n : Nat} {f : List Int} : IsC n f ↔ curveErr f = 0 ∧ f.length = n := ⟨fun h => ⟨h.err, h.len⟩, fun ⟨h, e⟩ => e ▸ isC_of h⟩
theorem IsC.both {n : Nat} {f g : List Int} (hf : IsC n f) (hg : IsC n g) : bothErr f g = 0 := by
  unfold bothErr
  rw [if_pos hf.err, if_pos hg.err, if_pos (by rw [hf.len, hg.len])]
theorem both_isC {f g : List Int} (h : bothErr f g = 0) : IsC f.length f ∧ IsC f.length g := by
  unfold bothErr at h
  split at h
  · rename_i h1
    split at h
    · rename_i h2
      split at h
      · rename_i h3; exact ⟨isC_of h1, h3 ▸ isC_of h2⟩
      · cases h
    · rename_i h2; exact absurd h h2
  · rename_i h1; exact absurd h h1

theorem curveErr_123 {f : List Int} (h : ¬ curveErr f = 0) : curveErr f = 1 ∨ curveErr f = 2 ∨ curveErr f = 3 := by
  have key : ∀ n, cfirst f n = 0 ∨ cfirst f n = 1 ∨ cfirst f n = 2 ∨ cfirst f n = 3 := by
    intro n
    induction n with
    | zero => exact .inl rfl
    | succ n ih =>
      rw [cfirst_succ]
      split
      · unfold cbad
        split
        · exact .inr (.inl rfl)
        · split
          · exact .inr (.inr (.inl rfl))
          · split
            · exact .inr (.inr (.inr rfl))
            · exact .inl rfl
      · exact ih
  unfold curveErr at h ⊢
  split
  · exact .inl rfl
  · split
    · exact .inr (.inl rfl)
    · rename_i h1 h2
      rw [if_neg h1, if_neg h2] at h
      rcases key f.length with k | k
      · exact absurd k h
      · exact k
/-- The least, the greatest of u 0, .., u n. -/
def lo (u : Nat → Int) : Nat → Int
  | 0 => u 0
  | n + 1 => mn (lo u n) (u (n + 1))
def hi (u : Nat → Int) : Nat → Int
  | 0 => u 0
  | n + 1 => mx (hi u n) (u (n + 1))
theorem lo_succ (u : Nat → Int) (n : Nat) : lo u (n + 1) = mn (lo u n) (u (n + 1)) := rfl
theorem hi_succ (u : Nat → Int) (n : Nat) : hi u (n + 1) = mx (hi u n) (u (n + 1)) := rfl
theorem lo_le (u : Nat → Int) {n i : Nat} (h : i ≤ n) : lo u n ≤ u i := by
  induction n with
  | zero => obtain rfl : i = 0 := by omega
            exact Int.le_refl _
  | succ n ih =>
    have h1 := mn_le (lo u n) (u (n + 1))
    rw [lo_succ]
    rcases Nat.lt_or_ge n i with h' | h'
    · obtain rfl : i = n + 1 := by omega
      omega
    · have := ih h'; omega
theorem lo_ex (u : Nat → Int) (n : Nat) : ∃ i, i ≤ n ∧ lo u n = u i := by
  induction n with
  | zero => exact ⟨0, by omega, rfl⟩
  | succ n ih =>
    have h1 := mn_le (lo u n) (u (n + 1))
    rw [lo_succ]
    rcases h1.2.2 with h | h
    · obtain ⟨i, hi, e⟩ := ih; exact ⟨i, by omega, by rw [h, e]⟩
    · exact ⟨n + 1, by omega, h⟩
theorem le_lo {u : Nat → Int} {n : Nat} {z : Int} (h : ∀ i, i ≤ n → z ≤ u i) : z ≤ lo u n := by
  obtain ⟨i, hi, e⟩ := lo_ex u n
  rw [e]; exact h i hi
theorem le_hi (u : Nat → Int) {n i : Nat} (h : i ≤ n) : u i ≤ hi u n := by
  induction n with
  | zero => obtain rfl : i = 0 := by omega
            exact Int.le_refl _
  | succ n ih =>
    have h1 := mx_le (hi u n) (u (n + 1))
    rw [hi_succ]
    rcases Nat.lt_or_ge n i with h' | h'
    · obtain rfl : i = n + 1 := by omega
      omega
    · have := ih h'; omega
theorem hi_ex (u : Nat → Int) (n : Nat) : ∃ i, i ≤ n ∧ hi u n = u i := by
  induction n with
  | zero => exact ⟨0, by omega, rfl⟩
  | succ n ih =>
    have h1 := mx_le (hi u n) (u (n + 1))
    rw [hi_succ]
    rcases h1.2.2 with h | h
    · obtain ⟨i, hi, e⟩ := ih; exact ⟨i, by omega, by rw [h, e]⟩
    · exact ⟨n + 1, by omega, h⟩
theorem hi_le {u : Nat → Int} {n : Nat} {z : Int} (h : ∀ i, i ≤ n → u i ≤ z) : hi u n ≤ z := by
  obtain ⟨i, hi, e⟩ := hi_ex u n
  rw [e]; exact h i hi
theorem lo_congr {u v : Nat → Int} {n : Nat} (h : ∀ i, i ≤ n → u i = v i) : lo u n = lo v n := by
  refine Int.le_antisymm (le_lo fun i hi => ?_) (le_lo fun i hi => ?_)
  · rw [← h i hi]; exact lo_le u hi
  · rw [h i hi]; exact lo_le v hi
theorem hi_congr {u v : Nat → Int} {n : Nat} (h : ∀ i, i ≤ n → u i = v i) : hi u n = hi v n := by
  refine Int.le_antisymm (hi_le fun i hi => ?_) (hi_le fun i hi => ?_)
  · rw [h i hi]; exact le_hi v hi
  · rw [← h i hi]; exact le_hi u hi
/-- The greatest of 0 and of the first n values. -/
def top (u : Nat → Int) : Nat → Int
  | 0 => 0
  | n + 1 => mx (top u n) (u n)
theorem top_succ (u : Nat → Int) (n : Nat) : top u (n + 1) = mx (top u n) (u n) := rfl
theorem top_nonneg (u : Nat → Int) (n : Nat) : 0 ≤ top u n := by
  induction n with
  | zero => exact Int.le_refl _
  | succ n ih => rw [top_succ]; have := mx_le (top u n) (u n); omega
theorem le_top (u : Nat → Int) {n i : Nat} (h : i < n) : u i ≤ top u n := by
  induction n with
  | zero => omega
  | succ n ih =>
    have h1 := mx_le (top u n) (u n)
    rw [top_succ]
    rcases Nat.lt_or_ge i n with h' | h'
    · have := ih h'; omega
    · obtain rfl : i = n := by omega
      omega
theorem top_le {u : Nat → Int} {n : Nat} {z : Int} (h0 : 0 ≤ z) (h : ∀ i, i < n → u i ≤ z) : top u n ≤ z := by
  induction n with
  | zero => exact h0
  | succ n ih =>
    have h1 := mx_le (top u n) (u n)
    have h2 := ih fun i hi => h i (by omega)
    have h3 := h n (by omega)
    rw [top_succ]; omega
theorem top_congr {u v : Nat → Int} {n : Nat} (h : ∀ i, i < n → u i = v i) : top u n = top v n := by
  refine Int.le_antisymm (top_le (top_nonneg _ _) fun i hi => ?_) (top_le (top_nonneg _ _) fun i hi => ?_)
  · rw [h i hi]; exact le_top v hi
  · rw [← h i hi]; exact le_top u hi
/-- A table that is a curve. -/
theorem isC_tab {n : Nat} {u : Nat → Int} (h2 : 0 < n) (h3 : n ≤ 61) (h4 : ∀ i, i < n → 0 ≤ u i) (h5 : ∀ i, i < n → u i ≤ 1000000) (h6 : ∀ i, i + 1 < n → u i ≤ u (i + 1)) : IsC n (tab n u) :=
  IsC.mk' (tab_len _ _) h2 h3 (fun i hi => by rw [tab_get _ hi]; exact h4 i hi) (fun i hi => by rw [tab_get _ hi]; exact h5 i hi) (fun i hi => by rw [tab_get _ hi, tab_get _ (by omega)]; exact h6 i hi)

theorem first_bad' (l : List Int) (p : Int → Prop) : (∀ z ∈ l, p z) ∨ ∃ k, k < l.length ∧ ¬ p (gi l k) ∧ ∀ i, i < k → p (gi l i) := by
  induction l with
  | nil => left; intro z hz; cases hz
  | cons x t ih =>
    by_cases hx : p x
    · rcases ih with h | ⟨k, h1, h2, h3⟩
      · left
        intro z hz
        rcases List.mem_cons.1 hz with rfl | hz
        · exact hx
        · exact h z hz
      · right
        refine ⟨k + 1, by simpa using h1, by simpa [gi] using h2, fun i hi => ?_⟩
        rcases i with _ | i
        · simpa [gi] using hx
        · have := h3 i (by omega)
          simpa [gi] using this
    · right
      exact ⟨0, by simp, by simpa [gi] using hx, fun i hi => absurd hi (by omega)⟩
/-- curve.Fit: all is no more than there may be. -/
def fits (l : List Int) : Bool := l.all fun z => decide (z ≤ 1000000)
def fitE (l : List Int) : Int := if fits l = true then 0 else 2
def fitR (l : List Int) : List Int := if fits l = true then l else []
def fit (l : List Int) : List Int × Int := if fits l = true then (l, 0) else ([], 2)
theorem fits_iff {l : List Int} : fits l = true ↔ ∀ i, i < l.length → gi l i ≤ 1000000 := by
  unfold fits
  rw [List.all_eq_true]
  constructor
  · intro h i hi
    exact of_decide_eq_true (h _ (gi_mem hi))
  · intro h z hz
    obtain ⟨i, hi, rfl⟩ := List.mem_iff_getElem.1 hz
    have := h i hi
    rw [gi_eq hi] at this
    exact decide_eq_true this
theorem fits_tab {n : Nat} {u : Nat → Int} : fits (tab n u) = true ↔ ∀ i, i < n → u i ≤ 1000000 := by
  rw [fits_iff, tab_len]
  constructor
  · intro h i hi; have := h i hi; rwa [tab_get _ hi] at this
  · intro h i hi; rw [tab_get _ hi]; exact h i hi
theorem fit_yes {l : List Int} (h : fits l = true) : fit l = (l, 0) := if_pos h
theorem fit_no {l : List Int} (h : ¬ fits l = true) : fit l = ([], 2) := if_neg h
/-- A function of two curves, refused where they are. -/
def of2 (f g : List Int) (r : List Int × Int) : List Int × Int := if bothErr f g = 0 then r else ([], bothErr f g)
def of1 (f : List Int) (r : List Int × Int) : List Int × Int := if curveErr f = 0 then r else ([], curveErr f)
theorem of2_ok {n : Nat} {f g : List Int} (hf : IsC n f) (hg : IsC n g) (r : List Int × Int) : of2 f g r = r := if_pos (hf.both hg)
theorem of1_ok {n : Nat} {f : List Int} (hf : IsC n f) (r : List Int × Int) : of1 f r = r := if_pos hf.err
def cminL (f g : List Int) : List Int := tab f.length fun i => mn (gi f i) (gi g i)
def cmaxL (f g : List Int) : List Int := tab f.length fun i => mx (gi f i) (gi g i)
def csumL (f g : List Int) : List Int := tab f.length fun i => gi f i + gi g i
def clessL (f g : List Int) : List Int := tab f.length fun i => top (fun j => gi f j - gi g j) (i + 1)
def clateL (f : List Int) (d : Nat) : List Int := tab f.length fun i => if d ≤ i then gi f (i - d) else 0
def cupL (f : List Int) (m : Int) : List Int := tab f.length fun i => gi f i + m
def ccutL (f : List Int) (d : Nat) : List Int := f.take (d + 1)
def cv (f g : Nat → Int) (t : Nat) : Int := lo (fun s => f s + g (t - s)) t
def convL (f g : List Int) : List Int := tab f.length (cv (gi f) (gi g))
def dcv (n : Nat) (f g : Nat → Int) (t : Nat) : Int := top (fun u => f (t + u) - g u) (n - t)
def deconvL (f g : List Int) : List Int := tab f.length (dcv f.length (gi f) (gi g))
def dv (f g : Nat → Int) (t : Nat) : Int := top (fun s => f s + g (t - s)) (t + 1)
def dualL (f g : List Int) : List Int := tab f.length (dv (gi f) (gi g))
theorem convL_len (f g : List Int) : (convL f g).length = f.length := tab_len _ _
theorem IsC.get {n : Nat} {f : List Int} (h : IsC n f) {u : Nat → Int} (e : f = tab n u) {i : Nat} (hi : i < n) : gi f i = u i := by rw [e, tab_get _ hi]
end Go.Proofs.Ytpifknmoimlpoaa
