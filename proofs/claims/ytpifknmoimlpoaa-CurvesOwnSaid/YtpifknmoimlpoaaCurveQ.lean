/- Plain laws of what is made of curves: convolution, deconvolution, sums, cuts. -/
import Derived.Test.YtpifknmoimlpoaaCurveP
set_option linter.unusedVariables false
namespace Go.Proofs.Ytpifknmoimlpoaa
open Go.RowKit
/-- What two curves come to is a curve, if it fits. -/
theorem cv_le (f g : Nat → Int) {t s : Nat} (h : s ≤ t) : cv f g t ≤ f s + g (t - s) := lo_le (fun s => f s + g (t - s)) h
theorem cv_ex (f g : Nat → Int) (t : Nat) : ∃ s, s ≤ t ∧ cv f g t = f s + g (t - s) := lo_ex _ _
theorem le_cv {f g : Nat → Int} {t : Nat} {z : Int} (h : ∀ s, s ≤ t → z ≤ f s + g (t - s)) : z ≤ cv f g t := le_lo h
theorem cv_up {n : Nat} {f g : Nat → Int} (hf : ∀ i j, i ≤ j → j < n → f i ≤ f j) (hg : ∀ i j, i ≤ j → j < n → g i ≤ g j) {t : Nat} (ht : t + 1 < n) : cv f g t ≤ cv f g (t + 1) := by
  refine le_cv fun s hs => ?_
  rcases Nat.lt_or_ge t s with h | h
  · obtain rfl : s = t + 1 := by omega
    have h1 := cv_le f g (Nat.le_refl t)
    have h2 := hf t (t + 1) (by omega) ht
    rw [Nat.sub_self] at h1 ⊢
    omega
  · have h1 := cv_le f g h
    have h2 := hg (t - s) (t + 1 - s) (by omega) (by omega)
    omega
theorem cv_comm (f g : Nat → Int) (t : Nat) : cv f g t = cv g f t := by
  refine Int.le_antisymm (le_cv fun s hs => ?_) (le_cv fun s hs => ?_)
  · have := cv_le f g (t := t) (s := t - s) (by omega)
    rw [show t - (t - s) = s by omega] at this
    omega
  · have := cv_le g f (t := t) (s := t - s) (by omega)
    rw [show t - (t - s) = s by omega] at this
    omega
theorem cv_congr {f f' g g' : Nat → Int} {n t : Nat} (ht : t < n) (hf : ∀ i, i < n → f i = f' i) (hg : ∀ i, i < n → g i = g' i) : cv f g t = cv f' g' t :=
  lo_congr fun s hs => by rw [hf s (by omega), hg (t - s) (by omega)]
theorem cv_assoc (f g h : Nat → Int) (t : Nat) : cv (cv f g) h t = cv f (cv g h) t := by
  refine Int.le_antisymm (le_cv fun s hs => ?_) (le_cv fun s hs => ?_)
  · obtain ⟨r, hr, e⟩ := cv_ex g h (t - s)
    have h1 := cv_le (cv f g) h (t := t) (s := s + r) (by omega)
    have h2 := cv_le f g (t := s + r) (s := s) (by omega)
    rw [show s + r - s = r by omega] at h2
    rw [show t - (s + r) = t - s - r by omega] at h1
    omega
  · obtain ⟨r, hr, e⟩ := cv_ex f g s
    have h1 := cv_le f (cv g h) (t := t) (s := r) (by omega)
    have h2 := cv_le g h (t := t - r) (s := s - r) (by omega)
    rw [show t - r - (s - r) = t - s by omega] at h2
    omega
theorem convL_get {f g : List Int} {n i : Nat} (hf : f.length = n) (hi : i < n) : gi (convL f g) i = cv (gi f) (gi g) i := by
  unfold convL
  rw [hf, tab_get _ hi]
theorem convL_comm {f g : List Int} (h : f.length = g.length) : convL f g = convL g f := by
  unfold convL
  rw [h]
  exact tab_congr fun i _ => cv_comm _ _ i
theorem convL_assoc {f g h : List Int} (e : f.length = g.length) : convL (convL f g) h = convL f (convL g h) := by
  unfold convL
  rw [tab_len]
  refine tab_congr fun i hi => ?_
  rw [cv_congr (n := f.length) hi (fun j hj => tab_get _ hj) (fun j _ => rfl), cv_assoc]
  exact (cv_congr (n := f.length) hi (fun j _ => rfl) (fun j hj => by rw [tab_get _ (by omega)])).symm
theorem conv_C {n : Nat} {f g : List Int} (hf : IsC n f) (hg : IsC n g) (h : fits (convL f g) = true) : IsC n (convL f g) := by
  have e : convL f g = tab n (cv (gi f) (gi g)) := by unfold convL; rw [hf.len]
  rw [e] at h ⊢
  refine isC_tab hf.pos hf.top (fun i hi => ?_) (fits_tab.1 h) fun i hi => cv_up hf.up hg.up hi
  obtain ⟨s, hs, e⟩ := cv_ex (gi f) (gi g) i
  have h1 := hf.lo s (by omega)
  have h2 := hg.lo (i - s) (by omega)
  omega
/-- The answer of conv.Of. -/
theorem conv_yes {n : Nat} {f g z : List Int} (hf : IsC n f) (hg : IsC n g) (h : fits (convL f g) = true) (hz : convL f g = z) : of2 f g (fit (convL f g)) = (z, 0) := by rw [of2_ok hf hg, fit_yes h, hz]
theorem conv_no {n : Nat} {f g : List Int} (hf : IsC n f) (hg : IsC n g) (h : ¬ fits (convL f g) = true) : of2 f g (fit (convL f g)) = ([], 2) := by rw [of2_ok hf hg, fit_no h]

theorem cv_le_cv {f f' g g' : Nat → Int} {n t : Nat} (ht : t < n) (hf : ∀ i, i < n → f i ≤ f' i) (hg : ∀ i, i < n → g i ≤ g' i) : cv f g t ≤ cv f' g' t := by
  refine le_cv fun s hs => ?_
  have h1 := cv_le f g hs
  have h2 := hf s (by omega)
  have h3 := hg (t - s) (by omega)
  omega
theorem pair_zero {z : List Int} {r : List Int × Int} (h : r.1 = z) (h2 : r.2 = 0) : r = (z, 0) := by cases r; simp_all
section
variable {n : Nat} {f g h z : List Int}
theorem tab_len' {n : Nat} {u : Nat → Int} {f : List Int} (h : f.length = n) : (tab f.length u).length = n := by rw [tab_len, h]
theorem cmin_get (hf : f.length = n) {i : Nat} (hi : i < n) : gi (cminL f g) i = mn (gi f i) (gi g i) := by unfold cminL; rw [hf, tab_get _ hi]
theorem cmax_get (hf : f.length = n) {i : Nat} (hi : i < n) : gi (cmaxL f g) i = mx (gi f i) (gi g i) := by unfold cmaxL; rw [hf, tab_get _ hi]
theorem csum_get (hf : f.length = n) {i : Nat} (hi : i < n) : gi (csumL f g) i = gi f i + gi g i := by unfold csumL; rw [hf, tab_get _ hi]
theorem cless_get (hf : f.length = n) {i : Nat} (hi : i < n) : gi (clessL f g) i = top (fun j => gi f j - gi g j) (i + 1) := by unfold clessL; rw [hf, tab_get _ hi]
theorem clate_get {d : Nat} (hf : f.length = n) {i : Nat} (hi : i < n) : gi (clateL f d) i = if d ≤ i then gi f (i - d) else 0 := by unfold clateL; rw [hf, tab_get _ hi]
theorem cup_get {m : Int} (hf : f.length = n) {i : Nat} (hi : i < n) : gi (cupL f m) i = gi f i + m := by unfold cupL; rw [hf, tab_get _ hi]
theorem deconv_get (hf : f.length = n) {i : Nat} (hi : i < n) : gi (deconvL f g) i = dcv n (gi f) (gi g) i := by unfold deconvL; rw [hf, tab_get _ hi]
theorem cmin_C (hf : IsC n f) (hg : IsC n g) : IsC n (cminL f g) := by
  have e : cminL f g = tab n fun i => mn (gi f i) (gi g i) := by unfold cminL; rw [hf.len]
  rw [e]
  refine isC_tab hf.pos hf.top (fun i hi => ?_) (fun i hi => ?_) fun i hi => ?_
  · have := mn_le (gi f i) (gi g i); have := hf.lo i hi; have := hg.lo i hi; omega
  · have := mn_le (gi f i) (gi g i); have := hf.hi i hi; omega
  · exact mn_mono (hf.up _ _ (by omega) hi) (hg.up _ _ (by omega) hi)
theorem mx_mono {a a' b b' : Int} (h : a ≤ a') (h' : b ≤ b') : mx a b ≤ mx a' b' := by unfold mx; split <;> split <;> omega
theorem cmax_C (hf : IsC n f) (hg : IsC n g) : IsC n (cmaxL f g) := by
  have e : cmaxL f g = tab n fun i => mx (gi f i) (gi g i) := by unfold cmaxL; rw [hf.len]
  rw [e]
  refine isC_tab hf.pos hf.top (fun i hi => ?_) (fun i hi => ?_) fun i hi => ?_
  · have := mx_le (gi f i) (gi g i); have := hf.lo i hi; omega
  · have := mx_le (gi f i) (gi g i); have := hf.hi i hi; have := hg.hi i hi; omega
  · exact mx_mono (hf.up _ _ (by omega) hi) (hg.up _ _ (by omega) hi)
theorem csum_C (hf : IsC n f) (hg : IsC n g) (h : fits (csumL f g) = true) : IsC n (csumL f g) := by
  have e : csumL f g = tab n fun i => gi f i + gi g i := by unfold csumL; rw [hf.len]
  rw [e] at h ⊢
  refine isC_tab hf.pos hf.top (fun i hi => ?_) (fits_tab.1 h) fun i hi => ?_
  · have := hf.lo i hi; have := hg.lo i hi; omega
  · have := hf.up i (i + 1) (by omega) hi; have := hg.up i (i + 1) (by omega) hi; omega
theorem cup_C {m : Int} (hf : IsC n f) (hm : 0 ≤ m) (h : fits (cupL f m) = true) : IsC n (cupL f m) := by
  have e : cupL f m = tab n fun i => gi f i + m := by unfold cupL; rw [hf.len]
  rw [e] at h ⊢
  refine isC_tab hf.pos hf.top (fun i hi => ?_) (fits_tab.1 h) fun i hi => ?_
  · have := hf.lo i hi; omega
  · have := hf.up i (i + 1) (by omega) hi; omega
theorem clate_C {d : Nat} (hf : IsC n f) : IsC n (clateL f d) := by
  have e : clateL f d = tab n fun i => if d ≤ i then gi f (i - d) else 0 := by unfold clateL; rw [hf.len]
  rw [e]
  refine isC_tab hf.pos hf.top (fun i hi => ?_) (fun i hi => ?_) fun i hi => ?_
  · split
    · exact hf.lo _ (by omega)
    · omega
  · split
    · exact hf.hi _ (by omega)
    · omega
  · by_cases h : d ≤ i
    · rw [if_pos h, if_pos (by omega)]; exact hf.up _ _ (by omega) (by omega)
    · rw [if_neg h]
      split
      · exact hf.lo _ (by omega)
      · omega
theorem cless_C (hf : IsC n f) (hg : IsC n g) : IsC n (clessL f g) := by
  have e : clessL f g = tab n fun i => top (fun j => gi f j - gi g j) (i + 1) := by unfold clessL; rw [hf.len]
  rw [e]
  refine isC_tab hf.pos hf.top (fun i hi => top_nonneg _ _) (fun i hi => ?_) fun i hi => ?_
  · exact top_le (by omega) fun j hj => by have := hf.hi j (by omega); have := hg.lo j (by omega); omega
  · exact top_le (top_nonneg _ _) fun j hj => le_top (fun j => gi f j - gi g j) (by omega)
theorem dcv_le {F G : Nat → Int} {t u : Nat} (h : t + u < n) : F (t + u) - G u ≤ dcv n F G t := le_top (fun u => F (t + u) - G u) (by omega)
theorem dcv_nonneg {F G : Nat → Int} {t : Nat} : 0 ≤ dcv n F G t := top_nonneg _ _
theorem le_dcv {F G : Nat → Int} {t : Nat} {z : Int} (h0 : 0 ≤ z) (h : ∀ u, t + u < n → F (t + u) - G u ≤ z) : dcv n F G t ≤ z := top_le h0 fun u hu => h u (by omega)
theorem deconv_C (hf : IsC n f) (hg : IsC n g) : IsC n (deconvL f g) := by
  have e : deconvL f g = tab n (dcv n (gi f) (gi g)) := by unfold deconvL; rw [hf.len]
  rw [e]
  refine isC_tab hf.pos hf.top (fun i hi => dcv_nonneg) (fun i hi => ?_) fun i hi => ?_
  · exact le_dcv (by omega) fun u hu => by have := hf.hi (i + u) hu; have := hg.lo u (by omega); omega
  · refine le_dcv dcv_nonneg fun u hu => ?_
    rcases Nat.lt_or_ge (i + 1 + u) n with h | h
    · have h1 := dcv_le (n := n) (F := gi f) (G := gi g) (t := i + 1) (u := u) h
      have h2 := hf.up (i + u) (i + 1 + u) (by omega) h
      omega
    · have h1 := dcv_le (n := n) (F := gi f) (G := gi g) (t := i + 1) (u := u - 1) (by omega)
      have h2 := hg.up (u - 1) u (by omega) (by omega)
      rw [show i + 1 + (u - 1) = i + u by omega] at h1
      omega
theorem cmin_yes (hf : IsC n f) (hg : IsC n g) (hz : cminL f g = z) : of2 f g (fit (cminL f g)) = (z, 0) := by
  rw [of2_ok hf hg, fit_yes (fits_iff.2 fun i hi => (cmin_C hf hg).hi i (by rw [(cmin_C hf hg).len] at hi; exact hi)), hz]
theorem cmax_yes (hf : IsC n f) (hg : IsC n g) (hz : cmaxL f g = z) : of2 f g (fit (cmaxL f g)) = (z, 0) := by
  rw [of2_ok hf hg, fit_yes (fits_iff.2 fun i hi => (cmax_C hf hg).hi i (by rw [(cmax_C hf hg).len] at hi; exact hi)), hz]
theorem csum_yes (hf : IsC n f) (hg : IsC n g) (h : fits (csumL f g) = true) (hz : csumL f g = z) : of2 f g (fit (csumL f g)) = (z, 0) := by rw [of2_ok hf hg, fit_yes h, hz]
theorem csum_no (hf : IsC n f) (hg : IsC n g) (h : ¬ fits (csumL f g) = true) : of2 f g (fit (csumL f g)) = ([], 2) := by rw [of2_ok hf hg, fit_no h]
theorem cless_yes (hf : IsC n f) (hg : IsC n g) (hz : clessL f g = z) : of2 f g (fit (clessL f g)) = (z, 0) := by
  rw [of2_ok hf hg, fit_yes (fits_iff.2 fun i hi => (cless_C hf hg).hi i (by rw [(cless_C hf hg).len] at hi; exact hi)), hz]
theorem cup_yes {m : Int} (hf : IsC n f) (h : fits (cupL f m) = true) (hz : cupL f m = z) : of1 f (fit (cupL f m)) = (z, 0) := by rw [of1_ok hf, fit_yes h, hz]
theorem cup_no {m : Int} (hf : IsC n f) (h : ¬ fits (cupL f m) = true) : of1 f (fit (cupL f m)) = ([], 2) := by rw [of1_ok hf, fit_no h]
theorem clate_yes {d : Nat} (hf : IsC n f) (hz : clateL f d = z) : of1 f (clateL f d, 0) = (z, 0) := by rw [of1_ok hf, hz]
theorem deconv_yes (hf : IsC n f) (hg : IsC n g) (hz : deconvL f g = z) : of2 f g (deconvL f g, 0) = (z, 0) := by rw [of2_ok hf hg, hz]
theorem fits_C (hf : IsC n f) : fits f = true := fits_iff.2 fun i hi => hf.hi i (by rw [← hf.len]; exact hi)
theorem fits_le (hg : IsC n g) (hl : f.length = n) (h : ∀ i, i < n → gi f i ≤ gi g i) : fits f = true := fits_iff.2 fun i hi => Int.le_trans (h i (by omega)) (hg.hi i (by omega))
theorem ccut_get {d i : Nat} (hi : i < d + 1) : gi (ccutL f d) i = gi f i := gi_take hi
theorem ccut_C {d : Nat} (hf : IsC n f) (hd : d < n) : IsC (d + 1) (ccutL f d) := by
  have hl : (ccutL f d).length = d + 1 := by unfold ccutL; rw [List.length_take, hf.len]; omega
  have := hf.top
  exact ⟨hl, by omega, by omega, fun i hi => by rw [ccut_get hi]; exact hf.lo i (by omega), fun i hi => by rw [ccut_get hi]; exact hf.hi i (by omega), fun i j hij hj => by rw [ccut_get hj, ccut_get (by omega)]; exact hf.up i j hij (by omega)⟩
theorem ccut_ccut {d e : Nat} (h : e ≤ d) : ccutL (ccutL f d) e = ccutL f e := by
  unfold ccutL
  rw [List.take_take, Nat.min_eq_left (by omega)]
/-- Two lists of one length are one. -/
theorem ext_n (hf : f.length = n) (hg : g.length = n) (h : ∀ i, i < n → gi f i = gi g i) : f = g := gi_ext (by rw [hf, hg]) fun i hi => h i (by omega)
theorem dec_true {a b : List Int} (h : a = b) : decide (a = b) = true := decide_eq_true h
end
end Go.Proofs.Ytpifknmoimlpoaa
