/- Plain laws of closures, shapers and what fits a limit. -/
import Derived.Test.YtpifknmoimlpoaaCurveQ
import Derived.Test.YtpifknmoimlpoaaClosP
set_option linter.unusedVariables false
namespace Go.Proofs.Ytpifknmoimlpoaa
open Go.RowKit
section
variable {n : Nat} {f g h a l : List Int}
theorem closure_sub (hf : IsC n f) {s t : Nat} (h1 : s ≤ t) (h2 : t < n) : gi (closureL f) t ≤ gi (closureL f) s + gi (closureL f) (t - s) := by
  rw [closureL_get hf.len h2, closureL_get hf.len (by omega), closureL_get hf.len (by omega)]
  exact clo_sub _ h1
theorem closure_zero (hf : IsC n f) : gi (closureL f) 0 = 0 := by rw [closureL_get hf.len hf.pos, clo_zero]
theorem closure_le (hf : IsC n f) {t : Nat} (h1 : 0 < t) (h2 : t < n) : gi (closureL f) t ≤ gi f t := by rw [closureL_get hf.len h2]; exact clo_le _ h1
/-- A curve that holds in pieces, nothing at 0, is its own closure. -/
theorem closure_self (hf : IsC n f) (h0 : gi f 0 = 0) (hs : ∀ s t, s ≤ t → t < n → gi f t ≤ gi f s + gi f (t - s)) : closureL f = f :=
  ext_n (n := n) (closure_C hf).len hf.len fun i hi => by
    rw [closureL_get hf.len hi]
    refine Int.le_antisymm ?_ (le_clo (n := n) (by omega) (fun _ _ _ => Int.le_refl _) hs i hi)
    rcases Nat.eq_zero_or_pos i with rfl | hp
    · rw [clo_zero, h0]; omega
    · exact clo_le _ hp
theorem closure_twice (hf : IsC n f) : closureL (closureL f) = closureL f := closure_self (closure_C hf) (closure_zero hf) fun s t h1 h2 => closure_sub hf h1 h2
theorem closure_most (hf : IsC n f) (hg : IsC n g) (h0 : gi g 0 = 0) (hs : ∀ s t, s ≤ t → t < n → gi g t ≤ gi g s + gi g (t - s)) (hle : ∀ i, 0 < i → i < n → gi g i ≤ gi f i) : ∀ i, i < n → gi g i ≤ gi (closureL f) i := fun i hi => by
  rw [closureL_get hf.len hi]
  exact le_clo (n := n) (by omega) hle hs i hi
/-- What a limit's closure leaves of what came. -/
def shaperL (a l : List Int) : List Int := convL a (closureL l)
theorem shaper_get (ha : IsC n a) (hl : IsC n l) {i : Nat} (hi : i < n) : gi (shaperL a l) i = cv (gi a) (gi (closureL l)) i := convL_get ha.len hi
theorem shaper_le (ha : IsC n a) (hl : IsC n l) {i : Nat} (hi : i < n) : gi (shaperL a l) i ≤ gi a i := by
  rw [shaper_get ha hl hi]
  have := cv_le (gi a) (gi (closureL l)) (Nat.le_refl i)
  rw [Nat.sub_self, closure_zero hl] at this
  omega
theorem shaper_fits (ha : IsC n a) (hl : IsC n l) : fits (shaperL a l) = true := fits_le ha (by unfold shaperL; rw [convL_len, ha.len]) fun i hi => shaper_le ha hl hi
theorem shaper_C (ha : IsC n a) (hl : IsC n l) : IsC n (shaperL a l) := conv_C ha (closure_C hl) (shaper_fits ha hl)
/-- What is let out holds to the limit between any two times. -/
theorem shaper_sub (ha : IsC n a) (hl : IsC n l) {s t : Nat} (h1 : s ≤ t) (h2 : t < n) : gi (shaperL a l) t ≤ gi (shaperL a l) s + gi (closureL l) (t - s) := by
  rw [shaper_get ha hl h2, shaper_get ha hl (by omega)]
  obtain ⟨r, hr, e⟩ := cv_ex (gi a) (gi (closureL l)) s
  have h3 := cv_le (gi a) (gi (closureL l)) (t := t) (s := r) (by omega)
  have h4 := closure_sub hl (s := s - r) (t := t - r) (by omega) (by omega)
  rw [show t - r - (s - r) = t - s by omega] at h4
  omega
/-- The greatest curve below a that holds to the closure. -/
theorem shaper_most (ha : IsC n a) (hl : IsC n l) (hle : ∀ i, i < n → gi g i ≤ gi a i) (hf : ∀ t, t < n → ∀ s, s ≤ t → gi g t - gi g s ≤ gi (closureL l) (t - s)) : ∀ i, i < n → gi g i ≤ gi (shaperL a l) i := fun i hi => by
  rw [shaper_get ha hl hi]
  refine le_cv fun s hs => ?_
  have := hf i hi s hs
  have := hle s (by omega)
  omega
theorem shaper_twice (ha : IsC n a) (hl : IsC n l) : shaperL (shaperL a l) l = shaperL a l :=
  ext_n (n := n) (shaper_C (shaper_C ha hl) hl).len (shaper_C ha hl).len fun i hi =>
    Int.le_antisymm (shaper_le (shaper_C ha hl) hl hi) (shaper_most (shaper_C ha hl) hl (fun _ _ => Int.le_refl _) (fun t ht s hs => by have := shaper_sub ha hl hs ht; omega) i hi)
/-- What comes between two times is at most the limit there: of a limit and of its closure. -/
theorem fit_clo (hl : IsC n l) : (∀ t, t < n → ∀ s, s ≤ t → gi f t - gi f s ≤ gi l (t - s)) ↔ ∀ t, t < n → ∀ s, s ≤ t → gi f t - gi f s ≤ gi (closureL l) (t - s) := by
  constructor
  · intro h
    have key : ∀ d, d < n → ∀ t, t < n → d ≤ t → gi f t - gi f (t - d) ≤ gi (closureL l) d := by
      intro d
      induction d using Nat.strongRecOn with
      | ind d ih =>
        intro hd t ht hdt
        rw [closureL_get hl.len hd]
        rcases Nat.eq_zero_or_pos d with rfl | hp
        · rw [clo_zero, Nat.sub_zero]; omega
        · rcases clo_ex (gi l) hp with e | ⟨r, h1, h2, e⟩
          · rw [e]
            have := h t ht (t - d) (by omega)
            rwa [show t - (t - d) = d by omega] at this
          · rw [e]
            have a := ih r h2 (by omega) t ht (by omega)
            have b := ih (d - r) (by omega) (by omega) (t - r) (by omega) (by omega)
            rw [closureL_get hl.len (by omega)] at a b
            rw [show t - r - (d - r) = t - d by omega] at b
            omega
    intro t ht s hs
    have := key (t - s) (by omega) t ht (by omega)
    rwa [show t - (t - s) = s by omega] at this
  · intro h t ht s hs
    have a := h t ht s hs
    rcases Nat.eq_zero_or_pos (t - s) with h0 | hp
    · have := hl.lo 0 hl.pos
      rw [show s = t by omega, Nat.sub_self]
      omega
    · have := closure_le hl hp (by omega)
      omega
theorem fit_conv (hf : IsC n f) : (∀ t, t < n → ∀ s, s ≤ t → gi f t - gi f s ≤ gi l (t - s)) ↔ ∀ t, t < n → gi f t ≤ gi (convL f l) t := by
  constructor
  · intro h t ht
    rw [convL_get hf.len ht]
    exact le_cv fun s hs => by have := h t ht s hs; omega
  · intro h t ht s hs
    have := h t ht
    rw [convL_get hf.len ht] at this
    have := cv_le (gi f) (gi l) hs
    omega
/-- One closure behind itself. -/
theorem clo_conv_self (hf : IsC n f) : convL (closureL f) (closureL f) = closureL f :=
  ext_n (n := n) (by rw [convL_len, (closure_C hf).len]) (closure_C hf).len fun i hi => by
    rw [convL_get (closure_C hf).len hi]
    refine Int.le_antisymm ?_ (le_cv fun s hs => closure_sub hf hs hi)
    have := cv_le (gi (closureL f)) (gi (closureL f)) (t := i) (s := 0) (by omega)
    rw [closure_zero hf, Nat.sub_zero] at this
    omega
/-- Two closures, one behind the other, are the closure of the lesser of both. -/
theorem clo_conv_min (hf : IsC n f) (hg : IsC n g) : convL (closureL f) (closureL g) = closureL (cminL f g) := by
  have hm := cmin_C hf hg
  have cf := closure_C hf
  have cg := closure_C hg
  have cm := closure_C hm
  have up : ∀ k, IsC n k → (∀ j, j < n → gi (cminL f g) j ≤ gi k j) → ∀ i, i < n → gi (closureL (cminL f g)) i ≤ gi (closureL k) i := fun k hk hle i hi =>
    closure_most hk cm (closure_zero hm) (fun s t h1 h2 => closure_sub hm h1 h2) (fun j h1 h2 => Int.le_trans (closure_le hm h1 h2) (hle j h2)) i hi
  refine ext_n (n := n) (by rw [convL_len, cf.len]) cm.len fun i hi => ?_
  rw [convL_get cf.len hi]
  refine Int.le_antisymm ?_ (le_cv fun s hs => ?_)
  · have hx : ∀ i, i < n → gi (convL (closureL f) (closureL g)) i ≤ gi (closureL (cminL f g)) i := by
      intro i hi
      rw [closureL_get hm.len hi]
      refine le_clo (n := n) (g := gi (convL (closureL f) (closureL g))) ?_ (fun j h1 h2 => ?_) (fun s t h1 h2 => ?_) i hi
      · rw [convL_get cf.len hf.pos]
        have := cv_le (gi (closureL f)) (gi (closureL g)) (t := 0) (s := 0) (Nat.le_refl _)
        rw [closure_zero hf, Nat.sub_zero, closure_zero hg] at this
        omega
      · rw [convL_get cf.len h2, cmin_get hf.len h2]
        have a := cv_le (gi (closureL f)) (gi (closureL g)) (Nat.le_refl j)
        have b := cv_le (gi (closureL f)) (gi (closureL g)) (t := j) (s := 0) (by omega)
        rw [Nat.sub_self, closure_zero hg] at a
        rw [Nat.sub_zero, closure_zero hf] at b
        have c := closure_le hf h1 h2
        have d := closure_le hg h1 h2
        rcases (mn_le (gi f j) (gi g j)).2.2 with e | e <;> rw [e] <;> omega
      · rw [convL_get cf.len h2, convL_get cf.len (by omega), convL_get cf.len (by omega)]
        obtain ⟨p, hp, e1⟩ := cv_ex (gi (closureL f)) (gi (closureL g)) s
        obtain ⟨q, hq, e2⟩ := cv_ex (gi (closureL f)) (gi (closureL g)) (t - s)
        have a := cv_le (gi (closureL f)) (gi (closureL g)) (t := t) (s := p + q) (by omega)
        have b := closure_sub hf (s := p) (t := p + q) (by omega) (by omega)
        have c := closure_sub hg (s := s - p) (t := t - (p + q)) (by omega) (by omega)
        rw [show p + q - p = q by omega] at b
        rw [show t - (p + q) - (s - p) = t - s - q by omega] at c
        omega
    have := hx i hi
    rwa [convL_get cf.len hi] at this
  · have a := up f hf (fun j hj => by rw [cmin_get hf.len hj]; exact (mn_le _ _).1) s (by omega)
    have b := up g hg (fun j hj => by rw [cmin_get hf.len hj]; exact (mn_le _ _).2.1) (i - s) (by omega)
    have c := closure_sub hm hs hi
    omega
end
end Go.Proofs.Ytpifknmoimlpoaa
