/- ClosurePowers: the closure is a finite convolution power. -/
import Derived.Test.YtkofgejkicjdoaaTimesA
import Derived.Test.YtkofgejkicjdoaaClosA
import Derived.Test.YtkofgejkicjdoaaCurveQ
import Derived.Test.YtkofgejkicjdoaaLawKit
set_option linter.unusedVariables false
namespace Go.Proofs.Ytkofgejkicjdoaa
open Go.RowKit
theorem pw_add {n : Nat} {f : List Int} (hf : f.length = n) (a b : Nat) : convL (pwL f a) (pwL f b) = pwL f (a + b + 1) := by
  induction b with
  | zero => rfl
  | succ b ih =>
    show convL (pwL f a) (convL (pwL f b) f) = convL (pwL f (a + b + 1)) f
    rw [← ih, convL_assoc (by rw [pwL_len, pwL_len])]
theorem clo_le_pw {n : Nat} {f : List Int} (hf : IsC n f) (k : Nat) : ∀ i, i < n → clo (gi f) i ≤ gi (pwL (noughtL f) k) i := by
  have hn := nought_C hf
  have h0 : ∀ i, i < n → clo (gi f) i ≤ gi (noughtL f) i := fun i hi => by
    rw [nought_get hf.len hi]
    by_cases h : i = 0
    · subst h; rw [if_pos rfl, clo_zero]; omega
    · rw [if_neg h]; exact clo_le _ (by omega)
  induction k with
  | zero => exact h0
  | succ k ih =>
    intro i hi
    rw [pwL_succ (by rw [hn.len]; exact hi)]
    refine le_cv fun s hs => ?_
    have a := ih s (by omega)
    have b := h0 (i - s) (by omega)
    have c := clo_sub (gi f) hs
    omega
theorem pw_zero {n : Nat} {f : List Int} (hf : IsC n f) (k : Nat) : gi (pwL (noughtL f) k) 0 = 0 := by
  have hn := nought_C hf
  have hp := hf.pos
  induction k with
  | zero => show gi (noughtL f) 0 = 0; rw [nought_get hf.len hp, if_pos rfl]
  | succ k ih =>
    rw [pwL_succ (by rw [hn.len]; exact hp)]
    show gi (pwL (noughtL f) k) 0 + gi (noughtL f) (0 - 0) = 0
    rw [ih, nought_get hf.len hp, if_pos rfl]; omega
theorem pw_anti {n : Nat} {f : List Int} (hf : IsC n f) {j k : Nat} (h : j ≤ k) : ∀ i, i < n → gi (pwL (noughtL f) k) i ≤ gi (pwL (noughtL f) j) i := by
  have hn := nought_C hf
  have hp := hf.pos
  induction k with
  | zero => obtain rfl : j = 0 := by omega
            exact fun i _ => Int.le_refl _
  | succ k ih =>
    rcases Nat.lt_or_ge k j with h' | h'
    · obtain rfl : j = k + 1 := by omega
      exact fun i _ => Int.le_refl _
    · intro i hi
      have a := ih h' i hi
      rw [pwL_succ (by rw [hn.len]; exact hi)]
      have b := cv_le (gi (pwL (noughtL f) k)) (gi (noughtL f)) (Nat.le_refl i)
      rw [Nat.sub_self, nought_get hf.len hp, if_pos rfl] at b
      omega
theorem pw_le_clo {n : Nat} {f : List Int} (hf : IsC n f) (i : Nat) (hi : i < n) : ∀ k, i ≤ k + 1 → gi (pwL (noughtL f) k) i ≤ clo (gi f) i := by
  have hn := nought_C hf
  induction i using Nat.strongRecOn with
  | ind i ih =>
    intro k hk
    rcases Nat.eq_zero_or_pos i with rfl | hp
    · rw [pw_zero hf, clo_zero]; omega
    · refine Int.le_trans (pw_anti hf (j := i - 1) (by omega) i hi) ?_
      rcases clo_ex (gi f) hp with e | ⟨s, h1, h2, e⟩
      · rw [e]
        refine Int.le_trans (pw_anti hf (j := 0) (by omega) i hi) ?_
        show gi (noughtL f) i ≤ gi f i
        rw [nought_get hf.len hi, if_neg (by omega)]; omega
      · rw [e]
        have a := ih s h2 (by omega) (s - 1) (by omega)
        have b := ih (i - s) (by omega) (by omega) (i - s - 1) (by omega)
        have c := pw_add hn.len (s - 1) (i - s - 1)
        rw [show s - 1 + (i - s - 1) + 1 = i - 1 by omega] at c
        rw [← c, convL_get (by rw [pwL_len, hn.len]) hi]
        have d := cv_le (gi (pwL (noughtL f) (s - 1))) (gi (pwL (noughtL f) (i - s - 1))) (t := i) (s := s) (by omega)
        omega
theorem clo_pw {n : Nat} {f : List Int} (hf : IsC n f) {k : Nat} (hk : n ≤ k + 2) : pwL (noughtL f) k = closureL f :=
  ext_n (n := n) (by rw [pwL_len, (nought_C hf).len]) (closure_C hf).len fun i hi => by
    rw [closureL_get hf.len hi]
    exact Int.le_antisymm (pw_le_clo hf i hi k (by omega)) (clo_le_pw hf k i hi)
set_option maxRecDepth 100000 in
set_option maxHeartbeats 3200000 in
theorem closurePowers_walk (A_f : Option Addr) (n_f c_f : Nat) (f : List Int) (W : World) (w_f : InInts W A_f n_f c_f f) :
    Calls Try.prog 14 #[.slice A_f n_f c_f] W fun e w' => e = .returned (.bool true) ∧ Below W.heap.size W w' := by
  obtain ⟨s_f, l_f, r_f, _⟩ := w_f
  have b0 := Below.refl W.heap.size W
  go_enter Try.func14, Try.ntmps14
  go_wp2_with fail
  refine (closure_any _ 3 _ [0, 3, 9] _ (Sl.built_ _ (ints [0, 3, 9]) 3 _ rfl rfl) (by omega)  ([0, 3, 6]) (0) (3) (by decide +kernel) (rfl)).mono ?_
  rintro e w1 ⟨A_t0, c_t0, rfl, s_t0, l_t0, bb1⟩
  have b1 := belLit1 b0 bb1
  replace s_f := slLit1 s_f bb1
  clear b0 bb1
  go_wp2_with fail
  refine (equal_t A_t0 (3) c_t0 ([0, 3, 6]) _ 3 _ [0, 3, 6] _ (slMore (s_t0) _) (Sl.built_ _ (ints [0, 3, 6]) 3 _ rfl rfl) (by omega) (by omega)  (true) (by decide)).mono ?_
  rintro e w2 ⟨rfl, bb2⟩
  have b2 := belLit1 b1 bb2
  replace s_f := slLit1 s_f bb2
  replace s_t0 := slLit1 s_t0 bb2
  clear b1 bb2
  clear s_t0 l_t0
  have hl_f := s_f.int_len
  by_cases hok : curveErr f = 0
  case neg =>
    have hne : (curveErr f != 0) = true := by simpa using hok
    clear hok hl_f
    go_wp2_with fail
    refine (ccheck_t A_f (n_f) c_f (f) _ (s_f) (by omega)  (curveErr f) (rfl)).mono ?_
    rintro e w3 ⟨rfl, rfl⟩
    clear s_f
    go_wp2_with fail
    go_ret
    exact ⟨rfl, b2⟩
  have cf := isC_of hok
  rw [hl_f] at cf
  have C_f := Lib.hid cf
  have t_f := cf.top
  have u_f := cf.pos
  clear cf hl_f
  have HOK := Lib.hid hok
  clear hok
  go_wp2_with fail
  refine (ccheck_t A_f (n_f) c_f (f) _ (s_f) (by omega)  (0) (HOK.out)).mono ?_
  rintro e w4 ⟨rfl, rfl⟩
  go_wp2_with fail
  refine (closure_any A_f (n_f) c_f (f) _ (s_f) (by omega)  (closureL f) (0) (n_f) (of1_ok C_f.out _) ((closure_C C_f.out).len)).mono ?_
  rintro e w5 ⟨A_x, c_x, rfl, s_x, l_x, bb5⟩
  have b5 := belLit0 b2 bb5
  replace s_f := slLit0 s_f bb5
  clear b2 bb5
  obtain ⟨m, hm⟩ : ∃ m : Nat, (if 1 < (n_f : Int) - 1 then (n_f : Int) - 1 else 1) = (m : Int) + 1 := by
    by_cases h : 1 < (n_f : Int) - 1
    · exact ⟨n_f - 2, by rw [if_pos h]; omega⟩
    · exact ⟨0, by rw [if_neg h]; rfl⟩
  have hm1 : m < 60 := by revert hm; split <;> omega
  have hm2 : n_f ≤ m + 2 := by revert hm; split <;> omega
  go_wp2_with fail
  refine (nought_t A_f (n_f) c_f (f) _ (s_f) (by omega) u_f t_f (noughtL f) (n_f) (rfl) ((nought_C C_f.out).len)).mono ?_
  rintro e w6 ⟨A_y, c_y, rfl, s_y, l_y, bb6⟩
  have b6 := belLit0 b5 bb6
  replace s_f := slLit0 s_f bb6
  replace s_x := slLit0 s_x bb6
  clear b5 bb6
  have C_y := Lib.hid (nought_C C_f.out)
  go_wp2_with fail
  refine (times_any A_y (n_f) c_y (noughtL f) ((m : Int) + 1) _ (s_y) (by omega) C_y.out (by omega) (by omega) (closureL f) (0) (n_f) (by rw [show ((m : Int) + 1).toNat - 1 = m by omega, clo_pw C_f.out hm2, fit_yes (fits_C (closure_C C_f.out))]) ((closure_C C_f.out).len)).mono ?_
  rintro e w7 ⟨A_z, c_z, rfl, s_z, l_z, bb7⟩
  have b7 := belLit0 b6 bb7
  replace s_f := slLit0 s_f bb7
  replace s_x := slLit0 s_x bb7
  replace s_y := slLit0 s_y bb7
  clear b6 bb7
  go_wp2_with fail
  refine (equal_t A_x (n_f) c_x (closureL f) A_z (n_f) c_z (closureL f) _ (s_x) (s_z) (by omega) (by omega)  (true) (dec_true (rfl))).mono ?_
  rintro e w8 ⟨rfl, bb8⟩
  have b8 := belLit0 b7 bb8
  replace s_f := slLit0 s_f bb8
  replace s_x := slLit0 s_x bb8
  replace s_y := slLit0 s_y bb8
  replace s_z := slLit0 s_z bb8
  clear b7 bb8
  clear s_f s_x s_y s_z
  go_wp2_with fail
  go_ret
  exact ⟨rfl, b8⟩
end Go.Proofs.Ytkofgejkicjdoaa
