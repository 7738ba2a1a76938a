/- conv.Times, headkeep.nought. -/
import Derived.Test.YtgeeomhceplemaaConvA
import Derived.Test.YtgeeomhceplemaaCloneInt
import Derived.Test.YtgeeomhceplemaaLawKit
set_option linter.unusedVariables false
namespace Go.Proofs.Ytgeeomhceplemaa
open Go.RowKit
/-- k more of f, one after the other. -/
def pwL (f : List Int) : Nat → List Int
  | 0 => f
  | k + 1 => convL (pwL f k) f
theorem pwL_len (f : List Int) (k : Nat) : (pwL f k).length = f.length := by
  induction k with
  | zero => rfl
  | succ k ih => rw [pwL, convL_len, ih]
theorem pwL_succ {f : List Int} {k i : Nat} (h : i < f.length) : gi (pwL f (k + 1)) i = cv (gi (pwL f k)) (gi f) i := convL_get (pwL_len _ _) h
theorem pwL_bd {n : Nat} {f : List Int} (hf : IsC n f) (k : Nat) : ∀ i, i < n → 0 ≤ gi (pwL f k) i ∧ gi (pwL f k) i ≤ 1000000 * (k + 1) := by
  induction k with
  | zero => intro i hi; have := hf.lo i hi; have := hf.hi i hi; simp only [pwL]; omega
  | succ k ih =>
    intro i hi
    rw [pwL_succ (by rw [hf.len]; exact hi)]
    obtain ⟨s, hs, e⟩ := cv_ex (gi (pwL f k)) (gi f) i
    have h1 := ih s (by omega)
    have h2 := hf.lo (i - s) (by omega)
    have h3 := hf.hi (i - s) (by omega)
    rw [e]
    omega
theorem pwL_up {n : Nat} {f : List Int} (hf : IsC n f) (k : Nat) : ∀ i j, i ≤ j → j < n → gi (pwL f k) i ≤ gi (pwL f k) j := by
  induction k with
  | zero => exact hf.up
  | succ k ih =>
    have h1 : ∀ i, i + 1 < n → gi (pwL f (k + 1)) i ≤ gi (pwL f (k + 1)) (i + 1) := fun i hi => by
      rw [pwL_succ (by rw [hf.len]; omega), pwL_succ (by rw [hf.len]; omega)]
      exact cv_up ih hf.up hi
    intro i j hij hj
    induction j with
    | zero => obtain rfl : i = 0 := by omega
              exact Int.le_refl _
    | succ j ihj =>
      rcases Nat.lt_or_ge j i with h | h
      · obtain rfl : i = j + 1 := by omega
        exact Int.le_refl _
      · exact Int.le_trans (ihj h (by omega)) (h1 j hj)
theorem pwL_C {n : Nat} {f : List Int} (hf : IsC n f) (k : Nat) (h : fits (pwL f k) = true) : IsC n (pwL f k) := by
  have hl : (pwL f k).length = n := by rw [pwL_len, hf.len]
  refine ⟨hl, hf.pos, hf.top, fun i hi => (pwL_bd hf k i hi).1, fun i hi => ?_, pwL_up hf k⟩
  exact fits_iff.1 h i (by omega)
/-- f with nothing at 0. -/
def noughtL (f : List Int) : List Int := tab f.length fun i => if i = 0 then 0 else gi f i
theorem nought_C {n : Nat} {f : List Int} (hf : IsC n f) : IsC n (noughtL f) := by
  have e : noughtL f = tab n fun i => if i = 0 then 0 else gi f i := by unfold noughtL; rw [hf.len]
  rw [e]
  refine isC_tab hf.pos hf.top (fun i hi => ?_) (fun i hi => ?_) (fun i hi => ?_)
  · by_cases h : i = 0
    · rw [if_pos h]; omega
    · rw [if_neg h]; exact hf.lo i hi
  · by_cases h : i = 0
    · rw [if_pos h]; omega
    · rw [if_neg h]; exact hf.hi i hi
  · by_cases h : i = 0
    · rw [if_pos h, if_neg (by omega)]; exact hf.lo _ (by omega)
    · rw [if_neg h, if_neg (by omega)]; exact hf.up _ _ (by omega) hi
theorem nought_get {f : List Int} {n i : Nat} (hf : f.length = n) (hi : i < n) : gi (noughtL f) i = if i = 0 then 0 else gi f i := by
  unfold noughtL
  rw [hf, tab_get _ hi]
theorem nought_t (A : Option Addr) (n c : Nat) (f : List Int) (W : World) (hs : Sl W W.heap.size A n (ints f)) (hn : n ≤ 9223372036854775807) (hp : 0 < n) (h61 : n ≤ 61) (zs : List Int) (k : Nat) (h : noughtL f = zs) (hk : zs.length = k) :
    Calls Try.prog 20 #[.slice A n c] W fun e w' => ∃ A' c', e = .returned (.slice A' k c') ∧ Sl w' w'.heap.size A' k (ints zs) ∧ k ≤ c' ∧ Below W.heap.size W w' := by
  have hl := hs.int_len
  subst h
  have hk' : n = k := by rw [← hk, noughtL, tab_len, hl]
  subst hk'
  have HL := Lib.hid hl
  have f1 : (0 : Int) < n := by omega
  clear hk hl
  go_enter Try.func20, Try.ntmps20
  go_wp2_with fail
  refine (cloneInt A n c (ints f) _ hs (ints_one _) (by omega)).mono ?_
  rintro e w1 ⟨v, rfl, hown, hb, hz⟩
  obtain ⟨g, cap, rfl, hg1, hg2⟩ := hown.form hp
  obtain ⟨A9, c9, h9, hc9⟩ := own_form hown
  injection h9 with h8 h7 h9
  subst h8 h9
  clear h7
  have hck := hown.cellAt 0 (by omega)
  rw [ints_get (by rw [HL.out]; exact hp)] at hck
  have hfr := hown.frozenAt 0
  have hst := (hown.stored 0 (.int .i64 0)).1
  rw [ints_set] at hst
  have e1 : f.set 0 0 = noughtL f := by
    refine gi_ext (by simp [noughtL, tab]) fun i hi => ?_
    rw [List.length_set] at hi
    rw [gi_set _ _ _ _ (by omega), nought_get rfl hi]
  rw [e1] at hst
  have S := Lib.hid (Sl.of_own hst)
  have B := Lib.hid (hb.setCell (p := ⟨g, 0, none⟩) hg1 (.int .i64 0))
  have C9 := Lib.hid hc9
  clear hown hst hb e1 hs hc9
  go_wp2_with fail
  go_ret
  exact ⟨_, _, rfl, S.out, C9.out, B.out⟩
end Go.Proofs.Ytgeeomhceplemaa
