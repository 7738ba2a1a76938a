/- conv.Times, headkeep.nought. -/
import Derived.Test.YtpifknmoimlpoaaConvA
import Derived.Test.YtpifknmoimlpoaaCloneInt
import Derived.Test.YtpifknmoimlpoaaLawKit
set_option linter.unusedVariables false
namespace Go.Proofs.Ytpifknmoimlpoaa
open Go.RowKit
/-- k more of f, one after the other. -/
def pwL (f : List Int) : Nat → List Int
  | 0 => f
  | k + 1 => convL (pwL f k) f
theorem pwL_len (f : List Int) (k : Nat) : (pwL f k).length = f.length := by
  induction k with
  | zero => rfl
  | succ k ih => rw [pwL, convL_len, ih]
theorem pwL_succ {f : List Int} {k i : Nat} (h : i < f.length) : gi (pwL f (k + 1)) i = cv (gi (pwL f k)) (gi f) i := convL_get (pwL_len _ _) h
theorem pwL_bd {n : Nat} {f : List Int} (hf : IsC n f) (k : Nat) : ∀ i, i < n → 0 ≤ gi (pwL f k) i ∧ gi (pwL f k) i ≤ 1000000 * (k + 1) := by
  induction k with
  | zero => intro i hi; have := hf.lo i hi; have := hf.hi i hi; simp only [pwL]; omega
  | succ k ih =>
    intro i hi
    rw [pwL_succ (by rw [hf.len]; exact hi)]
    obtain ⟨s, hs, e⟩ := cv_ex (gi (pwL f k)) (gi f) i
    have h1 := ih s (by omega)
    have h2 := hf.lo (i - s) (by omega)
    have h3 := hf.hi (i - s) (by omega)
    rw [e]
    omega
theorem pwL_up {n : Nat} {f : List Int} (hf : IsC n f) (k : Nat) : ∀ i j, i ≤ j → j < n → gi (pwL f k) i ≤ gi (pwL f k) j := by
  induction k with
  | zero => exact hf.up
  | succ k ih =>
    have h1 : ∀ i, i + 1 < n → gi (pwL f (k + 1)) i ≤ gi (pwL f (k + 1)) (i + 1) := fun i hi => by
      rw [pwL_succ (by rw [hf.len]; omega), pwL_succ (by rw [hf.len]; omega)]
      exact cv_up ih hf.up hi
    intro i j hij hj
    induction j with
    | zero => obtain rfl : i = 0 := by omega
              exact Int.le_refl _
    | succ j ihj =>
      rcases Nat.lt_or_ge j i with h | h
      · obtain rfl : i = j + 1 := by omega
        exact Int.le_refl _
      · exact Int.le_trans (ihj h (by omega)) (h1 j hj)
theorem pwL_C {n : Nat} {f : List Int} (hf : IsC n f) (k : Nat) (h : fits (pwL f k) = true) : IsC n (pwL f k) := by
  have hl : (pwL f k).length = n := by rw [pwL_len, hf.len]
  refine ⟨hl, hf.pos, hf.top, fun i hi => (pwL_bd hf k i hi).1, fun i hi => ?_, pwL_up hf k⟩
  exact fits_iff.1 h i (by omega)
set_option maxHeartbeats 1600000 in
theorem times_any (A : Option Addr) (n c : Nat) (f : List Int) (x : Int) (W : World) (hs : Sl W W.heap.size A n (ints f)) (hn : n ≤ 9223372036854775807) (hf : IsC n f) (hx1 : 1 ≤ x) (hx2 : x ≤ 60)
    (zs : List Int) (er : Int) (k : Nat) (h : fit (pwL f (x.toNat - 1)) = (zs, er)) (hk : zs.length = k) :
    Calls Try.prog 50 #[.slice A n c, .int .i64 x] W (RetSl W k zs er) := by
  obtain ⟨m, rfl⟩ : ∃ m : Nat, x = (m : Int) + 1 := ⟨(x - 1).toNat, by omega⟩
  rw [show ((m : Int) + 1).toNat - 1 = m by omega] at h
  have HB := Lib.hid hf.err
  have CF := Lib.hid hf
  have HK := Lib.hid hk
  have HZ := Lib.hid h
  have hn61 := hf.top
  have hp := hf.pos
  have hm : m < 60 := by omega
  have f1 : IntKind.i64.wrap ((m : Int) + 1 - 1) = (m : Int) := by rw [show (m : Int) + 1 - 1 = m by omega]; exact IntWalk.i64_in _ ⟨by omega, by omega⟩
  have g1 : ¬ ((m : Int) + 1 < 1) := by omega
  have g2 : ¬ (60 < (m : Int) + 1) := by omega
  have g3 : (m : Int) + 1 - 1 = m := by omega
  have SS := Lib.hid hs
  clear hf hk h hx1 hx2
  go_enter Try.func50, Try.ntmps50
  go_wp2_with fail
  refine (ccheck_any A n c f _ _ hs hn).mono ?_
  rintro e w' ⟨rfl, rfl⟩
  rw [HB.out]
  clear hs
  go_wp2_with (at_builtin; refine wpList_cat rfl (.const (.slice none 0 0)) (.tmp 19) _ rfl elemInt W.heap.size _ 0 [] A n c (ints f) rfl rfl (World.ownsRow_nil _ _ _ _) (Below.refl _ _) (Nat.le_refl _) SS.out.len1 SS.out.nil_len SS.out.cells_ (ints_one _) (by unfold maxLen; omega) (by omega) ?_; intro v' w1 hown1 hb1 hz1 _)
  rw [Nat.zero_add, List.nil_append] at hown1
  obtain ⟨A1, c1, rfl, hc1⟩ := own_form hown1
  have hsl := Sl.of_own hown1
  go_loopw [23, 7] (fun i o wr => ∃ k : Nat, k ≤ m ∧ i = .int .i64 k ∧ ∃ A2 c2, o = .slice A2 n c2 ∧ n ≤ c2 ∧ Sl wr wr.heap.size A2 n (ints (pwL f k)) ∧ Below W.heap.size W wr ∧ wr.ownsRow W.heap.size 3 1 (.slice A2 n c2) n (ints (pwL f k))) (fun i _ _ => m - (intOf i).toNat)
  case atStart => exact ⟨0, Nat.zero_le _, rfl, A1, c1, rfl, hc1, hsl, hb1, hown1⟩
  case round =>
    obtain ⟨k, hk, rfl, A2, c2, rfl, hc2, s2, b2, o2⟩ := hrel
    clear hown1
    by_cases hlt : k < m
    · have hn1 : (k : Int) < m := by omega
      have hk0 : (0 : Int) ≤ k := by omega
      have S2 := Lib.hid s2
      have B2 := Lib.hid b2
      have O2 := Lib.hid o2
      clear s2 b2 hsl hb1 o2
      go_wp2_with fail
      refine (plain_any A2 n c2 (pwL f k) A n c f _ S2.out (((SS.out.below B2.out)).more B2.out.size) hp hn61 rfl (fun i hi => by have := pwL_bd CF.out k i hi; omega) (small_C CF.out) (pwL f (k + 1)) (by rw [pwL, convL, pwL_len, CF.out.len])).mono ?_
      rintro e w2 ⟨rfl, s3, b3, o3⟩
      have O3 := Lib.hid (own_lower o3 B2.out.size)
      have S3 := Lib.hid s3
      have B3 := Lib.hid (B2.out.trans (b3.mono B2.out.size))
      clear s3 b3 o3
      go_wp2_with fail
      go_roundw
      case rel => exact ⟨k + 1, by omega, by go_num, _, _, rfl, Nat.le_refl _, S3.out, B3.out, O3.out⟩
      case measure => simp [intOf]; omega
    · have hkm : k = m := by omega
      subst hkm
      have S2 := Lib.hid s2
      have B2 := Lib.hid b2
      have O2 := Lib.hid o2
      clear s2 b2 hsl hb1 o2
      go_wp2_with fail
      refine (fit_any A2 n c2 _ W _ S2.out B2.out O2.out hc2 (by omega) _ _ _ HZ.out HK.out).mono ?_
      rintro e w2 ⟨A3, c3, rfl, s3⟩
      have S3 := Lib.hid s3
      clear s3
      go_wp2_with fail
      go_ret2
      exact ⟨A3, c3, rfl, S3.out⟩
/-- f with nothing at 0. -/
def noughtL (f : List Int) : List Int := tab f.length fun i => if i = 0 then 0 else gi f i
theorem nought_C {n : Nat} {f : List Int} (hf : IsC n f) : IsC n (noughtL f) := by
  have e : noughtL f = tab n fun i => if i = 0 then 0 else gi f i := by unfold noughtL; rw [hf.len]
  rw [e]
  refine isC_tab hf.pos hf.top (fun i hi => ?_) (fun i hi => ?_) (fun i hi => ?_)
  · by_cases h : i = 0
    · rw [if_pos h]; omega
    · rw [if_neg h]; exact hf.lo i hi
  · by_cases h : i = 0
    · rw [if_pos h]; omega
    · rw [if_neg h]; exact hf.hi i hi
  · by_cases h : i = 0
    · rw [if_pos h, if_neg (by omega)]; exact hf.lo _ (by omega)
    · rw [if_neg h, if_neg (by omega)]; exact hf.up _ _ (by omega) hi
theorem nought_get {f : List Int} {n i : Nat} (hf : f.length = n) (hi : i < n) : gi (noughtL f) i = if i = 0 then 0 else gi f i := by
  unfold noughtL
  rw [hf, tab_get _ hi]
end Go.Proofs.Ytpifknmoimlpoaa
