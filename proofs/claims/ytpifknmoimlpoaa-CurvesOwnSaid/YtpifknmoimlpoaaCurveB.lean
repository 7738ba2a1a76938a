/- curve.Both and curve.Le. -/
import Derived.Test.YtpifknmoimlpoaaCurveA
set_option linter.unusedVariables false
namespace Go.Proofs.Ytpifknmoimlpoaa
open Go.RowKit
/-- f is at most g, at all times ahead of n. -/
def leTo (f g : List Int) (n : Nat) : Prop := ∀ i, i < n → gi f i ≤ gi g i
theorem leTo_or (f g : List Int) (n : Nat) : leTo f g n ∨ ∃ k, k < n ∧ leTo f g k ∧ gi g k < gi f k := by
  induction n with
  | zero => exact .inl fun i hi => by omega
  | succ n ih =>
    rcases ih with h | ⟨k, h1, h2, h3⟩
    · by_cases hn : gi f n ≤ gi g n
      · refine .inl fun i hi => ?_
        rcases Nat.lt_or_ge i n with h' | h'
        · exact h i h'
        · obtain rfl : i = n := by omega
          exact hn
      · exact .inr ⟨n, by omega, h, by omega⟩
    · exact .inr ⟨k, by omega, h2, h3⟩
theorem both_any (A : Option Addr) (n c : Nat) (f : List Int) (M : Option Addr) (m d : Nat) (g : List Int) (W : World) (B B' : Nat) (hs : Sl W B A n (ints f)) (ht : Sl W B' M m (ints g)) (hn : n ≤ 9223372036854775807) (hm : m ≤ 9223372036854775807) :
    Calls Try.prog 89 #[.slice A n c, .slice M m d] W fun e w' => e = .returned (.int .i64 (bothErr f g)) ∧ W = w' := by
  have hl := hs.int_len
  have hl' := ht.int_len
  by_cases h1 : curveErr f = 0
  · by_cases h2 : curveErr g = 0
    · by_cases h3 : n = m
      · subst h3
        have hb : Hid (bothErr f g = 0) := by unfold bothErr; rw [if_pos h1, if_pos h2, if_pos (by omega)]; rfl
        have hnn : ((n : Int) != n) = false := by simp
        have H1 := Lib.hid h1
        have H2 := Lib.hid h2
        clear hl hl' h1 h2
        go_enter Try.func89, Try.ntmps89
        go_wp2_with fail
        refine (ccheck_any A n c f _ _ hs hn).mono ?_
        rintro e w' ⟨rfl, rfl⟩
        rw [H1.out]
        go_wp2_with fail
        refine (ccheck_any M n d g _ _ ht hm).mono ?_
        rintro e w' ⟨rfl, rfl⟩
        rw [H2.out]
        clear hs ht
        go_wp2_with fail
        go_ret
        exact ⟨ret_int hb.out.symm, rfl⟩
      · have hb : Hid (bothErr f g = 4) := by unfold bothErr; rw [if_pos h1, if_pos h2, if_neg (by omega)]; rfl
        have hnn : ((n : Int) != m) = true := by simp; omega
        have H1 := Lib.hid h1
        have H2 := Lib.hid h2
        clear hl hl' h1 h2 h3
        go_enter Try.func89, Try.ntmps89
        go_wp2_with fail
        refine (ccheck_any A n c f _ _ hs hn).mono ?_
        rintro e w' ⟨rfl, rfl⟩
        rw [H1.out]
        go_wp2_with fail
        refine (ccheck_any M m d g _ _ ht hm).mono ?_
        rintro e w' ⟨rfl, rfl⟩
        rw [H2.out]
        clear hs ht
        go_wp2_with fail
        go_ret
        exact ⟨ret_int hb.out.symm, rfl⟩
    · have hb : Hid (bothErr f g = curveErr g) := by unfold bothErr; rw [if_pos h1, if_neg h2]; rfl
      have hne : (curveErr g != 0) = true := by simpa using h2
      have H1 := Lib.hid h1
      clear hl hl' h1 h2
      go_enter Try.func89, Try.ntmps89
      go_wp2_with fail
      refine (ccheck_any A n c f _ _ hs hn).mono ?_
      rintro e w' ⟨rfl, rfl⟩
      rw [H1.out]
      go_wp2_with fail
      refine (ccheck_any M m d g _ _ ht hm).mono ?_
      rintro e w' ⟨rfl, rfl⟩
      clear hs ht
      go_wp2_with fail
      go_ret
      exact ⟨ret_int hb.out.symm, rfl⟩
  · have hb : Hid (bothErr f g = curveErr f) := by unfold bothErr; rw [if_neg h1]; rfl
    have hne : (curveErr f != 0) = true := by simpa using h1
    clear hl hl' h1
    go_enter Try.func89, Try.ntmps89
    go_wp2_with fail
    refine (ccheck_any A n c f _ _ hs hn).mono ?_
    rintro e w' ⟨rfl, rfl⟩
    clear hs ht
    go_wp2_with fail
    go_ret
    exact ⟨ret_int hb.out.symm, rfl⟩
end Go.Proofs.Ytpifknmoimlpoaa
