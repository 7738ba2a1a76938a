/- headkeep.le: is the one at most the other? -/
import Derived.Test.YtidmncoakockkaaCurveB
set_option linter.unusedVariables false
namespace Go.Proofs.Ytidmncoakockkaa
open Go.RowKit
instance (f g : List Int) (n : Nat) : Decidable (leTo f g n) := by unfold leTo; infer_instance
def leB (f g : List Int) (n : Nat) : Bool := decide (leTo f g n)
theorem hle_any (A : Option Addr) (n c : Nat) (f : List Int) (M : Option Addr) (d : Nat) (g : List Int) (W : World) (B B' : Nat) (hs : Sl W B A n (ints f)) (ht : Sl W B' M n (ints g)) (hb : bothErr f g = 0) (hn : n ≤ 9223372036854775807) :
    Calls Try.prog 31 #[.slice A n c, .slice M n d] W fun e w' => e = .returned (.bool (leB f g n)) ∧ ∃ q, w' = W.drewN q := by
  rcases leTo_or f g n with h | ⟨k, h1, h2, h3⟩
  · have e1 : Hid (leB f g n = true) := by unfold leB; exact decide_eq_true h
    have H := Lib.hid h
    have HB := Lib.hid hb
    clear h hb
    go_enter Try.func31, Try.ntmps31
    go_wp2_with fail
    refine (le_yes A n c f M n d g _ _ _ hs ht HB.out H.out rfl hn).mono ?_
    rintro e w1 ⟨rfl, q, rfl⟩
    clear hs ht
    go_wp2_with fail
    go_ret
    exact ⟨by rw [e1.out]; rfl, _, rfl⟩
  · have e1 : Hid (leB f g n = false) := by unfold leB; exact decide_eq_false fun h => by have := h k h1; omega
    have H2 := Lib.hid h2
    have H3 := Lib.hid h3
    have HB := Lib.hid hb
    clear h2 h3 hb
    go_enter Try.func31, Try.ntmps31
    go_wp2_with fail
    refine (le_no A n c f M n d g _ _ _ hs ht HB.out k h1 H2.out H3.out rfl hn).mono ?_
    rintro e w1 ⟨rfl, q, rfl⟩
    clear hs ht
    go_wp2_with fail
    go_ret
    exact ⟨by rw [e1.out]; rfl, _, rfl⟩
def bothB (f g : List Int) : Bool := decide (bothErr f g = 0)
theorem hboth_any (A : Option Addr) (n c : Nat) (f : List Int) (M : Option Addr) (m d : Nat) (g : List Int) (W : World) (B B' : Nat) (hs : Sl W B A n (ints f)) (ht : Sl W B' M m (ints g)) (hn : n ≤ 9223372036854775807) (hm : m ≤ 9223372036854775807) :
    Calls Try.prog 30 #[.slice A n c, .slice M m d] W fun e w' => e = .returned (.bool (bothB f g)) ∧ W = w' := by
  have hl := hs.int_len
  have hl' := ht.int_len
  by_cases h1 : curveErr f = 0
  · by_cases h2 : curveErr g = 0
    · have hb : Hid (bothB f g = ((n : Int) == m)) := by
        show bothB f g = _
        unfold bothB bothErr
        rw [if_pos h1, if_pos h2, hl, hl']
        by_cases h3 : n = m
        · subst h3; simp
        · rw [if_neg h3]; simp; omega
      have H1 := Lib.hid h1
      have H2 := Lib.hid h2
      clear hl hl' h1 h2
      go_enter Try.func30, Try.ntmps30
      go_wp2_with fail
      refine (ccheck_any A n c f _ _ hs hn).mono ?_
      rintro e w' ⟨rfl, rfl⟩
      rw [H1.out]
      go_wp2_with fail
      refine (ccheck_any M m d g _ _ ht hm).mono ?_
      rintro e w' ⟨rfl, rfl⟩
      rw [H2.out]
      clear hs ht
      go_wp2_with fail
      go_ret
      exact ⟨by rw [hb.out]; rfl, rfl⟩
    · have hb : Hid (bothB f g = false) := by
        show bothB f g = _
        unfold bothB bothErr
        rw [if_pos h1, if_neg h2]
        exact decide_eq_false h2
      have hne : (curveErr g == 0) = false := by simpa using h2
      have H1 := Lib.hid h1
      clear hl hl' h1 h2
      go_enter Try.func30, Try.ntmps30
      go_wp2_with fail
      refine (ccheck_any A n c f _ _ hs hn).mono ?_
      rintro e w' ⟨rfl, rfl⟩
      rw [H1.out]
      go_wp2_with fail
      refine (ccheck_any M m d g _ _ ht hm).mono ?_
      rintro e w' ⟨rfl, rfl⟩
      clear hs ht
      go_wp2_with fail
      go_ret
      exact ⟨by rw [hb.out]; rfl, rfl⟩
  · have hb : Hid (bothB f g = false) := by
      show bothB f g = _
      unfold bothB bothErr
      rw [if_neg h1]
      exact decide_eq_false h1
    have hne : (curveErr f == 0) = false := by simpa using h1
    clear hl hl' h1
    go_enter Try.func30, Try.ntmps30
    go_wp2_with fail
    refine (ccheck_any A n c f _ _ hs hn).mono ?_
    rintro e w' ⟨rfl, rfl⟩
    clear hs ht
    go_wp2_with fail
    go_ret
    exact ⟨by rw [hb.out]; rfl, rfl⟩
end Go.Proofs.Ytidmncoakockkaa
