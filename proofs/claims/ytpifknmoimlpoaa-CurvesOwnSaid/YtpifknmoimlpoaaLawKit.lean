/- What the laws' walks share: the small functions for every input, old memory kept. -/
import Derived.Test.YtpifknmoimlpoaaKit0
import Derived.Test.YtpifknmoimlpoaaCurveC
import Derived.Test.YtpifknmoimlpoaaEqual
import Derived.Test.YtpifknmoimlpoaaWithin
import Derived.Test.YtpifknmoimlpoaaOpen
import Derived.Test.YtpifknmoimlpoaaOwnT
set_option linter.unusedVariables false
namespace Go.Proofs.Ytpifknmoimlpoaa
open Go.RowKit
def leT (f g : List Int) : Bool := decide (bothErr f g = 0 ∧ leTo f g f.length)
theorem leT_yes {n : Nat} {f g : List Int} (hf : IsC n f) (hg : IsC n g) (h : ∀ i, i < n → gi f i ≤ gi g i) : leT f g = true := decide_eq_true ⟨hf.both hg, by rw [hf.len]; exact h⟩
theorem leT_iff {n : Nat} {f g : List Int} (hf : IsC n f) (hg : IsC n g) : leT f g = true ↔ ∀ i, i < n → gi f i ≤ gi g i := by
  unfold leT
  rw [decide_eq_true_iff, hf.len]
  exact ⟨fun h => h.2, fun h => ⟨hf.both hg, h⟩⟩
theorem ccheck_t (A : Option Addr) (n c : Nat) (f : List Int) (W : World) (hs : Sl W W.heap.size A n (ints f)) (hn : n ≤ 9223372036854775807) (v : Int) (hv : curveErr f = v) :
    Calls Try.prog 96 #[.slice A n c] W fun e w' => e = .returned (.int .i64 v) ∧ W = w' := by
  subst hv
  exact ccheck_any A n c f W _ hs hn
theorem bothB_yes {n : Nat} {f g : List Int} (hf : IsC n f) (hg : IsC n g) : bothB f g = true := decide_eq_true (hf.both hg)
theorem bothB_isC {n : Nat} {f g : List Int} (h : bothB f g = true) (hn : f.length = n) : IsC n f ∧ IsC n g := by
  have := both_isC (of_decide_eq_true h)
  rwa [hn] at this
theorem both_C {n m : Nat} {f g : List Int} (h : bothB f g = true) (hf : f.length = n) (hg : g.length = m) : n = m ∧ IsC n f ∧ IsC n g := by
  obtain ⟨h1, h2⟩ := bothB_isC h hf
  exact ⟨by rw [← h2.len, hg], h1, h2⟩
theorem three_C {n m p : Nat} {f g k : List Int} (h : (bothB f g && bothB g k) = true) (hf : f.length = n) (hg : g.length = m) (hk : k.length = p) : n = m ∧ n = p ∧ IsC n f ∧ IsC n g ∧ IsC n k := by
  rw [Bool.and_eq_true] at h
  obtain ⟨e1, h1, h2⟩ := both_C h.1 hf hg
  obtain ⟨e2, h3, h4⟩ := both_C h.2 h2.len hk
  exact ⟨e1, e2, h1, h2, h4⟩
def sameB (f : List Int) (e : Int) (g : List Int) (x : Int) : Bool := if e = 2 ∨ x = 2 then true else decide (e = 0) && decide (x = 0) && decide (f = g)
end Go.Proofs.Ytpifknmoimlpoaa
