/- What the laws' walks share: the small functions for every input, old memory kept. -/
import Derived.Test.YtidmncoakockkaaKit0
import Derived.Test.YtidmncoakockkaaCurveC
import Derived.Test.YtidmncoakockkaaEqual
import Derived.Test.YtidmncoakockkaaWithin
import Derived.Test.YtidmncoakockkaaOpen
import Derived.Test.YtidmncoakockkaaOwnT
set_option linter.unusedVariables false
namespace Go.Proofs.Ytidmncoakockkaa
open Go.RowKit
def leT (f g : List Int) : Bool := decide (bothErr f g = 0 ∧ leTo f g f.length)
theorem leT_yes {n : Nat} {f g : List Int} (hf : IsC n f) (hg : IsC n g) (h : ∀ i, i < n → gi f i ≤ gi g i) : leT f g = true := decide_eq_true ⟨hf.both hg, by rw [hf.len]; exact h⟩
theorem leT_iff {n : Nat} {f g : List Int} (hf : IsC n f) (hg : IsC n g) : leT f g = true ↔ ∀ i, i < n → gi f i ≤ gi g i := by
  unfold leT
  rw [decide_eq_true_iff, hf.len]
  exact ⟨fun h => h.2, fun h => ⟨hf.both hg, h⟩⟩
theorem hle_t (A : Option Addr) (n c : Nat) (f : List Int) (M : Option Addr) (m d : Nat) (g : List Int) (W : World) (hs : Sl W W.heap.size A n (ints f)) (ht : Sl W W.heap.size M m (ints g)) (hn : n ≤ 9223372036854775807) (hm : m ≤ 9223372036854775807) (v : Bool) (hv : leT f g = v) :
    Calls Try.prog 31 #[.slice A n c, .slice M m d] W fun e w' => e = .returned (.bool v) ∧ Below W.heap.size W w' := by
  subst hv
  by_cases hb : bothErr f g = 0
  · obtain ⟨cf, cg⟩ := both_isC hb
    have hl := hs.int_len
    have hl' := ht.int_len
    have hlg := cg.len
    obtain rfl : n = m := by omega
    refine (hle_any A n c f M d g W _ _ hs ht hb hn).mono ?_
    rintro e w' ⟨rfl, q, rfl⟩
    refine ⟨?_, below_drewN (Below.refl _ _) q⟩
    have e1 : leB f g n = leT f g := by
      unfold leB leT
      rw [Bool.eq_iff_iff, decide_eq_true_iff, decide_eq_true_iff, hl]
      exact ⟨fun h => ⟨hb, h⟩, fun h => h.2⟩
    rw [e1]
  · have hne : (bothErr f g != 0) = true := by simpa using hb
    have hne' : (bothErr f g == 0) = false := by simpa using hb
    have hf : Hid (leT f g = false) := by unfold leT; exact decide_eq_false fun h => hb h.1
    clear hb
    go_enter Try.func31, Try.ntmps31
    go_wp2_with fail
    have hle : Calls Try.prog 45 #[.slice A n c, .slice M m d] W fun e w' => e = .returned (.tuple #[.bool false, .int .i64 (bothErr f g)]) ∧ W = w' := by
      go_enter Try.func45, Try.ntmps45
      go_wp2_with fail
      refine (both_any A n c f M m d g _ _ _ hs ht hn hm).mono ?_
      rintro e w' ⟨rfl, rfl⟩
      clear hs ht
      go_wp2_with fail
      go_ret2
      exact ⟨rfl, rfl⟩
    refine hle.mono ?_
    rintro e w' ⟨rfl, rfl⟩
    clear hs ht hle
    go_wp2_with fail
    go_ret
    exact ⟨by rw [hf.out]; rfl, Below.refl _ _⟩
theorem hboth_t (A : Option Addr) (n c : Nat) (f : List Int) (M : Option Addr) (m d : Nat) (g : List Int) (W : World) (hs : Sl W W.heap.size A n (ints f)) (ht : Sl W W.heap.size M m (ints g)) (hn : n ≤ 9223372036854775807) (hm : m ≤ 9223372036854775807) (v : Bool) (hv : bothB f g = v) :
    Calls Try.prog 30 #[.slice A n c, .slice M m d] W fun e w' => e = .returned (.bool v) ∧ Below W.heap.size W w' := by
  subst hv
  exact (hboth_any A n c f M m d g W _ _ hs ht hn hm).mono fun e w' ⟨h1, h2⟩ => ⟨h1, h2 ▸ Below.refl _ _⟩
theorem ccheck_t (A : Option Addr) (n c : Nat) (f : List Int) (W : World) (hs : Sl W W.heap.size A n (ints f)) (hn : n ≤ 9223372036854775807) (v : Int) (hv : curveErr f = v) :
    Calls Try.prog 14 #[.slice A n c] W fun e w' => e = .returned (.int .i64 v) ∧ W = w' := by
  subst hv
  exact ccheck_any A n c f W _ hs hn
theorem bothB_yes {n : Nat} {f g : List Int} (hf : IsC n f) (hg : IsC n g) : bothB f g = true := decide_eq_true (hf.both hg)
theorem bothB_isC {n : Nat} {f g : List Int} (h : bothB f g = true) (hn : f.length = n) : IsC n f ∧ IsC n g := by
  have := both_isC (of_decide_eq_true h)
  rwa [hn] at this
theorem both_C {n m : Nat} {f g : List Int} (h : bothB f g = true) (hf : f.length = n) (hg : g.length = m) : n = m ∧ IsC n f ∧ IsC n g := by
  obtain ⟨h1, h2⟩ := bothB_isC h hf
  exact ⟨by rw [← h2.len, hg], h1, h2⟩
theorem three_C {n m p : Nat} {f g k : List Int} (h : (bothB f g && bothB g k) = true) (hf : f.length = n) (hg : g.length = m) (hk : k.length = p) : n = m ∧ n = p ∧ IsC n f ∧ IsC n g ∧ IsC n k := by
  rw [Bool.and_eq_true] at h
  obtain ⟨e1, h1, h2⟩ := both_C h.1 hf hg
  obtain ⟨e2, h3, h4⟩ := both_C h.2 h2.len hk
  exact ⟨e1, e2, h1, h2, h4⟩
def sameB (f : List Int) (e : Int) (g : List Int) (x : Int) : Bool := if e = 2 ∨ x = 2 then true else decide (e = 0) && decide (x = 0) && decide (f = g)
end Go.Proofs.Ytidmncoakockkaa
