/- line.Run, prio.Run in the generator's form; plain laws of a line. -/
import Derived.Test.YtihhldphpoddhaaLineB
import Derived.Test.YtihhldphpoddhaaSlotsA
import Derived.Test.YtihhldphpoddhaaCurveQ
import Derived.Test.YtihhldphpoddhaaPrioA
set_option linter.unusedVariables false
namespace Go.Proofs.Ytihhldphpoddhaa
open Go.RowKit
/-- The answer: two slices of n elements, and an error. -/
def TwoSl (W : World) (n : Nat) (z1 z2 : List Int) (er : Int) (e : Ending) (w' : World) : Prop :=
  ∃ A1 c1 A2 c2, e = .returned (.tuple #[.slice A1 n c1, .slice A2 n c2, .int .i64 er]) ∧ Sl w' w'.heap.size A1 n (ints z1) ∧ Sl w' w'.heap.size A2 n (ints z2) ∧ Below W.heap.size W w'
theorem lrun_t (A : Option Addr) (n c : Nat) (a : List Int) (r : Int) (W : World) (hs : Sl W W.heap.size A n (ints a)) (hn : n ≤ 9223372036854775807) (h : lineOk a r) (z1 z2 : List Int) (er : Int) (k : Nat) (hk : n = k) (hz : (tab n (ldep a r), (tab n fun k => lbuf a r (k + 1)), (0 : Int)) = (z1, z2, er)) :
    Calls Try.prog 15 #[.slice A n c, .int .i64 r] W (TwoSl W k z1 z2 er) := by
  subst hk
  injection hz with e1 e2
  injection e2 with e2 e3
  subst e1 e2 e3
  exact (lrun_ok A n c a r W h hs).mono fun e w' ⟨A1, c1, A2, c2, h1, h2, h3, h4, _⟩ => ⟨A1, c1, A2, c2, h1, h2, h3, h4⟩
theorem lrun_n (A : Option Addr) (n c : Nat) (a : List Int) (r : Int) (W : World) (hs : Sl W W.heap.size A n (ints a)) (hn : n ≤ 9223372036854775807) (h : ¬ lineOk a r) (z1 z2 : List Int) (er : Int) (k : Nat) (hk : 0 = k) (hz : (([] : List Int), ([] : List Int), lineErr a r) = (z1, z2, er)) :
    Calls Try.prog 15 #[.slice A n c, .int .i64 r] W (TwoSl W k z1 z2 er) := by
  subst hk
  injection hz with e1 e2
  injection e2 with e2 e3
  subst e1 e2 e3
  exact (lrun_bad A n c a r W _ h hs hn).mono fun e w' ⟨h1, h2⟩ => ⟨none, 0, none, 0, h1, Sl.nil, Sl.nil, h2 ▸ Below.refl _ _⟩
theorem psum_line {a : List Int} {r : Int} (n : Nat) (k : Nat) (hk : k ≤ n) : psum (tab n (ldep a r)) k + lbuf a r k = psum a k := by
  induction k with
  | zero => rfl
  | succ k ih =>
    rw [psum_succ, psum_succ, tab_get _ (by omega), lbuf_succ, ← ih (by omega)]
    omega
theorem dep_ok {a : List Int} {r : Int} (h : lineOk a r) : traceOk (tab a.length (ldep a r)) := by
  refine ⟨by rw [tab_len]; exact h.1.1, fun z hz => ?_⟩
  obtain ⟨i, hi, rfl⟩ := mem_tab hz
  have := ldep_bd h i hi
  have := h.2.2
  omega
theorem psum_dep {a : List Int} {r : Int} (n k : Nat) (hk : k < n) : psum (tab n (ldep a r)) (k + 1) = mn (psum a (k + 1)) (psum (tab n (ldep a r)) k + r) := by
  have a1 := psum_line (a := a) (r := r) n k (by omega)
  rw [psum_succ, psum_succ, tab_get _ hk]
  have m := mn_le (lbuf a r k + gi a k) r
  have m2 := mn_le (psum a k + gi a k) (psum (tab n (ldep a r)) k + r)
  show psum (tab n (ldep a r)) k + mn (lbuf a r k + gi a k) r = _
  unfold mn at m m2 ⊢
  (repeat' split at m) <;> (repeat' split at m2) <;> (repeat' split) <;> omega
/-- By each time what went out is what came, with the line's curve after it. -/
theorem dep_conv {a : List Int} {r : Int} (h : lineOk a r) (n : Nat) (k : Nat) (hk : k ≤ n) : psum (tab n (ldep a r)) k = cv (psum a) (fun t => r * t) k := by
  induction k with
  | zero => show (0 : Int) = psum a 0 + r * ((0 - 0 : Nat) : Int); simp [psum]
  | succ k ih =>
    rw [psum_dep n k (by omega), ih (by omega)]
    have m := mn_le (psum a (k + 1)) (cv (psum a) (fun t => r * (t : Int)) k + r)
    have step : ∀ s, s ≤ k → r * ((k + 1 - s : Nat) : Int) = r * ((k - s : Nat) : Int) + r := fun s hs => by
      rw [show k + 1 - s = (k - s) + 1 by omega]
      rw [show (((k - s) + 1 : Nat) : Int) = ((k - s : Nat) : Int) + 1 by omega, Int.mul_add, Int.mul_one]
    refine Int.le_antisymm (le_cv fun s hs => ?_) ?_
    · rcases Nat.lt_or_ge k s with h2 | h2
      · obtain rfl : s = k + 1 := by omega
        rw [Nat.sub_self]
        simp only [Int.natCast_zero, Int.mul_zero]
        omega
      · have a1 := cv_le (psum a) (fun t => r * (t : Int)) h2
        have a2 := step s h2
        (try simp only at a1 ⊢)
        omega
    · rcases m.2.2 with e | e
      · rw [e]
        have a1 := cv_le (psum a) (fun t => r * (t : Int)) (Nat.le_refl (k + 1))
        rw [Nat.sub_self] at a1
        simp only [Int.natCast_zero, Int.mul_zero] at a1
        omega
      · rw [e]
        obtain ⟨s, hs, e2⟩ := cv_ex (psum a) (fun t => r * (t : Int)) k
        have a1 := cv_le (psum a) (fun t => r * (t : Int)) (t := k + 1) (s := s) (by omega)
        have a2 := step s hs
        (try simp only at a1 e2)
        omega
theorem prun_t (A : Option Addr) (n c : Nat) (a : List Int) (M : Option Addr) (m d : Nat) (b : List Int) (r : Int) (W : World) (hs : Sl W W.heap.size A n (ints a)) (ht : Sl W W.heap.size M m (ints b)) (hn : n ≤ 9223372036854775807) (hm : m ≤ 9223372036854775807) (h : prioOk a b r) (hnm : n = m) (z1 z2 : List Int) (er : Int) (k : Nat) (hk : n = k) (hz : (tab n (ldep a r), tab n (pout a b r), (0 : Int)) = (z1, z2, er)) :
    Calls Try.prog 26 #[.slice A n c, .slice M m d, .int .i64 r] W (TwoSl W k z1 z2 er) := by
  subst hk hnm
  injection hz with e1 e2
  injection e2 with e2 e3
  subst e1 e2 e3
  exact (prun_ok A n c a M d b r W h hs ht).mono fun e w' ⟨A1, c1, A2, c2, h1, h2, h3, h4⟩ => ⟨A1, c1, A2, c2, h1, h2, h3, h4⟩
end Go.Proofs.Ytihhldphpoddhaa
