/- LineTwo: two links, one behind the other, are one of the lesser rate. -/
import Derived.Test.YtgenfiokplmgoaaLineB
import Derived.Test.YtgenfiokplmgoaaEqual
import Derived.Test.YtgenfiokplmgoaaWithin
set_option linter.unusedVariables false
namespace Go.Proofs.Ytgenfiokplmgoaa
open Go.RowKit
theorem lrun_ex (l : List Int) (r : Int) (o1 o2 : List Int) (n : Nat) (hl : l.length = n) (hok : lineOk l r) (h1 : tab n (ldep l r) = o1) (h2 : (tab n fun k => lbuf l r (k + 1)) = o2) (A : Option Addr) (c : Nat) (W : World) (hs : Sl W W.heap.size A n (ints l)) :
    Calls Try.prog 29 #[.slice A n c, .int .i64 r] W fun e w' => ∃ A1 c1 A2 c2, e = .returned (.tuple #[.slice A1 n c1, .slice A2 n c2, .int .i64 0]) ∧
      Sl w' w'.heap.size A1 n (ints o1) ∧ Sl w' w'.heap.size A2 n (ints o2) ∧ Below W.heap.size W w' :=
  (lrun_ok A n c l r W hok hs).mono fun _ _ ⟨A1, c1, A2, c2, e, k1, k2, k3, _, _⟩ => ⟨A1, c1, A2, c2, e, h1 ▸ k1, h2 ▸ k2, k3⟩
theorem two_step (q1 q2 x r s : Int) (h1 : 0 ≤ q1) (h2 : 0 ≤ q2) (h3 : 0 ≤ x) (h4 : 0 ≤ r) (h5 : 0 ≤ s) (h : r ≤ s → q2 = 0) :
    mn (q2 + mn (q1 + x) r) s = mn (q1 + q2 + x) (mn r s) := by
  unfold mn
  by_cases hrs : r ≤ s
  · have := h hrs
    subst this
    split <;> split <;> split <;> (try split) <;> omega
  · split <;> split <;> split <;> (try split) <;> omega
theorem ldep_def (a : List Int) (r : Int) (k : Nat) : ldep a r k = mn (lbuf a r k + gi a k) r := rfl
/-- What waits at both links together waits at the slower one. -/
theorem line_two {a X : List Int} {r s : Int} (h : lineOk a r) (hs : 0 ≤ s) (hX : ∀ k, k < a.length → gi X k = ldep a r k) (k : Nat) (hk : k ≤ a.length) :
    lbuf a r k + lbuf X s k = lbuf a (mn r s) k ∧ (r ≤ s → lbuf X s k = 0) ∧ 0 ≤ lbuf X s k := by
  induction k with
  | zero => simp [lbuf]
  | succ k ih =>
    obtain ⟨i1, i2, i3⟩ := ih (by omega)
    have b1 := lbuf_bd h k (by omega)
    have b2 := trace_bd h.1 (show k < a.length by omega)
    have b3 := h.2.1
    have e := two_step (lbuf a r k) (lbuf X s k) (gi a k) r s b1.1 i3 b2.1 b3 hs i2
    have l1 := mn_le (lbuf a r k + gi a k) r
    have l2 := mn_le (lbuf X s k + mn (lbuf a r k + gi a k) r) s
    rw [lbuf_succ, lbuf_succ, lbuf_succ, ldep_def X, hX k (by omega), ldep_def a r, ldep_def a (mn r s), ← i1, ← e]
    refine ⟨by omega, fun hrs => ?_, by omega⟩
    have := i2 hrs
    omega
theorem line_two_dep {a X : List Int} {r s : Int} (h : lineOk a r) (hs : 0 ≤ s) (hX : ∀ k, k < a.length → gi X k = ldep a r k) (k : Nat) (hk : k < a.length) :
    ldep X s k = ldep a (mn r s) k := by
  obtain ⟨i1, i2, i3⟩ := line_two h hs hX k (by omega)
  have b1 := lbuf_bd h k (by omega)
  have b2 := trace_bd h.1 hk
  have b3 := h.2.1
  have e := two_step (lbuf a r k) (lbuf X s k) (gi a k) r s b1.1 i3 b2.1 b3 hs i2
  rw [ldep_def X, hX k hk, ldep_def a r, ldep_def a (mn r s), ← i1, ← e]
end Go.Proofs.Ytgenfiokplmgoaa
