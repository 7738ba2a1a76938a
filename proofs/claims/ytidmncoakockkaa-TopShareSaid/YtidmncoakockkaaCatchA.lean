/- catch.look, catch.Lag and catch.Done. -/
import Derived.Test.YtidmncoakockkaaTraceA
set_option linter.unusedVariables false
namespace Go.Proofs.Ytidmncoakockkaa
open Go.RowKit
theorem own_built (w : World) (xs : List Value) (e : TypeId) (base n : Nat) (hb : base ≤ w.heap.size) (hn : xs.length = n) (hm : n ≤ maxLen) :
    (w.alloc (.cells xs.toArray e)).ownsRow base e 1 (.slice (some ⟨w.heap.size, 0, none⟩) n n) n xs :=
  ⟨by simp [hn], .inr ⟨w.heap.size, n, xs.toArray, rfl, hb, heap_alloc_new w _, Nat.le_refl _, hm, by simp [hn], by simp; exact List.take_of_length_le (by omega)⟩⟩
def rateOk (r g : Int) : Prop := 0 ≤ r ∧ r ≤ 10000 ∧ 0 ≤ g ∧ g ≤ 1000000
def catchOk (a : List Int) (r g : Int) : Prop := traceOk a ∧ rateOk r g
/-- The error of catch.Lag. -/
def catchErr (a : List Int) : Int := if 60 < a.length then 2 else 1
theorem catchErr_ne (a : List Int) : (catchErr a != 0) = true := by unfold catchErr; split <;> rfl
/-- How far behind at each time. -/
def clag (a : List Int) (r g : Int) : Nat → Int
  | 0 => g
  | k + 1 => mx 0 (clag a r g k + gi a k - r)
theorem clag_succ (a : List Int) (r g : Int) (k : Nat) : clag a r g (k + 1) = mx 0 (clag a r g k + gi a k - r) := rfl
theorem clag_bd {a : List Int} {r g : Int} (h : catchOk a r g) (k : Nat) (hk : k ≤ a.length) : 0 ≤ clag a r g k ∧ clag a r g k ≤ 1000000 + 10000 * k := by
  induction k with
  | zero => exact ⟨h.2.2.2.1, by have := h.2.2.2.2; simpa [clag] using this⟩
  | succ k ih =>
    have i := ih (by omega)
    have t := trace_bd h.1 (show k < a.length by omega)
    have r0 := h.2.1
    have m := mx_le 0 (clag a r g k + gi a k - r)
    rw [clag_succ]
    omega
theorem clook_ok (r g : Int) (W : World) (h : rateOk r g) :
    Calls Try.prog 35 #[.int .i64 r, .int .i64 g] W fun e w' => e = .returned (.int .i64 0) ∧ W = w' := by
  obtain ⟨h1, h2, h3, h4⟩ := h
  have g1 : ¬ (r < 0) := by omega
  have g2 : ¬ (10000 < r) := by omega
  have g3 : ¬ (g < 0) := by omega
  have g4 : ¬ (1000000 < g) := by omega
  go_enter Try.func35, Try.ntmps35
  go_wp2_with fail
  go_ret
  exact ⟨rfl, rfl⟩
theorem clook_bad (r g : Int) (W : World) (h : ¬ rateOk r g) :
    Calls Try.prog 35 #[.int .i64 r, .int .i64 g] W fun e w' => e = .returned (.int .i64 1) ∧ W = w' := by
  have hr : r < 0 ∨ (¬ r < 0 ∧ 10000 < r) ∨ (¬ r < 0 ∧ ¬ 10000 < r ∧ g < 0) ∨ (¬ r < 0 ∧ ¬ 10000 < r ∧ ¬ g < 0 ∧ 1000000 < g) := by
    unfold rateOk at h
    omega
  clear h
  rcases hr with h1 | ⟨h1, h2⟩ | ⟨h1, h2, h3⟩ | ⟨h1, h2, h3, h4⟩
  all_goals
    go_enter Try.func35, Try.ntmps35
    go_wp2_with fail
    go_ret
    exact ⟨rfl, rfl⟩
theorem ret_err {v : Value} {x y : Int} (h : x = y) : Ending.returned (.tuple #[v, .int .i64 x]) = .returned (.tuple #[v, .int .i64 y]) := by rw [h]
/-- The first time at which one is there. -/
def firstZ (f : Nat → Int) (m : Nat) (t : Nat) : Prop := t < m ∧ f t = 0 ∧ ∀ i, i < t → f i ≠ 0
theorem firstZ_or (f : Nat → Int) (m : Nat) : (∃ t, firstZ f m t) ∨ ∀ i, i < m → f i ≠ 0 := by
  induction m with
  | zero => right; intro i hi; omega
  | succ m ih =>
    rcases ih with ⟨t, h1, h2, h3⟩ | h
    · exact .inl ⟨t, by omega, h2, h3⟩
    · by_cases hm : f m = 0
      · exact .inl ⟨m, by omega, hm, h⟩
      · right
        intro i hi
        rcases Nat.lt_or_ge i m with h' | h'
        · exact h i h'
        · obtain rfl : i = m := by omega
          exact hm
end Go.Proofs.Ytidmncoakockkaa
