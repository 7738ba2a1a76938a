/- Plain facts on waiting times. -/
import Derived.Test.YtopldjklmjkcmaaBase
set_option linter.unusedVariables false
namespace Go.Proofs.Ytopldjklmjkcmaa
/-- The waiting time behind attempt i. -/
def rwait (f m : Int) : Nat → Int
  | 0 => f
  | i + 1 => if 2 * rwait f m i < m then 2 * rwait f m i else m
theorem rwait_succ (f m : Int) (i : Nat) : rwait f m (i + 1) = if 2 * rwait f m i < m then 2 * rwait f m i else m := rfl
def retryOk (f m : Int) : Prop := 1 ≤ f ∧ f ≤ m ∧ m ≤ 1000000
theorem rwait_bd {f m : Int} (h : retryOk f m) (i : Nat) : f ≤ rwait f m i ∧ rwait f m i ≤ m := by
  obtain ⟨h1, h2, h3⟩ := h
  induction i with
  | zero => exact ⟨Int.le_refl _, h2⟩
  | succ i ih =>
    rw [rwait_succ]
    split <;> omega
def rlist (f m : Int) (n : Nat) : List Int := (List.range n).map (rwait f m)
theorem rlist_len (f m : Int) (n : Nat) : (rlist f m n).length = n := by simp [rlist]
theorem rlist_get (f m : Int) {n i : Nat} (h : i < n) : gi (rlist f m n) i = rwait f m i := by simp [rlist, gi, h]
theorem rlist_push (f m : Int) (k : Nat) : ints (rlist f m k) ++ [.int .i64 (rwait f m k)] = ints (rlist f m (k + 1)) := by
  simp [rlist, List.range_succ, ints]
/-- The time of attempt k. -/
def rtime (f m : Int) : Nat → Int
  | 0 => 0
  | i + 1 => rtime f m i + rwait f m i
theorem rtime_succ (f m : Int) (i : Nat) : rtime f m (i + 1) = rtime f m i + rwait f m i := rfl
theorem rtime_bd {f m : Int} (h : retryOk f m) (i : Nat) : i * f ≤ rtime f m i ∧ rtime f m i ≤ i * m := by
  induction i with
  | zero => simp [rtime]
  | succ i ih =>
    have := rwait_bd h i
    rw [rtime_succ]
    rw [show ((i + 1 : Nat) : Int) = (i : Int) + 1 from rfl, Int.add_mul, Int.add_mul]
    omega
theorem rtime_le {f m : Int} (h : retryOk f m) (i : Nat) (hi : i ≤ 40) : 0 ≤ rtime f m i ∧ rtime f m i ≤ 40000000 := by
  have a := rtime_bd h i
  obtain ⟨h1, h2, h3⟩ := h
  have b : 0 ≤ (i : Int) * f := Int.mul_nonneg (by omega) (by omega)
  have c : (i : Int) * m ≤ 40 * 1000000 := Int.mul_le_mul (by omega) h3 (by omega) (by omega)
  omega
/-- Attempt k is the first that is not lost. -/
def FirstGot (bs : List Bool) (k : Nat) : Prop := k < bs.length ∧ gb bs k = false ∧ ∀ i, i < k → gb bs i = true
end Go.Proofs.Ytopldjklmjkcmaa
