/- The lesser of two, time by time, up to a time. -/
import Derived.Test.YtgenfiokplmgoaaTraceA
set_option linter.unusedVariables false
namespace Go.Proofs.Ytgenfiokplmgoaa
open Go.RowKit
def bmin (a m : List Int) (k : Nat) : List Int := tab a.length fun j => if j < k then mn (gi a j) (gi m j) else gi a j
theorem bmin_zero (a m : List Int) : bmin a m 0 = a := by
  unfold bmin
  rw [tab_congr (g := gi a) fun i _ => if_neg (Nat.not_lt_zero i)]
  exact tab_of a
theorem bmin_len (a m : List Int) (k : Nat) : (bmin a m k).length = a.length := tab_len _ _
theorem bmin_at {a m : List Int} {k : Nat} (h : k < a.length) : gi (bmin a m k) k = gi a k := by
  unfold bmin
  rw [tab_get _ h, if_neg (Nat.lt_irrefl k)]
theorem bmin_set {a m : List Int} {k : Nat} (h : k < a.length) : (bmin a m k).set k (mn (gi a k) (gi m k)) = bmin a m (k + 1) := by
  unfold bmin
  rw [tab_set _ _ _ h]
  refine tab_congr fun i _ => ?_
  rcases Nat.lt_trichotomy i k with h1 | h1 | h1
  · rw [if_neg (by omega), if_pos h1, if_pos (by omega)]
  · subst h1; rw [if_pos rfl, if_pos (by omega)]
  · rw [if_neg (by omega), if_neg (by omega), if_neg (by omega)]
theorem bmin_full {a m : List Int} {k : Nat} (h : k < a.length) : gi (bmin a m a.length) k = mn (gi a k) (gi m k) := by
  unfold bmin
  rw [tab_get _ h, if_pos h]
theorem bmin_ok {a m : List Int} (ha : traceOk a) (hm : traceOk m) (he : m.length = a.length) : traceOk (bmin a m a.length) := by
  refine ⟨by rw [bmin_len]; exact ha.1, fun z hz => ?_⟩
  obtain ⟨i, hi, rfl⟩ := mem_tab hz
  have h1 := trace_bd ha hi
  have h2 := trace_bd hm (show i < m.length by omega)
  have h3 := mn_le (gi a i) (gi m i)
  rw [if_pos hi]
  omega
end Go.Proofs.Ytgenfiokplmgoaa
