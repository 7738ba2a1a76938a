/- CatchFaster: at more rate, with less lag and less that comes, one lags by no more. -/
import Derived.Test.YtcklkmgheaofgaaCatchA
import Derived.Test.YtcklkmgheaofgaaOpen
import Derived.Test.YtcklkmgheaofgaaEqual
import Derived.Test.YtcklkmgheaofgaaWithin
import Derived.Test.YtcklkmgheaofgaaCloneInt
import Derived.StillTailTactics
set_option linter.unusedVariables false
namespace Go.Proofs.Ytcklkmgheaofgaa
open Go.RowKit
theorem clag_ex (l : List Int) (r g : Int) (o : List Int) (n m : Nat) (hl : l.length = n) (hm : m = n + 1) (hok : catchOk l r g) (h1 : tab m (clag l r g) = o) (A : Option Addr) (c : Nat) (W : World) (hs : Sl W W.heap.size A n (ints l)) :
    Calls Try.prog 4 #[.slice A n c, .int .i64 r, .int .i64 g] W fun e w' => ∃ A1 c1, e = .returned (.tuple #[.slice A1 m c1, .int .i64 0]) ∧
      Sl w' w'.heap.size A1 m (ints o) ∧ Below W.heap.size W w' := by
  subst hm
  exact (clag_ok A n c l r g W hok hs).mono fun _ _ ⟨A1, c1, e, k1, k2, _⟩ => ⟨A1, c1, e, h1 ▸ k1, k2⟩
def bmin (a m : List Int) (k : Nat) : List Int := tab a.length fun j => if j < k then mn (gi a j) (gi m j) else gi a j
theorem bmin_zero (a m : List Int) : bmin a m 0 = a := by
  unfold bmin
  rw [tab_congr (g := gi a) fun i _ => if_neg (Nat.not_lt_zero i)]
  exact tab_of a
theorem bmin_len (a m : List Int) (k : Nat) : (bmin a m k).length = a.length := tab_len _ _
theorem bmin_at {a m : List Int} {k : Nat} (h : k < a.length) : gi (bmin a m k) k = gi a k := by
  unfold bmin
  rw [tab_get _ h, if_neg (Nat.lt_irrefl k)]
theorem bmin_set {a m : List Int} {k : Nat} (h : k < a.length) : (bmin a m k).set k (mn (gi a k) (gi m k)) = bmin a m (k + 1) := by
  unfold bmin
  rw [tab_set _ _ _ h]
  refine tab_congr fun i _ => ?_
  rcases Nat.lt_trichotomy i k with h1 | h1 | h1
  · rw [if_neg (by omega), if_pos h1, if_pos (by omega)]
  · subst h1; rw [if_pos rfl, if_pos (by omega)]
  · rw [if_neg (by omega), if_neg (by omega), if_neg (by omega)]
theorem bmin_full {a m : List Int} {k : Nat} (h : k < a.length) : gi (bmin a m a.length) k = mn (gi a k) (gi m k) := by
  unfold bmin
  rw [tab_get _ h, if_pos h]
theorem bmin_ok {a m : List Int} (ha : traceOk a) (hm : traceOk m) (he : m.length = a.length) : traceOk (bmin a m a.length) := by
  refine ⟨by rw [bmin_len]; exact ha.1, fun z hz => ?_⟩
  obtain ⟨i, hi, rfl⟩ := mem_tab hz
  have h1 := trace_bd ha hi
  have h2 := trace_bd hm (show i < m.length by omega)
  have h3 := mn_le (gi a i) (gi m i)
  rw [if_pos hi]
  omega
theorem clag_less (a b : List Int) (r s g g' : Int) (hs : 0 ≤ s) (hg : g' ≤ g) (n : Nat) (h : ∀ k, k < n → gi b k ≤ gi a k) (k : Nat) (hk : k ≤ n) : clag b (r + s) g' k ≤ clag a r g k := by
  induction k with
  | zero => exact hg
  | succ k ih =>
    have i1 := ih (by omega)
    have i2 := h k (by omega)
    rw [clag_succ, clag_succ]
    unfold mx
    split <;> split <;> omega
end Go.Proofs.Ytcklkmgheaofgaa
