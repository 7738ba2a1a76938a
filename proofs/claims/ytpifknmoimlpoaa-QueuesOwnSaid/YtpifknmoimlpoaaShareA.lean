/- Plain facts on a link that is shared bytewise. -/
import Derived.Test.YtpifknmoimlpoaaBase
set_option linter.unusedVariables false
namespace Go.Proofs.Ytpifknmoimlpoaa
/-- What participant k is sent ahead of participant i's last byte. -/
def contr (l : List Int) (i k : Nat) : Int :=
  if k < i then mn (gi l k) (gi l i) else if i < k then mn (gi l k) (mx 0 (gi l i - 1)) else 0
def dpart (l : List Int) (i : Nat) : Nat → Int
  | 0 => gi l i
  | k + 1 => dpart l i k + contr l i k
theorem dpart_succ (l : List Int) (i k : Nat) : dpart l i (k + 1) = dpart l i k + contr l i k := rfl
def lagsOk (l : List Int) : Prop := l.length ≤ 8 ∧ ∀ z ∈ l, 0 ≤ z ∧ z ≤ 1000
def shareOk (l : List Int) (r : Int) : Prop := lagsOk l ∧ 1 ≤ r ∧ r ≤ 10000
theorem lag_bd {l : List Int} (h : lagsOk l) {i : Nat} (hi : i < l.length) : 0 ≤ gi l i ∧ gi l i ≤ 1000 := h.2 _ (gi_mem hi)
theorem contr_bd {l : List Int} (h : lagsOk l) {i k : Nat} (hi : i < l.length) (hk : k < l.length) :
    0 ≤ contr l i k ∧ contr l i k ≤ gi l k ∧ contr l i k ≤ gi l i := by
  have a := lag_bd h hi
  have b := lag_bd h hk
  unfold contr
  split
  · have := mn_le (gi l k) (gi l i); omega
  · split
    · have := mn_le (gi l k) (mx 0 (gi l i - 1)); have := mx_le 0 (gi l i - 1); omega
    · omega
theorem dpart_bd {l : List Int} (h : lagsOk l) {i k : Nat} (hi : i < l.length) (hk : k ≤ l.length) :
    gi l i ≤ dpart l i k ∧ dpart l i k ≤ gi l i + k * gi l i := by
  induction k with
  | zero => simp [dpart]
  | succ k ih =>
    have := ih (by omega)
    have c := contr_bd h hi (show k < l.length by omega)
    rw [dpart_succ, Int.natCast_succ, Int.add_mul, Int.one_mul]
    omega
def ceil (d r : Int) : Int := (d + r - 1) / r
theorem ceil_lo {d r : Int} (h : 1 ≤ r) : d ≤ ceil d r * r := by
  unfold ceil
  have a := Int.mul_ediv_add_emod (d + r - 1) r
  have b := Int.emod_lt_of_pos (d + r - 1) (show 0 < r by omega)
  rw [Int.mul_comm]
  omega
theorem ceil_hi {d r : Int} (h : 1 ≤ r) : (ceil d r - 1) * r < d := by
  unfold ceil
  have a := Int.mul_ediv_add_emod (d + r - 1) r
  have b := Int.emod_nonneg (d + r - 1) (show r ≠ 0 by omega)
  rw [Int.sub_mul, Int.mul_comm _ r]
  omega
theorem ceil_nonneg {d r : Int} (h : 1 ≤ r) (hd : 0 ≤ d) : 0 ≤ ceil d r := Int.ediv_nonneg (by omega) (by omega)
theorem ceil_mono {d d' r : Int} (h : 1 ≤ r) (hd : d ≤ d') : ceil d r ≤ ceil d' r := Int.ediv_le_ediv (by omega) (by omega)
/-- The least number of slots: the one that suffices. -/
theorem ceil_le_iff {d r t : Int} (h : 1 ≤ r) : ceil d r ≤ t ↔ d ≤ t * r := by
  constructor
  · intro ht
    exact Int.le_trans (ceil_lo h) (Int.mul_le_mul_of_nonneg_right ht (by omega))
  · intro hd
    have a := ceil_hi (d := d) h
    rcases Int.lt_or_le t (ceil d r) with c | c
    · exfalso
      have : t * r ≤ (ceil d r - 1) * r := Int.mul_le_mul_of_nonneg_right (by omega) (by omega)
      omega
    · exact c
theorem ceil_rate {d r r' : Int} (h : 1 ≤ r) (hr : r ≤ r') (hd : 0 ≤ d) : ceil d r' ≤ ceil d r := by
  rw [ceil_le_iff (by omega)]
  have a := ceil_lo (d := d) h
  have b : ceil d r * r ≤ ceil d r * r' := Int.mul_le_mul_of_nonneg_left hr (ceil_nonneg h hd)
  omega
theorem ceil_le {d r : Int} (h : 1 ≤ r) (hd : 0 ≤ d) : ceil d r ≤ d := by
  rw [ceil_le_iff h]
  have := Int.mul_le_mul_of_nonneg_left h hd
  omega
def dsum (l : List Int) (i : Nat) : Int := dpart l i l.length
def slist (l : List Int) (r : Int) (n : Nat) : List Int := (List.range n).map fun i => ceil (dsum l i) r
theorem slist_len (l : List Int) (r : Int) (n : Nat) : (slist l r n).length = n := by simp [slist]
theorem slist_get (l : List Int) (r : Int) {n i : Nat} (h : i < n) : gi (slist l r n) i = ceil (dsum l i) r := by simp [slist, gi, h]
theorem slist_push (l : List Int) (r : Int) (k : Nat) (x : Int) (hx : x = ceil (dsum l k) r) : ints (slist l r k) ++ [.int .i64 x] = ints (slist l r (k + 1)) := by
  subst hx
  simp [slist, List.range_succ, ints]
theorem dsum_bd {l : List Int} (h : lagsOk l) {i : Nat} (hi : i < l.length) : gi l i ≤ dsum l i ∧ dsum l i ≤ 9000 := by
  have a := dpart_bd h hi (Nat.le_refl _)
  have b := lag_bd h hi
  have c : (l.length : Int) * gi l i ≤ 8 * 1000 := Int.mul_le_mul (by have := h.1; omega) b.2 b.1 (by omega)
  unfold dsum
  omega
end Go.Proofs.Ytpifknmoimlpoaa
