/- Plain facts on a transfer with crashes. -/
import Derived.Test.YtehdphkaknjlnaaBase
set_option linter.unusedVariables false
namespace Go.Proofs.Ytehdphkaknjlnaa
/-- One slot: what is there behind it. -/
def nx (s r g : Int) : Int := if g + r < s then g + r else s
def rstep (s u r g : Int) (b : Bool) : Int := if b = true ∧ nx s r g < s then nx s r g - nx s r g % u else nx s r g
def rgot (s u r : Int) (bs : List Bool) : Nat → Int
  | 0 => 0
  | k + 1 => rstep s u r (rgot s u r bs k) (gb bs k)
theorem rgot_succ (s u r : Int) (bs : List Bool) (k : Nat) : rgot s u r bs (k + 1) = rstep s u r (rgot s u r bs k) (gb bs k) := rfl
def resumeOk (s u r : Int) : Prop := 0 ≤ s ∧ s ≤ 1000000 ∧ 1 ≤ u ∧ u ≤ 1000000 ∧ 0 ≤ r ∧ r ≤ 10000
theorem nx_bd {s r g : Int} (hr : 0 ≤ r) (hg : g ≤ s) : g ≤ nx s r g ∧ nx s r g ≤ s ∧ nx s r g ≤ g + r ∧ (nx s r g = s ∨ nx s r g = g + r) := by
  unfold nx
  split <;> omega
theorem rstep_bd {s u r g : Int} (h : resumeOk s u r) (h0 : 0 ≤ g) (hg : g ≤ s) (b : Bool) : 0 ≤ rstep s u r g b ∧ rstep s u r g b ≤ nx s r g := by
  obtain ⟨h1, h2, h3, h4, h5, h6⟩ := h
  obtain ⟨n1, n2, n3, n4⟩ := nx_bd h5 hg
  unfold rstep
  generalize nx s r g = y at *
  have a := Int.emod_nonneg y (show u ≠ 0 by omega)
  have c := Int.mul_ediv_add_emod y u
  have e : 0 ≤ u * (y / u) := Int.mul_nonneg (by omega) (Int.ediv_nonneg (by omega) (by omega))
  split <;> omega
theorem rgot_bd {s u r : Int} (h : resumeOk s u r) (bs : List Bool) (k : Nat) : 0 ≤ rgot s u r bs k ∧ rgot s u r bs k ≤ s := by
  induction k with
  | zero => exact ⟨Int.le_refl _, h.1⟩
  | succ k ih =>
    rw [rgot_succ]
    have a := rstep_bd h ih.1 ih.2 (gb bs k)
    have b := nx_bd (s := s) (g := rgot s u r bs k) h.2.2.2.2.1 ih.2
    omega
/-- Pieces of one byte: a crash loses nothing. -/
theorem rstep_one (s r g : Int) (b : Bool) : rstep s 1 r g b = nx s r g := by
  unfold rstep
  generalize nx s r g = y
  rw [Int.emod_one, Int.sub_zero]
  split <;> rfl
theorem rstep_calm (s u r g : Int) : rstep s u r g false = nx s r g := by
  unfold rstep
  rw [if_neg (by simp)]
def full (s r : Int) (k : Nat) : Int := if r * k < s then r * k else s
theorem full_zero {s r : Int} (h0 : 0 ≤ s) : full s r 0 = 0 := by
  unfold full
  rw [show ((0 : Nat) : Int) = 0 from rfl, Int.mul_zero]
  split <;> omega
theorem full_succ {s r : Int} (h0 : 0 ≤ s) (hr : 0 ≤ r) (k : Nat) : full s r (k + 1) = nx s r (full s r k) := by
  unfold full nx
  have e : r * ((k + 1 : Nat) : Int) = r * k + r := by rw [Int.natCast_succ, Int.mul_add, Int.mul_one]
  rw [e]
  by_cases h : r * (k : Int) < s
  · rw [if_pos h]
  · rw [if_neg h, if_neg (by omega), if_neg (by omega)]
theorem rgot_one {s r : Int} (h0 : 0 ≤ s) (hr : 0 ≤ r) (bs : List Bool) (k : Nat) : rgot s 1 r bs k = full s r k := by
  induction k with
  | zero => rw [full_zero h0]; rfl
  | succ k ih => rw [rgot_succ, rstep_one, ih, full_succ h0 hr]
theorem rgot_calm {s u r : Int} (h0 : 0 ≤ s) (hr : 0 ≤ r) (bs : List Bool) (k : Nat) (hb : ∀ i, gb bs i = false) : rgot s u r bs k = full s r k := by
  induction k with
  | zero => rw [full_zero h0]; rfl
  | succ k ih => rw [rgot_succ, hb, rstep_calm, ih, full_succ h0 hr]
theorem nx_mono {s r g g' : Int} (h : g ≤ g') : nx s r g ≤ nx s r g' := by
  unfold nx
  split <;> split <;> omega
/-- What is there is at most what there would be without crashes. -/
theorem rgot_le {s u r : Int} (h : resumeOk s u r) (bs : List Bool) (k : Nat) : rgot s u r bs k ≤ full s r k := by
  induction k with
  | zero => rw [full_zero h.1]; exact Int.le_refl _
  | succ k ih =>
    have hb := rgot_bd h bs k
    have a := rstep_bd h hb.1 hb.2 (gb bs k)
    have c := nx_mono (s := s) (r := r) ih
    rw [rgot_succ, full_succ h.1 h.2.2.2.2.1]
    omega
/-- Whole pieces are never lost. -/
theorem rgot_whole {s u r : Int} (h : resumeOk s u r) (bs : List Bool) (k : Nat) : rgot s u r bs k / u ≤ rgot s u r bs (k + 1) / u := by
  have hb := rgot_bd h bs k
  obtain ⟨h1, h2, h3, h4, h5, h6⟩ := h
  rw [rgot_succ]
  generalize rgot s u r bs k = g at *
  obtain ⟨n1, n2, n3, n4⟩ := nx_bd (s := s) (g := g) h5 hb.2
  unfold rstep
  generalize nx s r g = x at *
  have e := Int.mul_ediv_add_emod x u
  have e2 : x - x % u = u * (x / u) := by omega
  split
  · rw [e2, Int.mul_ediv_cancel_left _ (by omega)]
    exact Int.ediv_le_ediv (by omega) n1
  · exact Int.ediv_le_ediv (by omega) n1
/-- How many crashes there were by a slot. -/
def crashes (bs : List Bool) : Nat → Nat
  | 0 => 0
  | k + 1 => crashes bs k + if gb bs k = true then 1 else 0
theorem crashes_succ (bs : List Bool) (k : Nat) : crashes bs (k + 1) = crashes bs k + if gb bs k = true then 1 else 0 := rfl
theorem crashes_le (bs : List Bool) (k : Nat) : crashes bs k ≤ k := by
  induction k with
  | zero => exact Nat.le_refl _
  | succ k ih => rw [crashes_succ]; split <;> omega
/-- A crash loses less than a piece. -/
theorem rgot_least {s u r : Int} (h : resumeOk s u r) (bs : List Bool) (k : Nat) : rgot s u r bs k = s ∨ r * k - crashes bs k * (u - 1) ≤ rgot s u r bs k := by
  have h' := h
  obtain ⟨h1, h2, h3, h4, h5, h6⟩ := h'
  induction k with
  | zero => right; simp [rgot, crashes]
  | succ k ih =>
    have hb := rgot_bd h bs k
    rw [rgot_succ, crashes_succ]
    have e : r * ((k + 1 : Nat) : Int) = r * k + r := by rw [Int.natCast_succ, Int.mul_add, Int.mul_one]
    rw [e]
    generalize rgot s u r bs k = g at *
    obtain ⟨n1, n2, n3, n4⟩ := nx_bd (s := s) (g := g) h5 hb.2
    unfold rstep
    generalize nx s r g = x at *
    have b := Int.emod_lt_of_pos x (show 0 < u by omega)
    cases gb bs k with
    | false =>
      simp only [Bool.false_eq_true, false_and, if_false, Nat.add_zero]
      omega
    | true =>
      simp only [true_and, if_true]
      have e2 : ((crashes bs k + 1 : Nat) : Int) * (u - 1) = crashes bs k * (u - 1) + (u - 1) := by rw [Int.natCast_succ, Int.add_mul, Int.one_mul]
      rw [e2]
      split <;> omega
def rres (s u r : Int) (bs : List Bool) (n : Nat) : List Int := (List.range n).map fun k => rgot s u r bs (k + 1)
theorem rres_len (s u r : Int) (bs : List Bool) (n : Nat) : (rres s u r bs n).length = n := by simp [rres]
theorem rres_get (s u r : Int) (bs : List Bool) {n i : Nat} (h : i < n) : gi (rres s u r bs n) i = rgot s u r bs (i + 1) := by simp [rres, gi, h]
theorem rres_push (s u r : Int) (bs : List Bool) (k : Nat) (x : Int) (hx : x = rgot s u r bs (k + 1)) : ints (rres s u r bs k) ++ [.int .i64 x] = ints (rres s u r bs (k + 1)) := by
  subst hx
  simp [rres, List.range_succ, ints]
/-- The bytes that are reckoned with, and the bound. -/
def rneed (s u c : Int) : Int := if 0 < s then s + c * (u - 1) else s
theorem rneed_bd {s u r c : Int} (h : resumeOk s u r) (h0 : 0 ≤ c) (hc : c ≤ 200) : s ≤ rneed s u c ∧ rneed s u c ≤ 201000000 := by
  obtain ⟨h1, h2, h3, h4, h5, h6⟩ := h
  have a : 0 ≤ c * (u - 1) := Int.mul_nonneg h0 (by omega)
  have b : c * (u - 1) ≤ 200 * 1000000 := Int.mul_le_mul hc (by omega) (by omega) (by omega)
  unfold rneed
  split <;> omega
end Go.Proofs.Ytehdphkaknjlnaa
