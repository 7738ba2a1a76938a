/- Plain laws of a bucket's run: what passes conforms; if all conforms, all passes. -/
import Derived.Test.YtidmncoakockkaaBucketR
set_option linter.unusedVariables false
namespace Go.Proofs.Ytidmncoakockkaa
open Go.RowKit
/-- What passes of the d packets from i on. -/
def pSent (R B F : Int) (zs : List Int) (i : Nat) : Nat → Int
  | 0 => 0
  | d + 1 => if bpass R B F zs (i + d) = true then pSent R B F zs i d + fd zs (i + d) 1 else pSent R B F zs i d
theorem pSent_succ (R B F : Int) (zs : List Int) (i d : Nat) : pSent R B F zs i (d + 1) = if bpass R B F zs (i + d) = true then pSent R B F zs i d + fd zs (i + d) 1 else pSent R B F zs i d := rfl
theorem pSent_bd {R B F : Int} {zs : List Int} {n : Nat} (h : Packs zs n) (i d : Nat) (hd : i + d ≤ n) : 0 ≤ pSent R B F zs i d ∧ pSent R B F zs i d ≤ 1000 * d := by
  induction d with
  | zero => exact ⟨Int.le_refl _, by simp [pSent]⟩
  | succ d ih =>
    have a := ih (by omega)
    have s := h.sz (i + d) (by omega)
    rw [pSent_succ]
    split <;> omega
theorem bfill_pass {R B F : Int} {zs : List Int} {k : Nat} : bfill R B F zs (k + 1) = if bpass R B F zs k = true then btf R B F zs k - fd zs k 1 else btf R B F zs k := by
  rw [bfill_succ]
  unfold bpass
  by_cases h : btf R B F zs k < fd zs k 1
  · rw [if_pos h, if_neg (by simp; omega)]
  · rw [if_neg h, if_pos (by simp; omega)]
theorem tick_le {R B F n : Int} (h : 0 ≤ R) (n0 : 0 ≤ n) : tickF R B F n ≤ F + R * n := by
  unfold tickF
  rw [Int.mul_comm R n]
  split <;> omega
theorem pass_inv {R B F : Int} {zs : List Int} {n : Nat} (h : Packs zs n) (hb : bktOk R B F) (i d : Nat) (hd : i + d < n) : btf R B F zs (i + d) + pSent R B F zs i d ≤ btf R B F zs i + R * (fd zs (i + d) 0 - fd zs i 0) := by
  induction d with
  | zero => simp [pSent]
  | succ d ih =>
    have a := ih (by omega)
    have f := bfill_pass (R := R) (B := B) (F := F) (zs := zs) (k := i + d)
    have e : bprev zs (i + d + 1) = fd zs (i + d) 0 := rfl
    have t := tick_le (B := B) (F := bfill R B F zs (i + d + 1)) hb.1 (bdt h (i + d + 1) (by omega)).1
    have m : R * (fd zs (i + d + 1) 0 - fd zs i 0) = R * (fd zs (i + d + 1) 0 - fd zs (i + d) 0) + R * (fd zs (i + d) 0 - fd zs i 0) := by
      rw [← Int.mul_add]; congr 1; omega
    rw [e] at t
    rw [show i + (d + 1) = i + d + 1 from rfl, pSent_succ, m]
    unfold btf at a ⊢
    rw [e]
    unfold btf at f
    generalize R * (fd zs (i + d + 1) 0 - fd zs (i + d) 0) = M1 at *
    generalize R * (fd zs (i + d) 0 - fd zs i 0) = M2 at *
    split at f <;> rename_i hp
    · rw [if_pos hp]; omega
    · rw [if_neg hp]; omega
theorem pass_fits {R B F : Int} {zs : List Int} {n : Nat} (h : Packs zs n) (hb : bktOk R B F) (i d : Nat) (hd : i + d < n) : pSent R B F zs i (d + 1) ≤ B + R * (fd zs (i + d) 0 - fd zs i 0) := by
  have a := pass_inv h hb i d hd
  have f := bfill_pass (R := R) (B := B) (F := F) (zs := zs) (k := i + d)
  have g := bfill_bd h hb (i + d + 1) (by omega)
  have t := btf_bd h hb i (by omega)
  obtain ⟨-, -, -, -, g5, g6⟩ := g
  obtain ⟨-, -, -, -, t5, t6⟩ := t
  rw [pSent_succ]
  generalize R * (fd zs (i + d) 0 - fd zs i 0) = M at *
  split at f <;> rename_i hp
  · rw [if_pos hp]; omega
  · rw [if_neg hp]; omega
theorem full_inv {R B : Int} {zs : List Int} {n : Nat} (h : Packs zs n) (hb : bktOk R B B) (H : ∀ i k, i ≤ k → k < n → psz zs (k + 1) - psz zs i ≤ B + R * (fd zs k 0 - fd zs i 0)) (k : Nat) (hk : k < n) :
    ∃ i, i ≤ k ∧ btf R B B zs k = B + R * (fd zs k 0 - fd zs i 0) - (psz zs k - psz zs i) := by
  induction k with
  | zero =>
    refine ⟨0, Nat.le_refl _, ?_⟩
    have d := (bdt h 0 hk).1
    have m := Int.mul_nonneg d hb.1
    unfold btf tickF
    rw [show bfill R B B zs 0 = B from rfl, if_neg (by omega)]
    simp
  | succ k ih =>
    obtain ⟨i, hi, e⟩ := ih (by omega)
    have a := H i k hi (by omega)
    have f := bfill_succ R B B zs k
    rw [psz_succ] at a
    have eb : bprev zs (k + 1) = fd zs k 0 := rfl
    have d := (bdt h (k + 1) hk).1
    rw [eb] at d
    rw [if_neg (by omega)] at f
    have m : R * (fd zs (k + 1) 0 - fd zs i 0) = R * (fd zs (k + 1) 0 - fd zs k 0) + R * (fd zs k 0 - fd zs i 0) := by
      rw [← Int.mul_add]; congr 1; omega
    rw [psz_succ]
    have t : btf R B B zs (k + 1) = tickF R B (bfill R B B zs (k + 1)) (fd zs (k + 1) 0 - fd zs k 0) := rfl
    rw [t]
    unfold tickF
    rw [Int.mul_comm _ R]
    split
    · refine ⟨i, by omega, ?_⟩
      rw [m]; omega
    · refine ⟨k + 1, Nat.le_refl _, ?_⟩
      rw [psz_succ]; simp
theorem full_pass {R B : Int} {zs : List Int} {n : Nat} (h : Packs zs n) (hb : bktOk R B B) (H : ∀ i k, i ≤ k → k < n → psz zs (k + 1) - psz zs i ≤ B + R * (fd zs k 0 - fd zs i 0)) (k : Nat) (hk : k < n) : bpass R B B zs k = true := by
  obtain ⟨i, hi, e⟩ := full_inv h hb H k hk
  have a := H i k hi hk
  rw [psz_succ] at a
  unfold bpass
  refine decide_eq_true ?_
  omega
end Go.Proofs.Ytidmncoakockkaa
