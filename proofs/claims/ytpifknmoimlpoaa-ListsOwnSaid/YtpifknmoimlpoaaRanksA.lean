/- ranks.Check, up, response, Response. -/
import Derived.Test.YtpifknmoimlpoaaElems
import Derived.Test.YtpifknmoimlpoaaOpen3
import Derived.Test.YtpifknmoimlpoaaCurveP
set_option linter.unusedVariables false
namespace Go.Proofs.Ytpifknmoimlpoaa
open Go.RowKit
def taskOk (zs : List Int) (i : Nat) : Prop := 1 ≤ fd zs i 0 ∧ fd zs i 0 ≤ 60 ∧ 1 ≤ fd zs i 1 ∧ fd zs i 1 ≤ fd zs i 2 ∧ fd zs i 2 ≤ fd zs i 0
instance (zs : List Int) (i : Nat) : Decidable (taskOk zs i) := by unfold taskOk; infer_instance
def ranksOk (zs : List Int) (n : Nat) : Prop := n ≤ 5 ∧ ∀ i, i < n → taskOk zs i
def ranksErr (n : Nat) : Int := if 5 < n then 2 else 1
theorem ranksErr_ne (n : Nat) : (ranksErr n != 0) = true := by unfold ranksErr; split <;> rfl
theorem rcheck_ok (A : Option Addr) (n c : Nat) (zs : List Int) (W : World) (h : ranksOk zs n) (hs : Sl W W.heap.size A (n * 3) (ints zs)) :
    Calls Try.prog 106 #[.slice A n c] W fun e w' => e = .returned (.int .i64 0) ∧ Below W.heap.size W w' := by
  obtain ⟨h1, h2⟩ := h
  have g1 : ¬ (5 < (n : Int)) := by omega
  have H2 := Lib.hid h2
  clear h2
  go_enter Try.func106, Try.ntmps106
  go_wp2_with fail
  go_loopw [10, 4] (fun i _ wr => ∃ k : Nat, k ≤ n ∧ i = .int .i64 k ∧ Below W.heap.size W wr) (fun i _ _ => n - (intOf i).toNat)
  case atStart => exact ⟨0, Nat.zero_le _, rfl, Below.refl _ _⟩
  case round =>
    obtain ⟨k, hk, rfl, hb⟩ := hrel
    have HB := Lib.hid hb
    by_cases hlt : k < n
    · obtain ⟨b, off, rfl, hbl, -⟩ := hs.int_at (k := k * 3) (by omega)
      obtain ⟨c0, c1, c2⟩ := (hs.below hb).three hlt
      obtain ⟨y0, y1, y2, y3, y4⟩ := H2.out k hlt
      have hn1 : (k : Int) < n := by omega
      have hk0 : (0 : Int) ≤ k := by omega
      have hz := hb.size
      clear hs hb
      go_wp2_with fail
      go_roundw
      case rel => exact ⟨k + 1, by omega, by go_num, HB.out.alloc hz _⟩
      case measure => simp [intOf]; omega
    · have hn1 : ¬ (k : Int) < n := by omega
      clear hs hb
      go_wp2_with fail
      go_ret
      exact ⟨rfl, HB.out⟩
theorem rcheck_bad (A : Option Addr) (n c : Nat) (zs : List Int) (W : World) (h : ¬ ranksOk zs n) (hs : Sl W W.heap.size A (n * 3) (ints zs)) (hnn : n ≤ 9223372036854775807) :
    Calls Try.prog 106 #[.slice A n c] W fun e w' => e = .returned (.int .i64 (ranksErr n)) ∧ Below W.heap.size W w' := by
  by_cases h8 : 5 < n
  · have hf : Hid (ranksErr n = 2) := by unfold ranksErr; rw [if_pos h8]; rfl
    have g1 : 5 < (n : Int) := by omega
    clear h hs
    go_enter Try.func106, Try.ntmps106
    go_wp2_with fail
    go_ret
    exact ⟨ret_int hf.out.symm, Below.refl _ _⟩
  · have hf : Hid (ranksErr n = 1) := by unfold ranksErr; rw [if_neg h8]; rfl
    have g1 : ¬ 5 < (n : Int) := by omega
    rcases first_bad3 (taskOk zs) n with hall | ⟨k, k1, k3, k2⟩
    · exact absurd ⟨by omega, hall⟩ h
    · have H3 := Lib.hid k3
      have K2 := Lib.hid k2
      clear h k3 k2
      go_enter Try.func106, Try.ntmps106
      go_wp2_with fail
      go_loopw [10, 4] (fun i _ wr => ∃ j : Nat, j ≤ k ∧ i = .int .i64 j ∧ Below W.heap.size W wr) (fun i _ _ => k - (intOf i).toNat)
      case atStart => exact ⟨0, Nat.zero_le _, rfl, Below.refl _ _⟩
      case round =>
        obtain ⟨j, hj, rfl, hb⟩ := hrel
        have HB := Lib.hid hb
        obtain ⟨b, off, rfl, hbl, -⟩ := hs.int_at (k := j * 3) (by omega)
        obtain ⟨c0, c1, c2⟩ := (hs.below hb).three (k := j) (by omega)
        have hn1 : (j : Int) < n := by omega
        have hk0 : (0 : Int) ≤ j := by omega
        have hz := hb.size
        by_cases hlt : j < k
        · obtain ⟨y0, y1, y2, y3, y4⟩ := H3.out j hlt
          clear hs hb
          go_wp2_with fail
          go_roundw
          case rel => exact ⟨j + 1, by omega, by go_num, HB.out.alloc hz _⟩
          case measure => simp [intOf]; omega
        · have hjk : j = k := by omega
          subst hjk
          have k4 := K2.out
          have hcase : fd zs j 0 < 1 ∨ (1 ≤ fd zs j 0 ∧ 60 < fd zs j 0) ∨ (1 ≤ fd zs j 0 ∧ fd zs j 0 ≤ 60 ∧ fd zs j 1 < 1) ∨ (1 ≤ fd zs j 0 ∧ fd zs j 0 ≤ 60 ∧ 1 ≤ fd zs j 1 ∧ fd zs j 2 < fd zs j 1) ∨ (1 ≤ fd zs j 0 ∧ fd zs j 0 ≤ 60 ∧ 1 ≤ fd zs j 1 ∧ fd zs j 1 ≤ fd zs j 2 ∧ fd zs j 0 < fd zs j 2) := by
            unfold taskOk at k4; omega
          clear hs hb k4
          rcases hcase with h | ⟨h1, h⟩ | ⟨h1, h2, h⟩ | ⟨h1, h2, h3, h⟩ | ⟨h1, h2, h3, h4, h⟩
          all_goals
            go_wp2_with fail
            go_ret
            exact ⟨ret_int hf.out.symm, HB.out.alloc hz _⟩
/-- Rounded up. -/
def upv (r p : Int) : Int := (r + p - 1) / p
/-- What those ahead take by r. -/
def rsum (zs : List Int) (r : Int) : Nat → Int
  | 0 => 0
  | k + 1 => rsum zs r k + upv r (fd zs k 0) * fd zs k 1
theorem rsum_succ (zs : List Int) (r : Int) (k : Nat) : rsum zs r (k + 1) = rsum zs r k + upv r (fd zs k 0) * fd zs k 1 := rfl
theorem upv_mono {r s p : Int} (hp : 1 ≤ p) (h : r ≤ s) : upv r p ≤ upv s p := Int.ediv_le_ediv (by omega) (by omega)
theorem upv_bd {r p : Int} (r0 : 0 ≤ r) (hp : 1 ≤ p) : 0 ≤ upv r p ∧ upv r p ≤ r + p := by
  refine ⟨Int.ediv_nonneg (by omega) (by omega), ?_⟩
  exact Int.le_trans (Int.ediv_le_self _ (by omega)) (by omega)
theorem rsum_mono {zs : List Int} {n : Nat} (h : ∀ i, i < n → taskOk zs i) {r s : Int} (hrs : r ≤ s) (k : Nat) (hk : k ≤ n) : rsum zs r k ≤ rsum zs s k := by
  induction k with
  | zero => exact Int.le_refl _
  | succ k ih =>
    rw [rsum_succ, rsum_succ]
    have a := ih (by omega)
    obtain ⟨t0, _, t1, _⟩ := h k (by omega)
    have b := Int.mul_le_mul_of_nonneg_right (upv_mono t0 hrs) (show 0 ≤ fd zs k 1 by omega)
    omega
theorem rterm_bd {zs : List Int} {i : Nat} (h : taskOk zs i) {r : Int} (r0 : 0 ≤ r) (r1 : r ≤ 60) : 0 ≤ upv r (fd zs i 0) ∧ upv r (fd zs i 0) ≤ 120 ∧ 0 ≤ upv r (fd zs i 0) * fd zs i 1 ∧ upv r (fd zs i 0) * fd zs i 1 ≤ 7200 := by
  obtain ⟨t0, t1, t2, t3, t4⟩ := h
  have u := upv_bd r0 t0
  have a := Int.mul_nonneg u.1 (show 0 ≤ fd zs i 1 by omega)
  have b := Int.mul_le_mul_of_nonneg_right (show upv r (fd zs i 0) ≤ 120 by omega) (show 0 ≤ fd zs i 1 by omega)
  omega
theorem rsum_bd {zs : List Int} {n : Nat} (h : ∀ i, i < n → taskOk zs i) {r : Int} (r0 : 0 ≤ r) (r1 : r ≤ 60) (k : Nat) (hk : k ≤ n) : 0 ≤ rsum zs r k ∧ rsum zs r k ≤ 7200 * k := by
  induction k with
  | zero => exact ⟨Int.le_refl _, by simp [rsum]⟩
  | succ k ih =>
    have a := ih (by omega)
    have b := rterm_bd (h k (by omega)) r0 r1
    rw [rsum_succ]
    omega
theorem rsum_nonneg {zs : List Int} {n : Nat} (h : ∀ i, i < n → taskOk zs i) {r : Int} (r0 : 0 ≤ r) (k : Nat) (hk : k ≤ n) : 0 ≤ rsum zs r k := by
  induction k with
  | zero => exact Int.le_refl _
  | succ k ih =>
    have a := ih (by omega)
    obtain ⟨t0, t1, t2, t3, t4⟩ := h k (by omega)
    have b := Int.mul_nonneg (upv_bd r0 t0).1 (show 0 ≤ fd zs k 1 by omega)
    rw [rsum_succ]
    omega
theorem below_dr3 {W w : World} (h : Below W.heap.size W w) (q : Nat) : Below W.heap.size W (w.drewN q) := ⟨h.os, h.tape, h.output, h.size, h.block⟩
/-- What response answers. -/
def respIs (zs : List Int) (i : Nat) (R : Int) : Prop := fd zs i 1 ≤ R ∧ R ≤ 40000 ∧ (R ≤ fd zs i 2 → fd zs i 1 + rsum zs R i = R) ∧ ∀ x, fd zs i 1 + rsum zs x i ≤ x → 0 ≤ x → R ≤ x
/-- What Response answers. -/
def RespR (zs : List Int) (n : Nat) (i : Int) (v er : Int) : Prop :=
  (v = 0 ∧ er ≠ 0 ∧ (¬ ranksOk zs n ∨ i < 0 ∨ (n : Int) ≤ i ∨ ∃ R, respIs zs i.toNat R ∧ fd zs i.toNat 2 < R)) ∨ (er = 0 ∧ ranksOk zs n ∧ 0 ≤ i ∧ i < n ∧ respIs zs i.toNat v ∧ v ≤ fd zs i.toNat 2)
end Go.Proofs.Ytpifknmoimlpoaa
