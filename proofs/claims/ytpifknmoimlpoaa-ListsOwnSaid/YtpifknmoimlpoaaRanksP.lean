/- Plain laws of ranks: what fits, what is asked. -/
import Derived.Test.YtpifknmoimlpoaaRanksA
set_option linter.unusedVariables false
namespace Go.Proofs.Ytpifknmoimlpoaa
open Go.RowKit
/-- Task i responds in time. -/
def okT (zs : List Int) (i : Nat) : Prop := ∃ x, 0 ≤ x ∧ x ≤ fd zs i 2 ∧ fd zs i 1 + rsum zs x i ≤ x
def fitsR (zs : List Int) (n : Nat) : Prop := ∀ i, i < n → okT zs i
theorem resp_okT {zs : List Int} {n i : Nat} {R : Int} (h : ranksOk zs n) (hi : i < n) (hR : respIs zs i R) : R ≤ fd zs i 2 ↔ okT zs i := by
  obtain ⟨t0, t1, t2, t3, t4⟩ := h.2 i hi
  obtain ⟨r1, r2, r3, r4⟩ := hR
  constructor
  · intro h
    exact ⟨R, by omega, h, Int.le_of_eq (r3 h)⟩
  · rintro ⟨x, x0, x1, x2⟩
    have := r4 x x2 x0
    omega
theorem rsum_le {zs ys : List Int} {x : Int} (x0 : 0 ≤ x) (k : Nat) (h : ∀ j, j < k → fd ys j 0 = fd zs j 0 ∧ fd ys j 1 ≤ fd zs j 1 ∧ 1 ≤ fd zs j 0) : rsum ys x k ≤ rsum zs x k := by
  induction k with
  | zero => exact Int.le_refl _
  | succ k ih =>
    have a := ih fun j hj => h j (by omega)
    obtain ⟨e, l, p⟩ := h k (by omega)
    have u := upv_bd x0 p
    have b := Int.mul_le_mul_of_nonneg_left l u.1
    rw [rsum_succ, rsum_succ, e]
    omega
theorem rsum_congr {zs ys : List Int} {x : Int} (k : Nat) (h : ∀ j, j < k → fd ys j 0 = fd zs j 0 ∧ fd ys j 1 = fd zs j 1) : rsum ys x k = rsum zs x k := by
  induction k with
  | zero => rfl
  | succ k ih =>
    obtain ⟨e, l⟩ := h k (by omega)
    rw [rsum_succ, rsum_succ, e, l, ih fun j hj => h j (by omega)]
theorem fits_less {zs ys : List Int} {n : Nat} (hz : ranksOk zs n) (hf : fitsR zs n) (h : ∀ j, j < n → fd ys j 0 = fd zs j 0 ∧ 1 ≤ fd ys j 1 ∧ fd ys j 1 ≤ fd zs j 1 ∧ fd ys j 2 = fd zs j 2) : ranksOk ys n ∧ fitsR ys n := by
  refine ⟨⟨hz.1, fun j hj => ?_⟩, fun i hi => ?_⟩
  · obtain ⟨e0, e1, e2, e3⟩ := h j hj
    obtain ⟨t0, t1, t2, t3, t4⟩ := hz.2 j hj
    exact ⟨by omega, by omega, by omega, by omega, by omega⟩
  · obtain ⟨x, x0, x1, x2⟩ := hf i hi
    obtain ⟨e0, e1, e2, e3⟩ := h i hi
    have := rsum_le x0 i (ys := ys) (zs := zs) fun j hj => ⟨(h j (by omega)).1, (h j (by omega)).2.2.1, (hz.2 j (by omega)).1⟩
    exact ⟨x, x0, by omega, by omega⟩
theorem fits_congr {zs ys : List Int} {n m : Nat} (hm : m ≤ n) (hz : ranksOk zs n) (hf : fitsR zs n) (h : ∀ j, j < m → ∀ q, q < 3 → fd ys j q = fd zs j q) : ranksOk ys m ∧ fitsR ys m :=
  fits_less ⟨by have := hz.1; omega, fun i hi => hz.2 i (by omega)⟩ (fun i hi => hf i (by omega)) fun j hj => by
    obtain ⟨t0, t1, t2, t3, t4⟩ := hz.2 j (by omega)
    have e1 := h j hj 1 (by omega)
    exact ⟨h j hj 0 (by omega), by omega, by omega, h j hj 2 (by omega)⟩
/-- All the periods' product, ahead of k. -/
def prodP (zs : List Int) : Nat → Int
  | 0 => 1
  | k + 1 => prodP zs k * fd zs k 0
theorem prodP_succ (zs : List Int) (k : Nat) : prodP zs (k + 1) = prodP zs k * fd zs k 0 := rfl
theorem prodP_bd {zs : List Int} {n : Nat} (h : ranksOk zs n) (k : Nat) (hk : k ≤ n) : 1 ≤ prodP zs k ∧ prodP zs k ≤ ((60 ^ k : Nat) : Int) := by
  induction k with
  | zero => exact ⟨Int.le_refl _, by simp [prodP]⟩
  | succ k ih =>
    obtain ⟨a, b⟩ := ih (by omega)
    obtain ⟨t0, t1, t2, t3, t4⟩ := h.2 k (by omega)
    rw [prodP_succ]
    constructor
    · have := Int.mul_le_mul a t0 (by omega) (by omega); omega
    · have c := Int.mul_le_mul b t1 (by omega) (by omega)
      rw [Nat.pow_succ]
      push_cast at *
      exact c
theorem prodP_bd5 {zs : List Int} {n : Nat} (h : ranksOk zs n) (k : Nat) (hk : k ≤ n) : 1 ≤ prodP zs k ∧ prodP zs k ≤ 777600000 := by
  have a := prodP_bd h k hk
  have n5 := h.1
  have b : 60 ^ k ≤ 60 ^ 5 := Nat.pow_le_pow_right (by omega) (by omega)
  have c : (60 : Nat) ^ 5 = 777600000 := by decide
  omega
/-- What the first k tasks ask in 'all' times. -/
def asked (zs : List Int) (all : Int) : Nat → Int
  | 0 => 0
  | k + 1 => asked zs all k + all / fd zs k 0 * fd zs k 1
theorem asked_succ (zs : List Int) (all : Int) (k : Nat) : asked zs all (k + 1) = asked zs all k + all / fd zs k 0 * fd zs k 1 := rfl
theorem ask_bd {zs : List Int} {n : Nat} (h : ranksOk zs n) {all : Int} (ha : 0 ≤ all) (k : Nat) (hk : k < n) : 0 ≤ all / fd zs k 0 ∧ all / fd zs k 0 ≤ all ∧ 0 ≤ all / fd zs k 0 * fd zs k 1 ∧ all / fd zs k 0 * fd zs k 1 ≤ all := by
  obtain ⟨t0, t1, t2, t3, t4⟩ := h.2 k hk
  have q0 : 0 ≤ all / fd zs k 0 := Int.ediv_nonneg ha (by omega)
  have a := Int.ediv_mul_le all (show fd zs k 0 ≠ 0 by omega)
  have b := Int.mul_le_mul_of_nonneg_left (show fd zs k 1 ≤ fd zs k 0 by omega) q0
  exact ⟨q0, Int.ediv_le_self _ ha, Int.mul_nonneg q0 (by omega), by omega⟩
theorem asked_bd {zs : List Int} {n : Nat} (h : ranksOk zs n) {all : Int} (ha : 0 ≤ all) (k : Nat) (hk : k ≤ n) : 0 ≤ asked zs all k ∧ asked zs all k ≤ all * k := by
  induction k with
  | zero => exact ⟨Int.le_refl _, by simp [asked]⟩
  | succ k ih =>
    have a := ih (by omega)
    have b := ask_bd h ha k (by omega)
    have e : all * ((k + 1 : Nat) : Int) = all * k + all := by push_cast; rw [Int.mul_add, Int.mul_one]
    rw [asked_succ, e]
    generalize all * (k : Int) = M at *
    omega
theorem upv_ge {x p : Int} (hp : 1 ≤ p) : x ≤ p * upv x p := by
  unfold upv
  have a := Int.emod_add_mul_ediv (x + p - 1) p
  have b := Int.emod_lt_of_pos (x + p - 1) (show 0 < p by omega)
  omega
theorem ask_scale {zs : List Int} {n : Nat} (h : ranksOk zs n) {all x : Int} (ha : 0 ≤ all) (x0 : 0 ≤ x) (k : Nat) (hk : k ≤ n) : asked zs all k * x ≤ all * rsum zs x k := by
  induction k with
  | zero => simp [asked, rsum]
  | succ k ih =>
    have a := ih (by omega)
    obtain ⟨t0, t1, t2, t3, t4⟩ := h.2 k (by omega)
    have q0 : 0 ≤ all / fd zs k 0 := Int.ediv_nonneg ha (by omega)
    have u := upv_bd x0 t0
    have s1 := Int.mul_le_mul_of_nonneg_left (upv_ge (x := x) t0) q0
    have s2 := Int.mul_le_mul_of_nonneg_right (Int.ediv_mul_le all (show fd zs k 0 ≠ 0 by omega)) u.1
    have s3 : all / fd zs k 0 * x ≤ all * upv x (fd zs k 0) := by
      rw [← Int.mul_assoc] at s1
      exact Int.le_trans s1 s2
    have s4 := Int.mul_le_mul_of_nonneg_right s3 (show 0 ≤ fd zs k 1 by omega)
    rw [asked_succ, rsum_succ, Int.add_mul, Int.mul_add]
    have e1 : all / fd zs k 0 * fd zs k 1 * x = all / fd zs k 0 * x * fd zs k 1 := by rw [Int.mul_right_comm]
    have e2 : all * (upv x (fd zs k 0) * fd zs k 1) = all * upv x (fd zs k 0) * fd zs k 1 := by rw [Int.mul_assoc]
    rw [e1, e2]
    exact Int.add_le_add a s4
theorem asked_le {zs : List Int} {n : Nat} (h : ranksOk zs n) (hf : fitsR zs n) {all : Int} (ha : 0 ≤ all) (hn : 0 < n) : asked zs all n ≤ all := by
  obtain ⟨k, rfl⟩ : ∃ k, n = k + 1 := ⟨n - 1, by omega⟩
  obtain ⟨x, x0, x1, x2⟩ := hf k (by omega)
  obtain ⟨t0, t1, t2, t3, t4⟩ := h.2 k (by omega)
  have rn := rsum_nonneg h.2 x0 k (by omega)
  have xp : 0 < x := by omega
  have a := ask_scale h ha x0 k (by omega)
  have q0 : 0 ≤ all / fd zs k 0 := Int.ediv_nonneg ha (by omega)
  have s1 := Int.mul_le_mul_of_nonneg_left (show x ≤ fd zs k 0 by omega) q0
  have s2 := Int.ediv_mul_le all (show fd zs k 0 ≠ 0 by omega)
  have s4 := Int.mul_le_mul_of_nonneg_right (Int.le_trans s1 s2) (show 0 ≤ fd zs k 1 by omega)
  have e1 : all / fd zs k 0 * fd zs k 1 * x = all / fd zs k 0 * x * fd zs k 1 := by rw [Int.mul_right_comm]
  have tot : asked zs all (k + 1) * x ≤ all * x := by
    have b := Int.mul_le_mul_of_nonneg_left x2 ha
    rw [Int.mul_add] at b
    rw [asked_succ, Int.add_mul, e1]
    generalize all / fd zs k 0 * x * fd zs k 1 = M at *
    generalize asked zs all k * x = N at *
    omega
  exact Int.le_of_mul_le_mul_right tot xp
end Go.Proofs.Ytpifknmoimlpoaa
