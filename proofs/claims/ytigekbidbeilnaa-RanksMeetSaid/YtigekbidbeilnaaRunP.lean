/- Plain laws of ranks.Run: who runs when, and when the jobs are done (Joseph, Pandya; Liu, Layland). -/
import Derived.Test.YtigekbidbeilnaaRanksP
set_option linter.unusedVariables false
namespace Go.Proofs.Ytigekbidbeilnaa
open Go.RowKit
/-- All work of task j that has come ahead of time t. -/
def rarr (zs : List Int) (j t : Nat) : Int := upv t (fd zs j 0) * fd zs j 1
/-- The first for which f is above nought. -/
def rfirst (f : Nat → Int) : Nat → Int
  | 0 => -1
  | n + 1 => if rfirst f n < 0 ∧ 0 < f n then n else rfirst f n
theorem rfirst_succ (f : Nat → Int) (n : Nat) : rfirst f (n + 1) = if rfirst f n < 0 ∧ 0 < f n then (n : Int) else rfirst f n := rfl
theorem rfirst_cases (f : Nat → Int) (n : Nat) : (rfirst f n = -1 ∧ ∀ j, j < n → f j ≤ 0) ∨ ∃ j, j < n ∧ rfirst f n = (j : Int) ∧ 0 < f j ∧ ∀ q, q < j → f q ≤ 0 := by
  induction n with
  | zero => exact .inl ⟨rfl, fun j hj => by omega⟩
  | succ n ih =>
    rw [rfirst_succ]
    rcases ih with ⟨h, ha⟩ | ⟨j, hj, h, h1, h2⟩
    · rw [h]
      by_cases hf : 0 < f n
      · rw [if_pos ⟨by omega, hf⟩]
        exact .inr ⟨n, by omega, rfl, hf, ha⟩
      · rw [if_neg (fun h => hf h.2)]
        refine .inl ⟨rfl, fun j hj => ?_⟩
        rcases Nat.lt_or_ge j n with h' | h'
        · exact ha j h'
        · obtain rfl : j = n := by omega
          omega
    · rw [if_neg (fun h' => by have := h'.1; omega)]
      exact .inr ⟨j, by omega, h, h1, h2⟩
theorem rfirst_congr {f g : Nat → Int} (n : Nat) (h : ∀ i, i < n → f i = g i) : rfirst f n = rfirst g n := by
  induction n with
  | zero => rfl
  | succ n ih => rw [rfirst_succ, rfirst_succ, ih fun i hi => h i (by omega), h n (by omega)]
/-- How long each task has run ahead of t. -/
def rcn (zs : List Int) (n : Nat) : Nat → Nat → Int
  | 0 => fun _ => 0
  | t + 1 => fun j => rcn zs n t j + if rfirst (fun q => rarr zs q (t + 1) - rcn zs n t q) n = (j : Int) then 1 else 0
/-- Who runs at t. -/
def rwho (zs : List Int) (n t : Nat) : Int := rfirst (fun q => rarr zs q (t + 1) - rcn zs n t q) n
theorem rcn_succ (zs : List Int) (n t j : Nat) : rcn zs n (t + 1) j = rcn zs n t j + if rwho zs n t = (j : Int) then 1 else 0 := rfl
theorem rcn_zero (zs : List Int) (n j : Nat) : rcn zs n 0 j = 0 := rfl
theorem upv_step {t : Nat} {p : Int} (hp : 1 ≤ p) : upv ((t + 1 : Nat) : Int) p = upv t p + if (t : Int) % p = 0 then 1 else 0 := by
  unfold upv
  have a := Int.emod_add_mul_ediv (t : Int) p
  have b := Int.emod_lt_of_pos (t : Int) (show 0 < p by omega)
  have c := Int.emod_nonneg (t : Int) (show p ≠ 0 by omega)
  have e1 : (((t + 1 : Nat) : Int) + p - 1) / p = (t : Int) / p + 1 := by
    rw [show ((t + 1 : Nat) : Int) + p - 1 = (t : Int) + 1 * p by push_cast; omega, Int.add_mul_ediv_right _ _ (by omega)]
  rw [e1]
  have e2 : (t : Int) + p - 1 = ((t : Int) % p + p - 1) + p * ((t : Int) / p) := by omega
  rw [e2, Int.add_mul_ediv_left _ _ (by omega)]
  by_cases h : (t : Int) % p = 0
  · rw [if_pos h, h, show (0 : Int) + p - 1 = p - 1 by omega, show (p - 1) / p = 0 from Int.ediv_eq_zero_of_lt (by omega) (by omega)]
    omega
  · rw [if_neg h, show (t : Int) % p + p - 1 = ((t : Int) % p - 1) + 1 * p by omega, Int.add_mul_ediv_right _ _ (by omega), show ((t : Int) % p - 1) / p = 0 from Int.ediv_eq_zero_of_lt (by omega) (by omega)]
    omega
theorem upv_zero {p : Int} (hp : 1 ≤ p) : upv 0 p = 0 := by
  unfold upv
  rw [show (0 : Int) + p - 1 = p - 1 by omega]
  exact Int.ediv_eq_zero_of_lt (by omega) (by omega)
theorem upv_mul {p : Int} (hp : 1 ≤ p) (j : Int) : upv (j * p) p = j := by
  unfold upv
  rw [show j * p + p - 1 = (p - 1) + j * p by omega, Int.add_mul_ediv_right _ _ (by omega), show (p - 1) / p = 0 from Int.ediv_eq_zero_of_lt (by omega) (by omega)]
  omega
theorem upv_sub {s l p : Int} (hp : 1 ≤ p) : upv (s + l) p ≤ upv s p + upv l p := by
  have a := upv_ge (x := s) hp
  have b := upv_ge (x := l) hp
  have : upv (s + l) p < upv s p + upv l p + 1 := by
    unfold upv at *
    refine Int.ediv_lt_of_lt_mul (by omega) ?_
    have e : ((s + p - 1) / p + (l + p - 1) / p + 1) * p = p * ((s + p - 1) / p) + p * ((l + p - 1) / p) + p := by
      rw [Int.add_mul, Int.add_mul, Int.one_mul, Int.mul_comm _ p, Int.mul_comm _ p]
    rw [e]
    omega
  omega
theorem rarr_step {zs : List Int} {j : Nat} (h : taskOk zs j) (t : Nat) : rarr zs j (t + 1) = rarr zs j t + if (t : Int) % fd zs j 0 = 0 then fd zs j 1 else 0 := by
  unfold rarr
  rw [upv_step h.1, Int.add_mul]
  split <;> simp
theorem rarr_mono1 {zs : List Int} {j : Nat} (h : taskOk zs j) (t : Nat) : rarr zs j t ≤ rarr zs j (t + 1) := by
  rw [rarr_step h]
  have := h.2.2.1
  split <;> omega
theorem rarr_mono {zs : List Int} {j : Nat} (h : taskOk zs j) {s t : Nat} (hst : s ≤ t) : rarr zs j s ≤ rarr zs j t := by
  obtain ⟨k, rfl⟩ : ∃ k, t = s + k := ⟨t - s, by omega⟩
  induction k with
  | zero => exact Int.le_refl _
  | succ k ih => exact Int.le_trans (ih (by omega)) (rarr_mono1 h (s + k))
theorem rarr_sub {zs : List Int} {j : Nat} (h : taskOk zs j) (s l : Nat) : rarr zs j (s + l) ≤ rarr zs j s + upv l (fd zs j 0) * fd zs j 1 := by
  unfold rarr
  have a := upv_sub (s := s) (l := l) h.1
  have b := Int.mul_le_mul_of_nonneg_right a (show 0 ≤ fd zs j 1 by have := h.2.2.1; omega)
  rw [Int.add_mul] at b
  push_cast
  exact b
theorem rcn_mono1 (zs : List Int) (n t j : Nat) : rcn zs n t j ≤ rcn zs n (t + 1) j := by
  rw [rcn_succ]; split <;> omega
theorem rcn_mono {zs : List Int} {n j s t : Nat} (hst : s ≤ t) : rcn zs n s j ≤ rcn zs n t j := by
  obtain ⟨k, rfl⟩ : ∃ k, t = s + k := ⟨t - s, by omega⟩
  induction k with
  | zero => exact Int.le_refl _
  | succ k ih => exact Int.le_trans (ih (by omega)) (rcn_mono1 zs n (s + k) j)
theorem rwho_cases (zs : List Int) (n t : Nat) : (rwho zs n t = -1 ∧ ∀ j, j < n → rarr zs j (t + 1) - rcn zs n t j ≤ 0) ∨ ∃ j, j < n ∧ rwho zs n t = (j : Int) ∧ 0 < rarr zs j (t + 1) - rcn zs n t j ∧ ∀ q, q < j → rarr zs q (t + 1) - rcn zs n t q ≤ 0 := rfirst_cases _ n
theorem rcn_bd {zs : List Int} {n : Nat} (h : ∀ i, i < n → taskOk zs i) (t j : Nat) (hj : j < n) : 0 ≤ rcn zs n t j ∧ rcn zs n t j ≤ rarr zs j t := by
  induction t with
  | zero =>
    rw [rcn_zero]
    unfold rarr
    rw [show ((0 : Nat) : Int) = 0 from rfl, upv_zero (h j hj).1]
    simp
  | succ t ih =>
    have a := rarr_mono1 (h j hj) t
    rw [rcn_succ]
    rcases rwho_cases zs n t with ⟨e, _⟩ | ⟨q, hq, e, e1, _⟩
    · rw [e, if_neg (by omega)]; omega
    · by_cases hqj : q = j
      · subst hqj; rw [if_pos e]; omega
      · rw [if_neg (by rw [e]; omega)]; omega
/-- Somebody with a number of at most j runs, if j has something left. -/
theorem who_le {zs : List Int} {n t j : Nat} (hj : j < n) (h : 0 < rarr zs j (t + 1) - rcn zs n t j) : 0 ≤ rwho zs n t ∧ rwho zs n t ≤ j := by
  rcases rwho_cases zs n t with ⟨e, ha⟩ | ⟨q, hq, e, e1, e2⟩
  · have := ha j hj; omega
  · rw [e]
    refine ⟨by omega, ?_⟩
    rcases Nat.lt_or_ge j q with h' | h'
    · have := e2 j h'; omega
    · omega
/-- What the first k have run. -/
def rtot (zs : List Int) (n t : Nat) : Nat → Int
  | 0 => 0
  | k + 1 => rtot zs n t k + rcn zs n t k
theorem rtot_succ (zs : List Int) (n t k : Nat) : rtot zs n t (k + 1) = rtot zs n t k + rcn zs n t k := rfl
theorem rtot_step (zs : List Int) (n t k : Nat) : rtot zs n (t + 1) k = rtot zs n t k + if 0 ≤ rwho zs n t ∧ rwho zs n t < k then 1 else 0 := by
  induction k with
  | zero => simp [rtot]
  | succ k ih =>
    rw [rtot_succ, rtot_succ, ih, rcn_succ]
    push_cast
    split <;> split <;> split <;> omega
theorem rtot_run {zs : List Int} {n s k : Nat} (l : Nat) (h : ∀ t, s ≤ t → t < s + l → 0 ≤ rwho zs n t ∧ rwho zs n t < k) : rtot zs n (s + l) k = rtot zs n s k + l := by
  induction l with
  | zero => simp
  | succ l ih =>
    rw [show s + (l + 1) = s + l + 1 from rfl, rtot_step, ih fun t h1 h2 => h t h1 (by omega), if_pos (h (s + l) (by omega) (by omega))]
    push_cast
    omega
theorem rtot_zero (zs : List Int) (n k : Nat) : rtot zs n 0 k = 0 := by
  induction k with
  | zero => rfl
  | succ k ih => rw [rtot_succ, ih, rcn_zero]; rfl
theorem rtot_bd {zs : List Int} {n : Nat} (h : ∀ i, i < n → taskOk zs i) (s l k : Nat) (hk : k ≤ n) (hs : ∀ q, q < k → rcn zs n s q = rarr zs q s) : rtot zs n (s + l) k ≤ rtot zs n s k + rsum zs l k := by
  induction k with
  | zero => simp [rtot, rsum]
  | succ k ih =>
    have a := ih (by omega) fun q hq => hs q (by omega)
    have b := (rcn_bd h (s + l) k (by omega)).2
    have c := rarr_sub (h k (by omega)) s l
    have d := hs k (by omega)
    rw [rtot_succ, rtot_succ, rsum_succ]
    omega
/-- The last time, of those up to a, when nothing of the first i is left. -/
theorem last_idle (zs : List Int) (n i : Nat) (h0 : ∀ q, q < i → rcn zs n 0 q = rarr zs q 0) (hle : ∀ t q, q < i → rcn zs n t q ≤ rarr zs q t) (a : Nat) : ∃ s, s ≤ a ∧ (∀ q, q < i → rcn zs n s q = rarr zs q s) ∧ ∀ t, s < t → t ≤ a → ∃ q, q < i ∧ rcn zs n t q < rarr zs q t := by
  induction a with
  | zero => exact ⟨0, Nat.le_refl _, h0, fun t h1 h2 => by omega⟩
  | succ a ih =>
    rcases Classical.em (∀ q, q < i → rcn zs n (a + 1) q = rarr zs q (a + 1)) with h | h
    · exact ⟨a + 1, Nat.le_refl _, h, fun t h1 h2 => by omega⟩
    · obtain ⟨s, s1, s2, s3⟩ := ih
      refine ⟨s, by omega, s2, fun t h1 h2 => ?_⟩
      rcases Nat.lt_or_ge t (a + 1) with h' | h'
      · exact s3 t h1 (by omega)
      · obtain rfl : t = a + 1 := by omega
        rcases Classical.em (∃ q, q < i ∧ rcn zs n (a + 1) q < rarr zs q (a + 1)) with h4 | h4
        · exact h4
        · refine absurd (fun q hq => ?_) h
          have := hle (a + 1) q hq
          rcases Int.lt_or_le (rcn zs n (a + 1) q) (rarr zs q (a + 1)) with h5 | h5
          · exact absurd ⟨q, hq, h5⟩ h4
          · omega
theorem rcn_still {zs : List Int} {n i s : Nat} (l : Nat) (h : ∀ t, s ≤ t → t < s + l → rwho zs n t ≠ (i : Int)) : rcn zs n (s + l) i = rcn zs n s i := by
  induction l with
  | zero => rfl
  | succ l ih =>
    rw [show s + (l + 1) = s + l + 1 from rfl, rcn_succ, if_neg (h (s + l) (by omega) (by omega)), ih fun t h1 h2 => h t h1 (by omega)]
    omega
/-- The job that comes at a, all earlier ones of its task done, is done R behind a. -/
theorem job_done {zs : List Int} {n i : Nat} (h : ranksOk zs n) (hi : i < n) (R a : Nat) (N : Int) (hR : fd zs i 1 + rsum zs R i ≤ R) (ha : rcn zs n a i = N) (hN : ∀ t, a ≤ t → N + fd zs i 1 ≤ rarr zs i (t + 1)) : N + fd zs i 1 ≤ rcn zs n (a + R) i := by
  rcases Int.lt_or_le (rcn zs n (a + R) i) (N + fd zs i 1) with hc | hc
  · exfalso
    obtain ⟨s, s1, s2, s3⟩ := last_idle zs n i (fun q hq => by have := rcn_bd h.2 0 q (by omega); rw [rcn_zero] at this ⊢; unfold rarr; rw [show ((0 : Nat) : Int) = 0 from rfl, upv_zero (h.2 q (by omega)).1]; simp) (fun t q hq => (rcn_bd h.2 t q (by omega)).2) a
    have low : ∀ t, s ≤ t → t < a → 0 ≤ rwho zs n t ∧ rwho zs n t < i := fun t h1 h2 => by
      obtain ⟨q, hq, hl⟩ := s3 (t + 1) (by omega) (by omega)
      have m := rcn_mono1 zs n t q
      have w := who_le (zs := zs) (n := n) (t := t) (j := q) (by omega) (by omega)
      omega
    have still : rcn zs n a i = rcn zs n s i := by
      obtain ⟨l, rfl⟩ : ∃ l, a = s + l := ⟨a - s, by omega⟩
      exact rcn_still l fun t h1 h2 => by have := low t h1 h2; omega
    have run := rtot_run (zs := zs) (n := n) (s := s) (k := i + 1) R fun t h1 h2 => by
      rcases Nat.lt_or_ge t a with h' | h'
      · have := low t h1 h'; push_cast; omega
      · have m : rcn zs n t i ≤ rcn zs n (a + R) i := rcn_mono (by omega)
        have w := who_le (zs := zs) (n := n) (t := t) (j := i) hi (by have := hN t h'; omega)
        push_cast; omega
    have bd := rtot_bd h.2 s R i (by omega) s2
    rw [rtot_succ, rtot_succ] at run
    have m : rcn zs n (s + R) i ≤ rcn zs n (a + R) i := rcn_mono (by omega)
    omega
  · exact hc
/-- LIU, LAYLAND: job j of task i is done R behind its coming. -/
theorem jobs_done {zs : List Int} {n i : Nat} (h : ranksOk zs n) (hi : i < n) (R P : Nat) (hP : fd zs i 0 = P) (hR : fd zs i 1 + rsum zs R i ≤ R) (hRP : R ≤ P) (j : Nat) : ((j + 1 : Nat) : Int) * fd zs i 1 ≤ rcn zs n (j * P + R) i := by
  have p1 := (h.2 i hi).1
  have arrE : ∀ j : Nat, rarr zs i (j * P) = (j : Int) * fd zs i 1 := fun j => by
    unfold rarr
    rw [hP]
    push_cast
    rw [upv_mul (by omega)]
  have step : ∀ j : Nat, rcn zs n (j * P) i = (j : Int) * fd zs i 1 → ((j + 1 : Nat) : Int) * fd zs i 1 ≤ rcn zs n (j * P + R) i := fun j e => by
    have := job_done h hi R (j * P) _ hR e fun t ht => by
      refine Int.le_trans ?_ (rarr_mono (h.2 i hi) (show j * P + 1 ≤ t + 1 by omega))
      rw [rarr_step (h.2 i hi), arrE, hP, if_pos]
      · exact Int.le_refl _
      · push_cast; exact Int.mul_emod_left _ _
    have e2 : ((j + 1 : Nat) : Int) * fd zs i 1 = (j : Int) * fd zs i 1 + fd zs i 1 := by push_cast; rw [Int.add_mul, Int.one_mul]
    omega
  induction j with
  | zero => exact step 0 (by simp [rcn_zero])
  | succ j ih =>
    refine step (j + 1) ?_
    have a := (rcn_bd h.2 ((j + 1) * P) i hi).2
    rw [arrE] at a
    have m : rcn zs n (j * P + R) i ≤ rcn zs n ((j + 1) * P) i := rcn_mono (by rw [Nat.succ_mul]; omega)
    omega
/-- JOSEPH, PANDYA: when the first job is done, is a fixed point. -/
theorem first_fix {zs : List Int} {n i : Nat} (h : ranksOk zs n) (hi : i < n) (f : Nat) (h1 : rcn zs n f i < fd zs i 1) (h2 : rcn zs n (f + 1) i = fd zs i 1) : fd zs i 1 + rsum zs ((f + 1 : Nat) : Int) i = ((f + 1 : Nat) : Int) := by
  have wh : rwho zs n f = (i : Int) := by
    rcases Classical.em (rwho zs n f = (i : Int)) with e | e
    · exact e
    · rw [rcn_succ, if_neg e] at h2; omega
  have run := rtot_run (zs := zs) (n := n) (s := 0) (k := i + 1) (f + 1) fun t _ ht => by
    have m : rcn zs n t i ≤ rcn zs n f i := rcn_mono (by omega)
    have a1 : fd zs i 1 ≤ rarr zs i (t + 1) := by
      refine Int.le_trans ?_ (rarr_mono (h.2 i hi) (show 0 + 1 ≤ t + 1 by omega))
      have a0 : rarr zs i 0 = 0 := by unfold rarr; rw [show ((0 : Nat) : Int) = 0 from rfl, upv_zero (h.2 i hi).1]; simp
      rw [rarr_step (h.2 i hi), a0, if_pos (by simp)]
      omega
    have w := who_le (zs := zs) (n := n) (t := t) (j := i) hi (by omega)
    push_cast; omega
  rw [Nat.zero_add, rtot_zero, rtot_succ, h2] at run
  have hq : ∀ q, q < i → rcn zs n (f + 1) q = rarr zs q (f + 1) := fun q hq => by
    rcases rwho_cases zs n f with ⟨e, _⟩ | ⟨j, hj, e, e1, e2⟩
    · omega
    · obtain rfl : j = i := by omega
      have a := e2 q hq
      have b := (rcn_bd h.2 f q (by omega)).2
      have c := rarr_mono1 (h.2 q (by omega)) f
      have d := (rcn_bd h.2 (f + 1) q (by omega)).2
      rw [rcn_succ, if_neg (by omega)] at d ⊢
      omega
  have sum : ∀ k, k ≤ i → rtot zs n (f + 1) k = rsum zs ((f + 1 : Nat) : Int) k := fun k hk => by
    induction k with
    | zero => rfl
    | succ k ih =>
      rw [rtot_succ, rsum_succ, ih (by omega), hq k (by omega)]
      rfl
  rw [sum i (Nat.le_refl _)] at run
  omega
end Go.Proofs.Ytigekbidbeilnaa
