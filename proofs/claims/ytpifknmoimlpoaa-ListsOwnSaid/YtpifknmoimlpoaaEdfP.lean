/- Plain laws of the demand of jobs. -/
import Derived.Test.YtpifknmoimlpoaaEdfA
set_option linter.unusedVariables false
namespace Go.Proofs.Ytpifknmoimlpoaa
open Go.RowKit
/-- Job k lies within [x, y]. -/
def insideJ (zs : List Int) (x y : Int) (k : Nat) : Prop := x ≤ fd zs k 0 ∧ fd zs k 2 ≤ y
instance (zs : List Int) (x y : Int) (k : Nat) : Decidable (insideJ zs x y k) := by unfold insideJ; infer_instance
def sumN (f : Nat → Int) : Nat → Int
  | 0 => 0
  | n + 1 => sumN f n + f n
theorem sumN_succ (f : Nat → Int) (n : Nat) : sumN f (n + 1) = sumN f n + f n := rfl
theorem sumN_congr {f g : Nat → Int} {n : Nat} (h : ∀ i, i < n → f i = g i) : sumN f n = sumN g n := by
  induction n with
  | zero => rfl
  | succ n ih => rw [sumN_succ, sumN_succ, ih fun i hi => h i (by omega), h n (by omega)]
theorem sumN_le {f g : Nat → Int} {n : Nat} (h : ∀ i, i < n → f i ≤ g i) : sumN f n ≤ sumN g n := by
  induction n with
  | zero => exact Int.le_refl _
  | succ n ih =>
    have a := ih fun i hi => h i (by omega)
    have b := h n (by omega)
    rw [sumN_succ, sumN_succ]
    omega
theorem sumN_upd {f : Nat → Int} {n i : Nat} (v : Int) (hi : i < n) : sumN (fun j => if j = i then v else f j) n = sumN f n - f i + v := by
  induction n with
  | zero => omega
  | succ n ih =>
    rw [sumN_succ, sumN_succ]
    rcases Nat.lt_or_ge i n with h | h
    · rw [ih h, if_neg (by omega)]; omega
    · obtain rfl : i = n := by omega
      rw [if_pos rfl, sumN_congr (g := f) fun j hj => if_neg (by omega)]; omega
theorem sumN_swap {f : Nat → Int} {n i k : Nat} (hi : i < n) (hk : k < n) : sumN (fun j => if j = k then f i else if j = i then f k else f j) n = sumN f n := by
  rw [sumN_upd (f := fun j => if j = i then f k else f j) (f i) hk, sumN_upd (f k) hi]
  by_cases h : k = i
  · subst h; rw [if_pos rfl]; omega
  · rw [if_neg h]; omega
def demW (zs : List Int) (x y : Int) (k : Nat) : Int := if insideJ zs x y k then fd zs k 1 else 0
theorem demW_eq {ys zs : List Int} {x y x' y' : Int} {a b : Nat} (h : insideJ ys x y a ↔ insideJ zs x' y' b) (e : fd ys a 1 = fd zs b 1) : demW ys x y a = demW zs x' y' b := by
  unfold demW
  by_cases hh : insideJ zs x' y' b
  · rw [if_pos hh, if_pos (h.2 hh), e]
  · rw [if_neg hh, if_neg fun h' => hh (h.1 h')]
theorem dem_sum (zs : List Int) (x y : Int) (n : Nat) : dem zs x y n = sumN (demW zs x y) n := by
  induction n with
  | zero => rfl
  | succ n ih =>
    rw [dem_succ, sumN_succ, ← ih]
    unfold demW insideJ
    split <;> omega
theorem dem_le {zs ys : List Int} {x y x' y' : Int} {n : Nat} (h : ∀ k, k < n → demW zs x y k ≤ demW ys x' y' k) : dem zs x y n ≤ dem ys x' y' n := by
  rw [dem_sum, dem_sum]
  exact sumN_le h
/-- The index of the least value among those for which p holds. -/
theorem arg_min (p : Nat → Prop) [DecidablePred p] (u : Nat → Int) (n : Nat) : (∀ k, k < n → ¬ p k) ∨ ∃ a, a < n ∧ p a ∧ ∀ k, k < n → p k → u a ≤ u k := by
  induction n with
  | zero => exact .inl fun k hk => by omega
  | succ n ih =>
    by_cases hp : p n
    · right
      rcases ih with h | ⟨a, h1, h2, h3⟩
      · refine ⟨n, by omega, hp, fun k hk hpk => ?_⟩
        rcases Nat.lt_or_ge k n with h' | h'
        · exact absurd hpk (h k h')
        · obtain rfl : k = n := by omega
          exact Int.le_refl _
      · by_cases hu : u a ≤ u n
        · refine ⟨a, by omega, h2, fun k hk hpk => ?_⟩
          rcases Nat.lt_or_ge k n with h' | h'
          · exact h3 k h' hpk
          · obtain rfl : k = n := by omega
            exact hu
        · refine ⟨n, by omega, hp, fun k hk hpk => ?_⟩
          rcases Nat.lt_or_ge k n with h' | h'
          · have := h3 k h' hpk; omega
          · obtain rfl : k = n := by omega
            exact Int.le_refl _
    · rcases ih with h | ⟨a, h1, h2, h3⟩
      · left
        intro k hk
        rcases Nat.lt_or_ge k n with h' | h'
        · exact h k h'
        · obtain rfl : k = n := by omega
          exact hp
      · right
        refine ⟨a, by omega, h2, fun k hk hpk => ?_⟩
        rcases Nat.lt_or_ge k n with h' | h'
        · exact h3 k h' hpk
        · obtain rfl : k = n := by omega
          exact absurd hpk hp
/-- What fits, fits in every interval. -/
theorem fits_all {zs : List Int} {n : Nat} (h : edfOk zs n) (hf : fitsE zs n) (x y : Int) (hxy : x ≤ y) : dem zs x y n ≤ y - x := by
  rcases arg_min (insideJ zs x y) (fun k => fd zs k 0) n with h0 | ⟨a, a1, a2, a3⟩
  · have : dem zs x y n ≤ sumN (fun _ => 0) n := by
      rw [dem_sum]
      refine sumN_le fun i hi => ?_
      unfold demW
      rw [if_neg (h0 i hi)]
      omega
    have z : ∀ m, sumN (fun _ => (0 : Int)) m = 0 := fun m => by
      induction m with
      | zero => rfl
      | succ m ih => rw [sumN_succ, ih]; rfl
    rw [z] at this
    omega
  · rcases arg_min (insideJ zs x y) (fun k => - fd zs k 2) n with h0 | ⟨b, b1, b2, b3⟩
    · exact absurd a2 (h0 a a1)
    · have j := h.2 a a1
      have jb := h.2 b b1
      have db := b3 a a1 a2
      have le : fd zs a 0 < fd zs b 2 := by have := j.2.1; omega
      have p := hf a a1 b b1 le
      have q : dem zs x y n ≤ dem zs (fd zs a 0) (fd zs b 2) n := dem_le fun k hk => by
        unfold demW
        by_cases hin : insideJ zs x y k
        · rw [if_pos hin, if_pos]
          · exact Int.le_refl _
          · have e1 := a3 k hk hin
            have e2 := b3 k hk hin
            exact ⟨e1, by omega⟩
        · rw [if_neg hin]
          split
          · have := (h.2 k hk).2.2.2.1; omega
          · omega
      have := a2.1
      have := b2.2
      omega
theorem fits_of {zs : List Int} {n : Nat} (h : ∀ x y, x ≤ y → dem zs x y n ≤ y - x) : fitsE zs n := fun a ha b hb hab => h _ _ (by omega)
/-- Two jobs change places. -/
def swapT (zs : List Int) (n i k : Nat) : List Int := flat3 n (fun a b => if a = k then fd zs i b else if a = i then fd zs k b else fd zs a b)
theorem swapT_fd {zs : List Int} {n i k a b : Nat} (ha : a < n) (hb : b < 3) : fd (swapT zs n i k) a b = if a = k then fd zs i b else if a = i then fd zs k b else fd zs a b := fd_flat3 ha hb
theorem swapT_len (zs : List Int) (n i k : Nat) : (swapT zs n i k).length = n * 3 := flat3_len _ _
theorem swap_ok {zs : List Int} {n i k : Nat} (h : edfOk zs n) (hi : i < n) (hk : k < n) : edfOk (swapT zs n i k) n := by
  refine ⟨h.1, fun a ha => ?_⟩
  unfold jobOk
  rw [swapT_fd ha (by omega), swapT_fd ha (by omega), swapT_fd ha (by omega)]
  by_cases h1 : a = k
  · simp only [if_pos h1]; exact h.2 i hi
  · simp only [if_neg h1]
    by_cases h2 : a = i
    · simp only [if_pos h2]; exact h.2 k hk
    · simp only [if_neg h2]; exact h.2 a ha
theorem swap_dem {zs : List Int} {n i k : Nat} (hi : i < n) (hk : k < n) (x y : Int) : dem (swapT zs n i k) x y n = dem zs x y n := by
  rw [dem_sum, dem_sum, ← sumN_swap (f := demW zs x y) hi hk]
  refine sumN_congr fun a ha => ?_
  have e0 := swapT_fd (zs := zs) (i := i) (k := k) ha (show 0 < 3 by omega)
  have e1 := swapT_fd (zs := zs) (i := i) (k := k) ha (show 1 < 3 by omega)
  have e2 := swapT_fd (zs := zs) (i := i) (k := k) ha (show 2 < 3 by omega)
  by_cases h1 : a = k
  · rw [if_pos h1] at e0 e1 e2 ⊢
    exact demW_eq (by unfold insideJ; rw [e0, e2]) e1
  · rw [if_neg h1] at e0 e1 e2 ⊢
    by_cases h2 : a = i
    · rw [if_pos h2] at e0 e1 e2 ⊢
      exact demW_eq (by unfold insideJ; rw [e0, e2]) e1
    · rw [if_neg h2] at e0 e1 e2 ⊢
      exact demW_eq (by unfold insideJ; rw [e0, e2]) e1
/-- The six stores that let i and k change places. -/
theorem swap_stores {zs : List Int} {n i k : Nat} (hl : zs.length = n * 3) (hi : i < n) (hk : k < n) :
    ((((((zs.set (i * 3 + 0) (fd zs k 0)).set (i * 3 + 1) (fd zs k 1)).set (i * 3 + 2) (fd zs k 2)).set (k * 3 + 0) (fd zs i 0)).set (k * 3 + 1) (fd zs i 1)).set (k * 3 + 2) (fd zs i 2)) = swapT zs n i k := by
  have e : zs = flat3 n (fd zs) := (flat3_of hl).symm
  have key : ∀ (f : Nat → Nat → Int), zs = flat3 n f → True := fun _ _ => trivial
  unfold swapT
  rw [show zs.set (i * 3 + 0) (fd zs k 0) = (flat3 n (fd zs)).set (i * 3 + 0) (fd zs k 0) from by rw [← e]]
  rw [flat3_set hi (by omega), flat3_set hi (by omega), flat3_set hi (by omega), flat3_set hk (by omega), flat3_set hk (by omega), flat3_set hk (by omega)]
  refine flat3_congr fun a ha b hb => ?_
  have b3 : b = 0 ∨ b = 1 ∨ b = 2 := by omega
  by_cases h1 : a = k
  · subst h1
    rcases b3 with rfl | rfl | rfl <;> simp
  · by_cases h2 : a = i
    · subst h2
      rcases b3 with rfl | rfl | rfl <;> simp [h1]
    · simp [h1, h2]
/-- All jobs ahead of k later by d. -/
def laterT (zs : List Int) (n : Nat) (d : Int) (k : Nat) : List Int := flat3 n (fun a b => if a < k ∧ b ≠ 1 then fd zs a b + d else fd zs a b)
theorem laterT_fd {zs : List Int} {n : Nat} {d : Int} {k a b : Nat} (ha : a < n) (hb : b < 3) : fd (laterT zs n d k) a b = if a < k ∧ b ≠ 1 then fd zs a b + d else fd zs a b := fd_flat3 ha hb
theorem laterT_zero {zs : List Int} {n : Nat} (hl : zs.length = n * 3) (d : Int) : laterT zs n d 0 = zs := by
  unfold laterT
  refine Eq.trans (flat3_congr fun i hi j hj => ?_) (flat3_of hl)
  rw [if_neg (by omega)]
theorem laterT_set {zs : List Int} {n k : Nat} (d : Int) (hk : k < n) : ((laterT zs n d k).set (k * 3 + 0) (fd zs k 0 + d)).set (k * 3 + 2) (fd zs k 2 + d) = laterT zs n d (k + 1) := by
  unfold laterT
  rw [flat3_set hk (by omega), flat3_set hk (by omega)]
  refine flat3_congr fun a ha b hb => ?_
  have b3 : b = 0 ∨ b = 1 ∨ b = 2 := by omega
  by_cases h1 : a = k
  · subst h1
    rcases b3 with rfl | rfl | rfl <;> simp
  · have e : (a < k + 1 ∧ b ≠ 1) ↔ (a < k ∧ b ≠ 1) := by omega
    simp only [h1, false_and, if_false]
    simp only [e]
theorem later_ok {zs : List Int} {n : Nat} {d : Int} (h : edfOk zs n) (d0 : 0 ≤ d) (d1 : ∀ i, i < n → fd zs i 2 + d ≤ 200) : edfOk (laterT zs n d n) n := by
  refine ⟨h.1, fun a ha => ?_⟩
  obtain ⟨t0, t1, t2, t3, t4⟩ := h.2 a ha
  have := d1 a ha
  unfold jobOk
  rw [laterT_fd ha (by omega), laterT_fd ha (by omega), laterT_fd ha (by omega), if_pos ⟨ha, by omega⟩, if_pos ⟨ha, by omega⟩, if_neg (by omega)]
  omega
theorem later_dem {zs : List Int} {n : Nat} {d : Int} (x y : Int) : dem (laterT zs n d n) (x + d) (y + d) n = dem zs x y n := by
  rw [dem_sum, dem_sum]
  refine sumN_congr fun a ha => ?_
  have e0 := laterT_fd (zs := zs) (d := d) (k := n) ha (show 0 < 3 by omega)
  have e1 := laterT_fd (zs := zs) (d := d) (k := n) ha (show 1 < 3 by omega)
  have e2 := laterT_fd (zs := zs) (d := d) (k := n) ha (show 2 < 3 by omega)
  rw [if_pos ⟨ha, by omega⟩] at e0 e2
  rw [if_neg (by omega)] at e1
  exact demW_eq (by unfold insideJ; rw [e0, e2]; omega) e1
theorem later_fits {zs : List Int} {n : Nat} {d : Int} (h : edfOk zs n) (h' : edfOk (laterT zs n d n) n) : fitsE (laterT zs n d n) n ↔ fitsE zs n := by
  constructor
  · intro hf
    refine fits_of fun x y hxy => ?_
    have := fits_all h' hf (x + d) (y + d) (by omega)
    rw [later_dem] at this
    omega
  · intro hf
    refine fits_of fun x y hxy => ?_
    have := fits_all h hf (x - d) (y - d) (by omega)
    have e := later_dem (zs := zs) (n := n) (d := d) (x - d) (y - d)
    rw [show x - d + d = x by omega, show y - d + d = y by omega] at e
    omega
theorem same_fits {zs ys : List Int} {n : Nat} (h : edfOk zs n) (h' : edfOk ys n) (e : ∀ x y, dem ys x y n = dem zs x y n) : fitsE ys n ↔ fitsE zs n :=
  ⟨fun hf => fits_of fun x y hxy => by rw [← e]; exact fits_all h' hf x y hxy, fun hf => fits_of fun x y hxy => by rw [e]; exact fits_all h hf x y hxy⟩
end Go.Proofs.Ytpifknmoimlpoaa
