/- EDF: no job is late just if no interval is asked for more than it has. -/
import Derived.Test.YtigekbidbeilnaaEdfL
set_option linter.unusedVariables false
namespace Go.Proofs.Ytigekbidbeilnaa
open Go.RowKit
theorem pick_pos {zs : List Int} {n t i : Nat} (hi : epick zs n t = i) : i < n ∧ fd zs i 0 ≤ t ∧ 0 < elf zs n t i := by
  rcases pickJ_cases zs (elf zs n t) t n with h' | ⟨j, j1, j2, j3, j4⟩
  · rw [show epick zs n t = pickJ zs (elf zs n t) t n from rfl, h'] at hi; omega
  · rw [show epick zs n t = pickJ zs (elf zs n t) t n from rfl, j2] at hi
    obtain rfl : j = i := by omega
    exact ⟨j1, j3, j4⟩
theorem elf_zero {zs : List Int} {n t i : Nat} (h : elf zs n t i = 0) (d : Nat) : elf zs n (t + d) i = 0 := by
  induction d with
  | zero => exact h
  | succ d ih =>
    rw [show t + (d + 1) = t + d + 1 by omega, elf_succ, if_neg (fun hp => ?_)]
    · exact ih
    · have := (pick_pos hp).2.2; omega
theorem elf_zero' {zs : List Int} {n t t' i : Nat} (h : elf zs n t i = 0) (ht : t ≤ t') : elf zs n t' i = 0 := by
  have := elf_zero h (t' - t)
  rwa [show t + (t' - t) = t' by omega] at this
theorem edone_spec {zs : List Int} {n : Nat} (h : edfOk zs n) {i : Nat} (hi : i < n) (t : Nat) : (elf zs n t i ≠ 0 ∧ edone zs n t i = 0) ∨ (elf zs n t i = 0 ∧ ∃ d : Nat, edone zs n t i = ((d + 1 : Nat) : Int) ∧ elf zs n (d + 1) i = 0 ∧ elf zs n d i ≠ 0) := by
  induction t with
  | zero =>
    refine .inl ⟨?_, rfl⟩
    have := h.2 i hi
    unfold jobOk at this
    show fd zs i 1 ≠ 0
    omega
  | succ t ih =>
    have e : edone zs n (t + 1) i = if epick zs n t = i ∧ elf zs n (t + 1) i = 0 then (t : Int) + 1 else edone zs n t i := rfl
    by_cases hp : epick zs n t = i
    · have pp := (pick_pos hp).2.2
      by_cases hz : elf zs n (t + 1) i = 0
      · refine .inr ⟨hz, t, ?_, hz, by omega⟩
        rw [e, if_pos ⟨hp, hz⟩]; simp
      · refine .inl ⟨hz, ?_⟩
        rw [e, if_neg (fun h' => hz h'.2)]
        rcases ih with ⟨_, h2⟩ | ⟨h1, _⟩
        · exact h2
        · omega
    · rw [e, if_neg (fun h' => hp h'.1), elf_succ, if_neg hp]
      exact ih
theorem intime_iff {zs : List Int} {n : Nat} (h : edfOk zs n) {i : Nat} (hi : i < n) : intime zs n i ↔ elf zs n (fd zs i 2).toNat i = 0 := by
  have hj := h.2 i hi
  unfold jobOk at hj
  unfold intime
  rcases edone_spec h hi 200 with ⟨h1, h2⟩ | ⟨h1, d, h2, h3, h4⟩
  · rw [h2]
    constructor
    · intro h'; exact absurd rfl h'.1
    · intro h'; exact absurd (elf_zero' h' (by omega)) h1
  · rw [h2]
    constructor
    · intro h'; exact elf_zero' h3 (by omega)
    · intro h'
      refine ⟨by omega, ?_⟩
      rcases Nat.lt_or_ge d (fd zs i 2).toNat with hl | hl
      · omega
      · exact absurd (elf_zero' h' hl) h4
/-- The sum of g over the first k jobs within [x, y]. -/
def demf (zs : List Int) (x y : Int) (g : Nat → Int) : Nat → Int
  | 0 => 0
  | k + 1 => if x ≤ fd zs k 0 ∧ fd zs k 2 ≤ y then demf zs x y g k + g k else demf zs x y g k
theorem demf_succ (zs : List Int) (x y : Int) (g : Nat → Int) (k : Nat) : demf zs x y g (k + 1) = if x ≤ fd zs k 0 ∧ fd zs k 2 ≤ y then demf zs x y g k + g k else demf zs x y g k := rfl
theorem demf_dem (zs : List Int) (x y : Int) (k : Nat) : demf zs x y (fun i => fd zs i 1) k = dem zs x y k := by
  induction k with
  | zero => rfl
  | succ k ih => rw [demf_succ, dem_succ, ih]
theorem demf_congr {zs : List Int} {x y : Int} {g g' : Nat → Int} (k : Nat) (h : ∀ i, i < k → x ≤ fd zs i 0 → fd zs i 2 ≤ y → g i = g' i) : demf zs x y g k = demf zs x y g' k := by
  induction k with
  | zero => rfl
  | succ k ih =>
    rw [demf_succ, demf_succ, ih (fun i hi => h i (by omega))]
    split
    · rename_i c
      rw [h k (by omega) c.1 c.2]
    · rfl
theorem demf_le {zs : List Int} {x x' y : Int} {g g' : Nat → Int} (k : Nat) (h : ∀ i, i < k → x ≤ fd zs i 0 → fd zs i 2 ≤ y → (x' ≤ fd zs i 0 ∧ g i ≤ g' i) ∨ g i = 0) (h0 : ∀ i, i < k → x' ≤ fd zs i 0 → fd zs i 2 ≤ y → 0 ≤ g' i) : demf zs x y g k ≤ demf zs x' y g' k := by
  induction k with
  | zero => exact Int.le_refl _
  | succ k ih =>
    have i1 := ih (fun i hi => h i (by omega)) (fun i hi => h0 i (by omega))
    rw [demf_succ, demf_succ]
    by_cases c : x ≤ fd zs k 0 ∧ fd zs k 2 ≤ y
    · rw [if_pos c]
      rcases h k (by omega) c.1 c.2 with ⟨h1, h2⟩ | h1
      · rw [if_pos ⟨h1, c.2⟩]; omega
      · split
        · rename_i c'
          have := h0 k (by omega) c'.1 c'.2
          omega
        · omega
    · rw [if_neg c]
      split
      · rename_i c'
        have := h0 k (by omega) c'.1 c'.2
        omega
      · exact i1
theorem demf_step {zs : List Int} {x y : Int} {g g' : Nat → Int} {p : Int} (k : Nat) (h : ∀ i, i < k → g' i = if p = i then g i - 1 else g i) : demf zs x y g k - 1 ≤ demf zs x y g' k ∧ ((∀ i : Nat, i < k → p = i → ¬ (x ≤ fd zs i 0 ∧ fd zs i 2 ≤ y)) → demf zs x y g' k = demf zs x y g k) ∧ ((∃ i : Nat, i < k ∧ p = i ∧ x ≤ fd zs i 0 ∧ fd zs i 2 ≤ y) → demf zs x y g' k = demf zs x y g k - 1) := by
  induction k with
  | zero => exact ⟨by simp [demf], fun _ => rfl, fun ⟨i, hi, _⟩ => absurd hi (Nat.not_lt_zero _)⟩
  | succ k ih =>
    obtain ⟨i1, i2, i3⟩ := ih (fun i hi => h i (by omega))
    have hk := h k (by omega)
    rw [demf_succ, demf_succ]
    by_cases hp : p = k
    · rw [if_pos hp] at hk
      have e := i2 (fun i hi h' => by omega)
      by_cases c : x ≤ fd zs k 0 ∧ fd zs k 2 ≤ y
      · rw [if_pos c, if_pos c, e, hk]
        exact ⟨by omega, fun h' => absurd c (h' k (by omega) hp), fun _ => by omega⟩
      · rw [if_neg c, if_neg c, e]
        refine ⟨by omega, fun _ => rfl, fun ⟨i, hi, h1, h2⟩ => ?_⟩
        obtain rfl : i = k := by omega
        exact absurd h2 c
    · rw [if_neg hp] at hk
      by_cases c : x ≤ fd zs k 0 ∧ fd zs k 2 ≤ y
      · rw [if_pos c, if_pos c, hk]
        refine ⟨by omega, fun h' => by rw [i2 (fun i hi => h' i (by omega))], fun ⟨i, hi, h1, h2⟩ => ?_⟩
        have hik : i ≠ k := fun h' => hp (by rw [← h']; exact h1)
        rw [i3 ⟨i, by omega, h1, h2⟩]; omega
      · rw [if_neg c, if_neg c]
        refine ⟨i1, fun h' => i2 (fun i hi => h' i (by omega)), fun ⟨i, hi, h1, h2⟩ => ?_⟩
        have hik : i ≠ k := fun h' => hp (by rw [← h']; exact h1)
        exact i3 ⟨i, by omega, h1, h2⟩
/-- Whoever does all of [x, y]'s jobs within it has as much time as they take. -/
theorem dem_sched {zs : List Int} {n : Nat} (f : Nat → Nat → Int) (s : Nat → Int) (h0 : ∀ i, i < n → f 0 i = fd zs i 1) (hs : ∀ t i, i < n → f (t + 1) i = if s t = i then f t i - 1 else f t i) (ha : ∀ (t i : Nat), i < n → s t = i → fd zs i 0 ≤ t)
    (X Y : Nat) (hXY : X ≤ Y) (hz : ∀ i, i < n → (X : Int) ≤ fd zs i 0 → fd zs i 2 ≤ Y → f Y i = 0) : dem zs X Y n ≤ Y - X := by
  have a1 : ∀ t, t ≤ X → demf zs X Y (f t) n = dem zs X Y n := by
    intro t
    induction t with
    | zero =>
      intro _
      rw [← demf_dem]
      exact demf_congr n (fun i hi _ _ => h0 i hi)
    | succ t ih =>
      intro ht
      rw [← ih (by omega)]
      exact (demf_step n (fun i hi => hs t i hi)).2.1 (fun i hi hp c => by have := ha t i hi hp; omega)
  have a2 : ∀ d, dem zs X Y n - d ≤ demf zs X Y (f (X + d)) n := by
    intro d
    induction d with
    | zero => rw [Nat.add_zero, a1 X (Nat.le_refl _)]; omega
    | succ d ih =>
      have := (demf_step (zs := zs) (x := X) (y := Y) n (fun i hi => hs (X + d) i hi)).1
      rw [show X + (d + 1) = X + d + 1 by omega]
      omega
  have a3 := a2 (Y - X)
  rw [show X + (Y - X) = Y by omega] at a3
  have a4 : demf zs X Y (f Y) n ≤ demf zs X Y (fun _ => 0) n := demf_le n (fun i hi c1 c2 => .inr (hz i hi c1 c2)) (fun _ _ _ _ => Int.le_refl _)
  have a5 : ∀ k, demf zs X Y (fun _ => 0) k = 0 := by
    intro k
    induction k with
    | zero => rfl
    | succ k ih => rw [demf_succ, ih]; split <;> omega
  rw [a5] at a4
  omega
theorem demf_nonneg {zs : List Int} {x y : Int} {g : Nat → Int} (k : Nat) (h : ∀ i, i < k → 0 ≤ g i) : 0 ≤ demf zs x y g k := by
  induction k with
  | zero => exact Int.le_refl _
  | succ k ih =>
    have := ih (fun i hi => h i (by omega))
    have := h k (by omega)
    rw [demf_succ]
    split <;> omega
theorem demf_one {zs : List Int} {x y : Int} {g : Nat → Int} (k : Nat) (h : ∀ i, i < k → 0 ≤ g i) {q : Nat} (hq : q < k) (c1 : x ≤ fd zs q 0) (c2 : fd zs q 2 ≤ y) : g q ≤ demf zs x y g k := by
  induction k with
  | zero => omega
  | succ k ih =>
    have hn := demf_nonneg (zs := zs) (x := x) (y := y) k (fun i hi => h i (by omega))
    rw [demf_succ]
    rcases Nat.lt_or_ge q k with hl | hl
    · have := ih (fun i hi => h i (by omega)) hl
      have := h k (by omega)
      split <;> omega
    · obtain rfl : q = k := by omega
      rw [if_pos ⟨c1, c2⟩]
      omega
theorem last_bad (good : Nat → Prop) (d : Nat) : ∃ t0, t0 ≤ d ∧ (∀ t, t0 ≤ t → t < d → good t) ∧ (t0 = 0 ∨ ∃ s, t0 = s + 1 ∧ ¬ good s) := by
  induction d with
  | zero => exact ⟨0, Nat.le_refl _, fun t h1 h2 => by omega, .inl rfl⟩
  | succ d ih =>
    by_cases hd : good d
    · obtain ⟨t0, h1, h2, h3⟩ := ih
      refine ⟨t0, by omega, fun t a b => ?_, h3⟩
      rcases Nat.lt_or_ge t d with hl | hl
      · exact h2 t a hl
      · obtain rfl : t = d := by omega
        exact hd
    · exact ⟨d + 1, Nat.le_refl _, fun t h1 h2 => by omega, .inr ⟨d, rfl, hd⟩⟩
theorem least_at {zs : List Int} {x y : Int} (n : Nat) (h : ∃ i, i < n ∧ x ≤ fd zs i 0 ∧ fd zs i 2 ≤ y) : ∃ a, a < n ∧ x ≤ fd zs a 0 ∧ fd zs a 2 ≤ y ∧ ∀ i, i < n → x ≤ fd zs i 0 → fd zs i 2 ≤ y → fd zs a 0 ≤ fd zs i 0 := by
  induction n with
  | zero => obtain ⟨i, hi, _⟩ := h; omega
  | succ n ih =>
    by_cases hn : ∃ i, i < n ∧ x ≤ fd zs i 0 ∧ fd zs i 2 ≤ y
    · obtain ⟨a, a1, a2, a3, a4⟩ := ih hn
      by_cases c : x ≤ fd zs n 0 ∧ fd zs n 2 ≤ y ∧ fd zs n 0 < fd zs a 0
      · refine ⟨n, by omega, c.1, c.2.1, fun i hi h1 h2 => ?_⟩
        rcases Nat.lt_or_ge i n with hl | hl
        · have := a4 i hl h1 h2; omega
        · obtain rfl : i = n := by omega
          exact Int.le_refl _
      · refine ⟨a, by omega, a2, a3, fun i hi h1 h2 => ?_⟩
        rcases Nat.lt_or_ge i n with hl | hl
        · exact a4 i hl h1 h2
        · obtain rfl : i = n := by omega
          omega
    · obtain ⟨i, hi, h1, h2⟩ := h
      have : i = n := by
        rcases Nat.lt_or_ge i n with hl | hl
        · exact absurd ⟨i, hl, h1, h2⟩ hn
        · omega
      subst this
      refine ⟨i, by omega, h1, h2, fun k hk k1 k2 => ?_⟩
      rcases Nat.lt_or_ge k i with hl | hl
      · exact absurd ⟨k, hl, k1, k2⟩ hn
      · obtain rfl : k = i := by omega
        exact Int.le_refl _
/-- No interval asks for more than it has: none is late. -/
theorem edf_best {zs : List Int} {n : Nat} (h : edfOk zs n) (hf : fitsE zs n) (q : Nat) (hq : q < n) : intime zs n q := by
  rw [intime_iff h hq]
  have hj := h.2 q hq
  unfold jobOk at hj
  refine Classical.byContradiction fun hc => ?_
  obtain ⟨D, hD⟩ : ∃ D : Nat, fd zs q 2 = D := ⟨(fd zs q 2).toNat, by omega⟩
  rw [hD, Int.toNat_natCast] at hc
  have hbd := fun t i hi => elf_bd h t i hi
  obtain ⟨t0, t1, t2, t3⟩ := last_bad (fun t => ∃ j : Nat, j < n ∧ epick zs n t = j ∧ fd zs j 2 ≤ D) D
  have cl1 : ∀ j, j < n → fd zs j 2 ≤ D → fd zs j 0 < t0 → elf zs n t0 j = 0 := by
    intro j hj' hd' ha'
    rcases t3 with rfl | ⟨s, rfl, hs⟩
    · have := h.2 j hj'; unfold jobOk at this; omega
    · refine elf_zero' (t := s) ?_ (by omega)
      refine Classical.byContradiction fun hne => hs ?_
      have b := (hbd s j hj').1
      obtain ⟨j', k1, k2, k3⟩ := pickJ_best zs (elf zs n s) s n j hj' (by omega) (by omega)
      exact ⟨j', k1, k2, by omega⟩
  have dec : ∀ d, t0 + d ≤ D → demf zs 0 D (elf zs n (t0 + d)) n = demf zs 0 D (elf zs n t0) n - d := by
    intro d
    induction d with
    | zero => intro _; rw [Nat.add_zero]; simp
    | succ d ih =>
      intro hd
      obtain ⟨j, j1, j2, j3⟩ := t2 (t0 + d) (by omega) (by omega)
      have st := (demf_step (zs := zs) (x := 0) (y := D) (g := elf zs n (t0 + d)) (g' := elf zs n (t0 + d + 1)) n (fun i hi => elf_succ zs n (t0 + d) i)).2.2 ⟨j, j1, j2, by have := h.2 j j1; unfold jobOk at this; omega, j3⟩
      rw [show t0 + (d + 1) = t0 + d + 1 by omega, st, ih (by omega)]
      omega
  have e1 := dec (D - t0) (by omega)
  rw [show t0 + (D - t0) = D by omega] at e1
  have e2 := demf_one (zs := zs) (x := 0) (y := D) (g := elf zs n D) n (fun i hi => (hbd D i hi).1) hq (by omega) (by omega)
  have e3 := (hbd D q hq).1
  have e4 : demf zs 0 D (elf zs n t0) n ≤ dem zs t0 D n := by
    rw [← demf_dem]
    refine demf_le n (fun i hi c1 c2 => ?_) (fun i hi _ _ => by have := h.2 i hi; unfold jobOk at this; omega)
    rcases Int.lt_or_le (fd zs i 0) t0 with hl | hl
    · exact .inr (cl1 i hi c2 hl)
    · refine .inl ⟨hl, ?_⟩
      have : ∀ t, elf zs n t i ≤ fd zs i 1 := by
        intro t
        induction t with
        | zero => exact Int.le_refl _
        | succ t ih => rw [elf_succ]; split <;> omega
      exact this t0
  have e5 : (D : Int) - t0 < dem zs t0 D n := by omega
  have ex : ∃ i, i < n ∧ (t0 : Int) ≤ fd zs i 0 ∧ fd zs i 2 ≤ D := by
    refine Classical.byContradiction fun hne => ?_
    have : ∀ k, k ≤ n → dem zs t0 D k = 0 := by
      intro k
      induction k with
      | zero => intro _; rfl
      | succ k ih =>
        intro hk
        rw [dem_succ, if_neg (fun c => hne ⟨k, by omega, c.1, c.2⟩)]
        exact ih (by omega)
    rw [this n (Nat.le_refl _)] at e5
    omega
  obtain ⟨a, a1, a2, a3, a4⟩ := least_at n ex
  have hp := hf a a1 q hq
  have ha := h.2 a a1
  unfold jobOk at ha
  have e6 : dem zs t0 D n = dem zs (fd zs a 0) D n := by
    rw [← demf_dem, ← demf_dem]
    refine Int.le_antisymm (demf_le n (fun i hi c1 c2 => .inl ⟨a4 i hi c1 c2, Int.le_refl _⟩) (fun i hi _ _ => by have := h.2 i hi; unfold jobOk at this; omega)) (demf_le n (fun i hi c1 c2 => .inl ⟨by omega, Int.le_refl _⟩) (fun i hi _ _ => by have := h.2 i hi; unfold jobOk at this; omega))
  unfold pairE at hp
  rw [hD] at hp
  omega
end Go.Proofs.Ytigekbidbeilnaa
