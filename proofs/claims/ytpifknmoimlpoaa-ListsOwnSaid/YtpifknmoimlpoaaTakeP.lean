/- Lists of leases as triples; what Take makes of them. -/
import Derived.Test.YtpifknmoimlpoaaLeaseA
set_option linter.unusedVariables false
namespace Go.Proofs.Ytpifknmoimlpoaa
open Go.RowKit
/-- The triples, laid flat. -/
def flatT : List (Int × Int × Int) → List Int
  | [] => []
  | x :: r => x.1 :: x.2.1 :: x.2.2 :: flatT r
theorem flatT_len (l : List (Int × Int × Int)) : (flatT l).length = l.length * 3 := by
  induction l with
  | nil => rfl
  | cons a r ih => simp only [flatT, List.length_cons, ih]; omega
theorem flatT_of : ∀ (n : Nat) (zs : List Int), zs.length = n * 3 → ∃ l : List (Int × Int × Int), l.length = n ∧ flatT l = zs := by
  intro n
  induction n with
  | zero => intro zs h; exact ⟨[], rfl, (List.eq_nil_of_length_eq_zero (by omega)).symm⟩
  | succ n ih =>
    intro zs h
    match zs, h with
    | a :: b :: c :: r, h =>
      obtain ⟨l, h1, h2⟩ := ih r (by simp only [List.length_cons] at h; omega)
      exact ⟨(a, b, c) :: l, by simp [h1], by simp [flatT, h2]⟩
    | [], h => simp at h
    | [_], h => simp only [List.length_cons, List.length_nil] at h; omega
    | [_, _], h => simp only [List.length_cons, List.length_nil] at h; omega
theorem flatT_app (l m : List (Int × Int × Int)) : flatT (l ++ m) = flatT l ++ flatT m := by
  induction l with
  | nil => rfl
  | cons a r ih => simp only [List.cons_append, flatT, ih]
theorem flatT_take (l : List (Int × Int × Int)) (p : Nat) : flatT (l.take p) = (flatT l).take (p * 3) := by
  induction l generalizing p with
  | nil => simp [flatT]
  | cons a r ih =>
    cases p with
    | zero => simp [flatT]
    | succ p => rw [List.take_succ_cons, show (p + 1) * 3 = p * 3 + 1 + 1 + 1 by omega]; simp only [flatT, List.take_succ_cons, ih]
theorem flatT_drop (l : List (Int × Int × Int)) (p : Nat) : flatT (l.drop p) = (flatT l).drop (p * 3) := by
  induction l generalizing p with
  | nil => simp [flatT]
  | cons a r ih =>
    cases p with
    | zero => simp [flatT]
    | succ p => rw [List.drop_succ_cons, show (p + 1) * 3 = p * 3 + 1 + 1 + 1 by omega]; simp only [flatT, List.drop_succ_cons, ih]
theorem fd_cons (a : Int × Int × Int) (r : List (Int × Int × Int)) (i j : Nat) : fd (flatT (a :: r)) (i + 1) j = fd (flatT r) i j := by
  unfold fd gi
  rw [show (i + 1) * 3 + j = i * 3 + j + 1 + 1 + 1 by omega]
  simp only [flatT, List.getD_cons_succ]
theorem fd_at {l : List (Int × Int × Int)} : ∀ {i : Nat} {a : Int × Int × Int}, l[i]? = some a → fd (flatT l) i 0 = a.1 ∧ fd (flatT l) i 1 = a.2.1 ∧ fd (flatT l) i 2 = a.2.2 := by
  induction l with
  | nil => intro i a h; simp at h
  | cons x r ih =>
    intro i a h
    cases i with
    | zero => simp only [List.getElem?_cons_zero, Option.some.injEq] at h; subst h; exact ⟨rfl, rfl, rfl⟩
    | succ i => rw [List.getElem?_cons_succ] at h; rw [fd_cons, fd_cons, fd_cons]; exact ih h
/-- Take, as a law of lists. -/
def takeT : List (Int × Int × Int) → Int × Int × Int → List (Int × Int × Int)
  | [], x => [x]
  | a :: r, x => if a.1 < x.1 then a :: takeT r x else if a.1 = x.1 then x :: r else x :: a :: r
theorem takeT_cons (a : Int × Int × Int) (r : List (Int × Int × Int)) (x : Int × Int × Int) : takeT (a :: r) x = if a.1 < x.1 then a :: takeT r x else if a.1 = x.1 then x :: r else x :: a :: r := rfl
/-- How many come ahead. -/
def posT (w : Int) : List (Int × Int × Int) → Nat
  | [] => 0
  | a :: r => if a.1 < w then posT w r + 1 else 0
theorem posT_cons (w : Int) (a : Int × Int × Int) (r : List (Int × Int × Int)) : posT w (a :: r) = if a.1 < w then posT w r + 1 else 0 := rfl
theorem posT_le (w : Int) (l : List (Int × Int × Int)) : posT w l ≤ l.length := by
  induction l with
  | nil => exact Nat.le_refl _
  | cons a r ih => rw [posT_cons, List.length_cons]; split <;> omega
theorem posT_lt (w : Int) (l : List (Int × Int × Int)) : ∀ j, j < posT w l → fd (flatT l) j 0 < w := by
  induction l with
  | nil => intro j hj; exact absurd hj (by simp [posT])
  | cons a r ih =>
    intro j hj
    rw [posT_cons] at hj
    split at hj
    · rename_i h
      cases j with
      | zero => exact h
      | succ j => rw [fd_cons]; exact ih j (by omega)
    · omega
theorem posT_ge (w : Int) (l : List (Int × Int × Int)) (h : posT w l < l.length) : w ≤ fd (flatT l) (posT w l) 0 := by
  induction l with
  | nil => simp at h
  | cons a r ih =>
    rw [posT_cons] at h ⊢
    split at h
    · rename_i hlt
      rw [if_pos hlt, fd_cons]
      exact ih (by simp only [List.length_cons] at h; omega)
    · rename_i hge
      rw [if_neg hge]
      show w ≤ a.1
      omega
theorem takeT_hit (l : List (Int × Int × Int)) (x : Int × Int × Int) (h : posT x.1 l < l.length) (he : fd (flatT l) (posT x.1 l) 0 = x.1) : takeT l x = l.take (posT x.1 l) ++ x :: l.drop (posT x.1 l + 1) := by
  induction l with
  | nil => simp at h
  | cons a r ih =>
    rw [posT_cons] at h he ⊢
    rw [takeT_cons]
    by_cases hlt : a.1 < x.1
    · rw [if_pos hlt] at h he ⊢
      rw [fd_cons] at he
      rw [if_pos hlt, ih (by simp only [List.length_cons] at h; omega) he]
      simp
    · rw [if_neg hlt] at h he ⊢
      have e : a.1 = x.1 := he
      rw [if_neg hlt, if_pos e]
      simp
theorem takeT_miss (l : List (Int × Int × Int)) (x : Int × Int × Int) (h : posT x.1 l < l.length → fd (flatT l) (posT x.1 l) 0 ≠ x.1) : takeT l x = l.take (posT x.1 l) ++ x :: l.drop (posT x.1 l) := by
  induction l with
  | nil => rfl
  | cons a r ih =>
    rw [posT_cons] at h ⊢
    rw [takeT_cons]
    by_cases hlt : a.1 < x.1
    · rw [if_pos hlt] at h ⊢
      rw [if_pos hlt, ih (fun h' => by have := h (by simp only [List.length_cons]; omega); rwa [fd_cons] at this)]
      simp
    · rw [if_neg hlt] at h ⊢
      have e : a.1 ≠ x.1 := h (by simp)
      rw [if_neg hlt, if_neg e]
      simp
theorem takeT_mem {l : List (Int × Int × Int)} {x b : Int × Int × Int} : b ∈ takeT l x → b = x ∨ b ∈ l := by
  induction l with
  | nil => intro h; exact .inl (by simpa [takeT] using h)
  | cons a r ih =>
    rw [takeT_cons]
    intro h
    split at h
    · rcases List.mem_cons.1 h with h | h
      · exact .inr (by rw [h]; exact List.mem_cons_self)
      · rcases ih h with h | h
        · exact .inl h
        · exact .inr (List.mem_cons_of_mem _ h)
    · split at h
      · rcases List.mem_cons.1 h with h | h
        · exact .inl h
        · exact .inr (List.mem_cons_of_mem _ h)
      · rcases List.mem_cons.1 h with h | h
        · exact .inl h
        · exact .inr h
theorem takeT_in (l : List (Int × Int × Int)) (x : Int × Int × Int) : x ∈ takeT l x := by
  induction l with
  | nil => simp [takeT]
  | cons a r ih =>
    rw [takeT_cons]
    split
    · exact List.mem_cons_of_mem _ ih
    · split <;> exact List.mem_cons_self
/-- Leases as they may be. -/
def leaseT : List (Int × Int × Int) → Prop
  | [] => True
  | a :: r => oneOk a.1 a.2.1 a.2.2 ∧ (∀ b, b ∈ r → a.1 < b.1) ∧ leaseT r
theorem leaseT_take {l : List (Int × Int × Int)} {x : Int × Int × Int} (hx : oneOk x.1 x.2.1 x.2.2) (h : leaseT l) : leaseT (takeT l x) := by
  induction l with
  | nil => exact ⟨hx, fun b hb => by simp at hb, trivial⟩
  | cons a r ih =>
    obtain ⟨h1, h2, h3⟩ := h
    rw [takeT_cons]
    split
    · rename_i hlt
      refine ⟨h1, fun b hb => ?_, ih h3⟩
      rcases takeT_mem hb with e | e
      · rw [e]; exact hlt
      · exact h2 b e
    · split
      · rename_i e
        exact ⟨hx, fun b hb => by rw [← e]; exact h2 b hb, h3⟩
      · refine ⟨hx, fun b hb => ?_, h1, h2, h3⟩
        rcases List.mem_cons.1 hb with e | e
        · rw [e]; omega
        · have := h2 b e; omega
theorem leaseT_idx {l : List (Int × Int × Int)} (h : leaseT l) : Leases (flatT l) l.length := by
  induction l with
  | nil => exact ⟨fun i hi => by simp at hi, fun i hi => by simp at hi⟩
  | cons a r ih =>
    obtain ⟨h1, h2, h3⟩ := h
    have k := ih h3
    refine ⟨fun i hi => ?_, fun i hi => ?_⟩
    · cases i with
      | zero => exact h1
      | succ i => rw [fd_cons, fd_cons, fd_cons]; exact k.one i (by simp only [List.length_cons] at hi; omega)
    · simp only [List.length_cons] at hi
      cases i with
      | zero =>
        rw [fd_cons]
        obtain ⟨b, hb⟩ : ∃ b, r[0]? = some b := ⟨r[0], List.getElem?_eq_getElem (by omega)⟩
        rw [(fd_at hb).1]
        exact h2 b (List.mem_of_getElem? hb)
      | succ i => rw [fd_cons, fd_cons]; exact k.up i (by omega)
theorem leaseT_of {l : List (Int × Int × Int)} (h : Leases (flatT l) l.length) : leaseT l := by
  induction l with
  | nil => trivial
  | cons a r ih =>
    have up : ∀ j, j < r.length → fd (flatT (a :: r)) 0 0 < fd (flatT (a :: r)) (j + 1) 0 := fun j hj => by
      induction j with
      | zero => exact h.up 0 (by simp only [List.length_cons]; omega)
      | succ j ih' => exact Int.lt_trans (ih' (by omega)) (h.up (j + 1) (by simp only [List.length_cons]; omega))
    refine ⟨h.one 0 (by simp), fun b hb => ?_, ih ⟨fun i hi => ?_, fun i hi => ?_⟩⟩
    · obtain ⟨j, hj⟩ := List.getElem?_of_mem hb
      have := up j (List.getElem?_eq_some_iff.1 hj).1
      rw [fd_cons, (fd_at hj).1] at this
      exact this
    · have := h.one (i + 1) (by simp only [List.length_cons]; omega)
      rwa [fd_cons, fd_cons, fd_cons] at this
    · have := h.up (i + 1) (by simp only [List.length_cons]; omega)
      rwa [fd_cons, fd_cons] at this
theorem leases_to {zs : List Int} {n : Nat} (h : Leases zs n) : lfirst zs n = 0 := by
  refine (lfirst_zero _ _).2 fun i hi => ?_
  unfold lbad oneE
  rw [if_pos (by rw [if_pos (h.one i hi)])]
  by_cases h0 : 0 < i
  · obtain ⟨k, rfl⟩ : ∃ k, i = k + 1 := ⟨i - 1, by omega⟩
    have := h.up k hi
    rw [if_neg (fun h' => by have := h'.2; rw [Nat.add_sub_cancel] at this; omega)]
  · rw [if_neg (fun h' => h0 h'.1)]
theorem leaseT_iff (l : List (Int × Int × Int)) : leaseT l ↔ lfirst (flatT l) l.length = 0 := ⟨fun h => leases_to (leaseT_idx h), fun h => leaseT_of (leases_of h)⟩
theorem takeT_twice (l : List (Int × Int × Int)) (x : Int × Int × Int) : takeT (takeT l x) x = takeT l x := by
  induction l with
  | nil => simp [takeT]
  | cons a r ih =>
    rw [takeT_cons]
    by_cases h : a.1 < x.1
    · rw [if_pos h, takeT_cons, if_pos h, ih]
    · by_cases e : a.1 = x.1
      · rw [if_neg h, if_pos e, takeT_cons, if_neg (by omega), if_pos rfl]
      · rw [if_neg h, if_neg e, takeT_cons, if_neg (by omega), if_pos rfl]
theorem takeT_swap' (l : List (Int × Int × Int)) (x y : Int × Int × Int) (h : x.1 < y.1) : takeT (takeT l x) y = takeT (takeT l y) x := by
  induction l with
  | nil => simp [takeT, h, show ¬ y.1 < x.1 by omega, show ¬ y.1 = x.1 by omega]
  | cons a r ih =>
    simp only [takeT_cons]
    by_cases h1 : a.1 < x.1
    · have h2 : a.1 < y.1 := by omega
      simp only [if_pos h1, if_pos h2, takeT_cons, ih]
    · by_cases h2 : a.1 = x.1
      · have h3 : a.1 < y.1 := by omega
        simp only [if_neg h1, if_pos h2, if_pos h3, takeT_cons, if_pos h]
      · by_cases h3 : a.1 < y.1
        · simp only [if_neg h1, if_neg h2, if_pos h3, takeT_cons, if_pos h]
        · by_cases h4 : a.1 = y.1
          · simp only [if_neg h1, if_neg h2, if_neg h3, if_pos h4, takeT_cons, if_pos h, if_neg (show ¬ y.1 < x.1 by omega), if_neg (show ¬ y.1 = x.1 by omega)]
          · simp only [if_neg h1, if_neg h2, if_neg h3, if_neg h4, takeT_cons, if_pos h, if_neg (show ¬ y.1 < x.1 by omega), if_neg (show ¬ y.1 = x.1 by omega)]
theorem takeT_swap (l : List (Int × Int × Int)) (x y : Int × Int × Int) (h : x.1 ≠ y.1) : takeT (takeT l x) y = takeT (takeT l y) x := by
  rcases Int.lt_or_gt_of_ne h with h' | h'
  · exact takeT_swap' l x y h'
  · exact (takeT_swap' l y x h').symm
end Go.Proofs.Ytpifknmoimlpoaa
