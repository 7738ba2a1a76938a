/- edf.Run; laws of the schedule. -/
import Derived.Test.YtigekbidbeilnaaEdfR
set_option linter.unusedVariables false
namespace Go.Proofs.Ytigekbidbeilnaa
open Go.RowKit
/-- A slice of ints and an error. -/
def ERet (W : World) (n : Nat) (zs : List Int) (er : Int) (e : Ending) (w' : World) : Prop :=
  ∃ A c, e = .returned (.tuple #[.slice A n c, .int .i64 er]) ∧ Sl w' w'.heap.size A n (ints zs) ∧ Below W.heap.size W w'
theorem erun_ok (A : Option Addr) (n c : Nat) (zs : List Int) (W : World) (hs : Sl W W.heap.size A (n * 3) (ints zs)) (h : edfOk zs n) (B : Nat) (xs : List Int) (hB : ebusy zs n 200 = B) (hx : tab B (epick zs n) = xs) :
    Calls Try.prog 17 #[.slice A n c] W (ERet W B xs 0) := by
  have H := Lib.hid h
  have HB := Lib.hid hB
  have HX := Lib.hid hx
  clear h hB hx
  go_enter Try.func17, Try.ntmps17
  go_wp2_with fail
  refine (echeck_ok A n c zs _ H.out hs).mono ?_
  rintro e w1 ⟨rfl, b1⟩
  have S1 := Lib.hid (hs.on b1)
  have B1 := Lib.hid b1
  clear hs b1
  go_wp2_with fail
  refine (eplay_ok A n c zs _ S1.out H.out).mono ?_
  rintro e w2 ⟨A1, c1, A2, c2, rfl, s1, s2, b2⟩
  have B2 := B1.out.trans (b2.mono B1.out.size)
  rw [HB.out] at s1 ⊢
  have S2 := Lib.hid s1
  clear b2 s1 s2
  go_wp2_with fail
  go_ret2
  exact ⟨_, _, rfl, by rw [← HX.out]; exact S2.out, B2⟩
theorem erun_bad (A : Option Addr) (n c : Nat) (zs : List Int) (W : World) (hs : Sl W W.heap.size A (n * 3) (ints zs)) (h : ¬ edfOk zs n) (hnn : n ≤ 9223372036854775807) :
    Calls Try.prog 17 #[.slice A n c] W (ERet W 0 [] (edfErr n)) := by
  have H := Lib.hid h
  have hne := edfErr_ne n
  clear h
  go_enter Try.func17, Try.ntmps17
  go_wp2_with fail
  refine (echeck_bad A n c zs _ H.out hs hnn).mono ?_
  rintro e w1 ⟨rfl, b1⟩
  clear hs
  go_wp2_with fail
  go_ret2
  exact ⟨_, _, rfl, Sl.nil, b1⟩
theorem idle_at {zs : List Int} {n t0 : Nat} (h : ∀ i, i < n → elf zs n t0 i = 0) (d : Nat) : (∀ i, i < n → elf zs n (t0 + d) i = 0) ∧ epick zs n (t0 + d) = -1 ∧ ebusy zs n (t0 + d) = ebusy zs n t0 := by
  have hp : ∀ t, (∀ i, i < n → elf zs n t i = 0) → epick zs n t = -1 := fun t ht => by
    rcases pickJ_cases zs (elf zs n t) t n with h' | ⟨j, j1, j2, j3, j4⟩
    · exact h'
    · rw [ht j j1] at j4; omega
  induction d with
  | zero => exact ⟨h, hp _ h, rfl⟩
  | succ d ih =>
    obtain ⟨i1, i2, i3⟩ := ih
    have k1 : ∀ i, i < n → elf zs n (t0 + (d + 1)) i = 0 := fun i hi => by
      rw [show t0 + (d + 1) = t0 + d + 1 by omega, elf_succ, i2, if_neg (by omega)]
      exact i1 i hi
    refine ⟨k1, hp _ k1, ?_⟩
    rw [show t0 + (d + 1) = t0 + d + 1 by omega, ebusy_succ, i2, if_pos (by omega)]
    exact i3
theorem busy_last (zs : List Int) (n t : Nat) (h : 0 < ebusy zs n t) : 0 ≤ epick zs n (ebusy zs n t - 1) := by
  induction t with
  | zero => simp [ebusy] at h
  | succ t ih =>
    rw [ebusy_succ] at h ⊢
    split at h
    · rename_i hp
      rw [if_pos hp]
      exact ih h
    · rename_i hp
      rw [if_neg hp, Nat.add_sub_cancel]
      omega
theorem busy_ex : ebusy [1, 2, 9, 2, 1, 4] 2 200 = 4 ∧ tab 4 (epick [1, 2, 9, 2, 1, 4] 2) = [-1, 0, 1, 0] := by
  have h : ∀ i, i < 2 → elf [1, 2, 9, 2, 1, 4] 2 4 i = 0 := by decide +kernel
  refine ⟨?_, by decide +kernel⟩
  rw [show (200 : Nat) = 4 + 196 from rfl, (idle_at h 196).2.2]
  decide +kernel
end Go.Proofs.Ytigekbidbeilnaa
