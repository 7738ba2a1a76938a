/- resume.Run and resume.Bound return what is there slot by slot, and the bound. -/
import Derived.Test.YtehdphkaknjlnaaElems
import Derived.Test.YtehdphkaknjlnaaResumeA
set_option linter.unusedVariables false
namespace Go.Proofs.Ytehdphkaknjlnaa
open Go.RowKit
theorem slook_ok (s u r : Int) (W : World) (h : resumeOk s u r) :
    Calls Try.prog 55 #[.int .i64 s, .int .i64 u, .int .i64 r] W fun e w' => e = .returned (.int .i64 0) ∧ W = w' := by
  obtain ⟨h1, h2, h3, h4, h5, h6⟩ := h
  have g1 : ¬ (s < 0) := by omega
  have g2 : ¬ (1000000 < s) := by omega
  have g3 : ¬ (u < 1) := by omega
  have g4 : ¬ (1000000 < u) := by omega
  have g5 : ¬ (r < 0) := by omega
  have g6 : ¬ (10000 < r) := by omega
  go_enter Try.func55, Try.ntmps55
  go_wp2
  go_ret
  exact ⟨rfl, rfl⟩
theorem slook_bad (s u r : Int) (W : World) (h : ¬ resumeOk s u r) :
    Calls Try.prog 55 #[.int .i64 s, .int .i64 u, .int .i64 r] W fun e w' => e = .returned (.int .i64 1) ∧ W = w' := by
  unfold resumeOk at h
  have key : s < 0 ∨ (¬ s < 0 ∧ 1000000 < s) ∨ (¬ s < 0 ∧ ¬ 1000000 < s ∧ u < 1) ∨ (¬ s < 0 ∧ ¬ 1000000 < s ∧ ¬ u < 1 ∧ 1000000 < u) ∨
      (¬ s < 0 ∧ ¬ 1000000 < s ∧ ¬ u < 1 ∧ ¬ 1000000 < u ∧ r < 0) ∨ (¬ s < 0 ∧ ¬ 1000000 < s ∧ ¬ u < 1 ∧ ¬ 1000000 < u ∧ ¬ r < 0 ∧ 10000 < r) := by omega
  clear h
  rcases key with h1 | ⟨h1, h2⟩ | ⟨h1, h2, h3⟩ | ⟨h1, h2, h3, h4⟩ | ⟨h1, h2, h3, h4, h5⟩ | ⟨h1, h2, h3, h4, h5, h6⟩
  all_goals
    go_enter Try.func55, Try.ntmps55
    go_wp2
    go_ret
    exact ⟨rfl, rfl⟩
theorem run_bad (s u r : Int) (A : Option Addr) (n c : Nat) (W : World) (h : ¬ resumeOk s u r) :
    Calls Try.prog 40 #[.int .i64 s, .int .i64 u, .int .i64 r, .slice A n c] W fun e w' => e = .returned (.tuple #[.slice none 0 0, .int .i64 1]) ∧ W = w' := by
  go_enter Try.func40, Try.ntmps40
  go_wp2_with (go_at_call 55; refine (slook_bad _ _ _ _ h).mono ?_; rintro e w' ⟨rfl, rfl⟩)
  go_ret2
  exact ⟨rfl, rfl⟩
theorem run_large (s u r : Int) (A : Option Addr) (n c : Nat) (W : World) (h : resumeOk s u r) (hn : 200 < n) :
    Calls Try.prog 40 #[.int .i64 s, .int .i64 u, .int .i64 r, .slice A n c] W fun e w' => e = .returned (.tuple #[.slice none 0 0, .int .i64 2]) ∧ W = w' := by
  have H := Lib.hid h
  have g1 : 200 < (n : Int) := by omega
  clear h
  go_enter Try.func40, Try.ntmps40
  go_wp2_with (go_at_call 55; refine (slook_ok _ _ _ _ H.out).mono ?_; rintro e w' ⟨rfl, rfl⟩)
  go_ret2
  exact ⟨rfl, rfl⟩
theorem rstep_crash {s u r g : Int} (h : g + r < s) : rstep s u r g true = g + r - (g + r) % u := by
  unfold rstep nx
  rw [if_pos h, if_pos ⟨rfl, h⟩]
theorem rstep_goes {s u r g : Int} (h : g + r < s) : rstep s u r g false = g + r := by
  rw [rstep_calm]
  unfold nx
  rw [if_pos h]
theorem rstep_full {s u r g : Int} (h : ¬ g + r < s) (b : Bool) : rstep s u r g b = s := by
  unfold rstep nx
  rw [if_neg h, if_neg (by omega)]
set_option maxHeartbeats 1600000 in
theorem run_ok (s u r : Int) (A : Option Addr) (n c : Nat) (bs : List Bool) (W : World) (h : resumeOk s u r) (hn : n ≤ 200) (hs : Sl W W.heap.size A n (bools bs)) :
    Calls Try.prog 40 #[.int .i64 s, .int .i64 u, .int .i64 r, .slice A n c] W fun e w' => ∃ A' c', e = .returned (.tuple #[.slice A' n c', .int .i64 0]) ∧
      Sl w' w'.heap.size A' n (ints (rres s u r bs n)) ∧ Below W.heap.size W w' ∧ n ≤ c' := by
  have H := Lib.hid h
  have g1 : ¬ 200 < (n : Int) := by omega
  clear h
  go_enter Try.func40, Try.ntmps40
  go_wp2_with (go_at_call 55; refine (slook_ok _ _ _ _ H.out).mono ?_; rintro e w' ⟨rfl, rfl⟩)
  go_loopw [27, 11, 12, 14] (fun i v g _ wr => ∃ k : Nat, k ≤ n ∧ i = .int .i64 k ∧ g = .int .i64 (rgot s u r bs k) ∧ wr.ownsRow W.heap.size 3 1 v k (ints (rres s u r bs k)) ∧ Below W.heap.size W wr ∧ W.heap.size ≤ wr.heap.size)
    (fun i _ _ _ _ => n - (intOf i).toNat)
  case atStart => exact ⟨0, Nat.zero_le _, rfl, rfl, World.ownsRow_nil _ _ _ _, Below.refl _ _, Nat.le_refl _⟩
  case round =>
    obtain ⟨k, hk, rfl, rfl, hown, hb, hz⟩ := hrel
    have ho := Lib.hid hown
    have hbh := Lib.hid hb
    by_cases hlt : k < n
    · obtain ⟨b, off, rfl, hbl, hc⟩ := (hs.below hb).bool_at hlt
      have hbd := rgot_bd H.out bs k
      have hsucc := rgot_succ s u r bs k
      obtain ⟨r1, r2, r3, r4, r5, r6⟩ := H.out
      have hn1 : (k : Int) < n := by omega
      have hk0 : (0 : Int) ≤ k := by omega
      clear hown hb hs
      by_cases hf : rgot s u r bs k + r < s
      · have m1 := Int.emod_nonneg (rgot s u r bs k + r) (show u ≠ 0 by omega)
        have m2 := Int.emod_lt_of_pos (rgot s u r bs k + r) (show 0 < u by omega)
        cases hgb : gb bs k with
        | true =>
          rw [hgb] at hc hsucc
          rw [rstep_crash hf] at hsucc
          have HS := Lib.hid hsucc
          clear hsucc hgb
          go_wp2_with (at_builtin; refine wpList_push rfl (.tmp 47) (.tmp 49) _ rfl elemInt W.heap.size _ k _ _ rfl rfl ho.out hbh.out hz rfl (by omega) ?_; intro v1 w1 hown1 hb1 hz1)
          go_roundw
          case rel => exact ⟨k + 1, by omega, by go_num, by rw [HS.out], by rw [← rres_push s u r bs k _ HS.out.symm]; exact hown1, hb1, hz1⟩
          case measure => simp [intOf]; omega
        | false =>
          rw [hgb] at hc hsucc
          rw [rstep_goes hf] at hsucc
          have HS := Lib.hid hsucc
          clear hsucc hgb
          go_wp2_with (at_builtin; refine wpList_push rfl (.tmp 47) (.tmp 49) _ rfl elemInt W.heap.size _ k _ _ rfl rfl ho.out hbh.out hz rfl (by omega) ?_; intro v1 w1 hown1 hb1 hz1)
          go_roundw
          case rel => exact ⟨k + 1, by omega, by go_num, by rw [HS.out], by rw [← rres_push s u r bs k _ HS.out.symm]; exact hown1, hb1, hz1⟩
          case measure => simp [intOf]; omega
      · rw [rstep_full hf] at hsucc
        have HS := Lib.hid hsucc
        clear hsucc
        cases hgb : gb bs k with
        | true =>
          rw [hgb] at hc
          clear hgb
          go_wp2_with (at_builtin; refine wpList_push rfl (.tmp 47) (.tmp 49) _ rfl elemInt W.heap.size _ k _ _ rfl rfl ho.out hbh.out hz rfl (by omega) ?_; intro v1 w1 hown1 hb1 hz1)
          go_roundw
          case rel => exact ⟨k + 1, by omega, by go_num, by rw [HS.out], by rw [← rres_push s u r bs k _ HS.out.symm]; exact hown1, hb1, hz1⟩
          case measure => simp [intOf]; omega
        | false =>
          rw [hgb] at hc
          clear hgb
          go_wp2_with (at_builtin; refine wpList_push rfl (.tmp 47) (.tmp 49) _ rfl elemInt W.heap.size _ k _ _ rfl rfl ho.out hbh.out hz rfl (by omega) ?_; intro v1 w1 hown1 hb1 hz1)
          go_roundw
          case rel => exact ⟨k + 1, by omega, by go_num, by rw [HS.out], by rw [← rres_push s u r bs k _ HS.out.symm]; exact hown1, hb1, hz1⟩
          case measure => simp [intOf]; omega
    · have hkn : k = n := by omega
      subst hkn
      clear hown hb hs
      go_wp2
      go_ret2
      obtain ⟨A', c', rfl, hc⟩ := own_form ho.out
      exact ⟨_, _, rfl, Sl.of_own ho.out, hbh.out, hc⟩
/-- The bound: none at rate 0. -/
theorem bound_zero (s u r c : Int) (W : World) (h : resumeOk s u r) (c0 : 0 ≤ c) (c1 : c ≤ 200) (hn : rneed s u c = 0) :
    Calls Try.prog 41 #[.int .i64 s, .int .i64 u, .int .i64 r, .int .i64 c] W fun e w' => e = .returned (.tuple #[.int .i64 0, .int .i64 0]) ∧ W = w' := by
  have hb := rneed_bd h c0 c1
  have hs0 : s = 0 := by have := h.1; omega
  have H := Lib.hid h
  clear h hn hb
  subst hs0
  go_enter Try.func41, Try.ntmps41
  go_wp2_with (go_at_call 55; refine (slook_ok _ _ _ _ H.out).mono ?_; rintro e w' ⟨rfl, rfl⟩)
  go_ret2
  exact ⟨rfl, rfl⟩
theorem bound_none (s u r c : Int) (W : World) (h : resumeOk s u r) (c0 : 0 ≤ c) (c1 : c ≤ 200) (hn : rneed s u c ≠ 0) (hr : r = 0) :
    Calls Try.prog 41 #[.int .i64 s, .int .i64 u, .int .i64 r, .int .i64 c] W fun e w' => e = .returned (.tuple #[.int .i64 0, .int .i64 5]) ∧ W = w' := by
  have hb := rneed_bd h c0 c1
  have H := Lib.hid h
  obtain ⟨r1, r2, r3, r4, r5, r6⟩ := h
  have hs0 : 0 < s := by
    rcases Int.lt_or_le 0 s with h' | h'
    · exact h'
    · exfalso; apply hn; unfold rneed; rw [if_neg (by omega)]; omega
  subst hr
  unfold rneed at hb hn
  rw [if_pos hs0] at hb hn
  have a : 0 ≤ c * (u - 1) := Int.mul_nonneg c0 (by omega)
  have e1 : wrap64 (c * (u - 1)) = c * (u - 1) := IntWalk.wrap64_in _ ⟨by omega, by omega⟩
  have e5 : wrap64 (s + c * (u - 1)) = s + c * (u - 1) := IntWalk.wrap64_in _ ⟨by omega, by omega⟩
  have e2 : ((s + c * (u - 1)) == 0) = false := by simp; omega
  clear hn hb
  go_enter Try.func41, Try.ntmps41
  go_wp2_with (go_at_call 55; refine (slook_ok _ _ _ _ H.out).mono ?_; rintro e w' ⟨rfl, rfl⟩)
  go_ret2
  exact ⟨rfl, rfl⟩
theorem bound_some (s u r c : Int) (W : World) (h : resumeOk s u r) (c0 : 0 ≤ c) (c1 : c ≤ 200) (hn : rneed s u c ≠ 0) (hr : r ≠ 0) :
    Calls Try.prog 41 #[.int .i64 s, .int .i64 u, .int .i64 r, .int .i64 c] W fun e w' => e = .returned (.tuple #[.int .i64 ((rneed s u c + r - 1) / r), .int .i64 0]) ∧ W = w' := by
  have hb := rneed_bd h c0 c1
  have H := Lib.hid h
  obtain ⟨r1, r2, r3, r4, r5, r6⟩ := h
  have hs0 : 0 < s := by
    rcases Int.lt_or_le 0 s with h' | h'
    · exact h'
    · exfalso; apply hn; unfold rneed; rw [if_neg (by omega)]; omega
  have hfin : Hid ((rneed s u c + r - 1) / r = (s + c * (u - 1) + r - 1) / r) := by unfold rneed; rw [if_pos hs0]; rfl
  unfold rneed at hb hn
  rw [if_pos hs0] at hb hn
  have a : 0 ≤ c * (u - 1) := Int.mul_nonneg c0 (by omega)
  have e1 : wrap64 (c * (u - 1)) = c * (u - 1) := IntWalk.wrap64_in _ ⟨by omega, by omega⟩
  have e5 : wrap64 (s + c * (u - 1)) = s + c * (u - 1) := IntWalk.wrap64_in _ ⟨by omega, by omega⟩
  have e2 : ((s + c * (u - 1)) == 0) = false := by simp; omega
  have e3 : (r == 0) = false := by simp [hr]
  have e6 : wrap64 (s + c * (u - 1) + r) = s + c * (u - 1) + r := IntWalk.wrap64_in _ ⟨by omega, by omega⟩
  have e7 : wrap64 (s + c * (u - 1) + r - 1) = s + c * (u - 1) + r - 1 := IntWalk.wrap64_in _ ⟨by omega, by omega⟩
  have d := Int.ediv_le_self r (show 0 ≤ s + c * (u - 1) + r - 1 by omega)
  have d0 : 0 ≤ (s + c * (u - 1) + r - 1) / r := Int.ediv_nonneg (by omega) (by omega)
  have e4 : wrap64 ((s + c * (u - 1) + r - 1) / r) = (s + c * (u - 1) + r - 1) / r := IntWalk.wrap64_in _ ⟨by omega, by omega⟩
  have r1' : 1 ≤ r := by omega
  have e8 : wrap64 ((s + c * (u - 1) + r - 1).tdiv r) = (s + c * (u - 1) + r - 1) / r := by rw [Int.tdiv_eq_ediv_of_nonneg (by omega)]; exact e4
  clear hn hb hr
  go_enter Try.func41, Try.ntmps41
  go_wp2_with (go_at_call 55; refine (slook_ok _ _ _ _ H.out).mono ?_; rintro e w' ⟨rfl, rfl⟩)
  go_ret2
  exact ⟨ret_int2 (e8.trans hfin.out.symm), rfl⟩
end Go.Proofs.Ytehdphkaknjlnaa
