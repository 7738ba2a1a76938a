/- ResumeBy: with no more crashes than assumed the object is complete by the computed time. -/
import Derived.Test.YtopldjklmjkcmaaResumeB
import Derived.Test.YtopldjklmjkcmaaEqual
set_option linter.unusedVariables false
namespace Go.Proofs.Ytopldjklmjkcmaa
open Go.RowKit
theorem run_ex (A : Option Addr) (c : Nat) (W : World) (hs : Sl W W.heap.size A 4 (bools [false, true, false, false])) :
    Calls Try.prog 23 #[.int .i64 7, .int .i64 3, .int .i64 2, .slice A 4 c] W fun e w' => ∃ A' c', e = .returned (.tuple #[.slice A' 4 c', .int .i64 0]) ∧
      Sl w' w'.heap.size A' 4 (ints [2, 3, 5, 7]) ∧ Below W.heap.size W w' :=
  (run_ok 7 3 2 A 4 c _ W (by unfold resumeOk; decide) (by decide) hs).mono fun _ _ ⟨A', c', h1, h2, h3, _⟩ => ⟨A', c', h1, by
    have e : rres 7 3 2 [false, true, false, false] 4 = [2, 3, 5, 7] := by decide
    rw [e] at h2
    exact h2, h3⟩
theorem bound_ex (W : World) : Calls Try.prog 24 #[.int .i64 7, .int .i64 3, .int .i64 2, .int .i64 1] W fun e w' => e = .returned (.tuple #[.int .i64 5, .int .i64 0]) ∧ W = w' :=
  bound_some 7 3 2 1 W (by unfold resumeOk; decide) (by decide) (by decide) (by decide) (by decide)
/-- Enough slots: all is there. -/
theorem resume_done {s u r : Int} (h : resumeOk s u r) (bs : List Bool) (k : Nat) (hr : r ≠ 0) (hk : (rneed s u (crashes bs k) + r - 1) / r ≤ k) : rgot s u r bs k = s := by
  have hb := rgot_bd h bs k
  rcases rgot_least h bs k with e | e
  · exact e
  · obtain ⟨h1, h2, h3, h4, h5, h6⟩ := h
    have m := Int.mul_ediv_add_emod (rneed s u (crashes bs k) + r - 1) r
    have m2 := Int.emod_lt_of_pos (rneed s u (crashes bs k) + r - 1) (show 0 < r by omega)
    have m3 : r * ((rneed s u (crashes bs k) + r - 1) / r) ≤ r * k := Int.mul_le_mul_of_nonneg_left hk h5
    have hn : s + crashes bs k * (u - 1) ≤ rneed s u (crashes bs k) ∨ s = 0 := by
      unfold rneed
      split
      · left; exact Int.le_refl _
      · right; omega
    omega
theorem resume_zero {s u r : Int} (h : resumeOk s u r) (bs : List Bool) (k : Nat) (hn : rneed s u (crashes bs k) = 0) : rgot s u r bs k = s := by
  have hb := rgot_bd h bs k
  have a : s = 0 := by
    unfold rneed at hn
    split at hn
    · have : 0 ≤ (crashes bs k : Int) * (u - 1) := Int.mul_nonneg (by omega) (by have := h.2.2.1; omega)
      omega
    · exact hn
  omega
set_option maxRecDepth 100000 in
set_option maxHeartbeats 1600000 in
theorem resumeBy_walk (s u r : Int) (A : Option Addr) (n c : Nat) (bs : List Bool) (W : World) (_ : -9223372036854775808 ≤ s ∧ s ≤ 9223372036854775807) (_ : -9223372036854775808 ≤ u ∧ u ≤ 9223372036854775807) (_ : -9223372036854775808 ≤ r ∧ r ≤ 9223372036854775807)
    (i1 : InBools W A n c bs) :
    Calls Try.prog 10 #[.int .i64 s, .int .i64 u, .int .i64 r, .slice A n c] W fun e w' => e = .returned (.bool true) ∧ Below W.heap.size W w' := by
  obtain ⟨s1, l1, r1⟩ := i1
  go_enter Try.func10, Try.ntmps10
  go_wp2_with fail
  refine (run_ex _ _ _ (by exact (Sl.built W (bools [false, true, false, false]) _ rfl).more (by simp))).mono ?_
  rintro e w1 ⟨A1, c1, rfl, hs1, hb1'⟩
  have hb1 : Below W.heap.size W w1 := (below_alloc (Below.refl _ W) (.cells (bools [false, true, false, false]).toArray 4)).trans (hb1'.mono (by simp))
  clear hb1'
  go_wp2_with fail
  refine (equal_any _ _ _ _ _ _ _ [2, 3, 5, 7] _ _ _ (hs1.alloc (Nat.le_refl _) _) (Sl.built w1 (ints [2, 3, 5, 7]) _ rfl) (by decide)).mono ?_
  rintro e w2 ⟨rfl, q, rfl⟩
  have hb2 := bel_drewN (below_alloc hb1 (.cells (ints [2, 3, 5, 7]).toArray 3)) q
  have s2 := s1.on hb2
  clear hs1 hb1 s1
  go_wp2_with fail
  refine (bound_ex _).mono ?_
  rintro e w' ⟨rfl, rfl⟩
  go_wp2_with fail
  by_cases hr : resumeOk s u r
  · by_cases hn : 200 < n
    · refine (run_large s u r A n c _ hr hn).mono ?_
      rintro e w3 ⟨rfl, rfl⟩
      clear s2
      go_wp2_with fail
      go_ret
      exact ⟨rfl, hb2⟩
    · refine (run_ok s u r A n c bs _ hr (by omega) s2).mono ?_
      rintro e w3 ⟨A3, c3, rfl, hs3, hb3, hcap⟩
      have hb : Below W.heap.size W w3 := hb2.trans (hb3.mono hb2.size)
      have s3 := s2.on hb3
      have H := Lib.hid hr
      clear hb2 hb3 s2 hr
      have hne : ((n : Int) != n) = false := by simp
      go_wp2_with fail
      go_loop [69, 15, 16, 17, 18, 19] (fun i cr _ _ _ _ => ∃ k : Nat, k ≤ n ∧ i = .int .i64 k ∧ cr = .int .i64 (crashes bs k)) (fun i _ _ _ _ _ => n - (intOf i).toNat)
      case atStart => exact ⟨0, Nat.zero_le _, rfl, rfl⟩
      case round =>
        obtain ⟨k, hk, rfl, rfl⟩ := hrel
        by_cases hlt : k < n
        · obtain ⟨b, off, rfl, hbl, hc⟩ := s3.bool_at hlt
          obtain ⟨b2, off2, rfl, hbl2, hc2⟩ := hs3.int_at hlt
          rw [rres_get _ _ _ _ hlt] at hc2
          have hn1 : (k : Int) < n := by omega
          have hk0 : (0 : Int) ≤ k := by omega
          have hcl := crashes_le bs k
          have hcl2 := crashes_le bs (k + 1)
          have hbd := rgot_bd H.out bs (k + 1)
          have hsz : ¬ (s < rgot s u r bs (k + 1)) := by omega
          have hcs := crashes_succ bs k
          have fin : ∀ (w : World), Calls Try.prog 24 #[.int .i64 s, .int .i64 u, .int .i64 r, .int .i64 (crashes bs (k + 1))] w fun e w' =>
              ∃ n' e', e = .returned (.tuple #[.int .i64 n', .int .i64 e']) ∧ ((e' = 0 ∧ ((k : Int) + 1 < n' ∨ rgot s u r bs (k + 1) = s)) ∨ e' = 5) ∧ w = w' := by
            intro w
            by_cases h0 : rneed s u (crashes bs (k + 1)) = 0
            · refine (bound_zero s u r _ w H.out (by omega) (by omega) h0).mono ?_
              rintro e w' ⟨rfl, rfl⟩
              exact ⟨0, 0, rfl, .inl ⟨rfl, .inr (resume_zero H.out bs _ h0)⟩, rfl⟩
            · by_cases hr0 : r = 0
              · refine (bound_none s u r _ w H.out (by omega) (by omega) h0 hr0).mono ?_
                rintro e w' ⟨rfl, rfl⟩
                exact ⟨0, 5, rfl, .inr rfl, rfl⟩
              · refine (bound_some s u r _ w H.out (by omega) (by omega) h0 hr0).mono ?_
                rintro e w' ⟨rfl, rfl⟩
                refine ⟨_, 0, rfl, .inl ⟨rfl, ?_⟩, rfl⟩
                rcases Int.lt_or_le ((k : Int) + 1) ((rneed s u (crashes bs (k + 1)) + r - 1) / r) with h' | h'
                · exact .inl h'
                · exact .inr (resume_done H.out bs (k + 1) hr0 (by rw [Int.natCast_succ]; exact h'))
          have FIN := Lib.hid fin
          clear fin s3 hs3
          cases hgb : gb bs k with
          | true =>
            rw [hgb] at hc hcs
            simp only [if_true] at hcs
            have HCS := Lib.hid hcs
            have HGB := Lib.hid hgb
            clear hcs hgb
            go_wp2_with fail
            rw [show ((crashes bs k : Int) + 1) = (crashes bs (k + 1) : Int) by rw [HCS.out]; rfl]
            refine (FIN.out _).mono ?_
            rintro e w' ⟨n', e', rfl, hcase, rfl⟩
            rcases hcase with ⟨rfl, hx | hx⟩ | rfl
            · have hx' : ¬ (n' ≤ (k : Int) + 1) := by omega
              go_wp2_with fail
              go_round
              case rel => exact ⟨k + 1, by omega, by go_num, rfl⟩
              case measure => simp [intOf]; omega
            · have hx' : (rgot s u r bs (k + 1) != s) = false := by simp [hx]
              have HX := Lib.hid hx
              clear hx
              by_cases hy : n' ≤ (k : Int) + 1
              · go_wp2_with fail
                go_round
                case rel => exact ⟨k + 1, by omega, by go_num, rfl⟩
                case measure => simp [intOf]; omega
              · go_wp2_with fail
                go_round
                case rel => exact ⟨k + 1, by omega, by go_num, rfl⟩
                case measure => simp [intOf]; omega
            · go_wp2_with fail
              go_round
              case rel => exact ⟨k + 1, by omega, by go_num, rfl⟩
              case measure => simp [intOf]; omega
          | false =>
            rw [hgb] at hc hcs
            simp only [Bool.false_eq_true, if_false, Nat.add_zero] at hcs
            have HCS := Lib.hid hcs
            clear hcs hgb
            go_wp2_with fail
            rw [← HCS.out]
            refine (FIN.out _).mono ?_
            rintro e w' ⟨n', e', rfl, hcase, rfl⟩
            rcases hcase with ⟨rfl, hx | hx⟩ | rfl
            · have hx' : ¬ (n' ≤ (k : Int) + 1) := by omega
              go_wp2_with fail
              go_round
              case rel => exact ⟨k + 1, by omega, by go_num, by rw [HCS.out]⟩
              case measure => simp [intOf]; omega
            · have hx' : (rgot s u r bs (k + 1) != s) = false := by simp [hx]
              have HX := Lib.hid hx
              clear hx
              by_cases hy : n' ≤ (k : Int) + 1
              · go_wp2_with fail
                go_round
                case rel => exact ⟨k + 1, by omega, by go_num, by rw [HCS.out]⟩
                case measure => simp [intOf]; omega
              · go_wp2_with fail
                go_round
                case rel => exact ⟨k + 1, by omega, by go_num, by rw [HCS.out]⟩
                case measure => simp [intOf]; omega
            · go_wp2_with fail
              go_round
              case rel => exact ⟨k + 1, by omega, by go_num, by rw [HCS.out]⟩
              case measure => simp [intOf]; omega
        · have hkn : k = n := by omega
          subst hkn
          clear s3 hs3
          go_wp2_with fail
          go_ret
          exact ⟨rfl, hb⟩
  · refine (run_bad s u r A n c _ hr).mono ?_
    rintro e w3 ⟨rfl, rfl⟩
    clear s2
    go_wp2_with fail
    go_ret
    exact ⟨rfl, hb2⟩
end Go.Proofs.Ytopldjklmjkcmaa
