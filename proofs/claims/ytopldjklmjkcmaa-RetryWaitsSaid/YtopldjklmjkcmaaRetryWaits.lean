/- RetryWaits: waits never get shorter, are bounded, at most double, and add up. -/
import Derived.Test.YtopldjklmjkcmaaRetryB
import Derived.Test.YtopldjklmjkcmaaEqual
set_option linter.unusedVariables false
namespace Go.Proofs.Ytopldjklmjkcmaa
open Go.RowKit
theorem waits_ex (W : World) : Calls Try.prog 19 #[.int .i64 3, .int .i64 10, .int .i64 4] W fun e w' => ∃ A c, e = .returned (.tuple #[.slice A 4 c, .int .i64 0]) ∧
    Sl w' w'.heap.size A 4 (ints [3, 6, 10, 10]) ∧ Below W.heap.size W w' :=
  (waits_ok 3 10 4 W (by unfold retryOk; decide) (by decide)).mono fun _ _ ⟨A, c, h1, h2, h3, _⟩ => ⟨A, c, h1, h2, h3⟩
set_option maxRecDepth 100000 in
set_option maxHeartbeats 1600000 in
theorem retryWaits_walk (f m n : Int) (W : World) (_ : -9223372036854775808 ≤ f ∧ f ≤ 9223372036854775807) (_ : -9223372036854775808 ≤ m ∧ m ≤ 9223372036854775807) (_ : -9223372036854775808 ≤ n ∧ n ≤ 9223372036854775807) :
    Calls Try.prog 7 #[.int .i64 f, .int .i64 m, .int .i64 n] W fun e w' => e = .returned (.bool true) ∧ Below W.heap.size W w' := by
  go_enter Try.func7, Try.ntmps7
  go_wp2_with fail
  refine (waits_ex _).mono ?_
  rintro e w1 ⟨A1, c1, rfl, hs1, hb1⟩
  go_wp2_with fail
  refine (equal_any _ _ _ _ _ _ _ [3, 6, 10, 10] _ _ _ (hs1.alloc (Nat.le_refl _) _) (Sl.built w1 (ints [3, 6, 10, 10]) _ rfl) (by decide)).mono ?_
  rintro e w2 ⟨rfl, q, rfl⟩
  have hb2 := bel_drewN (below_alloc hb1 (.cells (ints [3, 6, 10, 10]).toArray 3)) q
  clear hs1 hb1
  go_wp2_with fail
  by_cases h : retryOk f m ∧ 0 ≤ n ∧ n ≤ 40
  · obtain ⟨hr, n1, n2⟩ := h
    obtain ⟨n, rfl⟩ := Int.eq_ofNat_of_zero_le n1
    refine (waits_ok f m n _ hr (by omega)).mono ?_
    rintro e w3 ⟨A3, c3, rfl, hs, hb3, hcap⟩
    have hb : Below W.heap.size W w3 := hb2.trans (hb3.mono hb2.size)
    have H := Lib.hid hr
    clear hr hb2 hb3
    go_wp2_with fail
    go_loop [40, 11, 12, 13] (fun i s _ _ => ∃ k : Nat, k ≤ n ∧ i = .int .i64 k ∧ s = .int .i64 (rtime f m k)) (fun i _ _ _ => n - (intOf i).toNat)
    case atStart => exact ⟨0, Nat.zero_le _, rfl, rfl⟩
    case round =>
      obtain ⟨k, hk, rfl, rfl⟩ := hrel
      have ht := rtime_le H.out k (by omega)
      by_cases hlt : k < n
      · obtain ⟨b, off, rfl, hbl, hc⟩ := hs.int_at hlt
        rw [rlist_get _ _ hlt] at hc
        have hn1 : (k : Int) < n := by omega
        have hk0 : (0 : Int) ≤ k := by omega
        have hw := rwait_bd H.out k
        obtain ⟨r1, r2, r3⟩ := H.out
        rcases Nat.eq_zero_or_pos k with rfl | h0
        · have hw0 : Hid (rwait f m 0 = f) := rfl
          rw [hw0.out] at hc hw
          rw [Nat.add_zero] at hc
          have hft : ∀ x : Int, rtime f m 0 + f = rtime f m (0 + 1) := fun _ => rfl
          have hff : (f != f) = false := by simp
          clear hs
          go_wp2
          go_round
          case rel => exact ⟨0 + 1, by omega, rfl, by rw [rtime_succ, hw0.out]⟩
          case measure => simp [intOf]; omega
        · have hc2 := hs.int_cell (k := k - 1) (by omega)
          rw [rlist_get _ _ (by omega)] at hc2
          have hw2 := rwait_bd H.out (k - 1)
          have hs' := rwait_succ f m (k - 1)
          rw [show k - 1 + 1 = k by omega] at hs'
          have g1 : ¬ (rwait f m k < rwait f m (k - 1)) := by rw [hs']; split <;> omega
          have g2 : ¬ (2 * rwait f m (k - 1) < rwait f m k) := by rw [hs']; split <;> omega
          have g3 : ((k : Int) == 0) = false := by simp; omega
          have g4 : (0 : Int) < k := by omega
          clear hs hs'
          go_wp2
          go_round
          case rel => exact ⟨k + 1, by omega, by go_num, by rw [rtime_succ]⟩
          case measure => simp [intOf]; omega
      · have hkn : k = n := by omega
        subst hkn
        have hbd := rtime_bd H.out k
        obtain ⟨r1, r2, r3⟩ := H.out
        have p1 : (k : Int) * m ≤ 40 * 1000000 := Int.mul_le_mul (by omega) r3 (by omega) (by omega)
        have p2 : (k : Int) * f ≤ 40 * 1000000 := Int.mul_le_mul (by omega) (by omega) (by omega) (by omega)
        have p3 : 0 ≤ (k : Int) * f := Int.mul_nonneg (by omega) (by omega)
        have p4 : 0 ≤ (k : Int) * m := Int.mul_nonneg (by omega) (by omega)
        have e1 : wrap64 ((k : Int) * f) = (k : Int) * f := IntWalk.wrap64_in _ ⟨by omega, by omega⟩
        have e2 : wrap64 ((k : Int) * m) = (k : Int) * m := IntWalk.wrap64_in _ ⟨by omega, by omega⟩
        have d1 := hbd.1
        have d2 := hbd.2
        clear hs hbd
        go_wp2
        go_ret
        exact ⟨rfl, hb⟩
  · refine (waits_bad f m n _ h).mono ?_
    rintro e w3 ⟨rfl, rfl⟩
    clear h
    go_wp2_with fail
    go_ret
    exact ⟨rfl, hb2⟩
end Go.Proofs.Ytopldjklmjkcmaa
