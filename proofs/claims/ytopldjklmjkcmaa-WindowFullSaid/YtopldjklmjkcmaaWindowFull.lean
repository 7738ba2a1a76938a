/- WindowFull: at most a window is on the way, and none waits in vain. -/
import Derived.Test.YtopldjklmjkcmaaWinC
import Derived.Test.YtopldjklmjkcmaaEqual
import Derived.Test.YtopldjklmjkcmaaWindowGrows
set_option linter.unusedVariables false
namespace Go.Proofs.Ytopldjklmjkcmaa
open Go.RowKit
theorem sent_315 (W : World) : Calls Try.prog 17 #[.int .i64 3, .int .i64 1, .int .i64 5] W fun e w' => ∃ A c, e = .returned (.tuple #[.slice A 3 c, .int .i64 0]) ∧
    Sl w' w'.heap.size A 3 (ints [0, 5, 10]) ∧ Below W.heap.size W w' :=
  (sent_ok 3 1 5 W (by unfold winOk; decide)).mono fun _ _ ⟨A, c, h1, h2, h3, _⟩ => ⟨A, c, h1, h2, h3⟩
theorem wtime_lag (w t i j : Nat) (hw : 1 ≤ w) (ht : 1 ≤ t) (h : j + w ≤ i) : wtime w t j + t ≤ wtime w t i := by
  have a := wtime_mono_i w t j hw ht (i - w - j)
  rw [show j + (i - w - j) = i - w by omega] at a
  rw [wtime_step w t i hw ht (by omega), if_pos (by omega)]
  omega
theorem wtime_prev (w t i : Nat) (hw : 1 ≤ w) (ht : 1 ≤ t) (h : 0 < i) : wtime w t (i - 1) + 1 ≤ wtime w t i := by
  rw [wtime_step w t i hw ht h]
  split <;> omega
theorem wtime_why (w t i : Nat) (hw : 1 ≤ w) (ht : 1 ≤ t) (h : 0 < i) (h2 : wtime w t (i - 1) + 1 < wtime w t i) : w ≤ i ∧ wtime w t i = wtime w t (i - w) + t := by
  have e := wtime_step w t i hw ht h
  split at e
  · exact ⟨by assumption, by omega⟩
  · omega
set_option maxRecDepth 100000 in
set_option maxHeartbeats 1600000 in
theorem windowFull_walk (n w t : Int) (W : World) (_ : -9223372036854775808 ≤ n ∧ n ≤ 9223372036854775807) (_ : -9223372036854775808 ≤ w ∧ w ≤ 9223372036854775807) (_ : -9223372036854775808 ≤ t ∧ t ≤ 9223372036854775807) :
    Calls Try.prog 4 #[.int .i64 n, .int .i64 w, .int .i64 t] W fun e w' => e = .returned (.bool true) ∧ Below W.heap.size W w' := by
  by_cases h : winOk n w t
  · obtain ⟨a1, a2, a3, a4, a5, a6⟩ := h
    obtain ⟨n, rfl⟩ := Int.eq_ofNat_of_zero_le a1
    obtain ⟨w, rfl⟩ := Int.eq_ofNat_of_zero_le (show 0 ≤ w by omega)
    obtain ⟨t, rfl⟩ := Int.eq_ofNat_of_zero_le (show 0 ≤ t by omega)
    go_enter Try.func4, Try.ntmps4
    go_wp2_with fail
    refine (sent_315 _).mono ?_
    rintro e w1 ⟨A1, c1, rfl, hs1, hb1⟩
    go_wp2_with fail
    refine (equal_any _ _ _ _ _ _ _ [0, 5, 10] _ _ _ (hs1.alloc (Nat.le_refl _) _) (Sl.built w1 (ints [0, 5, 10]) _ rfl) (by decide)).mono ?_
    rintro e w2 ⟨rfl, q, rfl⟩
    have hb2 := bel_drewN (below_alloc hb1 (.cells (ints [0, 5, 10]).toArray 3)) q
    go_wp2_with fail
    refine (sent_ok n w t _ ⟨a1, a2, a3, a4, a5, a6⟩).mono ?_
    rintro e w3 ⟨A3, c3, rfl, hs, hb3, hcap⟩
    have hb : Below W.heap.size W w3 := hb2.trans (hb3.mono hb2.size)
    clear hs1 hb1 hb2 hb3
    simp only [Int.toNat_natCast] at hcap
    go_wp2_with fail
    go_loop [42, 11, 12, 13, 15] (fun i _ _ _ _ => ∃ k : Nat, k ≤ n ∧ i = .int .i64 k) (fun i _ _ _ _ => n - (intOf i).toNat)
    case atStart => exact ⟨0, Nat.zero_le _, rfl⟩
    case round =>
      obtain ⟨i, hi, rfl⟩ := hrel
      by_cases hlt : i < n
      · obtain ⟨b, off, rfl, hbl, hc⟩ := hs.int_at hlt
        unfold sentList at hc
        rw [wlist_get _ _ _ _ (by simp; omega)] at hc
        simp only [Int.toNat_natCast] at hc
        have hn1 : (i : Int) < n := by omega
        have hk0 : (0 : Int) ≤ i := by omega
        have hbd := wtime_bd w t i (by omega) (by omega) (by omega) (by omega)
        have HC := Lib.hid hcap
        go_wp2
        go_loop [13, 15, 52] (fun y _ j => ∃ m d : Nat, m ≤ i + 1 ∧ j = .int .i64 m ∧ y = .int .i64 d ∧ d ≤ m - (i + 1 - w)) (fun _ _ j => i + 1 - (intOf j).toNat)
        case atStart => exact ⟨0, 0, by omega, rfl, rfl, by omega⟩
        case round =>
          obtain ⟨m, d, hm, rfl, rfl, hd⟩ := hrel
          by_cases hlt2 : m < i + 1
          · have hc2 := hs.int_cell (k := m) (by omega)
            unfold sentList at hc2
            rw [wlist_get _ _ _ _ (by simp; omega)] at hc2
            simp only [Int.toNat_natCast] at hc2
            have hm1 : (m : Int) < i + 1 := by omega
            have hm0 : (0 : Int) ≤ m := by omega
            have hbd2 := wtime_bd w t m (by omega) (by omega) (by omega) (by omega)
            have hlag : m + w ≤ i → wtime w t m + t ≤ wtime w t i := wtime_lag w t i m (by omega) (by omega)
            by_cases hcnt : (wtime w t i : Int) < wtime w t m + t
            · have hnl : ¬ m + w ≤ i := by omega
              clear hs hlag
              go_wp2
              go_round
              case rel => exact ⟨m + 1, d + 1, by omega, by go_num, by go_num, by omega⟩
              case measure => simp [intOf]; omega
            · clear hs hlag
              go_wp2
              go_round
              case rel => exact ⟨m + 1, d, by omega, by go_num, rfl, by omega⟩
              case measure => simp [intOf]; omega
          · obtain rfl : m = i + 1 := by omega
            have hdw : (d : Int) ≤ w := by omega
            rcases Nat.eq_zero_or_pos i with rfl | h0
            · clear hs
              go_wp2
              go_round
              case rel => exact ⟨0 + 1, by omega, rfl⟩
              case measure => simp [intOf]; omega
            · have hp := wtime_prev w t i (by omega) (by omega) h0
              have hwhy := wtime_why w t i (by omega) (by omega) h0
              have hc2 := hs.int_cell (k := i - 1) (by omega)
              unfold sentList at hc2
              rw [wlist_get _ _ _ _ (by simp; omega)] at hc2
              simp only [Int.toNat_natCast] at hc2
              have hp' : ¬ ((wtime w t i : Int) ≤ wtime w t (i - 1)) := by omega
              have h0' : (0 : Int) < i := by omega
              by_cases hgap : wtime w t (i - 1) + 1 < wtime w t i
              · obtain ⟨hwi, hwe⟩ := hwhy hgap
                have hc3 := hs.int_cell (k := i - w) (by omega)
                unfold sentList at hc3
                rw [wlist_get _ _ _ _ (by simp; omega)] at hc3
                simp only [Int.toNat_natCast] at hc3
                have hgap' : ((wtime w t (i - 1) : Int) + 1 < wtime w t i) := by omega
                have hne : ((wtime w t i : Int) != wtime w t (i - w) + t) = false := by simp; omega
                have hbd3 : wtime w t (i - w) ≤ 40000 := by omega
                have hwi' : ¬ ((i : Int) < w) := by omega
                clear hs hwhy hwe hgap hp
                go_wp2
                go_round
                case rel => exact ⟨i + 1, by omega, by go_num⟩
                case measure => simp [intOf]; omega
              · have hgap' : ¬ ((wtime w t (i - 1) : Int) + 1 < wtime w t i) := by omega
                clear hs hwhy hgap
                go_wp2
                go_round
                case rel => exact ⟨i + 1, by omega, by go_num⟩
                case measure => simp [intOf]; omega
      · have hnn : i = n := by omega
        subst hnn
        clear hs
        go_wp2
        go_ret
        exact ⟨rfl, hb⟩
  · go_enter Try.func4, Try.ntmps4
    go_wp2_with fail
    refine (sent_315 _).mono ?_
    rintro e w1 ⟨A1, c1, rfl, hs1, hb1⟩
    go_wp2_with fail
    refine (equal_any _ _ _ _ _ _ _ [0, 5, 10] _ _ _ (hs1.alloc (Nat.le_refl _) _) (Sl.built w1 (ints [0, 5, 10]) _ rfl) (by decide)).mono ?_
    rintro e w2 ⟨rfl, q, rfl⟩
    have hb2 := bel_drewN (below_alloc hb1 (.cells (ints [0, 5, 10]).toArray 3)) q
    go_wp2_with fail
    refine (sent_bad n w t _ h).mono ?_
    rintro e w3 ⟨rfl, rfl⟩
    go_wp2_with fail
    go_ret
    exact ⟨rfl, hb2⟩
end Go.Proofs.Ytopldjklmjkcmaa
