/- WindowForm: the closed forms of the sending times. -/
import Derived.Test.YtopldjklmjkcmaaWinC
import Derived.Test.YtopldjklmjkcmaaEqual
set_option linter.unusedVariables false
namespace Go.Proofs.Ytopldjklmjkcmaa
open Go.RowKit
theorem sent_524 (W : World) : Calls Try.prog 17 #[.int .i64 5, .int .i64 2, .int .i64 4] W fun e w' => ∃ A c, e = .returned (.tuple #[.slice A 5 c, .int .i64 0]) ∧
    Sl w' w'.heap.size A 5 (ints [0, 1, 4, 5, 8]) ∧ Below W.heap.size W w' :=
  (sent_ok 5 2 4 W (by unfold winOk; decide)).mono fun _ _ ⟨A, c, h1, h2, h3, _⟩ => ⟨A, c, h1, h2, h3⟩
theorem wtime_ge (w t i : Nat) (h : t ≤ w) : wtime w t i = i := by unfold wtime; rw [if_pos h]
theorem wtime_lt (w t i : Nat) (h : w < t) : wtime w t i = i / w * t + i % w := by unfold wtime; rw [if_neg (by omega)]
set_option maxRecDepth 100000 in
set_option maxHeartbeats 800000 in
theorem windowForm_walk (n w t : Int) (W : World) (_ : -9223372036854775808 ≤ n ∧ n ≤ 9223372036854775807) (_ : -9223372036854775808 ≤ w ∧ w ≤ 9223372036854775807) (_ : -9223372036854775808 ≤ t ∧ t ≤ 9223372036854775807) :
    Calls Try.prog 6 #[.int .i64 n, .int .i64 w, .int .i64 t] W fun e w' => e = .returned (.bool true) ∧ Below W.heap.size W w' := by
  by_cases h : winOk n w t
  · obtain ⟨a1, a2, a3, a4, a5, a6⟩ := h
    obtain ⟨n, rfl⟩ := Int.eq_ofNat_of_zero_le a1
    obtain ⟨w, rfl⟩ := Int.eq_ofNat_of_zero_le (show 0 ≤ w by omega)
    obtain ⟨t, rfl⟩ := Int.eq_ofNat_of_zero_le (show 0 ≤ t by omega)
    rcases Nat.eq_zero_or_pos n with rfl | hpos
    · go_enter Try.func6, Try.ntmps6
      go_wp2_with fail
      refine (sent_524 _).mono ?_
      rintro e w1 ⟨A1, c1, rfl, hs1, hb1⟩
      go_wp2_with fail
      refine (equal_any _ _ _ _ _ _ _ [0, 1, 4, 5, 8] _ _ _ (hs1.alloc (Nat.le_refl _) _) (Sl.built w1 (ints [0, 1, 4, 5, 8]) _ rfl) (by decide)).mono ?_
      rintro e w2 ⟨rfl, q, rfl⟩
      have hb2 := bel_drewN (below_alloc hb1 (.cells (ints [0, 1, 4, 5, 8]).toArray 3)) q
      go_wp2_with fail
      refine (sent_ok 0 w t _ ⟨a1, a2, a3, a4, a5, a6⟩).mono ?_
      rintro e w3 ⟨A3, c3, rfl, hs3, hb3, _⟩
      go_wp2_with fail
      refine (done_ok 0 w t _ ⟨a1, a2, a3, a4, a5, a6⟩).mono ?_
      rintro e w4 ⟨rfl, hb4⟩
      have hb : Below W.heap.size W w4 := (hb2.trans (hb3.mono hb2.size)).trans (hb4.mono (Nat.le_trans hb2.size hb3.size))
      have hD : doneAt 0 w t = 0 := by unfold doneAt; rfl
      go_wp2_with fail
      go_ret
      exact ⟨rfl, hb⟩
    · have hn0 : ((n : Int) == 0) = false := by simp; omega
      have hln : (((sentList n w t).length : Int) != n) = false := by simp [sentList, wlist_len]
      go_enter Try.func6, Try.ntmps6
      go_wp2_with fail
      refine (sent_524 _).mono ?_
      rintro e w1 ⟨A1, c1, rfl, hs1, hb1⟩
      go_wp2_with fail
      refine (equal_any _ _ _ _ _ _ _ [0, 1, 4, 5, 8] _ _ _ (hs1.alloc (Nat.le_refl _) _) (Sl.built w1 (ints [0, 1, 4, 5, 8]) _ rfl) (by decide)).mono ?_
      rintro e w2 ⟨rfl, q, rfl⟩
      have hb2 := bel_drewN (below_alloc hb1 (.cells (ints [0, 1, 4, 5, 8]).toArray 3)) q
      go_wp2_with fail
      refine (sent_ok n w t _ ⟨a1, a2, a3, a4, a5, a6⟩).mono ?_
      rintro e w3 ⟨A3, c3, rfl, hs3, hb3, _⟩
      go_wp2_with fail
      refine (done_ok n w t _ ⟨a1, a2, a3, a4, a5, a6⟩).mono ?_
      rintro e w4 ⟨rfl, hb4⟩
      go_wp2_with fail
      have hb : Below W.heap.size W w4 := (hb2.trans (hb3.mono hb2.size)).trans (hb4.mono (Nat.le_trans hb2.size hb3.size))
      have hs := hs3.on hb4
      clear hs1 hb1 hb2 hb3 hb4 hs3
      go_loopw [65] (fun i wr => ∃ k : Nat, k ≤ n ∧ i = .int .i64 k ∧ ∃ q, wr = w4.drewN q) (fun i _ => n - (intOf i).toNat)
      case atStart => exact ⟨0, Nat.zero_le _, rfl, 0, rfl⟩
      case round =>
        obtain ⟨k, hk, rfl, q, rfl⟩ := hrel
        by_cases hlt : k < n
        · obtain ⟨b, off, rfl, hbl, hc⟩ := hs.int_at hlt
          unfold sentList at hc
          rw [wlist_get _ _ _ _ (by simp; omega)] at hc
          simp only [Int.toNat_natCast] at hc
          have hn1 : (k : Int) < n := by omega
          have hk0 : (0 : Int) ≤ k := by omega
          by_cases hT : t ≤ w
          · rw [wtime_ge w t k hT] at hc
            have t1 : decide (t ≤ w) = true := by simp; omega
            have t2 : decide (w < t) = false := by simp; omega
            clear hs a1 a2 a3 a4 a5 a6 hln hn0
            go_wp2
            go_quiet (fail)
            go_wp2
            go_roundw
            case rel => exact ⟨k + 1, by omega, by go_num, _, rfl⟩
            case measure => simp [intOf]; omega
          · have hbd := wtime_bd w t k (by omega) (by omega) (by omega) (by omega)
            rw [wtime_lt w t k (by omega)] at hc hbd
            have hfin : (((k : Int) / w * t + (k : Int) % w) != wrap64 (wrap64 (wrap64 ((k : Int) / w) * t) + (k : Int) % w)) = false := by
              rw [show (k : Int) / w = ((k / w : Nat) : Int) from rfl, show (k : Int) % w = ((k % w : Nat) : Int) from rfl]
              have hq := Nat.div_le_self k w
              generalize k / w = Q at *
              generalize k % w = R at *
              rw [IntWalk.wrap64_in (Q : Int) ⟨by omega, by omega⟩, show (Q : Int) * t = ((Q * t : Nat) : Int) from rfl]
              generalize Q * t = M at *
              rw [IntWalk.wrap64_in (M : Int) ⟨by omega, by omega⟩, IntWalk.wrap64_in ((M : Int) + R) ⟨by omega, by omega⟩]
              simp
            have hw0 : ((w : Int) == 0) = false := by simp; omega
            have t1 : decide (t ≤ w) = false := by simp; omega
            have t2 : decide (w < t) = true := by simp; omega
            clear hs a1 a2 a4 a5 a6 hln hn0 hbd
            go_wp2
            go_quiet (fail)
            go_wp2
            go_roundw
            case rel => exact ⟨k + 1, by omega, by go_num, _, rfl⟩
            case measure => simp [intOf]; omega
        · obtain ⟨b, off, rfl, hbl, hc⟩ := hs.int_at (k := n - 1) (by omega)
          unfold sentList at hc
          rw [wlist_get _ _ _ _ (by simp; omega)] at hc
          simp only [Int.toNat_natCast] at hc
          have hbd := wtime_bd w t (n - 1) (by omega) (by omega) (by omega) (by omega)
          have hD : doneAt n w t = (wtime w t (n - 1) : Int) + t := by
            rw [doneAt_pos (by omega)]
            simp
          clear hs hn0 hln
          go_wp2
          go_ret
          exact ⟨rfl, bel_drewN hb _⟩
  · go_enter Try.func6, Try.ntmps6
    go_wp2_with fail
    refine (sent_524 _).mono ?_
    rintro e w1 ⟨A1, c1, rfl, hs1, hb1⟩
    go_wp2_with fail
    refine (equal_any _ _ _ _ _ _ _ [0, 1, 4, 5, 8] _ _ _ (hs1.alloc (Nat.le_refl _) _) (Sl.built w1 (ints [0, 1, 4, 5, 8]) _ rfl) (by decide)).mono ?_
    rintro e w2 ⟨rfl, q, rfl⟩
    have hb2 := bel_drewN (below_alloc hb1 (.cells (ints [0, 1, 4, 5, 8]).toArray 3)) q
    go_wp2_with fail
    refine (sent_bad n w t _ h).mono ?_
    rintro e w3 ⟨rfl, rfl⟩
    go_wp2_with fail
    refine (done_bad n w t _ h).mono ?_
    rintro e w4 ⟨rfl, rfl⟩
    go_wp2_with fail
    go_ret
    exact ⟨rfl, hb2⟩
end Go.Proofs.Ytopldjklmjkcmaa
