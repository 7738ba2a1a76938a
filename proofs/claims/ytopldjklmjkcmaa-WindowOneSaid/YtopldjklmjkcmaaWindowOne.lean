/- WindowOne: a window of one sends one piece a trip, and a greater window delays no piece. -/
import Derived.Test.YtopldjklmjkcmaaWinC
import Derived.Test.YtopldjklmjkcmaaEqual
import Derived.Test.YtopldjklmjkcmaaWindowGrows
set_option linter.unusedVariables false
namespace Go.Proofs.Ytopldjklmjkcmaa
open Go.RowKit
theorem sent_217 (W : World) : Calls Try.prog 17 #[.int .i64 2, .int .i64 1, .int .i64 7] W fun e w' => ∃ A c, e = .returned (.tuple #[.slice A 2 c, .int .i64 0]) ∧
    Sl w' w'.heap.size A 2 (ints [0, 7]) ∧ Below W.heap.size W w' :=
  (sent_ok 2 1 7 W (by unfold winOk; decide)).mono fun _ _ ⟨A, c, h1, h2, h3, _⟩ => ⟨A, c, h1, h2, h3⟩
theorem wtime_one (t i : Nat) (h : 1 ≤ t) : wtime 1 t i = i * t := by
  unfold wtime
  split
  · have : t = 1 := by omega
    subst this
    omega
  · rw [Nat.div_one, Nat.mod_one]
    omega
theorem wtime_own (w t i : Nat) (hw : 1 ≤ w) (h : 1 ≤ t) : i ≤ wtime w t i := by
  induction i with
  | zero => omega
  | succ i ih =>
    rw [wtime_step w t (i + 1) hw h (by omega), Nat.add_sub_cancel]
    split <;> omega
theorem sentList_at (n w t i : Nat) (h : i < n) : gi (sentList n w t) i = wtime w t i := by
  unfold sentList
  rw [wlist_get _ _ _ _ (by simp; omega)]
  simp
set_option maxRecDepth 100000 in
set_option maxHeartbeats 1600000 in
theorem windowOne_walk (n w t : Int) (W : World) (_ : -9223372036854775808 ≤ n ∧ n ≤ 9223372036854775807) (_ : -9223372036854775808 ≤ w ∧ w ≤ 9223372036854775807) (_ : -9223372036854775808 ≤ t ∧ t ≤ 9223372036854775807) :
    Calls Try.prog 5 #[.int .i64 n, .int .i64 w, .int .i64 t] W fun e w' => e = .returned (.bool true) ∧ Below W.heap.size W w' := by
  by_cases h : winOk n w t
  · obtain ⟨a1, a2, a3, a4, a5, a6⟩ := h
    obtain ⟨n, rfl⟩ := Int.eq_ofNat_of_zero_le a1
    obtain ⟨w, rfl⟩ := Int.eq_ofNat_of_zero_le (show 0 ≤ w by omega)
    obtain ⟨t, rfl⟩ := Int.eq_ofNat_of_zero_le (show 0 ≤ t by omega)
    by_cases h200 : (200 : Int) ≤ w
    · go_enter Try.func5, Try.ntmps5
      go_wp2_with fail
      refine (sent_217 _).mono ?_
      rintro e w1 ⟨A1, c1, rfl, hs1, hb1⟩
      go_wp2_with fail
      refine (equal_any _ _ _ _ _ _ _ [0, 7] _ _ _ (hs1.alloc (Nat.le_refl _) _) (Sl.built w1 (ints [0, 7]) _ rfl) (by decide)).mono ?_
      rintro e w2 ⟨rfl, q, rfl⟩
      have hb2 := bel_drewN (below_alloc hb1 (.cells (ints [0, 7]).toArray 3)) q
      go_wp2_with fail
      refine (sent_ok n w t _ ⟨a1, a2, a3, a4, a5, a6⟩).mono ?_
      rintro e w3 ⟨A3, c3, rfl, hs, hb3, hcap⟩
      have hb : Below W.heap.size W w3 := hb2.trans (hb3.mono hb2.size)
      go_wp2_with fail
      go_ret
      exact ⟨rfl, hb⟩
    · go_enter Try.func5, Try.ntmps5
      go_wp2_with fail
      refine (sent_217 _).mono ?_
      rintro e w1 ⟨A1, c1, rfl, hs1, hb1⟩
      go_wp2_with fail
      refine (equal_any _ _ _ _ _ _ _ [0, 7] _ _ _ (hs1.alloc (Nat.le_refl _) _) (Sl.built w1 (ints [0, 7]) _ rfl) (by decide)).mono ?_
      rintro e w2 ⟨rfl, q, rfl⟩
      have hb2 := bel_drewN (below_alloc hb1 (.cells (ints [0, 7]).toArray 3)) q
      go_wp2_with fail
      refine (sent_ok n w t _ ⟨a1, a2, a3, a4, a5, a6⟩).mono ?_
      rintro e w3 ⟨A3, c3, rfl, hs, hb3, hcap⟩
      have hb4 : Below W.heap.size W w3 := hb2.trans (hb3.mono hb2.size)
      go_wp2_with fail
      refine (sent_ok n (w + 1 : Nat) t _ ⟨a1, a2, by omega, by omega, a5, a6⟩).mono ?_
      rintro e w4 ⟨A4, c4, rfl, hs4, hb5, hcap4⟩
      have hb6 : Below W.heap.size W w4 := hb4.trans (hb5.mono hb4.size)
      have hs' := hs.on hb5
      go_wp2_with fail
      refine (sent_ok n (1 : Nat) t _ ⟨a1, a2, by omega, by omega, a5, a6⟩).mono ?_
      rintro e w5 ⟨A5, c5, rfl, hs5, hb7, hcap5⟩
      have hb : Below W.heap.size W w5 := hb6.trans (hb7.mono hb6.size)
      have hx := hs'.on hb7
      have hy := hs4.on hb7
      clear hs1 hb1 hb2 hb3 hs' hb4 hs4 hb5 hb6 hb7 hs hcap hcap4 hcap5
      have hne : ((n : Int) != n) = false := by simp
      go_wp2_with fail
      go_loopw [88] (fun i wr => ∃ k : Nat, k ≤ n ∧ i = .int .i64 k ∧ ∃ q, wr = w5.drewN q) (fun i _ => n - (intOf i).toNat)
      case atStart => exact ⟨0, Nat.zero_le _, rfl, 0, rfl⟩
      case round =>
        obtain ⟨k, hk, rfl, q, rfl⟩ := hrel
        by_cases hlt : k < n
        · obtain ⟨b1, o1, rfl, l1, k1⟩ := hx.int_at hlt
          obtain ⟨b2, o2, rfl, l2, k2⟩ := hy.int_at hlt
          obtain ⟨b3, o3, rfl, l3, k3⟩ := hs5.int_at hlt
          rw [sentList_at _ _ _ _ hlt] at k1 k2 k3
          rw [wtime_one t k (by omega)] at k3
          have hn1 : (k : Int) < n := by omega
          have hk0 : (0 : Int) ≤ k := by omega
          have hm := wtime_mono_w w (w + 1) t k (by omega) (by omega) (by omega)
          have ho := wtime_own w t k (by omega) (by omega)
          have t1 : decide (wtime w t k < wtime (w + 1) t k) = false := by simp; omega
          have t2 : decide (wtime w t k < k) = false := by simp; omega
          have hkt : k * t ≤ 200 * 200 := Nat.mul_le_mul (by omega) (by omega)
          have t3 : ((k : Int) * t != IntKind.i64.wrap ((k : Int) * t)) = false := by
            rw [show (k : Int) * t = ((k * t : Nat) : Int) from rfl]
            generalize k * t = M at *
            rw [IntWalk.i64_in _ ⟨by omega, by omega⟩]
            simp
          have t4 : ((k : Int) * t != wrap64 ((k : Int) * t)) = false := by
            rw [show (k : Int) * t = ((k * t : Nat) : Int) from rfl]
            generalize k * t = M at *
            rw [IntWalk.wrap64_in _ ⟨by omega, by omega⟩]
            simp
          clear hx hy hs5 hm ho a1 a2 a3 a4 a5 a6 hkt
          go_wp2_with fail
          go_quiet (fail)
          go_wp2_with fail
          go_roundw
          case rel => exact ⟨k + 1, by omega, by go_num, _, rfl⟩
          case measure => simp [intOf]; omega
        · have hnn : k = n := by omega
          subst hnn
          clear hx hy hs5
          go_wp2_with fail
          go_ret
          exact ⟨rfl, bel_drewN hb _⟩
  · go_enter Try.func5, Try.ntmps5
    go_wp2_with fail
    refine (sent_217 _).mono ?_
    rintro e w1 ⟨A1, c1, rfl, hs1, hb1⟩
    go_wp2_with fail
    refine (equal_any _ _ _ _ _ _ _ [0, 7] _ _ _ (hs1.alloc (Nat.le_refl _) _) (Sl.built w1 (ints [0, 7]) _ rfl) (by decide)).mono ?_
    rintro e w2 ⟨rfl, q, rfl⟩
    have hb2 := bel_drewN (below_alloc hb1 (.cells (ints [0, 7]).toArray 3)) q
    go_wp2_with fail
    refine (sent_bad n w t _ h).mono ?_
    rintro e w3 ⟨rfl, rfl⟩
    go_wp2_with fail
    go_ret
    exact ⟨rfl, hb2⟩
end Go.Proofs.Ytopldjklmjkcmaa
