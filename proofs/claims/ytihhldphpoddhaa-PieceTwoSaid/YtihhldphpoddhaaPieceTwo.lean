/- PieceTwo: pieces of twice the size are half as many. -/
import Derived.Test.YtihhldphpoddhaaPieceA
import Derived.Test.YtihhldphpoddhaaEqual
import Derived.Test.YtihhldphpoddhaaOpen
set_option linter.unusedVariables false
namespace Go.Proofs.Ytihhldphpoddhaa
open Go.RowKit
theorem two_count {s u : Int} (h : pieceOk s u) : ceil s (2 * u) = (ceil s u + 1) / 2 := by
  obtain ⟨⟨h1, h2, h3, h4⟩, h5⟩ := h
  have a : ceil s (2 * u) ≤ (ceil s u + 1) / 2 := by
    rw [ceil_le_iff (by omega)]
    have b := ceil_lo (d := s) h3
    have c : ceil s u * u ≤ (2 * ((ceil s u + 1) / 2)) * u := Int.mul_le_mul_of_nonneg_right (by omega) (by omega)
    have d : (2 * ((ceil s u + 1) / 2)) * u = (ceil s u + 1) / 2 * (2 * u) := by rw [Int.mul_comm 2, Int.mul_assoc]
    omega
  have b : ceil s u ≤ 2 * ceil s (2 * u) := by
    rw [ceil_le_iff h3]
    have b := ceil_lo (d := s) (r := 2 * u) (by omega)
    have d : 2 * ceil s (2 * u) * u = ceil s (2 * u) * (2 * u) := by rw [Int.mul_comm 2, Int.mul_assoc]
    omega
  omega
theorem two_ok {s u : Int} (h : pieceOk s u) (hu : u ≤ 500000) : pieceOk s (2 * u) := by
  have a := two_count h
  have b := ceil_nonneg (d := s) h.1.2.2.1 h.1.1
  obtain ⟨⟨h1, h2, h3, h4⟩, h5⟩ := h
  exact ⟨⟨h1, h2, by omega, by omega⟩, by omega⟩
theorem two_prod (i : Nat) (u : Int) : ((2 * i : Nat) : Int) * u = 2 * (i * u) ∧ ((2 * i + 1 : Nat) : Int) * u = 2 * (i * u) + u ∧ (i : Int) * (2 * u) = 2 * (i * u) := by
  refine ⟨?_, ?_, ?_⟩
  · rw [Int.natCast_mul, Int.mul_assoc]; rfl
  · rw [Int.natCast_add, Int.natCast_mul, Int.add_mul, Int.mul_assoc, Int.natCast_one, Int.one_mul]; rfl
  · rw [← Int.mul_assoc, Int.mul_comm (i : Int) 2, Int.mul_assoc]
theorem two_more {s u : Int} (h : pieceOk s u) (i : Nat) (hi : ((2 * i + 1 : Nat) : Int) < ceil s u) : psize s u (2 * i) + psize s u (2 * i + 1) = psize s (2 * u) i := by
  have m := piece_mid h hi
  obtain ⟨p1, p2, p3⟩ := two_prod i u
  unfold psize mn
  rw [p1, p2, p3]
  rw [p2] at m
  have := h.1.2.2.1
  split <;> split <;> split <;> omega
theorem two_last {s u : Int} (h : pieceOk s u) (i : Nat) (hi : ceil s u ≤ ((2 * i + 1 : Nat) : Int)) : psize s u (2 * i) = psize s (2 * u) i := by
  have m := (ceil_le_iff h.1.2.2.1).1 hi
  obtain ⟨p1, p2, p3⟩ := two_prod i u
  unfold psize mn
  rw [p1, p3]
  rw [p2] at m
  have := h.1.2.2.1
  split <;> split <;> omega
theorem psize_bd {s u : Int} (h : pieceOk s u) (i : Nat) (hi : (i : Int) < ceil s u) : 0 ≤ psize s u i ∧ psize s u i ≤ 1000000 := by
  have m := piece_mid h hi
  have x := mn_le u (s - i * u)
  obtain ⟨⟨h1, h2, h3, h4⟩, h5⟩ := h
  unfold psize
  omega
set_option maxRecDepth 100000 in
set_option maxHeartbeats 1600000 in
theorem pieceTwo_walk (s u : Int) (W : World) (_ : -9223372036854775808 ≤ s ∧ s ≤ 9223372036854775807) (_ : -9223372036854775808 ≤ u ∧ u ≤ 9223372036854775807) :
    Calls Try.prog 14 #[.int .i64 s, .int .i64 u] W fun e w' => e = .returned (.bool true) ∧ Below W.heap.size W w' := by
  go_enter Try.func14, Try.ntmps14
  go_wp2_with fail
  refine (psizes_ok 5 2 3 _ ⟨⟨by decide, by decide, by decide, by decide⟩, by decide⟩ (by decide)).mono ?_
  rintro e w1 ⟨A1, c1, rfl, hs1, hb1, _⟩
  rw [show tab 3 (psize 5 2) = [2, 2, 1] by decide] at hs1
  go_wp2_with fail
  refine (equal_any _ _ _ _ _ _ _ [2, 2, 1] _ _ _ (hs1.alloc (Nat.le_refl _) _) (Sl.built w1 (ints [2, 2, 1]) _ rfl) (by decide)).mono ?_
  rintro e w2 ⟨rfl, q, rfl⟩
  have hb2 := bel_drewN (below_alloc hb1 (.cells (ints [2, 2, 1]).toArray 3)) q
  clear hs1 hb1
  go_wp2_with fail
  by_cases h : pieceOk s u
  · obtain ⟨N, hN⟩ := Int.eq_ofNat_of_zero_le (ceil_nonneg (d := s) h.1.2.2.1 h.1.1)
    have HN := Lib.hid hN
    have H := Lib.hid h
    have hn : N ≤ 200 := by have := h.2; omega
    refine (psizes_ok s u N _ h hN).mono ?_
    rintro e w3 ⟨A3, c3, rfl, hx, hb3', hcap⟩
    have hb3 : Below W.heap.size W w3 := hb2.trans (hb3'.mono hb2.size)
    obtain ⟨⟨h1, h2, h3, h4⟩, h5⟩ := h
    clear hN hb2 hb3' h5
    by_cases hu : 500000 < u
    · clear hx
      go_wp2_with fail
      go_ret
      exact ⟨rfl, hb3⟩
    · have f1 : IntKind.i64.wrap (2 * u) = 2 * u := IntWalk.i64_in _ ⟨by omega, by omega⟩
      go_wp2_with fail
      obtain ⟨N2, hN2⟩ : ∃ N2 : Nat, N2 = (N + 1) / 2 := ⟨_, rfl⟩
      have hc2 : ceil s (2 * u) = N2 := by rw [two_count H.out, HN.out, hN2]; omega
      refine (psizes_ok s (2 * u) N2 _ (two_ok H.out (by omega)) hc2).mono ?_
      rintro e w4 ⟨A4, c4, rfl, hy, hb4', hcap4⟩
      have hb4 : Below W.heap.size W w4 := hb3.trans (hb4'.mono hb3.size)
      have hx4 := hx.on hb4'
      have g1 : wrap64 (((N : Int) + 1) / 2) = N2 := by rw [IntWalk.wrap64_in _ ⟨by omega, by omega⟩]; omega
      have g2 : ((N2 : Int) != N2) = false := by simp
      have g3 : IntKind.i64.wrap ((N : Int) + 1) = (N : Int) + 1 := IntWalk.i64_in _ ⟨by omega, by omega⟩
      clear hb3 hb4' hx hc2
      go_wp2_with fail
      go_loopw [64, 10, 11, 12] (fun i _ _ _ wr => ∃ j : Nat, j ≤ N2 ∧ i = .int .i64 j ∧ wr = w4) (fun i _ _ _ _ => N2 - (intOf i).toNat)
      case atStart => exact ⟨0, Nat.zero_le _, rfl, rfl⟩
      case round =>
        obtain ⟨i, hi, rfl, rfl⟩ := hrel
        by_cases hlt : i < N2
        · obtain ⟨b1, o1, rfl, q1, hc1⟩ := hy.int_at hlt
          obtain ⟨b2, o2, rfl, q2, hc2⟩ := hx4.int_at (show 2 * i < N by omega)
          rw [tab_get _ hlt] at hc1
          rw [tab_get _ (by omega)] at hc2
          have hm1 : (i : Int) < N2 := by omega
          have hm0 : (0 : Int) ≤ i := by omega
          have k1 : IntKind.i64.wrap (2 * (i : Int)) = 2 * i := IntWalk.i64_in _ ⟨by omega, by omega⟩
          have k2 : (2 * (i : Int)).toNat = 2 * i := by omega
          have k3 : (0 : Int) ≤ 2 * i := by omega
          have k4 : 2 * (i : Int) < N := by omega
          have k5 : IntKind.i64.wrap (2 * (i : Int) + 1) = 2 * i + 1 := IntWalk.i64_in _ ⟨by omega, by omega⟩
          have k6 : (2 * (i : Int) + 1).toNat = 2 * i + 1 := by omega
          have k7 : (0 : Int) ≤ 2 * (i : Int) + 1 := by omega
          by_cases hl : 2 * i + 1 < N
          · have hc3 := hx4.int_cell (k := 2 * i + 1) hl
            rw [tab_get _ hl] at hc3
            have k8 : 2 * (i : Int) + 1 < N := by omega
            have d1 := psize_bd H.out (2 * i) (by rw [HN.out]; omega)
            have d2 := psize_bd H.out (2 * i + 1) (by rw [HN.out]; omega)
            have d3 : IntKind.i64.wrap (psize s u (2 * i) + psize s u (2 * i + 1)) = psize s (2 * u) i := by rw [IntWalk.i64_in _ ⟨by omega, by omega⟩]; exact two_more H.out i (by rw [HN.out]; omega)
            have d4 : (psize s (2 * u) i != psize s (2 * u) i) = false := by simp
            have e3 : psize s u (2 * i) + psize s u (2 * i + 1) = psize s (2 * u) i := two_more H.out i (by rw [HN.out]; omega)
            have d5 : (psize s u (2 * i) + psize s u (2 * i + 1) != psize s (2 * u) i) = false := by rw [e3]; simp
            clear hx4 hy
            go_wp2_with fail
            go_roundw
            case rel => exact ⟨i + 1, by omega, by go_num, trivial⟩
            case measure => simp [intOf]; omega
          · have k8 : ¬ (2 * (i : Int) + 1 < N) := by omega
            have e3 := two_last H.out i (by rw [HN.out]; omega)
            have d5 : (psize s u (2 * i) != psize s (2 * u) i) = false := by rw [e3]; simp
            clear hx4 hy
            go_wp2_with fail
            go_roundw
            case rel => exact ⟨i + 1, by omega, by go_num, trivial⟩
            case measure => simp [intOf]; omega
        · have hkn : i = N2 := by omega
          subst hkn
          clear hx4 hy
          go_wp2_with fail
          go_ret
          exact ⟨rfl, hb4⟩
  · refine (psizes_bad s u _ h).mono ?_
    rintro e w3 ⟨k, hk, rfl, rfl⟩
    have hne : (k != 0) = true := by simpa using hk
    have hne2 : (k == 0) = false := by simpa using hk
    clear hk h
    go_wp2_with fail
    go_ret
    exact ⟨rfl, hb2⟩
end Go.Proofs.Ytihhldphpoddhaa
