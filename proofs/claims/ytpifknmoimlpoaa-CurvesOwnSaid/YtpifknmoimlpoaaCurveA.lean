/- curve.Check. -/
import Derived.Test.YtpifknmoimlpoaaElems
import Derived.Test.YtpifknmoimlpoaaCurveP
set_option linter.unusedVariables false
namespace Go.Proofs.Ytpifknmoimlpoaa
open Go.RowKit
theorem cfirst_stay {f : List Int} {k : Nat} (h : cfirst f k ≠ 0) (j : Nat) (hj : k ≤ j) : cfirst f j = cfirst f k := by
  induction j with
  | zero => obtain rfl : k = 0 := by omega
            rfl
  | succ j ih =>
    rcases Nat.lt_or_ge j k with h' | h'
    · obtain rfl : k = j + 1 := by omega
      rfl
    · rw [cfirst_succ, ih h', if_neg h]
theorem cfirst_at {f : List Int} {k : Nat} (h0 : cfirst f k = 0) (h : cbad f k ≠ 0) (j : Nat) (hj : k < j) : cfirst f j = cbad f k := by
  have e : cfirst f (k + 1) = cbad f k := by rw [cfirst_succ, if_pos h0]
  rw [cfirst_stay (k := k + 1) (by rw [e]; exact h) j hj, e]
theorem cfirst_next {f : List Int} {k : Nat} (h0 : cfirst f k = 0) (h : cbad f k = 0) : cfirst f (k + 1) = 0 := by rw [cfirst_succ, if_pos h0, h]
set_option maxHeartbeats 800000 in
theorem ccheck_any (A : Option Addr) (n c : Nat) (f : List Int) (W : World) (B : Nat) (hs : Sl W B A n (ints f)) (hnn : n ≤ 9223372036854775807) :
    Calls Try.prog 96 #[.slice A n c] W fun e w' => e = .returned (.int .i64 (curveErr f)) ∧ W = w' := by
  have hlen := hs.int_len
  rcases Nat.eq_zero_or_pos n with h0 | hpos
  · subst h0
    have hf : Hid (curveErr f = 1) := by unfold curveErr; rw [if_pos hlen]; rfl
    clear hlen hs
    go_enter Try.func96, Try.ntmps96
    go_wp2_with fail
    go_ret
    exact ⟨ret_int hf.out.symm, rfl⟩
  · have hz : ((n : Int) == 0) = false := by simp; omega
    by_cases h61 : 61 < n
    · have hf : Hid (curveErr f = 2) := by unfold curveErr; rw [if_neg (by omega), if_pos (by omega)]; rfl
      have g1 : 61 < (n : Int) := by omega
      clear hlen hs
      go_enter Try.func96, Try.ntmps96
      go_wp2_with fail
      go_ret
      exact ⟨ret_int hf.out.symm, rfl⟩
    · have hf : Hid (curveErr f = cfirst f n) := by unfold curveErr; rw [if_neg (by omega), if_neg (by omega), hlen]; rfl
      have g1 : ¬ 61 < (n : Int) := by omega
      have hn : n ≤ 61 := by omega
      clear hlen
      go_enter Try.func96, Try.ntmps96
      go_wp2_with fail
      go_loop [13, 3, 4, 18, 21, 24] (fun i _ _ _ _ _ => ∃ k : Nat, k ≤ n ∧ i = .int .i64 k ∧ Hid (cfirst f k = 0)) (fun i _ _ _ _ _ => n - (intOf i).toNat)
      case atStart => exact ⟨0, Nat.zero_le _, rfl, Lib.hid rfl⟩
      case round =>
        obtain ⟨k, hk, rfl, hc0⟩ := hrel
        by_cases hlt : k < n
        · obtain ⟨b, off, rfl, hbl, hc⟩ := hs.int_at hlt
          have hn1 : (k : Int) < n := by omega
          have hk0 : (0 : Int) ≤ k := by omega
          by_cases h1 : gi f k < 0
          · have hb : Hid (cbad f k = 1) := by unfold cbad; rw [if_pos h1]; rfl
            clear hs
            go_wp2_with fail
            go_ret
            exact ⟨ret_int (by rw [hf.out, cfirst_at hc0.out (by rw [hb.out]; decide) n hlt, hb.out]), rfl⟩
          · by_cases h2 : 1000000 < gi f k
            · have hb : Hid (cbad f k = 2) := by unfold cbad; rw [if_neg h1, if_pos h2]; rfl
              clear hs
              go_wp2_with fail
              go_ret
              exact ⟨ret_int (by rw [hf.out, cfirst_at hc0.out (by rw [hb.out]; decide) n hlt, hb.out]), rfl⟩
            · rcases Nat.eq_zero_or_pos k with rfl | hkp
              · have hb : Hid (cbad f 0 = 0) := by unfold cbad; rw [if_neg h1, if_neg h2, if_neg (by omega)]; rfl
                rw [Nat.add_zero] at hc
                clear hs
                go_wp2_with fail
                go_round
                case rel => exact ⟨1, by omega, by go_num, Lib.hid (cfirst_next hc0.out hb.out)⟩
                case measure => simp [intOf]; omega
              · have hcp := hs.int_cell (k := k - 1) (by omega)
                have f1 : IntKind.i64.wrap ((k : Int) - 1) = (k : Int) - 1 := IntWalk.i64_in _ ⟨by omega, by omega⟩
                have f2 : ((k : Int) - 1).toNat = k - 1 := by omega
                have f3 : 0 ≤ (k : Int) - 1 := by omega
                have f4 : (k : Int) - 1 < n := by omega
                have f5 : (0 : Int) < k := by omega
                by_cases h3 : gi f k < gi f (k - 1)
                · have hb : Hid (cbad f k = 3) := by unfold cbad; rw [if_neg h1, if_neg h2, if_pos ⟨hkp, h3⟩]; rfl
                  clear hs
                  go_wp2_with fail
                  go_ret
                  exact ⟨ret_int (by rw [hf.out, cfirst_at hc0.out (by rw [hb.out]; decide) n hlt, hb.out]), rfl⟩
                · have hb : Hid (cbad f k = 0) := by unfold cbad; rw [if_neg h1, if_neg h2, if_neg (fun h => h3 h.2)]; rfl
                  clear hs
                  go_wp2_with fail
                  go_round
                  case rel => exact ⟨k + 1, by omega, by go_num, Lib.hid (cfirst_next hc0.out hb.out)⟩
                  case measure => simp [intOf]; omega
        · have hkn : k = n := by omega
          subst hkn
          clear hs
          go_wp2_with fail
          go_ret
          exact ⟨ret_int (by rw [hf.out, hc0.out]), rfl⟩
end Go.Proofs.Ytpifknmoimlpoaa
