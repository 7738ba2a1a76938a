/- lease.Pin. -/
import Derived.Test.YtjgkcokffpbgnaaLeaseA
set_option linter.unusedVariables false
namespace Go.Proofs.Ytjgkcokffpbgnaa
open Go.RowKit
theorem pin_bad (A : Option Addr) (n c : Nat) (zs : List Int) (now : Int) (W : World) (hs : Sl W W.heap.size A (n * 3) (ints zs)) (hnn : n ≤ 9223372036854775807) (h0 : lfirst zs n ≠ 0) :
    Calls Try.prog 13 #[.slice A n c, .int .i64 now] W fun e w' => e = .returned (.tuple #[.int .i64 0, .int .i64 (lfirst zs n)]) ∧ Below W.heap.size W w' := by
  have hne : (lfirst zs n != 0) = true := by simpa using h0
  have H0 := Lib.hid h0
  clear h0
  go_enter Try.func13, Try.ntmps13
  go_wp2_with fail
  refine (live_bad A n c zs now _ hs hnn H0.out).mono ?_
  rintro e w1 ⟨A1, c1, rfl, s1, l1, b1⟩
  clear hs s1
  go_wp2_with fail
  go_ret2
  exact ⟨rfl, b1⟩
theorem pin_none (A : Option Addr) (n c : Nat) (zs : List Int) (now : Int) (W : World) (hs : Sl W W.heap.size A (n * 3) (ints zs)) (hnn : n ≤ 9223372036854775807) (h0 : lfirst zs n = 0) (hc : liveC zs now n = 0) :
    Calls Try.prog 13 #[.slice A n c, .int .i64 now] W fun e w' => e = .returned (.tuple #[.int .i64 0, .int .i64 5]) ∧ Below W.heap.size W w' := by
  have H0 := Lib.hid h0
  have HC := Lib.hid hc
  clear h0 hc
  go_enter Try.func13, Try.ntmps13
  go_wp2_with fail
  refine (live_ok A n c zs now _ hs hnn H0.out).mono ?_
  rintro e w1 ⟨A1, c1, rfl, s1, l1, b1⟩
  rw [HC.out]
  clear hs s1
  go_wp2_with fail
  go_ret2
  exact ⟨rfl, b1⟩
set_option maxHeartbeats 3200000 in
theorem pin_ok (A : Option Addr) (n c : Nat) (zs : List Int) (now : Int) (W : World) (hs : Sl W W.heap.size A (n * 3) (ints zs)) (hnn : n ≤ 9223372036854775807) (h0 : lfirst zs n = 0) (hc : 0 < liveC zs now n) (v : Int) (hv : lo (fun q => fd (liveL zs now n) q 2) (liveC zs now n - 1) = v) :
    Calls Try.prog 13 #[.slice A n c, .int .i64 now] W fun e w' => e = .returned (.tuple #[.int .i64 v, .int .i64 0]) ∧ Below W.heap.size W w' := by
  have H0 := Lib.hid h0
  have HV := Lib.hid hv
  have n8 := leases_8 (leases_of h0)
  have LC := live_le zs now n
  clear h0 hv
  go_enter Try.func13, Try.ntmps13
  go_wp2_with fail
  refine (live_ok A n c zs now _ hs hnn H0.out).mono ?_
  rintro e w1 ⟨A1, c1, rfl, s1, l1, b1⟩
  have S1 := Lib.hid s1
  have B1 := Lib.hid b1
  generalize liveL zs now n = L at *
  generalize liveC zs now n = p at *
  have e0 : ((p : Int) == 0) = false := by simp; omega
  have p0 : (0 : Int) < p := by omega
  obtain ⟨b, off, hA, hbl, -⟩ := s1.int_at (k := 0) (by omega)
  subst hA
  obtain ⟨y0, y1, y2⟩ := s1.three (k := 0) hc
  simp only [Nat.zero_mul, Nat.add_zero] at y0 y1 y2
  clear hs s1 b1
  go_wp2_with fail
  clear y0 y1 y2
  go_loopw [29, 8, 10] (fun i l _ wr => ∃ k : Nat, k ≤ p ∧ i = .int .i64 k ∧ l = .int .i64 (lo (fun q => fd L q 2) (k - 1)) ∧ Below w1.heap.size w1 wr) (fun i _ _ _ => p - (intOf i).toNat)
  case atStart => exact ⟨0, Nat.zero_le _, rfl, rfl, Below.refl _ _⟩
  case round =>
    obtain ⟨k, hk, rfl, rfl, hb⟩ := hrel
    have HB := Lib.hid hb
    have hz := hb.size
    have hk0 : (0 : Int) ≤ k := by omega
    by_cases hlt : k < p
    · obtain ⟨c0, c1, c2⟩ := (S1.out.below hb).three hlt
      have hn1 : (k : Int) < p := by omega
      obtain ⟨cur, hcur⟩ : ∃ z, lo (fun q => fd L q 2) (k - 1) = z := ⟨_, rfl⟩
      obtain ⟨nv, hnv⟩ : ∃ z, (if fd L k 2 < cur then fd L k 2 else cur) = z := ⟨_, rfl⟩
      have N : Hid (lo (fun q => fd L q 2) k = nv) := by
        show _ = _
        rw [← hnv, ← hcur]
        rcases Nat.eq_zero_or_pos k with h | h
        · subst h
          show fd L 0 2 = _
          rw [show lo (fun q => fd L q 2) (0 - 1) = fd L 0 2 from rfl, if_neg (by omega)]
        · obtain ⟨j, rfl⟩ : ∃ j, k = j + 1 := ⟨k - 1, by omega⟩
          rw [lo_succ, Nat.add_sub_cancel]; rfl
      rw [hcur]
      clear hb hcur
      go_wp2_with fail
      go_roundw
      case rel => exact ⟨k + 1, by omega, by go_num, by rw [Nat.add_sub_cancel, N.out], HB.out.alloc hz _⟩
      case measure => simp [intOf]; omega
    · have hkn : k = p := by omega
      subst hkn
      have hn1 : ¬ (k : Int) < k := by omega
      rw [HV.out]
      clear hb
      go_wp2_with fail
      go_ret2
      exact ⟨rfl, B1.out.trans (HB.out.mono B1.out.size)⟩
end Go.Proofs.Ytjgkcokffpbgnaa
