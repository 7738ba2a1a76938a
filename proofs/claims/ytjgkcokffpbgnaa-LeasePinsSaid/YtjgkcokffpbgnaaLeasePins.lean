/- LeasePins: truncation is possible exactly up to the smallest pin of a live lease. -/
import Derived.Test.YtjgkcokffpbgnaaLeaseLater
import Derived.Test.YtjgkcokffpbgnaaLeaseP
set_option linter.unusedVariables false
namespace Go.Proofs.Ytjgkcokffpbgnaa
open Go.RowKit
set_option maxRecDepth 100000 in
set_option maxHeartbeats 3200000 in
theorem leasePins_walk (A : Option Addr) (n c : Nat) (zs : List Int) (now : Int) (W : World) (w0 : In3 W A n c zs) (w1 : -9223372036854775808 ≤ now ∧ now ≤ 9223372036854775807) :
    Calls Try.prog 4 #[.slice A n c, .int .i64 now] W fun e w' => e = .returned (.bool true) ∧ Below W.heap.size W w' := by
  obtain ⟨s0, l0, r0, _⟩ := w0
  go_enter Try.func4, Try.ntmps4
  go_wp2_with fail
  refine (pin_ok _ 2 _ [0, 5, 7, 1, 9, 3] 4 _ (Sl.built_ _ (ints [0, 5, 7, 1, 9, 3]) 27 _ rfl rfl) (by omega) (by decide +kernel) (by decide +kernel) 3 (by decide +kernel)).mono ?_
  rintro e w1 ⟨rfl, bb1⟩
  have b1 := belLit1 (Below.refl W.heap.size W) bb1
  replace s0 := slLit1 s0 bb1
  clear bb1
  by_cases h0 : lfirst zs n = 0
  case neg =>
    have hne : (lfirst zs n != 0) = true := by simpa using h0
    have H0 := Lib.hid h0
    clear h0
    go_wp2_with fail
    refine (pin_bad A n c zs now _ s0 (by omega) H0.out).mono ?_
    rintro e w2 ⟨rfl, bb2⟩
    have b2 := belLit0 b1 bb2
    replace s0 := slLit0 s0 bb2
    clear b1 bb2
    go_wp2_with fail
    refine (live_bad A n c zs now _ s0 (by omega) H0.out).mono ?_
    rintro e w3 ⟨A3, c3, rfl, s3, l3, bb3⟩
    have b3 := belLit0 b2 bb3
    clear b2 bb3 s0 s3
    go_wp2_with fail
    go_ret
    exact ⟨rfl, b3⟩
  have H0 := Lib.hid h0
  have LE := Lib.hid (leases_of h0)
  clear h0
  rcases Nat.eq_zero_or_pos (liveC zs now n) with hc | hc
  · have HC := Lib.hid hc
    have CO : Hid (cutOk zs n now 1000000) := Lib.hid (cut_live.2 fun q hq => by have := HC.out; omega)
    clear hc
    go_wp2_with fail
    refine (pin_none A n c zs now _ s0 (by omega) H0.out HC.out).mono ?_
    rintro e w2 ⟨rfl, bb2⟩
    have b2 := belLit0 b1 bb2
    replace s0 := slLit0 s0 bb2
    clear b1 bb2
    go_wp2_with fail
    refine (live_ok A n c zs now _ s0 (by omega) H0.out).mono ?_
    rintro e w3 ⟨A3, c3, rfl, s3, l3, bb3⟩
    rw [HC.out]
    have b3 := belLit0 b2 bb3
    replace s0 := slLit0 s0 bb3
    clear b2 bb3 s3
    go_wp2_with fail
    refine (cut_any A n c zs now 1000000 _ s0 (by omega) H0.out (by omega) (by omega) _ _ 0 (cut_yes CO.out)).mono ?_
    rintro e w4 ⟨A4, c4, rfl, s4, l4, bb4⟩
    have b4 := belLit0 b3 bb4
    clear b3 bb4 s0 s4
    go_wp2_with fail
    go_ret
    exact ⟨rfl, b4⟩
  · obtain ⟨v, hv⟩ : ∃ v, lo (fun q => fd (liveL zs now n) q 2) (liveC zs now n - 1) = v := ⟨_, rfl⟩
    have LC := live_le zs now n
    have pinb : ∀ q, q < liveC zs now n → 0 ≤ fd (liveL zs now n) q 2 ∧ fd (liveL zs now n) q 2 ≤ 1000000 := fun q hq => by
      obtain ⟨i, i1, i2, i3⟩ := live_in zs now n q hq
      rw [i3 2 (by omega)]
      have := LE.out.one i i1
      unfold oneOk at this
      omega
    obtain ⟨q0, q1, q2⟩ := lo_ex (fun q => fd (liveL zs now n) q 2) (liveC zs now n - 1)
    rw [hv] at q2
    have qb := pinb q0 (by omega)
    have v0 : 0 ≤ v := by omega
    have v1 : v ≤ 1000000 := by omega
    have CO : Hid (cutOk zs n now v) := Lib.hid (cut_live.2 fun q hq => by rw [← hv]; exact lo_le (fun q => fd (liveL zs now n) q 2) (by omega))
    have CN : Hid (¬ cutOk zs n now (v + 1)) := Lib.hid fun h => by have := cut_live.1 h q0 (by omega); omega
    have HV := Lib.hid hv
    clear hv pinb q2 qb
    go_wp2_with fail
    refine (pin_ok A n c zs now _ s0 (by omega) H0.out hc v HV.out).mono ?_
    rintro e w2 ⟨rfl, bb2⟩
    have b2 := belLit0 b1 bb2
    replace s0 := slLit0 s0 bb2
    clear b1 bb2
    go_wp2_with fail
    refine (live_ok A n c zs now _ s0 (by omega) H0.out).mono ?_
    rintro e w3 ⟨A3, c3, rfl, s3, l3, bb3⟩
    have b3 := belLit0 b2 bb3
    replace s0 := slLit0 s0 bb3
    clear b2 bb3
    go_wp2_with fail
    refine (cut_any A n c zs now v _ s0 (by omega) H0.out v0 v1 _ _ 0 (cut_yes CO.out)).mono ?_
    rintro e w4 ⟨A4, c4, rfl, s4, l4, bb4⟩
    have b4 := belLit0 b3 bb4
    replace s0 := slLit0 s0 bb4
    replace s3 := slLit0 s3 bb4
    have n8 := leases_8 LE.out
    clear b3 bb4
    go_wp2_with fail
    refine (equalL_same A4 A3 (liveC zs now n) c4 c3 (liveL zs now n) _ _ _ s4 s3 (by omega)).mono ?_
    rintro e w5 ⟨rfl, bb5⟩
    have b5 := belLit0 b4 bb5
    replace s0 := slLit0 s0 bb5
    clear b4 bb5 s3 s4
    by_cases hm : v = 1000000
    · have em : (v == 1000000) = true := by simpa using hm
      clear hm s0 q0 q1
      go_wp2_with fail
      go_ret
      exact ⟨rfl, b5⟩
    · have em : (v == 1000000) = false := by simpa using hm
      have f1 : IntKind.i64.wrap (v + 1) = v + 1 := IntWalk.i64_in _ ⟨by omega, by omega⟩
      have v2 : v + 1 ≤ 1000000 := by omega
      have v3 : 0 ≤ v + 1 := by omega
      clear hm q1 q0
      go_wp2_with fail
      refine (cut_any A n c zs now (v + 1) _ s0 (by omega) H0.out v3 v2 0 [] 7 (cut_no CN.out)).mono ?_
      rintro e w6 ⟨A6, c6, rfl, s6, l6, bb6⟩
      have b6 := belLit0 b5 bb6
      clear b5 bb6 s0 s6
      go_wp2_with fail
      go_ret
      exact ⟨rfl, b6⟩
end Go.Proofs.Ytjgkcokffpbgnaa
