/- LeaseLater: what can be truncated can be truncated later, and so can any smaller part. -/
import Derived.Test.YtjgkcokffpbgnaaEqualL
set_option linter.unusedVariables false
namespace Go.Proofs.Ytjgkcokffpbgnaa
open Go.RowKit
theorem cut_yes {zs : List Int} {n : Nat} {now to : Int} (h : cutOk zs n now to) : cutR zs n now to = (liveC zs now n, liveL zs now n, 0) := if_pos h
theorem cut_no {zs : List Int} {n : Nat} {now to : Int} (h : ¬ cutOk zs n now to) : cutR zs n now to = (0, [], 7) := if_neg h
theorem liveC_mono (zs : List Int) {a b : Int} (h : a ≤ b) (k : Nat) : liveC zs b k ≤ liveC zs a k := by
  induction k with
  | zero => exact Nat.le_refl _
  | succ k ih => rw [liveC_succ, liveC_succ]; split <;> split <;> omega
set_option maxRecDepth 100000 in
set_option maxHeartbeats 3200000 in
theorem leaseLater_walk (A : Option Addr) (n c : Nat) (zs : List Int) (now later to less : Int) (W : World) (w0 : In3 W A n c zs) (w1 : -9223372036854775808 ≤ now ∧ now ≤ 9223372036854775807) (w2 : -9223372036854775808 ≤ later ∧ later ≤ 9223372036854775807) (w3 : -9223372036854775808 ≤ to ∧ to ≤ 9223372036854775807) (w4 : -9223372036854775808 ≤ less ∧ less ≤ 9223372036854775807) :
    Calls Try.prog 3 #[.slice A n c, .int .i64 now, .int .i64 later, .int .i64 to, .int .i64 less] W fun e w' => e = .returned (.bool true) ∧ Below W.heap.size W w' := by
  obtain ⟨s0, l0, r0, _⟩ := w0
  obtain ⟨a, ha⟩ : ∃ a, (if later < now then later else now) = a := ⟨_, rfl⟩
  obtain ⟨b, hb⟩ : ∃ b, (if now < later then later else now) = b := ⟨_, rfl⟩
  have AB : Hid (a ≤ b) := by show a ≤ b; rw [← ha, ← hb]; split <;> split <;> omega
  go_enter Try.func3, Try.ntmps3
  go_wp2_with fail
  refine (live_ok _ 2 _ [0, 3, 0, 1, 4, 0] 3 _ (Sl.built_ _ (ints [0, 3, 0, 1, 4, 0]) 27 _ rfl rfl) (by omega) (by decide +kernel)).mono ?_
  rintro e w1 ⟨A1, c1, rfl, s1, l1, bb1⟩
  rw [show liveC [0, 3, 0, 1, 4, 0] 3 2 = 1 from rfl]
  have b1 := belLit1 (Below.refl W.heap.size W) bb1
  replace s0 := slLit1 s0 bb1
  clear s1 bb1
  by_cases h0 : lfirst zs n = 0
  case neg =>
    have hne : (lfirst zs n != 0) = true := by simpa using h0
    have H0 := Lib.hid h0
    clear h0
    go_wp2_with fail
    refine (cut_bad A n c zs a to _ s0 (by omega) H0.out).mono ?_
    rintro e w2 ⟨A2, c2, rfl, s2, l2, bb2⟩
    have b2 := belLit0 b1 bb2
    clear b1 bb2 s0 s2
    go_wp2_with fail
    go_ret
    exact ⟨rfl, b2⟩
  have H0 := Lib.hid h0
  clear h0
  by_cases ht : to < 0 ∨ 1000000 < to
  case pos =>
    have HT := Lib.hid ht
    clear ht
    go_wp2_with fail
    refine (cut_arg A n c zs a to _ s0 (by omega) H0.out HT.out).mono ?_
    rintro e w2 ⟨A2, c2, rfl, s2, l2, bb2⟩
    have b2 := belLit0 b1 bb2
    clear b1 bb2 s0 s2
    go_wp2_with fail
    go_ret
    exact ⟨rfl, b2⟩
  have t0 : 0 ≤ to := by omega
  have t1 : to ≤ 1000000 := by omega
  clear ht
  by_cases hc : cutOk zs n a to
  case neg =>
    have HC := Lib.hid hc
    clear hc
    go_wp2_with fail
    refine (cut_any A n c zs a to _ s0 (by omega) H0.out t0 t1 0 [] 7 (cut_no HC.out)).mono ?_
    rintro e w2 ⟨A2, c2, rfl, s2, l2, bb2⟩
    have b2 := belLit0 b1 bb2
    clear b1 bb2 s0 s2
    go_wp2_with fail
    go_ret
    exact ⟨rfl, b2⟩
  have HC := Lib.hid hc
  have HCB : Hid (cutOk zs n b to) := Lib.hid fun i hi hn => HC.out i hi (by have := AB.out; omega)
  have LC := live_le zs a n
  have LB := live_le zs b n
  have LM := liveC_mono zs AB.out n
  clear hc
  go_wp2_with fail
  refine (cut_any A n c zs a to _ s0 (by omega) H0.out t0 t1 _ _ 0 (cut_yes HC.out)).mono ?_
  rintro e w2 ⟨A2, c2, rfl, s2, l2, bb2⟩
  have b2 := belLit0 b1 bb2
  replace s0 := slLit0 s0 bb2
  clear b1 bb2
  go_wp2_with fail
  refine (cut_any A n c zs b to _ s0 (by omega) H0.out t0 t1 _ _ 0 (cut_yes HCB.out)).mono ?_
  rintro e w3 ⟨A3, c3, rfl, s3, l3, bb3⟩
  have b3 := belLit0 b2 bb3
  replace s0 := slLit0 s0 bb3
  replace s2 := slLit0 s2 bb3
  clear b2 bb3 s3
  have f1 : IntKind.i64.wrap (to + 1) = to + 1 := IntWalk.i64_in _ ⟨by omega, by omega⟩
  go_wp2_with fail
  refine (within_t less (to + 1) _ (by omega) (by omega) _ rfl).mono ?_
  rintro e _ ⟨rfl, rfl⟩
  have d0 := within_lo less (to + 1) (by omega)
  have d1 := within_hi less (to + 1) (by omega)
  generalize within less (to + 1) = t' at *
  have HCT : Hid (cutOk zs n a t') := Lib.hid fun i hi hn => by have := HC.out i hi hn; omega
  go_wp2_with fail
  refine (cut_any A n c zs a t' _ s0 (by omega) H0.out d0 (by omega) _ _ 0 (cut_yes HCT.out)).mono ?_
  rintro e w4 ⟨A4, c4, rfl, s4, l4, bb4⟩
  have b4 := belLit0 b3 bb4
  replace s2 := slLit0 s2 bb4
  clear b3 bb4 s0
  go_wp2_with fail
  refine (equalL_same A4 A2 (liveC zs a n) c4 c2 (liveL zs a n) _ _ _ s4 s2 (by omega)).mono ?_
  rintro e w5 ⟨rfl, bb5⟩
  have b5 := belLit0 b4 bb5
  have hle : ((liveC zs b n : Nat) : Int) ≤ liveC zs a n := by omega
  clear b4 bb5 s2 s4
  go_wp2_with fail
  go_ret
  exact ⟨rfl, b5⟩
end Go.Proofs.Ytjgkcokffpbgnaa
