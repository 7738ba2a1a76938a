/- ConvBuckets: token buckets in series are equivalent to their pointwise minimum. -/
import Derived.Test.YtgeeomhceplemaaConvA
import Derived.Test.YtgeeomhceplemaaShapeA
import Derived.Test.YtgeeomhceplemaaShapeP
import Derived.Test.YtgeeomhceplemaaPointA
import Derived.Test.YtgeeomhceplemaaLawKit
set_option linter.unusedVariables false
namespace Go.Proofs.Ytgeeomhceplemaa
open Go.RowKit
set_option maxRecDepth 100000 in
set_option maxHeartbeats 3200000 in
theorem convBuckets_walk (h : Int) (r : Int) (s : Int) (a : Int) (b : Int) (W : World) (w_h : -9223372036854775808 ≤ h ∧ h ≤ 9223372036854775807) (w_r : -9223372036854775808 ≤ r ∧ r ≤ 9223372036854775807) (w_s : -9223372036854775808 ≤ s ∧ s ≤ 9223372036854775807) (w_a : -9223372036854775808 ≤ a ∧ a ≤ 9223372036854775807) (w_b : -9223372036854775808 ≤ b ∧ b ≤ 9223372036854775807) :
    Calls Try.prog 8 #[.int .i64 h, .int .i64 r, .int .i64 s, .int .i64 a, .int .i64 b] W fun e w' => e = .returned (.bool true) ∧ Below W.heap.size W w' := by
  have b0 := Below.refl W.heap.size W
  go_enter Try.func8, Try.ntmps8
  go_wp2_with fail
  refine (sbucket_any (3) (5) (2) _   (by omega) (by omega) (by omega) (by omega) (by omega) (by omega) ([0, 7, 12, 17]) (0) (4) (by decide +kernel) (rfl)).mono ?_
  rintro e w1 ⟨A_t0, c_t0, rfl, s_t0, l_t0, bb1⟩
  have b1 := belLit0 b0 bb1
  clear b0 bb1
  go_wp2_with fail
  refine (equal_t A_t0 (4) c_t0 ([0, 7, 12, 17]) _ 4 _ [0, 7, 12, 17] _ (slMore (s_t0) _) (Sl.built_ _ (ints [0, 7, 12, 17]) 3 _ rfl rfl) (by omega) (by omega)  (true) (by decide)).mono ?_
  rintro e w2 ⟨rfl, bb2⟩
  have b2 := belLit1 b1 bb2
  replace s_t0 := slLit1 s_t0 bb2
  clear b1 bb2
  clear s_t0 l_t0
  go_wp2_with fail
  refine (within_t (h) (61) _   (by omega) (by omega) (within h 61) (rfl)).mono ?_
  rintro e w3 ⟨rfl, rfl⟩
  go_wp2_with fail
  refine (within_t (r) (5001) _   (by omega) (by omega) (within r 5001) (rfl)).mono ?_
  rintro e w4 ⟨rfl, rfl⟩
  go_wp2_with fail
  refine (within_t (s) (5001) _   (by omega) (by omega) (within s 5001) (rfl)).mono ?_
  rintro e w5 ⟨rfl, rfl⟩
  go_wp2_with fail
  refine (within_t (a) (100001) _   (by omega) (by omega) (within a 100001) (rfl)).mono ?_
  rintro e w6 ⟨rfl, rfl⟩
  go_wp2_with fail
  refine (within_t (b) (100001) _   (by omega) (by omega) (within b 100001) (rfl)).mono ?_
  rintro e w7 ⟨rfl, rfl⟩
  have lo_h := within_lo h 61 (by omega)
  have hi_h := within_hi h 61 (by omega)
  generalize within h 61 = h' at *
  have lo_r := within_lo r 5001 (by omega)
  have hi_r := within_hi r 5001 (by omega)
  generalize within r 5001 = r' at *
  have lo_s := within_lo s 5001 (by omega)
  have hi_s := within_hi s 5001 (by omega)
  generalize within s 5001 = s' at *
  have lo_a := within_lo a 100001 (by omega)
  have hi_a := within_hi a 100001 (by omega)
  generalize within a 100001 = a' at *
  have lo_b := within_lo b 100001 (by omega)
  have hi_b := within_hi b 100001 (by omega)
  generalize within b 100001 = b' at *
  obtain ⟨n, hn⟩ : ∃ n, h'.toNat + 1 = n := ⟨_, rfl⟩
  have n0 : 0 < n := by omega
  have n1 : n ≤ 61 := by omega
  have HN := Lib.hid hn
  clear hn
  have E := Lib.hid (conv_buckets (n := n) lo_r lo_s lo_a lo_b)
  have C_f := Lib.hid (bkt_C (b := a') n0 n1 lo_r lo_a (by omega))
  have C_g := Lib.hid (bkt_C (b := b') n0 n1 lo_s lo_b (by omega))
  have C_y := Lib.hid (cmin_C C_f.out C_g.out)
  go_wp2_with fail
  refine (sbucket_any (h') (r') (a') _   (by omega) (by omega) (by omega) (by omega) (by omega) (by omega) (tab n (bktU r' a')) (0) (n) (sbucket_yes HN.out C_f.out) (tab_len _ _)).mono ?_
  rintro e w8 ⟨A_f, c_f, rfl, s_f, l_f, bb8⟩
  have b8 := belLit0 b2 bb8
  clear b2 bb8
  go_wp2_with fail
  refine (sbucket_any (h') (s') (b') _   (by omega) (by omega) (by omega) (by omega) (by omega) (by omega) (tab n (bktU s' b')) (0) (n) (sbucket_yes HN.out C_g.out) (tab_len _ _)).mono ?_
  rintro e w9 ⟨A_g, c_g, rfl, s_g, l_g, bb9⟩
  have b9 := belLit0 b8 bb9
  replace s_f := slLit0 s_f bb9
  clear b8 bb9
  go_wp2_with fail
  refine (conv_any A_f (n) c_f (tab n (bktU r' a')) A_g (n) c_g (tab n (bktU s' b')) _ (s_f) (s_g) (by omega) (by omega)  (cminL (tab n (bktU r' a')) (tab n (bktU s' b'))) (0) (n) (conv_yes C_f.out C_g.out (by rw [E.out]; exact fits_C C_y.out) E.out) (C_y.out.len)).mono ?_
  rintro e w10 ⟨A_x, c_x, rfl, s_x, l_x, bb10⟩
  have b10 := belLit0 b9 bb10
  replace s_f := slLit0 s_f bb10
  replace s_g := slLit0 s_g bb10
  clear b9 bb10
  go_wp2_with fail
  refine (pmin_any A_f (n) c_f (tab n (bktU r' a')) A_g (n) c_g (tab n (bktU s' b')) _ (s_f) (s_g) (by omega) (by omega)  (cminL (tab n (bktU r' a')) (tab n (bktU s' b'))) (0) (n) (cmin_yes C_f.out C_g.out rfl) (C_y.out.len)).mono ?_
  rintro e w11 ⟨A_y, c_y, rfl, s_y, l_y, bb11⟩
  have b11 := belLit0 b10 bb11
  replace s_f := slLit0 s_f bb11
  replace s_g := slLit0 s_g bb11
  replace s_x := slLit0 s_x bb11
  clear b10 bb11
  go_wp2_with fail
  refine (equal_t A_x (n) c_x (cminL (tab n (bktU r' a')) (tab n (bktU s' b'))) A_y (n) c_y (cminL (tab n (bktU r' a')) (tab n (bktU s' b'))) _ (s_x) (s_y) (by omega) (by omega)  (true) (dec_true (rfl))).mono ?_
  rintro e w12 ⟨rfl, bb12⟩
  have b12 := belLit0 b11 bb12
  replace s_f := slLit0 s_f bb12
  replace s_g := slLit0 s_g bb12
  replace s_x := slLit0 s_x bb12
  replace s_y := slLit0 s_y bb12
  clear b11 bb12
  clear s_f s_g s_x s_y
  go_wp2_with fail
  go_ret
  exact ⟨rfl, b12⟩
end Go.Proofs.Ytgeeomhceplemaa
