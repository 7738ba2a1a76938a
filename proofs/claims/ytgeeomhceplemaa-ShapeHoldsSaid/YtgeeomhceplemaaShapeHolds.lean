/- ShapeHolds: buckets and stairs are subadditive, and lines are superadditive. -/
import Derived.Test.YtgeeomhceplemaaShapeA
import Derived.Test.YtgeeomhceplemaaShapeP
import Derived.Test.YtgeeomhceplemaaClosI
import Derived.Test.YtgeeomhceplemaaDualA
import Derived.Test.YtgeeomhceplemaaLawKit
set_option linter.unusedVariables false
namespace Go.Proofs.Ytgeeomhceplemaa
open Go.RowKit
theorem bkt_sub {n : Nat} {r b : Int} (h0 : 0 < n) (r0 : 0 ≤ r) (b0 : 0 ≤ b) : subB n (tab n (bktU r b)) = true := by
  refine subB_iff.2 ⟨fun t ht s hs => ?_, by rw [tab_get _ h0, bkt_zero]⟩
  rw [tab_get _ ht, tab_get _ (by omega), tab_get _ (by omega)]
  rcases Nat.eq_zero_or_pos s with rfl | hs0
  · rw [bkt_zero, Nat.sub_zero]; omega
  · rcases Nat.eq_or_lt_of_le hs with rfl | hst
    · rw [Nat.sub_self, bkt_zero]; omega
    · rw [bkt_pos r b hs0, bkt_pos r b (show 0 < t by omega), bkt_pos r b (show 0 < t - s by omega)]
      have e1 : r * (t : Int) = r * (s : Int) + r * ((t - s : Nat) : Int) := by rw [← Int.mul_add]; congr 1; omega
      omega
theorem sta_sub {n : Nat} {s p : Int} (h0 : 0 < n) (s0 : 0 ≤ s) (p0 : 1 ≤ p) : subB n (tab n (staU s p)) = true := by
  refine subB_iff.2 ⟨fun t ht q hq => ?_, ?_⟩
  · rw [tab_get _ ht, tab_get _ (by omega), tab_get _ (by omega)]
    unfold staU
    rw [← Int.mul_add]
    refine mul_mono s0 ?_
    obtain ⟨x, hx⟩ : ∃ x, ((q : Int) + p - 1) / p = x := ⟨_, rfl⟩
    obtain ⟨y, hy⟩ : ∃ y, (((t - q : Nat) : Int) + p - 1) / p = y := ⟨_, rfl⟩
    rw [hx, hy]
    have h1 : (q : Int) ≤ p * x := by
      have a := Int.lt_mul_ediv_self_add (show 0 < p by omega) (x := (q : Int) + p - 1)
      rw [hx] at a; omega
    have h2 : ((t - q : Nat) : Int) ≤ p * y := by
      have a := Int.lt_mul_ediv_self_add (show 0 < p by omega) (x := ((t - q : Nat) : Int) + p - 1)
      rw [hy] at a; omega
    have h3 : (t : Int) + p - 1 < p * (x + y + 1) := by rw [Int.mul_add, Int.mul_add]; omega
    have h4 := Int.ediv_lt_of_lt_mul (show 0 < p by omega) (show (t : Int) + p - 1 < (x + y + 1) * p by rw [Int.mul_comm]; exact h3)
    omega
  · rw [tab_get _ h0]
    unfold staU
    rw [show ((0 : Nat) : Int) + p - 1 = p - 1 by omega, Int.ediv_eq_zero_of_lt (by omega) (by omega)]
    omega
theorem lin_super {n : Nat} {r l : Int} (h0 : 0 < n) (r0 : 0 ≤ r) (l0 : 0 ≤ l) : superL (tab n (linU r l)) = tab n (linU r l) := by
  refine ext_n (n := n) (by unfold superL; rw [tab_len, tab_len]) (tab_len _ _) fun i hi => ?_
  have hz : linU r l 0 = 0 := by unfold linU mx; rw [if_neg (by omega)]; omega
  rw [superL_get (tab_len _ _) hi]
  refine Int.le_antisymm (sup_le (n := n) (g := gi (tab n (linU r l))) ?_ (fun _ _ _ => Int.le_refl _) (fun s t h1 h2 => ?_) i hi) ?_
  · rw [tab_get _ h0, hz]; omega
  · rw [tab_get _ h2, tab_get _ (by omega), tab_get _ (by omega)]
    unfold linU
    rw [← Int.mul_add]
    exact mul_mono r0 (by unfold mx; (repeat' split) <;> omega)
  · rcases Nat.eq_zero_or_pos i with rfl | hp
    · rw [sup_zero, tab_get _ h0, hz]; omega
    · exact sup_ge _ hp
set_option maxRecDepth 100000 in
set_option maxHeartbeats 3200000 in
theorem shapeHolds_walk (h : Int) (r : Int) (k : Int) (W : World) (w_h : -9223372036854775808 ≤ h ∧ h ≤ 9223372036854775807) (w_r : -9223372036854775808 ≤ r ∧ r ≤ 9223372036854775807) (w_k : -9223372036854775808 ≤ k ∧ k ≤ 9223372036854775807) :
    Calls Try.prog 10 #[.int .i64 h, .int .i64 r, .int .i64 k] W fun e w' => e = .returned (.bool true) ∧ Below W.heap.size W w' := by
  have b0 := Below.refl W.heap.size W
  go_enter Try.func10, Try.ntmps10
  go_wp2_with fail
  refine (sstair_any (4) (3) (2) _   (by omega) (by omega) (by omega) (by omega) (by omega) (by omega) ([0, 3, 3, 6, 6]) (0) (5) (by decide +kernel) (rfl)).mono ?_
  rintro e w1 ⟨A_t0, c_t0, rfl, s_t0, l_t0, bb1⟩
  have b1 := belLit0 b0 bb1
  clear b0 bb1
  go_wp2_with fail
  refine (equal_t A_t0 (5) c_t0 ([0, 3, 3, 6, 6]) _ 5 _ [0, 3, 3, 6, 6] _ (slMore (s_t0) _) (Sl.built_ _ (ints [0, 3, 3, 6, 6]) 3 _ rfl rfl) (by omega) (by omega)  (true) (by decide)).mono ?_
  rintro e w2 ⟨rfl, bb2⟩
  have b2 := belLit1 b1 bb2
  replace s_t0 := slLit1 s_t0 bb2
  clear b1 bb2
  clear s_t0 l_t0
  go_wp2_with fail
  refine (within_t (h) (61) _   (by omega) (by omega) (within h 61) (rfl)).mono ?_
  rintro e w3 ⟨rfl, rfl⟩
  go_wp2_with fail
  refine (within_t (r) (10001) _   (by omega) (by omega) (within r 10001) (rfl)).mono ?_
  rintro e w4 ⟨rfl, rfl⟩
  have lo_h := within_lo h 61 (by omega)
  have hi_h := within_hi h 61 (by omega)
  generalize within h 61 = h' at *
  have lo_r := within_lo r 10001 (by omega)
  have hi_r := within_hi r 10001 (by omega)
  generalize within r 10001 = r' at *
  obtain ⟨n, hn⟩ : ∃ n, h'.toNat + 1 = n := ⟨_, rfl⟩
  have n0 : 0 < n := by omega
  have n1 : n ≤ 61 := by omega
  have HN := Lib.hid hn
  clear hn
  go_wp2_with fail
  refine (within_t (k) (100001) _   (by omega) (by omega) (within k 100001) (rfl)).mono ?_
  rintro e w5 ⟨rfl, rfl⟩
  have lo_x1 := within_lo k 100001 (by omega)
  have hi_x1 := within_hi k 100001 (by omega)
  generalize within k 100001 = x1 at *
  have C_f := Lib.hid (bkt_C (b := x1) n0 n1 lo_r lo_x1 (by omega))
  go_wp2_with fail
  refine (sbucket_any (h') (r') (x1) _   (by omega) (by omega) (by omega) (by omega) (by omega) (by omega) (tab n (bktU r' x1)) (0) (n) (sbucket_yes HN.out C_f.out) (tab_len _ _)).mono ?_
  rintro e w6 ⟨A_f, c_f, rfl, s_f, l_f, bb6⟩
  have b6 := belLit0 b2 bb6
  clear b2 bb6
  go_wp2_with fail
  refine (within_t (k) (60) _   (by omega) (by omega) (within k 60) (rfl)).mono ?_
  rintro e w7 ⟨rfl, rfl⟩
  have lo_x2 := within_lo k 60 (by omega)
  have hi_x2 := within_hi k 60 (by omega)
  generalize within k 60 = x2 at *
  have C_g := Lib.hid (sta_C (p := 1 + x2) n0 n1 lo_r (by omega) (by omega))
  go_wp2_with fail
  refine (sstair_any (h') (r') (1 + x2) _   (by omega) (by omega) (by omega) (by omega) (by omega) (by omega) (tab n (staU r' (1 + x2))) (0) (n) (sstair_yes HN.out C_g.out) (tab_len _ _)).mono ?_
  rintro e w8 ⟨A_g, c_g, rfl, s_g, l_g, bb8⟩
  have b8 := belLit0 b6 bb8
  replace s_f := slLit0 s_f bb8
  clear b6 bb8
  go_wp2_with fail
  refine (within_t (k) (61) _   (by omega) (by omega) (within k 61) (rfl)).mono ?_
  rintro e w9 ⟨rfl, rfl⟩
  have lo_x3 := within_lo k 61 (by omega)
  have hi_x3 := within_hi k 61 (by omega)
  generalize within k 61 = x3 at *
  have C_l := Lib.hid (lin_C (l := x3) n0 n1 lo_r (by omega) lo_x3)
  go_wp2_with fail
  refine (sline_any (h') (r') (x3) _   (by omega) (by omega) (by omega) (by omega) (by omega) (by omega) (tab n (linU r' x3)) (0) (n) (sline_yes HN.out C_l.out) (tab_len _ _)).mono ?_
  rintro e w10 ⟨A_l, c_l, rfl, s_l, l_l, bb10⟩
  have b10 := belLit0 b8 bb10
  replace s_f := slLit0 s_f bb10
  replace s_g := slLit0 s_g bb10
  clear b8 bb10
  go_wp2_with fail
  refine (cis_any A_f (n) c_f (tab n (bktU r' x1)) _ (s_f) (by omega) C_f.out (true) (0) (by rw [bkt_sub n0 lo_r lo_x1])).mono ?_
  rintro e w11 ⟨rfl, bb11⟩
  have b11 := belLit0 b10 bb11
  replace s_f := slLit0 s_f bb11
  replace s_g := slLit0 s_g bb11
  replace s_l := slLit0 s_l bb11
  clear b10 bb11
  go_wp2_with fail
  refine (cis_any A_g (n) c_g (tab n (staU r' (1 + x2))) _ (s_g) (by omega) C_g.out (true) (0) (by rw [sta_sub n0 lo_r (by omega)])).mono ?_
  rintro e w12 ⟨rfl, bb12⟩
  have b12 := belLit0 b11 bb12
  replace s_f := slLit0 s_f bb12
  replace s_g := slLit0 s_g bb12
  replace s_l := slLit0 s_l bb12
  clear b11 bb12
  go_wp2_with fail
  refine (super_any A_l (n) c_l (tab n (linU r' x3)) _ (s_l) (by omega)  (tab n (linU r' x3)) (0) (n) (by rw [of1_ok C_l.out, lin_super n0 lo_r lo_x3, fit_yes (fits_C C_l.out)]) (tab_len _ _)).mono ?_
  rintro e w13 ⟨A_s, c_s, rfl, s_s, l_s, bb13⟩
  have b13 := belLit0 b12 bb13
  replace s_f := slLit0 s_f bb13
  replace s_g := slLit0 s_g bb13
  replace s_l := slLit0 s_l bb13
  clear b12 bb13
  go_wp2_with fail
  refine (equal_t A_s (n) c_s (tab n (linU r' x3)) A_l (n) c_l (tab n (linU r' x3)) _ (s_s) (s_l) (by omega) (by omega)  (true) (dec_true (rfl))).mono ?_
  rintro e w14 ⟨rfl, bb14⟩
  have b14 := belLit0 b13 bb14
  replace s_f := slLit0 s_f bb14
  replace s_g := slLit0 s_g bb14
  replace s_l := slLit0 s_l bb14
  replace s_s := slLit0 s_s bb14
  clear b13 bb14
  clear s_f s_g s_l s_s
  go_wp2_with fail
  go_ret
  exact ⟨rfl, b14⟩
end Go.Proofs.Ytgeeomhceplemaa
