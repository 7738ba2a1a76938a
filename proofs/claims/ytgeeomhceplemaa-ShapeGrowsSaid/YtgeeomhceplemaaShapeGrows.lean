/- ShapeGrows: standard curves are monotonic in rate and burst and antitonic in latency; a stair is below a corresponding bucket. -/
import Derived.Test.YtgeeomhceplemaaShapeA
import Derived.Test.YtgeeomhceplemaaShapeP
import Derived.Test.YtgeeomhceplemaaLawKit
set_option linter.unusedVariables false
namespace Go.Proofs.Ytgeeomhceplemaa
open Go.RowKit
theorem bkt_le {n : Nat} {r b r' b' : Int} (c1 : IsC n (tab n (bktU r b))) (c2 : IsC n (tab n (bktU r' b'))) (hr : r ≤ r') (hb : b ≤ b') : leT (tab n (bktU r b)) (tab n (bktU r' b')) = true :=
  leT_yes c1 c2 fun i hi => by
    rw [tab_get _ hi, tab_get _ hi]
    rcases Nat.eq_zero_or_pos i with rfl | hp
    · rw [bkt_zero, bkt_zero]; omega
    · rw [bkt_pos _ _ hp, bkt_pos _ _ hp]
      have := Int.mul_le_mul_of_nonneg_right hr (show (0 : Int) ≤ (i : Int) by omega)
      omega
theorem lin_le {n : Nat} {r l r' l' : Int} (c1 : IsC n (tab n (linU r l))) (c2 : IsC n (tab n (linU r' l'))) (h0 : 0 ≤ r) (hr : r ≤ r') (hl : l' ≤ l) : leT (tab n (linU r l)) (tab n (linU r' l')) = true :=
  leT_yes c1 c2 fun i hi => by
    rw [tab_get _ hi, tab_get _ hi]
    unfold linU
    have a := mul_mono h0 (show mx 0 ((i : Int) - l) ≤ mx 0 ((i : Int) - l') from mx_mono (Int.le_refl _) (by omega))
    have b := Int.mul_le_mul_of_nonneg_right hr (mx_le 0 ((i : Int) - l')).1
    omega
theorem sta_le {n : Nat} {r p c : Int} (c1 : IsC n (tab n (staU r p))) (c2 : IsC n (tab n (bktU c r))) (r0 : 0 ≤ r) (p0 : 1 ≤ p) (hc : r ≤ c * p) (c0 : 0 ≤ c) : leT (tab n (staU r p)) (tab n (bktU c r)) = true :=
  leT_yes c1 c2 fun i hi => by
    rw [tab_get _ hi, tab_get _ hi]
    unfold staU
    rcases Nat.eq_zero_or_pos i with rfl | hp
    · rw [bkt_zero, show ((0 : Nat) : Int) + p - 1 = p - 1 by omega, Int.ediv_eq_zero_of_lt (by omega) (by omega)]; omega
    · rw [bkt_pos _ _ hp]
      obtain ⟨q, hq⟩ : ∃ q, ((i : Int) + p - 1) / p = q := ⟨_, rfl⟩
      rw [hq]
      have h1 : p * q ≤ (i : Int) + p - 1 := by rw [← hq]; exact Int.mul_ediv_self_le (by omega)
      have q1 : 1 ≤ q := by
        rw [← hq]
        exact (Int.le_ediv_iff_mul_le (by omega)).2 (by omega)
      have h2 : p * (q - 1) ≤ (i : Int) := by rw [Int.mul_sub]; omega
      have h3 : r * (q - 1) ≤ (c * p) * (q - 1) := Int.mul_le_mul_of_nonneg_right hc (by omega)
      have h4 : c * (p * (q - 1)) ≤ c * i := mul_mono c0 h2
      rw [Int.mul_assoc] at h3
      have h5 : r * q = r * (q - 1) + r := by rw [Int.mul_sub]; omega
      omega
set_option maxRecDepth 100000 in
set_option maxHeartbeats 3200000 in
theorem shapeGrows_walk (h : Int) (r : Int) (s : Int) (a : Int) (b : Int) (W : World) (w_h : -9223372036854775808 ≤ h ∧ h ≤ 9223372036854775807) (w_r : -9223372036854775808 ≤ r ∧ r ≤ 9223372036854775807) (w_s : -9223372036854775808 ≤ s ∧ s ≤ 9223372036854775807) (w_a : -9223372036854775808 ≤ a ∧ a ≤ 9223372036854775807) (w_b : -9223372036854775808 ≤ b ∧ b ≤ 9223372036854775807) :
    Calls Try.prog 9 #[.int .i64 h, .int .i64 r, .int .i64 s, .int .i64 a, .int .i64 b] W fun e w' => e = .returned (.bool true) ∧ Below W.heap.size W w' := by
  have b0 := Below.refl W.heap.size W
  go_enter Try.func9, Try.ntmps9
  go_wp2_with fail
  refine (sbucket_any (2) (1) (0) _   (by omega) (by omega) (by omega) (by omega) (by omega) (by omega) ([0, 1, 2]) (0) (3) (by decide +kernel) (rfl)).mono ?_
  rintro e w1 ⟨A_t0, c_t0, rfl, s_t0, l_t0, bb1⟩
  have b1 := belLit0 b0 bb1
  clear b0 bb1
  go_wp2_with fail
  refine (equal_t A_t0 (3) c_t0 ([0, 1, 2]) _ 3 _ [0, 1, 2] _ (slMore (s_t0) _) (Sl.built_ _ (ints [0, 1, 2]) 3 _ rfl rfl) (by omega) (by omega)  (true) (by decide)).mono ?_
  rintro e w2 ⟨rfl, bb2⟩
  have b2 := belLit1 b1 bb2
  replace s_t0 := slLit1 s_t0 bb2
  clear b1 bb2
  clear s_t0 l_t0
  go_wp2_with fail
  refine (within_t (h) (61) _   (by omega) (by omega) (within h 61) (rfl)).mono ?_
  rintro e w3 ⟨rfl, rfl⟩
  go_wp2_with fail
  refine (within_t (r) (5001) _   (by omega) (by omega) (within r 5001) (rfl)).mono ?_
  rintro e w4 ⟨rfl, rfl⟩
  go_wp2_with fail
  refine (within_t (s) (5001) _   (by omega) (by omega) (within s 5001) (rfl)).mono ?_
  rintro e w5 ⟨rfl, rfl⟩
  go_wp2_with fail
  refine (within_t (a) (61) _   (by omega) (by omega) (within a 61) (rfl)).mono ?_
  rintro e w6 ⟨rfl, rfl⟩
  go_wp2_with fail
  refine (within_t (b) (61) _   (by omega) (by omega) (within b 61) (rfl)).mono ?_
  rintro e w7 ⟨rfl, rfl⟩
  have lo_h := within_lo h 61 (by omega)
  have hi_h := within_hi h 61 (by omega)
  generalize within h 61 = h' at *
  have lo_r := within_lo r 5001 (by omega)
  have hi_r := within_hi r 5001 (by omega)
  generalize within r 5001 = r' at *
  have lo_s := within_lo s 5001 (by omega)
  have hi_s := within_hi s 5001 (by omega)
  generalize within s 5001 = s' at *
  have lo_a := within_lo a 61 (by omega)
  have hi_a := within_hi a 61 (by omega)
  generalize within a 61 = a' at *
  have lo_b := within_lo b 61 (by omega)
  have hi_b := within_hi b 61 (by omega)
  generalize within b 61 = b' at *
  obtain ⟨n, hn⟩ : ∃ n, h'.toNat + 1 = n := ⟨_, rfl⟩
  have n0 : 0 < n := by omega
  have n1 : n ≤ 61 := by omega
  have HN := Lib.hid hn
  clear hn
  obtain ⟨M, hM⟩ : ∃ M, (if a' + b' < 60 then a' + b' else 60) = M := ⟨_, rfl⟩
  have M0 : a' ≤ M := by rw [← hM]; split <;> omega
  have M1 : M ≤ 60 := by rw [← hM]; split <;> omega
  obtain ⟨d, hd⟩ : ∃ d, a' % 60 = d := ⟨_, rfl⟩
  have d0 : 0 ≤ d := by omega
  have d1 : d < 60 := by omega
  have hdt : a'.tmod 60 = d := by rw [Int.tmod_eq_emod_of_nonneg lo_a]; exact hd
  obtain ⟨c, hc⟩ : ∃ c, (r' + d) / (1 + d) = c := ⟨_, rfl⟩
  have c0 : 0 ≤ c := by rw [← hc]; exact Int.ediv_nonneg (by omega) (by omega)
  have c1 : c ≤ 5060 := by rw [← hc]; exact Int.le_trans (Int.ediv_le_self _ (by omega)) (by omega)
  have cp : r' ≤ c * (1 + d) := by
    have := Int.lt_ediv_add_one_mul_self (r' + d) (show 0 < 1 + d by omega)
    rw [hc, Int.add_mul] at this
    omega
  have hct : (r' + d).tdiv (1 + d) = c := by rw [Int.tdiv_eq_ediv_of_nonneg (by omega)]; exact hc
  have CP := Lib.hid cp
  have z1 : (1 + d == 0) = false := by simp; omega
  have z2 : 1 + d ≠ 0 := by omega
  have C_x := Lib.hid (bkt_C (b := a') n0 n1 lo_r lo_a (by omega))
  have C_y := Lib.hid (bkt_C (r := r' + s') (b := a' + b') n0 n1 (by omega) (by omega) (by omega))
  have C_l := Lib.hid (lin_C (l := M) n0 n1 lo_r (by omega) (by omega))
  have C_m := Lib.hid (lin_C (r := r' + s') (l := a') n0 n1 (by omega) (by omega) lo_a)
  have C_t := Lib.hid (sta_C (p := 1 + d) n0 n1 lo_r (by omega) (by omega))
  have C_u := Lib.hid (bkt_C (r := c) (b := r') n0 n1 c0 lo_r (by omega))
  clear cp
  go_wp2_with fail
  refine (sbucket_any (h') (r') (a') _   (by omega) (by omega) (by omega) (by omega) (by omega) (by omega) (tab n (bktU r' a')) (0) (n) (sbucket_yes HN.out C_x.out) (tab_len _ _)).mono ?_
  rintro e w8 ⟨A_x, c_x, rfl, s_x, l_x, bb8⟩
  have b8 := belLit0 b2 bb8
  clear b2 bb8
  go_wp2_with fail
  refine (sbucket_any (h') (r' + s') (a' + b') _   (by omega) (by omega) (by omega) (by omega) (by omega) (by omega) (tab n (bktU (r' + s') (a' + b'))) (0) (n) (sbucket_yes HN.out C_y.out) (tab_len _ _)).mono ?_
  rintro e w9 ⟨A_y, c_y, rfl, s_y, l_y, bb9⟩
  have b9 := belLit0 b8 bb9
  replace s_x := slLit0 s_x bb9
  clear b8 bb9
  go_wp2_with fail
  refine (sline_any (h') (r') (M) _   (by omega) (by omega) (by omega) (by omega) (by omega) (by omega) (tab n (linU r' M)) (0) (n) (sline_yes HN.out C_l.out) (tab_len _ _)).mono ?_
  rintro e w10 ⟨A_l, c_l, rfl, s_l, l_l, bb10⟩
  have b10 := belLit0 b9 bb10
  replace s_x := slLit0 s_x bb10
  replace s_y := slLit0 s_y bb10
  clear b9 bb10
  go_wp2_with fail
  refine (sline_any (h') (r' + s') (a') _   (by omega) (by omega) (by omega) (by omega) (by omega) (by omega) (tab n (linU (r' + s') a')) (0) (n) (sline_yes HN.out C_m.out) (tab_len _ _)).mono ?_
  rintro e w11 ⟨A_m, c_m, rfl, s_m, l_m, bb11⟩
  have b11 := belLit0 b10 bb11
  replace s_x := slLit0 s_x bb11
  replace s_y := slLit0 s_y bb11
  replace s_l := slLit0 s_l bb11
  clear b10 bb11
  go_wp2_with fail
  refine (sstair_any (h') (r') (1 + d) _   (by omega) (by omega) (by omega) (by omega) (by omega) (by omega) (tab n (staU r' (1 + d))) (0) (n) (sstair_yes HN.out C_t.out) (tab_len _ _)).mono ?_
  rintro e w12 ⟨A_t, c_t, rfl, s_t, l_t, bb12⟩
  have b12 := belLit0 b11 bb12
  replace s_x := slLit0 s_x bb12
  replace s_y := slLit0 s_y bb12
  replace s_l := slLit0 s_l bb12
  replace s_m := slLit0 s_m bb12
  clear b11 bb12
  go_wp2_with fail
  refine (sbucket_any (h') (c) (r') _   (by omega) (by omega) (by omega) (by omega) (by omega) (by omega) (tab n (bktU c r')) (0) (n) (sbucket_yes HN.out C_u.out) (tab_len _ _)).mono ?_
  rintro e w13 ⟨A_u, c_u, rfl, s_u, l_u, bb13⟩
  have b13 := belLit0 b12 bb13
  replace s_x := slLit0 s_x bb13
  replace s_y := slLit0 s_y bb13
  replace s_l := slLit0 s_l bb13
  replace s_m := slLit0 s_m bb13
  replace s_t := slLit0 s_t bb13
  clear b12 bb13
  go_wp2_with fail
  refine (hle_t A_x (n) c_x (tab n (bktU r' a')) A_y (n) c_y (tab n (bktU (r' + s') (a' + b'))) _ (s_x) (s_y) (by omega) (by omega)  (true) (bkt_le C_x.out C_y.out (by omega) (by omega))).mono ?_
  rintro e w14 ⟨rfl, bb14⟩
  have b14 := belLit0 b13 bb14
  replace s_x := slLit0 s_x bb14
  replace s_y := slLit0 s_y bb14
  replace s_l := slLit0 s_l bb14
  replace s_m := slLit0 s_m bb14
  replace s_t := slLit0 s_t bb14
  replace s_u := slLit0 s_u bb14
  clear b13 bb14
  go_wp2_with fail
  refine (hle_t A_l (n) c_l (tab n (linU r' M)) A_m (n) c_m (tab n (linU (r' + s') a')) _ (s_l) (s_m) (by omega) (by omega)  (true) (lin_le C_l.out C_m.out lo_r (by omega) (by omega))).mono ?_
  rintro e w15 ⟨rfl, bb15⟩
  have b15 := belLit0 b14 bb15
  replace s_x := slLit0 s_x bb15
  replace s_y := slLit0 s_y bb15
  replace s_l := slLit0 s_l bb15
  replace s_m := slLit0 s_m bb15
  replace s_t := slLit0 s_t bb15
  replace s_u := slLit0 s_u bb15
  clear b14 bb15
  go_wp2_with fail
  refine (hle_t A_t (n) c_t (tab n (staU r' (1 + d))) A_u (n) c_u (tab n (bktU c r')) _ (s_t) (s_u) (by omega) (by omega)  (true) (sta_le C_t.out C_u.out lo_r (by omega) CP.out c0)).mono ?_
  rintro e w16 ⟨rfl, bb16⟩
  have b16 := belLit0 b15 bb16
  replace s_x := slLit0 s_x bb16
  replace s_y := slLit0 s_y bb16
  replace s_l := slLit0 s_l bb16
  replace s_m := slLit0 s_m bb16
  replace s_t := slLit0 s_t bb16
  replace s_u := slLit0 s_u bb16
  clear b15 bb16
  clear s_x s_y s_l s_m s_t s_u
  go_wp2_with fail
  go_ret
  exact ⟨rfl, b16⟩
end Go.Proofs.Ytgeeomhceplemaa
