/- PrioMore: a faster link delays neither trace, and less high-priority traffic never delays the other one. -/
import Derived.Test.YtgenfiokplmgoaaPrioB
import Derived.Test.YtgenfiokplmgoaaBmin
import Derived.Test.YtgenfiokplmgoaaCloneInt
import Derived.Test.YtgenfiokplmgoaaLawKit
set_option linter.unusedVariables false
namespace Go.Proofs.Ytgenfiokplmgoaa
open Go.RowKit
theorem cum_le {n : Nat} {u v : List Int} (hu : u.length = n) (hv : v.length = n) (cu : IsC (n + 1) (cumul u)) (cv : IsC (n + 1) (cumul v)) (h : ∀ k, k ≤ n → psum u k ≤ psum v k) : leT (cumul u) (cumul v) = true :=
  leT_yes cu cv fun i hi => by rw [cumul_get (by omega), cumul_get (by omega)]; exact h i (by omega)
set_option maxRecDepth 100000 in
set_option maxHeartbeats 3200000 in
theorem prioMore_walk (A_a : Option Addr) (n_a c_a : Nat) (a : List Int) (A_b : Option Addr) (n_b c_b : Nat) (b : List Int) (A_s : Option Addr) (n_s c_s : Nat) (s : List Int) (r : Int) (m : Int) (W : World) (w_a : InInts W A_a n_a c_a a) (w_b : InInts W A_b n_b c_b b) (w_s : InInts W A_s n_s c_s s) (w_r : -9223372036854775808 ≤ r ∧ r ≤ 9223372036854775807) (w_m : -9223372036854775808 ≤ m ∧ m ≤ 9223372036854775807) :
    Calls Try.prog 10 #[.slice A_a n_a c_a, .slice A_b n_b c_b, .slice A_s n_s c_s, .int .i64 r, .int .i64 m] W fun e w' => e = .returned (.bool true) ∧ Below W.heap.size W w' := by
  obtain ⟨s_a, l_a, r_a, _⟩ := w_a
  obtain ⟨s_b, l_b, r_b, _⟩ := w_b
  obtain ⟨s_s, l_s, r_s, _⟩ := w_s
  have b0 := Below.refl W.heap.size W
  go_enter Try.func10, Try.ntmps10
  go_wp2_with fail
  refine (prun_t _ 1 _ [2] _ 1 _ [2] (3) _ (slMore (Sl.built_ _ (ints [2]) 3 _ rfl rfl) _) (Sl.built_ _ (ints [2]) 3 _ (by simp) rfl) (by omega) (by omega) ⟨⟨⟨by decide, by decide⟩, by omega, by omega⟩, ⟨by decide, by decide⟩, rfl⟩ rfl ([2]) ([1]) (0) (1) (rfl) (by decide)).mono ?_
  rintro e w1 ⟨A_t0, c_t0, A_t1, c_t1, rfl, s_t0, s_t1, bb1⟩
  have l_t0 : True := trivial
  have l_t1 : True := trivial
  have b1 := belLit2 b0 bb1
  replace s_a := slLit2 s_a bb1
  replace s_b := slLit2 s_b bb1
  replace s_s := slLit2 s_s bb1
  clear b0 bb1
  go_wp2_with fail
  refine (equal_t A_t1 (1) c_t1 ([1]) _ 1 _ [1] _ (slMore (s_t1) _) (Sl.built_ _ (ints [1]) 3 _ rfl rfl) (by omega) (by omega)  (true) (by decide)).mono ?_
  rintro e w2 ⟨rfl, bb2⟩
  have b2 := belLit1 b1 bb2
  replace s_a := slLit1 s_a bb2
  replace s_b := slLit1 s_b bb2
  replace s_s := slLit1 s_s bb2
  replace s_t0 := slLit1 s_t0 bb2
  replace s_t1 := slLit1 s_t1 bb2
  clear b1 bb2
  clear s_t0 l_t0
  clear s_t1 l_t1
  have hl_a := s_a.int_len
  have hl_b := s_b.int_len
  have hl_s := s_s.int_len
  by_cases hok : prioOk a b r
  case neg =>
    have HOK := Lib.hid hok
    clear hok hl_a hl_b hl_s
    go_wp2_with fail
    refine (prun_bad A_a n_a c_a a A_b n_b c_b b r _ HOK.out s_a s_b (by omega) (by omega)).mono ?_
    rintro e wq ⟨⟨er, her, rfl⟩, bbq⟩
    have bq := belLit0 b2 bbq
    have hne : (er != 0) = true := by simpa using her
    clear her bbq b2
    clear s_a s_b s_s
    go_wp2_with fail
    go_ret
    exact ⟨rfl, bq⟩
  have hab : n_a = n_b := by rw [← hl_a, ← hl_b]; exact hok.2.2.symm
  subst hab
  have HOK := Lib.hid hok
  have t_a := hok.1.1.1
  rw [hl_a] at t_a
  have r0 := hok.1.2.1
  have r1 := hok.1.2.2
  have HLA := Lib.hid hl_a
  have HLB := Lib.hid hl_b
  have HLS := Lib.hid hl_s
  have hlt : ¬ r < 0 := by omega
  have hnn : ((n_a : Int) != n_a) = false := by simp
  clear hok hl_a hl_b hl_s
  go_wp2_with fail
  refine (prun_t A_a (n_a) c_a (a) A_b (n_a) c_b (b) (r) _ (s_a) (s_b) (by omega) (by omega) HOK.out rfl (tab n_a (ldep a r)) (tab n_a (pout a b r)) (0) (n_a) (rfl) (rfl)).mono ?_
  rintro e w3 ⟨A_x, c_x, A_y, c_y, rfl, s_x, s_y, bb3⟩
  have l_x : True := trivial
  have l_y : True := trivial
  have b3 := belLit0 b2 bb3
  replace s_a := slLit0 s_a bb3
  replace s_b := slLit0 s_b bb3
  replace s_s := slLit0 s_s bb3
  clear b2 bb3
  have f2 : IntKind.i64.wrap (10000 - r + 1) = 10000 - r + 1 := IntWalk.i64_in _ ⟨by omega, by omega⟩
  go_wp2_with fail
  refine (within_t (m) (10000 - r + 1) _   (by omega) (by omega) (within m (10000 - r + 1)) (rfl)).mono ?_
  rintro e w4 ⟨rfl, rfl⟩
  have k1 := within_lo m (10000 - r + 1) (by omega)
  have k2 := within_hi m (10000 - r + 1) (by omega)
  generalize within m (10000 - r + 1) = p at *
  have OK2 : Hid (prioOk a b (r + p)) := ⟨⟨HOK.out.1.1, by omega, by omega⟩, HOK.out.2⟩
  go_wp2_with fail
  refine (prun_t A_a (n_a) c_a (a) A_b (n_a) c_b (b) (r + p) _ (s_a) (s_b) (by omega) (by omega) OK2.out rfl (tab n_a (ldep a (r + p))) (tab n_a (pout a b (r + p))) (0) (n_a) (rfl) (rfl)).mono ?_
  rintro e w5 ⟨A_u, c_u, A_v, c_v, rfl, s_u, s_v, bb5⟩
  have l_u : True := trivial
  have l_v : True := trivial
  have b5 := belLit0 b3 bb5
  replace s_a := slLit0 s_a bb5
  replace s_b := slLit0 s_b bb5
  replace s_s := slLit0 s_s bb5
  replace s_x := slLit0 s_x bb5
  replace s_y := slLit0 s_y bb5
  clear b3 bb5
  have dx := dep_ok HOK.out.1
  have dy := pout_ok HOK.out
  have du := dep_ok OK2.out.1
  have dv := pout_ok OK2.out
  rw [HLA.out] at dx dy du dv
  have cx := cumul_C dx
  have cy := cumul_C dy
  have cu := cumul_C du
  have cw := cumul_C dv
  rw [tab_len] at cx cy cu cw
  have DX := Lib.hid dx
  have DY := Lib.hid dy
  have DU := Lib.hid du
  have DV := Lib.hid dv
  have C_one := Lib.hid cx
  have C_two := Lib.hid cy
  have C_p := Lib.hid cu
  have C_q := Lib.hid cw
  clear dx dy du dv cx cy cu cw
  go_wp2_with fail
  refine (tsum_ok A_x (n_a) c_x (tab n_a (ldep a r)) _ (s_x) (by omega) DX.out (cumul (tab n_a (ldep a r))) (0) (n_a + 1) (rfl) (C_one.out.len)).mono ?_
  rintro e w6 ⟨A_one, c_one, rfl, s_one, l_one, bb6⟩
  have b6 := belLit0 b5 bb6
  replace s_a := slLit0 s_a bb6
  replace s_b := slLit0 s_b bb6
  replace s_s := slLit0 s_s bb6
  replace s_x := slLit0 s_x bb6
  replace s_y := slLit0 s_y bb6
  replace s_u := slLit0 s_u bb6
  replace s_v := slLit0 s_v bb6
  clear b5 bb6
  go_wp2_with fail
  refine (tsum_ok A_y (n_a) c_y (tab n_a (pout a b r)) _ (s_y) (by omega) DY.out (cumul (tab n_a (pout a b r))) (0) (n_a + 1) (rfl) (C_two.out.len)).mono ?_
  rintro e w7 ⟨A_two, c_two, rfl, s_two, l_two, bb7⟩
  have b7 := belLit0 b6 bb7
  replace s_a := slLit0 s_a bb7
  replace s_b := slLit0 s_b bb7
  replace s_s := slLit0 s_s bb7
  replace s_x := slLit0 s_x bb7
  replace s_y := slLit0 s_y bb7
  replace s_u := slLit0 s_u bb7
  replace s_v := slLit0 s_v bb7
  replace s_one := slLit0 s_one bb7
  clear b6 bb7
  go_wp2_with fail
  refine (tsum_ok A_u (n_a) c_u (tab n_a (ldep a (r + p))) _ (s_u) (by omega) DU.out (cumul (tab n_a (ldep a (r + p)))) (0) (n_a + 1) (rfl) (C_p.out.len)).mono ?_
  rintro e w8 ⟨A_p1, c_p1, rfl, s_p1, l_p1, bb8⟩
  have b8 := belLit0 b7 bb8
  replace s_a := slLit0 s_a bb8
  replace s_b := slLit0 s_b bb8
  replace s_s := slLit0 s_s bb8
  replace s_x := slLit0 s_x bb8
  replace s_y := slLit0 s_y bb8
  replace s_u := slLit0 s_u bb8
  replace s_v := slLit0 s_v bb8
  replace s_one := slLit0 s_one bb8
  replace s_two := slLit0 s_two bb8
  clear b7 bb8
  go_wp2_with fail
  refine (tsum_ok A_v (n_a) c_v (tab n_a (pout a b (r + p))) _ (s_v) (by omega) DV.out (cumul (tab n_a (pout a b (r + p)))) (0) (n_a + 1) (rfl) (C_q.out.len)).mono ?_
  rintro e w9 ⟨A_q1, c_q1, rfl, s_q1, l_q1, bb9⟩
  have b9 := belLit0 b8 bb9
  replace s_a := slLit0 s_a bb9
  replace s_b := slLit0 s_b bb9
  replace s_s := slLit0 s_s bb9
  replace s_x := slLit0 s_x bb9
  replace s_y := slLit0 s_y bb9
  replace s_u := slLit0 s_u bb9
  replace s_v := slLit0 s_v bb9
  replace s_one := slLit0 s_one bb9
  replace s_two := slLit0 s_two bb9
  replace s_p1 := slLit0 s_p1 bb9
  clear b8 bb9
  go_wp2_with fail
  refine (hle_t A_one (n_a + 1) c_one (cumul (tab n_a (ldep a r))) A_p1 (n_a + 1) c_p1 (cumul (tab n_a (ldep a (r + p)))) _ (s_one) (s_p1) (by omega) (by omega)  (true) (cum_le (tab_len _ _) (tab_len _ _) C_one.out C_p.out fun k hk => first_mono_ (by omega) n_a k hk)).mono ?_
  rintro e w10 ⟨rfl, bb10⟩
  have b10 := belLit0 b9 bb10
  replace s_a := slLit0 s_a bb10
  replace s_b := slLit0 s_b bb10
  replace s_s := slLit0 s_s bb10
  replace s_x := slLit0 s_x bb10
  replace s_y := slLit0 s_y bb10
  replace s_u := slLit0 s_u bb10
  replace s_v := slLit0 s_v bb10
  replace s_one := slLit0 s_one bb10
  replace s_two := slLit0 s_two bb10
  replace s_p1 := slLit0 s_p1 bb10
  replace s_q1 := slLit0 s_q1 bb10
  clear b9 bb10
  go_wp2_with fail
  refine (hle_t A_two (n_a + 1) c_two (cumul (tab n_a (pout a b r))) A_q1 (n_a + 1) c_q1 (cumul (tab n_a (pout a b (r + p)))) _ (s_two) (s_q1) (by omega) (by omega)  (true) (cum_le (tab_len _ _) (tab_len _ _) C_two.out C_q.out fun k hk => second_mono (by omega) n_a (fun _ _ => Int.le_refl _) k hk)).mono ?_
  rintro e w11 ⟨rfl, bb11⟩
  have b11 := belLit0 b10 bb11
  replace s_a := slLit0 s_a bb11
  replace s_b := slLit0 s_b bb11
  replace s_s := slLit0 s_s bb11
  replace s_x := slLit0 s_x bb11
  replace s_y := slLit0 s_y bb11
  replace s_u := slLit0 s_u bb11
  replace s_v := slLit0 s_v bb11
  replace s_one := slLit0 s_one bb11
  replace s_two := slLit0 s_two bb11
  replace s_p1 := slLit0 s_p1 bb11
  replace s_q1 := slLit0 s_q1 bb11
  clear b10 bb11
  clear s_x l_x
  clear s_y l_y
  clear s_u l_u
  clear s_v l_v
  clear s_one l_one
  clear s_p1 l_p1
  clear s_q1 l_q1
  by_cases hs : traceOk s
  case neg =>
    have nes := traceErr_ne s
    have HS := Lib.hid hs
    clear hs
    go_wp2_with fail
    refine (tcheck_any A_s (n_s) c_s (s) _ (s_s) (by omega) HS.out (traceErr s) (rfl)).mono ?_
    rintro e w12 ⟨rfl, rfl⟩
    clear s_a s_b s_s s_two
    go_wp2_with fail
    go_ret
    exact ⟨rfl, b11⟩
  have HS := Lib.hid hs
  clear hs
  go_wp2_with fail
  refine (tcheck_yes A_s (n_s) c_s (s) _ (s_s) (by omega) HS.out (0) (rfl)).mono ?_
  rintro e w13 ⟨rfl, rfl⟩
  by_cases hns : n_s = n_a
  case neg =>
    have hx : ((n_s : Int) != n_a) = true := by simp; omega
    clear hns
    clear s_a s_b s_s s_two
    go_wp2_with fail
    go_ret
    exact ⟨rfl, b11⟩
  subst hns
  have hnn2 : ((n_s : Int) != n_s) = false := by simp
  go_wp2_with fail
  refine (cloneInt A_a n_s c_a (ints a) _ s_a (ints_one _) (by omega)).mono ?_
  rintro e wc ⟨v5, rfl, hown5, hb5, hz5⟩
  obtain ⟨B5, d5, rfl, hcap5⟩ := own_form hown5
  have BW := Lib.hid b11
  have O5 := Lib.hid hown5
  have HB5 := Lib.hid hb5
  have SS := Lib.hid s_s
  have SB := Lib.hid s_b
  have ST := Lib.hid s_two
  clear s_s s_b s_a s_two hown5 hb5 b11
  go_wp2_with fail
  go_loopw [164, 29] (fun i _ wr => ∃ k : Nat, k ≤ n_s ∧ i = .int .i64 k ∧ Below w11.heap.size w11 wr ∧ wr.ownsRow w11.heap.size 3 1 (.slice B5 n_s d5) n_s (ints (bmin a s k))) (fun i _ _ => n_s - (intOf i).toNat)
  case atStart => exact ⟨0, Nat.zero_le _, rfl, HB5.out, by rw [bmin_zero]; exact O5.out⟩
  case round =>
    obtain ⟨k, hk, rfl, hbr, hor⟩ := hrel
    by_cases hlt : k < n_s
    · obtain ⟨b9, cap, hv, hg1, hg2⟩ := hor.form (by omega)
      cases hv
      have hcj := hor.cellAt k (by omega)
      have hkl : k < a.length := by rw [HLA.out]; exact hlt
      rw [ints_get (by rw [bmin_len]; exact hkl), bmin_at hkl] at hcj
      have hfj := hor.frozenAt k
      have tr := SS.out.on hbr
      obtain ⟨b1, o1, rfl, q1, hc1⟩ := tr.int_at hlt
      have f3 : (if gi s k < gi a k then gi s k else gi a k) = mn (gi a k) (gi s k) := rfl
      have m1 : (k : Int) < n_s := by omega
      have m0 : (0 : Int) ≤ k := by omega
      have hor' := Lib.hid hor
      have hbr' := Lib.hid hbr
      clear hor hbr tr
      go_wp2_with fail
      refine wp_region_still_tail 12 (by kernel_rfl) (by kernel_rfl) ?_
      simp only [List.take_succ_cons, List.take_zero, List.drop_succ_cons, List.drop_zero]
      repeat still_step
      refine wpStill_nil ?_
      change wpList _ _ _ _ _ _
      go_wp2_with fail
      go_roundw
      case rel =>
        have hst := (hor'.out.stored k (.int .i64 (mn (gi a k) (gi s k)))).1
        rw [ints_set, bmin_set hkl] at hst
        exact ⟨k + 1, by omega, by go_num, (hbr'.out.setCell (p := ⟨b9, k, none⟩) hg1 _).drew, hst⟩
      case measure => simp [intOf]; omega
    · have hkn : k = n_s := by omega
      subst hkn
      have hS := Sl.of_own hor
      rw [show bmin a s k = bmin a s a.length by rw [HLA.out]] at hS
      have hok6 := bmin_ok HOK.out.1.1 HS.out (by rw [HLS.out, HLA.out])
      have s_b := SB.out.on hbr
      have s_two := ST.out.on hbr
      have bb := belLit0 BW.out hbr
      have hge : ∀ i, i < k → gi (bmin a s a.length) i ≤ gi a i := fun i hi => by
        rw [bmin_full (by rw [HLA.out]; exact hi)]
        exact (mn_le (gi a i) (gi s i)).1
      have GE := Lib.hid hge
      have s_c := hS
      have l_c := hcap5
      clear hor hbr hge hS
      have OK3 : Hid (prioOk (bmin a s a.length) b r) := ⟨⟨hok6, r0, r1⟩, HOK.out.2.1, by rw [bmin_len, HLA.out, HLB.out]⟩
      have LC : Hid ((bmin a s a.length).length = k) := by show _ = _; rw [bmin_len, HLA.out]
      clear hok6
      generalize bmin a s a.length = z at *
      go_wp2_with fail
      refine (prun_t B5 (k) d5 (z) A_b (k) c_b (b) (r) _ (s_c) (s_b) (by omega) (by omega) OK3.out rfl (tab k (ldep z r)) (tab k (pout z b r)) (0) (k) (rfl) (rfl)).mono ?_
      rintro e w14 ⟨A_u, c_u, A_v, c_v, rfl, s_u, s_v, bb14⟩
      have l_u : True := trivial
      have l_v : True := trivial
      have b14 := belLit0 bb bb14
      replace s_b := slLit0 s_b bb14
      replace s_two := slLit0 s_two bb14
      replace s_c := slLit0 s_c bb14
      clear bb bb14
      have dv := pout_ok OK3.out
      rw [LC.out] at dv
      have cw := cumul_C dv
      rw [tab_len] at cw
      have DV2 := Lib.hid dv
      have C_q2 := Lib.hid cw
      clear dv cw
      go_wp2_with fail
      refine (tsum_ok A_v (k) c_v (tab k (pout z b r)) _ (s_v) (by omega) DV2.out (cumul (tab k (pout z b r))) (0) (k + 1) (rfl) (C_q2.out.len)).mono ?_
      rintro e w15 ⟨A_q2, c_q2, rfl, s_q2, l_q2, bb15⟩
      have b15 := belLit0 b14 bb15
      replace s_b := slLit0 s_b bb15
      replace s_two := slLit0 s_two bb15
      replace s_c := slLit0 s_c bb15
      replace s_u := slLit0 s_u bb15
      replace s_v := slLit0 s_v bb15
      clear b14 bb15
      go_wp2_with fail
      refine (hle_t A_two (k + 1) c_two (cumul (tab k (pout a b r))) A_q2 (k + 1) c_q2 (cumul (tab k (pout z b r))) _ (s_two) (s_q2) (by omega) (by omega)  (true) (cum_le (tab_len _ _) (tab_len _ _) C_two.out C_q2.out fun j hj => second_mono (Int.le_refl _) k (fun i hi => GE.out i hi) j hj)).mono ?_
      rintro e w16 ⟨rfl, bb16⟩
      have b16 := belLit0 b15 bb16
      replace s_b := slLit0 s_b bb16
      replace s_two := slLit0 s_two bb16
      replace s_c := slLit0 s_c bb16
      replace s_u := slLit0 s_u bb16
      replace s_v := slLit0 s_v bb16
      replace s_q2 := slLit0 s_q2 bb16
      clear b15 bb16
      clear s_b s_two s_c s_u s_v s_q2
      go_wp2_with fail
      go_ret
      exact ⟨rfl, b16⟩
end Go.Proofs.Ytgenfiokplmgoaa
