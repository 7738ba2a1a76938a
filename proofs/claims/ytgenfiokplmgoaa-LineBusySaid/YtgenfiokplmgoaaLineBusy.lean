/- LineBusy: busy periods are shorter than any interval in which the arrivals never exceed the capacity. -/
import Derived.Test.YtgenfiokplmgoaaBusyA
import Derived.Test.YtgenfiokplmgoaaBoundA
import Derived.Test.YtgenfiokplmgoaaLawKit
set_option linter.unusedVariables false
namespace Go.Proofs.Ytgenfiokplmgoaa
open Go.RowKit
set_option maxRecDepth 100000 in
set_option maxHeartbeats 3200000 in
theorem lineBusy_walk (A_a : Option Addr) (n_a c_a : Nat) (a : List Int) (A_l : Option Addr) (n_l c_l : Nat) (l : List Int) (r : Int) (d : Int) (W : World) (w_a : InInts W A_a n_a c_a a) (w_l : InInts W A_l n_l c_l l) (w_r : -9223372036854775808 ≤ r ∧ r ≤ 9223372036854775807) (w_d : -9223372036854775808 ≤ d ∧ d ≤ 9223372036854775807) :
    Calls Try.prog 8 #[.slice A_a n_a c_a, .slice A_l n_l c_l, .int .i64 r, .int .i64 d] W fun e w' => e = .returned (.bool true) ∧ Below W.heap.size W w' := by
  obtain ⟨s_a, l_a, r_a, _⟩ := w_a
  obtain ⟨s_l, l_l, r_l, _⟩ := w_l
  have b0 := Below.refl W.heap.size W
  go_enter Try.func8, Try.ntmps8
  go_wp2_with fail
  refine (busy_any _ 4 _ [5, 0, 0, 3] (2) _ (Sl.built_ _ (ints [5, 0, 0, 3]) 3 _ rfl rfl) (by omega) ⟨⟨by decide, by decide⟩, by omega, by omega⟩ (((2 : Nat) : Int)) (0) (by decide)).mono ?_
  rintro e w1 ⟨rfl, bb1⟩
  have b1 := belLit1 b0 bb1
  replace s_a := slLit1 s_a bb1
  replace s_l := slLit1 s_l bb1
  clear b0 bb1
  have hl_a := s_a.int_len
  have hl_l := s_l.int_len
  by_cases hok : traceOk a
  case neg =>
    have hne := traceErr_ne a
    have HOK := Lib.hid hok
    clear hok hl_a hl_l
    go_wp2_with fail
    refine (tsum_no A_a (n_a) c_a (a) _ (s_a) (by omega) HOK.out ([]) (traceErr a) (0) (rfl) (rfl)).mono ?_
    rintro e w2 ⟨A_x, c_x, rfl, s_x, l_x, bb2⟩
    have b2 := belLit0 b1 bb2
    replace s_a := slLit0 s_a bb2
    replace s_l := slLit0 s_l bb2
    clear b1 bb2
    clear s_a s_l s_x
    go_wp2_with fail
    go_ret
    exact ⟨rfl, b2⟩
  have HOK := Lib.hid hok
  have t_a := hok.1
  rw [hl_a] at t_a
  have c_1 := cumul_C hok
  rw [hl_a] at c_1
  have C_x := Lib.hid c_1
  have HLA := Lib.hid hl_a
  clear hok c_1
  go_wp2_with fail
  refine (tsum_ok A_a (n_a) c_a (a) _ (s_a) (by omega) HOK.out (cumul a) (0) (n_a + 1) (rfl) (C_x.out.len)).mono ?_
  rintro e w3 ⟨A_x, c_x, rfl, s_x, l_x, bb3⟩
  have b3 := belLit0 b1 bb3
  replace s_a := slLit0 s_a bb3
  replace s_l := slLit0 s_l bb3
  clear b1 bb3
  by_cases hb : bothB (cumul a) l = true
  case neg =>
    have HB := Lib.hid (Bool.eq_false_iff.2 hb)
    clear hb hl_a hl_l
    go_wp2_with fail
    refine (hboth_t A_x (n_a + 1) c_x (cumul a) A_l (n_l) c_l (l) _ (s_x) (s_l) (by omega) (by omega)  (false) (HB.out)).mono ?_
    rintro e w4 ⟨rfl, bb4⟩
    have b4 := belLit0 b3 bb4
    replace s_a := slLit0 s_a bb4
    replace s_l := slLit0 s_l bb4
    replace s_x := slLit0 s_x bb4
    clear b3 bb4
    clear s_a s_l s_x
    go_wp2_with fail
    go_ret
    exact ⟨rfl, b4⟩
  obtain ⟨e1, -, c_l⟩ := both_C hb C_x.out.len hl_l
  have HB := Lib.hid hb
  subst e1
  have C_l := Lib.hid c_l
  clear hb hl_a hl_l c_l
  go_wp2_with fail
  refine (hboth_t A_x (n_a + 1) c_x (cumul a) A_l (n_a + 1) c_l (l) _ (s_x) (s_l) (by omega) (by omega)  (true) (HB.out)).mono ?_
  rintro e w5 ⟨rfl, bb5⟩
  have b5 := belLit0 b3 bb5
  replace s_a := slLit0 s_a bb5
  replace s_l := slLit0 s_l bb5
  replace s_x := slLit0 s_x bb5
  clear b3 bb5
  go_wp2_with fail
  refine (within_t (r) (10001) _   (by omega) (by omega) (within r 10001) (rfl)).mono ?_
  rintro e w6 ⟨rfl, rfl⟩
  go_wp2_with fail
  refine (within_t (d) (((n_a + 1 : Nat) : Int)) _   (by omega) (by omega) (within d ((n_a + 1 : Nat) : Int)) (rfl)).mono ?_
  rintro e w7 ⟨rfl, rfl⟩
  have r0 := within_lo r 10001 (by omega)
  have r1 := within_hi r 10001 (by omega)
  have d0 := within_lo d ((n_a + 1 : Nat) : Int) (by omega)
  have d1 := within_hi d ((n_a + 1 : Nat) : Int) (by omega)
  generalize within r 10001 = r' at *
  generalize within d ((n_a + 1 : Nat) : Int) = d' at *
  obtain ⟨k, rfl⟩ := Int.eq_ofNat_of_zero_le d0
  have dk : k < n_a + 1 := by omega
  have LOK : Hid (lineOk a r') := ⟨HOK.out, r0, by omega⟩
  have y0 := C_l.out.lo k dk
  have y1 := C_l.out.hi k dk
  obtain ⟨z, hz⟩ : ∃ z, r' * (k : Int) = z := ⟨_, rfl⟩
  have z0 : 0 ≤ z := by rw [← hz]; exact Int.mul_nonneg r0 (by omega)
  have z1 : z ≤ 600000 := by
    rw [← hz]
    have : r' * (k : Int) ≤ 10000 * k := Int.mul_le_mul_of_nonneg_right (by omega) (by omega)
    omega
  have fw : wrap64 (r' * (k : Int)) = z := by rw [hz]; exact IntWalk.wrap64_in _ ⟨by omega, by omega⟩
  have HZ := Lib.hid hz
  clear hz
  by_cases h1 : fitB (n_a + 1) (cumul a) l = true
  · have H1 := Lib.hid h1
    clear h1
    go_wp2_with fail
    refine (fits_any A_x (n_a + 1) c_x (cumul a) A_l (n_a + 1) c_l (l) _ (s_x) (s_l) (by omega) (by omega) C_x.out C_l.out rfl (true) (0) (by rw [H1.out])).mono ?_
    rintro e w8 ⟨rfl, bb8⟩
    have b8 := belLit0 b5 bb8
    replace s_a := slLit0 s_a bb8
    replace s_l := slLit0 s_l bb8
    replace s_x := slLit0 s_x bb8
    clear b5 bb8
    obtain ⟨m, hm⟩ : ∃ m, bzm (fun i => lbuf a r' (i + 1)) n_a = m := ⟨_, rfl⟩
    have M := Lib.hid hm
    have mb := bzm_le (fun i => lbuf a r' (i + 1)) n_a
    rw [hm] at mb
    clear hm
    go_wp2_with fail
    refine (busy_any A_a (n_a) c_a (a) (r') _ (s_a) (by omega) LOK.out ((m : Int)) (0) (by rw [M.out])).mono ?_
    rintro e w9 ⟨rfl, bb9⟩
    have b9 := belLit0 b8 bb9
    replace s_a := slLit0 s_a bb9
    replace s_l := slLit0 s_l bb9
    replace s_x := slLit0 s_x bb9
    clear b8 bb9
    by_cases h0 : k = 0
    ·
      have e0 : ((k : Int) == 0) = true := by simp; omega
      clear h0
      clear s_a s_l s_x
      go_wp2_with fail
      go_ret
      exact ⟨rfl, b9⟩
    · have e0 : ((k : Int) == 0) = false := by simp; omega
      obtain ⟨bk_l, of_l, eA_l, -, -⟩ := s_l.int_at (k := 0) (by omega)
      subst eA_l
      have hc_l := s_l.int_cell (k := k) (by omega)
      by_cases hz : z < gi l k
      ·
        clear h0
        clear s_a s_l s_x
        go_wp2_with fail
        go_ret
        exact ⟨rfl, b9⟩
      · have mk : (m : Int) < k := by
          have := busy_lt LOK.out (n := n_a) (d := k) HLA.out.symm (by omega) (fun t ht s hs => by
            have := (show fitP (n_a + 1) (gi (cumul a)) (gi l) from of_decide_eq_true H1.out) t ht s hs
            rwa [cumul_get (by rw [HLA.out]; omega), cumul_get (by rw [HLA.out]; omega)] at this) (by rw [HZ.out]; omega)
          rw [M.out] at this
          omega
        clear h0
        clear s_a s_l s_x
        go_wp2_with fail
        go_ret
        exact ⟨rfl, b9⟩
  · have H1 := Lib.hid h1
    clear h1
    have B1 := Lib.hid (Bool.eq_false_iff.2 H1.out)
    go_wp2_with fail
    refine (fits_any A_x (n_a + 1) c_x (cumul a) A_l (n_a + 1) c_l (l) _ (s_x) (s_l) (by omega) (by omega) C_x.out C_l.out rfl (false) (0) (by rw [B1.out])).mono ?_
    rintro e w10 ⟨rfl, bb10⟩
    have b10 := belLit0 b5 bb10
    replace s_a := slLit0 s_a bb10
    replace s_l := slLit0 s_l bb10
    replace s_x := slLit0 s_x bb10
    clear b5 bb10
    obtain ⟨m, hm⟩ : ∃ m, bzm (fun i => lbuf a r' (i + 1)) n_a = m := ⟨_, rfl⟩
    have M := Lib.hid hm
    have mb := bzm_le (fun i => lbuf a r' (i + 1)) n_a
    rw [hm] at mb
    clear hm
    go_wp2_with fail
    refine (busy_any A_a (n_a) c_a (a) (r') _ (s_a) (by omega) LOK.out ((m : Int)) (0) (by rw [M.out])).mono ?_
    rintro e w11 ⟨rfl, bb11⟩
    have b11 := belLit0 b10 bb11
    replace s_a := slLit0 s_a bb11
    replace s_l := slLit0 s_l bb11
    replace s_x := slLit0 s_x bb11
    clear b10 bb11
    clear s_a s_l s_x
    go_wp2_with fail
    go_ret
    exact ⟨rfl, b11⟩
end Go.Proofs.Ytgenfiokplmgoaa
