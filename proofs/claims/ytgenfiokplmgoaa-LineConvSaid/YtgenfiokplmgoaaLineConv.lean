/- LineConv: the departures are the convolution of the arrivals with the service curve. -/
import Derived.Test.YtgenfiokplmgoaaLineK
import Derived.Test.YtgenfiokplmgoaaConvA
import Derived.Test.YtgenfiokplmgoaaShapeA
import Derived.Test.YtgenfiokplmgoaaShapeP
import Derived.Test.YtgenfiokplmgoaaLawKit
set_option linter.unusedVariables false
namespace Go.Proofs.Ytgenfiokplmgoaa
open Go.RowKit
theorem line_conv {a : List Int} {r : Int} (h : lineOk a r) {n : Nat} (hn : a.length = n) (cf : IsC (n + 1) (cumul a)) (cl : IsC (n + 1) (tab (n + 1) (linU r 0))) : convL (cumul a) (tab (n + 1) (linU r 0)) = cumul (tab n (ldep a r)) := by
  refine ext_n (n := n + 1) (by rw [convL_len, cf.len]) (by rw [cumul_len, tab_len]) fun i hi => ?_
  rw [convL_get cf.len hi, cumul_get (by rw [tab_len]; omega), dep_conv h n i (by omega)]
  refine cv_congr (n := n + 1) hi (fun j hj => cumul_get (by omega)) fun j hj => ?_
  rw [tab_get _ hj]
  unfold linU mx
  split
  · simp
  · rename_i h2; rw [show (j : Int) = 0 by omega]
set_option maxRecDepth 100000 in
set_option maxHeartbeats 3200000 in
theorem lineConv_walk (A_a : Option Addr) (n_a c_a : Nat) (a : List Int) (r : Int) (W : World) (w_a : InInts W A_a n_a c_a a) (w_r : -9223372036854775808 ≤ r ∧ r ≤ 9223372036854775807) :
    Calls Try.prog 9 #[.slice A_a n_a c_a, .int .i64 r] W fun e w' => e = .returned (.bool true) ∧ Below W.heap.size W w' := by
  obtain ⟨s_a, l_a, r_a, _⟩ := w_a
  have b0 := Below.refl W.heap.size W
  go_enter Try.func9, Try.ntmps9
  go_wp2_with fail
  refine (lrun_t _ 1 _ [5] (2) _ (Sl.built_ _ (ints [5]) 3 _ rfl rfl) (by omega) ⟨⟨by decide, by decide⟩, by omega, by omega⟩ ([2]) ([3]) (0) (1) (rfl) (by decide)).mono ?_
  rintro e w1 ⟨A_t0, c_t0, A_t1, c_t1, rfl, s_t0, s_t1, bb1⟩
  have l_t0 : True := trivial
  have l_t1 : True := trivial
  have b1 := belLit1 b0 bb1
  replace s_a := slLit1 s_a bb1
  clear b0 bb1
  go_wp2_with fail
  refine (equal_t A_t0 (1) c_t0 ([2]) _ 1 _ [2] _ (slMore (s_t0) _) (Sl.built_ _ (ints [2]) 3 _ rfl rfl) (by omega) (by omega)  (true) (by decide)).mono ?_
  rintro e w2 ⟨rfl, bb2⟩
  have b2 := belLit1 b1 bb2
  replace s_a := slLit1 s_a bb2
  replace s_t0 := slLit1 s_t0 bb2
  replace s_t1 := slLit1 s_t1 bb2
  clear b1 bb2
  clear s_t0 l_t0
  clear s_t1 l_t1
  have hl_a := s_a.int_len
  by_cases hok : lineOk a r
  case neg =>
    have hne := lineErr_ne a r
    have HOK := Lib.hid hok
    clear hok hl_a
    go_wp2_with fail
    refine (lrun_n A_a (n_a) c_a (a) (r) _ (s_a) (by omega) HOK.out ([]) ([]) (lineErr a r) (0) (rfl) (rfl)).mono ?_
    rintro e w3 ⟨A_x, c_x, A_y, c_y, rfl, s_x, s_y, bb3⟩
    have l_x : True := trivial
    have l_y : True := trivial
    have b3 := belLit0 b2 bb3
    replace s_a := slLit0 s_a bb3
    clear b2 bb3
    clear s_a s_x s_y
    go_wp2_with fail
    go_ret
    exact ⟨rfl, b3⟩
  have HOK := Lib.hid hok
  have t_a := hok.1.1
  rw [hl_a] at t_a
  have c_1 := cumul_C hok.1
  rw [hl_a] at c_1
  have C_f := Lib.hid c_1
  have dk := dep_ok hok
  rw [hl_a] at dk
  have DK := Lib.hid dk
  have c_2 := cumul_C dk
  rw [tab_len] at c_2
  have C_d := Lib.hid c_2
  have r0 := hok.2.1
  have r1 := hok.2.2
  have C_l := Lib.hid (lin_C (n := n_a + 1) (l := 0) (by omega) (by omega) r0 r1 (by omega))
  have E := Lib.hid (line_conv hok hl_a c_1 C_l.out)
  have HLA := Lib.hid hl_a
  clear hok hl_a c_1 dk c_2
  go_wp2_with fail
  refine (lrun_t A_a (n_a) c_a (a) (r) _ (s_a) (by omega) HOK.out (tab n_a (ldep a r)) (tab n_a fun k => lbuf a r (k + 1)) (0) (n_a) (rfl) (rfl)).mono ?_
  rintro e w4 ⟨A_out, c_out, A_left, c_left, rfl, s_out, s_left, bb4⟩
  have l_out : True := trivial
  have l_left : True := trivial
  have b4 := belLit0 b2 bb4
  replace s_a := slLit0 s_a bb4
  clear b2 bb4
  go_wp2_with fail
  refine (tsum_ok A_a (n_a) c_a (a) _ (s_a) (by omega) HOK.out.1 (cumul a) (0) (n_a + 1) (rfl) (C_f.out.len)).mono ?_
  rintro e w5 ⟨A_f, c_f, rfl, s_f, l_f, bb5⟩
  have b5 := belLit0 b4 bb5
  replace s_a := slLit0 s_a bb5
  replace s_out := slLit0 s_out bb5
  replace s_left := slLit0 s_left bb5
  clear b4 bb5
  go_wp2_with fail
  refine (tsum_ok A_out (n_a) c_out (tab n_a (ldep a r)) _ (s_out) (by omega) DK.out (cumul (tab n_a (ldep a r))) (0) (n_a + 1) (rfl) (C_d.out.len)).mono ?_
  rintro e w6 ⟨A_d, c_d, rfl, s_d, l_d, bb6⟩
  have b6 := belLit0 b5 bb6
  replace s_a := slLit0 s_a bb6
  replace s_out := slLit0 s_out bb6
  replace s_left := slLit0 s_left bb6
  replace s_f := slLit0 s_f bb6
  clear b5 bb6
  go_wp2_with fail
  refine (sline_any ((n_a : Int)) (r) (0) _   (by omega) (by omega) r0 r1 (by omega) (by omega) (tab (n_a + 1) (linU r 0)) (0) (n_a + 1) (sline_yes (by omega) C_l.out) (C_l.out.len)).mono ?_
  rintro e w7 ⟨A_l, c_l, rfl, s_l, l_l, bb7⟩
  have b7 := belLit0 b6 bb7
  replace s_a := slLit0 s_a bb7
  replace s_out := slLit0 s_out bb7
  replace s_left := slLit0 s_left bb7
  replace s_f := slLit0 s_f bb7
  replace s_d := slLit0 s_d bb7
  clear b6 bb7
  go_wp2_with fail
  refine (conv_any A_f (n_a + 1) c_f (cumul a) A_l (n_a + 1) c_l (tab (n_a + 1) (linU r 0)) _ (s_f) (s_l) (by omega) (by omega)  (cumul (tab n_a (ldep a r))) (0) (n_a + 1) (conv_yes C_f.out C_l.out (by rw [E.out]; exact fits_C C_d.out) E.out) (C_d.out.len)).mono ?_
  rintro e w8 ⟨A_x, c_x, rfl, s_x, l_x, bb8⟩
  have b8 := belLit0 b7 bb8
  replace s_a := slLit0 s_a bb8
  replace s_out := slLit0 s_out bb8
  replace s_left := slLit0 s_left bb8
  replace s_f := slLit0 s_f bb8
  replace s_d := slLit0 s_d bb8
  replace s_l := slLit0 s_l bb8
  clear b7 bb8
  go_wp2_with fail
  refine (equal_t A_d (n_a + 1) c_d (cumul (tab n_a (ldep a r))) A_x (n_a + 1) c_x (cumul (tab n_a (ldep a r))) _ (s_d) (s_x) (by omega) (by omega)  (true) (dec_true (rfl))).mono ?_
  rintro e w9 ⟨rfl, bb9⟩
  have b9 := belLit0 b8 bb9
  replace s_a := slLit0 s_a bb9
  replace s_out := slLit0 s_out bb9
  replace s_left := slLit0 s_left bb9
  replace s_f := slLit0 s_f bb9
  replace s_d := slLit0 s_d bb9
  replace s_l := slLit0 s_l bb9
  replace s_x := slLit0 s_x bb9
  clear b8 bb9
  by_cases h0 : n_a = 0
  case pos =>
    have z1 : (n_a : Int) - 1 < 0 := by omega
    have z2 : decide ((n_a : Int) - 1 < 0) = true := decide_eq_true z1
    clear h0
    clear s_a s_out s_left s_f s_d s_l s_x
    go_wp2_with fail
    go_quiet (fail)
    go_wp2_with fail
    go_ret
    exact ⟨rfl, below_drewN b9 _⟩
  have z0 : 1 ≤ n_a := by omega
  have z1 : (1 : Int) ≤ n_a := by omega
  have z2 : decide ((n_a : Int) - 1 < 0) = false := decide_eq_false (by omega)
  have z3 : (n_a : Int) - 1 < n_a := by omega
  have z4 : 0 ≤ (n_a : Int) - 1 := by omega
  have z5 : ((n_a : Int) - 1).toNat = n_a - 1 := by omega
  have z6 : IntKind.i64.wrap ((n_a : Int) - 1) = (n_a : Int) - 1 := IntWalk.i64_in _ ⟨by omega, by omega⟩
  have z7 : (n_a : Int) - 1 + 1 = n_a := by omega
  have z8 : (n_a : Int) < ((n_a + 1 : Nat) : Int) := by omega
  clear h0
  obtain ⟨bk_f, of_f, eA_f, -, -⟩ := s_f.int_at (k := 0) (by omega)
  subst eA_f
  have hc_f := s_f.int_cell (k := n_a) (by omega)
  obtain ⟨bk_d, of_d, eA_d, -, -⟩ := s_d.int_at (k := 0) (by omega)
  subst eA_d
  have hc_d := s_d.int_cell (k := n_a) (by omega)
  obtain ⟨bk_left, of_left, eA_left, -, -⟩ := s_left.int_at (k := 0) (by omega)
  subst eA_left
  have hc_left := s_left.int_cell (k := n_a - 1) (by omega)
  rw [cumul_get (by rw [HLA.out]; omega)] at hc_f
  rw [cumul_get (by rw [tab_len]; omega)] at hc_d
  rw [tab_get _ (show n_a - 1 < n_a by omega), show n_a - 1 + 1 = n_a by omega] at hc_left
  have hs := psum_line (a := a) (r := r) n_a n_a (Nat.le_refl _)
  have pb := (psum_bd HOK.out.1 n_a (by rw [HLA.out]; omega)).2
  have lb := lbuf_bd HOK.out n_a (by rw [HLA.out]; omega)
  have vb := (psum_bd DK.out n_a (by rw [tab_len]; omega))
  obtain ⟨u, hu⟩ : ∃ u, psum a n_a = u := ⟨_, rfl⟩
  obtain ⟨v, hv⟩ : ∃ v, psum (tab n_a (ldep a r)) n_a = v := ⟨_, rfl⟩
  obtain ⟨w, hw⟩ : ∃ w, lbuf a r n_a = w := ⟨_, rfl⟩
  rw [hu] at hs hc_f pb
  rw [hv] at hs hc_d vb
  rw [hw] at hs hc_left lb
  have hs2 : (u == v + w) = true := by simp; omega
  have hs3 : IntKind.i64.wrap (v + w) = v + w := IntWalk.i64_in _ ⟨by omega, by omega⟩
  have hs4 : IntKind.i64.wrap ((n_a : Int) - 1 + 1) = n_a := by rw [z7]; exact IntWalk.i64_in _ ⟨by omega, by omega⟩
  clear hs hu hv hw
  clear s_a s_out s_left s_f s_d s_l s_x
  go_wp2_with fail
  go_quiet (fail)
  go_wp2_with fail
  go_ret
  exact ⟨rfl, below_drewN b9 _⟩
end Go.Proofs.Ytgenfiokplmgoaa
