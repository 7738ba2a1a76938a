/- ClosureConv: closures are idempotent under convolution, and the convolution of closures is the closure of the minimum. -/
import Derived.Test.YtgeeomhceplemaaClosA
import Derived.Test.YtgeeomhceplemaaClosI
import Derived.Test.YtgeeomhceplemaaConvA
import Derived.Test.YtgeeomhceplemaaPointA
import Derived.Test.YtgeeomhceplemaaCurveR
import Derived.Test.YtgeeomhceplemaaLawKit
set_option linter.unusedVariables false
namespace Go.Proofs.Ytgeeomhceplemaa
open Go.RowKit
set_option maxRecDepth 100000 in
set_option maxHeartbeats 3200000 in
theorem closureConv_walk (A_f : Option Addr) (n_f c_f : Nat) (f : List Int) (A_g : Option Addr) (n_g c_g : Nat) (g : List Int) (W : World) (w_f : InInts W A_f n_f c_f f) (w_g : InInts W A_g n_g c_g g) :
    Calls Try.prog 4 #[.slice A_f n_f c_f, .slice A_g n_g c_g] W fun e w' => e = .returned (.bool true) ∧ Below W.heap.size W w' := by
  obtain ⟨s_f, l_f, r_f, _⟩ := w_f
  obtain ⟨s_g, l_g, r_g, _⟩ := w_g
  have b0 := Below.refl W.heap.size W
  go_enter Try.func4, Try.ntmps4
  go_wp2_with fail
  refine (cis_any _ 3 _ [0, 3, 6] _ (Sl.built_ _ (ints [0, 3, 6]) 3 _ rfl rfl) (by omega) (isC_iff.2 ⟨by decide +kernel, rfl⟩) (true) (0) (by decide)).mono ?_
  rintro e w1 ⟨rfl, bb1⟩
  have b1 := belLit1 b0 bb1
  replace s_f := slLit1 s_f bb1
  replace s_g := slLit1 s_g bb1
  clear b0 bb1
  have hl_f := s_f.int_len
  have hl_g := s_g.int_len
  by_cases hok : bothB f g = true
  case neg =>
    have HOK := Lib.hid (Bool.eq_false_iff.2 hok)
    clear hok hl_f hl_g
    go_wp2_with fail
    refine (hboth_t A_f (n_f) c_f (f) A_g (n_g) c_g (g) _ (s_f) (s_g) (by omega) (by omega)  (false) (HOK.out)).mono ?_
    rintro e w2 ⟨rfl, bb2⟩
    have b2 := belLit0 b1 bb2
    replace s_f := slLit0 s_f bb2
    replace s_g := slLit0 s_g bb2
    clear b1 bb2
    clear s_f s_g
    go_wp2_with fail
    go_ret
    exact ⟨rfl, b2⟩
  obtain ⟨e1, c_1, c_2⟩ := both_C hok hl_f hl_g
  subst e1
  have HOK := Lib.hid hok
  have C_f := Lib.hid c_1
  have t_f := c_1.top
  have C_g := Lib.hid c_2
  have t_g := c_2.top
  clear hok c_1 c_2 hl_f hl_g
  go_wp2_with fail
  refine (hboth_t A_f (n_f) c_f (f) A_g (n_f) c_g (g) _ (s_f) (s_g) (by omega) (by omega)  (true) (HOK.out)).mono ?_
  rintro e w3 ⟨rfl, bb3⟩
  have b3 := belLit0 b1 bb3
  replace s_f := slLit0 s_f bb3
  replace s_g := slLit0 s_g bb3
  clear b1 bb3
  go_wp2_with fail
  refine (closure_any A_f (n_f) c_f (f) _ (s_f) (by omega)  (closureL f) (0) (n_f) (of1_ok C_f.out _) ((closure_C C_f.out).len)).mono ?_
  rintro e w4 ⟨A_x, c_x, rfl, s_x, l_x, bb4⟩
  have b4 := belLit0 b3 bb4
  replace s_f := slLit0 s_f bb4
  replace s_g := slLit0 s_g bb4
  clear b3 bb4
  have C_x := Lib.hid (closure_C C_f.out)
  go_wp2_with fail
  refine (closure_any A_g (n_f) c_g (g) _ (s_g) (by omega)  (closureL g) (0) (n_f) (of1_ok C_g.out _) ((closure_C C_g.out).len)).mono ?_
  rintro e w5 ⟨A_y, c_y, rfl, s_y, l_y, bb5⟩
  have b5 := belLit0 b4 bb5
  replace s_f := slLit0 s_f bb5
  replace s_g := slLit0 s_g bb5
  replace s_x := slLit0 s_x bb5
  clear b4 bb5
  have C_y := Lib.hid (closure_C C_g.out)
  go_wp2_with fail
  refine (conv_any A_x (n_f) c_x (closureL f) A_x (n_f) c_x (closureL f) _ (s_x) (s_x) (by omega) (by omega)  (closureL f) (0) (n_f) (conv_yes C_x.out C_x.out (by rw [clo_conv_self C_f.out]; exact fits_C C_x.out) (clo_conv_self C_f.out)) (C_x.out.len)).mono ?_
  rintro e w6 ⟨A_z, c_z, rfl, s_z, l_z, bb6⟩
  have b6 := belLit0 b5 bb6
  replace s_f := slLit0 s_f bb6
  replace s_g := slLit0 s_g bb6
  replace s_x := slLit0 s_x bb6
  replace s_y := slLit0 s_y bb6
  clear b5 bb6
  have C_v := Lib.hid (closure_C (cmin_C C_f.out C_g.out))
  go_wp2_with fail
  refine (conv_any A_x (n_f) c_x (closureL f) A_y (n_f) c_y (closureL g) _ (s_x) (s_y) (by omega) (by omega)  (closureL (cminL f g)) (0) (n_f) (conv_yes C_x.out C_y.out (by rw [clo_conv_min C_f.out C_g.out]; exact fits_C C_v.out) (clo_conv_min C_f.out C_g.out)) (C_v.out.len)).mono ?_
  rintro e w7 ⟨A_w, c_w, rfl, s_w, l_w, bb7⟩
  have b7 := belLit0 b6 bb7
  replace s_f := slLit0 s_f bb7
  replace s_g := slLit0 s_g bb7
  replace s_x := slLit0 s_x bb7
  replace s_y := slLit0 s_y bb7
  replace s_z := slLit0 s_z bb7
  clear b6 bb7
  go_wp2_with fail
  refine (pmin_any A_f (n_f) c_f (f) A_g (n_f) c_g (g) _ (s_f) (s_g) (by omega) (by omega)  (cminL (f) (g)) (0) (n_f) (cmin_yes C_f.out C_g.out (rfl)) ((tab_len _ _).trans C_f.out.len)).mono ?_
  rintro e w8 ⟨A_m, c_m, rfl, s_m, l_m, bb8⟩
  have b8 := belLit0 b7 bb8
  replace s_f := slLit0 s_f bb8
  replace s_g := slLit0 s_g bb8
  replace s_x := slLit0 s_x bb8
  replace s_y := slLit0 s_y bb8
  replace s_z := slLit0 s_z bb8
  replace s_w := slLit0 s_w bb8
  clear b7 bb8
  have C_m := Lib.hid (cmin_C C_f.out C_g.out)
  go_wp2_with fail
  refine (closure_any A_m (n_f) c_m (cminL (f) (g)) _ (s_m) (by omega)  (closureL (cminL f g)) (0) (n_f) (of1_ok C_m.out _) (C_v.out.len)).mono ?_
  rintro e w9 ⟨A_v, c_v, rfl, s_v, l_v, bb9⟩
  have b9 := belLit0 b8 bb9
  replace s_f := slLit0 s_f bb9
  replace s_g := slLit0 s_g bb9
  replace s_x := slLit0 s_x bb9
  replace s_y := slLit0 s_y bb9
  replace s_z := slLit0 s_z bb9
  replace s_w := slLit0 s_w bb9
  replace s_m := slLit0 s_m bb9
  clear b8 bb9
  go_wp2_with fail
  refine (equal_t A_z (n_f) c_z (closureL f) A_x (n_f) c_x (closureL f) _ (s_z) (s_x) (by omega) (by omega)  (true) (dec_true (rfl))).mono ?_
  rintro e w10 ⟨rfl, bb10⟩
  have b10 := belLit0 b9 bb10
  replace s_f := slLit0 s_f bb10
  replace s_g := slLit0 s_g bb10
  replace s_x := slLit0 s_x bb10
  replace s_y := slLit0 s_y bb10
  replace s_z := slLit0 s_z bb10
  replace s_w := slLit0 s_w bb10
  replace s_m := slLit0 s_m bb10
  replace s_v := slLit0 s_v bb10
  clear b9 bb10
  go_wp2_with fail
  refine (equal_t A_w (n_f) c_w (closureL (cminL f g)) A_v (n_f) c_v (closureL (cminL f g)) _ (s_w) (s_v) (by omega) (by omega)  (true) (dec_true (rfl))).mono ?_
  rintro e w11 ⟨rfl, bb11⟩
  have b11 := belLit0 b10 bb11
  replace s_f := slLit0 s_f bb11
  replace s_g := slLit0 s_g bb11
  replace s_x := slLit0 s_x bb11
  replace s_y := slLit0 s_y bb11
  replace s_z := slLit0 s_z bb11
  replace s_w := slLit0 s_w bb11
  replace s_m := slLit0 s_m bb11
  replace s_v := slLit0 s_v bb11
  clear b10 bb11
  clear s_f s_g s_x s_y s_z s_w s_m s_v
  go_wp2_with fail
  go_ret
  exact ⟨rfl, b11⟩
end Go.Proofs.Ytgeeomhceplemaa
