/- ShaperTwo: shapers in series are equivalent to shaping by the minimum, in either order. -/
import Derived.Test.YtgenfiokplmgoaaShaperA
import Derived.Test.YtgenfiokplmgoaaPointA
import Derived.Test.YtgenfiokplmgoaaLawKit
set_option linter.unusedVariables false
namespace Go.Proofs.Ytgenfiokplmgoaa
open Go.RowKit
theorem shaper_two {n : Nat} {a f g : List Int} (ha : IsC n a) (hf : IsC n f) (hg : IsC n g) : shaperL (shaperL a f) g = shaperL a (cminL f g) := by
  unfold shaperL
  rw [convL_assoc (ha.len.trans (closure_C hf).len.symm), clo_conv_min hf hg]
theorem cmin_comm {n : Nat} {f g : List Int} (hf : IsC n f) (hg : IsC n g) : cminL f g = cminL g f :=
  ext_n (n := n) (cmin_C hf hg).len (cmin_C hg hf).len fun i hi => by rw [cmin_get hf.len hi, cmin_get hg.len hi]; unfold mn; split <;> split <;> omega
set_option maxRecDepth 100000 in
set_option maxHeartbeats 3200000 in
theorem shaperTwo_walk (A_a : Option Addr) (n_a c_a : Nat) (a : List Int) (A_f : Option Addr) (n_f c_f : Nat) (f : List Int) (A_g : Option Addr) (n_g c_g : Nat) (g : List Int) (W : World) (w_a : InInts W A_a n_a c_a a) (w_f : InInts W A_f n_f c_f f) (w_g : InInts W A_g n_g c_g g) :
    Calls Try.prog 3 #[.slice A_a n_a c_a, .slice A_f n_f c_f, .slice A_g n_g c_g] W fun e w' => e = .returned (.bool true) ∧ Below W.heap.size W w' := by
  obtain ⟨s_a, l_a, r_a, _⟩ := w_a
  obtain ⟨s_f, l_f, r_f, _⟩ := w_f
  obtain ⟨s_g, l_g, r_g, _⟩ := w_g
  have b0 := Below.refl W.heap.size W
  go_enter Try.func3, Try.ntmps3
  go_wp2_with fail
  refine (shaper_any _ 2 _ [0, 9] _ 2 _ [0, 4] _ (slMore (Sl.built_ _ (ints [0, 9]) 3 _ rfl rfl) _) (Sl.built_ _ (ints [0, 4]) 3 _ (by simp) rfl) (by omega) (by omega) (isC_iff.2 ⟨by decide +kernel, rfl⟩) (isC_iff.2 ⟨by decide +kernel, rfl⟩) rfl ([0, 4]) (0) (2) (by decide +kernel) (rfl)).mono ?_
  rintro e w1 ⟨A_t0, c_t0, rfl, s_t0, l_t0, bb1⟩
  have b1 := belLit2 b0 bb1
  replace s_a := slLit2 s_a bb1
  replace s_f := slLit2 s_f bb1
  replace s_g := slLit2 s_g bb1
  clear b0 bb1
  go_wp2_with fail
  refine (equal_t A_t0 (2) c_t0 ([0, 4]) _ 2 _ [0, 4] _ (slMore (s_t0) _) (Sl.built_ _ (ints [0, 4]) 3 _ rfl rfl) (by omega) (by omega)  (true) (by decide)).mono ?_
  rintro e w2 ⟨rfl, bb2⟩
  have b2 := belLit1 b1 bb2
  replace s_a := slLit1 s_a bb2
  replace s_f := slLit1 s_f bb2
  replace s_g := slLit1 s_g bb2
  replace s_t0 := slLit1 s_t0 bb2
  clear b1 bb2
  clear s_t0 l_t0
  have hl_a := s_a.int_len
  have hl_f := s_f.int_len
  have hl_g := s_g.int_len
  by_cases hok : (bothB a f && bothB f g) = true
  case neg =>
    have HOK := Lib.hid (Bool.eq_false_iff.2 hok)
    clear hok hl_a hl_f hl_g
    go_wp2_with fail
    refine (hthree_t A_a (n_a) c_a (a) A_f (n_f) c_f (f) A_g (n_g) c_g (g) _ (s_a) (s_f) (s_g) (by omega) (by omega) (by omega)  (false) (HOK.out)).mono ?_
    rintro e w3 ⟨rfl, bb3⟩
    have b3 := belLit0 b2 bb3
    replace s_a := slLit0 s_a bb3
    replace s_f := slLit0 s_f bb3
    replace s_g := slLit0 s_g bb3
    clear b2 bb3
    clear s_a s_f s_g
    go_wp2_with fail
    go_ret
    exact ⟨rfl, b3⟩
  obtain ⟨e1, e2, c_1, c_2, c_3⟩ := three_C hok hl_a hl_f hl_g
  subst e1 e2
  have HOK := Lib.hid hok
  have C_a := Lib.hid c_1
  have t_a := c_1.top
  have C_f := Lib.hid c_2
  have t_f := c_2.top
  have C_g := Lib.hid c_3
  have t_g := c_3.top
  clear hok c_1 c_2 c_3 hl_a hl_f hl_g
  go_wp2_with fail
  refine (hthree_t A_a (n_a) c_a (a) A_f (n_a) c_f (f) A_g (n_a) c_g (g) _ (s_a) (s_f) (s_g) (by omega) (by omega) (by omega)  (true) (HOK.out)).mono ?_
  rintro e w4 ⟨rfl, bb4⟩
  have b4 := belLit0 b2 bb4
  replace s_a := slLit0 s_a bb4
  replace s_f := slLit0 s_f bb4
  replace s_g := slLit0 s_g bb4
  clear b2 bb4
  have C_m := Lib.hid (cmin_C C_f.out C_g.out)
  have C_v := Lib.hid (shaper_C C_a.out C_m.out)
  have E1 := Lib.hid (shaper_two C_a.out C_f.out C_g.out)
  have E2 := Lib.hid ((shaper_two C_a.out C_g.out C_f.out).trans (by rw [cmin_comm C_g.out C_f.out]))
  go_wp2_with fail
  refine (shaper_any A_a (n_a) c_a (a) A_f (n_a) c_f (f) _ (s_a) (s_f) (by omega) (by omega) C_a.out C_f.out rfl (shaperL a f) (0) (n_a) (rfl) ((shaper_C C_a.out C_f.out).len)).mono ?_
  rintro e w5 ⟨A_x, c_x, rfl, s_x, l_x, bb5⟩
  have b5 := belLit0 b4 bb5
  replace s_a := slLit0 s_a bb5
  replace s_f := slLit0 s_f bb5
  replace s_g := slLit0 s_g bb5
  clear b4 bb5
  have C_x := Lib.hid (shaper_C C_a.out C_f.out)
  go_wp2_with fail
  refine (shaper_any A_x (n_a) c_x (shaperL a f) A_g (n_a) c_g (g) _ (s_x) (s_g) (by omega) (by omega) C_x.out C_g.out rfl (shaperL a (cminL f g)) (0) (n_a) (by rw [E1.out]) (C_v.out.len)).mono ?_
  rintro e w6 ⟨A_y, c_y, rfl, s_y, l_y, bb6⟩
  have b6 := belLit0 b5 bb6
  replace s_a := slLit0 s_a bb6
  replace s_f := slLit0 s_f bb6
  replace s_g := slLit0 s_g bb6
  replace s_x := slLit0 s_x bb6
  clear b5 bb6
  go_wp2_with fail
  refine (shaper_any A_a (n_a) c_a (a) A_g (n_a) c_g (g) _ (s_a) (s_g) (by omega) (by omega) C_a.out C_g.out rfl (shaperL a g) (0) (n_a) (rfl) ((shaper_C C_a.out C_g.out).len)).mono ?_
  rintro e w7 ⟨A_z, c_z, rfl, s_z, l_z, bb7⟩
  have b7 := belLit0 b6 bb7
  replace s_a := slLit0 s_a bb7
  replace s_f := slLit0 s_f bb7
  replace s_g := slLit0 s_g bb7
  replace s_x := slLit0 s_x bb7
  replace s_y := slLit0 s_y bb7
  clear b6 bb7
  have C_z := Lib.hid (shaper_C C_a.out C_g.out)
  go_wp2_with fail
  refine (shaper_any A_z (n_a) c_z (shaperL a g) A_f (n_a) c_f (f) _ (s_z) (s_f) (by omega) (by omega) C_z.out C_f.out rfl (shaperL a (cminL f g)) (0) (n_a) (by rw [E2.out]) (C_v.out.len)).mono ?_
  rintro e w8 ⟨A_w, c_w, rfl, s_w, l_w, bb8⟩
  have b8 := belLit0 b7 bb8
  replace s_a := slLit0 s_a bb8
  replace s_f := slLit0 s_f bb8
  replace s_g := slLit0 s_g bb8
  replace s_x := slLit0 s_x bb8
  replace s_y := slLit0 s_y bb8
  replace s_z := slLit0 s_z bb8
  clear b7 bb8
  go_wp2_with fail
  refine (pmin_any A_f (n_a) c_f (f) A_g (n_a) c_g (g) _ (s_f) (s_g) (by omega) (by omega)  (cminL f g) (0) (n_a) (cmin_yes C_f.out C_g.out rfl) (C_m.out.len)).mono ?_
  rintro e w9 ⟨A_m, c_m, rfl, s_m, l_m, bb9⟩
  have b9 := belLit0 b8 bb9
  replace s_a := slLit0 s_a bb9
  replace s_f := slLit0 s_f bb9
  replace s_g := slLit0 s_g bb9
  replace s_x := slLit0 s_x bb9
  replace s_y := slLit0 s_y bb9
  replace s_z := slLit0 s_z bb9
  replace s_w := slLit0 s_w bb9
  clear b8 bb9
  go_wp2_with fail
  refine (shaper_any A_a (n_a) c_a (a) A_m (n_a) c_m (cminL f g) _ (s_a) (s_m) (by omega) (by omega) C_a.out C_m.out rfl (shaperL a (cminL f g)) (0) (n_a) (rfl) (C_v.out.len)).mono ?_
  rintro e w10 ⟨A_v, c_v, rfl, s_v, l_v, bb10⟩
  have b10 := belLit0 b9 bb10
  replace s_a := slLit0 s_a bb10
  replace s_f := slLit0 s_f bb10
  replace s_g := slLit0 s_g bb10
  replace s_x := slLit0 s_x bb10
  replace s_y := slLit0 s_y bb10
  replace s_z := slLit0 s_z bb10
  replace s_w := slLit0 s_w bb10
  replace s_m := slLit0 s_m bb10
  clear b9 bb10
  go_wp2_with fail
  refine (equal_t A_y (n_a) c_y (shaperL a (cminL f g)) A_w (n_a) c_w (shaperL a (cminL f g)) _ (s_y) (s_w) (by omega) (by omega)  (true) (dec_true (rfl))).mono ?_
  rintro e w11 ⟨rfl, bb11⟩
  have b11 := belLit0 b10 bb11
  replace s_a := slLit0 s_a bb11
  replace s_f := slLit0 s_f bb11
  replace s_g := slLit0 s_g bb11
  replace s_x := slLit0 s_x bb11
  replace s_y := slLit0 s_y bb11
  replace s_z := slLit0 s_z bb11
  replace s_w := slLit0 s_w bb11
  replace s_m := slLit0 s_m bb11
  replace s_v := slLit0 s_v bb11
  clear b10 bb11
  go_wp2_with fail
  refine (equal_t A_y (n_a) c_y (shaperL a (cminL f g)) A_v (n_a) c_v (shaperL a (cminL f g)) _ (s_y) (s_v) (by omega) (by omega)  (true) (dec_true (rfl))).mono ?_
  rintro e w12 ⟨rfl, bb12⟩
  have b12 := belLit0 b11 bb12
  replace s_a := slLit0 s_a bb12
  replace s_f := slLit0 s_f bb12
  replace s_g := slLit0 s_g bb12
  replace s_x := slLit0 s_x bb12
  replace s_y := slLit0 s_y bb12
  replace s_z := slLit0 s_z bb12
  replace s_w := slLit0 s_w bb12
  replace s_m := slLit0 s_m bb12
  replace s_v := slLit0 s_v bb12
  clear b11 bb12
  clear s_a s_f s_g s_x s_y s_z s_w s_m s_v
  go_wp2_with fail
  go_ret
  exact ⟨rfl, b12⟩
end Go.Proofs.Ytgenfiokplmgoaa
