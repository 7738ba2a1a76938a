/- ConvCuts: later values do not affect earlier results. -/
import Derived.Test.YtkofgejkicjdoaaConvA
import Derived.Test.YtkofgejkicjdoaaPointU
import Derived.Test.YtkofgejkicjdoaaCurveQ
import Derived.Test.YtkofgejkicjdoaaLawKit
set_option linter.unusedVariables false
namespace Go.Proofs.Ytkofgejkicjdoaa
open Go.RowKit
theorem conv_cut {n d : Nat} {f g : List Int} (hf : IsC n f) (hg : IsC n g) (hd : d < n) : convL (ccutL f d) (ccutL g d) = ccutL (convL f g) d := by
  have e1 : (convL f g).length = n := by rw [convL_len, hf.len]
  refine ext_n (n := d + 1) (by rw [convL_len]; exact (ccut_C hf hd).len) (by unfold ccutL; rw [List.length_take, e1]; omega) fun i hi => ?_
  rw [convL_get (ccut_C hf hd).len hi, ccut_get hi, convL_get hf.len (by omega)]
  exact cv_congr (n := d + 1) hi (fun j hj => ccut_get hj) fun j hj => ccut_get hj
set_option maxRecDepth 100000 in
set_option maxHeartbeats 3200000 in
theorem convCuts_walk (A_f : Option Addr) (n_f c_f : Nat) (f : List Int) (A_g : Option Addr) (n_g c_g : Nat) (g : List Int) (k : Int) (W : World) (w_f : InInts W A_f n_f c_f f) (w_g : InInts W A_g n_g c_g g) (w_k : -9223372036854775808 ≤ k ∧ k ≤ 9223372036854775807) :
    Calls Try.prog 4 #[.slice A_f n_f c_f, .slice A_g n_g c_g, .int .i64 k] W fun e w' => e = .returned (.bool true) ∧ Below W.heap.size W w' := by
  obtain ⟨s_f, l_f, r_f, _⟩ := w_f
  obtain ⟨s_g, l_g, r_g, _⟩ := w_g
  have b0 := Below.refl W.heap.size W
  go_enter Try.func4, Try.ntmps4
  go_wp2_with fail
  refine (conv_any _ 1 _ [0] _ 1 _ [5] _ (slMore (Sl.built_ _ (ints [0]) 3 _ rfl rfl) _) (Sl.built_ _ (ints [5]) 3 _ (by simp) rfl) (by omega) (by omega)  ([5]) (0) (1) (by decide +kernel) (rfl)).mono ?_
  rintro e w1 ⟨A_t0, c_t0, rfl, s_t0, l_t0, bb1⟩
  have b1 := belLit2 b0 bb1
  replace s_f := slLit2 s_f bb1
  replace s_g := slLit2 s_g bb1
  clear b0 bb1
  go_wp2_with fail
  refine (equal_t A_t0 (1) c_t0 ([5]) _ 1 _ [5] _ (slMore (s_t0) _) (Sl.built_ _ (ints [5]) 3 _ rfl rfl) (by omega) (by omega)  (true) (by decide)).mono ?_
  rintro e w2 ⟨rfl, bb2⟩
  have b2 := belLit1 b1 bb2
  replace s_f := slLit1 s_f bb2
  replace s_g := slLit1 s_g bb2
  replace s_t0 := slLit1 s_t0 bb2
  clear b1 bb2
  clear s_t0 l_t0
  have hl_f := s_f.int_len
  have hl_g := s_g.int_len
  by_cases hok : bothB f g = true
  case neg =>
    have HOK := Lib.hid (Bool.eq_false_iff.2 hok)
    clear hok hl_f hl_g
    go_wp2_with fail
    refine (hboth_t A_f (n_f) c_f (f) A_g (n_g) c_g (g) _ (s_f) (s_g) (by omega) (by omega)  (false) (HOK.out)).mono ?_
    rintro e w3 ⟨rfl, bb3⟩
    have b3 := belLit0 b2 bb3
    replace s_f := slLit0 s_f bb3
    replace s_g := slLit0 s_g bb3
    clear b2 bb3
    clear s_f s_g
    go_wp2_with fail
    go_ret
    exact ⟨rfl, b3⟩
  obtain ⟨e1, c_1, c_2⟩ := both_C hok hl_f hl_g
  subst e1
  have HOK := Lib.hid hok
  have C_f := Lib.hid c_1
  have t_f := c_1.top
  have C_g := Lib.hid c_2
  have t_g := c_2.top
  clear hok c_1 c_2 hl_f hl_g
  go_wp2_with fail
  refine (hboth_t A_f (n_f) c_f (f) A_g (n_f) c_g (g) _ (s_f) (s_g) (by omega) (by omega)  (true) (HOK.out)).mono ?_
  rintro e w4 ⟨rfl, bb4⟩
  have b4 := belLit0 b2 bb4
  replace s_f := slLit0 s_f bb4
  replace s_g := slLit0 s_g bb4
  clear b2 bb4
  have u3 := C_f.out.pos
  go_wp2_with fail
  refine (within_t (k) (n_f) _   (by omega) (by omega) (within k n_f) (rfl)).mono ?_
  rintro e w5 ⟨rfl, rfl⟩
  have m1 := within_lo k n_f (by omega)
  have m2 := within_hi k n_f (by omega)
  generalize within k n_f = a' at *
  obtain ⟨p, rfl⟩ := Int.eq_ofNat_of_zero_le m1
  have hp : p < n_f := by omega
  have x1 : (p : Int) < n_f := by omega
  have x0 : (0 : Int) ≤ p := by omega
  by_cases h1 : fits (convL f g) = true
  · have H1 := Lib.hid h1
    clear h1
    go_wp2_with fail
    refine (conv_any A_f (n_f) c_f (f) A_g (n_f) c_g (g) _ (s_f) (s_g) (by omega) (by omega)  (convL (f) (g)) (0) (n_f) (conv_yes C_f.out C_g.out H1.out (rfl)) ((tab_len _ _).trans C_f.out.len)).mono ?_
    rintro e w6 ⟨A_x, c_x, rfl, s_x, l_x, bb6⟩
    have b6 := belLit0 b4 bb6
    replace s_f := slLit0 s_f bb6
    replace s_g := slLit0 s_g bb6
    clear b4 bb6
    have C_x := Lib.hid (conv_C C_f.out C_g.out H1.out)
    go_wp2_with fail
    refine (ccut_t A_f (n_f) c_f (f) ((p : Int)) _ (s_f) (by omega) x0 x1 C_f.out l_f (ccutL f p) (0) (p + 1) (rfl) ((ccut_C C_f.out hp).len)).mono ?_
    rintro e w7 ⟨A_a, c_a, rfl, s_a, l_a, bb7⟩
    have b7 := belLit0 b6 bb7
    replace s_f := slLit0 s_f bb7
    replace s_g := slLit0 s_g bb7
    replace s_x := slLit0 s_x bb7
    clear b6 bb7
    have C_a := Lib.hid (ccut_C C_f.out hp)
    go_wp2_with fail
    refine (ccut_t A_g (n_f) c_g (g) ((p : Int)) _ (s_g) (by omega) x0 x1 C_g.out l_g (ccutL g p) (0) (p + 1) (rfl) ((ccut_C C_g.out hp).len)).mono ?_
    rintro e w8 ⟨A_b, c_b, rfl, s_b, l_b, bb8⟩
    have b8 := belLit0 b7 bb8
    replace s_f := slLit0 s_f bb8
    replace s_g := slLit0 s_g bb8
    replace s_x := slLit0 s_x bb8
    replace s_a := slLit0 s_a bb8
    clear b7 bb8
    have C_b := Lib.hid (ccut_C C_g.out hp)
    have CC := Lib.hid (ccut_C C_x.out hp)
    have E := Lib.hid (conv_cut C_f.out C_g.out hp)
    go_wp2_with fail
    refine (conv_any A_a (p + 1) c_a (ccutL f p) A_b (p + 1) c_b (ccutL g p) _ (s_a) (s_b) (by omega) (by omega)  (ccutL (convL f g) p) (0) (p + 1) (conv_yes C_a.out C_b.out (by rw [E.out]; exact fits_C CC.out) E.out) (CC.out.len)).mono ?_
    rintro e w9 ⟨A_y, c_y, rfl, s_y, l_y, bb9⟩
    have b9 := belLit0 b8 bb9
    replace s_f := slLit0 s_f bb9
    replace s_g := slLit0 s_g bb9
    replace s_x := slLit0 s_x bb9
    replace s_a := slLit0 s_a bb9
    replace s_b := slLit0 s_b bb9
    clear b8 bb9
    go_wp2_with fail
    refine (ccut_t A_x (n_f) c_x (convL (f) (g)) ((p : Int)) _ (s_x) (by omega) x0 x1 C_x.out l_x (ccutL (convL f g) p) (0) (p + 1) (rfl) (CC.out.len)).mono ?_
    rintro e w10 ⟨A_z, c_z, rfl, s_z, l_z, bb10⟩
    have b10 := belLit0 b9 bb10
    replace s_f := slLit0 s_f bb10
    replace s_g := slLit0 s_g bb10
    replace s_x := slLit0 s_x bb10
    replace s_a := slLit0 s_a bb10
    replace s_b := slLit0 s_b bb10
    replace s_y := slLit0 s_y bb10
    clear b9 bb10
    go_wp2_with fail
    refine (equal_t A_y (p + 1) c_y (ccutL (convL f g) p) A_z (p + 1) c_z (ccutL (convL f g) p) _ (s_y) (s_z) (by omega) (by omega)  (true) (dec_true (rfl))).mono ?_
    rintro e w11 ⟨rfl, bb11⟩
    have b11 := belLit0 b10 bb11
    replace s_f := slLit0 s_f bb11
    replace s_g := slLit0 s_g bb11
    replace s_x := slLit0 s_x bb11
    replace s_a := slLit0 s_a bb11
    replace s_b := slLit0 s_b bb11
    replace s_y := slLit0 s_y bb11
    replace s_z := slLit0 s_z bb11
    clear b10 bb11
    clear s_f s_g s_x s_a s_b s_y s_z
    go_wp2_with fail
    go_ret
    exact ⟨rfl, b11⟩
  · have H1 := Lib.hid h1
    clear h1
    go_wp2_with fail
    refine (conv_any A_f (n_f) c_f (f) A_g (n_f) c_g (g) _ (s_f) (s_g) (by omega) (by omega)  ([]) (2) (0) (conv_no C_f.out C_g.out H1.out) (rfl)).mono ?_
    rintro e w12 ⟨A_x, c_x, rfl, s_x, l_x, bb12⟩
    have b12 := belLit0 b4 bb12
    replace s_f := slLit0 s_f bb12
    replace s_g := slLit0 s_g bb12
    clear b4 bb12
    clear s_f s_g s_x
    go_wp2_with fail
    go_ret
    exact ⟨rfl, b12⟩
end Go.Proofs.Ytkofgejkicjdoaa
