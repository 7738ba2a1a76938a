/- DeconvGrows: deconvolution is monotonic in its first and antitonic in its second argument. -/
import Derived.Test.YtkofgejkicjdoaaDecA
import Derived.Test.YtkofgejkicjdoaaCurveQ
import Derived.Test.YtkofgejkicjdoaaLawKit
set_option linter.unusedVariables false
namespace Go.Proofs.Ytkofgejkicjdoaa
open Go.RowKit
theorem deconv_mono1 {n : Nat} {f g h : List Int} (hf : IsC n f) (hg : IsC n g) (hh : IsC n h) (h1 : leT f g = true) : leT (deconvL f h) (deconvL g h) = true :=
  leT_yes (deconv_C hf hh) (deconv_C hg hh) fun i hi => by
    rw [deconv_get hf.len hi, deconv_get hg.len hi]
    refine le_dcv dcv_nonneg fun u hu => ?_
    have a := (leT_iff hf hg).1 h1 (i + u) hu
    have b := dcv_le (n := n) (F := gi g) (G := gi h) (t := i) (u := u) hu
    omega
theorem deconv_mono2 {n : Nat} {f g h : List Int} (hf : IsC n f) (hg : IsC n g) (hh : IsC n h) (h1 : leT f g = true) : leT (deconvL h g) (deconvL h f) = true :=
  leT_yes (deconv_C hh hg) (deconv_C hh hf) fun i hi => by
    rw [deconv_get hh.len hi, deconv_get hh.len hi]
    refine le_dcv dcv_nonneg fun u hu => ?_
    have a := (leT_iff hf hg).1 h1 u (by omega)
    have b := dcv_le (n := n) (F := gi h) (G := gi f) (t := i) (u := u) hu
    omega
set_option maxRecDepth 100000 in
set_option maxHeartbeats 3200000 in
theorem deconvGrows_walk (A_f : Option Addr) (n_f c_f : Nat) (f : List Int) (A_g : Option Addr) (n_g c_g : Nat) (g : List Int) (A_h : Option Addr) (n_h c_h : Nat) (h : List Int) (W : World) (w_f : InInts W A_f n_f c_f f) (w_g : InInts W A_g n_g c_g g) (w_h : InInts W A_h n_h c_h h) :
    Calls Try.prog 9 #[.slice A_f n_f c_f, .slice A_g n_g c_g, .slice A_h n_h c_h] W fun e w' => e = .returned (.bool true) ∧ Below W.heap.size W w' := by
  obtain ⟨s_f, l_f, r_f, _⟩ := w_f
  obtain ⟨s_g, l_g, r_g, _⟩ := w_g
  obtain ⟨s_h, l_h, r_h, _⟩ := w_h
  have b0 := Below.refl W.heap.size W
  go_enter Try.func9, Try.ntmps9
  go_wp2_with fail
  refine (deconv_any _ 2 _ [0, 4] _ 2 _ [0, 0] _ (slMore (Sl.built_ _ (ints [0, 4]) 3 _ rfl rfl) _) (Sl.built_ _ (ints [0, 0]) 3 _ (by simp) rfl) (by omega) (by omega)  ([4, 4]) (0) (2) (by decide +kernel) (rfl)).mono ?_
  rintro e w1 ⟨A_t0, c_t0, rfl, s_t0, l_t0, bb1⟩
  have b1 := belLit2 b0 bb1
  replace s_f := slLit2 s_f bb1
  replace s_g := slLit2 s_g bb1
  replace s_h := slLit2 s_h bb1
  clear b0 bb1
  go_wp2_with fail
  refine (equal_t A_t0 2 c_t0 ([4, 4]) _ 2 _ [4, 4] _ (slMore (s_t0) _) (Sl.built_ _ (ints [4, 4]) 3 _ rfl rfl) (by omega) (by omega)  (true) (by decide)).mono ?_
  rintro e w2 ⟨rfl, bb2⟩
  have b2 := belLit1 b1 bb2
  replace s_f := slLit1 s_f bb2
  replace s_g := slLit1 s_g bb2
  replace s_h := slLit1 s_h bb2
  replace s_t0 := slLit1 s_t0 bb2
  clear b1 bb2
  clear s_t0 l_t0
  have hl_f := s_f.int_len
  have hl_g := s_g.int_len
  have hl_h := s_h.int_len
  by_cases hok : (bothB f g && bothB g h) = true
  case neg =>
    have HOK := Lib.hid (Bool.eq_false_iff.2 hok)
    clear hok hl_f hl_g hl_h
    go_wp2_with fail
    refine (hthree_t A_f n_f c_f (f) A_g n_g c_g (g) A_h n_h c_h (h) _ (s_f) (s_g) (s_h) (by omega) (by omega) (by omega)  (false) (HOK.out)).mono ?_
    rintro e w3 ⟨rfl, bb3⟩
    have b3 := belLit0 b2 bb3
    replace s_f := slLit0 s_f bb3
    replace s_g := slLit0 s_g bb3
    replace s_h := slLit0 s_h bb3
    clear b2 bb3
    clear s_f s_g s_h
    go_wp2_with fail
    go_ret
    exact ⟨rfl, b3⟩
  obtain ⟨e1, e2, c_1, c_2, c_3⟩ := three_C hok hl_f hl_g hl_h
  subst e1 e2
  have HOK := Lib.hid hok
  have C_f := Lib.hid c_1
  have t_f := c_1.top
  have C_g := Lib.hid c_2
  have t_g := c_2.top
  have C_h := Lib.hid c_3
  have t_h := c_3.top
  clear hok c_1 c_2 c_3 hl_f hl_g hl_h
  go_wp2_with fail
  refine (hthree_t A_f n_f c_f (f) A_g n_f c_g (g) A_h n_f c_h (h) _ (s_f) (s_g) (s_h) (by omega) (by omega) (by omega)  (true) (HOK.out)).mono ?_
  rintro e w4 ⟨rfl, bb4⟩
  have b4 := belLit0 b2 bb4
  replace s_f := slLit0 s_f bb4
  replace s_g := slLit0 s_g bb4
  replace s_h := slLit0 s_h bb4
  clear b2 bb4
  go_wp2_with fail
  refine (deconv_any A_f n_f c_f (f) A_h n_f c_h (h) _ (s_f) (s_h) (by omega) (by omega)  (deconvL (f) (h)) (0) (n_f) (deconv_yes C_f.out C_h.out (rfl)) ((tab_len _ _).trans C_f.out.len)).mono ?_
  rintro e w5 ⟨A_a, c_a, rfl, s_a, l_a, bb5⟩
  have b5 := belLit0 b4 bb5
  replace s_f := slLit0 s_f bb5
  replace s_g := slLit0 s_g bb5
  replace s_h := slLit0 s_h bb5
  clear b4 bb5
  have C_a := Lib.hid (deconv_C C_f.out C_h.out)
  go_wp2_with fail
  refine (deconv_any A_g n_f c_g (g) A_h n_f c_h (h) _ (s_g) (s_h) (by omega) (by omega)  (deconvL (g) (h)) (0) (n_f) (deconv_yes C_g.out C_h.out (rfl)) ((tab_len _ _).trans C_g.out.len)).mono ?_
  rintro e w6 ⟨A_b, c_b, rfl, s_b, l_b, bb6⟩
  have b6 := belLit0 b5 bb6
  replace s_f := slLit0 s_f bb6
  replace s_g := slLit0 s_g bb6
  replace s_h := slLit0 s_h bb6
  replace s_a := slLit0 s_a bb6
  clear b5 bb6
  have C_b := Lib.hid (deconv_C C_g.out C_h.out)
  go_wp2_with fail
  refine (deconv_any A_h n_f c_h (h) A_f n_f c_f (f) _ (s_h) (s_f) (by omega) (by omega)  (deconvL (h) (f)) (0) (n_f) (deconv_yes C_h.out C_f.out (rfl)) ((tab_len _ _).trans C_h.out.len)).mono ?_
  rintro e w7 ⟨A_c, c_c, rfl, s_c, l_c, bb7⟩
  have b7 := belLit0 b6 bb7
  replace s_f := slLit0 s_f bb7
  replace s_g := slLit0 s_g bb7
  replace s_h := slLit0 s_h bb7
  replace s_a := slLit0 s_a bb7
  replace s_b := slLit0 s_b bb7
  clear b6 bb7
  have C_c := Lib.hid (deconv_C C_h.out C_f.out)
  go_wp2_with fail
  refine (deconv_any A_h n_f c_h (h) A_g n_f c_g (g) _ (s_h) (s_g) (by omega) (by omega)  (deconvL (h) (g)) (0) (n_f) (deconv_yes C_h.out C_g.out (rfl)) ((tab_len _ _).trans C_h.out.len)).mono ?_
  rintro e w8 ⟨A_d, c_d, rfl, s_d, l_d, bb8⟩
  have b8 := belLit0 b7 bb8
  replace s_f := slLit0 s_f bb8
  replace s_g := slLit0 s_g bb8
  replace s_h := slLit0 s_h bb8
  replace s_a := slLit0 s_a bb8
  replace s_b := slLit0 s_b bb8
  replace s_c := slLit0 s_c bb8
  clear b7 bb8
  have C_d := Lib.hid (deconv_C C_h.out C_g.out)
  by_cases h4 : leT f g = true
  · have H4 := Lib.hid h4
    clear h4
    go_wp2_with fail
    refine (hle_t A_f n_f c_f (f) A_g n_f c_g (g) _ (s_f) (s_g) (by omega) (by omega)  (true) (H4.out)).mono ?_
    rintro e w9 ⟨rfl, bb9⟩
    have b9 := belLit0 b8 bb9
    replace s_f := slLit0 s_f bb9
    replace s_g := slLit0 s_g bb9
    replace s_h := slLit0 s_h bb9
    replace s_a := slLit0 s_a bb9
    replace s_b := slLit0 s_b bb9
    replace s_c := slLit0 s_c bb9
    replace s_d := slLit0 s_d bb9
    clear b8 bb9
    go_wp2_with fail
    refine (hle_t A_a n_f c_a (deconvL (f) (h)) A_b n_f c_b (deconvL (g) (h)) _ (s_a) (s_b) (by omega) (by omega)  (true) (deconv_mono1 C_f.out C_g.out C_h.out H4.out)).mono ?_
    rintro e w10 ⟨rfl, bb10⟩
    have b10 := belLit0 b9 bb10
    replace s_f := slLit0 s_f bb10
    replace s_g := slLit0 s_g bb10
    replace s_h := slLit0 s_h bb10
    replace s_a := slLit0 s_a bb10
    replace s_b := slLit0 s_b bb10
    replace s_c := slLit0 s_c bb10
    replace s_d := slLit0 s_d bb10
    clear b9 bb10
    go_wp2_with fail
    refine (hle_t A_d n_f c_d (deconvL (h) (g)) A_c n_f c_c (deconvL (h) (f)) _ (s_d) (s_c) (by omega) (by omega)  (true) (deconv_mono2 C_f.out C_g.out C_h.out H4.out)).mono ?_
    rintro e w11 ⟨rfl, bb11⟩
    have b11 := belLit0 b10 bb11
    replace s_f := slLit0 s_f bb11
    replace s_g := slLit0 s_g bb11
    replace s_h := slLit0 s_h bb11
    replace s_a := slLit0 s_a bb11
    replace s_b := slLit0 s_b bb11
    replace s_c := slLit0 s_c bb11
    replace s_d := slLit0 s_d bb11
    clear b10 bb11
    clear s_f s_g s_h s_a s_b s_c s_d
    go_wp2_with fail
    go_ret
    exact ⟨rfl, b11⟩
  · have H4 := Lib.hid h4
    clear h4
    have H5 := Lib.hid (Bool.eq_false_iff.2 H4.out)
    go_wp2_with fail
    refine (hle_t A_f n_f c_f (f) A_g n_f c_g (g) _ (s_f) (s_g) (by omega) (by omega)  (false) (H5.out)).mono ?_
    rintro e w12 ⟨rfl, bb12⟩
    have b12 := belLit0 b8 bb12
    replace s_f := slLit0 s_f bb12
    replace s_g := slLit0 s_g bb12
    replace s_h := slLit0 s_h bb12
    replace s_a := slLit0 s_a bb12
    replace s_b := slLit0 s_b bb12
    replace s_c := slLit0 s_c bb12
    replace s_d := slLit0 s_d bb12
    clear b8 bb12
    clear s_f s_g s_h s_a s_b s_c s_d
    go_wp2_with fail
    go_ret
    exact ⟨rfl, b12⟩
end Go.Proofs.Ytkofgejkicjdoaa
