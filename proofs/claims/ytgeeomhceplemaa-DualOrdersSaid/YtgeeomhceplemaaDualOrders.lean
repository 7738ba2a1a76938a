/- DualOrders: max-plus convolution is commutative and associative, and never below min-plus convolution. -/
import Derived.Test.YtgeeomhceplemaaConvA
import Derived.Test.YtgeeomhceplemaaDualA
import Derived.Test.YtgeeomhceplemaaLawKit
set_option linter.unusedVariables false
namespace Go.Proofs.Ytgeeomhceplemaa
open Go.RowKit
theorem dual_ge {n : Nat} {f g : List Int} (hf : IsC n f) (hg : IsC n g) {i : Nat} (hi : i < n) : gi (convL f g) i ≤ gi (dualL f g) i := by
  rw [convL_get hf.len hi, dualL_get hf.len hi]
  exact Int.le_trans (cv_le (gi f) (gi g) (s := 0) (by omega)) (dv_ge (gi f) (gi g) (s := 0) (by omega))
theorem dual_conv_fits {n : Nat} {f g : List Int} (hf : IsC n f) (hg : IsC n g) (h : IsC n (dualL f g)) : fits (convL f g) = true := fits_le h (by rw [convL_len, hf.len]) fun i hi => dual_ge hf hg hi
set_option maxRecDepth 100000 in
set_option maxHeartbeats 3200000 in
theorem dualOrders_walk (A_f : Option Addr) (n_f c_f : Nat) (f : List Int) (A_g : Option Addr) (n_g c_g : Nat) (g : List Int) (A_h : Option Addr) (n_h c_h : Nat) (h : List Int) (W : World) (w_f : InInts W A_f n_f c_f f) (w_g : InInts W A_g n_g c_g g) (w_h : InInts W A_h n_h c_h h) :
    Calls Try.prog 5 #[.slice A_f n_f c_f, .slice A_g n_g c_g, .slice A_h n_h c_h] W fun e w' => e = .returned (.bool true) ∧ Below W.heap.size W w' := by
  obtain ⟨s_f, l_f, r_f, _⟩ := w_f
  obtain ⟨s_g, l_g, r_g, _⟩ := w_g
  obtain ⟨s_h, l_h, r_h, _⟩ := w_h
  have b0 := Below.refl W.heap.size W
  go_enter Try.func5, Try.ntmps5
  go_wp2_with fail
  refine (dual_any _ 3 _ [0, 1, 5] _ 3 _ [0, 2, 3] _ (slMore (Sl.built_ _ (ints [0, 1, 5]) 3 _ rfl rfl) _) (Sl.built_ _ (ints [0, 2, 3]) 3 _ (by simp) rfl) (by omega) (by omega)  ([0, 2, 5]) (0) (3) (by decide +kernel) (rfl)).mono ?_
  rintro e w1 ⟨A_t, c_t, rfl, s_t, l_t, bb1⟩
  have b1 := belLit2 b0 bb1
  replace s_f := slLit2 s_f bb1
  replace s_g := slLit2 s_g bb1
  replace s_h := slLit2 s_h bb1
  clear b0 bb1
  go_wp2_with fail
  refine (equal_t A_t (3) c_t ([0, 2, 5]) _ 3 _ [0, 2, 5] _ (slMore (s_t) _) (Sl.built_ _ (ints [0, 2, 5]) 3 _ rfl rfl) (by omega) (by omega)  (true) (by decide)).mono ?_
  rintro e w2 ⟨rfl, bb2⟩
  have b2 := belLit1 b1 bb2
  replace s_f := slLit1 s_f bb2
  replace s_g := slLit1 s_g bb2
  replace s_h := slLit1 s_h bb2
  replace s_t := slLit1 s_t bb2
  clear b1 bb2
  clear s_t l_t
  have hl_f := s_f.int_len
  have hl_g := s_g.int_len
  have hl_h := s_h.int_len
  by_cases hok : (bothB f g && bothB g h) = true
  case neg =>
    have HOK := Lib.hid (Bool.eq_false_iff.2 hok)
    clear hok hl_f hl_g hl_h
    go_wp2_with fail
    refine (hthree_t A_f (n_f) c_f (f) A_g (n_g) c_g (g) A_h (n_h) c_h (h) _ (s_f) (s_g) (s_h) (by omega) (by omega) (by omega)  (false) (HOK.out)).mono ?_
    rintro e w3 ⟨rfl, bb3⟩
    have b3 := belLit0 b2 bb3
    replace s_f := slLit0 s_f bb3
    replace s_g := slLit0 s_g bb3
    replace s_h := slLit0 s_h bb3
    clear b2 bb3
    clear s_f s_g s_h
    go_wp2_with fail
    go_ret
    exact ⟨rfl, b3⟩
  obtain ⟨e1, e2, c_1, c_2, c_3⟩ := three_C hok hl_f hl_g hl_h
  subst e1 e2
  have HOK := Lib.hid hok
  have C_f := Lib.hid c_1
  have t_f := c_1.top
  have C_g := Lib.hid c_2
  have t_g := c_2.top
  have C_h := Lib.hid c_3
  have t_h := c_3.top
  clear hok c_1 c_2 c_3 hl_f hl_g hl_h
  go_wp2_with fail
  refine (hthree_t A_f (n_f) c_f (f) A_g (n_f) c_g (g) A_h (n_f) c_h (h) _ (s_f) (s_g) (s_h) (by omega) (by omega) (by omega)  (true) (HOK.out)).mono ?_
  rintro e w4 ⟨rfl, bb4⟩
  have b4 := belLit0 b2 bb4
  replace s_f := slLit0 s_f bb4
  replace s_g := slLit0 s_g bb4
  replace s_h := slLit0 s_h bb4
  clear b2 bb4
  have HE := Lib.hid (dualL_comm (C_g.out.len.trans C_f.out.len.symm))
  by_cases h1 : fits (dualL f g) = true
  · have H1 := Lib.hid h1
    clear h1
    by_cases h3 : fits (dualL g h) = true
    · have H3 := Lib.hid h3
      clear h3
      go_wp2_with fail
      refine (dual_any A_f (n_f) c_f (f) A_g (n_f) c_g (g) _ (s_f) (s_g) (by omega) (by omega)  (dualL f g) (0) (n_f) (dual_yes C_f.out C_g.out H1.out rfl) ((tab_len _ _).trans C_f.out.len)).mono ?_
      rintro e w5 ⟨A_a, c_a, rfl, s_a, l_a, bb5⟩
      have b5 := belLit0 b4 bb5
      replace s_f := slLit0 s_f bb5
      replace s_g := slLit0 s_g bb5
      replace s_h := slLit0 s_h bb5
      clear b4 bb5
      go_wp2_with fail
      refine (dual_any A_g (n_f) c_g (g) A_f (n_f) c_f (f) _ (s_g) (s_f) (by omega) (by omega)  (dualL f g) (0) (n_f) (dual_yes C_g.out C_f.out (by rw [HE.out]; exact H1.out) HE.out) ((tab_len _ _).trans C_f.out.len)).mono ?_
      rintro e w6 ⟨A_b, c_b, rfl, s_b, l_b, bb6⟩
      have b6 := belLit0 b5 bb6
      replace s_f := slLit0 s_f bb6
      replace s_g := slLit0 s_g bb6
      replace s_h := slLit0 s_h bb6
      replace s_a := slLit0 s_a bb6
      clear b5 bb6
      go_wp2_with fail
      refine (dual_any A_g (n_f) c_g (g) A_h (n_f) c_h (h) _ (s_g) (s_h) (by omega) (by omega)  (dualL g h) (0) (n_f) (dual_yes C_g.out C_h.out H3.out rfl) ((tab_len _ _).trans C_g.out.len)).mono ?_
      rintro e w7 ⟨A_c, c_c, rfl, s_c, l_c, bb7⟩
      have b7 := belLit0 b6 bb7
      replace s_f := slLit0 s_f bb7
      replace s_g := slLit0 s_g bb7
      replace s_h := slLit0 s_h bb7
      replace s_a := slLit0 s_a bb7
      replace s_b := slLit0 s_b bb7
      clear b6 bb7
      go_wp2_with fail
      refine (same_t A_a (n_f) c_a (dualL f g) (0) A_b (n_f) c_b (dualL f g) (0) _ (s_a) (s_b) (by omega) (by omega) (.inl rfl) (.inl rfl) (true) (by unfold sameB; simp)).mono ?_
      rintro e w8 ⟨rfl, bb8⟩
      have b8 := belLit0 b7 bb8
      replace s_f := slLit0 s_f bb8
      replace s_g := slLit0 s_g bb8
      replace s_h := slLit0 s_h bb8
      replace s_a := slLit0 s_a bb8
      replace s_b := slLit0 s_b bb8
      replace s_c := slLit0 s_c bb8
      clear b7 bb8
      have CA := Lib.hid (dual_C C_f.out C_g.out H1.out)
      have CC := Lib.hid (dual_C C_g.out C_h.out H3.out)
      have EA := Lib.hid (dualL_assoc C_f.out C_g.out C_h.out)
      have CL := Lib.hid (conv_C C_f.out C_g.out (dual_conv_fits C_f.out C_g.out CA.out))
      by_cases h4 : fits (dualL (dualL f g) h) = true
      · have H4 := Lib.hid h4
        clear h4
        go_wp2_with fail
        refine (dual_any A_a (n_f) c_a (dualL f g) A_h (n_f) c_h (h) _ (s_a) (s_h) (by omega) (by omega)  (dualL (dualL f g) h) (0) (n_f) (dual_yes CA.out C_h.out H4.out rfl) ((tab_len _ _).trans CA.out.len)).mono ?_
        rintro e w9 ⟨A_x, c_x, rfl, s_x, l_x, bb9⟩
        have b9 := belLit0 b8 bb9
        replace s_f := slLit0 s_f bb9
        replace s_g := slLit0 s_g bb9
        replace s_h := slLit0 s_h bb9
        replace s_a := slLit0 s_a bb9
        replace s_b := slLit0 s_b bb9
        replace s_c := slLit0 s_c bb9
        clear b8 bb9
        go_wp2_with fail
        refine (dual_any A_f (n_f) c_f (f) A_c (n_f) c_c (dualL g h) _ (s_f) (s_c) (by omega) (by omega)  (dualL (dualL f g) h) (0) (n_f) (dual_yes C_f.out CC.out (by rw [← EA.out]; exact H4.out) EA.out.symm) ((tab_len _ _).trans CA.out.len)).mono ?_
        rintro e w10 ⟨A_y, c_y, rfl, s_y, l_y, bb10⟩
        have b10 := belLit0 b9 bb10
        replace s_f := slLit0 s_f bb10
        replace s_g := slLit0 s_g bb10
        replace s_h := slLit0 s_h bb10
        replace s_a := slLit0 s_a bb10
        replace s_b := slLit0 s_b bb10
        replace s_c := slLit0 s_c bb10
        replace s_x := slLit0 s_x bb10
        clear b9 bb10
        go_wp2_with fail
        refine (conv_any A_f (n_f) c_f (f) A_g (n_f) c_g (g) _ (s_f) (s_g) (by omega) (by omega)  (convL f g) (0) (n_f) (conv_yes C_f.out C_g.out (dual_conv_fits C_f.out C_g.out CA.out) rfl) ((tab_len _ _).trans C_f.out.len)).mono ?_
        rintro e w11 ⟨A_l, c_l, rfl, s_l, l_l, bb11⟩
        have b11 := belLit0 b10 bb11
        replace s_f := slLit0 s_f bb11
        replace s_g := slLit0 s_g bb11
        replace s_h := slLit0 s_h bb11
        replace s_a := slLit0 s_a bb11
        replace s_b := slLit0 s_b bb11
        replace s_c := slLit0 s_c bb11
        replace s_x := slLit0 s_x bb11
        replace s_y := slLit0 s_y bb11
        clear b10 bb11
        go_wp2_with fail
        refine (same_t A_x (n_f) c_x (dualL (dualL f g) h) (0) A_y (n_f) c_y (dualL (dualL f g) h) (0) _ (s_x) (s_y) (by omega) (by omega) (.inl rfl) (.inl rfl) (true) (by unfold sameB; simp)).mono ?_
        rintro e w12 ⟨rfl, bb12⟩
        have b12 := belLit0 b11 bb12
        replace s_f := slLit0 s_f bb12
        replace s_g := slLit0 s_g bb12
        replace s_h := slLit0 s_h bb12
        replace s_a := slLit0 s_a bb12
        replace s_b := slLit0 s_b bb12
        replace s_c := slLit0 s_c bb12
        replace s_x := slLit0 s_x bb12
        replace s_y := slLit0 s_y bb12
        replace s_l := slLit0 s_l bb12
        clear b11 bb12
        go_wp2_with fail
        refine (hle_t A_l (n_f) c_l (convL f g) A_a (n_f) c_a (dualL f g) _ (s_l) (s_a) (by omega) (by omega)  (true) (leT_yes CL.out CA.out fun i hi => dual_ge C_f.out C_g.out hi)).mono ?_
        rintro e w13 ⟨rfl, bb13⟩
        have b13 := belLit0 b12 bb13
        replace s_f := slLit0 s_f bb13
        replace s_g := slLit0 s_g bb13
        replace s_h := slLit0 s_h bb13
        replace s_a := slLit0 s_a bb13
        replace s_b := slLit0 s_b bb13
        replace s_c := slLit0 s_c bb13
        replace s_x := slLit0 s_x bb13
        replace s_y := slLit0 s_y bb13
        replace s_l := slLit0 s_l bb13
        clear b12 bb13
        clear s_f s_g s_h s_a s_b s_c s_x s_y s_l
        go_wp2_with fail
        go_ret
        exact ⟨rfl, b13⟩
      · have H4 := Lib.hid h4
        clear h4
        go_wp2_with fail
        refine (dual_any A_a (n_f) c_a (dualL f g) A_h (n_f) c_h (h) _ (s_a) (s_h) (by omega) (by omega)  ([]) (2) (0) (dual_no CA.out C_h.out H4.out) (rfl)).mono ?_
        rintro e w14 ⟨A_x, c_x, rfl, s_x, l_x, bb14⟩
        have b14 := belLit0 b8 bb14
        replace s_f := slLit0 s_f bb14
        replace s_g := slLit0 s_g bb14
        replace s_h := slLit0 s_h bb14
        replace s_a := slLit0 s_a bb14
        replace s_b := slLit0 s_b bb14
        replace s_c := slLit0 s_c bb14
        clear b8 bb14
        go_wp2_with fail
        refine (dual_any A_f (n_f) c_f (f) A_c (n_f) c_c (dualL g h) _ (s_f) (s_c) (by omega) (by omega)  ([]) (2) (0) (dual_no C_f.out CC.out (by rw [← EA.out]; exact H4.out)) (rfl)).mono ?_
        rintro e w15 ⟨A_y, c_y, rfl, s_y, l_y, bb15⟩
        have b15 := belLit0 b14 bb15
        replace s_f := slLit0 s_f bb15
        replace s_g := slLit0 s_g bb15
        replace s_h := slLit0 s_h bb15
        replace s_a := slLit0 s_a bb15
        replace s_b := slLit0 s_b bb15
        replace s_c := slLit0 s_c bb15
        replace s_x := slLit0 s_x bb15
        clear b14 bb15
        go_wp2_with fail
        refine (conv_any A_f (n_f) c_f (f) A_g (n_f) c_g (g) _ (s_f) (s_g) (by omega) (by omega)  (convL f g) (0) (n_f) (conv_yes C_f.out C_g.out (dual_conv_fits C_f.out C_g.out CA.out) rfl) ((tab_len _ _).trans C_f.out.len)).mono ?_
        rintro e w16 ⟨A_l, c_l, rfl, s_l, l_l, bb16⟩
        have b16 := belLit0 b15 bb16
        replace s_f := slLit0 s_f bb16
        replace s_g := slLit0 s_g bb16
        replace s_h := slLit0 s_h bb16
        replace s_a := slLit0 s_a bb16
        replace s_b := slLit0 s_b bb16
        replace s_c := slLit0 s_c bb16
        replace s_x := slLit0 s_x bb16
        replace s_y := slLit0 s_y bb16
        clear b15 bb16
        go_wp2_with fail
        refine (same_t A_x (0) c_x ([]) (2) A_y (0) c_y ([]) (2) _ (s_x) (s_y) (by omega) (by omega) (.inr rfl) (.inr rfl) (true) (rfl)).mono ?_
        rintro e w17 ⟨rfl, bb17⟩
        have b17 := belLit0 b16 bb17
        replace s_f := slLit0 s_f bb17
        replace s_g := slLit0 s_g bb17
        replace s_h := slLit0 s_h bb17
        replace s_a := slLit0 s_a bb17
        replace s_b := slLit0 s_b bb17
        replace s_c := slLit0 s_c bb17
        replace s_x := slLit0 s_x bb17
        replace s_y := slLit0 s_y bb17
        replace s_l := slLit0 s_l bb17
        clear b16 bb17
        go_wp2_with fail
        refine (hle_t A_l (n_f) c_l (convL f g) A_a (n_f) c_a (dualL f g) _ (s_l) (s_a) (by omega) (by omega)  (true) (leT_yes CL.out CA.out fun i hi => dual_ge C_f.out C_g.out hi)).mono ?_
        rintro e w18 ⟨rfl, bb18⟩
        have b18 := belLit0 b17 bb18
        replace s_f := slLit0 s_f bb18
        replace s_g := slLit0 s_g bb18
        replace s_h := slLit0 s_h bb18
        replace s_a := slLit0 s_a bb18
        replace s_b := slLit0 s_b bb18
        replace s_c := slLit0 s_c bb18
        replace s_x := slLit0 s_x bb18
        replace s_y := slLit0 s_y bb18
        replace s_l := slLit0 s_l bb18
        clear b17 bb18
        clear s_f s_g s_h s_a s_b s_c s_x s_y s_l
        go_wp2_with fail
        go_ret
        exact ⟨rfl, b18⟩
    · have H3 := Lib.hid h3
      clear h3
      go_wp2_with fail
      refine (dual_any A_f (n_f) c_f (f) A_g (n_f) c_g (g) _ (s_f) (s_g) (by omega) (by omega)  (dualL f g) (0) (n_f) (dual_yes C_f.out C_g.out H1.out rfl) ((tab_len _ _).trans C_f.out.len)).mono ?_
      rintro e w19 ⟨A_a, c_a, rfl, s_a, l_a, bb19⟩
      have b19 := belLit0 b4 bb19
      replace s_f := slLit0 s_f bb19
      replace s_g := slLit0 s_g bb19
      replace s_h := slLit0 s_h bb19
      clear b4 bb19
      go_wp2_with fail
      refine (dual_any A_g (n_f) c_g (g) A_f (n_f) c_f (f) _ (s_g) (s_f) (by omega) (by omega)  (dualL f g) (0) (n_f) (dual_yes C_g.out C_f.out (by rw [HE.out]; exact H1.out) HE.out) ((tab_len _ _).trans C_f.out.len)).mono ?_
      rintro e w20 ⟨A_b, c_b, rfl, s_b, l_b, bb20⟩
      have b20 := belLit0 b19 bb20
      replace s_f := slLit0 s_f bb20
      replace s_g := slLit0 s_g bb20
      replace s_h := slLit0 s_h bb20
      replace s_a := slLit0 s_a bb20
      clear b19 bb20
      go_wp2_with fail
      refine (dual_any A_g (n_f) c_g (g) A_h (n_f) c_h (h) _ (s_g) (s_h) (by omega) (by omega)  ([]) (2) (0) (dual_no C_g.out C_h.out H3.out) (rfl)).mono ?_
      rintro e w21 ⟨A_c, c_c, rfl, s_c, l_c, bb21⟩
      have b21 := belLit0 b20 bb21
      replace s_f := slLit0 s_f bb21
      replace s_g := slLit0 s_g bb21
      replace s_h := slLit0 s_h bb21
      replace s_a := slLit0 s_a bb21
      replace s_b := slLit0 s_b bb21
      clear b20 bb21
      go_wp2_with fail
      refine (same_t A_a (n_f) c_a (dualL f g) (0) A_b (n_f) c_b (dualL f g) (0) _ (s_a) (s_b) (by omega) (by omega) (.inl rfl) (.inl rfl) (true) (by unfold sameB; simp)).mono ?_
      rintro e w22 ⟨rfl, bb22⟩
      have b22 := belLit0 b21 bb22
      replace s_f := slLit0 s_f bb22
      replace s_g := slLit0 s_g bb22
      replace s_h := slLit0 s_h bb22
      replace s_a := slLit0 s_a bb22
      replace s_b := slLit0 s_b bb22
      replace s_c := slLit0 s_c bb22
      clear b21 bb22
      clear s_f s_g s_h s_a s_b s_c
      go_wp2_with fail
      go_ret
      exact ⟨rfl, b22⟩
  · have H1 := Lib.hid h1
    clear h1
    by_cases h3 : fits (dualL g h) = true
    · have H3 := Lib.hid h3
      clear h3
      go_wp2_with fail
      refine (dual_any A_f (n_f) c_f (f) A_g (n_f) c_g (g) _ (s_f) (s_g) (by omega) (by omega)  ([]) (2) (0) (dual_no C_f.out C_g.out H1.out) (rfl)).mono ?_
      rintro e w23 ⟨A_a, c_a, rfl, s_a, l_a, bb23⟩
      have b23 := belLit0 b4 bb23
      replace s_f := slLit0 s_f bb23
      replace s_g := slLit0 s_g bb23
      replace s_h := slLit0 s_h bb23
      clear b4 bb23
      go_wp2_with fail
      refine (dual_any A_g (n_f) c_g (g) A_f (n_f) c_f (f) _ (s_g) (s_f) (by omega) (by omega)  ([]) (2) (0) (dual_no C_g.out C_f.out (by rw [HE.out]; exact H1.out)) (rfl)).mono ?_
      rintro e w24 ⟨A_b, c_b, rfl, s_b, l_b, bb24⟩
      have b24 := belLit0 b23 bb24
      replace s_f := slLit0 s_f bb24
      replace s_g := slLit0 s_g bb24
      replace s_h := slLit0 s_h bb24
      replace s_a := slLit0 s_a bb24
      clear b23 bb24
      go_wp2_with fail
      refine (dual_any A_g (n_f) c_g (g) A_h (n_f) c_h (h) _ (s_g) (s_h) (by omega) (by omega)  (dualL g h) (0) (n_f) (dual_yes C_g.out C_h.out H3.out rfl) ((tab_len _ _).trans C_g.out.len)).mono ?_
      rintro e w25 ⟨A_c, c_c, rfl, s_c, l_c, bb25⟩
      have b25 := belLit0 b24 bb25
      replace s_f := slLit0 s_f bb25
      replace s_g := slLit0 s_g bb25
      replace s_h := slLit0 s_h bb25
      replace s_a := slLit0 s_a bb25
      replace s_b := slLit0 s_b bb25
      clear b24 bb25
      go_wp2_with fail
      refine (same_t A_a (0) c_a ([]) (2) A_b (0) c_b ([]) (2) _ (s_a) (s_b) (by omega) (by omega) (.inr rfl) (.inr rfl) (true) (rfl)).mono ?_
      rintro e w26 ⟨rfl, bb26⟩
      have b26 := belLit0 b25 bb26
      replace s_f := slLit0 s_f bb26
      replace s_g := slLit0 s_g bb26
      replace s_h := slLit0 s_h bb26
      replace s_a := slLit0 s_a bb26
      replace s_b := slLit0 s_b bb26
      replace s_c := slLit0 s_c bb26
      clear b25 bb26
      clear s_f s_g s_h s_a s_b s_c
      go_wp2_with fail
      go_ret
      exact ⟨rfl, b26⟩
    · have H3 := Lib.hid h3
      clear h3
      go_wp2_with fail
      refine (dual_any A_f (n_f) c_f (f) A_g (n_f) c_g (g) _ (s_f) (s_g) (by omega) (by omega)  ([]) (2) (0) (dual_no C_f.out C_g.out H1.out) (rfl)).mono ?_
      rintro e w27 ⟨A_a, c_a, rfl, s_a, l_a, bb27⟩
      have b27 := belLit0 b4 bb27
      replace s_f := slLit0 s_f bb27
      replace s_g := slLit0 s_g bb27
      replace s_h := slLit0 s_h bb27
      clear b4 bb27
      go_wp2_with fail
      refine (dual_any A_g (n_f) c_g (g) A_f (n_f) c_f (f) _ (s_g) (s_f) (by omega) (by omega)  ([]) (2) (0) (dual_no C_g.out C_f.out (by rw [HE.out]; exact H1.out)) (rfl)).mono ?_
      rintro e w28 ⟨A_b, c_b, rfl, s_b, l_b, bb28⟩
      have b28 := belLit0 b27 bb28
      replace s_f := slLit0 s_f bb28
      replace s_g := slLit0 s_g bb28
      replace s_h := slLit0 s_h bb28
      replace s_a := slLit0 s_a bb28
      clear b27 bb28
      go_wp2_with fail
      refine (dual_any A_g (n_f) c_g (g) A_h (n_f) c_h (h) _ (s_g) (s_h) (by omega) (by omega)  ([]) (2) (0) (dual_no C_g.out C_h.out H3.out) (rfl)).mono ?_
      rintro e w29 ⟨A_c, c_c, rfl, s_c, l_c, bb29⟩
      have b29 := belLit0 b28 bb29
      replace s_f := slLit0 s_f bb29
      replace s_g := slLit0 s_g bb29
      replace s_h := slLit0 s_h bb29
      replace s_a := slLit0 s_a bb29
      replace s_b := slLit0 s_b bb29
      clear b28 bb29
      go_wp2_with fail
      refine (same_t A_a (0) c_a ([]) (2) A_b (0) c_b ([]) (2) _ (s_a) (s_b) (by omega) (by omega) (.inr rfl) (.inr rfl) (true) (rfl)).mono ?_
      rintro e w30 ⟨rfl, bb30⟩
      have b30 := belLit0 b29 bb30
      replace s_f := slLit0 s_f bb30
      replace s_g := slLit0 s_g bb30
      replace s_h := slLit0 s_h bb30
      replace s_a := slLit0 s_a bb30
      replace s_b := slLit0 s_b bb30
      replace s_c := slLit0 s_c bb30
      clear b29 bb30
      clear s_f s_g s_h s_a s_b s_c
      go_wp2_with fail
      go_ret
      exact ⟨rfl, b30⟩
end Go.Proofs.Ytgeeomhceplemaa
