/- ConvGrows: convolution is monotonic, and at most either curve and the first value of the other. -/
import Derived.Test.YtkofgejkicjdoaaConvA
import Derived.Test.YtkofgejkicjdoaaLawKit
import Derived.Test.YtkofgejkicjdoaaPointU
set_option linter.unusedVariables false
namespace Go.Proofs.Ytkofgejkicjdoaa
open Go.RowKit
theorem convGrows_le {n : Nat} {f g h : List Int} (hf : IsC n f) (hg : IsC n g) (hh : IsC n h) (c1 : IsC n (convL f h)) (c2 : IsC n (convL g h)) (h1 : leT f g = true) : leT (convL f h) (convL g h) = true :=
  leT_yes c1 c2 fun i hi => by
    rw [convL_get hf.len hi, convL_get hg.len hi]
    exact cv_le_cv hi ((leT_iff hf hg).1 h1) fun _ _ => Int.le_refl _
theorem convGrows_up {n : Nat} {f h : List Int} (hf : IsC n f) (hh : IsC n h) (c1 : IsC n (convL f h)) (c2 : IsC n (cupL f (gi h 0))) : leT (convL f h) (cupL f (gi h 0)) = true :=
  leT_yes c1 c2 fun i hi => by
    rw [convL_get hf.len hi, cup_get hf.len hi]
    have := cv_le (gi f) (gi h) (Nat.le_refl i)
    rwa [Nat.sub_self] at this
set_option maxRecDepth 100000 in
set_option maxHeartbeats 3200000 in
theorem convGrows_walk (A_f : Option Addr) (n_f c_f : Nat) (f : List Int) (A_g : Option Addr) (n_g c_g : Nat) (g : List Int) (A_h : Option Addr) (n_h c_h : Nat) (h : List Int) (W : World) (w_f : InInts W A_f n_f c_f f) (w_g : InInts W A_g n_g c_g g) (w_h : InInts W A_h n_h c_h h) :
    Calls Try.prog 8 #[.slice A_f n_f c_f, .slice A_g n_g c_g, .slice A_h n_h c_h] W fun e w' => e = .returned (.bool true) ∧ Below W.heap.size W w' := by
  obtain ⟨s_f, l_f, r_f, _⟩ := w_f
  obtain ⟨s_g, l_g, r_g, _⟩ := w_g
  obtain ⟨s_h, l_h, r_h, _⟩ := w_h
  have b0 := Below.refl W.heap.size W
  go_enter Try.func8, Try.ntmps8
  go_wp2_with fail
  refine (conv_any _ 2 _ [1, 2] _ 2 _ [3, 9] _ (slMore (Sl.built_ _ (ints [1, 2]) 3 _ rfl rfl) _) (Sl.built_ _ (ints [3, 9]) 3 _ (by simp) rfl) (by omega) (by omega)  ([4, 5]) (0) (2) (by decide +kernel) (rfl)).mono ?_
  rintro e w1 ⟨A_t0, c_t0, rfl, s_t0, l_t0, bb1⟩
  have b1 := belLit2 b0 bb1
  replace s_f := slLit2 s_f bb1
  replace s_g := slLit2 s_g bb1
  replace s_h := slLit2 s_h bb1
  clear b0 bb1
  go_wp2_with fail
  refine (equal_t A_t0 2 c_t0 ([4, 5]) _ 2 _ [4, 5] _ (slMore (s_t0) _) (Sl.built_ _ (ints [4, 5]) 3 _ rfl rfl) (by omega) (by omega)  (true) (by decide)).mono ?_
  rintro e w2 ⟨rfl, bb2⟩
  have b2 := belLit1 b1 bb2
  replace s_f := slLit1 s_f bb2
  replace s_g := slLit1 s_g bb2
  replace s_h := slLit1 s_h bb2
  replace s_t0 := slLit1 s_t0 bb2
  clear b1 bb2
  clear s_t0 l_t0
  have hl_f := s_f.int_len
  have hl_g := s_g.int_len
  have hl_h := s_h.int_len
  by_cases hok : (bothB f g && bothB g h) = true
  case neg =>
    have HOK := Lib.hid (Bool.eq_false_iff.2 hok)
    clear hok hl_f hl_g hl_h
    go_wp2_with fail
    refine (hthree_t A_f n_f c_f (f) A_g n_g c_g (g) A_h n_h c_h (h) _ (s_f) (s_g) (s_h) (by omega) (by omega) (by omega)  (false) (HOK.out)).mono ?_
    rintro e w3 ⟨rfl, bb3⟩
    have b3 := belLit0 b2 bb3
    replace s_f := slLit0 s_f bb3
    replace s_g := slLit0 s_g bb3
    replace s_h := slLit0 s_h bb3
    clear b2 bb3
    clear s_f s_g s_h
    go_wp2_with fail
    go_ret
    exact ⟨rfl, b3⟩
  obtain ⟨e1, e2, c_1, c_2, c_3⟩ := three_C hok hl_f hl_g hl_h
  subst e1 e2
  have HOK := Lib.hid hok
  have C_f := Lib.hid c_1
  have t_f := c_1.top
  have C_g := Lib.hid c_2
  have t_g := c_2.top
  have C_h := Lib.hid c_3
  have t_h := c_3.top
  clear hok c_1 c_2 c_3 hl_f hl_g hl_h
  go_wp2_with fail
  refine (hthree_t A_f n_f c_f (f) A_g n_f c_g (g) A_h n_f c_h (h) _ (s_f) (s_g) (s_h) (by omega) (by omega) (by omega)  (true) (HOK.out)).mono ?_
  rintro e w4 ⟨rfl, bb4⟩
  have b4 := belLit0 b2 bb4
  replace s_f := slLit0 s_f bb4
  replace s_g := slLit0 s_g bb4
  replace s_h := slLit0 s_h bb4
  clear b2 bb4
  have u1 := C_h.out.lo 0 C_h.out.pos
  have u2 := C_h.out.hi 0 C_h.out.pos
  have u3 := C_h.out.pos
  by_cases h1 : fits (convL f h) = true
  · have H1 := Lib.hid h1
    clear h1
    by_cases h2 : fits (convL g h) = true
    · have H2 := Lib.hid h2
      clear h2
      by_cases h3 : fits (cupL f (gi h 0)) = true
      · have H3 := Lib.hid h3
        clear h3
        go_wp2_with fail
        refine (conv_any A_f n_f c_f (f) A_h n_f c_h (h) _ (s_f) (s_h) (by omega) (by omega)  (convL (f) (h)) (0) (n_f) (conv_yes C_f.out C_h.out H1.out (rfl)) ((tab_len _ _).trans C_f.out.len)).mono ?_
        rintro e w5 ⟨A_x, c_x, rfl, s_x, l_x, bb5⟩
        have b5 := belLit0 b4 bb5
        replace s_f := slLit0 s_f bb5
        replace s_g := slLit0 s_g bb5
        replace s_h := slLit0 s_h bb5
        clear b4 bb5
        have C_x := Lib.hid (conv_C C_f.out C_h.out H1.out)
        go_wp2_with fail
        refine (conv_any A_g n_f c_g (g) A_h n_f c_h (h) _ (s_g) (s_h) (by omega) (by omega)  (convL (g) (h)) (0) (n_f) (conv_yes C_g.out C_h.out H2.out (rfl)) ((tab_len _ _).trans C_g.out.len)).mono ?_
        rintro e w6 ⟨A_y, c_y, rfl, s_y, l_y, bb6⟩
        have b6 := belLit0 b5 bb6
        replace s_f := slLit0 s_f bb6
        replace s_g := slLit0 s_g bb6
        replace s_h := slLit0 s_h bb6
        replace s_x := slLit0 s_x bb6
        clear b5 bb6
        have C_y := Lib.hid (conv_C C_g.out C_h.out H2.out)
        obtain ⟨bk_h, of_h, eA_h, -, -⟩ := s_h.int_at (k := 0) (by omega)
        subst eA_h
        have hc_h := s_h.int_cell (k := 0) (by omega)
        rw [Nat.add_zero] at hc_h
        go_wp2_with fail
        refine (pup_any A_f n_f c_f (f) (gi h 0) _ (s_f) (by omega) u1 u2 (cupL f (gi h 0)) (0) (n_f) (cup_yes C_f.out H3.out rfl) ((tab_len _ _).trans C_f.out.len)).mono ?_
        rintro e w7 ⟨A_up, c_up, rfl, s_up, l_up, bb7⟩
        have b7 := belLit0 b6 bb7
        replace s_f := slLit0 s_f bb7
        replace s_g := slLit0 s_g bb7
        replace s_h := slLit0 s_h bb7
        replace s_x := slLit0 s_x bb7
        replace s_y := slLit0 s_y bb7
        clear b6 bb7
        have C_up := Lib.hid (cup_C C_f.out u1 H3.out)
        go_wp2_with fail
        refine (hle_t A_x n_f c_x (convL (f) (h)) A_up n_f c_up (cupL f (gi h 0)) _ (s_x) (s_up) (by omega) (by omega)  (true) (convGrows_up C_f.out C_h.out C_x.out C_up.out)).mono ?_
        rintro e w8 ⟨rfl, bb8⟩
        have b8 := belLit0 b7 bb8
        replace s_f := slLit0 s_f bb8
        replace s_g := slLit0 s_g bb8
        replace s_h := slLit0 s_h bb8
        replace s_x := slLit0 s_x bb8
        replace s_y := slLit0 s_y bb8
        replace s_up := slLit0 s_up bb8
        clear b7 bb8
        by_cases h4 : leT f g = true
        · have H4 := Lib.hid h4
          clear h4
          go_wp2_with fail
          refine (hle_t A_f n_f c_f (f) A_g n_f c_g (g) _ (s_f) (s_g) (by omega) (by omega)  (true) (H4.out)).mono ?_
          rintro e w9 ⟨rfl, bb9⟩
          have b9 := belLit0 b8 bb9
          replace s_f := slLit0 s_f bb9
          replace s_g := slLit0 s_g bb9
          replace s_h := slLit0 s_h bb9
          replace s_x := slLit0 s_x bb9
          replace s_y := slLit0 s_y bb9
          replace s_up := slLit0 s_up bb9
          clear b8 bb9
          go_wp2_with fail
          refine (hle_t A_x n_f c_x (convL (f) (h)) A_y n_f c_y (convL (g) (h)) _ (s_x) (s_y) (by omega) (by omega)  (true) (convGrows_le C_f.out C_g.out C_h.out C_x.out C_y.out H4.out)).mono ?_
          rintro e w10 ⟨rfl, bb10⟩
          have b10 := belLit0 b9 bb10
          replace s_f := slLit0 s_f bb10
          replace s_g := slLit0 s_g bb10
          replace s_h := slLit0 s_h bb10
          replace s_x := slLit0 s_x bb10
          replace s_y := slLit0 s_y bb10
          replace s_up := slLit0 s_up bb10
          clear b9 bb10
          clear s_f s_g s_h s_x s_y s_up
          go_wp2_with fail
          go_ret
          exact ⟨rfl, b10⟩
        · have H4 := Lib.hid h4
          clear h4
          have H5 := Lib.hid (Bool.eq_false_iff.2 H4.out)
          go_wp2_with fail
          refine (hle_t A_f n_f c_f (f) A_g n_f c_g (g) _ (s_f) (s_g) (by omega) (by omega)  (false) (H5.out)).mono ?_
          rintro e w11 ⟨rfl, bb11⟩
          have b11 := belLit0 b8 bb11
          replace s_f := slLit0 s_f bb11
          replace s_g := slLit0 s_g bb11
          replace s_h := slLit0 s_h bb11
          replace s_x := slLit0 s_x bb11
          replace s_y := slLit0 s_y bb11
          replace s_up := slLit0 s_up bb11
          clear b8 bb11
          clear s_f s_g s_h s_x s_y s_up
          go_wp2_with fail
          go_ret
          exact ⟨rfl, b11⟩
      · have H3 := Lib.hid h3
        clear h3
        go_wp2_with fail
        refine (conv_any A_f n_f c_f (f) A_h n_f c_h (h) _ (s_f) (s_h) (by omega) (by omega)  (convL (f) (h)) (0) (n_f) (conv_yes C_f.out C_h.out H1.out (rfl)) ((tab_len _ _).trans C_f.out.len)).mono ?_
        rintro e w12 ⟨A_x, c_x, rfl, s_x, l_x, bb12⟩
        have b12 := belLit0 b4 bb12
        replace s_f := slLit0 s_f bb12
        replace s_g := slLit0 s_g bb12
        replace s_h := slLit0 s_h bb12
        clear b4 bb12
        have C_x := Lib.hid (conv_C C_f.out C_h.out H1.out)
        go_wp2_with fail
        refine (conv_any A_g n_f c_g (g) A_h n_f c_h (h) _ (s_g) (s_h) (by omega) (by omega)  (convL (g) (h)) (0) (n_f) (conv_yes C_g.out C_h.out H2.out (rfl)) ((tab_len _ _).trans C_g.out.len)).mono ?_
        rintro e w13 ⟨A_y, c_y, rfl, s_y, l_y, bb13⟩
        have b13 := belLit0 b12 bb13
        replace s_f := slLit0 s_f bb13
        replace s_g := slLit0 s_g bb13
        replace s_h := slLit0 s_h bb13
        replace s_x := slLit0 s_x bb13
        clear b12 bb13
        have C_y := Lib.hid (conv_C C_g.out C_h.out H2.out)
        obtain ⟨bk_h, of_h, eA_h, -, -⟩ := s_h.int_at (k := 0) (by omega)
        subst eA_h
        have hc_h := s_h.int_cell (k := 0) (by omega)
        rw [Nat.add_zero] at hc_h
        go_wp2_with fail
        refine (pup_any A_f n_f c_f (f) (gi h 0) _ (s_f) (by omega) u1 u2 ([]) (2) (0) (cup_no C_f.out H3.out) (rfl)).mono ?_
        rintro e w14 ⟨A_up, c_up, rfl, s_up, l_up, bb14⟩
        have b14 := belLit0 b13 bb14
        replace s_f := slLit0 s_f bb14
        replace s_g := slLit0 s_g bb14
        replace s_h := slLit0 s_h bb14
        replace s_x := slLit0 s_x bb14
        replace s_y := slLit0 s_y bb14
        clear b13 bb14
        by_cases h4 : leT f g = true
        · have H4 := Lib.hid h4
          clear h4
          go_wp2_with fail
          refine (hle_t A_f n_f c_f (f) A_g n_f c_g (g) _ (s_f) (s_g) (by omega) (by omega)  (true) (H4.out)).mono ?_
          rintro e w15 ⟨rfl, bb15⟩
          have b15 := belLit0 b14 bb15
          replace s_f := slLit0 s_f bb15
          replace s_g := slLit0 s_g bb15
          replace s_h := slLit0 s_h bb15
          replace s_x := slLit0 s_x bb15
          replace s_y := slLit0 s_y bb15
          replace s_up := slLit0 s_up bb15
          clear b14 bb15
          go_wp2_with fail
          refine (hle_t A_x n_f c_x (convL (f) (h)) A_y n_f c_y (convL (g) (h)) _ (s_x) (s_y) (by omega) (by omega)  (true) (convGrows_le C_f.out C_g.out C_h.out C_x.out C_y.out H4.out)).mono ?_
          rintro e w16 ⟨rfl, bb16⟩
          have b16 := belLit0 b15 bb16
          replace s_f := slLit0 s_f bb16
          replace s_g := slLit0 s_g bb16
          replace s_h := slLit0 s_h bb16
          replace s_x := slLit0 s_x bb16
          replace s_y := slLit0 s_y bb16
          replace s_up := slLit0 s_up bb16
          clear b15 bb16
          clear s_f s_g s_h s_x s_y s_up
          go_wp2_with fail
          go_ret
          exact ⟨rfl, b16⟩
        · have H4 := Lib.hid h4
          clear h4
          have H5 := Lib.hid (Bool.eq_false_iff.2 H4.out)
          go_wp2_with fail
          refine (hle_t A_f n_f c_f (f) A_g n_f c_g (g) _ (s_f) (s_g) (by omega) (by omega)  (false) (H5.out)).mono ?_
          rintro e w17 ⟨rfl, bb17⟩
          have b17 := belLit0 b14 bb17
          replace s_f := slLit0 s_f bb17
          replace s_g := slLit0 s_g bb17
          replace s_h := slLit0 s_h bb17
          replace s_x := slLit0 s_x bb17
          replace s_y := slLit0 s_y bb17
          replace s_up := slLit0 s_up bb17
          clear b14 bb17
          clear s_f s_g s_h s_x s_y s_up
          go_wp2_with fail
          go_ret
          exact ⟨rfl, b17⟩
    · have H2 := Lib.hid h2
      clear h2
      by_cases h3 : fits (cupL f (gi h 0)) = true
      · have H3 := Lib.hid h3
        clear h3
        go_wp2_with fail
        refine (conv_any A_f n_f c_f (f) A_h n_f c_h (h) _ (s_f) (s_h) (by omega) (by omega)  (convL (f) (h)) (0) (n_f) (conv_yes C_f.out C_h.out H1.out (rfl)) ((tab_len _ _).trans C_f.out.len)).mono ?_
        rintro e w18 ⟨A_x, c_x, rfl, s_x, l_x, bb18⟩
        have b18 := belLit0 b4 bb18
        replace s_f := slLit0 s_f bb18
        replace s_g := slLit0 s_g bb18
        replace s_h := slLit0 s_h bb18
        clear b4 bb18
        have C_x := Lib.hid (conv_C C_f.out C_h.out H1.out)
        go_wp2_with fail
        refine (conv_any A_g n_f c_g (g) A_h n_f c_h (h) _ (s_g) (s_h) (by omega) (by omega)  ([]) (2) (0) (conv_no C_g.out C_h.out H2.out) (rfl)).mono ?_
        rintro e w19 ⟨A_y, c_y, rfl, s_y, l_y, bb19⟩
        have b19 := belLit0 b18 bb19
        replace s_f := slLit0 s_f bb19
        replace s_g := slLit0 s_g bb19
        replace s_h := slLit0 s_h bb19
        replace s_x := slLit0 s_x bb19
        clear b18 bb19
        obtain ⟨bk_h, of_h, eA_h, -, -⟩ := s_h.int_at (k := 0) (by omega)
        subst eA_h
        have hc_h := s_h.int_cell (k := 0) (by omega)
        rw [Nat.add_zero] at hc_h
        go_wp2_with fail
        refine (pup_any A_f n_f c_f (f) (gi h 0) _ (s_f) (by omega) u1 u2 (cupL f (gi h 0)) (0) (n_f) (cup_yes C_f.out H3.out rfl) ((tab_len _ _).trans C_f.out.len)).mono ?_
        rintro e w20 ⟨A_up, c_up, rfl, s_up, l_up, bb20⟩
        have b20 := belLit0 b19 bb20
        replace s_f := slLit0 s_f bb20
        replace s_g := slLit0 s_g bb20
        replace s_h := slLit0 s_h bb20
        replace s_x := slLit0 s_x bb20
        replace s_y := slLit0 s_y bb20
        clear b19 bb20
        have C_up := Lib.hid (cup_C C_f.out u1 H3.out)
        go_wp2_with fail
        refine (hle_t A_x n_f c_x (convL (f) (h)) A_up n_f c_up (cupL f (gi h 0)) _ (s_x) (s_up) (by omega) (by omega)  (true) (convGrows_up C_f.out C_h.out C_x.out C_up.out)).mono ?_
        rintro e w21 ⟨rfl, bb21⟩
        have b21 := belLit0 b20 bb21
        replace s_f := slLit0 s_f bb21
        replace s_g := slLit0 s_g bb21
        replace s_h := slLit0 s_h bb21
        replace s_x := slLit0 s_x bb21
        replace s_y := slLit0 s_y bb21
        replace s_up := slLit0 s_up bb21
        clear b20 bb21
        clear s_f s_g s_h s_x s_y s_up
        go_wp2_with fail
        go_ret
        exact ⟨rfl, b21⟩
      · have H3 := Lib.hid h3
        clear h3
        go_wp2_with fail
        refine (conv_any A_f n_f c_f (f) A_h n_f c_h (h) _ (s_f) (s_h) (by omega) (by omega)  (convL (f) (h)) (0) (n_f) (conv_yes C_f.out C_h.out H1.out (rfl)) ((tab_len _ _).trans C_f.out.len)).mono ?_
        rintro e w22 ⟨A_x, c_x, rfl, s_x, l_x, bb22⟩
        have b22 := belLit0 b4 bb22
        replace s_f := slLit0 s_f bb22
        replace s_g := slLit0 s_g bb22
        replace s_h := slLit0 s_h bb22
        clear b4 bb22
        have C_x := Lib.hid (conv_C C_f.out C_h.out H1.out)
        go_wp2_with fail
        refine (conv_any A_g n_f c_g (g) A_h n_f c_h (h) _ (s_g) (s_h) (by omega) (by omega)  ([]) (2) (0) (conv_no C_g.out C_h.out H2.out) (rfl)).mono ?_
        rintro e w23 ⟨A_y, c_y, rfl, s_y, l_y, bb23⟩
        have b23 := belLit0 b22 bb23
        replace s_f := slLit0 s_f bb23
        replace s_g := slLit0 s_g bb23
        replace s_h := slLit0 s_h bb23
        replace s_x := slLit0 s_x bb23
        clear b22 bb23
        obtain ⟨bk_h, of_h, eA_h, -, -⟩ := s_h.int_at (k := 0) (by omega)
        subst eA_h
        have hc_h := s_h.int_cell (k := 0) (by omega)
        rw [Nat.add_zero] at hc_h
        go_wp2_with fail
        refine (pup_any A_f n_f c_f (f) (gi h 0) _ (s_f) (by omega) u1 u2 ([]) (2) (0) (cup_no C_f.out H3.out) (rfl)).mono ?_
        rintro e w24 ⟨A_up, c_up, rfl, s_up, l_up, bb24⟩
        have b24 := belLit0 b23 bb24
        replace s_f := slLit0 s_f bb24
        replace s_g := slLit0 s_g bb24
        replace s_h := slLit0 s_h bb24
        replace s_x := slLit0 s_x bb24
        replace s_y := slLit0 s_y bb24
        clear b23 bb24
        clear s_f s_g s_h s_x s_y s_up
        go_wp2_with fail
        go_ret
        exact ⟨rfl, b24⟩
  · have H1 := Lib.hid h1
    clear h1
    by_cases h2 : fits (convL g h) = true
    · have H2 := Lib.hid h2
      clear h2
      by_cases h3 : fits (cupL f (gi h 0)) = true
      · have H3 := Lib.hid h3
        clear h3
        go_wp2_with fail
        refine (conv_any A_f n_f c_f (f) A_h n_f c_h (h) _ (s_f) (s_h) (by omega) (by omega)  ([]) (2) (0) (conv_no C_f.out C_h.out H1.out) (rfl)).mono ?_
        rintro e w25 ⟨A_x, c_x, rfl, s_x, l_x, bb25⟩
        have b25 := belLit0 b4 bb25
        replace s_f := slLit0 s_f bb25
        replace s_g := slLit0 s_g bb25
        replace s_h := slLit0 s_h bb25
        clear b4 bb25
        go_wp2_with fail
        refine (conv_any A_g n_f c_g (g) A_h n_f c_h (h) _ (s_g) (s_h) (by omega) (by omega)  (convL (g) (h)) (0) (n_f) (conv_yes C_g.out C_h.out H2.out (rfl)) ((tab_len _ _).trans C_g.out.len)).mono ?_
        rintro e w26 ⟨A_y, c_y, rfl, s_y, l_y, bb26⟩
        have b26 := belLit0 b25 bb26
        replace s_f := slLit0 s_f bb26
        replace s_g := slLit0 s_g bb26
        replace s_h := slLit0 s_h bb26
        replace s_x := slLit0 s_x bb26
        clear b25 bb26
        have C_y := Lib.hid (conv_C C_g.out C_h.out H2.out)
        obtain ⟨bk_h, of_h, eA_h, -, -⟩ := s_h.int_at (k := 0) (by omega)
        subst eA_h
        have hc_h := s_h.int_cell (k := 0) (by omega)
        rw [Nat.add_zero] at hc_h
        go_wp2_with fail
        refine (pup_any A_f n_f c_f (f) (gi h 0) _ (s_f) (by omega) u1 u2 (cupL f (gi h 0)) (0) (n_f) (cup_yes C_f.out H3.out rfl) ((tab_len _ _).trans C_f.out.len)).mono ?_
        rintro e w27 ⟨A_up, c_up, rfl, s_up, l_up, bb27⟩
        have b27 := belLit0 b26 bb27
        replace s_f := slLit0 s_f bb27
        replace s_g := slLit0 s_g bb27
        replace s_h := slLit0 s_h bb27
        replace s_x := slLit0 s_x bb27
        replace s_y := slLit0 s_y bb27
        clear b26 bb27
        have C_up := Lib.hid (cup_C C_f.out u1 H3.out)
        clear s_f s_g s_h s_x s_y s_up
        go_wp2_with fail
        go_ret
        exact ⟨rfl, b27⟩
      · have H3 := Lib.hid h3
        clear h3
        go_wp2_with fail
        refine (conv_any A_f n_f c_f (f) A_h n_f c_h (h) _ (s_f) (s_h) (by omega) (by omega)  ([]) (2) (0) (conv_no C_f.out C_h.out H1.out) (rfl)).mono ?_
        rintro e w28 ⟨A_x, c_x, rfl, s_x, l_x, bb28⟩
        have b28 := belLit0 b4 bb28
        replace s_f := slLit0 s_f bb28
        replace s_g := slLit0 s_g bb28
        replace s_h := slLit0 s_h bb28
        clear b4 bb28
        go_wp2_with fail
        refine (conv_any A_g n_f c_g (g) A_h n_f c_h (h) _ (s_g) (s_h) (by omega) (by omega)  (convL (g) (h)) (0) (n_f) (conv_yes C_g.out C_h.out H2.out (rfl)) ((tab_len _ _).trans C_g.out.len)).mono ?_
        rintro e w29 ⟨A_y, c_y, rfl, s_y, l_y, bb29⟩
        have b29 := belLit0 b28 bb29
        replace s_f := slLit0 s_f bb29
        replace s_g := slLit0 s_g bb29
        replace s_h := slLit0 s_h bb29
        replace s_x := slLit0 s_x bb29
        clear b28 bb29
        have C_y := Lib.hid (conv_C C_g.out C_h.out H2.out)
        obtain ⟨bk_h, of_h, eA_h, -, -⟩ := s_h.int_at (k := 0) (by omega)
        subst eA_h
        have hc_h := s_h.int_cell (k := 0) (by omega)
        rw [Nat.add_zero] at hc_h
        go_wp2_with fail
        refine (pup_any A_f n_f c_f (f) (gi h 0) _ (s_f) (by omega) u1 u2 ([]) (2) (0) (cup_no C_f.out H3.out) (rfl)).mono ?_
        rintro e w30 ⟨A_up, c_up, rfl, s_up, l_up, bb30⟩
        have b30 := belLit0 b29 bb30
        replace s_f := slLit0 s_f bb30
        replace s_g := slLit0 s_g bb30
        replace s_h := slLit0 s_h bb30
        replace s_x := slLit0 s_x bb30
        replace s_y := slLit0 s_y bb30
        clear b29 bb30
        clear s_f s_g s_h s_x s_y s_up
        go_wp2_with fail
        go_ret
        exact ⟨rfl, b30⟩
    · have H2 := Lib.hid h2
      clear h2
      by_cases h3 : fits (cupL f (gi h 0)) = true
      · have H3 := Lib.hid h3
        clear h3
        go_wp2_with fail
        refine (conv_any A_f n_f c_f (f) A_h n_f c_h (h) _ (s_f) (s_h) (by omega) (by omega)  ([]) (2) (0) (conv_no C_f.out C_h.out H1.out) (rfl)).mono ?_
        rintro e w31 ⟨A_x, c_x, rfl, s_x, l_x, bb31⟩
        have b31 := belLit0 b4 bb31
        replace s_f := slLit0 s_f bb31
        replace s_g := slLit0 s_g bb31
        replace s_h := slLit0 s_h bb31
        clear b4 bb31
        go_wp2_with fail
        refine (conv_any A_g n_f c_g (g) A_h n_f c_h (h) _ (s_g) (s_h) (by omega) (by omega)  ([]) (2) (0) (conv_no C_g.out C_h.out H2.out) (rfl)).mono ?_
        rintro e w32 ⟨A_y, c_y, rfl, s_y, l_y, bb32⟩
        have b32 := belLit0 b31 bb32
        replace s_f := slLit0 s_f bb32
        replace s_g := slLit0 s_g bb32
        replace s_h := slLit0 s_h bb32
        replace s_x := slLit0 s_x bb32
        clear b31 bb32
        obtain ⟨bk_h, of_h, eA_h, -, -⟩ := s_h.int_at (k := 0) (by omega)
        subst eA_h
        have hc_h := s_h.int_cell (k := 0) (by omega)
        rw [Nat.add_zero] at hc_h
        go_wp2_with fail
        refine (pup_any A_f n_f c_f (f) (gi h 0) _ (s_f) (by omega) u1 u2 (cupL f (gi h 0)) (0) (n_f) (cup_yes C_f.out H3.out rfl) ((tab_len _ _).trans C_f.out.len)).mono ?_
        rintro e w33 ⟨A_up, c_up, rfl, s_up, l_up, bb33⟩
        have b33 := belLit0 b32 bb33
        replace s_f := slLit0 s_f bb33
        replace s_g := slLit0 s_g bb33
        replace s_h := slLit0 s_h bb33
        replace s_x := slLit0 s_x bb33
        replace s_y := slLit0 s_y bb33
        clear b32 bb33
        have C_up := Lib.hid (cup_C C_f.out u1 H3.out)
        clear s_f s_g s_h s_x s_y s_up
        go_wp2_with fail
        go_ret
        exact ⟨rfl, b33⟩
      · have H3 := Lib.hid h3
        clear h3
        go_wp2_with fail
        refine (conv_any A_f n_f c_f (f) A_h n_f c_h (h) _ (s_f) (s_h) (by omega) (by omega)  ([]) (2) (0) (conv_no C_f.out C_h.out H1.out) (rfl)).mono ?_
        rintro e w34 ⟨A_x, c_x, rfl, s_x, l_x, bb34⟩
        have b34 := belLit0 b4 bb34
        replace s_f := slLit0 s_f bb34
        replace s_g := slLit0 s_g bb34
        replace s_h := slLit0 s_h bb34
        clear b4 bb34
        go_wp2_with fail
        refine (conv_any A_g n_f c_g (g) A_h n_f c_h (h) _ (s_g) (s_h) (by omega) (by omega)  ([]) (2) (0) (conv_no C_g.out C_h.out H2.out) (rfl)).mono ?_
        rintro e w35 ⟨A_y, c_y, rfl, s_y, l_y, bb35⟩
        have b35 := belLit0 b34 bb35
        replace s_f := slLit0 s_f bb35
        replace s_g := slLit0 s_g bb35
        replace s_h := slLit0 s_h bb35
        replace s_x := slLit0 s_x bb35
        clear b34 bb35
        obtain ⟨bk_h, of_h, eA_h, -, -⟩ := s_h.int_at (k := 0) (by omega)
        subst eA_h
        have hc_h := s_h.int_cell (k := 0) (by omega)
        rw [Nat.add_zero] at hc_h
        go_wp2_with fail
        refine (pup_any A_f n_f c_f (f) (gi h 0) _ (s_f) (by omega) u1 u2 ([]) (2) (0) (cup_no C_f.out H3.out) (rfl)).mono ?_
        rintro e w36 ⟨A_up, c_up, rfl, s_up, l_up, bb36⟩
        have b36 := belLit0 b35 bb36
        replace s_f := slLit0 s_f bb36
        replace s_g := slLit0 s_g bb36
        replace s_h := slLit0 s_h bb36
        replace s_x := slLit0 s_x bb36
        replace s_y := slLit0 s_y bb36
        clear b35 bb36
        clear s_f s_g s_h s_x s_y s_up
        go_wp2_with fail
        go_ret
        exact ⟨rfl, b36⟩
end Go.Proofs.Ytkofgejkicjdoaa
