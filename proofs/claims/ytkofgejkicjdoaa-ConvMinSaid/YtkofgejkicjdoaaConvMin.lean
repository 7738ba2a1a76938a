/- ConvMin: convolution distributes over Min. -/
import Derived.Test.YtkofgejkicjdoaaConvA
import Derived.Test.YtkofgejkicjdoaaLawKit
import Derived.Test.YtkofgejkicjdoaaPointA
set_option linter.unusedVariables false
namespace Go.Proofs.Ytkofgejkicjdoaa
open Go.RowKit
theorem convMin_eq {n : Nat} {f g h : List Int} (hf : IsC n f) (hg : IsC n g) : convL (cminL f g) h = cminL (convL f h) (convL g h) := by
  refine ext_n (n := n) (by rw [convL_len]; exact (cmin_C hf hg).len) (by unfold cminL; rw [tab_len, convL_len]; exact hf.len) fun i hi => ?_
  rw [convL_get (cmin_C hf hg).len hi, cmin_get (by rw [convL_len]; exact hf.len) hi, convL_get hf.len hi, convL_get hg.len hi]
  have m := mn_le (cv (gi f) (gi h) i) (cv (gi g) (gi h) i)
  refine Int.le_antisymm ?_ (le_cv fun s hs => ?_)
  · have h1 := cv_le_cv (f := gi (cminL f g)) (f' := gi f) (g := gi h) (g' := gi h) hi (fun i hi => by rw [cmin_get hf.len hi]; exact (mn_le _ _).1) fun _ _ => Int.le_refl _
    have h2 := cv_le_cv (f := gi (cminL f g)) (f' := gi g) (g := gi h) (g' := gi h) hi (fun i hi => by rw [cmin_get hf.len hi]; exact (mn_le _ _).2.1) fun _ _ => Int.le_refl _
    rcases m.2.2 with e | e <;> rw [e] <;> assumption
  · rw [cmin_get hf.len (by omega)]
    have h1 := cv_le (gi f) (gi h) hs
    have h2 := cv_le (gi g) (gi h) hs
    rcases (mn_le (gi f s) (gi g s)).2.2 with e | e <;> rw [e] <;> omega
theorem convMin_fits {n : Nat} {f g h : List Int} (hf : IsC n f) (hg : IsC n g) (c1 : IsC n (convL f h)) (c2 : IsC n (convL g h)) : fits (convL (cminL f g) h) = true := by
  rw [convMin_eq hf hg]; exact fits_C (cmin_C c1 c2)
set_option maxRecDepth 100000 in
set_option maxHeartbeats 3200000 in
theorem convMin_walk (A_f : Option Addr) (n_f c_f : Nat) (f : List Int) (A_g : Option Addr) (n_g c_g : Nat) (g : List Int) (A_h : Option Addr) (n_h c_h : Nat) (h : List Int) (W : World) (w_f : InInts W A_f n_f c_f f) (w_g : InInts W A_g n_g c_g g) (w_h : InInts W A_h n_h c_h h) :
    Calls Try.prog 5 #[.slice A_f n_f c_f, .slice A_g n_g c_g, .slice A_h n_h c_h] W fun e w' => e = .returned (.bool true) ∧ Below W.heap.size W w' := by
  obtain ⟨s_f, l_f, r_f, _⟩ := w_f
  obtain ⟨s_g, l_g, r_g, _⟩ := w_g
  obtain ⟨s_h, l_h, r_h, _⟩ := w_h
  have b0 := Below.refl W.heap.size W
  go_enter Try.func5, Try.ntmps5
  go_wp2_with fail
  refine (conv_any _ 2 _ [0, 7] _ 2 _ [0, 4] _ (slMore (Sl.built_ _ (ints [0, 7]) 3 _ rfl rfl) _) (Sl.built_ _ (ints [0, 4]) 3 _ (by simp) rfl) (by omega) (by omega)  ([0, 4]) (0) (2) (by decide +kernel) (rfl)).mono ?_
  rintro e w1 ⟨A_t0, c_t0, rfl, s_t0, l_t0, bb1⟩
  have b1 := belLit2 b0 bb1
  replace s_f := slLit2 s_f bb1
  replace s_g := slLit2 s_g bb1
  replace s_h := slLit2 s_h bb1
  clear b0 bb1
  go_wp2_with fail
  refine (equal_t A_t0 2 c_t0 ([0, 4]) _ 2 _ [0, 4] _ (slMore (s_t0) _) (Sl.built_ _ (ints [0, 4]) 3 _ rfl rfl) (by omega) (by omega)  (true) (by decide)).mono ?_
  rintro e w2 ⟨rfl, bb2⟩
  have b2 := belLit1 b1 bb2
  replace s_f := slLit1 s_f bb2
  replace s_g := slLit1 s_g bb2
  replace s_h := slLit1 s_h bb2
  replace s_t0 := slLit1 s_t0 bb2
  clear b1 bb2
  clear s_t0 l_t0
  have hl_f := s_f.int_len
  have hl_g := s_g.int_len
  have hl_h := s_h.int_len
  by_cases hok : (bothB f g && bothB g h) = true
  case neg =>
    have HOK := Lib.hid (Bool.eq_false_iff.2 hok)
    clear hok hl_f hl_g hl_h
    go_wp2_with fail
    refine (hthree_t A_f n_f c_f (f) A_g n_g c_g (g) A_h n_h c_h (h) _ (s_f) (s_g) (s_h) (by omega) (by omega) (by omega)  (false) (HOK.out)).mono ?_
    rintro e w3 ⟨rfl, bb3⟩
    have b3 := belLit0 b2 bb3
    replace s_f := slLit0 s_f bb3
    replace s_g := slLit0 s_g bb3
    replace s_h := slLit0 s_h bb3
    clear b2 bb3
    clear s_f s_g s_h
    go_wp2_with fail
    go_ret
    exact ⟨rfl, b3⟩
  obtain ⟨e1, e2, c_1, c_2, c_3⟩ := three_C hok hl_f hl_g hl_h
  subst e1 e2
  have HOK := Lib.hid hok
  have C_f := Lib.hid c_1
  have t_f := c_1.top
  have C_g := Lib.hid c_2
  have t_g := c_2.top
  have C_h := Lib.hid c_3
  have t_h := c_3.top
  clear hok c_1 c_2 c_3 hl_f hl_g hl_h
  go_wp2_with fail
  refine (hthree_t A_f n_f c_f (f) A_g n_f c_g (g) A_h n_f c_h (h) _ (s_f) (s_g) (s_h) (by omega) (by omega) (by omega)  (true) (HOK.out)).mono ?_
  rintro e w4 ⟨rfl, bb4⟩
  have b4 := belLit0 b2 bb4
  replace s_f := slLit0 s_f bb4
  replace s_g := slLit0 s_g bb4
  replace s_h := slLit0 s_h bb4
  clear b2 bb4
  go_wp2_with fail
  refine (pmin_any A_f n_f c_f (f) A_g n_f c_g (g) _ (s_f) (s_g) (by omega) (by omega)  (cminL (f) (g)) (0) (n_f) (cmin_yes C_f.out C_g.out (rfl)) ((tab_len _ _).trans C_f.out.len)).mono ?_
  rintro e w5 ⟨A_m, c_m, rfl, s_m, l_m, bb5⟩
  have b5 := belLit0 b4 bb5
  replace s_f := slLit0 s_f bb5
  replace s_g := slLit0 s_g bb5
  replace s_h := slLit0 s_h bb5
  clear b4 bb5
  have C_m := Lib.hid (cmin_C C_f.out C_g.out)
  by_cases h1 : fits (convL (cminL f g) h) = true
  · have H1 := Lib.hid h1
    clear h1
    by_cases h2 : fits (convL f h) = true
    · have H2 := Lib.hid h2
      clear h2
      by_cases h3 : fits (convL g h) = true
      · have H3 := Lib.hid h3
        clear h3
        go_wp2_with fail
        refine (conv_any A_m n_f c_m (cminL (f) (g)) A_h n_f c_h (h) _ (s_m) (s_h) (by omega) (by omega)  (convL (cminL (f) (g)) (h)) (0) (n_f) (conv_yes C_m.out C_h.out H1.out (rfl)) ((tab_len _ _).trans C_m.out.len)).mono ?_
        rintro e w6 ⟨A_x, c_x, rfl, s_x, l_x, bb6⟩
        have b6 := belLit0 b5 bb6
        replace s_f := slLit0 s_f bb6
        replace s_g := slLit0 s_g bb6
        replace s_h := slLit0 s_h bb6
        replace s_m := slLit0 s_m bb6
        clear b5 bb6
        go_wp2_with fail
        refine (conv_any A_f n_f c_f (f) A_h n_f c_h (h) _ (s_f) (s_h) (by omega) (by omega)  (convL (f) (h)) (0) (n_f) (conv_yes C_f.out C_h.out H2.out (rfl)) ((tab_len _ _).trans C_f.out.len)).mono ?_
        rintro e w7 ⟨A_p, c_p, rfl, s_p, l_p, bb7⟩
        have b7 := belLit0 b6 bb7
        replace s_f := slLit0 s_f bb7
        replace s_g := slLit0 s_g bb7
        replace s_h := slLit0 s_h bb7
        replace s_m := slLit0 s_m bb7
        replace s_x := slLit0 s_x bb7
        clear b6 bb7
        have C_p := Lib.hid (conv_C C_f.out C_h.out H2.out)
        go_wp2_with fail
        refine (conv_any A_g n_f c_g (g) A_h n_f c_h (h) _ (s_g) (s_h) (by omega) (by omega)  (convL (g) (h)) (0) (n_f) (conv_yes C_g.out C_h.out H3.out (rfl)) ((tab_len _ _).trans C_g.out.len)).mono ?_
        rintro e w8 ⟨A_q, c_q, rfl, s_q, l_q, bb8⟩
        have b8 := belLit0 b7 bb8
        replace s_f := slLit0 s_f bb8
        replace s_g := slLit0 s_g bb8
        replace s_h := slLit0 s_h bb8
        replace s_m := slLit0 s_m bb8
        replace s_x := slLit0 s_x bb8
        replace s_p := slLit0 s_p bb8
        clear b7 bb8
        have C_q := Lib.hid (conv_C C_g.out C_h.out H3.out)
        go_wp2_with fail
        refine (pmin_any A_p n_f c_p (convL (f) (h)) A_q n_f c_q (convL (g) (h)) _ (s_p) (s_q) (by omega) (by omega)  (cminL (convL (f) (h)) (convL (g) (h))) (0) (n_f) (cmin_yes C_p.out C_q.out (rfl)) ((tab_len _ _).trans C_p.out.len)).mono ?_
        rintro e w9 ⟨A_y, c_y, rfl, s_y, l_y, bb9⟩
        have b9 := belLit0 b8 bb9
        replace s_f := slLit0 s_f bb9
        replace s_g := slLit0 s_g bb9
        replace s_h := slLit0 s_h bb9
        replace s_m := slLit0 s_m bb9
        replace s_x := slLit0 s_x bb9
        replace s_p := slLit0 s_p bb9
        replace s_q := slLit0 s_q bb9
        clear b8 bb9
        go_wp2_with fail
        refine (same_t A_x n_f c_x (convL (cminL (f) (g)) (h)) (0) A_y n_f c_y (cminL (convL (f) (h)) (convL (g) (h))) (0) _ (s_x) (s_y) (by omega) (by omega) (.inl rfl) (.inl rfl) (true) (by unfold sameB; simp [convMin_eq C_f.out C_g.out])).mono ?_
        rintro e w10 ⟨rfl, bb10⟩
        have b10 := belLit0 b9 bb10
        replace s_f := slLit0 s_f bb10
        replace s_g := slLit0 s_g bb10
        replace s_h := slLit0 s_h bb10
        replace s_m := slLit0 s_m bb10
        replace s_x := slLit0 s_x bb10
        replace s_p := slLit0 s_p bb10
        replace s_q := slLit0 s_q bb10
        replace s_y := slLit0 s_y bb10
        clear b9 bb10
        clear s_f s_g s_h s_m s_x s_p s_q s_y
        go_wp2_with fail
        go_ret
        exact ⟨rfl, b10⟩
      · have H3 := Lib.hid h3
        clear h3
        go_wp2_with fail
        refine (conv_any A_m n_f c_m (cminL (f) (g)) A_h n_f c_h (h) _ (s_m) (s_h) (by omega) (by omega)  (convL (cminL (f) (g)) (h)) (0) (n_f) (conv_yes C_m.out C_h.out H1.out (rfl)) ((tab_len _ _).trans C_m.out.len)).mono ?_
        rintro e w11 ⟨A_x, c_x, rfl, s_x, l_x, bb11⟩
        have b11 := belLit0 b5 bb11
        replace s_f := slLit0 s_f bb11
        replace s_g := slLit0 s_g bb11
        replace s_h := slLit0 s_h bb11
        replace s_m := slLit0 s_m bb11
        clear b5 bb11
        go_wp2_with fail
        refine (conv_any A_f n_f c_f (f) A_h n_f c_h (h) _ (s_f) (s_h) (by omega) (by omega)  (convL (f) (h)) (0) (n_f) (conv_yes C_f.out C_h.out H2.out (rfl)) ((tab_len _ _).trans C_f.out.len)).mono ?_
        rintro e w12 ⟨A_p, c_p, rfl, s_p, l_p, bb12⟩
        have b12 := belLit0 b11 bb12
        replace s_f := slLit0 s_f bb12
        replace s_g := slLit0 s_g bb12
        replace s_h := slLit0 s_h bb12
        replace s_m := slLit0 s_m bb12
        replace s_x := slLit0 s_x bb12
        clear b11 bb12
        have C_p := Lib.hid (conv_C C_f.out C_h.out H2.out)
        go_wp2_with fail
        refine (conv_any A_g n_f c_g (g) A_h n_f c_h (h) _ (s_g) (s_h) (by omega) (by omega)  ([]) (2) (0) (conv_no C_g.out C_h.out H3.out) (rfl)).mono ?_
        rintro e w13 ⟨A_q, c_q, rfl, s_q, l_q, bb13⟩
        have b13 := belLit0 b12 bb13
        replace s_f := slLit0 s_f bb13
        replace s_g := slLit0 s_g bb13
        replace s_h := slLit0 s_h bb13
        replace s_m := slLit0 s_m bb13
        replace s_x := slLit0 s_x bb13
        replace s_p := slLit0 s_p bb13
        clear b12 bb13
        clear s_f s_g s_h s_m s_x s_p s_q
        go_wp2_with fail
        go_ret
        exact ⟨rfl, b13⟩
    · have H2 := Lib.hid h2
      clear h2
      by_cases h3 : fits (convL g h) = true
      · have H3 := Lib.hid h3
        clear h3
        go_wp2_with fail
        refine (conv_any A_m n_f c_m (cminL (f) (g)) A_h n_f c_h (h) _ (s_m) (s_h) (by omega) (by omega)  (convL (cminL (f) (g)) (h)) (0) (n_f) (conv_yes C_m.out C_h.out H1.out (rfl)) ((tab_len _ _).trans C_m.out.len)).mono ?_
        rintro e w14 ⟨A_x, c_x, rfl, s_x, l_x, bb14⟩
        have b14 := belLit0 b5 bb14
        replace s_f := slLit0 s_f bb14
        replace s_g := slLit0 s_g bb14
        replace s_h := slLit0 s_h bb14
        replace s_m := slLit0 s_m bb14
        clear b5 bb14
        go_wp2_with fail
        refine (conv_any A_f n_f c_f (f) A_h n_f c_h (h) _ (s_f) (s_h) (by omega) (by omega)  ([]) (2) (0) (conv_no C_f.out C_h.out H2.out) (rfl)).mono ?_
        rintro e w15 ⟨A_p, c_p, rfl, s_p, l_p, bb15⟩
        have b15 := belLit0 b14 bb15
        replace s_f := slLit0 s_f bb15
        replace s_g := slLit0 s_g bb15
        replace s_h := slLit0 s_h bb15
        replace s_m := slLit0 s_m bb15
        replace s_x := slLit0 s_x bb15
        clear b14 bb15
        go_wp2_with fail
        refine (conv_any A_g n_f c_g (g) A_h n_f c_h (h) _ (s_g) (s_h) (by omega) (by omega)  (convL (g) (h)) (0) (n_f) (conv_yes C_g.out C_h.out H3.out (rfl)) ((tab_len _ _).trans C_g.out.len)).mono ?_
        rintro e w16 ⟨A_q, c_q, rfl, s_q, l_q, bb16⟩
        have b16 := belLit0 b15 bb16
        replace s_f := slLit0 s_f bb16
        replace s_g := slLit0 s_g bb16
        replace s_h := slLit0 s_h bb16
        replace s_m := slLit0 s_m bb16
        replace s_x := slLit0 s_x bb16
        replace s_p := slLit0 s_p bb16
        clear b15 bb16
        have C_q := Lib.hid (conv_C C_g.out C_h.out H3.out)
        clear s_f s_g s_h s_m s_x s_p s_q
        go_wp2_with fail
        go_ret
        exact ⟨rfl, b16⟩
      · have H3 := Lib.hid h3
        clear h3
        go_wp2_with fail
        refine (conv_any A_m n_f c_m (cminL (f) (g)) A_h n_f c_h (h) _ (s_m) (s_h) (by omega) (by omega)  (convL (cminL (f) (g)) (h)) (0) (n_f) (conv_yes C_m.out C_h.out H1.out (rfl)) ((tab_len _ _).trans C_m.out.len)).mono ?_
        rintro e w17 ⟨A_x, c_x, rfl, s_x, l_x, bb17⟩
        have b17 := belLit0 b5 bb17
        replace s_f := slLit0 s_f bb17
        replace s_g := slLit0 s_g bb17
        replace s_h := slLit0 s_h bb17
        replace s_m := slLit0 s_m bb17
        clear b5 bb17
        go_wp2_with fail
        refine (conv_any A_f n_f c_f (f) A_h n_f c_h (h) _ (s_f) (s_h) (by omega) (by omega)  ([]) (2) (0) (conv_no C_f.out C_h.out H2.out) (rfl)).mono ?_
        rintro e w18 ⟨A_p, c_p, rfl, s_p, l_p, bb18⟩
        have b18 := belLit0 b17 bb18
        replace s_f := slLit0 s_f bb18
        replace s_g := slLit0 s_g bb18
        replace s_h := slLit0 s_h bb18
        replace s_m := slLit0 s_m bb18
        replace s_x := slLit0 s_x bb18
        clear b17 bb18
        go_wp2_with fail
        refine (conv_any A_g n_f c_g (g) A_h n_f c_h (h) _ (s_g) (s_h) (by omega) (by omega)  ([]) (2) (0) (conv_no C_g.out C_h.out H3.out) (rfl)).mono ?_
        rintro e w19 ⟨A_q, c_q, rfl, s_q, l_q, bb19⟩
        have b19 := belLit0 b18 bb19
        replace s_f := slLit0 s_f bb19
        replace s_g := slLit0 s_g bb19
        replace s_h := slLit0 s_h bb19
        replace s_m := slLit0 s_m bb19
        replace s_x := slLit0 s_x bb19
        replace s_p := slLit0 s_p bb19
        clear b18 bb19
        clear s_f s_g s_h s_m s_x s_p s_q
        go_wp2_with fail
        go_ret
        exact ⟨rfl, b19⟩
  · have H1 := Lib.hid h1
    clear h1
    by_cases h2 : fits (convL f h) = true
    · have H2 := Lib.hid h2
      clear h2
      by_cases h3 : fits (convL g h) = true
      · have H3 := Lib.hid h3
        clear h3
        go_wp2_with fail
        refine (conv_any A_m n_f c_m (cminL (f) (g)) A_h n_f c_h (h) _ (s_m) (s_h) (by omega) (by omega)  ([]) (2) (0) (conv_no C_m.out C_h.out H1.out) (rfl)).mono ?_
        rintro e w20 ⟨A_x, c_x, rfl, s_x, l_x, bb20⟩
        have b20 := belLit0 b5 bb20
        replace s_f := slLit0 s_f bb20
        replace s_g := slLit0 s_g bb20
        replace s_h := slLit0 s_h bb20
        replace s_m := slLit0 s_m bb20
        clear b5 bb20
        go_wp2_with fail
        refine (conv_any A_f n_f c_f (f) A_h n_f c_h (h) _ (s_f) (s_h) (by omega) (by omega)  (convL (f) (h)) (0) (n_f) (conv_yes C_f.out C_h.out H2.out (rfl)) ((tab_len _ _).trans C_f.out.len)).mono ?_
        rintro e w21 ⟨A_p, c_p, rfl, s_p, l_p, bb21⟩
        have b21 := belLit0 b20 bb21
        replace s_f := slLit0 s_f bb21
        replace s_g := slLit0 s_g bb21
        replace s_h := slLit0 s_h bb21
        replace s_m := slLit0 s_m bb21
        replace s_x := slLit0 s_x bb21
        clear b20 bb21
        have C_p := Lib.hid (conv_C C_f.out C_h.out H2.out)
        go_wp2_with fail
        refine (conv_any A_g n_f c_g (g) A_h n_f c_h (h) _ (s_g) (s_h) (by omega) (by omega)  (convL (g) (h)) (0) (n_f) (conv_yes C_g.out C_h.out H3.out (rfl)) ((tab_len _ _).trans C_g.out.len)).mono ?_
        rintro e w22 ⟨A_q, c_q, rfl, s_q, l_q, bb22⟩
        have b22 := belLit0 b21 bb22
        replace s_f := slLit0 s_f bb22
        replace s_g := slLit0 s_g bb22
        replace s_h := slLit0 s_h bb22
        replace s_m := slLit0 s_m bb22
        replace s_x := slLit0 s_x bb22
        replace s_p := slLit0 s_p bb22
        clear b21 bb22
        have C_q := Lib.hid (conv_C C_g.out C_h.out H3.out)
        clear s_f s_g s_h s_m s_x s_p s_q
        go_wp2_with fail
        go_ret
        exact ⟨rfl, b22⟩
      · have H3 := Lib.hid h3
        clear h3
        go_wp2_with fail
        refine (conv_any A_m n_f c_m (cminL (f) (g)) A_h n_f c_h (h) _ (s_m) (s_h) (by omega) (by omega)  ([]) (2) (0) (conv_no C_m.out C_h.out H1.out) (rfl)).mono ?_
        rintro e w23 ⟨A_x, c_x, rfl, s_x, l_x, bb23⟩
        have b23 := belLit0 b5 bb23
        replace s_f := slLit0 s_f bb23
        replace s_g := slLit0 s_g bb23
        replace s_h := slLit0 s_h bb23
        replace s_m := slLit0 s_m bb23
        clear b5 bb23
        go_wp2_with fail
        refine (conv_any A_f n_f c_f (f) A_h n_f c_h (h) _ (s_f) (s_h) (by omega) (by omega)  (convL (f) (h)) (0) (n_f) (conv_yes C_f.out C_h.out H2.out (rfl)) ((tab_len _ _).trans C_f.out.len)).mono ?_
        rintro e w24 ⟨A_p, c_p, rfl, s_p, l_p, bb24⟩
        have b24 := belLit0 b23 bb24
        replace s_f := slLit0 s_f bb24
        replace s_g := slLit0 s_g bb24
        replace s_h := slLit0 s_h bb24
        replace s_m := slLit0 s_m bb24
        replace s_x := slLit0 s_x bb24
        clear b23 bb24
        have C_p := Lib.hid (conv_C C_f.out C_h.out H2.out)
        go_wp2_with fail
        refine (conv_any A_g n_f c_g (g) A_h n_f c_h (h) _ (s_g) (s_h) (by omega) (by omega)  ([]) (2) (0) (conv_no C_g.out C_h.out H3.out) (rfl)).mono ?_
        rintro e w25 ⟨A_q, c_q, rfl, s_q, l_q, bb25⟩
        have b25 := belLit0 b24 bb25
        replace s_f := slLit0 s_f bb25
        replace s_g := slLit0 s_g bb25
        replace s_h := slLit0 s_h bb25
        replace s_m := slLit0 s_m bb25
        replace s_x := slLit0 s_x bb25
        replace s_p := slLit0 s_p bb25
        clear b24 bb25
        clear s_f s_g s_h s_m s_x s_p s_q
        go_wp2_with fail
        go_ret
        exact ⟨rfl, b25⟩
    · have H2 := Lib.hid h2
      clear h2
      by_cases h3 : fits (convL g h) = true
      · have H3 := Lib.hid h3
        clear h3
        go_wp2_with fail
        refine (conv_any A_m n_f c_m (cminL (f) (g)) A_h n_f c_h (h) _ (s_m) (s_h) (by omega) (by omega)  ([]) (2) (0) (conv_no C_m.out C_h.out H1.out) (rfl)).mono ?_
        rintro e w26 ⟨A_x, c_x, rfl, s_x, l_x, bb26⟩
        have b26 := belLit0 b5 bb26
        replace s_f := slLit0 s_f bb26
        replace s_g := slLit0 s_g bb26
        replace s_h := slLit0 s_h bb26
        replace s_m := slLit0 s_m bb26
        clear b5 bb26
        go_wp2_with fail
        refine (conv_any A_f n_f c_f (f) A_h n_f c_h (h) _ (s_f) (s_h) (by omega) (by omega)  ([]) (2) (0) (conv_no C_f.out C_h.out H2.out) (rfl)).mono ?_
        rintro e w27 ⟨A_p, c_p, rfl, s_p, l_p, bb27⟩
        have b27 := belLit0 b26 bb27
        replace s_f := slLit0 s_f bb27
        replace s_g := slLit0 s_g bb27
        replace s_h := slLit0 s_h bb27
        replace s_m := slLit0 s_m bb27
        replace s_x := slLit0 s_x bb27
        clear b26 bb27
        go_wp2_with fail
        refine (conv_any A_g n_f c_g (g) A_h n_f c_h (h) _ (s_g) (s_h) (by omega) (by omega)  (convL (g) (h)) (0) (n_f) (conv_yes C_g.out C_h.out H3.out (rfl)) ((tab_len _ _).trans C_g.out.len)).mono ?_
        rintro e w28 ⟨A_q, c_q, rfl, s_q, l_q, bb28⟩
        have b28 := belLit0 b27 bb28
        replace s_f := slLit0 s_f bb28
        replace s_g := slLit0 s_g bb28
        replace s_h := slLit0 s_h bb28
        replace s_m := slLit0 s_m bb28
        replace s_x := slLit0 s_x bb28
        replace s_p := slLit0 s_p bb28
        clear b27 bb28
        have C_q := Lib.hid (conv_C C_g.out C_h.out H3.out)
        clear s_f s_g s_h s_m s_x s_p s_q
        go_wp2_with fail
        go_ret
        exact ⟨rfl, b28⟩
      · have H3 := Lib.hid h3
        clear h3
        go_wp2_with fail
        refine (conv_any A_m n_f c_m (cminL (f) (g)) A_h n_f c_h (h) _ (s_m) (s_h) (by omega) (by omega)  ([]) (2) (0) (conv_no C_m.out C_h.out H1.out) (rfl)).mono ?_
        rintro e w29 ⟨A_x, c_x, rfl, s_x, l_x, bb29⟩
        have b29 := belLit0 b5 bb29
        replace s_f := slLit0 s_f bb29
        replace s_g := slLit0 s_g bb29
        replace s_h := slLit0 s_h bb29
        replace s_m := slLit0 s_m bb29
        clear b5 bb29
        go_wp2_with fail
        refine (conv_any A_f n_f c_f (f) A_h n_f c_h (h) _ (s_f) (s_h) (by omega) (by omega)  ([]) (2) (0) (conv_no C_f.out C_h.out H2.out) (rfl)).mono ?_
        rintro e w30 ⟨A_p, c_p, rfl, s_p, l_p, bb30⟩
        have b30 := belLit0 b29 bb30
        replace s_f := slLit0 s_f bb30
        replace s_g := slLit0 s_g bb30
        replace s_h := slLit0 s_h bb30
        replace s_m := slLit0 s_m bb30
        replace s_x := slLit0 s_x bb30
        clear b29 bb30
        go_wp2_with fail
        refine (conv_any A_g n_f c_g (g) A_h n_f c_h (h) _ (s_g) (s_h) (by omega) (by omega)  ([]) (2) (0) (conv_no C_g.out C_h.out H3.out) (rfl)).mono ?_
        rintro e w31 ⟨A_q, c_q, rfl, s_q, l_q, bb31⟩
        have b31 := belLit0 b30 bb31
        replace s_f := slLit0 s_f bb31
        replace s_g := slLit0 s_g bb31
        replace s_h := slLit0 s_h bb31
        replace s_m := slLit0 s_m bb31
        replace s_x := slLit0 s_x bb31
        replace s_p := slLit0 s_p bb31
        clear b30 bb31
        clear s_f s_g s_h s_m s_x s_p s_q
        go_wp2_with fail
        go_ret
        exact ⟨rfl, b31⟩
end Go.Proofs.Ytkofgejkicjdoaa
