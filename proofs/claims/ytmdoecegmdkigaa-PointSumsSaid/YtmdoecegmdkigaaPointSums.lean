/- PointSums: sums are commutative and associative over Min, and shifts add up. -/
import Derived.Test.YtmdoecegmdkigaaPointA
import Derived.Test.YtmdoecegmdkigaaPointU
import Derived.Test.YtmdoecegmdkigaaCurveQ
import Derived.Test.YtmdoecegmdkigaaLawKit
set_option linter.unusedVariables false
namespace Go.Proofs.Ytmdoecegmdkigaa
open Go.RowKit
theorem sum_comm_ {n : Nat} {f g : List Int} (hf : IsC n f) (hg : IsC n g) : csumL f g = csumL g f := by
  unfold csumL; rw [hf.len, hg.len]; exact tab_congr fun i _ => by omega
theorem sum_min {n : Nat} {f g h : List Int} (hf : IsC n f) (hg : IsC n g) (hh : IsC n h) : csumL f (cminL g h) = cminL (csumL f g) (csumL f h) := by
  have e1 : (csumL f g).length = n := by unfold csumL; rw [tab_len, hf.len]
  refine ext_n (n := n) (by unfold csumL; rw [tab_len, hf.len]) (by unfold cminL; rw [tab_len, e1]) fun i hi => ?_
  rw [csum_get hf.len hi, cmin_get hg.len hi, cmin_get e1 hi, csum_get hf.len hi, csum_get hf.len hi]
  unfold mn; (repeat' split) <;> omega
theorem up_up {n : Nat} {f : List Int} {a b : Int} (hf : IsC n f) : cupL (cupL f a) b = cupL f (a + b) := by
  have e1 : (cupL f a).length = n := by unfold cupL; rw [tab_len, hf.len]
  refine ext_n (n := n) (by unfold cupL; rw [tab_len, tab_len, hf.len]) (by unfold cupL; rw [tab_len, hf.len]) fun i hi => ?_
  rw [cup_get e1 hi, cup_get hf.len hi, cup_get hf.len hi]; omega
set_option maxRecDepth 100000 in
set_option maxHeartbeats 3200000 in
theorem pointSums_walk (A_f : Option Addr) (n_f c_f : Nat) (f : List Int) (A_g : Option Addr) (n_g c_g : Nat) (g : List Int) (A_h : Option Addr) (n_h c_h : Nat) (h : List Int) (m : Int) (k : Int) (W : World) (w_f : InInts W A_f n_f c_f f) (w_g : InInts W A_g n_g c_g g) (w_h : InInts W A_h n_h c_h h) (w_m : -9223372036854775808 ≤ m ∧ m ≤ 9223372036854775807) (w_k : -9223372036854775808 ≤ k ∧ k ≤ 9223372036854775807) :
    Calls Try.prog 13 #[.slice A_f n_f c_f, .slice A_g n_g c_g, .slice A_h n_h c_h, .int .i64 m, .int .i64 k] W fun e w' => e = .returned (.bool true) ∧ Below W.heap.size W w' := by
  obtain ⟨s_f, l_f, r_f, _⟩ := w_f
  obtain ⟨s_g, l_g, r_g, _⟩ := w_g
  obtain ⟨s_h, l_h, r_h, _⟩ := w_h
  have b0 := Below.refl W.heap.size W
  go_enter Try.func13, Try.ntmps13
  go_wp2_with fail
  refine (psum_any _ 2 _ [0, 3] _ 2 _ [1, 2] _ (slMore (Sl.built_ _ (ints [0, 3]) 3 _ rfl rfl) _) (Sl.built_ _ (ints [1, 2]) 3 _ (by simp) rfl) (by omega) (by omega)  ([1, 5]) (0) (2) (by decide +kernel) (rfl)).mono ?_
  rintro e w1 ⟨A_t0, c_t0, rfl, s_t0, l_t0, bb1⟩
  have b1 := belLit2 b0 bb1
  replace s_f := slLit2 s_f bb1
  replace s_g := slLit2 s_g bb1
  replace s_h := slLit2 s_h bb1
  clear b0 bb1
  go_wp2_with fail
  refine (equal_t A_t0 2 c_t0 ([1, 5]) _ 2 _ [1, 5] _ (slMore (s_t0) _) (Sl.built_ _ (ints [1, 5]) 3 _ rfl rfl) (by omega) (by omega)  (true) (by decide)).mono ?_
  rintro e w2 ⟨rfl, bb2⟩
  have b2 := belLit1 b1 bb2
  replace s_f := slLit1 s_f bb2
  replace s_g := slLit1 s_g bb2
  replace s_h := slLit1 s_h bb2
  replace s_t0 := slLit1 s_t0 bb2
  clear b1 bb2
  clear s_t0 l_t0
  have hl_f := s_f.int_len
  have hl_g := s_g.int_len
  have hl_h := s_h.int_len
  by_cases hok : (bothB f g && bothB g h) = true
  case neg =>
    have HOK := Lib.hid (Bool.eq_false_iff.2 hok)
    clear hok hl_f hl_g hl_h
    go_wp2_with fail
    refine (hthree_t A_f n_f c_f (f) A_g n_g c_g (g) A_h n_h c_h (h) _ (s_f) (s_g) (s_h) (by omega) (by omega) (by omega)  (false) (HOK.out)).mono ?_
    rintro e w3 ⟨rfl, bb3⟩
    have b3 := belLit0 b2 bb3
    replace s_f := slLit0 s_f bb3
    replace s_g := slLit0 s_g bb3
    replace s_h := slLit0 s_h bb3
    clear b2 bb3
    clear s_f s_g s_h
    go_wp2_with fail
    go_ret
    exact ⟨rfl, b3⟩
  obtain ⟨e1, e2, c_1, c_2, c_3⟩ := three_C hok hl_f hl_g hl_h
  subst e1 e2
  have HOK := Lib.hid hok
  have C_f := Lib.hid c_1
  have t_f := c_1.top
  have C_g := Lib.hid c_2
  have t_g := c_2.top
  have C_h := Lib.hid c_3
  have t_h := c_3.top
  clear hok c_1 c_2 c_3 hl_f hl_g hl_h
  go_wp2_with fail
  refine (hthree_t A_f n_f c_f (f) A_g n_f c_g (g) A_h n_f c_h (h) _ (s_f) (s_g) (s_h) (by omega) (by omega) (by omega)  (true) (HOK.out)).mono ?_
  rintro e w4 ⟨rfl, bb4⟩
  have b4 := belLit0 b2 bb4
  replace s_f := slLit0 s_f bb4
  replace s_g := slLit0 s_g bb4
  replace s_h := slLit0 s_h bb4
  clear b2 bb4
  by_cases h1 : fits (csumL f g) = true
  · have H1 := Lib.hid h1
    clear h1
    by_cases h2 : fits (csumL f (cminL g h)) = true
    · have H2 := Lib.hid h2
      clear h2
      by_cases h3 : fits (csumL f h) = true
      · have H3 := Lib.hid h3
        clear h3
        have SC := Lib.hid (sum_comm_ C_f.out C_g.out)
        go_wp2_with fail
        refine (psum_any A_f n_f c_f (f) A_g n_f c_g (g) _ (s_f) (s_g) (by omega) (by omega)  (csumL (f) (g)) (0) (n_f) (csum_yes C_f.out C_g.out H1.out (rfl)) ((tab_len _ _).trans C_f.out.len)).mono ?_
        rintro e w5 ⟨A_a, c_a, rfl, s_a, l_a, bb5⟩
        have b5 := belLit0 b4 bb5
        replace s_f := slLit0 s_f bb5
        replace s_g := slLit0 s_g bb5
        replace s_h := slLit0 s_h bb5
        clear b4 bb5
        have C_a := Lib.hid (csum_C C_f.out C_g.out H1.out)
        go_wp2_with fail
        refine (psum_any A_g n_f c_g (g) A_f n_f c_f (f) _ (s_g) (s_f) (by omega) (by omega)  (csumL f g) (0) (n_f) (csum_yes C_g.out C_f.out (by rw [← SC.out]; exact H1.out) SC.out.symm) ((tab_len _ _).trans C_f.out.len)).mono ?_
        rintro e w6 ⟨A_b, c_b, rfl, s_b, l_b, bb6⟩
        have b6 := belLit0 b5 bb6
        replace s_f := slLit0 s_f bb6
        replace s_g := slLit0 s_g bb6
        replace s_h := slLit0 s_h bb6
        replace s_a := slLit0 s_a bb6
        clear b5 bb6
        go_wp2_with fail
        refine (same_t A_a n_f c_a (csumL (f) (g)) (0) A_b n_f c_b (csumL f g) (0) _ (s_a) (s_b) (by omega) (by omega) (.inl rfl) (.inl rfl) (true) (by unfold sameB; simp)).mono ?_
        rintro e w7 ⟨rfl, bb7⟩
        have b7 := belLit0 b6 bb7
        replace s_f := slLit0 s_f bb7
        replace s_g := slLit0 s_g bb7
        replace s_h := slLit0 s_h bb7
        replace s_a := slLit0 s_a bb7
        replace s_b := slLit0 s_b bb7
        clear b6 bb7
        clear s_b l_b
        go_wp2_with fail
        refine (pmin_any A_g n_f c_g (g) A_h n_f c_h (h) _ (s_g) (s_h) (by omega) (by omega)  (cminL (g) (h)) (0) (n_f) (cmin_yes C_g.out C_h.out (rfl)) ((tab_len _ _).trans C_g.out.len)).mono ?_
        rintro e w8 ⟨A_gh, c_gh, rfl, s_gh, l_gh, bb8⟩
        have b8 := belLit0 b7 bb8
        replace s_f := slLit0 s_f bb8
        replace s_g := slLit0 s_g bb8
        replace s_h := slLit0 s_h bb8
        replace s_a := slLit0 s_a bb8
        clear b7 bb8
        have C_gh := Lib.hid (cmin_C C_g.out C_h.out)
        go_wp2_with fail
        refine (psum_any A_f n_f c_f (f) A_gh n_f c_gh (cminL (g) (h)) _ (s_f) (s_gh) (by omega) (by omega)  (csumL (f) (cminL (g) (h))) (0) (n_f) (csum_yes C_f.out C_gh.out H2.out (rfl)) ((tab_len _ _).trans C_f.out.len)).mono ?_
        rintro e w9 ⟨A_x, c_x, rfl, s_x, l_x, bb9⟩
        have b9 := belLit0 b8 bb9
        replace s_f := slLit0 s_f bb9
        replace s_g := slLit0 s_g bb9
        replace s_h := slLit0 s_h bb9
        replace s_a := slLit0 s_a bb9
        replace s_gh := slLit0 s_gh bb9
        clear b8 bb9
        have C_x := Lib.hid (csum_C C_f.out C_gh.out H2.out)
        go_wp2_with fail
        refine (psum_any A_f n_f c_f (f) A_h n_f c_h (h) _ (s_f) (s_h) (by omega) (by omega)  (csumL (f) (h)) (0) (n_f) (csum_yes C_f.out C_h.out H3.out (rfl)) ((tab_len _ _).trans C_f.out.len)).mono ?_
        rintro e w10 ⟨A_fh, c_fh, rfl, s_fh, l_fh, bb10⟩
        have b10 := belLit0 b9 bb10
        replace s_f := slLit0 s_f bb10
        replace s_g := slLit0 s_g bb10
        replace s_h := slLit0 s_h bb10
        replace s_a := slLit0 s_a bb10
        replace s_gh := slLit0 s_gh bb10
        replace s_x := slLit0 s_x bb10
        clear b9 bb10
        have C_fh := Lib.hid (csum_C C_f.out C_h.out H3.out)
        go_wp2_with fail
        refine (pmin_any A_a n_f c_a (csumL (f) (g)) A_fh n_f c_fh (csumL (f) (h)) _ (s_a) (s_fh) (by omega) (by omega)  (cminL (csumL (f) (g)) (csumL (f) (h))) (0) (n_f) (cmin_yes C_a.out C_fh.out (rfl)) ((tab_len _ _).trans C_a.out.len)).mono ?_
        rintro e w11 ⟨A_y, c_y, rfl, s_y, l_y, bb11⟩
        have b11 := belLit0 b10 bb11
        replace s_f := slLit0 s_f bb11
        replace s_g := slLit0 s_g bb11
        replace s_h := slLit0 s_h bb11
        replace s_a := slLit0 s_a bb11
        replace s_gh := slLit0 s_gh bb11
        replace s_x := slLit0 s_x bb11
        replace s_fh := slLit0 s_fh bb11
        clear b10 bb11
        go_wp2_with fail
        refine (same_t A_x n_f c_x (csumL (f) (cminL (g) (h))) (0) A_y n_f c_y (cminL (csumL (f) (g)) (csumL (f) (h))) (0) _ (s_x) (s_y) (by omega) (by omega) (.inl rfl) (.inl rfl) (true) (by unfold sameB; simp [sum_min C_f.out C_g.out C_h.out])).mono ?_
        rintro e w12 ⟨rfl, bb12⟩
        have b12 := belLit0 b11 bb12
        replace s_f := slLit0 s_f bb12
        replace s_g := slLit0 s_g bb12
        replace s_h := slLit0 s_h bb12
        replace s_a := slLit0 s_a bb12
        replace s_gh := slLit0 s_gh bb12
        replace s_x := slLit0 s_x bb12
        replace s_fh := slLit0 s_fh bb12
        replace s_y := slLit0 s_y bb12
        clear b11 bb12
        clear s_y l_y
        clear s_x l_x
        clear s_fh l_fh
        clear s_gh l_gh
        clear s_a l_a
        go_wp2_with fail
        refine (within_t (m) (1000) _   (by omega) (by omega) (within m 1000) (rfl)).mono ?_
        rintro e w13 ⟨rfl, rfl⟩
        go_wp2_with fail
        refine (within_t (k) (1000) _   (by omega) (by omega) (within k 1000) (rfl)).mono ?_
        rintro e w14 ⟨rfl, rfl⟩
        have m1 := within_lo m 1000 (by omega)
        have m2 := within_hi m 1000 (by omega)
        have k1 := within_lo k 1000 (by omega)
        have k2 := within_hi k 1000 (by omega)
        generalize within m 1000 = a at *
        generalize within k 1000 = b at *
        by_cases h8 : fits (cupL f a) = true
        · have H8 := Lib.hid h8
          clear h8
          go_wp2_with fail
          refine (pup_any A_f n_f c_f (f) (a) _ (s_f) (by omega) m1 (by omega) (cupL f a) (0) (n_f) (cup_yes C_f.out H8.out rfl) ((tab_len _ _).trans C_f.out.len)).mono ?_
          rintro e w15 ⟨A_p, c_p, rfl, s_p, l_p, bb15⟩
          have b15 := belLit0 b12 bb15
          replace s_f := slLit0 s_f bb15
          replace s_g := slLit0 s_g bb15
          replace s_h := slLit0 s_h bb15
          clear b12 bb15
          have C_p := Lib.hid (cup_C C_f.out m1 H8.out)
          by_cases h9 : fits (cupL f (a + b)) = true
          · have H9 := Lib.hid h9
            clear h9
            go_wp2_with fail
            refine (pup_any A_p n_f c_p (cupL f a) (b) _ (s_p) (by omega) k1 (by omega) (cupL f (a + b)) (0) (n_f) (cup_yes C_p.out (by rw [up_up C_f.out]; exact H9.out) (up_up C_f.out)) ((tab_len _ _).trans C_f.out.len)).mono ?_
            rintro e w16 ⟨A_q, c_q, rfl, s_q, l_q, bb16⟩
            have b16 := belLit0 b15 bb16
            replace s_f := slLit0 s_f bb16
            replace s_g := slLit0 s_g bb16
            replace s_h := slLit0 s_h bb16
            replace s_p := slLit0 s_p bb16
            clear b15 bb16
            go_wp2_with fail
            refine (pup_any A_f n_f c_f (f) (a + b) _ (s_f) (by omega) (by omega) (by omega) (cupL f (a + b)) (0) (n_f) (cup_yes C_f.out H9.out rfl) ((tab_len _ _).trans C_f.out.len)).mono ?_
            rintro e w17 ⟨A_r, c_r, rfl, s_r, l_r, bb17⟩
            have b17 := belLit0 b16 bb17
            replace s_f := slLit0 s_f bb17
            replace s_g := slLit0 s_g bb17
            replace s_h := slLit0 s_h bb17
            replace s_p := slLit0 s_p bb17
            replace s_q := slLit0 s_q bb17
            clear b16 bb17
            go_wp2_with fail
            refine (same_t A_q n_f c_q (cupL f (a + b)) (0) A_r n_f c_r (cupL f (a + b)) (0) _ (s_q) (s_r) (by omega) (by omega) (.inl rfl) (.inl rfl) (true) (by unfold sameB; simp)).mono ?_
            rintro e w18 ⟨rfl, bb18⟩
            have b18 := belLit0 b17 bb18
            replace s_f := slLit0 s_f bb18
            replace s_g := slLit0 s_g bb18
            replace s_h := slLit0 s_h bb18
            replace s_p := slLit0 s_p bb18
            replace s_q := slLit0 s_q bb18
            replace s_r := slLit0 s_r bb18
            clear b17 bb18
            clear s_f s_g s_h s_p s_q s_r
            go_wp2_with fail
            go_ret
            exact ⟨rfl, b18⟩
          · have H9 := Lib.hid h9
            clear h9
            go_wp2_with fail
            refine (pup_any A_p n_f c_p (cupL f a) (b) _ (s_p) (by omega) k1 (by omega) ([]) (2) (0) (cup_no C_p.out (by rw [up_up C_f.out]; exact H9.out)) (rfl)).mono ?_
            rintro e w19 ⟨A_q, c_q, rfl, s_q, l_q, bb19⟩
            have b19 := belLit0 b15 bb19
            replace s_f := slLit0 s_f bb19
            replace s_g := slLit0 s_g bb19
            replace s_h := slLit0 s_h bb19
            replace s_p := slLit0 s_p bb19
            clear b15 bb19
            go_wp2_with fail
            refine (pup_any A_f n_f c_f (f) (a + b) _ (s_f) (by omega) (by omega) (by omega) ([]) (2) (0) (cup_no C_f.out H9.out) (rfl)).mono ?_
            rintro e w20 ⟨A_r, c_r, rfl, s_r, l_r, bb20⟩
            have b20 := belLit0 b19 bb20
            replace s_f := slLit0 s_f bb20
            replace s_g := slLit0 s_g bb20
            replace s_h := slLit0 s_h bb20
            replace s_p := slLit0 s_p bb20
            replace s_q := slLit0 s_q bb20
            clear b19 bb20
            go_wp2_with fail
            refine (same_t A_q 0 c_q ([]) (2) A_r 0 c_r ([]) (2) _ (s_q) (s_r) (by omega) (by omega) (.inr rfl) (.inr rfl) (true) (rfl)).mono ?_
            rintro e w21 ⟨rfl, bb21⟩
            have b21 := belLit0 b20 bb21
            replace s_f := slLit0 s_f bb21
            replace s_g := slLit0 s_g bb21
            replace s_h := slLit0 s_h bb21
            replace s_p := slLit0 s_p bb21
            replace s_q := slLit0 s_q bb21
            replace s_r := slLit0 s_r bb21
            clear b20 bb21
            clear s_f s_g s_h s_p s_q s_r
            go_wp2_with fail
            go_ret
            exact ⟨rfl, b21⟩
        · have H8 := Lib.hid h8
          clear h8
          go_wp2_with fail
          refine (pup_any A_f n_f c_f (f) (a) _ (s_f) (by omega) m1 (by omega) ([]) (2) (0) (cup_no C_f.out H8.out) (rfl)).mono ?_
          rintro e w22 ⟨A_p, c_p, rfl, s_p, l_p, bb22⟩
          have b22 := belLit0 b12 bb22
          replace s_f := slLit0 s_f bb22
          replace s_g := slLit0 s_g bb22
          replace s_h := slLit0 s_h bb22
          clear b12 bb22
          clear s_f s_g s_h s_p
          go_wp2_with fail
          go_ret
          exact ⟨rfl, b22⟩
      · have H3 := Lib.hid h3
        clear h3
        have SC := Lib.hid (sum_comm_ C_f.out C_g.out)
        go_wp2_with fail
        refine (psum_any A_f n_f c_f (f) A_g n_f c_g (g) _ (s_f) (s_g) (by omega) (by omega)  (csumL (f) (g)) (0) (n_f) (csum_yes C_f.out C_g.out H1.out (rfl)) ((tab_len _ _).trans C_f.out.len)).mono ?_
        rintro e w23 ⟨A_a, c_a, rfl, s_a, l_a, bb23⟩
        have b23 := belLit0 b4 bb23
        replace s_f := slLit0 s_f bb23
        replace s_g := slLit0 s_g bb23
        replace s_h := slLit0 s_h bb23
        clear b4 bb23
        have C_a := Lib.hid (csum_C C_f.out C_g.out H1.out)
        go_wp2_with fail
        refine (psum_any A_g n_f c_g (g) A_f n_f c_f (f) _ (s_g) (s_f) (by omega) (by omega)  (csumL f g) (0) (n_f) (csum_yes C_g.out C_f.out (by rw [← SC.out]; exact H1.out) SC.out.symm) ((tab_len _ _).trans C_f.out.len)).mono ?_
        rintro e w24 ⟨A_b, c_b, rfl, s_b, l_b, bb24⟩
        have b24 := belLit0 b23 bb24
        replace s_f := slLit0 s_f bb24
        replace s_g := slLit0 s_g bb24
        replace s_h := slLit0 s_h bb24
        replace s_a := slLit0 s_a bb24
        clear b23 bb24
        go_wp2_with fail
        refine (same_t A_a n_f c_a (csumL (f) (g)) (0) A_b n_f c_b (csumL f g) (0) _ (s_a) (s_b) (by omega) (by omega) (.inl rfl) (.inl rfl) (true) (by unfold sameB; simp)).mono ?_
        rintro e w25 ⟨rfl, bb25⟩
        have b25 := belLit0 b24 bb25
        replace s_f := slLit0 s_f bb25
        replace s_g := slLit0 s_g bb25
        replace s_h := slLit0 s_h bb25
        replace s_a := slLit0 s_a bb25
        replace s_b := slLit0 s_b bb25
        clear b24 bb25
        clear s_b l_b
        go_wp2_with fail
        refine (pmin_any A_g n_f c_g (g) A_h n_f c_h (h) _ (s_g) (s_h) (by omega) (by omega)  (cminL (g) (h)) (0) (n_f) (cmin_yes C_g.out C_h.out (rfl)) ((tab_len _ _).trans C_g.out.len)).mono ?_
        rintro e w26 ⟨A_gh, c_gh, rfl, s_gh, l_gh, bb26⟩
        have b26 := belLit0 b25 bb26
        replace s_f := slLit0 s_f bb26
        replace s_g := slLit0 s_g bb26
        replace s_h := slLit0 s_h bb26
        replace s_a := slLit0 s_a bb26
        clear b25 bb26
        have C_gh := Lib.hid (cmin_C C_g.out C_h.out)
        go_wp2_with fail
        refine (psum_any A_f n_f c_f (f) A_gh n_f c_gh (cminL (g) (h)) _ (s_f) (s_gh) (by omega) (by omega)  (csumL (f) (cminL (g) (h))) (0) (n_f) (csum_yes C_f.out C_gh.out H2.out (rfl)) ((tab_len _ _).trans C_f.out.len)).mono ?_
        rintro e w27 ⟨A_x, c_x, rfl, s_x, l_x, bb27⟩
        have b27 := belLit0 b26 bb27
        replace s_f := slLit0 s_f bb27
        replace s_g := slLit0 s_g bb27
        replace s_h := slLit0 s_h bb27
        replace s_a := slLit0 s_a bb27
        replace s_gh := slLit0 s_gh bb27
        clear b26 bb27
        have C_x := Lib.hid (csum_C C_f.out C_gh.out H2.out)
        go_wp2_with fail
        refine (psum_any A_f n_f c_f (f) A_h n_f c_h (h) _ (s_f) (s_h) (by omega) (by omega)  ([]) (2) (0) (csum_no C_f.out C_h.out H3.out) (rfl)).mono ?_
        rintro e w28 ⟨A_fh, c_fh, rfl, s_fh, l_fh, bb28⟩
        have b28 := belLit0 b27 bb28
        replace s_f := slLit0 s_f bb28
        replace s_g := slLit0 s_g bb28
        replace s_h := slLit0 s_h bb28
        replace s_a := slLit0 s_a bb28
        replace s_gh := slLit0 s_gh bb28
        replace s_x := slLit0 s_x bb28
        clear b27 bb28
        clear s_x l_x
        clear s_fh l_fh
        clear s_gh l_gh
        clear s_a l_a
        go_wp2_with fail
        refine (within_t (m) (1000) _   (by omega) (by omega) (within m 1000) (rfl)).mono ?_
        rintro e w29 ⟨rfl, rfl⟩
        go_wp2_with fail
        refine (within_t (k) (1000) _   (by omega) (by omega) (within k 1000) (rfl)).mono ?_
        rintro e w30 ⟨rfl, rfl⟩
        have m1 := within_lo m 1000 (by omega)
        have m2 := within_hi m 1000 (by omega)
        have k1 := within_lo k 1000 (by omega)
        have k2 := within_hi k 1000 (by omega)
        generalize within m 1000 = a at *
        generalize within k 1000 = b at *
        by_cases h8 : fits (cupL f a) = true
        · have H8 := Lib.hid h8
          clear h8
          go_wp2_with fail
          refine (pup_any A_f n_f c_f (f) (a) _ (s_f) (by omega) m1 (by omega) (cupL f a) (0) (n_f) (cup_yes C_f.out H8.out rfl) ((tab_len _ _).trans C_f.out.len)).mono ?_
          rintro e w31 ⟨A_p, c_p, rfl, s_p, l_p, bb31⟩
          have b31 := belLit0 b28 bb31
          replace s_f := slLit0 s_f bb31
          replace s_g := slLit0 s_g bb31
          replace s_h := slLit0 s_h bb31
          clear b28 bb31
          have C_p := Lib.hid (cup_C C_f.out m1 H8.out)
          by_cases h9 : fits (cupL f (a + b)) = true
          · have H9 := Lib.hid h9
            clear h9
            go_wp2_with fail
            refine (pup_any A_p n_f c_p (cupL f a) (b) _ (s_p) (by omega) k1 (by omega) (cupL f (a + b)) (0) (n_f) (cup_yes C_p.out (by rw [up_up C_f.out]; exact H9.out) (up_up C_f.out)) ((tab_len _ _).trans C_f.out.len)).mono ?_
            rintro e w32 ⟨A_q, c_q, rfl, s_q, l_q, bb32⟩
            have b32 := belLit0 b31 bb32
            replace s_f := slLit0 s_f bb32
            replace s_g := slLit0 s_g bb32
            replace s_h := slLit0 s_h bb32
            replace s_p := slLit0 s_p bb32
            clear b31 bb32
            go_wp2_with fail
            refine (pup_any A_f n_f c_f (f) (a + b) _ (s_f) (by omega) (by omega) (by omega) (cupL f (a + b)) (0) (n_f) (cup_yes C_f.out H9.out rfl) ((tab_len _ _).trans C_f.out.len)).mono ?_
            rintro e w33 ⟨A_r, c_r, rfl, s_r, l_r, bb33⟩
            have b33 := belLit0 b32 bb33
            replace s_f := slLit0 s_f bb33
            replace s_g := slLit0 s_g bb33
            replace s_h := slLit0 s_h bb33
            replace s_p := slLit0 s_p bb33
            replace s_q := slLit0 s_q bb33
            clear b32 bb33
            go_wp2_with fail
            refine (same_t A_q n_f c_q (cupL f (a + b)) (0) A_r n_f c_r (cupL f (a + b)) (0) _ (s_q) (s_r) (by omega) (by omega) (.inl rfl) (.inl rfl) (true) (by unfold sameB; simp)).mono ?_
            rintro e w34 ⟨rfl, bb34⟩
            have b34 := belLit0 b33 bb34
            replace s_f := slLit0 s_f bb34
            replace s_g := slLit0 s_g bb34
            replace s_h := slLit0 s_h bb34
            replace s_p := slLit0 s_p bb34
            replace s_q := slLit0 s_q bb34
            replace s_r := slLit0 s_r bb34
            clear b33 bb34
            clear s_f s_g s_h s_p s_q s_r
            go_wp2_with fail
            go_ret
            exact ⟨rfl, b34⟩
          · have H9 := Lib.hid h9
            clear h9
            go_wp2_with fail
            refine (pup_any A_p n_f c_p (cupL f a) (b) _ (s_p) (by omega) k1 (by omega) ([]) (2) (0) (cup_no C_p.out (by rw [up_up C_f.out]; exact H9.out)) (rfl)).mono ?_
            rintro e w35 ⟨A_q, c_q, rfl, s_q, l_q, bb35⟩
            have b35 := belLit0 b31 bb35
            replace s_f := slLit0 s_f bb35
            replace s_g := slLit0 s_g bb35
            replace s_h := slLit0 s_h bb35
            replace s_p := slLit0 s_p bb35
            clear b31 bb35
            go_wp2_with fail
            refine (pup_any A_f n_f c_f (f) (a + b) _ (s_f) (by omega) (by omega) (by omega) ([]) (2) (0) (cup_no C_f.out H9.out) (rfl)).mono ?_
            rintro e w36 ⟨A_r, c_r, rfl, s_r, l_r, bb36⟩
            have b36 := belLit0 b35 bb36
            replace s_f := slLit0 s_f bb36
            replace s_g := slLit0 s_g bb36
            replace s_h := slLit0 s_h bb36
            replace s_p := slLit0 s_p bb36
            replace s_q := slLit0 s_q bb36
            clear b35 bb36
            go_wp2_with fail
            refine (same_t A_q 0 c_q ([]) (2) A_r 0 c_r ([]) (2) _ (s_q) (s_r) (by omega) (by omega) (.inr rfl) (.inr rfl) (true) (rfl)).mono ?_
            rintro e w37 ⟨rfl, bb37⟩
            have b37 := belLit0 b36 bb37
            replace s_f := slLit0 s_f bb37
            replace s_g := slLit0 s_g bb37
            replace s_h := slLit0 s_h bb37
            replace s_p := slLit0 s_p bb37
            replace s_q := slLit0 s_q bb37
            replace s_r := slLit0 s_r bb37
            clear b36 bb37
            clear s_f s_g s_h s_p s_q s_r
            go_wp2_with fail
            go_ret
            exact ⟨rfl, b37⟩
        · have H8 := Lib.hid h8
          clear h8
          go_wp2_with fail
          refine (pup_any A_f n_f c_f (f) (a) _ (s_f) (by omega) m1 (by omega) ([]) (2) (0) (cup_no C_f.out H8.out) (rfl)).mono ?_
          rintro e w38 ⟨A_p, c_p, rfl, s_p, l_p, bb38⟩
          have b38 := belLit0 b28 bb38
          replace s_f := slLit0 s_f bb38
          replace s_g := slLit0 s_g bb38
          replace s_h := slLit0 s_h bb38
          clear b28 bb38
          clear s_f s_g s_h s_p
          go_wp2_with fail
          go_ret
          exact ⟨rfl, b38⟩
    · have H2 := Lib.hid h2
      clear h2
      by_cases h3 : fits (csumL f h) = true
      · have H3 := Lib.hid h3
        clear h3
        have SC := Lib.hid (sum_comm_ C_f.out C_g.out)
        go_wp2_with fail
        refine (psum_any A_f n_f c_f (f) A_g n_f c_g (g) _ (s_f) (s_g) (by omega) (by omega)  (csumL (f) (g)) (0) (n_f) (csum_yes C_f.out C_g.out H1.out (rfl)) ((tab_len _ _).trans C_f.out.len)).mono ?_
        rintro e w39 ⟨A_a, c_a, rfl, s_a, l_a, bb39⟩
        have b39 := belLit0 b4 bb39
        replace s_f := slLit0 s_f bb39
        replace s_g := slLit0 s_g bb39
        replace s_h := slLit0 s_h bb39
        clear b4 bb39
        have C_a := Lib.hid (csum_C C_f.out C_g.out H1.out)
        go_wp2_with fail
        refine (psum_any A_g n_f c_g (g) A_f n_f c_f (f) _ (s_g) (s_f) (by omega) (by omega)  (csumL f g) (0) (n_f) (csum_yes C_g.out C_f.out (by rw [← SC.out]; exact H1.out) SC.out.symm) ((tab_len _ _).trans C_f.out.len)).mono ?_
        rintro e w40 ⟨A_b, c_b, rfl, s_b, l_b, bb40⟩
        have b40 := belLit0 b39 bb40
        replace s_f := slLit0 s_f bb40
        replace s_g := slLit0 s_g bb40
        replace s_h := slLit0 s_h bb40
        replace s_a := slLit0 s_a bb40
        clear b39 bb40
        go_wp2_with fail
        refine (same_t A_a n_f c_a (csumL (f) (g)) (0) A_b n_f c_b (csumL f g) (0) _ (s_a) (s_b) (by omega) (by omega) (.inl rfl) (.inl rfl) (true) (by unfold sameB; simp)).mono ?_
        rintro e w41 ⟨rfl, bb41⟩
        have b41 := belLit0 b40 bb41
        replace s_f := slLit0 s_f bb41
        replace s_g := slLit0 s_g bb41
        replace s_h := slLit0 s_h bb41
        replace s_a := slLit0 s_a bb41
        replace s_b := slLit0 s_b bb41
        clear b40 bb41
        clear s_b l_b
        go_wp2_with fail
        refine (pmin_any A_g n_f c_g (g) A_h n_f c_h (h) _ (s_g) (s_h) (by omega) (by omega)  (cminL (g) (h)) (0) (n_f) (cmin_yes C_g.out C_h.out (rfl)) ((tab_len _ _).trans C_g.out.len)).mono ?_
        rintro e w42 ⟨A_gh, c_gh, rfl, s_gh, l_gh, bb42⟩
        have b42 := belLit0 b41 bb42
        replace s_f := slLit0 s_f bb42
        replace s_g := slLit0 s_g bb42
        replace s_h := slLit0 s_h bb42
        replace s_a := slLit0 s_a bb42
        clear b41 bb42
        have C_gh := Lib.hid (cmin_C C_g.out C_h.out)
        go_wp2_with fail
        refine (psum_any A_f n_f c_f (f) A_gh n_f c_gh (cminL (g) (h)) _ (s_f) (s_gh) (by omega) (by omega)  ([]) (2) (0) (csum_no C_f.out C_gh.out H2.out) (rfl)).mono ?_
        rintro e w43 ⟨A_x, c_x, rfl, s_x, l_x, bb43⟩
        have b43 := belLit0 b42 bb43
        replace s_f := slLit0 s_f bb43
        replace s_g := slLit0 s_g bb43
        replace s_h := slLit0 s_h bb43
        replace s_a := slLit0 s_a bb43
        replace s_gh := slLit0 s_gh bb43
        clear b42 bb43
        go_wp2_with fail
        refine (psum_any A_f n_f c_f (f) A_h n_f c_h (h) _ (s_f) (s_h) (by omega) (by omega)  (csumL (f) (h)) (0) (n_f) (csum_yes C_f.out C_h.out H3.out (rfl)) ((tab_len _ _).trans C_f.out.len)).mono ?_
        rintro e w44 ⟨A_fh, c_fh, rfl, s_fh, l_fh, bb44⟩
        have b44 := belLit0 b43 bb44
        replace s_f := slLit0 s_f bb44
        replace s_g := slLit0 s_g bb44
        replace s_h := slLit0 s_h bb44
        replace s_a := slLit0 s_a bb44
        replace s_gh := slLit0 s_gh bb44
        replace s_x := slLit0 s_x bb44
        clear b43 bb44
        have C_fh := Lib.hid (csum_C C_f.out C_h.out H3.out)
        go_wp2_with fail
        refine (pmin_any A_a n_f c_a (csumL (f) (g)) A_fh n_f c_fh (csumL (f) (h)) _ (s_a) (s_fh) (by omega) (by omega)  (cminL (csumL (f) (g)) (csumL (f) (h))) (0) (n_f) (cmin_yes C_a.out C_fh.out (rfl)) ((tab_len _ _).trans C_a.out.len)).mono ?_
        rintro e w45 ⟨A_y, c_y, rfl, s_y, l_y, bb45⟩
        have b45 := belLit0 b44 bb45
        replace s_f := slLit0 s_f bb45
        replace s_g := slLit0 s_g bb45
        replace s_h := slLit0 s_h bb45
        replace s_a := slLit0 s_a bb45
        replace s_gh := slLit0 s_gh bb45
        replace s_x := slLit0 s_x bb45
        replace s_fh := slLit0 s_fh bb45
        clear b44 bb45
        go_wp2_with fail
        refine (same_t A_x 0 c_x ([]) (2) A_y n_f c_y (cminL (csumL (f) (g)) (csumL (f) (h))) (0) _ (s_x) (s_y) (by omega) (by omega) (.inr rfl) (.inl rfl) (true) (rfl)).mono ?_
        rintro e w46 ⟨rfl, bb46⟩
        have b46 := belLit0 b45 bb46
        replace s_f := slLit0 s_f bb46
        replace s_g := slLit0 s_g bb46
        replace s_h := slLit0 s_h bb46
        replace s_a := slLit0 s_a bb46
        replace s_gh := slLit0 s_gh bb46
        replace s_x := slLit0 s_x bb46
        replace s_fh := slLit0 s_fh bb46
        replace s_y := slLit0 s_y bb46
        clear b45 bb46
        clear s_y l_y
        clear s_x l_x
        clear s_fh l_fh
        clear s_gh l_gh
        clear s_a l_a
        go_wp2_with fail
        refine (within_t (m) (1000) _   (by omega) (by omega) (within m 1000) (rfl)).mono ?_
        rintro e w47 ⟨rfl, rfl⟩
        go_wp2_with fail
        refine (within_t (k) (1000) _   (by omega) (by omega) (within k 1000) (rfl)).mono ?_
        rintro e w48 ⟨rfl, rfl⟩
        have m1 := within_lo m 1000 (by omega)
        have m2 := within_hi m 1000 (by omega)
        have k1 := within_lo k 1000 (by omega)
        have k2 := within_hi k 1000 (by omega)
        generalize within m 1000 = a at *
        generalize within k 1000 = b at *
        by_cases h8 : fits (cupL f a) = true
        · have H8 := Lib.hid h8
          clear h8
          go_wp2_with fail
          refine (pup_any A_f n_f c_f (f) (a) _ (s_f) (by omega) m1 (by omega) (cupL f a) (0) (n_f) (cup_yes C_f.out H8.out rfl) ((tab_len _ _).trans C_f.out.len)).mono ?_
          rintro e w49 ⟨A_p, c_p, rfl, s_p, l_p, bb49⟩
          have b49 := belLit0 b46 bb49
          replace s_f := slLit0 s_f bb49
          replace s_g := slLit0 s_g bb49
          replace s_h := slLit0 s_h bb49
          clear b46 bb49
          have C_p := Lib.hid (cup_C C_f.out m1 H8.out)
          by_cases h9 : fits (cupL f (a + b)) = true
          · have H9 := Lib.hid h9
            clear h9
            go_wp2_with fail
            refine (pup_any A_p n_f c_p (cupL f a) (b) _ (s_p) (by omega) k1 (by omega) (cupL f (a + b)) (0) (n_f) (cup_yes C_p.out (by rw [up_up C_f.out]; exact H9.out) (up_up C_f.out)) ((tab_len _ _).trans C_f.out.len)).mono ?_
            rintro e w50 ⟨A_q, c_q, rfl, s_q, l_q, bb50⟩
            have b50 := belLit0 b49 bb50
            replace s_f := slLit0 s_f bb50
            replace s_g := slLit0 s_g bb50
            replace s_h := slLit0 s_h bb50
            replace s_p := slLit0 s_p bb50
            clear b49 bb50
            go_wp2_with fail
            refine (pup_any A_f n_f c_f (f) (a + b) _ (s_f) (by omega) (by omega) (by omega) (cupL f (a + b)) (0) (n_f) (cup_yes C_f.out H9.out rfl) ((tab_len _ _).trans C_f.out.len)).mono ?_
            rintro e w51 ⟨A_r, c_r, rfl, s_r, l_r, bb51⟩
            have b51 := belLit0 b50 bb51
            replace s_f := slLit0 s_f bb51
            replace s_g := slLit0 s_g bb51
            replace s_h := slLit0 s_h bb51
            replace s_p := slLit0 s_p bb51
            replace s_q := slLit0 s_q bb51
            clear b50 bb51
            go_wp2_with fail
            refine (same_t A_q n_f c_q (cupL f (a + b)) (0) A_r n_f c_r (cupL f (a + b)) (0) _ (s_q) (s_r) (by omega) (by omega) (.inl rfl) (.inl rfl) (true) (by unfold sameB; simp)).mono ?_
            rintro e w52 ⟨rfl, bb52⟩
            have b52 := belLit0 b51 bb52
            replace s_f := slLit0 s_f bb52
            replace s_g := slLit0 s_g bb52
            replace s_h := slLit0 s_h bb52
            replace s_p := slLit0 s_p bb52
            replace s_q := slLit0 s_q bb52
            replace s_r := slLit0 s_r bb52
            clear b51 bb52
            clear s_f s_g s_h s_p s_q s_r
            go_wp2_with fail
            go_ret
            exact ⟨rfl, b52⟩
          · have H9 := Lib.hid h9
            clear h9
            go_wp2_with fail
            refine (pup_any A_p n_f c_p (cupL f a) (b) _ (s_p) (by omega) k1 (by omega) ([]) (2) (0) (cup_no C_p.out (by rw [up_up C_f.out]; exact H9.out)) (rfl)).mono ?_
            rintro e w53 ⟨A_q, c_q, rfl, s_q, l_q, bb53⟩
            have b53 := belLit0 b49 bb53
            replace s_f := slLit0 s_f bb53
            replace s_g := slLit0 s_g bb53
            replace s_h := slLit0 s_h bb53
            replace s_p := slLit0 s_p bb53
            clear b49 bb53
            go_wp2_with fail
            refine (pup_any A_f n_f c_f (f) (a + b) _ (s_f) (by omega) (by omega) (by omega) ([]) (2) (0) (cup_no C_f.out H9.out) (rfl)).mono ?_
            rintro e w54 ⟨A_r, c_r, rfl, s_r, l_r, bb54⟩
            have b54 := belLit0 b53 bb54
            replace s_f := slLit0 s_f bb54
            replace s_g := slLit0 s_g bb54
            replace s_h := slLit0 s_h bb54
            replace s_p := slLit0 s_p bb54
            replace s_q := slLit0 s_q bb54
            clear b53 bb54
            go_wp2_with fail
            refine (same_t A_q 0 c_q ([]) (2) A_r 0 c_r ([]) (2) _ (s_q) (s_r) (by omega) (by omega) (.inr rfl) (.inr rfl) (true) (rfl)).mono ?_
            rintro e w55 ⟨rfl, bb55⟩
            have b55 := belLit0 b54 bb55
            replace s_f := slLit0 s_f bb55
            replace s_g := slLit0 s_g bb55
            replace s_h := slLit0 s_h bb55
            replace s_p := slLit0 s_p bb55
            replace s_q := slLit0 s_q bb55
            replace s_r := slLit0 s_r bb55
            clear b54 bb55
            clear s_f s_g s_h s_p s_q s_r
            go_wp2_with fail
            go_ret
            exact ⟨rfl, b55⟩
        · have H8 := Lib.hid h8
          clear h8
          go_wp2_with fail
          refine (pup_any A_f n_f c_f (f) (a) _ (s_f) (by omega) m1 (by omega) ([]) (2) (0) (cup_no C_f.out H8.out) (rfl)).mono ?_
          rintro e w56 ⟨A_p, c_p, rfl, s_p, l_p, bb56⟩
          have b56 := belLit0 b46 bb56
          replace s_f := slLit0 s_f bb56
          replace s_g := slLit0 s_g bb56
          replace s_h := slLit0 s_h bb56
          clear b46 bb56
          clear s_f s_g s_h s_p
          go_wp2_with fail
          go_ret
          exact ⟨rfl, b56⟩
      · have H3 := Lib.hid h3
        clear h3
        have SC := Lib.hid (sum_comm_ C_f.out C_g.out)
        go_wp2_with fail
        refine (psum_any A_f n_f c_f (f) A_g n_f c_g (g) _ (s_f) (s_g) (by omega) (by omega)  (csumL (f) (g)) (0) (n_f) (csum_yes C_f.out C_g.out H1.out (rfl)) ((tab_len _ _).trans C_f.out.len)).mono ?_
        rintro e w57 ⟨A_a, c_a, rfl, s_a, l_a, bb57⟩
        have b57 := belLit0 b4 bb57
        replace s_f := slLit0 s_f bb57
        replace s_g := slLit0 s_g bb57
        replace s_h := slLit0 s_h bb57
        clear b4 bb57
        have C_a := Lib.hid (csum_C C_f.out C_g.out H1.out)
        go_wp2_with fail
        refine (psum_any A_g n_f c_g (g) A_f n_f c_f (f) _ (s_g) (s_f) (by omega) (by omega)  (csumL f g) (0) (n_f) (csum_yes C_g.out C_f.out (by rw [← SC.out]; exact H1.out) SC.out.symm) ((tab_len _ _).trans C_f.out.len)).mono ?_
        rintro e w58 ⟨A_b, c_b, rfl, s_b, l_b, bb58⟩
        have b58 := belLit0 b57 bb58
        replace s_f := slLit0 s_f bb58
        replace s_g := slLit0 s_g bb58
        replace s_h := slLit0 s_h bb58
        replace s_a := slLit0 s_a bb58
        clear b57 bb58
        go_wp2_with fail
        refine (same_t A_a n_f c_a (csumL (f) (g)) (0) A_b n_f c_b (csumL f g) (0) _ (s_a) (s_b) (by omega) (by omega) (.inl rfl) (.inl rfl) (true) (by unfold sameB; simp)).mono ?_
        rintro e w59 ⟨rfl, bb59⟩
        have b59 := belLit0 b58 bb59
        replace s_f := slLit0 s_f bb59
        replace s_g := slLit0 s_g bb59
        replace s_h := slLit0 s_h bb59
        replace s_a := slLit0 s_a bb59
        replace s_b := slLit0 s_b bb59
        clear b58 bb59
        clear s_b l_b
        go_wp2_with fail
        refine (pmin_any A_g n_f c_g (g) A_h n_f c_h (h) _ (s_g) (s_h) (by omega) (by omega)  (cminL (g) (h)) (0) (n_f) (cmin_yes C_g.out C_h.out (rfl)) ((tab_len _ _).trans C_g.out.len)).mono ?_
        rintro e w60 ⟨A_gh, c_gh, rfl, s_gh, l_gh, bb60⟩
        have b60 := belLit0 b59 bb60
        replace s_f := slLit0 s_f bb60
        replace s_g := slLit0 s_g bb60
        replace s_h := slLit0 s_h bb60
        replace s_a := slLit0 s_a bb60
        clear b59 bb60
        have C_gh := Lib.hid (cmin_C C_g.out C_h.out)
        go_wp2_with fail
        refine (psum_any A_f n_f c_f (f) A_gh n_f c_gh (cminL (g) (h)) _ (s_f) (s_gh) (by omega) (by omega)  ([]) (2) (0) (csum_no C_f.out C_gh.out H2.out) (rfl)).mono ?_
        rintro e w61 ⟨A_x, c_x, rfl, s_x, l_x, bb61⟩
        have b61 := belLit0 b60 bb61
        replace s_f := slLit0 s_f bb61
        replace s_g := slLit0 s_g bb61
        replace s_h := slLit0 s_h bb61
        replace s_a := slLit0 s_a bb61
        replace s_gh := slLit0 s_gh bb61
        clear b60 bb61
        go_wp2_with fail
        refine (psum_any A_f n_f c_f (f) A_h n_f c_h (h) _ (s_f) (s_h) (by omega) (by omega)  ([]) (2) (0) (csum_no C_f.out C_h.out H3.out) (rfl)).mono ?_
        rintro e w62 ⟨A_fh, c_fh, rfl, s_fh, l_fh, bb62⟩
        have b62 := belLit0 b61 bb62
        replace s_f := slLit0 s_f bb62
        replace s_g := slLit0 s_g bb62
        replace s_h := slLit0 s_h bb62
        replace s_a := slLit0 s_a bb62
        replace s_gh := slLit0 s_gh bb62
        replace s_x := slLit0 s_x bb62
        clear b61 bb62
        clear s_x l_x
        clear s_fh l_fh
        clear s_gh l_gh
        clear s_a l_a
        go_wp2_with fail
        refine (within_t (m) (1000) _   (by omega) (by omega) (within m 1000) (rfl)).mono ?_
        rintro e w63 ⟨rfl, rfl⟩
        go_wp2_with fail
        refine (within_t (k) (1000) _   (by omega) (by omega) (within k 1000) (rfl)).mono ?_
        rintro e w64 ⟨rfl, rfl⟩
        have m1 := within_lo m 1000 (by omega)
        have m2 := within_hi m 1000 (by omega)
        have k1 := within_lo k 1000 (by omega)
        have k2 := within_hi k 1000 (by omega)
        generalize within m 1000 = a at *
        generalize within k 1000 = b at *
        by_cases h8 : fits (cupL f a) = true
        · have H8 := Lib.hid h8
          clear h8
          go_wp2_with fail
          refine (pup_any A_f n_f c_f (f) (a) _ (s_f) (by omega) m1 (by omega) (cupL f a) (0) (n_f) (cup_yes C_f.out H8.out rfl) ((tab_len _ _).trans C_f.out.len)).mono ?_
          rintro e w65 ⟨A_p, c_p, rfl, s_p, l_p, bb65⟩
          have b65 := belLit0 b62 bb65
          replace s_f := slLit0 s_f bb65
          replace s_g := slLit0 s_g bb65
          replace s_h := slLit0 s_h bb65
          clear b62 bb65
          have C_p := Lib.hid (cup_C C_f.out m1 H8.out)
          by_cases h9 : fits (cupL f (a + b)) = true
          · have H9 := Lib.hid h9
            clear h9
            go_wp2_with fail
            refine (pup_any A_p n_f c_p (cupL f a) (b) _ (s_p) (by omega) k1 (by omega) (cupL f (a + b)) (0) (n_f) (cup_yes C_p.out (by rw [up_up C_f.out]; exact H9.out) (up_up C_f.out)) ((tab_len _ _).trans C_f.out.len)).mono ?_
            rintro e w66 ⟨A_q, c_q, rfl, s_q, l_q, bb66⟩
            have b66 := belLit0 b65 bb66
            replace s_f := slLit0 s_f bb66
            replace s_g := slLit0 s_g bb66
            replace s_h := slLit0 s_h bb66
            replace s_p := slLit0 s_p bb66
            clear b65 bb66
            go_wp2_with fail
            refine (pup_any A_f n_f c_f (f) (a + b) _ (s_f) (by omega) (by omega) (by omega) (cupL f (a + b)) (0) (n_f) (cup_yes C_f.out H9.out rfl) ((tab_len _ _).trans C_f.out.len)).mono ?_
            rintro e w67 ⟨A_r, c_r, rfl, s_r, l_r, bb67⟩
            have b67 := belLit0 b66 bb67
            replace s_f := slLit0 s_f bb67
            replace s_g := slLit0 s_g bb67
            replace s_h := slLit0 s_h bb67
            replace s_p := slLit0 s_p bb67
            replace s_q := slLit0 s_q bb67
            clear b66 bb67
            go_wp2_with fail
            refine (same_t A_q n_f c_q (cupL f (a + b)) (0) A_r n_f c_r (cupL f (a + b)) (0) _ (s_q) (s_r) (by omega) (by omega) (.inl rfl) (.inl rfl) (true) (by unfold sameB; simp)).mono ?_
            rintro e w68 ⟨rfl, bb68⟩
            have b68 := belLit0 b67 bb68
            replace s_f := slLit0 s_f bb68
            replace s_g := slLit0 s_g bb68
            replace s_h := slLit0 s_h bb68
            replace s_p := slLit0 s_p bb68
            replace s_q := slLit0 s_q bb68
            replace s_r := slLit0 s_r bb68
            clear b67 bb68
            clear s_f s_g s_h s_p s_q s_r
            go_wp2_with fail
            go_ret
            exact ⟨rfl, b68⟩
          · have H9 := Lib.hid h9
            clear h9
            go_wp2_with fail
            refine (pup_any A_p n_f c_p (cupL f a) (b) _ (s_p) (by omega) k1 (by omega) ([]) (2) (0) (cup_no C_p.out (by rw [up_up C_f.out]; exact H9.out)) (rfl)).mono ?_
            rintro e w69 ⟨A_q, c_q, rfl, s_q, l_q, bb69⟩
            have b69 := belLit0 b65 bb69
            replace s_f := slLit0 s_f bb69
            replace s_g := slLit0 s_g bb69
            replace s_h := slLit0 s_h bb69
            replace s_p := slLit0 s_p bb69
            clear b65 bb69
            go_wp2_with fail
            refine (pup_any A_f n_f c_f (f) (a + b) _ (s_f) (by omega) (by omega) (by omega) ([]) (2) (0) (cup_no C_f.out H9.out) (rfl)).mono ?_
            rintro e w70 ⟨A_r, c_r, rfl, s_r, l_r, bb70⟩
            have b70 := belLit0 b69 bb70
            replace s_f := slLit0 s_f bb70
            replace s_g := slLit0 s_g bb70
            replace s_h := slLit0 s_h bb70
            replace s_p := slLit0 s_p bb70
            replace s_q := slLit0 s_q bb70
            clear b69 bb70
            go_wp2_with fail
            refine (same_t A_q 0 c_q ([]) (2) A_r 0 c_r ([]) (2) _ (s_q) (s_r) (by omega) (by omega) (.inr rfl) (.inr rfl) (true) (rfl)).mono ?_
            rintro e w71 ⟨rfl, bb71⟩
            have b71 := belLit0 b70 bb71
            replace s_f := slLit0 s_f bb71
            replace s_g := slLit0 s_g bb71
            replace s_h := slLit0 s_h bb71
            replace s_p := slLit0 s_p bb71
            replace s_q := slLit0 s_q bb71
            replace s_r := slLit0 s_r bb71
            clear b70 bb71
            clear s_f s_g s_h s_p s_q s_r
            go_wp2_with fail
            go_ret
            exact ⟨rfl, b71⟩
        · have H8 := Lib.hid h8
          clear h8
          go_wp2_with fail
          refine (pup_any A_f n_f c_f (f) (a) _ (s_f) (by omega) m1 (by omega) ([]) (2) (0) (cup_no C_f.out H8.out) (rfl)).mono ?_
          rintro e w72 ⟨A_p, c_p, rfl, s_p, l_p, bb72⟩
          have b72 := belLit0 b62 bb72
          replace s_f := slLit0 s_f bb72
          replace s_g := slLit0 s_g bb72
          replace s_h := slLit0 s_h bb72
          clear b62 bb72
          clear s_f s_g s_h s_p
          go_wp2_with fail
          go_ret
          exact ⟨rfl, b72⟩
  · have H1 := Lib.hid h1
    clear h1
    by_cases h2 : fits (csumL f (cminL g h)) = true
    · have H2 := Lib.hid h2
      clear h2
      by_cases h3 : fits (csumL f h) = true
      · have H3 := Lib.hid h3
        clear h3
        have SC := Lib.hid (sum_comm_ C_f.out C_g.out)
        go_wp2_with fail
        refine (psum_any A_f n_f c_f (f) A_g n_f c_g (g) _ (s_f) (s_g) (by omega) (by omega)  ([]) (2) (0) (csum_no C_f.out C_g.out H1.out) (rfl)).mono ?_
        rintro e w73 ⟨A_a, c_a, rfl, s_a, l_a, bb73⟩
        have b73 := belLit0 b4 bb73
        replace s_f := slLit0 s_f bb73
        replace s_g := slLit0 s_g bb73
        replace s_h := slLit0 s_h bb73
        clear b4 bb73
        go_wp2_with fail
        refine (psum_any A_g n_f c_g (g) A_f n_f c_f (f) _ (s_g) (s_f) (by omega) (by omega)  ([]) (2) (0) (csum_no C_g.out C_f.out (by rw [← SC.out]; exact H1.out)) (rfl)).mono ?_
        rintro e w74 ⟨A_b, c_b, rfl, s_b, l_b, bb74⟩
        have b74 := belLit0 b73 bb74
        replace s_f := slLit0 s_f bb74
        replace s_g := slLit0 s_g bb74
        replace s_h := slLit0 s_h bb74
        replace s_a := slLit0 s_a bb74
        clear b73 bb74
        go_wp2_with fail
        refine (same_t A_a 0 c_a ([]) (2) A_b 0 c_b ([]) (2) _ (s_a) (s_b) (by omega) (by omega) (.inr rfl) (.inr rfl) (true) (rfl)).mono ?_
        rintro e w75 ⟨rfl, bb75⟩
        have b75 := belLit0 b74 bb75
        replace s_f := slLit0 s_f bb75
        replace s_g := slLit0 s_g bb75
        replace s_h := slLit0 s_h bb75
        replace s_a := slLit0 s_a bb75
        replace s_b := slLit0 s_b bb75
        clear b74 bb75
        clear s_b l_b
        go_wp2_with fail
        refine (pmin_any A_g n_f c_g (g) A_h n_f c_h (h) _ (s_g) (s_h) (by omega) (by omega)  (cminL (g) (h)) (0) (n_f) (cmin_yes C_g.out C_h.out (rfl)) ((tab_len _ _).trans C_g.out.len)).mono ?_
        rintro e w76 ⟨A_gh, c_gh, rfl, s_gh, l_gh, bb76⟩
        have b76 := belLit0 b75 bb76
        replace s_f := slLit0 s_f bb76
        replace s_g := slLit0 s_g bb76
        replace s_h := slLit0 s_h bb76
        replace s_a := slLit0 s_a bb76
        clear b75 bb76
        have C_gh := Lib.hid (cmin_C C_g.out C_h.out)
        go_wp2_with fail
        refine (psum_any A_f n_f c_f (f) A_gh n_f c_gh (cminL (g) (h)) _ (s_f) (s_gh) (by omega) (by omega)  (csumL (f) (cminL (g) (h))) (0) (n_f) (csum_yes C_f.out C_gh.out H2.out (rfl)) ((tab_len _ _).trans C_f.out.len)).mono ?_
        rintro e w77 ⟨A_x, c_x, rfl, s_x, l_x, bb77⟩
        have b77 := belLit0 b76 bb77
        replace s_f := slLit0 s_f bb77
        replace s_g := slLit0 s_g bb77
        replace s_h := slLit0 s_h bb77
        replace s_a := slLit0 s_a bb77
        replace s_gh := slLit0 s_gh bb77
        clear b76 bb77
        have C_x := Lib.hid (csum_C C_f.out C_gh.out H2.out)
        go_wp2_with fail
        refine (psum_any A_f n_f c_f (f) A_h n_f c_h (h) _ (s_f) (s_h) (by omega) (by omega)  (csumL (f) (h)) (0) (n_f) (csum_yes C_f.out C_h.out H3.out (rfl)) ((tab_len _ _).trans C_f.out.len)).mono ?_
        rintro e w78 ⟨A_fh, c_fh, rfl, s_fh, l_fh, bb78⟩
        have b78 := belLit0 b77 bb78
        replace s_f := slLit0 s_f bb78
        replace s_g := slLit0 s_g bb78
        replace s_h := slLit0 s_h bb78
        replace s_a := slLit0 s_a bb78
        replace s_gh := slLit0 s_gh bb78
        replace s_x := slLit0 s_x bb78
        clear b77 bb78
        have C_fh := Lib.hid (csum_C C_f.out C_h.out H3.out)
        clear s_x l_x
        clear s_fh l_fh
        clear s_gh l_gh
        clear s_a l_a
        go_wp2_with fail
        refine (within_t (m) (1000) _   (by omega) (by omega) (within m 1000) (rfl)).mono ?_
        rintro e w79 ⟨rfl, rfl⟩
        go_wp2_with fail
        refine (within_t (k) (1000) _   (by omega) (by omega) (within k 1000) (rfl)).mono ?_
        rintro e w80 ⟨rfl, rfl⟩
        have m1 := within_lo m 1000 (by omega)
        have m2 := within_hi m 1000 (by omega)
        have k1 := within_lo k 1000 (by omega)
        have k2 := within_hi k 1000 (by omega)
        generalize within m 1000 = a at *
        generalize within k 1000 = b at *
        by_cases h8 : fits (cupL f a) = true
        · have H8 := Lib.hid h8
          clear h8
          go_wp2_with fail
          refine (pup_any A_f n_f c_f (f) (a) _ (s_f) (by omega) m1 (by omega) (cupL f a) (0) (n_f) (cup_yes C_f.out H8.out rfl) ((tab_len _ _).trans C_f.out.len)).mono ?_
          rintro e w81 ⟨A_p, c_p, rfl, s_p, l_p, bb81⟩
          have b81 := belLit0 b78 bb81
          replace s_f := slLit0 s_f bb81
          replace s_g := slLit0 s_g bb81
          replace s_h := slLit0 s_h bb81
          clear b78 bb81
          have C_p := Lib.hid (cup_C C_f.out m1 H8.out)
          by_cases h9 : fits (cupL f (a + b)) = true
          · have H9 := Lib.hid h9
            clear h9
            go_wp2_with fail
            refine (pup_any A_p n_f c_p (cupL f a) (b) _ (s_p) (by omega) k1 (by omega) (cupL f (a + b)) (0) (n_f) (cup_yes C_p.out (by rw [up_up C_f.out]; exact H9.out) (up_up C_f.out)) ((tab_len _ _).trans C_f.out.len)).mono ?_
            rintro e w82 ⟨A_q, c_q, rfl, s_q, l_q, bb82⟩
            have b82 := belLit0 b81 bb82
            replace s_f := slLit0 s_f bb82
            replace s_g := slLit0 s_g bb82
            replace s_h := slLit0 s_h bb82
            replace s_p := slLit0 s_p bb82
            clear b81 bb82
            go_wp2_with fail
            refine (pup_any A_f n_f c_f (f) (a + b) _ (s_f) (by omega) (by omega) (by omega) (cupL f (a + b)) (0) (n_f) (cup_yes C_f.out H9.out rfl) ((tab_len _ _).trans C_f.out.len)).mono ?_
            rintro e w83 ⟨A_r, c_r, rfl, s_r, l_r, bb83⟩
            have b83 := belLit0 b82 bb83
            replace s_f := slLit0 s_f bb83
            replace s_g := slLit0 s_g bb83
            replace s_h := slLit0 s_h bb83
            replace s_p := slLit0 s_p bb83
            replace s_q := slLit0 s_q bb83
            clear b82 bb83
            go_wp2_with fail
            refine (same_t A_q n_f c_q (cupL f (a + b)) (0) A_r n_f c_r (cupL f (a + b)) (0) _ (s_q) (s_r) (by omega) (by omega) (.inl rfl) (.inl rfl) (true) (by unfold sameB; simp)).mono ?_
            rintro e w84 ⟨rfl, bb84⟩
            have b84 := belLit0 b83 bb84
            replace s_f := slLit0 s_f bb84
            replace s_g := slLit0 s_g bb84
            replace s_h := slLit0 s_h bb84
            replace s_p := slLit0 s_p bb84
            replace s_q := slLit0 s_q bb84
            replace s_r := slLit0 s_r bb84
            clear b83 bb84
            clear s_f s_g s_h s_p s_q s_r
            go_wp2_with fail
            go_ret
            exact ⟨rfl, b84⟩
          · have H9 := Lib.hid h9
            clear h9
            go_wp2_with fail
            refine (pup_any A_p n_f c_p (cupL f a) (b) _ (s_p) (by omega) k1 (by omega) ([]) (2) (0) (cup_no C_p.out (by rw [up_up C_f.out]; exact H9.out)) (rfl)).mono ?_
            rintro e w85 ⟨A_q, c_q, rfl, s_q, l_q, bb85⟩
            have b85 := belLit0 b81 bb85
            replace s_f := slLit0 s_f bb85
            replace s_g := slLit0 s_g bb85
            replace s_h := slLit0 s_h bb85
            replace s_p := slLit0 s_p bb85
            clear b81 bb85
            go_wp2_with fail
            refine (pup_any A_f n_f c_f (f) (a + b) _ (s_f) (by omega) (by omega) (by omega) ([]) (2) (0) (cup_no C_f.out H9.out) (rfl)).mono ?_
            rintro e w86 ⟨A_r, c_r, rfl, s_r, l_r, bb86⟩
            have b86 := belLit0 b85 bb86
            replace s_f := slLit0 s_f bb86
            replace s_g := slLit0 s_g bb86
            replace s_h := slLit0 s_h bb86
            replace s_p := slLit0 s_p bb86
            replace s_q := slLit0 s_q bb86
            clear b85 bb86
            go_wp2_with fail
            refine (same_t A_q 0 c_q ([]) (2) A_r 0 c_r ([]) (2) _ (s_q) (s_r) (by omega) (by omega) (.inr rfl) (.inr rfl) (true) (rfl)).mono ?_
            rintro e w87 ⟨rfl, bb87⟩
            have b87 := belLit0 b86 bb87
            replace s_f := slLit0 s_f bb87
            replace s_g := slLit0 s_g bb87
            replace s_h := slLit0 s_h bb87
            replace s_p := slLit0 s_p bb87
            replace s_q := slLit0 s_q bb87
            replace s_r := slLit0 s_r bb87
            clear b86 bb87
            clear s_f s_g s_h s_p s_q s_r
            go_wp2_with fail
            go_ret
            exact ⟨rfl, b87⟩
        · have H8 := Lib.hid h8
          clear h8
          go_wp2_with fail
          refine (pup_any A_f n_f c_f (f) (a) _ (s_f) (by omega) m1 (by omega) ([]) (2) (0) (cup_no C_f.out H8.out) (rfl)).mono ?_
          rintro e w88 ⟨A_p, c_p, rfl, s_p, l_p, bb88⟩
          have b88 := belLit0 b78 bb88
          replace s_f := slLit0 s_f bb88
          replace s_g := slLit0 s_g bb88
          replace s_h := slLit0 s_h bb88
          clear b78 bb88
          clear s_f s_g s_h s_p
          go_wp2_with fail
          go_ret
          exact ⟨rfl, b88⟩
      · have H3 := Lib.hid h3
        clear h3
        have SC := Lib.hid (sum_comm_ C_f.out C_g.out)
        go_wp2_with fail
        refine (psum_any A_f n_f c_f (f) A_g n_f c_g (g) _ (s_f) (s_g) (by omega) (by omega)  ([]) (2) (0) (csum_no C_f.out C_g.out H1.out) (rfl)).mono ?_
        rintro e w89 ⟨A_a, c_a, rfl, s_a, l_a, bb89⟩
        have b89 := belLit0 b4 bb89
        replace s_f := slLit0 s_f bb89
        replace s_g := slLit0 s_g bb89
        replace s_h := slLit0 s_h bb89
        clear b4 bb89
        go_wp2_with fail
        refine (psum_any A_g n_f c_g (g) A_f n_f c_f (f) _ (s_g) (s_f) (by omega) (by omega)  ([]) (2) (0) (csum_no C_g.out C_f.out (by rw [← SC.out]; exact H1.out)) (rfl)).mono ?_
        rintro e w90 ⟨A_b, c_b, rfl, s_b, l_b, bb90⟩
        have b90 := belLit0 b89 bb90
        replace s_f := slLit0 s_f bb90
        replace s_g := slLit0 s_g bb90
        replace s_h := slLit0 s_h bb90
        replace s_a := slLit0 s_a bb90
        clear b89 bb90
        go_wp2_with fail
        refine (same_t A_a 0 c_a ([]) (2) A_b 0 c_b ([]) (2) _ (s_a) (s_b) (by omega) (by omega) (.inr rfl) (.inr rfl) (true) (rfl)).mono ?_
        rintro e w91 ⟨rfl, bb91⟩
        have b91 := belLit0 b90 bb91
        replace s_f := slLit0 s_f bb91
        replace s_g := slLit0 s_g bb91
        replace s_h := slLit0 s_h bb91
        replace s_a := slLit0 s_a bb91
        replace s_b := slLit0 s_b bb91
        clear b90 bb91
        clear s_b l_b
        go_wp2_with fail
        refine (pmin_any A_g n_f c_g (g) A_h n_f c_h (h) _ (s_g) (s_h) (by omega) (by omega)  (cminL (g) (h)) (0) (n_f) (cmin_yes C_g.out C_h.out (rfl)) ((tab_len _ _).trans C_g.out.len)).mono ?_
        rintro e w92 ⟨A_gh, c_gh, rfl, s_gh, l_gh, bb92⟩
        have b92 := belLit0 b91 bb92
        replace s_f := slLit0 s_f bb92
        replace s_g := slLit0 s_g bb92
        replace s_h := slLit0 s_h bb92
        replace s_a := slLit0 s_a bb92
        clear b91 bb92
        have C_gh := Lib.hid (cmin_C C_g.out C_h.out)
        go_wp2_with fail
        refine (psum_any A_f n_f c_f (f) A_gh n_f c_gh (cminL (g) (h)) _ (s_f) (s_gh) (by omega) (by omega)  (csumL (f) (cminL (g) (h))) (0) (n_f) (csum_yes C_f.out C_gh.out H2.out (rfl)) ((tab_len _ _).trans C_f.out.len)).mono ?_
        rintro e w93 ⟨A_x, c_x, rfl, s_x, l_x, bb93⟩
        have b93 := belLit0 b92 bb93
        replace s_f := slLit0 s_f bb93
        replace s_g := slLit0 s_g bb93
        replace s_h := slLit0 s_h bb93
        replace s_a := slLit0 s_a bb93
        replace s_gh := slLit0 s_gh bb93
        clear b92 bb93
        have C_x := Lib.hid (csum_C C_f.out C_gh.out H2.out)
        go_wp2_with fail
        refine (psum_any A_f n_f c_f (f) A_h n_f c_h (h) _ (s_f) (s_h) (by omega) (by omega)  ([]) (2) (0) (csum_no C_f.out C_h.out H3.out) (rfl)).mono ?_
        rintro e w94 ⟨A_fh, c_fh, rfl, s_fh, l_fh, bb94⟩
        have b94 := belLit0 b93 bb94
        replace s_f := slLit0 s_f bb94
        replace s_g := slLit0 s_g bb94
        replace s_h := slLit0 s_h bb94
        replace s_a := slLit0 s_a bb94
        replace s_gh := slLit0 s_gh bb94
        replace s_x := slLit0 s_x bb94
        clear b93 bb94
        clear s_x l_x
        clear s_fh l_fh
        clear s_gh l_gh
        clear s_a l_a
        go_wp2_with fail
        refine (within_t (m) (1000) _   (by omega) (by omega) (within m 1000) (rfl)).mono ?_
        rintro e w95 ⟨rfl, rfl⟩
        go_wp2_with fail
        refine (within_t (k) (1000) _   (by omega) (by omega) (within k 1000) (rfl)).mono ?_
        rintro e w96 ⟨rfl, rfl⟩
        have m1 := within_lo m 1000 (by omega)
        have m2 := within_hi m 1000 (by omega)
        have k1 := within_lo k 1000 (by omega)
        have k2 := within_hi k 1000 (by omega)
        generalize within m 1000 = a at *
        generalize within k 1000 = b at *
        by_cases h8 : fits (cupL f a) = true
        · have H8 := Lib.hid h8
          clear h8
          go_wp2_with fail
          refine (pup_any A_f n_f c_f (f) (a) _ (s_f) (by omega) m1 (by omega) (cupL f a) (0) (n_f) (cup_yes C_f.out H8.out rfl) ((tab_len _ _).trans C_f.out.len)).mono ?_
          rintro e w97 ⟨A_p, c_p, rfl, s_p, l_p, bb97⟩
          have b97 := belLit0 b94 bb97
          replace s_f := slLit0 s_f bb97
          replace s_g := slLit0 s_g bb97
          replace s_h := slLit0 s_h bb97
          clear b94 bb97
          have C_p := Lib.hid (cup_C C_f.out m1 H8.out)
          by_cases h9 : fits (cupL f (a + b)) = true
          · have H9 := Lib.hid h9
            clear h9
            go_wp2_with fail
            refine (pup_any A_p n_f c_p (cupL f a) (b) _ (s_p) (by omega) k1 (by omega) (cupL f (a + b)) (0) (n_f) (cup_yes C_p.out (by rw [up_up C_f.out]; exact H9.out) (up_up C_f.out)) ((tab_len _ _).trans C_f.out.len)).mono ?_
            rintro e w98 ⟨A_q, c_q, rfl, s_q, l_q, bb98⟩
            have b98 := belLit0 b97 bb98
            replace s_f := slLit0 s_f bb98
            replace s_g := slLit0 s_g bb98
            replace s_h := slLit0 s_h bb98
            replace s_p := slLit0 s_p bb98
            clear b97 bb98
            go_wp2_with fail
            refine (pup_any A_f n_f c_f (f) (a + b) _ (s_f) (by omega) (by omega) (by omega) (cupL f (a + b)) (0) (n_f) (cup_yes C_f.out H9.out rfl) ((tab_len _ _).trans C_f.out.len)).mono ?_
            rintro e w99 ⟨A_r, c_r, rfl, s_r, l_r, bb99⟩
            have b99 := belLit0 b98 bb99
            replace s_f := slLit0 s_f bb99
            replace s_g := slLit0 s_g bb99
            replace s_h := slLit0 s_h bb99
            replace s_p := slLit0 s_p bb99
            replace s_q := slLit0 s_q bb99
            clear b98 bb99
            go_wp2_with fail
            refine (same_t A_q n_f c_q (cupL f (a + b)) (0) A_r n_f c_r (cupL f (a + b)) (0) _ (s_q) (s_r) (by omega) (by omega) (.inl rfl) (.inl rfl) (true) (by unfold sameB; simp)).mono ?_
            rintro e w100 ⟨rfl, bb100⟩
            have b100 := belLit0 b99 bb100
            replace s_f := slLit0 s_f bb100
            replace s_g := slLit0 s_g bb100
            replace s_h := slLit0 s_h bb100
            replace s_p := slLit0 s_p bb100
            replace s_q := slLit0 s_q bb100
            replace s_r := slLit0 s_r bb100
            clear b99 bb100
            clear s_f s_g s_h s_p s_q s_r
            go_wp2_with fail
            go_ret
            exact ⟨rfl, b100⟩
          · have H9 := Lib.hid h9
            clear h9
            go_wp2_with fail
            refine (pup_any A_p n_f c_p (cupL f a) (b) _ (s_p) (by omega) k1 (by omega) ([]) (2) (0) (cup_no C_p.out (by rw [up_up C_f.out]; exact H9.out)) (rfl)).mono ?_
            rintro e w101 ⟨A_q, c_q, rfl, s_q, l_q, bb101⟩
            have b101 := belLit0 b97 bb101
            replace s_f := slLit0 s_f bb101
            replace s_g := slLit0 s_g bb101
            replace s_h := slLit0 s_h bb101
            replace s_p := slLit0 s_p bb101
            clear b97 bb101
            go_wp2_with fail
            refine (pup_any A_f n_f c_f (f) (a + b) _ (s_f) (by omega) (by omega) (by omega) ([]) (2) (0) (cup_no C_f.out H9.out) (rfl)).mono ?_
            rintro e w102 ⟨A_r, c_r, rfl, s_r, l_r, bb102⟩
            have b102 := belLit0 b101 bb102
            replace s_f := slLit0 s_f bb102
            replace s_g := slLit0 s_g bb102
            replace s_h := slLit0 s_h bb102
            replace s_p := slLit0 s_p bb102
            replace s_q := slLit0 s_q bb102
            clear b101 bb102
            go_wp2_with fail
            refine (same_t A_q 0 c_q ([]) (2) A_r 0 c_r ([]) (2) _ (s_q) (s_r) (by omega) (by omega) (.inr rfl) (.inr rfl) (true) (rfl)).mono ?_
            rintro e w103 ⟨rfl, bb103⟩
            have b103 := belLit0 b102 bb103
            replace s_f := slLit0 s_f bb103
            replace s_g := slLit0 s_g bb103
            replace s_h := slLit0 s_h bb103
            replace s_p := slLit0 s_p bb103
            replace s_q := slLit0 s_q bb103
            replace s_r := slLit0 s_r bb103
            clear b102 bb103
            clear s_f s_g s_h s_p s_q s_r
            go_wp2_with fail
            go_ret
            exact ⟨rfl, b103⟩
        · have H8 := Lib.hid h8
          clear h8
          go_wp2_with fail
          refine (pup_any A_f n_f c_f (f) (a) _ (s_f) (by omega) m1 (by omega) ([]) (2) (0) (cup_no C_f.out H8.out) (rfl)).mono ?_
          rintro e w104 ⟨A_p, c_p, rfl, s_p, l_p, bb104⟩
          have b104 := belLit0 b94 bb104
          replace s_f := slLit0 s_f bb104
          replace s_g := slLit0 s_g bb104
          replace s_h := slLit0 s_h bb104
          clear b94 bb104
          clear s_f s_g s_h s_p
          go_wp2_with fail
          go_ret
          exact ⟨rfl, b104⟩
    · have H2 := Lib.hid h2
      clear h2
      by_cases h3 : fits (csumL f h) = true
      · have H3 := Lib.hid h3
        clear h3
        have SC := Lib.hid (sum_comm_ C_f.out C_g.out)
        go_wp2_with fail
        refine (psum_any A_f n_f c_f (f) A_g n_f c_g (g) _ (s_f) (s_g) (by omega) (by omega)  ([]) (2) (0) (csum_no C_f.out C_g.out H1.out) (rfl)).mono ?_
        rintro e w105 ⟨A_a, c_a, rfl, s_a, l_a, bb105⟩
        have b105 := belLit0 b4 bb105
        replace s_f := slLit0 s_f bb105
        replace s_g := slLit0 s_g bb105
        replace s_h := slLit0 s_h bb105
        clear b4 bb105
        go_wp2_with fail
        refine (psum_any A_g n_f c_g (g) A_f n_f c_f (f) _ (s_g) (s_f) (by omega) (by omega)  ([]) (2) (0) (csum_no C_g.out C_f.out (by rw [← SC.out]; exact H1.out)) (rfl)).mono ?_
        rintro e w106 ⟨A_b, c_b, rfl, s_b, l_b, bb106⟩
        have b106 := belLit0 b105 bb106
        replace s_f := slLit0 s_f bb106
        replace s_g := slLit0 s_g bb106
        replace s_h := slLit0 s_h bb106
        replace s_a := slLit0 s_a bb106
        clear b105 bb106
        go_wp2_with fail
        refine (same_t A_a 0 c_a ([]) (2) A_b 0 c_b ([]) (2) _ (s_a) (s_b) (by omega) (by omega) (.inr rfl) (.inr rfl) (true) (rfl)).mono ?_
        rintro e w107 ⟨rfl, bb107⟩
        have b107 := belLit0 b106 bb107
        replace s_f := slLit0 s_f bb107
        replace s_g := slLit0 s_g bb107
        replace s_h := slLit0 s_h bb107
        replace s_a := slLit0 s_a bb107
        replace s_b := slLit0 s_b bb107
        clear b106 bb107
        clear s_b l_b
        go_wp2_with fail
        refine (pmin_any A_g n_f c_g (g) A_h n_f c_h (h) _ (s_g) (s_h) (by omega) (by omega)  (cminL (g) (h)) (0) (n_f) (cmin_yes C_g.out C_h.out (rfl)) ((tab_len _ _).trans C_g.out.len)).mono ?_
        rintro e w108 ⟨A_gh, c_gh, rfl, s_gh, l_gh, bb108⟩
        have b108 := belLit0 b107 bb108
        replace s_f := slLit0 s_f bb108
        replace s_g := slLit0 s_g bb108
        replace s_h := slLit0 s_h bb108
        replace s_a := slLit0 s_a bb108
        clear b107 bb108
        have C_gh := Lib.hid (cmin_C C_g.out C_h.out)
        go_wp2_with fail
        refine (psum_any A_f n_f c_f (f) A_gh n_f c_gh (cminL (g) (h)) _ (s_f) (s_gh) (by omega) (by omega)  ([]) (2) (0) (csum_no C_f.out C_gh.out H2.out) (rfl)).mono ?_
        rintro e w109 ⟨A_x, c_x, rfl, s_x, l_x, bb109⟩
        have b109 := belLit0 b108 bb109
        replace s_f := slLit0 s_f bb109
        replace s_g := slLit0 s_g bb109
        replace s_h := slLit0 s_h bb109
        replace s_a := slLit0 s_a bb109
        replace s_gh := slLit0 s_gh bb109
        clear b108 bb109
        go_wp2_with fail
        refine (psum_any A_f n_f c_f (f) A_h n_f c_h (h) _ (s_f) (s_h) (by omega) (by omega)  (csumL (f) (h)) (0) (n_f) (csum_yes C_f.out C_h.out H3.out (rfl)) ((tab_len _ _).trans C_f.out.len)).mono ?_
        rintro e w110 ⟨A_fh, c_fh, rfl, s_fh, l_fh, bb110⟩
        have b110 := belLit0 b109 bb110
        replace s_f := slLit0 s_f bb110
        replace s_g := slLit0 s_g bb110
        replace s_h := slLit0 s_h bb110
        replace s_a := slLit0 s_a bb110
        replace s_gh := slLit0 s_gh bb110
        replace s_x := slLit0 s_x bb110
        clear b109 bb110
        have C_fh := Lib.hid (csum_C C_f.out C_h.out H3.out)
        clear s_x l_x
        clear s_fh l_fh
        clear s_gh l_gh
        clear s_a l_a
        go_wp2_with fail
        refine (within_t (m) (1000) _   (by omega) (by omega) (within m 1000) (rfl)).mono ?_
        rintro e w111 ⟨rfl, rfl⟩
        go_wp2_with fail
        refine (within_t (k) (1000) _   (by omega) (by omega) (within k 1000) (rfl)).mono ?_
        rintro e w112 ⟨rfl, rfl⟩
        have m1 := within_lo m 1000 (by omega)
        have m2 := within_hi m 1000 (by omega)
        have k1 := within_lo k 1000 (by omega)
        have k2 := within_hi k 1000 (by omega)
        generalize within m 1000 = a at *
        generalize within k 1000 = b at *
        by_cases h8 : fits (cupL f a) = true
        · have H8 := Lib.hid h8
          clear h8
          go_wp2_with fail
          refine (pup_any A_f n_f c_f (f) (a) _ (s_f) (by omega) m1 (by omega) (cupL f a) (0) (n_f) (cup_yes C_f.out H8.out rfl) ((tab_len _ _).trans C_f.out.len)).mono ?_
          rintro e w113 ⟨A_p, c_p, rfl, s_p, l_p, bb113⟩
          have b113 := belLit0 b110 bb113
          replace s_f := slLit0 s_f bb113
          replace s_g := slLit0 s_g bb113
          replace s_h := slLit0 s_h bb113
          clear b110 bb113
          have C_p := Lib.hid (cup_C C_f.out m1 H8.out)
          by_cases h9 : fits (cupL f (a + b)) = true
          · have H9 := Lib.hid h9
            clear h9
            go_wp2_with fail
            refine (pup_any A_p n_f c_p (cupL f a) (b) _ (s_p) (by omega) k1 (by omega) (cupL f (a + b)) (0) (n_f) (cup_yes C_p.out (by rw [up_up C_f.out]; exact H9.out) (up_up C_f.out)) ((tab_len _ _).trans C_f.out.len)).mono ?_
            rintro e w114 ⟨A_q, c_q, rfl, s_q, l_q, bb114⟩
            have b114 := belLit0 b113 bb114
            replace s_f := slLit0 s_f bb114
            replace s_g := slLit0 s_g bb114
            replace s_h := slLit0 s_h bb114
            replace s_p := slLit0 s_p bb114
            clear b113 bb114
            go_wp2_with fail
            refine (pup_any A_f n_f c_f (f) (a + b) _ (s_f) (by omega) (by omega) (by omega) (cupL f (a + b)) (0) (n_f) (cup_yes C_f.out H9.out rfl) ((tab_len _ _).trans C_f.out.len)).mono ?_
            rintro e w115 ⟨A_r, c_r, rfl, s_r, l_r, bb115⟩
            have b115 := belLit0 b114 bb115
            replace s_f := slLit0 s_f bb115
            replace s_g := slLit0 s_g bb115
            replace s_h := slLit0 s_h bb115
            replace s_p := slLit0 s_p bb115
            replace s_q := slLit0 s_q bb115
            clear b114 bb115
            go_wp2_with fail
            refine (same_t A_q n_f c_q (cupL f (a + b)) (0) A_r n_f c_r (cupL f (a + b)) (0) _ (s_q) (s_r) (by omega) (by omega) (.inl rfl) (.inl rfl) (true) (by unfold sameB; simp)).mono ?_
            rintro e w116 ⟨rfl, bb116⟩
            have b116 := belLit0 b115 bb116
            replace s_f := slLit0 s_f bb116
            replace s_g := slLit0 s_g bb116
            replace s_h := slLit0 s_h bb116
            replace s_p := slLit0 s_p bb116
            replace s_q := slLit0 s_q bb116
            replace s_r := slLit0 s_r bb116
            clear b115 bb116
            clear s_f s_g s_h s_p s_q s_r
            go_wp2_with fail
            go_ret
            exact ⟨rfl, b116⟩
          · have H9 := Lib.hid h9
            clear h9
            go_wp2_with fail
            refine (pup_any A_p n_f c_p (cupL f a) (b) _ (s_p) (by omega) k1 (by omega) ([]) (2) (0) (cup_no C_p.out (by rw [up_up C_f.out]; exact H9.out)) (rfl)).mono ?_
            rintro e w117 ⟨A_q, c_q, rfl, s_q, l_q, bb117⟩
            have b117 := belLit0 b113 bb117
            replace s_f := slLit0 s_f bb117
            replace s_g := slLit0 s_g bb117
            replace s_h := slLit0 s_h bb117
            replace s_p := slLit0 s_p bb117
            clear b113 bb117
            go_wp2_with fail
            refine (pup_any A_f n_f c_f (f) (a + b) _ (s_f) (by omega) (by omega) (by omega) ([]) (2) (0) (cup_no C_f.out H9.out) (rfl)).mono ?_
            rintro e w118 ⟨A_r, c_r, rfl, s_r, l_r, bb118⟩
            have b118 := belLit0 b117 bb118
            replace s_f := slLit0 s_f bb118
            replace s_g := slLit0 s_g bb118
            replace s_h := slLit0 s_h bb118
            replace s_p := slLit0 s_p bb118
            replace s_q := slLit0 s_q bb118
            clear b117 bb118
            go_wp2_with fail
            refine (same_t A_q 0 c_q ([]) (2) A_r 0 c_r ([]) (2) _ (s_q) (s_r) (by omega) (by omega) (.inr rfl) (.inr rfl) (true) (rfl)).mono ?_
            rintro e w119 ⟨rfl, bb119⟩
            have b119 := belLit0 b118 bb119
            replace s_f := slLit0 s_f bb119
            replace s_g := slLit0 s_g bb119
            replace s_h := slLit0 s_h bb119
            replace s_p := slLit0 s_p bb119
            replace s_q := slLit0 s_q bb119
            replace s_r := slLit0 s_r bb119
            clear b118 bb119
            clear s_f s_g s_h s_p s_q s_r
            go_wp2_with fail
            go_ret
            exact ⟨rfl, b119⟩
        · have H8 := Lib.hid h8
          clear h8
          go_wp2_with fail
          refine (pup_any A_f n_f c_f (f) (a) _ (s_f) (by omega) m1 (by omega) ([]) (2) (0) (cup_no C_f.out H8.out) (rfl)).mono ?_
          rintro e w120 ⟨A_p, c_p, rfl, s_p, l_p, bb120⟩
          have b120 := belLit0 b110 bb120
          replace s_f := slLit0 s_f bb120
          replace s_g := slLit0 s_g bb120
          replace s_h := slLit0 s_h bb120
          clear b110 bb120
          clear s_f s_g s_h s_p
          go_wp2_with fail
          go_ret
          exact ⟨rfl, b120⟩
      · have H3 := Lib.hid h3
        clear h3
        have SC := Lib.hid (sum_comm_ C_f.out C_g.out)
        go_wp2_with fail
        refine (psum_any A_f n_f c_f (f) A_g n_f c_g (g) _ (s_f) (s_g) (by omega) (by omega)  ([]) (2) (0) (csum_no C_f.out C_g.out H1.out) (rfl)).mono ?_
        rintro e w121 ⟨A_a, c_a, rfl, s_a, l_a, bb121⟩
        have b121 := belLit0 b4 bb121
        replace s_f := slLit0 s_f bb121
        replace s_g := slLit0 s_g bb121
        replace s_h := slLit0 s_h bb121
        clear b4 bb121
        go_wp2_with fail
        refine (psum_any A_g n_f c_g (g) A_f n_f c_f (f) _ (s_g) (s_f) (by omega) (by omega)  ([]) (2) (0) (csum_no C_g.out C_f.out (by rw [← SC.out]; exact H1.out)) (rfl)).mono ?_
        rintro e w122 ⟨A_b, c_b, rfl, s_b, l_b, bb122⟩
        have b122 := belLit0 b121 bb122
        replace s_f := slLit0 s_f bb122
        replace s_g := slLit0 s_g bb122
        replace s_h := slLit0 s_h bb122
        replace s_a := slLit0 s_a bb122
        clear b121 bb122
        go_wp2_with fail
        refine (same_t A_a 0 c_a ([]) (2) A_b 0 c_b ([]) (2) _ (s_a) (s_b) (by omega) (by omega) (.inr rfl) (.inr rfl) (true) (rfl)).mono ?_
        rintro e w123 ⟨rfl, bb123⟩
        have b123 := belLit0 b122 bb123
        replace s_f := slLit0 s_f bb123
        replace s_g := slLit0 s_g bb123
        replace s_h := slLit0 s_h bb123
        replace s_a := slLit0 s_a bb123
        replace s_b := slLit0 s_b bb123
        clear b122 bb123
        clear s_b l_b
        go_wp2_with fail
        refine (pmin_any A_g n_f c_g (g) A_h n_f c_h (h) _ (s_g) (s_h) (by omega) (by omega)  (cminL (g) (h)) (0) (n_f) (cmin_yes C_g.out C_h.out (rfl)) ((tab_len _ _).trans C_g.out.len)).mono ?_
        rintro e w124 ⟨A_gh, c_gh, rfl, s_gh, l_gh, bb124⟩
        have b124 := belLit0 b123 bb124
        replace s_f := slLit0 s_f bb124
        replace s_g := slLit0 s_g bb124
        replace s_h := slLit0 s_h bb124
        replace s_a := slLit0 s_a bb124
        clear b123 bb124
        have C_gh := Lib.hid (cmin_C C_g.out C_h.out)
        go_wp2_with fail
        refine (psum_any A_f n_f c_f (f) A_gh n_f c_gh (cminL (g) (h)) _ (s_f) (s_gh) (by omega) (by omega)  ([]) (2) (0) (csum_no C_f.out C_gh.out H2.out) (rfl)).mono ?_
        rintro e w125 ⟨A_x, c_x, rfl, s_x, l_x, bb125⟩
        have b125 := belLit0 b124 bb125
        replace s_f := slLit0 s_f bb125
        replace s_g := slLit0 s_g bb125
        replace s_h := slLit0 s_h bb125
        replace s_a := slLit0 s_a bb125
        replace s_gh := slLit0 s_gh bb125
        clear b124 bb125
        go_wp2_with fail
        refine (psum_any A_f n_f c_f (f) A_h n_f c_h (h) _ (s_f) (s_h) (by omega) (by omega)  ([]) (2) (0) (csum_no C_f.out C_h.out H3.out) (rfl)).mono ?_
        rintro e w126 ⟨A_fh, c_fh, rfl, s_fh, l_fh, bb126⟩
        have b126 := belLit0 b125 bb126
        replace s_f := slLit0 s_f bb126
        replace s_g := slLit0 s_g bb126
        replace s_h := slLit0 s_h bb126
        replace s_a := slLit0 s_a bb126
        replace s_gh := slLit0 s_gh bb126
        replace s_x := slLit0 s_x bb126
        clear b125 bb126
        clear s_x l_x
        clear s_fh l_fh
        clear s_gh l_gh
        clear s_a l_a
        go_wp2_with fail
        refine (within_t (m) (1000) _   (by omega) (by omega) (within m 1000) (rfl)).mono ?_
        rintro e w127 ⟨rfl, rfl⟩
        go_wp2_with fail
        refine (within_t (k) (1000) _   (by omega) (by omega) (within k 1000) (rfl)).mono ?_
        rintro e w128 ⟨rfl, rfl⟩
        have m1 := within_lo m 1000 (by omega)
        have m2 := within_hi m 1000 (by omega)
        have k1 := within_lo k 1000 (by omega)
        have k2 := within_hi k 1000 (by omega)
        generalize within m 1000 = a at *
        generalize within k 1000 = b at *
        by_cases h8 : fits (cupL f a) = true
        · have H8 := Lib.hid h8
          clear h8
          go_wp2_with fail
          refine (pup_any A_f n_f c_f (f) (a) _ (s_f) (by omega) m1 (by omega) (cupL f a) (0) (n_f) (cup_yes C_f.out H8.out rfl) ((tab_len _ _).trans C_f.out.len)).mono ?_
          rintro e w129 ⟨A_p, c_p, rfl, s_p, l_p, bb129⟩
          have b129 := belLit0 b126 bb129
          replace s_f := slLit0 s_f bb129
          replace s_g := slLit0 s_g bb129
          replace s_h := slLit0 s_h bb129
          clear b126 bb129
          have C_p := Lib.hid (cup_C C_f.out m1 H8.out)
          by_cases h9 : fits (cupL f (a + b)) = true
          · have H9 := Lib.hid h9
            clear h9
            go_wp2_with fail
            refine (pup_any A_p n_f c_p (cupL f a) (b) _ (s_p) (by omega) k1 (by omega) (cupL f (a + b)) (0) (n_f) (cup_yes C_p.out (by rw [up_up C_f.out]; exact H9.out) (up_up C_f.out)) ((tab_len _ _).trans C_f.out.len)).mono ?_
            rintro e w130 ⟨A_q, c_q, rfl, s_q, l_q, bb130⟩
            have b130 := belLit0 b129 bb130
            replace s_f := slLit0 s_f bb130
            replace s_g := slLit0 s_g bb130
            replace s_h := slLit0 s_h bb130
            replace s_p := slLit0 s_p bb130
            clear b129 bb130
            go_wp2_with fail
            refine (pup_any A_f n_f c_f (f) (a + b) _ (s_f) (by omega) (by omega) (by omega) (cupL f (a + b)) (0) (n_f) (cup_yes C_f.out H9.out rfl) ((tab_len _ _).trans C_f.out.len)).mono ?_
            rintro e w131 ⟨A_r, c_r, rfl, s_r, l_r, bb131⟩
            have b131 := belLit0 b130 bb131
            replace s_f := slLit0 s_f bb131
            replace s_g := slLit0 s_g bb131
            replace s_h := slLit0 s_h bb131
            replace s_p := slLit0 s_p bb131
            replace s_q := slLit0 s_q bb131
            clear b130 bb131
            go_wp2_with fail
            refine (same_t A_q n_f c_q (cupL f (a + b)) (0) A_r n_f c_r (cupL f (a + b)) (0) _ (s_q) (s_r) (by omega) (by omega) (.inl rfl) (.inl rfl) (true) (by unfold sameB; simp)).mono ?_
            rintro e w132 ⟨rfl, bb132⟩
            have b132 := belLit0 b131 bb132
            replace s_f := slLit0 s_f bb132
            replace s_g := slLit0 s_g bb132
            replace s_h := slLit0 s_h bb132
            replace s_p := slLit0 s_p bb132
            replace s_q := slLit0 s_q bb132
            replace s_r := slLit0 s_r bb132
            clear b131 bb132
            clear s_f s_g s_h s_p s_q s_r
            go_wp2_with fail
            go_ret
            exact ⟨rfl, b132⟩
          · have H9 := Lib.hid h9
            clear h9
            go_wp2_with fail
            refine (pup_any A_p n_f c_p (cupL f a) (b) _ (s_p) (by omega) k1 (by omega) ([]) (2) (0) (cup_no C_p.out (by rw [up_up C_f.out]; exact H9.out)) (rfl)).mono ?_
            rintro e w133 ⟨A_q, c_q, rfl, s_q, l_q, bb133⟩
            have b133 := belLit0 b129 bb133
            replace s_f := slLit0 s_f bb133
            replace s_g := slLit0 s_g bb133
            replace s_h := slLit0 s_h bb133
            replace s_p := slLit0 s_p bb133
            clear b129 bb133
            go_wp2_with fail
            refine (pup_any A_f n_f c_f (f) (a + b) _ (s_f) (by omega) (by omega) (by omega) ([]) (2) (0) (cup_no C_f.out H9.out) (rfl)).mono ?_
            rintro e w134 ⟨A_r, c_r, rfl, s_r, l_r, bb134⟩
            have b134 := belLit0 b133 bb134
            replace s_f := slLit0 s_f bb134
            replace s_g := slLit0 s_g bb134
            replace s_h := slLit0 s_h bb134
            replace s_p := slLit0 s_p bb134
            replace s_q := slLit0 s_q bb134
            clear b133 bb134
            go_wp2_with fail
            refine (same_t A_q 0 c_q ([]) (2) A_r 0 c_r ([]) (2) _ (s_q) (s_r) (by omega) (by omega) (.inr rfl) (.inr rfl) (true) (rfl)).mono ?_
            rintro e w135 ⟨rfl, bb135⟩
            have b135 := belLit0 b134 bb135
            replace s_f := slLit0 s_f bb135
            replace s_g := slLit0 s_g bb135
            replace s_h := slLit0 s_h bb135
            replace s_p := slLit0 s_p bb135
            replace s_q := slLit0 s_q bb135
            replace s_r := slLit0 s_r bb135
            clear b134 bb135
            clear s_f s_g s_h s_p s_q s_r
            go_wp2_with fail
            go_ret
            exact ⟨rfl, b135⟩
        · have H8 := Lib.hid h8
          clear h8
          go_wp2_with fail
          refine (pup_any A_f n_f c_f (f) (a) _ (s_f) (by omega) m1 (by omega) ([]) (2) (0) (cup_no C_f.out H8.out) (rfl)).mono ?_
          rintro e w136 ⟨A_p, c_p, rfl, s_p, l_p, bb136⟩
          have b136 := belLit0 b126 bb136
          replace s_f := slLit0 s_f bb136
          replace s_g := slLit0 s_g bb136
          replace s_h := slLit0 s_h bb136
          clear b126 bb136
          clear s_f s_g s_h s_p
          go_wp2_with fail
          go_ret
          exact ⟨rfl, b136⟩
end Go.Proofs.Ytmdoecegmdkigaa
