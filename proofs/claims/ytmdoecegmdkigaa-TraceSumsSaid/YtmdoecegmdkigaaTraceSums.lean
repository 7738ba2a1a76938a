/- TraceSums: conformance to two curves is conformance to their minimum, and aggregates conform to the sum. -/
import Derived.Test.YtmdoecegmdkigaaBoundA
import Derived.Test.YtmdoecegmdkigaaPointA
import Derived.Test.YtmdoecegmdkigaaLawKit
set_option linter.unusedVariables false
namespace Go.Proofs.Ytmdoecegmdkigaa
open Go.RowKit
theorem fit_min {n : Nat} {f a b : List Int} (ha : IsC n a) : fitB n f (cminL a b) = (fitB n f a && fitB n f b) := by
  unfold fitB
  rw [Bool.eq_iff_iff, Bool.and_eq_true, decide_eq_true_iff, decide_eq_true_iff, decide_eq_true_iff]
  constructor
  · intro h
    refine ⟨fun t ht s hs => ?_, fun t ht s hs => ?_⟩ <;> (have := h t ht s hs; rw [cmin_get ha.len (by omega)] at this; have := mn_le (gi a (t - s)) (gi b (t - s)); omega)
  · intro ⟨h1, h2⟩ t ht s hs
    rw [cmin_get ha.len (by omega)]
    have := h1 t ht s hs
    have := h2 t ht s hs
    have := mn_le (gi a (t - s)) (gi b (t - s))
    omega
theorem fit_sum {n : Nat} {f g a b : List Int} (hf : IsC n f) (ha : IsC n a) (h1 : fitB n f a = true) (h2 : fitB n g b = true) : fitB n (csumL f g) (csumL a b) = true := by
  have h1 := of_decide_eq_true h1
  have h2 := of_decide_eq_true h2
  refine decide_eq_true fun t ht s hs => ?_
  rw [csum_get hf.len ht, csum_get hf.len (by omega), csum_get ha.len (by omega)]
  have := h1 t ht s hs
  have := h2 t ht s hs
  omega
set_option maxRecDepth 100000 in
set_option maxHeartbeats 3200000 in
theorem traceSums_walk (A_f : Option Addr) (n_f c_f : Nat) (f : List Int) (A_g : Option Addr) (n_g c_g : Nat) (g : List Int) (A_a : Option Addr) (n_a c_a : Nat) (a : List Int) (A_b : Option Addr) (n_b c_b : Nat) (b : List Int) (W : World) (w_f : InInts W A_f n_f c_f f) (w_g : InInts W A_g n_g c_g g) (w_a : InInts W A_a n_a c_a a) (w_b : InInts W A_b n_b c_b b) :
    Calls Try.prog 10 #[.slice A_f n_f c_f, .slice A_g n_g c_g, .slice A_a n_a c_a, .slice A_b n_b c_b] W fun e w' => e = .returned (.bool true) ∧ Below W.heap.size W w' := by
  obtain ⟨s_f, l_f, r_f, _⟩ := w_f
  obtain ⟨s_g, l_g, r_g, _⟩ := w_g
  obtain ⟨s_a, l_a, r_a, _⟩ := w_a
  obtain ⟨s_b, l_b, r_b, _⟩ := w_b
  have b0 := Below.refl W.heap.size W
  go_enter Try.func10, Try.ntmps10
  go_wp2_with fail
  refine (fits_any _ 2 _ [0, 1] _ 2 _ [0, 0] _ (slMore (Sl.built_ _ (ints [0, 1]) 3 _ rfl rfl) _) (Sl.built_ _ (ints [0, 0]) 3 _ (by simp) rfl) (by omega) (by omega) (isC_iff.2 ⟨by decide +kernel, rfl⟩) (isC_iff.2 ⟨by decide +kernel, rfl⟩) rfl (false) (0) (by decide)).mono ?_
  rintro e w1 ⟨rfl, bb1⟩
  have b1 := belLit2 b0 bb1
  replace s_f := slLit2 s_f bb1
  replace s_g := slLit2 s_g bb1
  replace s_a := slLit2 s_a bb1
  replace s_b := slLit2 s_b bb1
  clear b0 bb1
  go_wp2_with fail
  refine (fits_any _ 2 _ [0, 1] _ 2 _ [0, 1] _ (slMore (Sl.built_ _ (ints [0, 1]) 3 _ rfl rfl) _) (Sl.built_ _ (ints [0, 1]) 3 _ (by simp) rfl) (by omega) (by omega) (isC_iff.2 ⟨by decide +kernel, rfl⟩) (isC_iff.2 ⟨by decide +kernel, rfl⟩) rfl (true) (0) (by decide)).mono ?_
  rintro e w2 ⟨rfl, bb2⟩
  have b2 := belLit2 b1 bb2
  replace s_f := slLit2 s_f bb2
  replace s_g := slLit2 s_g bb2
  replace s_a := slLit2 s_a bb2
  replace s_b := slLit2 s_b bb2
  clear b1 bb2
  have hl_f := s_f.int_len
  have hl_g := s_g.int_len
  have hl_a := s_a.int_len
  have hl_b := s_b.int_len
  by_cases hok : (bothB f g && bothB g a) = true
  case neg =>
    have HOK := Lib.hid (Bool.eq_false_iff.2 hok)
    clear hok hl_f hl_g hl_a hl_b
    go_wp2_with fail
    refine (hthree_t A_f n_f c_f (f) A_g n_g c_g (g) A_a n_a c_a (a) _ (s_f) (s_g) (s_a) (by omega) (by omega) (by omega)  (false) (HOK.out)).mono ?_
    rintro e w3 ⟨rfl, bb3⟩
    have b3 := belLit0 b2 bb3
    replace s_f := slLit0 s_f bb3
    replace s_g := slLit0 s_g bb3
    replace s_a := slLit0 s_a bb3
    replace s_b := slLit0 s_b bb3
    clear b2 bb3
    clear s_f s_g s_a s_b
    go_wp2_with fail
    go_ret
    exact ⟨rfl, b3⟩
  by_cases hok2 : bothB a b = true
  case neg =>
    have HOK := Lib.hid hok
    have HOK2 := Lib.hid (Bool.eq_false_iff.2 hok2)
    clear hok hok2 hl_f hl_g hl_a hl_b
    go_wp2_with fail
    refine (hthree_t A_f n_f c_f (f) A_g n_g c_g (g) A_a n_a c_a (a) _ (s_f) (s_g) (s_a) (by omega) (by omega) (by omega)  (true) (HOK.out)).mono ?_
    rintro e w4 ⟨rfl, bb4⟩
    have b4 := belLit0 b2 bb4
    replace s_f := slLit0 s_f bb4
    replace s_g := slLit0 s_g bb4
    replace s_a := slLit0 s_a bb4
    replace s_b := slLit0 s_b bb4
    clear b2 bb4
    go_wp2_with fail
    refine (hboth_t A_a n_a c_a (a) A_b n_b c_b (b) _ (s_a) (s_b) (by omega) (by omega)  (false) (HOK2.out)).mono ?_
    rintro e w5 ⟨rfl, bb5⟩
    have b5 := belLit0 b4 bb5
    replace s_f := slLit0 s_f bb5
    replace s_g := slLit0 s_g bb5
    replace s_a := slLit0 s_a bb5
    replace s_b := slLit0 s_b bb5
    clear b4 bb5
    clear s_f s_g s_a s_b
    go_wp2_with fail
    go_ret
    exact ⟨rfl, b5⟩
  obtain ⟨e1, e2, c_1, c_2, c_3⟩ := three_C hok hl_f hl_g hl_a
  obtain ⟨e3, c_4, c_5⟩ := both_C hok2 c_3.len hl_b
  subst e1 e2 e3
  have HOK := Lib.hid hok
  have HOK2 := Lib.hid hok2
  have C_f := Lib.hid c_1
  have t_f := c_1.top
  have C_g := Lib.hid c_2
  have t_g := c_2.top
  have C_a := Lib.hid c_3
  have t_a := c_3.top
  have C_b := Lib.hid c_5
  have t_b := c_5.top
  clear hok hok2 c_1 c_2 c_3 c_4 c_5 hl_f hl_g hl_a hl_b
  go_wp2_with fail
  refine (hthree_t A_f n_f c_f (f) A_g n_f c_g (g) A_a n_f c_a (a) _ (s_f) (s_g) (s_a) (by omega) (by omega) (by omega)  (true) (HOK.out)).mono ?_
  rintro e w6 ⟨rfl, bb6⟩
  have b6 := belLit0 b2 bb6
  replace s_f := slLit0 s_f bb6
  replace s_g := slLit0 s_g bb6
  replace s_a := slLit0 s_a bb6
  replace s_b := slLit0 s_b bb6
  clear b2 bb6
  go_wp2_with fail
  refine (hboth_t A_a n_f c_a (a) A_b n_f c_b (b) _ (s_a) (s_b) (by omega) (by omega)  (true) (HOK2.out)).mono ?_
  rintro e w7 ⟨rfl, bb7⟩
  have b7 := belLit0 b6 bb7
  replace s_f := slLit0 s_f bb7
  replace s_g := slLit0 s_g bb7
  replace s_a := slLit0 s_a bb7
  replace s_b := slLit0 s_b bb7
  clear b6 bb7
  by_cases h_fa : fitB n_f f a = true
  · have H_fa := Lib.hid h_fa
    clear h_fa
    have B_fa := H_fa
    by_cases h_fb : fitB n_f f b = true
    · have H_fb := Lib.hid h_fb
      clear h_fb
      have B_fb := H_fb
      by_cases h_gb : fitB n_f g b = true
      · have H_gb := Lib.hid h_gb
        clear h_gb
        have B_gb := H_gb
        go_wp2_with fail
        refine (fits_any A_f n_f c_f (f) A_a n_f c_a (a) _ (s_f) (s_a) (by omega) (by omega) C_f.out C_a.out rfl (true) (0) (by rw [B_fa.out])).mono ?_
        rintro e w8 ⟨rfl, bb8⟩
        have b8 := belLit0 b7 bb8
        replace s_f := slLit0 s_f bb8
        replace s_g := slLit0 s_g bb8
        replace s_a := slLit0 s_a bb8
        replace s_b := slLit0 s_b bb8
        clear b7 bb8
        go_wp2_with fail
        refine (fits_any A_f n_f c_f (f) A_b n_f c_b (b) _ (s_f) (s_b) (by omega) (by omega) C_f.out C_b.out rfl (true) (0) (by rw [B_fb.out])).mono ?_
        rintro e w9 ⟨rfl, bb9⟩
        have b9 := belLit0 b8 bb9
        replace s_f := slLit0 s_f bb9
        replace s_g := slLit0 s_g bb9
        replace s_a := slLit0 s_a bb9
        replace s_b := slLit0 s_b bb9
        clear b8 bb9
        go_wp2_with fail
        refine (fits_any A_g n_f c_g (g) A_b n_f c_b (b) _ (s_g) (s_b) (by omega) (by omega) C_g.out C_b.out rfl (true) (0) (by rw [B_gb.out])).mono ?_
        rintro e w10 ⟨rfl, bb10⟩
        have b10 := belLit0 b9 bb10
        replace s_f := slLit0 s_f bb10
        replace s_g := slLit0 s_g bb10
        replace s_a := slLit0 s_a bb10
        replace s_b := slLit0 s_b bb10
        clear b9 bb10
        go_wp2_with fail
        refine (pmin_any A_a n_f c_a (a) A_b n_f c_b (b) _ (s_a) (s_b) (by omega) (by omega)  (cminL (a) (b)) (0) (n_f) (cmin_yes C_a.out C_b.out (rfl)) ((tab_len _ _).trans C_a.out.len)).mono ?_
        rintro e w11 ⟨A_m, c_m, rfl, s_m, l_m, bb11⟩
        have b11 := belLit0 b10 bb11
        replace s_f := slLit0 s_f bb11
        replace s_g := slLit0 s_g bb11
        replace s_a := slLit0 s_a bb11
        replace s_b := slLit0 s_b bb11
        clear b10 bb11
        have C_m := Lib.hid (cmin_C C_a.out C_b.out)
        go_wp2_with fail
        refine (fits_any A_f n_f c_f (f) A_m n_f c_m (cminL (a) (b)) _ (s_f) (s_m) (by omega) (by omega) C_f.out C_m.out rfl (true) (0) (by rw [fit_min C_a.out, B_fa.out, B_fb.out]; rfl)).mono ?_
        rintro e w12 ⟨rfl, bb12⟩
        have b12 := belLit0 b11 bb12
        replace s_f := slLit0 s_f bb12
        replace s_g := slLit0 s_g bb12
        replace s_a := slLit0 s_a bb12
        replace s_b := slLit0 s_b bb12
        replace s_m := slLit0 s_m bb12
        clear b11 bb12
        clear s_m l_m
        by_cases h1 : fits (csumL f g) = true
        · have H1 := Lib.hid h1
          clear h1
          by_cases h2 : fits (csumL a b) = true
          · have H2 := Lib.hid h2
            clear h2
            go_wp2_with fail
            refine (psum_any A_f n_f c_f (f) A_g n_f c_g (g) _ (s_f) (s_g) (by omega) (by omega)  (csumL (f) (g)) (0) (n_f) (csum_yes C_f.out C_g.out H1.out (rfl)) ((tab_len _ _).trans C_f.out.len)).mono ?_
            rintro e w13 ⟨A_x, c_x, rfl, s_x, l_x, bb13⟩
            have b13 := belLit0 b12 bb13
            replace s_f := slLit0 s_f bb13
            replace s_g := slLit0 s_g bb13
            replace s_a := slLit0 s_a bb13
            replace s_b := slLit0 s_b bb13
            clear b12 bb13
            have C_x := Lib.hid (csum_C C_f.out C_g.out H1.out)
            go_wp2_with fail
            refine (psum_any A_a n_f c_a (a) A_b n_f c_b (b) _ (s_a) (s_b) (by omega) (by omega)  (csumL (a) (b)) (0) (n_f) (csum_yes C_a.out C_b.out H2.out (rfl)) ((tab_len _ _).trans C_a.out.len)).mono ?_
            rintro e w14 ⟨A_y, c_y, rfl, s_y, l_y, bb14⟩
            have b14 := belLit0 b13 bb14
            replace s_f := slLit0 s_f bb14
            replace s_g := slLit0 s_g bb14
            replace s_a := slLit0 s_a bb14
            replace s_b := slLit0 s_b bb14
            replace s_x := slLit0 s_x bb14
            clear b13 bb14
            have C_y := Lib.hid (csum_C C_a.out C_b.out H2.out)
            go_wp2_with fail
            refine (fits_any A_x n_f c_x (csumL (f) (g)) A_y n_f c_y (csumL (a) (b)) _ (s_x) (s_y) (by omega) (by omega) C_x.out C_y.out rfl (true) (0) (by rw [fit_sum C_f.out C_a.out B_fa.out B_gb.out])).mono ?_
            rintro e w15 ⟨rfl, bb15⟩
            have b15 := belLit0 b14 bb15
            replace s_f := slLit0 s_f bb15
            replace s_g := slLit0 s_g bb15
            replace s_a := slLit0 s_a bb15
            replace s_b := slLit0 s_b bb15
            replace s_x := slLit0 s_x bb15
            replace s_y := slLit0 s_y bb15
            clear b14 bb15
            clear s_f s_g s_a s_b s_x s_y
            go_wp2_with fail
            go_ret
            exact ⟨rfl, b15⟩
          · have H2 := Lib.hid h2
            clear h2
            go_wp2_with fail
            refine (psum_any A_f n_f c_f (f) A_g n_f c_g (g) _ (s_f) (s_g) (by omega) (by omega)  (csumL (f) (g)) (0) (n_f) (csum_yes C_f.out C_g.out H1.out (rfl)) ((tab_len _ _).trans C_f.out.len)).mono ?_
            rintro e w16 ⟨A_x, c_x, rfl, s_x, l_x, bb16⟩
            have b16 := belLit0 b12 bb16
            replace s_f := slLit0 s_f bb16
            replace s_g := slLit0 s_g bb16
            replace s_a := slLit0 s_a bb16
            replace s_b := slLit0 s_b bb16
            clear b12 bb16
            have C_x := Lib.hid (csum_C C_f.out C_g.out H1.out)
            go_wp2_with fail
            refine (psum_any A_a n_f c_a (a) A_b n_f c_b (b) _ (s_a) (s_b) (by omega) (by omega)  ([]) (2) (0) (csum_no C_a.out C_b.out H2.out) (rfl)).mono ?_
            rintro e w17 ⟨A_y, c_y, rfl, s_y, l_y, bb17⟩
            have b17 := belLit0 b16 bb17
            replace s_f := slLit0 s_f bb17
            replace s_g := slLit0 s_g bb17
            replace s_a := slLit0 s_a bb17
            replace s_b := slLit0 s_b bb17
            replace s_x := slLit0 s_x bb17
            clear b16 bb17
            clear s_f s_g s_a s_b s_x s_y
            go_wp2_with fail
            go_ret
            exact ⟨rfl, b17⟩
        · have H1 := Lib.hid h1
          clear h1
          by_cases h2 : fits (csumL a b) = true
          · have H2 := Lib.hid h2
            clear h2
            go_wp2_with fail
            refine (psum_any A_f n_f c_f (f) A_g n_f c_g (g) _ (s_f) (s_g) (by omega) (by omega)  ([]) (2) (0) (csum_no C_f.out C_g.out H1.out) (rfl)).mono ?_
            rintro e w18 ⟨A_x, c_x, rfl, s_x, l_x, bb18⟩
            have b18 := belLit0 b12 bb18
            replace s_f := slLit0 s_f bb18
            replace s_g := slLit0 s_g bb18
            replace s_a := slLit0 s_a bb18
            replace s_b := slLit0 s_b bb18
            clear b12 bb18
            go_wp2_with fail
            refine (psum_any A_a n_f c_a (a) A_b n_f c_b (b) _ (s_a) (s_b) (by omega) (by omega)  (csumL (a) (b)) (0) (n_f) (csum_yes C_a.out C_b.out H2.out (rfl)) ((tab_len _ _).trans C_a.out.len)).mono ?_
            rintro e w19 ⟨A_y, c_y, rfl, s_y, l_y, bb19⟩
            have b19 := belLit0 b18 bb19
            replace s_f := slLit0 s_f bb19
            replace s_g := slLit0 s_g bb19
            replace s_a := slLit0 s_a bb19
            replace s_b := slLit0 s_b bb19
            replace s_x := slLit0 s_x bb19
            clear b18 bb19
            have C_y := Lib.hid (csum_C C_a.out C_b.out H2.out)
            clear s_f s_g s_a s_b s_x s_y
            go_wp2_with fail
            go_ret
            exact ⟨rfl, b19⟩
          · have H2 := Lib.hid h2
            clear h2
            go_wp2_with fail
            refine (psum_any A_f n_f c_f (f) A_g n_f c_g (g) _ (s_f) (s_g) (by omega) (by omega)  ([]) (2) (0) (csum_no C_f.out C_g.out H1.out) (rfl)).mono ?_
            rintro e w20 ⟨A_x, c_x, rfl, s_x, l_x, bb20⟩
            have b20 := belLit0 b12 bb20
            replace s_f := slLit0 s_f bb20
            replace s_g := slLit0 s_g bb20
            replace s_a := slLit0 s_a bb20
            replace s_b := slLit0 s_b bb20
            clear b12 bb20
            go_wp2_with fail
            refine (psum_any A_a n_f c_a (a) A_b n_f c_b (b) _ (s_a) (s_b) (by omega) (by omega)  ([]) (2) (0) (csum_no C_a.out C_b.out H2.out) (rfl)).mono ?_
            rintro e w21 ⟨A_y, c_y, rfl, s_y, l_y, bb21⟩
            have b21 := belLit0 b20 bb21
            replace s_f := slLit0 s_f bb21
            replace s_g := slLit0 s_g bb21
            replace s_a := slLit0 s_a bb21
            replace s_b := slLit0 s_b bb21
            replace s_x := slLit0 s_x bb21
            clear b20 bb21
            clear s_f s_g s_a s_b s_x s_y
            go_wp2_with fail
            go_ret
            exact ⟨rfl, b21⟩
      · have H_gb := Lib.hid h_gb
        clear h_gb
        have B_gb := Lib.hid (Bool.eq_false_iff.2 H_gb.out)
        go_wp2_with fail
        refine (fits_any A_f n_f c_f (f) A_a n_f c_a (a) _ (s_f) (s_a) (by omega) (by omega) C_f.out C_a.out rfl (true) (0) (by rw [B_fa.out])).mono ?_
        rintro e w22 ⟨rfl, bb22⟩
        have b22 := belLit0 b7 bb22
        replace s_f := slLit0 s_f bb22
        replace s_g := slLit0 s_g bb22
        replace s_a := slLit0 s_a bb22
        replace s_b := slLit0 s_b bb22
        clear b7 bb22
        go_wp2_with fail
        refine (fits_any A_f n_f c_f (f) A_b n_f c_b (b) _ (s_f) (s_b) (by omega) (by omega) C_f.out C_b.out rfl (true) (0) (by rw [B_fb.out])).mono ?_
        rintro e w23 ⟨rfl, bb23⟩
        have b23 := belLit0 b22 bb23
        replace s_f := slLit0 s_f bb23
        replace s_g := slLit0 s_g bb23
        replace s_a := slLit0 s_a bb23
        replace s_b := slLit0 s_b bb23
        clear b22 bb23
        go_wp2_with fail
        refine (fits_any A_g n_f c_g (g) A_b n_f c_b (b) _ (s_g) (s_b) (by omega) (by omega) C_g.out C_b.out rfl (false) (0) (by rw [B_gb.out])).mono ?_
        rintro e w24 ⟨rfl, bb24⟩
        have b24 := belLit0 b23 bb24
        replace s_f := slLit0 s_f bb24
        replace s_g := slLit0 s_g bb24
        replace s_a := slLit0 s_a bb24
        replace s_b := slLit0 s_b bb24
        clear b23 bb24
        go_wp2_with fail
        refine (pmin_any A_a n_f c_a (a) A_b n_f c_b (b) _ (s_a) (s_b) (by omega) (by omega)  (cminL (a) (b)) (0) (n_f) (cmin_yes C_a.out C_b.out (rfl)) ((tab_len _ _).trans C_a.out.len)).mono ?_
        rintro e w25 ⟨A_m, c_m, rfl, s_m, l_m, bb25⟩
        have b25 := belLit0 b24 bb25
        replace s_f := slLit0 s_f bb25
        replace s_g := slLit0 s_g bb25
        replace s_a := slLit0 s_a bb25
        replace s_b := slLit0 s_b bb25
        clear b24 bb25
        have C_m := Lib.hid (cmin_C C_a.out C_b.out)
        go_wp2_with fail
        refine (fits_any A_f n_f c_f (f) A_m n_f c_m (cminL (a) (b)) _ (s_f) (s_m) (by omega) (by omega) C_f.out C_m.out rfl (true) (0) (by rw [fit_min C_a.out, B_fa.out, B_fb.out]; rfl)).mono ?_
        rintro e w26 ⟨rfl, bb26⟩
        have b26 := belLit0 b25 bb26
        replace s_f := slLit0 s_f bb26
        replace s_g := slLit0 s_g bb26
        replace s_a := slLit0 s_a bb26
        replace s_b := slLit0 s_b bb26
        replace s_m := slLit0 s_m bb26
        clear b25 bb26
        clear s_m l_m
        by_cases h1 : fits (csumL f g) = true
        · have H1 := Lib.hid h1
          clear h1
          by_cases h2 : fits (csumL a b) = true
          · have H2 := Lib.hid h2
            clear h2
            go_wp2_with fail
            refine (psum_any A_f n_f c_f (f) A_g n_f c_g (g) _ (s_f) (s_g) (by omega) (by omega)  (csumL (f) (g)) (0) (n_f) (csum_yes C_f.out C_g.out H1.out (rfl)) ((tab_len _ _).trans C_f.out.len)).mono ?_
            rintro e w27 ⟨A_x, c_x, rfl, s_x, l_x, bb27⟩
            have b27 := belLit0 b26 bb27
            replace s_f := slLit0 s_f bb27
            replace s_g := slLit0 s_g bb27
            replace s_a := slLit0 s_a bb27
            replace s_b := slLit0 s_b bb27
            clear b26 bb27
            have C_x := Lib.hid (csum_C C_f.out C_g.out H1.out)
            go_wp2_with fail
            refine (psum_any A_a n_f c_a (a) A_b n_f c_b (b) _ (s_a) (s_b) (by omega) (by omega)  (csumL (a) (b)) (0) (n_f) (csum_yes C_a.out C_b.out H2.out (rfl)) ((tab_len _ _).trans C_a.out.len)).mono ?_
            rintro e w28 ⟨A_y, c_y, rfl, s_y, l_y, bb28⟩
            have b28 := belLit0 b27 bb28
            replace s_f := slLit0 s_f bb28
            replace s_g := slLit0 s_g bb28
            replace s_a := slLit0 s_a bb28
            replace s_b := slLit0 s_b bb28
            replace s_x := slLit0 s_x bb28
            clear b27 bb28
            have C_y := Lib.hid (csum_C C_a.out C_b.out H2.out)
            clear s_f s_g s_a s_b s_x s_y
            go_wp2_with fail
            go_ret
            exact ⟨rfl, b28⟩
          · have H2 := Lib.hid h2
            clear h2
            go_wp2_with fail
            refine (psum_any A_f n_f c_f (f) A_g n_f c_g (g) _ (s_f) (s_g) (by omega) (by omega)  (csumL (f) (g)) (0) (n_f) (csum_yes C_f.out C_g.out H1.out (rfl)) ((tab_len _ _).trans C_f.out.len)).mono ?_
            rintro e w29 ⟨A_x, c_x, rfl, s_x, l_x, bb29⟩
            have b29 := belLit0 b26 bb29
            replace s_f := slLit0 s_f bb29
            replace s_g := slLit0 s_g bb29
            replace s_a := slLit0 s_a bb29
            replace s_b := slLit0 s_b bb29
            clear b26 bb29
            have C_x := Lib.hid (csum_C C_f.out C_g.out H1.out)
            go_wp2_with fail
            refine (psum_any A_a n_f c_a (a) A_b n_f c_b (b) _ (s_a) (s_b) (by omega) (by omega)  ([]) (2) (0) (csum_no C_a.out C_b.out H2.out) (rfl)).mono ?_
            rintro e w30 ⟨A_y, c_y, rfl, s_y, l_y, bb30⟩
            have b30 := belLit0 b29 bb30
            replace s_f := slLit0 s_f bb30
            replace s_g := slLit0 s_g bb30
            replace s_a := slLit0 s_a bb30
            replace s_b := slLit0 s_b bb30
            replace s_x := slLit0 s_x bb30
            clear b29 bb30
            clear s_f s_g s_a s_b s_x s_y
            go_wp2_with fail
            go_ret
            exact ⟨rfl, b30⟩
        · have H1 := Lib.hid h1
          clear h1
          by_cases h2 : fits (csumL a b) = true
          · have H2 := Lib.hid h2
            clear h2
            go_wp2_with fail
            refine (psum_any A_f n_f c_f (f) A_g n_f c_g (g) _ (s_f) (s_g) (by omega) (by omega)  ([]) (2) (0) (csum_no C_f.out C_g.out H1.out) (rfl)).mono ?_
            rintro e w31 ⟨A_x, c_x, rfl, s_x, l_x, bb31⟩
            have b31 := belLit0 b26 bb31
            replace s_f := slLit0 s_f bb31
            replace s_g := slLit0 s_g bb31
            replace s_a := slLit0 s_a bb31
            replace s_b := slLit0 s_b bb31
            clear b26 bb31
            go_wp2_with fail
            refine (psum_any A_a n_f c_a (a) A_b n_f c_b (b) _ (s_a) (s_b) (by omega) (by omega)  (csumL (a) (b)) (0) (n_f) (csum_yes C_a.out C_b.out H2.out (rfl)) ((tab_len _ _).trans C_a.out.len)).mono ?_
            rintro e w32 ⟨A_y, c_y, rfl, s_y, l_y, bb32⟩
            have b32 := belLit0 b31 bb32
            replace s_f := slLit0 s_f bb32
            replace s_g := slLit0 s_g bb32
            replace s_a := slLit0 s_a bb32
            replace s_b := slLit0 s_b bb32
            replace s_x := slLit0 s_x bb32
            clear b31 bb32
            have C_y := Lib.hid (csum_C C_a.out C_b.out H2.out)
            clear s_f s_g s_a s_b s_x s_y
            go_wp2_with fail
            go_ret
            exact ⟨rfl, b32⟩
          · have H2 := Lib.hid h2
            clear h2
            go_wp2_with fail
            refine (psum_any A_f n_f c_f (f) A_g n_f c_g (g) _ (s_f) (s_g) (by omega) (by omega)  ([]) (2) (0) (csum_no C_f.out C_g.out H1.out) (rfl)).mono ?_
            rintro e w33 ⟨A_x, c_x, rfl, s_x, l_x, bb33⟩
            have b33 := belLit0 b26 bb33
            replace s_f := slLit0 s_f bb33
            replace s_g := slLit0 s_g bb33
            replace s_a := slLit0 s_a bb33
            replace s_b := slLit0 s_b bb33
            clear b26 bb33
            go_wp2_with fail
            refine (psum_any A_a n_f c_a (a) A_b n_f c_b (b) _ (s_a) (s_b) (by omega) (by omega)  ([]) (2) (0) (csum_no C_a.out C_b.out H2.out) (rfl)).mono ?_
            rintro e w34 ⟨A_y, c_y, rfl, s_y, l_y, bb34⟩
            have b34 := belLit0 b33 bb34
            replace s_f := slLit0 s_f bb34
            replace s_g := slLit0 s_g bb34
            replace s_a := slLit0 s_a bb34
            replace s_b := slLit0 s_b bb34
            replace s_x := slLit0 s_x bb34
            clear b33 bb34
            clear s_f s_g s_a s_b s_x s_y
            go_wp2_with fail
            go_ret
            exact ⟨rfl, b34⟩
    · have H_fb := Lib.hid h_fb
      clear h_fb
      have B_fb := Lib.hid (Bool.eq_false_iff.2 H_fb.out)
      by_cases h_gb : fitB n_f g b = true
      · have H_gb := Lib.hid h_gb
        clear h_gb
        have B_gb := H_gb
        go_wp2_with fail
        refine (fits_any A_f n_f c_f (f) A_a n_f c_a (a) _ (s_f) (s_a) (by omega) (by omega) C_f.out C_a.out rfl (true) (0) (by rw [B_fa.out])).mono ?_
        rintro e w35 ⟨rfl, bb35⟩
        have b35 := belLit0 b7 bb35
        replace s_f := slLit0 s_f bb35
        replace s_g := slLit0 s_g bb35
        replace s_a := slLit0 s_a bb35
        replace s_b := slLit0 s_b bb35
        clear b7 bb35
        go_wp2_with fail
        refine (fits_any A_f n_f c_f (f) A_b n_f c_b (b) _ (s_f) (s_b) (by omega) (by omega) C_f.out C_b.out rfl (false) (0) (by rw [B_fb.out])).mono ?_
        rintro e w36 ⟨rfl, bb36⟩
        have b36 := belLit0 b35 bb36
        replace s_f := slLit0 s_f bb36
        replace s_g := slLit0 s_g bb36
        replace s_a := slLit0 s_a bb36
        replace s_b := slLit0 s_b bb36
        clear b35 bb36
        go_wp2_with fail
        refine (fits_any A_g n_f c_g (g) A_b n_f c_b (b) _ (s_g) (s_b) (by omega) (by omega) C_g.out C_b.out rfl (true) (0) (by rw [B_gb.out])).mono ?_
        rintro e w37 ⟨rfl, bb37⟩
        have b37 := belLit0 b36 bb37
        replace s_f := slLit0 s_f bb37
        replace s_g := slLit0 s_g bb37
        replace s_a := slLit0 s_a bb37
        replace s_b := slLit0 s_b bb37
        clear b36 bb37
        go_wp2_with fail
        refine (pmin_any A_a n_f c_a (a) A_b n_f c_b (b) _ (s_a) (s_b) (by omega) (by omega)  (cminL (a) (b)) (0) (n_f) (cmin_yes C_a.out C_b.out (rfl)) ((tab_len _ _).trans C_a.out.len)).mono ?_
        rintro e w38 ⟨A_m, c_m, rfl, s_m, l_m, bb38⟩
        have b38 := belLit0 b37 bb38
        replace s_f := slLit0 s_f bb38
        replace s_g := slLit0 s_g bb38
        replace s_a := slLit0 s_a bb38
        replace s_b := slLit0 s_b bb38
        clear b37 bb38
        have C_m := Lib.hid (cmin_C C_a.out C_b.out)
        go_wp2_with fail
        refine (fits_any A_f n_f c_f (f) A_m n_f c_m (cminL (a) (b)) _ (s_f) (s_m) (by omega) (by omega) C_f.out C_m.out rfl (false) (0) (by rw [fit_min C_a.out, B_fa.out, B_fb.out]; rfl)).mono ?_
        rintro e w39 ⟨rfl, bb39⟩
        have b39 := belLit0 b38 bb39
        replace s_f := slLit0 s_f bb39
        replace s_g := slLit0 s_g bb39
        replace s_a := slLit0 s_a bb39
        replace s_b := slLit0 s_b bb39
        replace s_m := slLit0 s_m bb39
        clear b38 bb39
        clear s_m l_m
        by_cases h1 : fits (csumL f g) = true
        · have H1 := Lib.hid h1
          clear h1
          by_cases h2 : fits (csumL a b) = true
          · have H2 := Lib.hid h2
            clear h2
            go_wp2_with fail
            refine (psum_any A_f n_f c_f (f) A_g n_f c_g (g) _ (s_f) (s_g) (by omega) (by omega)  (csumL (f) (g)) (0) (n_f) (csum_yes C_f.out C_g.out H1.out (rfl)) ((tab_len _ _).trans C_f.out.len)).mono ?_
            rintro e w40 ⟨A_x, c_x, rfl, s_x, l_x, bb40⟩
            have b40 := belLit0 b39 bb40
            replace s_f := slLit0 s_f bb40
            replace s_g := slLit0 s_g bb40
            replace s_a := slLit0 s_a bb40
            replace s_b := slLit0 s_b bb40
            clear b39 bb40
            have C_x := Lib.hid (csum_C C_f.out C_g.out H1.out)
            go_wp2_with fail
            refine (psum_any A_a n_f c_a (a) A_b n_f c_b (b) _ (s_a) (s_b) (by omega) (by omega)  (csumL (a) (b)) (0) (n_f) (csum_yes C_a.out C_b.out H2.out (rfl)) ((tab_len _ _).trans C_a.out.len)).mono ?_
            rintro e w41 ⟨A_y, c_y, rfl, s_y, l_y, bb41⟩
            have b41 := belLit0 b40 bb41
            replace s_f := slLit0 s_f bb41
            replace s_g := slLit0 s_g bb41
            replace s_a := slLit0 s_a bb41
            replace s_b := slLit0 s_b bb41
            replace s_x := slLit0 s_x bb41
            clear b40 bb41
            have C_y := Lib.hid (csum_C C_a.out C_b.out H2.out)
            go_wp2_with fail
            refine (fits_any A_x n_f c_x (csumL (f) (g)) A_y n_f c_y (csumL (a) (b)) _ (s_x) (s_y) (by omega) (by omega) C_x.out C_y.out rfl (true) (0) (by rw [fit_sum C_f.out C_a.out B_fa.out B_gb.out])).mono ?_
            rintro e w42 ⟨rfl, bb42⟩
            have b42 := belLit0 b41 bb42
            replace s_f := slLit0 s_f bb42
            replace s_g := slLit0 s_g bb42
            replace s_a := slLit0 s_a bb42
            replace s_b := slLit0 s_b bb42
            replace s_x := slLit0 s_x bb42
            replace s_y := slLit0 s_y bb42
            clear b41 bb42
            clear s_f s_g s_a s_b s_x s_y
            go_wp2_with fail
            go_ret
            exact ⟨rfl, b42⟩
          · have H2 := Lib.hid h2
            clear h2
            go_wp2_with fail
            refine (psum_any A_f n_f c_f (f) A_g n_f c_g (g) _ (s_f) (s_g) (by omega) (by omega)  (csumL (f) (g)) (0) (n_f) (csum_yes C_f.out C_g.out H1.out (rfl)) ((tab_len _ _).trans C_f.out.len)).mono ?_
            rintro e w43 ⟨A_x, c_x, rfl, s_x, l_x, bb43⟩
            have b43 := belLit0 b39 bb43
            replace s_f := slLit0 s_f bb43
            replace s_g := slLit0 s_g bb43
            replace s_a := slLit0 s_a bb43
            replace s_b := slLit0 s_b bb43
            clear b39 bb43
            have C_x := Lib.hid (csum_C C_f.out C_g.out H1.out)
            go_wp2_with fail
            refine (psum_any A_a n_f c_a (a) A_b n_f c_b (b) _ (s_a) (s_b) (by omega) (by omega)  ([]) (2) (0) (csum_no C_a.out C_b.out H2.out) (rfl)).mono ?_
            rintro e w44 ⟨A_y, c_y, rfl, s_y, l_y, bb44⟩
            have b44 := belLit0 b43 bb44
            replace s_f := slLit0 s_f bb44
            replace s_g := slLit0 s_g bb44
            replace s_a := slLit0 s_a bb44
            replace s_b := slLit0 s_b bb44
            replace s_x := slLit0 s_x bb44
            clear b43 bb44
            clear s_f s_g s_a s_b s_x s_y
            go_wp2_with fail
            go_ret
            exact ⟨rfl, b44⟩
        · have H1 := Lib.hid h1
          clear h1
          by_cases h2 : fits (csumL a b) = true
          · have H2 := Lib.hid h2
            clear h2
            go_wp2_with fail
            refine (psum_any A_f n_f c_f (f) A_g n_f c_g (g) _ (s_f) (s_g) (by omega) (by omega)  ([]) (2) (0) (csum_no C_f.out C_g.out H1.out) (rfl)).mono ?_
            rintro e w45 ⟨A_x, c_x, rfl, s_x, l_x, bb45⟩
            have b45 := belLit0 b39 bb45
            replace s_f := slLit0 s_f bb45
            replace s_g := slLit0 s_g bb45
            replace s_a := slLit0 s_a bb45
            replace s_b := slLit0 s_b bb45
            clear b39 bb45
            go_wp2_with fail
            refine (psum_any A_a n_f c_a (a) A_b n_f c_b (b) _ (s_a) (s_b) (by omega) (by omega)  (csumL (a) (b)) (0) (n_f) (csum_yes C_a.out C_b.out H2.out (rfl)) ((tab_len _ _).trans C_a.out.len)).mono ?_
            rintro e w46 ⟨A_y, c_y, rfl, s_y, l_y, bb46⟩
            have b46 := belLit0 b45 bb46
            replace s_f := slLit0 s_f bb46
            replace s_g := slLit0 s_g bb46
            replace s_a := slLit0 s_a bb46
            replace s_b := slLit0 s_b bb46
            replace s_x := slLit0 s_x bb46
            clear b45 bb46
            have C_y := Lib.hid (csum_C C_a.out C_b.out H2.out)
            clear s_f s_g s_a s_b s_x s_y
            go_wp2_with fail
            go_ret
            exact ⟨rfl, b46⟩
          · have H2 := Lib.hid h2
            clear h2
            go_wp2_with fail
            refine (psum_any A_f n_f c_f (f) A_g n_f c_g (g) _ (s_f) (s_g) (by omega) (by omega)  ([]) (2) (0) (csum_no C_f.out C_g.out H1.out) (rfl)).mono ?_
            rintro e w47 ⟨A_x, c_x, rfl, s_x, l_x, bb47⟩
            have b47 := belLit0 b39 bb47
            replace s_f := slLit0 s_f bb47
            replace s_g := slLit0 s_g bb47
            replace s_a := slLit0 s_a bb47
            replace s_b := slLit0 s_b bb47
            clear b39 bb47
            go_wp2_with fail
            refine (psum_any A_a n_f c_a (a) A_b n_f c_b (b) _ (s_a) (s_b) (by omega) (by omega)  ([]) (2) (0) (csum_no C_a.out C_b.out H2.out) (rfl)).mono ?_
            rintro e w48 ⟨A_y, c_y, rfl, s_y, l_y, bb48⟩
            have b48 := belLit0 b47 bb48
            replace s_f := slLit0 s_f bb48
            replace s_g := slLit0 s_g bb48
            replace s_a := slLit0 s_a bb48
            replace s_b := slLit0 s_b bb48
            replace s_x := slLit0 s_x bb48
            clear b47 bb48
            clear s_f s_g s_a s_b s_x s_y
            go_wp2_with fail
            go_ret
            exact ⟨rfl, b48⟩
      · have H_gb := Lib.hid h_gb
        clear h_gb
        have B_gb := Lib.hid (Bool.eq_false_iff.2 H_gb.out)
        go_wp2_with fail
        refine (fits_any A_f n_f c_f (f) A_a n_f c_a (a) _ (s_f) (s_a) (by omega) (by omega) C_f.out C_a.out rfl (true) (0) (by rw [B_fa.out])).mono ?_
        rintro e w49 ⟨rfl, bb49⟩
        have b49 := belLit0 b7 bb49
        replace s_f := slLit0 s_f bb49
        replace s_g := slLit0 s_g bb49
        replace s_a := slLit0 s_a bb49
        replace s_b := slLit0 s_b bb49
        clear b7 bb49
        go_wp2_with fail
        refine (fits_any A_f n_f c_f (f) A_b n_f c_b (b) _ (s_f) (s_b) (by omega) (by omega) C_f.out C_b.out rfl (false) (0) (by rw [B_fb.out])).mono ?_
        rintro e w50 ⟨rfl, bb50⟩
        have b50 := belLit0 b49 bb50
        replace s_f := slLit0 s_f bb50
        replace s_g := slLit0 s_g bb50
        replace s_a := slLit0 s_a bb50
        replace s_b := slLit0 s_b bb50
        clear b49 bb50
        go_wp2_with fail
        refine (fits_any A_g n_f c_g (g) A_b n_f c_b (b) _ (s_g) (s_b) (by omega) (by omega) C_g.out C_b.out rfl (false) (0) (by rw [B_gb.out])).mono ?_
        rintro e w51 ⟨rfl, bb51⟩
        have b51 := belLit0 b50 bb51
        replace s_f := slLit0 s_f bb51
        replace s_g := slLit0 s_g bb51
        replace s_a := slLit0 s_a bb51
        replace s_b := slLit0 s_b bb51
        clear b50 bb51
        go_wp2_with fail
        refine (pmin_any A_a n_f c_a (a) A_b n_f c_b (b) _ (s_a) (s_b) (by omega) (by omega)  (cminL (a) (b)) (0) (n_f) (cmin_yes C_a.out C_b.out (rfl)) ((tab_len _ _).trans C_a.out.len)).mono ?_
        rintro e w52 ⟨A_m, c_m, rfl, s_m, l_m, bb52⟩
        have b52 := belLit0 b51 bb52
        replace s_f := slLit0 s_f bb52
        replace s_g := slLit0 s_g bb52
        replace s_a := slLit0 s_a bb52
        replace s_b := slLit0 s_b bb52
        clear b51 bb52
        have C_m := Lib.hid (cmin_C C_a.out C_b.out)
        go_wp2_with fail
        refine (fits_any A_f n_f c_f (f) A_m n_f c_m (cminL (a) (b)) _ (s_f) (s_m) (by omega) (by omega) C_f.out C_m.out rfl (false) (0) (by rw [fit_min C_a.out, B_fa.out, B_fb.out]; rfl)).mono ?_
        rintro e w53 ⟨rfl, bb53⟩
        have b53 := belLit0 b52 bb53
        replace s_f := slLit0 s_f bb53
        replace s_g := slLit0 s_g bb53
        replace s_a := slLit0 s_a bb53
        replace s_b := slLit0 s_b bb53
        replace s_m := slLit0 s_m bb53
        clear b52 bb53
        clear s_m l_m
        by_cases h1 : fits (csumL f g) = true
        · have H1 := Lib.hid h1
          clear h1
          by_cases h2 : fits (csumL a b) = true
          · have H2 := Lib.hid h2
            clear h2
            go_wp2_with fail
            refine (psum_any A_f n_f c_f (f) A_g n_f c_g (g) _ (s_f) (s_g) (by omega) (by omega)  (csumL (f) (g)) (0) (n_f) (csum_yes C_f.out C_g.out H1.out (rfl)) ((tab_len _ _).trans C_f.out.len)).mono ?_
            rintro e w54 ⟨A_x, c_x, rfl, s_x, l_x, bb54⟩
            have b54 := belLit0 b53 bb54
            replace s_f := slLit0 s_f bb54
            replace s_g := slLit0 s_g bb54
            replace s_a := slLit0 s_a bb54
            replace s_b := slLit0 s_b bb54
            clear b53 bb54
            have C_x := Lib.hid (csum_C C_f.out C_g.out H1.out)
            go_wp2_with fail
            refine (psum_any A_a n_f c_a (a) A_b n_f c_b (b) _ (s_a) (s_b) (by omega) (by omega)  (csumL (a) (b)) (0) (n_f) (csum_yes C_a.out C_b.out H2.out (rfl)) ((tab_len _ _).trans C_a.out.len)).mono ?_
            rintro e w55 ⟨A_y, c_y, rfl, s_y, l_y, bb55⟩
            have b55 := belLit0 b54 bb55
            replace s_f := slLit0 s_f bb55
            replace s_g := slLit0 s_g bb55
            replace s_a := slLit0 s_a bb55
            replace s_b := slLit0 s_b bb55
            replace s_x := slLit0 s_x bb55
            clear b54 bb55
            have C_y := Lib.hid (csum_C C_a.out C_b.out H2.out)
            clear s_f s_g s_a s_b s_x s_y
            go_wp2_with fail
            go_ret
            exact ⟨rfl, b55⟩
          · have H2 := Lib.hid h2
            clear h2
            go_wp2_with fail
            refine (psum_any A_f n_f c_f (f) A_g n_f c_g (g) _ (s_f) (s_g) (by omega) (by omega)  (csumL (f) (g)) (0) (n_f) (csum_yes C_f.out C_g.out H1.out (rfl)) ((tab_len _ _).trans C_f.out.len)).mono ?_
            rintro e w56 ⟨A_x, c_x, rfl, s_x, l_x, bb56⟩
            have b56 := belLit0 b53 bb56
            replace s_f := slLit0 s_f bb56
            replace s_g := slLit0 s_g bb56
            replace s_a := slLit0 s_a bb56
            replace s_b := slLit0 s_b bb56
            clear b53 bb56
            have C_x := Lib.hid (csum_C C_f.out C_g.out H1.out)
            go_wp2_with fail
            refine (psum_any A_a n_f c_a (a) A_b n_f c_b (b) _ (s_a) (s_b) (by omega) (by omega)  ([]) (2) (0) (csum_no C_a.out C_b.out H2.out) (rfl)).mono ?_
            rintro e w57 ⟨A_y, c_y, rfl, s_y, l_y, bb57⟩
            have b57 := belLit0 b56 bb57
            replace s_f := slLit0 s_f bb57
            replace s_g := slLit0 s_g bb57
            replace s_a := slLit0 s_a bb57
            replace s_b := slLit0 s_b bb57
            replace s_x := slLit0 s_x bb57
            clear b56 bb57
            clear s_f s_g s_a s_b s_x s_y
            go_wp2_with fail
            go_ret
            exact ⟨rfl, b57⟩
        · have H1 := Lib.hid h1
          clear h1
          by_cases h2 : fits (csumL a b) = true
          · have H2 := Lib.hid h2
            clear h2
            go_wp2_with fail
            refine (psum_any A_f n_f c_f (f) A_g n_f c_g (g) _ (s_f) (s_g) (by omega) (by omega)  ([]) (2) (0) (csum_no C_f.out C_g.out H1.out) (rfl)).mono ?_
            rintro e w58 ⟨A_x, c_x, rfl, s_x, l_x, bb58⟩
            have b58 := belLit0 b53 bb58
            replace s_f := slLit0 s_f bb58
            replace s_g := slLit0 s_g bb58
            replace s_a := slLit0 s_a bb58
            replace s_b := slLit0 s_b bb58
            clear b53 bb58
            go_wp2_with fail
            refine (psum_any A_a n_f c_a (a) A_b n_f c_b (b) _ (s_a) (s_b) (by omega) (by omega)  (csumL (a) (b)) (0) (n_f) (csum_yes C_a.out C_b.out H2.out (rfl)) ((tab_len _ _).trans C_a.out.len)).mono ?_
            rintro e w59 ⟨A_y, c_y, rfl, s_y, l_y, bb59⟩
            have b59 := belLit0 b58 bb59
            replace s_f := slLit0 s_f bb59
            replace s_g := slLit0 s_g bb59
            replace s_a := slLit0 s_a bb59
            replace s_b := slLit0 s_b bb59
            replace s_x := slLit0 s_x bb59
            clear b58 bb59
            have C_y := Lib.hid (csum_C C_a.out C_b.out H2.out)
            clear s_f s_g s_a s_b s_x s_y
            go_wp2_with fail
            go_ret
            exact ⟨rfl, b59⟩
          · have H2 := Lib.hid h2
            clear h2
            go_wp2_with fail
            refine (psum_any A_f n_f c_f (f) A_g n_f c_g (g) _ (s_f) (s_g) (by omega) (by omega)  ([]) (2) (0) (csum_no C_f.out C_g.out H1.out) (rfl)).mono ?_
            rintro e w60 ⟨A_x, c_x, rfl, s_x, l_x, bb60⟩
            have b60 := belLit0 b53 bb60
            replace s_f := slLit0 s_f bb60
            replace s_g := slLit0 s_g bb60
            replace s_a := slLit0 s_a bb60
            replace s_b := slLit0 s_b bb60
            clear b53 bb60
            go_wp2_with fail
            refine (psum_any A_a n_f c_a (a) A_b n_f c_b (b) _ (s_a) (s_b) (by omega) (by omega)  ([]) (2) (0) (csum_no C_a.out C_b.out H2.out) (rfl)).mono ?_
            rintro e w61 ⟨A_y, c_y, rfl, s_y, l_y, bb61⟩
            have b61 := belLit0 b60 bb61
            replace s_f := slLit0 s_f bb61
            replace s_g := slLit0 s_g bb61
            replace s_a := slLit0 s_a bb61
            replace s_b := slLit0 s_b bb61
            replace s_x := slLit0 s_x bb61
            clear b60 bb61
            clear s_f s_g s_a s_b s_x s_y
            go_wp2_with fail
            go_ret
            exact ⟨rfl, b61⟩
  · have H_fa := Lib.hid h_fa
    clear h_fa
    have B_fa := Lib.hid (Bool.eq_false_iff.2 H_fa.out)
    by_cases h_fb : fitB n_f f b = true
    · have H_fb := Lib.hid h_fb
      clear h_fb
      have B_fb := H_fb
      by_cases h_gb : fitB n_f g b = true
      · have H_gb := Lib.hid h_gb
        clear h_gb
        have B_gb := H_gb
        go_wp2_with fail
        refine (fits_any A_f n_f c_f (f) A_a n_f c_a (a) _ (s_f) (s_a) (by omega) (by omega) C_f.out C_a.out rfl (false) (0) (by rw [B_fa.out])).mono ?_
        rintro e w62 ⟨rfl, bb62⟩
        have b62 := belLit0 b7 bb62
        replace s_f := slLit0 s_f bb62
        replace s_g := slLit0 s_g bb62
        replace s_a := slLit0 s_a bb62
        replace s_b := slLit0 s_b bb62
        clear b7 bb62
        go_wp2_with fail
        refine (fits_any A_f n_f c_f (f) A_b n_f c_b (b) _ (s_f) (s_b) (by omega) (by omega) C_f.out C_b.out rfl (true) (0) (by rw [B_fb.out])).mono ?_
        rintro e w63 ⟨rfl, bb63⟩
        have b63 := belLit0 b62 bb63
        replace s_f := slLit0 s_f bb63
        replace s_g := slLit0 s_g bb63
        replace s_a := slLit0 s_a bb63
        replace s_b := slLit0 s_b bb63
        clear b62 bb63
        go_wp2_with fail
        refine (fits_any A_g n_f c_g (g) A_b n_f c_b (b) _ (s_g) (s_b) (by omega) (by omega) C_g.out C_b.out rfl (true) (0) (by rw [B_gb.out])).mono ?_
        rintro e w64 ⟨rfl, bb64⟩
        have b64 := belLit0 b63 bb64
        replace s_f := slLit0 s_f bb64
        replace s_g := slLit0 s_g bb64
        replace s_a := slLit0 s_a bb64
        replace s_b := slLit0 s_b bb64
        clear b63 bb64
        go_wp2_with fail
        refine (pmin_any A_a n_f c_a (a) A_b n_f c_b (b) _ (s_a) (s_b) (by omega) (by omega)  (cminL (a) (b)) (0) (n_f) (cmin_yes C_a.out C_b.out (rfl)) ((tab_len _ _).trans C_a.out.len)).mono ?_
        rintro e w65 ⟨A_m, c_m, rfl, s_m, l_m, bb65⟩
        have b65 := belLit0 b64 bb65
        replace s_f := slLit0 s_f bb65
        replace s_g := slLit0 s_g bb65
        replace s_a := slLit0 s_a bb65
        replace s_b := slLit0 s_b bb65
        clear b64 bb65
        have C_m := Lib.hid (cmin_C C_a.out C_b.out)
        go_wp2_with fail
        refine (fits_any A_f n_f c_f (f) A_m n_f c_m (cminL (a) (b)) _ (s_f) (s_m) (by omega) (by omega) C_f.out C_m.out rfl (false) (0) (by rw [fit_min C_a.out, B_fa.out, B_fb.out]; rfl)).mono ?_
        rintro e w66 ⟨rfl, bb66⟩
        have b66 := belLit0 b65 bb66
        replace s_f := slLit0 s_f bb66
        replace s_g := slLit0 s_g bb66
        replace s_a := slLit0 s_a bb66
        replace s_b := slLit0 s_b bb66
        replace s_m := slLit0 s_m bb66
        clear b65 bb66
        clear s_m l_m
        by_cases h1 : fits (csumL f g) = true
        · have H1 := Lib.hid h1
          clear h1
          by_cases h2 : fits (csumL a b) = true
          · have H2 := Lib.hid h2
            clear h2
            go_wp2_with fail
            refine (psum_any A_f n_f c_f (f) A_g n_f c_g (g) _ (s_f) (s_g) (by omega) (by omega)  (csumL (f) (g)) (0) (n_f) (csum_yes C_f.out C_g.out H1.out (rfl)) ((tab_len _ _).trans C_f.out.len)).mono ?_
            rintro e w67 ⟨A_x, c_x, rfl, s_x, l_x, bb67⟩
            have b67 := belLit0 b66 bb67
            replace s_f := slLit0 s_f bb67
            replace s_g := slLit0 s_g bb67
            replace s_a := slLit0 s_a bb67
            replace s_b := slLit0 s_b bb67
            clear b66 bb67
            have C_x := Lib.hid (csum_C C_f.out C_g.out H1.out)
            go_wp2_with fail
            refine (psum_any A_a n_f c_a (a) A_b n_f c_b (b) _ (s_a) (s_b) (by omega) (by omega)  (csumL (a) (b)) (0) (n_f) (csum_yes C_a.out C_b.out H2.out (rfl)) ((tab_len _ _).trans C_a.out.len)).mono ?_
            rintro e w68 ⟨A_y, c_y, rfl, s_y, l_y, bb68⟩
            have b68 := belLit0 b67 bb68
            replace s_f := slLit0 s_f bb68
            replace s_g := slLit0 s_g bb68
            replace s_a := slLit0 s_a bb68
            replace s_b := slLit0 s_b bb68
            replace s_x := slLit0 s_x bb68
            clear b67 bb68
            have C_y := Lib.hid (csum_C C_a.out C_b.out H2.out)
            clear s_f s_g s_a s_b s_x s_y
            go_wp2_with fail
            go_ret
            exact ⟨rfl, b68⟩
          · have H2 := Lib.hid h2
            clear h2
            go_wp2_with fail
            refine (psum_any A_f n_f c_f (f) A_g n_f c_g (g) _ (s_f) (s_g) (by omega) (by omega)  (csumL (f) (g)) (0) (n_f) (csum_yes C_f.out C_g.out H1.out (rfl)) ((tab_len _ _).trans C_f.out.len)).mono ?_
            rintro e w69 ⟨A_x, c_x, rfl, s_x, l_x, bb69⟩
            have b69 := belLit0 b66 bb69
            replace s_f := slLit0 s_f bb69
            replace s_g := slLit0 s_g bb69
            replace s_a := slLit0 s_a bb69
            replace s_b := slLit0 s_b bb69
            clear b66 bb69
            have C_x := Lib.hid (csum_C C_f.out C_g.out H1.out)
            go_wp2_with fail
            refine (psum_any A_a n_f c_a (a) A_b n_f c_b (b) _ (s_a) (s_b) (by omega) (by omega)  ([]) (2) (0) (csum_no C_a.out C_b.out H2.out) (rfl)).mono ?_
            rintro e w70 ⟨A_y, c_y, rfl, s_y, l_y, bb70⟩
            have b70 := belLit0 b69 bb70
            replace s_f := slLit0 s_f bb70
            replace s_g := slLit0 s_g bb70
            replace s_a := slLit0 s_a bb70
            replace s_b := slLit0 s_b bb70
            replace s_x := slLit0 s_x bb70
            clear b69 bb70
            clear s_f s_g s_a s_b s_x s_y
            go_wp2_with fail
            go_ret
            exact ⟨rfl, b70⟩
        · have H1 := Lib.hid h1
          clear h1
          by_cases h2 : fits (csumL a b) = true
          · have H2 := Lib.hid h2
            clear h2
            go_wp2_with fail
            refine (psum_any A_f n_f c_f (f) A_g n_f c_g (g) _ (s_f) (s_g) (by omega) (by omega)  ([]) (2) (0) (csum_no C_f.out C_g.out H1.out) (rfl)).mono ?_
            rintro e w71 ⟨A_x, c_x, rfl, s_x, l_x, bb71⟩
            have b71 := belLit0 b66 bb71
            replace s_f := slLit0 s_f bb71
            replace s_g := slLit0 s_g bb71
            replace s_a := slLit0 s_a bb71
            replace s_b := slLit0 s_b bb71
            clear b66 bb71
            go_wp2_with fail
            refine (psum_any A_a n_f c_a (a) A_b n_f c_b (b) _ (s_a) (s_b) (by omega) (by omega)  (csumL (a) (b)) (0) (n_f) (csum_yes C_a.out C_b.out H2.out (rfl)) ((tab_len _ _).trans C_a.out.len)).mono ?_
            rintro e w72 ⟨A_y, c_y, rfl, s_y, l_y, bb72⟩
            have b72 := belLit0 b71 bb72
            replace s_f := slLit0 s_f bb72
            replace s_g := slLit0 s_g bb72
            replace s_a := slLit0 s_a bb72
            replace s_b := slLit0 s_b bb72
            replace s_x := slLit0 s_x bb72
            clear b71 bb72
            have C_y := Lib.hid (csum_C C_a.out C_b.out H2.out)
            clear s_f s_g s_a s_b s_x s_y
            go_wp2_with fail
            go_ret
            exact ⟨rfl, b72⟩
          · have H2 := Lib.hid h2
            clear h2
            go_wp2_with fail
            refine (psum_any A_f n_f c_f (f) A_g n_f c_g (g) _ (s_f) (s_g) (by omega) (by omega)  ([]) (2) (0) (csum_no C_f.out C_g.out H1.out) (rfl)).mono ?_
            rintro e w73 ⟨A_x, c_x, rfl, s_x, l_x, bb73⟩
            have b73 := belLit0 b66 bb73
            replace s_f := slLit0 s_f bb73
            replace s_g := slLit0 s_g bb73
            replace s_a := slLit0 s_a bb73
            replace s_b := slLit0 s_b bb73
            clear b66 bb73
            go_wp2_with fail
            refine (psum_any A_a n_f c_a (a) A_b n_f c_b (b) _ (s_a) (s_b) (by omega) (by omega)  ([]) (2) (0) (csum_no C_a.out C_b.out H2.out) (rfl)).mono ?_
            rintro e w74 ⟨A_y, c_y, rfl, s_y, l_y, bb74⟩
            have b74 := belLit0 b73 bb74
            replace s_f := slLit0 s_f bb74
            replace s_g := slLit0 s_g bb74
            replace s_a := slLit0 s_a bb74
            replace s_b := slLit0 s_b bb74
            replace s_x := slLit0 s_x bb74
            clear b73 bb74
            clear s_f s_g s_a s_b s_x s_y
            go_wp2_with fail
            go_ret
            exact ⟨rfl, b74⟩
      · have H_gb := Lib.hid h_gb
        clear h_gb
        have B_gb := Lib.hid (Bool.eq_false_iff.2 H_gb.out)
        go_wp2_with fail
        refine (fits_any A_f n_f c_f (f) A_a n_f c_a (a) _ (s_f) (s_a) (by omega) (by omega) C_f.out C_a.out rfl (false) (0) (by rw [B_fa.out])).mono ?_
        rintro e w75 ⟨rfl, bb75⟩
        have b75 := belLit0 b7 bb75
        replace s_f := slLit0 s_f bb75
        replace s_g := slLit0 s_g bb75
        replace s_a := slLit0 s_a bb75
        replace s_b := slLit0 s_b bb75
        clear b7 bb75
        go_wp2_with fail
        refine (fits_any A_f n_f c_f (f) A_b n_f c_b (b) _ (s_f) (s_b) (by omega) (by omega) C_f.out C_b.out rfl (true) (0) (by rw [B_fb.out])).mono ?_
        rintro e w76 ⟨rfl, bb76⟩
        have b76 := belLit0 b75 bb76
        replace s_f := slLit0 s_f bb76
        replace s_g := slLit0 s_g bb76
        replace s_a := slLit0 s_a bb76
        replace s_b := slLit0 s_b bb76
        clear b75 bb76
        go_wp2_with fail
        refine (fits_any A_g n_f c_g (g) A_b n_f c_b (b) _ (s_g) (s_b) (by omega) (by omega) C_g.out C_b.out rfl (false) (0) (by rw [B_gb.out])).mono ?_
        rintro e w77 ⟨rfl, bb77⟩
        have b77 := belLit0 b76 bb77
        replace s_f := slLit0 s_f bb77
        replace s_g := slLit0 s_g bb77
        replace s_a := slLit0 s_a bb77
        replace s_b := slLit0 s_b bb77
        clear b76 bb77
        go_wp2_with fail
        refine (pmin_any A_a n_f c_a (a) A_b n_f c_b (b) _ (s_a) (s_b) (by omega) (by omega)  (cminL (a) (b)) (0) (n_f) (cmin_yes C_a.out C_b.out (rfl)) ((tab_len _ _).trans C_a.out.len)).mono ?_
        rintro e w78 ⟨A_m, c_m, rfl, s_m, l_m, bb78⟩
        have b78 := belLit0 b77 bb78
        replace s_f := slLit0 s_f bb78
        replace s_g := slLit0 s_g bb78
        replace s_a := slLit0 s_a bb78
        replace s_b := slLit0 s_b bb78
        clear b77 bb78
        have C_m := Lib.hid (cmin_C C_a.out C_b.out)
        go_wp2_with fail
        refine (fits_any A_f n_f c_f (f) A_m n_f c_m (cminL (a) (b)) _ (s_f) (s_m) (by omega) (by omega) C_f.out C_m.out rfl (false) (0) (by rw [fit_min C_a.out, B_fa.out, B_fb.out]; rfl)).mono ?_
        rintro e w79 ⟨rfl, bb79⟩
        have b79 := belLit0 b78 bb79
        replace s_f := slLit0 s_f bb79
        replace s_g := slLit0 s_g bb79
        replace s_a := slLit0 s_a bb79
        replace s_b := slLit0 s_b bb79
        replace s_m := slLit0 s_m bb79
        clear b78 bb79
        clear s_m l_m
        by_cases h1 : fits (csumL f g) = true
        · have H1 := Lib.hid h1
          clear h1
          by_cases h2 : fits (csumL a b) = true
          · have H2 := Lib.hid h2
            clear h2
            go_wp2_with fail
            refine (psum_any A_f n_f c_f (f) A_g n_f c_g (g) _ (s_f) (s_g) (by omega) (by omega)  (csumL (f) (g)) (0) (n_f) (csum_yes C_f.out C_g.out H1.out (rfl)) ((tab_len _ _).trans C_f.out.len)).mono ?_
            rintro e w80 ⟨A_x, c_x, rfl, s_x, l_x, bb80⟩
            have b80 := belLit0 b79 bb80
            replace s_f := slLit0 s_f bb80
            replace s_g := slLit0 s_g bb80
            replace s_a := slLit0 s_a bb80
            replace s_b := slLit0 s_b bb80
            clear b79 bb80
            have C_x := Lib.hid (csum_C C_f.out C_g.out H1.out)
            go_wp2_with fail
            refine (psum_any A_a n_f c_a (a) A_b n_f c_b (b) _ (s_a) (s_b) (by omega) (by omega)  (csumL (a) (b)) (0) (n_f) (csum_yes C_a.out C_b.out H2.out (rfl)) ((tab_len _ _).trans C_a.out.len)).mono ?_
            rintro e w81 ⟨A_y, c_y, rfl, s_y, l_y, bb81⟩
            have b81 := belLit0 b80 bb81
            replace s_f := slLit0 s_f bb81
            replace s_g := slLit0 s_g bb81
            replace s_a := slLit0 s_a bb81
            replace s_b := slLit0 s_b bb81
            replace s_x := slLit0 s_x bb81
            clear b80 bb81
            have C_y := Lib.hid (csum_C C_a.out C_b.out H2.out)
            clear s_f s_g s_a s_b s_x s_y
            go_wp2_with fail
            go_ret
            exact ⟨rfl, b81⟩
          · have H2 := Lib.hid h2
            clear h2
            go_wp2_with fail
            refine (psum_any A_f n_f c_f (f) A_g n_f c_g (g) _ (s_f) (s_g) (by omega) (by omega)  (csumL (f) (g)) (0) (n_f) (csum_yes C_f.out C_g.out H1.out (rfl)) ((tab_len _ _).trans C_f.out.len)).mono ?_
            rintro e w82 ⟨A_x, c_x, rfl, s_x, l_x, bb82⟩
            have b82 := belLit0 b79 bb82
            replace s_f := slLit0 s_f bb82
            replace s_g := slLit0 s_g bb82
            replace s_a := slLit0 s_a bb82
            replace s_b := slLit0 s_b bb82
            clear b79 bb82
            have C_x := Lib.hid (csum_C C_f.out C_g.out H1.out)
            go_wp2_with fail
            refine (psum_any A_a n_f c_a (a) A_b n_f c_b (b) _ (s_a) (s_b) (by omega) (by omega)  ([]) (2) (0) (csum_no C_a.out C_b.out H2.out) (rfl)).mono ?_
            rintro e w83 ⟨A_y, c_y, rfl, s_y, l_y, bb83⟩
            have b83 := belLit0 b82 bb83
            replace s_f := slLit0 s_f bb83
            replace s_g := slLit0 s_g bb83
            replace s_a := slLit0 s_a bb83
            replace s_b := slLit0 s_b bb83
            replace s_x := slLit0 s_x bb83
            clear b82 bb83
            clear s_f s_g s_a s_b s_x s_y
            go_wp2_with fail
            go_ret
            exact ⟨rfl, b83⟩
        · have H1 := Lib.hid h1
          clear h1
          by_cases h2 : fits (csumL a b) = true
          · have H2 := Lib.hid h2
            clear h2
            go_wp2_with fail
            refine (psum_any A_f n_f c_f (f) A_g n_f c_g (g) _ (s_f) (s_g) (by omega) (by omega)  ([]) (2) (0) (csum_no C_f.out C_g.out H1.out) (rfl)).mono ?_
            rintro e w84 ⟨A_x, c_x, rfl, s_x, l_x, bb84⟩
            have b84 := belLit0 b79 bb84
            replace s_f := slLit0 s_f bb84
            replace s_g := slLit0 s_g bb84
            replace s_a := slLit0 s_a bb84
            replace s_b := slLit0 s_b bb84
            clear b79 bb84
            go_wp2_with fail
            refine (psum_any A_a n_f c_a (a) A_b n_f c_b (b) _ (s_a) (s_b) (by omega) (by omega)  (csumL (a) (b)) (0) (n_f) (csum_yes C_a.out C_b.out H2.out (rfl)) ((tab_len _ _).trans C_a.out.len)).mono ?_
            rintro e w85 ⟨A_y, c_y, rfl, s_y, l_y, bb85⟩
            have b85 := belLit0 b84 bb85
            replace s_f := slLit0 s_f bb85
            replace s_g := slLit0 s_g bb85
            replace s_a := slLit0 s_a bb85
            replace s_b := slLit0 s_b bb85
            replace s_x := slLit0 s_x bb85
            clear b84 bb85
            have C_y := Lib.hid (csum_C C_a.out C_b.out H2.out)
            clear s_f s_g s_a s_b s_x s_y
            go_wp2_with fail
            go_ret
            exact ⟨rfl, b85⟩
          · have H2 := Lib.hid h2
            clear h2
            go_wp2_with fail
            refine (psum_any A_f n_f c_f (f) A_g n_f c_g (g) _ (s_f) (s_g) (by omega) (by omega)  ([]) (2) (0) (csum_no C_f.out C_g.out H1.out) (rfl)).mono ?_
            rintro e w86 ⟨A_x, c_x, rfl, s_x, l_x, bb86⟩
            have b86 := belLit0 b79 bb86
            replace s_f := slLit0 s_f bb86
            replace s_g := slLit0 s_g bb86
            replace s_a := slLit0 s_a bb86
            replace s_b := slLit0 s_b bb86
            clear b79 bb86
            go_wp2_with fail
            refine (psum_any A_a n_f c_a (a) A_b n_f c_b (b) _ (s_a) (s_b) (by omega) (by omega)  ([]) (2) (0) (csum_no C_a.out C_b.out H2.out) (rfl)).mono ?_
            rintro e w87 ⟨A_y, c_y, rfl, s_y, l_y, bb87⟩
            have b87 := belLit0 b86 bb87
            replace s_f := slLit0 s_f bb87
            replace s_g := slLit0 s_g bb87
            replace s_a := slLit0 s_a bb87
            replace s_b := slLit0 s_b bb87
            replace s_x := slLit0 s_x bb87
            clear b86 bb87
            clear s_f s_g s_a s_b s_x s_y
            go_wp2_with fail
            go_ret
            exact ⟨rfl, b87⟩
    · have H_fb := Lib.hid h_fb
      clear h_fb
      have B_fb := Lib.hid (Bool.eq_false_iff.2 H_fb.out)
      by_cases h_gb : fitB n_f g b = true
      · have H_gb := Lib.hid h_gb
        clear h_gb
        have B_gb := H_gb
        go_wp2_with fail
        refine (fits_any A_f n_f c_f (f) A_a n_f c_a (a) _ (s_f) (s_a) (by omega) (by omega) C_f.out C_a.out rfl (false) (0) (by rw [B_fa.out])).mono ?_
        rintro e w88 ⟨rfl, bb88⟩
        have b88 := belLit0 b7 bb88
        replace s_f := slLit0 s_f bb88
        replace s_g := slLit0 s_g bb88
        replace s_a := slLit0 s_a bb88
        replace s_b := slLit0 s_b bb88
        clear b7 bb88
        go_wp2_with fail
        refine (fits_any A_f n_f c_f (f) A_b n_f c_b (b) _ (s_f) (s_b) (by omega) (by omega) C_f.out C_b.out rfl (false) (0) (by rw [B_fb.out])).mono ?_
        rintro e w89 ⟨rfl, bb89⟩
        have b89 := belLit0 b88 bb89
        replace s_f := slLit0 s_f bb89
        replace s_g := slLit0 s_g bb89
        replace s_a := slLit0 s_a bb89
        replace s_b := slLit0 s_b bb89
        clear b88 bb89
        go_wp2_with fail
        refine (fits_any A_g n_f c_g (g) A_b n_f c_b (b) _ (s_g) (s_b) (by omega) (by omega) C_g.out C_b.out rfl (true) (0) (by rw [B_gb.out])).mono ?_
        rintro e w90 ⟨rfl, bb90⟩
        have b90 := belLit0 b89 bb90
        replace s_f := slLit0 s_f bb90
        replace s_g := slLit0 s_g bb90
        replace s_a := slLit0 s_a bb90
        replace s_b := slLit0 s_b bb90
        clear b89 bb90
        go_wp2_with fail
        refine (pmin_any A_a n_f c_a (a) A_b n_f c_b (b) _ (s_a) (s_b) (by omega) (by omega)  (cminL (a) (b)) (0) (n_f) (cmin_yes C_a.out C_b.out (rfl)) ((tab_len _ _).trans C_a.out.len)).mono ?_
        rintro e w91 ⟨A_m, c_m, rfl, s_m, l_m, bb91⟩
        have b91 := belLit0 b90 bb91
        replace s_f := slLit0 s_f bb91
        replace s_g := slLit0 s_g bb91
        replace s_a := slLit0 s_a bb91
        replace s_b := slLit0 s_b bb91
        clear b90 bb91
        have C_m := Lib.hid (cmin_C C_a.out C_b.out)
        go_wp2_with fail
        refine (fits_any A_f n_f c_f (f) A_m n_f c_m (cminL (a) (b)) _ (s_f) (s_m) (by omega) (by omega) C_f.out C_m.out rfl (false) (0) (by rw [fit_min C_a.out, B_fa.out, B_fb.out]; rfl)).mono ?_
        rintro e w92 ⟨rfl, bb92⟩
        have b92 := belLit0 b91 bb92
        replace s_f := slLit0 s_f bb92
        replace s_g := slLit0 s_g bb92
        replace s_a := slLit0 s_a bb92
        replace s_b := slLit0 s_b bb92
        replace s_m := slLit0 s_m bb92
        clear b91 bb92
        clear s_m l_m
        by_cases h1 : fits (csumL f g) = true
        · have H1 := Lib.hid h1
          clear h1
          by_cases h2 : fits (csumL a b) = true
          · have H2 := Lib.hid h2
            clear h2
            go_wp2_with fail
            refine (psum_any A_f n_f c_f (f) A_g n_f c_g (g) _ (s_f) (s_g) (by omega) (by omega)  (csumL (f) (g)) (0) (n_f) (csum_yes C_f.out C_g.out H1.out (rfl)) ((tab_len _ _).trans C_f.out.len)).mono ?_
            rintro e w93 ⟨A_x, c_x, rfl, s_x, l_x, bb93⟩
            have b93 := belLit0 b92 bb93
            replace s_f := slLit0 s_f bb93
            replace s_g := slLit0 s_g bb93
            replace s_a := slLit0 s_a bb93
            replace s_b := slLit0 s_b bb93
            clear b92 bb93
            have C_x := Lib.hid (csum_C C_f.out C_g.out H1.out)
            go_wp2_with fail
            refine (psum_any A_a n_f c_a (a) A_b n_f c_b (b) _ (s_a) (s_b) (by omega) (by omega)  (csumL (a) (b)) (0) (n_f) (csum_yes C_a.out C_b.out H2.out (rfl)) ((tab_len _ _).trans C_a.out.len)).mono ?_
            rintro e w94 ⟨A_y, c_y, rfl, s_y, l_y, bb94⟩
            have b94 := belLit0 b93 bb94
            replace s_f := slLit0 s_f bb94
            replace s_g := slLit0 s_g bb94
            replace s_a := slLit0 s_a bb94
            replace s_b := slLit0 s_b bb94
            replace s_x := slLit0 s_x bb94
            clear b93 bb94
            have C_y := Lib.hid (csum_C C_a.out C_b.out H2.out)
            clear s_f s_g s_a s_b s_x s_y
            go_wp2_with fail
            go_ret
            exact ⟨rfl, b94⟩
          · have H2 := Lib.hid h2
            clear h2
            go_wp2_with fail
            refine (psum_any A_f n_f c_f (f) A_g n_f c_g (g) _ (s_f) (s_g) (by omega) (by omega)  (csumL (f) (g)) (0) (n_f) (csum_yes C_f.out C_g.out H1.out (rfl)) ((tab_len _ _).trans C_f.out.len)).mono ?_
            rintro e w95 ⟨A_x, c_x, rfl, s_x, l_x, bb95⟩
            have b95 := belLit0 b92 bb95
            replace s_f := slLit0 s_f bb95
            replace s_g := slLit0 s_g bb95
            replace s_a := slLit0 s_a bb95
            replace s_b := slLit0 s_b bb95
            clear b92 bb95
            have C_x := Lib.hid (csum_C C_f.out C_g.out H1.out)
            go_wp2_with fail
            refine (psum_any A_a n_f c_a (a) A_b n_f c_b (b) _ (s_a) (s_b) (by omega) (by omega)  ([]) (2) (0) (csum_no C_a.out C_b.out H2.out) (rfl)).mono ?_
            rintro e w96 ⟨A_y, c_y, rfl, s_y, l_y, bb96⟩
            have b96 := belLit0 b95 bb96
            replace s_f := slLit0 s_f bb96
            replace s_g := slLit0 s_g bb96
            replace s_a := slLit0 s_a bb96
            replace s_b := slLit0 s_b bb96
            replace s_x := slLit0 s_x bb96
            clear b95 bb96
            clear s_f s_g s_a s_b s_x s_y
            go_wp2_with fail
            go_ret
            exact ⟨rfl, b96⟩
        · have H1 := Lib.hid h1
          clear h1
          by_cases h2 : fits (csumL a b) = true
          · have H2 := Lib.hid h2
            clear h2
            go_wp2_with fail
            refine (psum_any A_f n_f c_f (f) A_g n_f c_g (g) _ (s_f) (s_g) (by omega) (by omega)  ([]) (2) (0) (csum_no C_f.out C_g.out H1.out) (rfl)).mono ?_
            rintro e w97 ⟨A_x, c_x, rfl, s_x, l_x, bb97⟩
            have b97 := belLit0 b92 bb97
            replace s_f := slLit0 s_f bb97
            replace s_g := slLit0 s_g bb97
            replace s_a := slLit0 s_a bb97
            replace s_b := slLit0 s_b bb97
            clear b92 bb97
            go_wp2_with fail
            refine (psum_any A_a n_f c_a (a) A_b n_f c_b (b) _ (s_a) (s_b) (by omega) (by omega)  (csumL (a) (b)) (0) (n_f) (csum_yes C_a.out C_b.out H2.out (rfl)) ((tab_len _ _).trans C_a.out.len)).mono ?_
            rintro e w98 ⟨A_y, c_y, rfl, s_y, l_y, bb98⟩
            have b98 := belLit0 b97 bb98
            replace s_f := slLit0 s_f bb98
            replace s_g := slLit0 s_g bb98
            replace s_a := slLit0 s_a bb98
            replace s_b := slLit0 s_b bb98
            replace s_x := slLit0 s_x bb98
            clear b97 bb98
            have C_y := Lib.hid (csum_C C_a.out C_b.out H2.out)
            clear s_f s_g s_a s_b s_x s_y
            go_wp2_with fail
            go_ret
            exact ⟨rfl, b98⟩
          · have H2 := Lib.hid h2
            clear h2
            go_wp2_with fail
            refine (psum_any A_f n_f c_f (f) A_g n_f c_g (g) _ (s_f) (s_g) (by omega) (by omega)  ([]) (2) (0) (csum_no C_f.out C_g.out H1.out) (rfl)).mono ?_
            rintro e w99 ⟨A_x, c_x, rfl, s_x, l_x, bb99⟩
            have b99 := belLit0 b92 bb99
            replace s_f := slLit0 s_f bb99
            replace s_g := slLit0 s_g bb99
            replace s_a := slLit0 s_a bb99
            replace s_b := slLit0 s_b bb99
            clear b92 bb99
            go_wp2_with fail
            refine (psum_any A_a n_f c_a (a) A_b n_f c_b (b) _ (s_a) (s_b) (by omega) (by omega)  ([]) (2) (0) (csum_no C_a.out C_b.out H2.out) (rfl)).mono ?_
            rintro e w100 ⟨A_y, c_y, rfl, s_y, l_y, bb100⟩
            have b100 := belLit0 b99 bb100
            replace s_f := slLit0 s_f bb100
            replace s_g := slLit0 s_g bb100
            replace s_a := slLit0 s_a bb100
            replace s_b := slLit0 s_b bb100
            replace s_x := slLit0 s_x bb100
            clear b99 bb100
            clear s_f s_g s_a s_b s_x s_y
            go_wp2_with fail
            go_ret
            exact ⟨rfl, b100⟩
      · have H_gb := Lib.hid h_gb
        clear h_gb
        have B_gb := Lib.hid (Bool.eq_false_iff.2 H_gb.out)
        go_wp2_with fail
        refine (fits_any A_f n_f c_f (f) A_a n_f c_a (a) _ (s_f) (s_a) (by omega) (by omega) C_f.out C_a.out rfl (false) (0) (by rw [B_fa.out])).mono ?_
        rintro e w101 ⟨rfl, bb101⟩
        have b101 := belLit0 b7 bb101
        replace s_f := slLit0 s_f bb101
        replace s_g := slLit0 s_g bb101
        replace s_a := slLit0 s_a bb101
        replace s_b := slLit0 s_b bb101
        clear b7 bb101
        go_wp2_with fail
        refine (fits_any A_f n_f c_f (f) A_b n_f c_b (b) _ (s_f) (s_b) (by omega) (by omega) C_f.out C_b.out rfl (false) (0) (by rw [B_fb.out])).mono ?_
        rintro e w102 ⟨rfl, bb102⟩
        have b102 := belLit0 b101 bb102
        replace s_f := slLit0 s_f bb102
        replace s_g := slLit0 s_g bb102
        replace s_a := slLit0 s_a bb102
        replace s_b := slLit0 s_b bb102
        clear b101 bb102
        go_wp2_with fail
        refine (fits_any A_g n_f c_g (g) A_b n_f c_b (b) _ (s_g) (s_b) (by omega) (by omega) C_g.out C_b.out rfl (false) (0) (by rw [B_gb.out])).mono ?_
        rintro e w103 ⟨rfl, bb103⟩
        have b103 := belLit0 b102 bb103
        replace s_f := slLit0 s_f bb103
        replace s_g := slLit0 s_g bb103
        replace s_a := slLit0 s_a bb103
        replace s_b := slLit0 s_b bb103
        clear b102 bb103
        go_wp2_with fail
        refine (pmin_any A_a n_f c_a (a) A_b n_f c_b (b) _ (s_a) (s_b) (by omega) (by omega)  (cminL (a) (b)) (0) (n_f) (cmin_yes C_a.out C_b.out (rfl)) ((tab_len _ _).trans C_a.out.len)).mono ?_
        rintro e w104 ⟨A_m, c_m, rfl, s_m, l_m, bb104⟩
        have b104 := belLit0 b103 bb104
        replace s_f := slLit0 s_f bb104
        replace s_g := slLit0 s_g bb104
        replace s_a := slLit0 s_a bb104
        replace s_b := slLit0 s_b bb104
        clear b103 bb104
        have C_m := Lib.hid (cmin_C C_a.out C_b.out)
        go_wp2_with fail
        refine (fits_any A_f n_f c_f (f) A_m n_f c_m (cminL (a) (b)) _ (s_f) (s_m) (by omega) (by omega) C_f.out C_m.out rfl (false) (0) (by rw [fit_min C_a.out, B_fa.out, B_fb.out]; rfl)).mono ?_
        rintro e w105 ⟨rfl, bb105⟩
        have b105 := belLit0 b104 bb105
        replace s_f := slLit0 s_f bb105
        replace s_g := slLit0 s_g bb105
        replace s_a := slLit0 s_a bb105
        replace s_b := slLit0 s_b bb105
        replace s_m := slLit0 s_m bb105
        clear b104 bb105
        clear s_m l_m
        by_cases h1 : fits (csumL f g) = true
        · have H1 := Lib.hid h1
          clear h1
          by_cases h2 : fits (csumL a b) = true
          · have H2 := Lib.hid h2
            clear h2
            go_wp2_with fail
            refine (psum_any A_f n_f c_f (f) A_g n_f c_g (g) _ (s_f) (s_g) (by omega) (by omega)  (csumL (f) (g)) (0) (n_f) (csum_yes C_f.out C_g.out H1.out (rfl)) ((tab_len _ _).trans C_f.out.len)).mono ?_
            rintro e w106 ⟨A_x, c_x, rfl, s_x, l_x, bb106⟩
            have b106 := belLit0 b105 bb106
            replace s_f := slLit0 s_f bb106
            replace s_g := slLit0 s_g bb106
            replace s_a := slLit0 s_a bb106
            replace s_b := slLit0 s_b bb106
            clear b105 bb106
            have C_x := Lib.hid (csum_C C_f.out C_g.out H1.out)
            go_wp2_with fail
            refine (psum_any A_a n_f c_a (a) A_b n_f c_b (b) _ (s_a) (s_b) (by omega) (by omega)  (csumL (a) (b)) (0) (n_f) (csum_yes C_a.out C_b.out H2.out (rfl)) ((tab_len _ _).trans C_a.out.len)).mono ?_
            rintro e w107 ⟨A_y, c_y, rfl, s_y, l_y, bb107⟩
            have b107 := belLit0 b106 bb107
            replace s_f := slLit0 s_f bb107
            replace s_g := slLit0 s_g bb107
            replace s_a := slLit0 s_a bb107
            replace s_b := slLit0 s_b bb107
            replace s_x := slLit0 s_x bb107
            clear b106 bb107
            have C_y := Lib.hid (csum_C C_a.out C_b.out H2.out)
            clear s_f s_g s_a s_b s_x s_y
            go_wp2_with fail
            go_ret
            exact ⟨rfl, b107⟩
          · have H2 := Lib.hid h2
            clear h2
            go_wp2_with fail
            refine (psum_any A_f n_f c_f (f) A_g n_f c_g (g) _ (s_f) (s_g) (by omega) (by omega)  (csumL (f) (g)) (0) (n_f) (csum_yes C_f.out C_g.out H1.out (rfl)) ((tab_len _ _).trans C_f.out.len)).mono ?_
            rintro e w108 ⟨A_x, c_x, rfl, s_x, l_x, bb108⟩
            have b108 := belLit0 b105 bb108
            replace s_f := slLit0 s_f bb108
            replace s_g := slLit0 s_g bb108
            replace s_a := slLit0 s_a bb108
            replace s_b := slLit0 s_b bb108
            clear b105 bb108
            have C_x := Lib.hid (csum_C C_f.out C_g.out H1.out)
            go_wp2_with fail
            refine (psum_any A_a n_f c_a (a) A_b n_f c_b (b) _ (s_a) (s_b) (by omega) (by omega)  ([]) (2) (0) (csum_no C_a.out C_b.out H2.out) (rfl)).mono ?_
            rintro e w109 ⟨A_y, c_y, rfl, s_y, l_y, bb109⟩
            have b109 := belLit0 b108 bb109
            replace s_f := slLit0 s_f bb109
            replace s_g := slLit0 s_g bb109
            replace s_a := slLit0 s_a bb109
            replace s_b := slLit0 s_b bb109
            replace s_x := slLit0 s_x bb109
            clear b108 bb109
            clear s_f s_g s_a s_b s_x s_y
            go_wp2_with fail
            go_ret
            exact ⟨rfl, b109⟩
        · have H1 := Lib.hid h1
          clear h1
          by_cases h2 : fits (csumL a b) = true
          · have H2 := Lib.hid h2
            clear h2
            go_wp2_with fail
            refine (psum_any A_f n_f c_f (f) A_g n_f c_g (g) _ (s_f) (s_g) (by omega) (by omega)  ([]) (2) (0) (csum_no C_f.out C_g.out H1.out) (rfl)).mono ?_
            rintro e w110 ⟨A_x, c_x, rfl, s_x, l_x, bb110⟩
            have b110 := belLit0 b105 bb110
            replace s_f := slLit0 s_f bb110
            replace s_g := slLit0 s_g bb110
            replace s_a := slLit0 s_a bb110
            replace s_b := slLit0 s_b bb110
            clear b105 bb110
            go_wp2_with fail
            refine (psum_any A_a n_f c_a (a) A_b n_f c_b (b) _ (s_a) (s_b) (by omega) (by omega)  (csumL (a) (b)) (0) (n_f) (csum_yes C_a.out C_b.out H2.out (rfl)) ((tab_len _ _).trans C_a.out.len)).mono ?_
            rintro e w111 ⟨A_y, c_y, rfl, s_y, l_y, bb111⟩
            have b111 := belLit0 b110 bb111
            replace s_f := slLit0 s_f bb111
            replace s_g := slLit0 s_g bb111
            replace s_a := slLit0 s_a bb111
            replace s_b := slLit0 s_b bb111
            replace s_x := slLit0 s_x bb111
            clear b110 bb111
            have C_y := Lib.hid (csum_C C_a.out C_b.out H2.out)
            clear s_f s_g s_a s_b s_x s_y
            go_wp2_with fail
            go_ret
            exact ⟨rfl, b111⟩
          · have H2 := Lib.hid h2
            clear h2
            go_wp2_with fail
            refine (psum_any A_f n_f c_f (f) A_g n_f c_g (g) _ (s_f) (s_g) (by omega) (by omega)  ([]) (2) (0) (csum_no C_f.out C_g.out H1.out) (rfl)).mono ?_
            rintro e w112 ⟨A_x, c_x, rfl, s_x, l_x, bb112⟩
            have b112 := belLit0 b105 bb112
            replace s_f := slLit0 s_f bb112
            replace s_g := slLit0 s_g bb112
            replace s_a := slLit0 s_a bb112
            replace s_b := slLit0 s_b bb112
            clear b105 bb112
            go_wp2_with fail
            refine (psum_any A_a n_f c_a (a) A_b n_f c_b (b) _ (s_a) (s_b) (by omega) (by omega)  ([]) (2) (0) (csum_no C_a.out C_b.out H2.out) (rfl)).mono ?_
            rintro e w113 ⟨A_y, c_y, rfl, s_y, l_y, bb113⟩
            have b113 := belLit0 b112 bb113
            replace s_f := slLit0 s_f bb113
            replace s_g := slLit0 s_g bb113
            replace s_a := slLit0 s_a bb113
            replace s_b := slLit0 s_b bb113
            replace s_x := slLit0 s_x bb113
            clear b112 bb113
            clear s_f s_g s_a s_b s_x s_y
            go_wp2_with fail
            go_ret
            exact ⟨rfl, b113⟩
end Go.Proofs.Ytmdoecegmdkigaa
