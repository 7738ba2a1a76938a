/- ConvPowers: convolution powers add up. -/
import Derived.Test.YtkofgejkicjdoaaTimesA
import Derived.Test.YtkofgejkicjdoaaCurveQ
import Derived.Test.YtkofgejkicjdoaaLawKit
set_option linter.unusedVariables false
namespace Go.Proofs.Ytkofgejkicjdoaa
open Go.RowKit
theorem pw_add {n : Nat} {f : List Int} (hf : f.length = n) (a b : Nat) : convL (pwL f a) (pwL f b) = pwL f (a + b + 1) := by
  induction b with
  | zero => rfl
  | succ b ih =>
    show convL (pwL f a) (convL (pwL f b) f) = convL (pwL f (a + b + 1)) f
    rw [← ih, convL_assoc (by rw [pwL_len, pwL_len])]
set_option maxRecDepth 100000 in
set_option maxHeartbeats 3200000 in
theorem convPowers_walk (A_f : Option Addr) (n_f c_f : Nat) (f : List Int) (m : Int) (k : Int) (W : World) (w_f : InInts W A_f n_f c_f f) (w_m : -9223372036854775808 ≤ m ∧ m ≤ 9223372036854775807) (w_k : -9223372036854775808 ≤ k ∧ k ≤ 9223372036854775807) :
    Calls Try.prog 7 #[.slice A_f n_f c_f, .int .i64 m, .int .i64 k] W fun e w' => e = .returned (.bool true) ∧ Below W.heap.size W w' := by
  obtain ⟨s_f, l_f, r_f, _⟩ := w_f
  have b0 := Below.refl W.heap.size W
  go_enter Try.func7, Try.ntmps7
  go_wp2_with fail
  refine (times_any _ 3 _ [0, 3, 4] (2) _ (Sl.built_ _ (ints [0, 3, 4]) 3 _ rfl rfl) (by omega) (isC_iff.2 ⟨by decide +kernel, rfl⟩) (by omega) (by omega) ([0, 3, 4]) (0) (3) (by decide +kernel) (rfl)).mono ?_
  rintro e w1 ⟨A_t0, c_t0, rfl, s_t0, l_t0, bb1⟩
  have b1 := belLit1 b0 bb1
  replace s_f := slLit1 s_f bb1
  clear b0 bb1
  go_wp2_with fail
  refine (equal_t A_t0 (3) c_t0 ([0, 3, 4]) _ 3 _ [0, 3, 4] _ (slMore (s_t0) _) (Sl.built_ _ (ints [0, 3, 4]) 3 _ rfl rfl) (by omega) (by omega)  (true) (by decide)).mono ?_
  rintro e w2 ⟨rfl, bb2⟩
  have b2 := belLit1 b1 bb2
  replace s_f := slLit1 s_f bb2
  replace s_t0 := slLit1 s_t0 bb2
  clear b1 bb2
  clear s_t0 l_t0
  go_wp2_with fail
  refine (times_any _ 3 _ [1, 2, 3] (2) _ (Sl.built_ _ (ints [1, 2, 3]) 3 _ rfl rfl) (by omega) (isC_iff.2 ⟨by decide +kernel, rfl⟩) (by omega) (by omega) ([2, 3, 4]) (0) (3) (by decide +kernel) (rfl)).mono ?_
  rintro e w3 ⟨A_t0, c_t0, rfl, s_t0, l_t0, bb3⟩
  have b3 := belLit1 b2 bb3
  replace s_f := slLit1 s_f bb3
  clear b2 bb3
  go_wp2_with fail
  refine (equal_t A_t0 (3) c_t0 ([2, 3, 4]) _ 3 _ [2, 3, 4] _ (slMore (s_t0) _) (Sl.built_ _ (ints [2, 3, 4]) 3 _ rfl rfl) (by omega) (by omega)  (true) (by decide)).mono ?_
  rintro e w4 ⟨rfl, bb4⟩
  have b4 := belLit1 b3 bb4
  replace s_f := slLit1 s_f bb4
  replace s_t0 := slLit1 s_t0 bb4
  clear b3 bb4
  clear s_t0 l_t0
  have hl_f := s_f.int_len
  by_cases hok : curveErr f = 0
  case neg =>
    have hne : (curveErr f != 0) = true := by simpa using hok
    clear hok hl_f
    go_wp2_with fail
    refine (ccheck_t A_f (n_f) c_f (f) _ (s_f) (by omega)  (curveErr f) (rfl)).mono ?_
    rintro e w5 ⟨rfl, rfl⟩
    clear s_f
    go_wp2_with fail
    go_ret
    exact ⟨rfl, b4⟩
  have cf := isC_of hok
  rw [hl_f] at cf
  have C_f := Lib.hid cf
  have t_f := cf.top
  clear cf hl_f
  have HOK := Lib.hid hok
  clear hok
  go_wp2_with fail
  refine (ccheck_t A_f (n_f) c_f (f) _ (s_f) (by omega)  (0) (HOK.out)).mono ?_
  rintro e w6 ⟨rfl, rfl⟩
  go_wp2_with fail
  refine (within_t (m) (30) _   (by omega) (by omega) (within m 30) (rfl)).mono ?_
  rintro e w7 ⟨rfl, rfl⟩
  have m1 := within_lo m 30 (by omega)
  have m2 := within_hi m 30 (by omega)
  go_wp2_with fail
  refine (within_t (k) (30) _   (by omega) (by omega) (within k 30) (rfl)).mono ?_
  rintro e w8 ⟨rfl, rfl⟩
  have k1 := within_lo k 30 (by omega)
  have k2 := within_hi k 30 (by omega)
  generalize within m 30 = a' at *
  generalize within k 30 = b' at *
  obtain ⟨p, rfl⟩ := Int.eq_ofNat_of_zero_le m1
  obtain ⟨q, rfl⟩ := Int.eq_ofNat_of_zero_le k1
  have E := Lib.hid (pw_add C_f.out.len p q)
  have N1 : Hid ((1 + (p : Int)).toNat - 1 = p) := by show (1 + (p : Int)).toNat - 1 = p; omega
  have N2 : Hid ((1 + (q : Int)).toNat - 1 = q) := by show (1 + (q : Int)).toNat - 1 = q; omega
  have N3 : Hid ((1 + (p : Int) + (1 + (q : Int))).toNat - 1 = p + q + 1) := by show (1 + (p : Int) + (1 + (q : Int))).toNat - 1 = p + q + 1; omega
  by_cases h1 : fits (pwL f p) = true
  · have H1 := Lib.hid h1
    clear h1
    by_cases h2 : fits (pwL f q) = true
    · have H2 := Lib.hid h2
      clear h2
      by_cases h3 : fits (pwL f (p + q + 1)) = true
      · have H3 := Lib.hid h3
        clear h3
        go_wp2_with fail
        refine (times_any A_f (n_f) c_f (f) (1 + (p : Int)) _ (s_f) (by omega) C_f.out (by omega) (by omega) (pwL f (p)) (0) (n_f) (by rw [N1.out, fit_yes H1.out]) ((pwL_len _ _).trans C_f.out.len)).mono ?_
        rintro e w9 ⟨A_a, c_a, rfl, s_a, l_a, bb9⟩
        have b9 := belLit0 b4 bb9
        replace s_f := slLit0 s_f bb9
        clear b4 bb9
        have C_a := Lib.hid (pwL_C C_f.out _ H1.out)
        go_wp2_with fail
        refine (times_any A_f (n_f) c_f (f) (1 + (q : Int)) _ (s_f) (by omega) C_f.out (by omega) (by omega) (pwL f (q)) (0) (n_f) (by rw [N2.out, fit_yes H2.out]) ((pwL_len _ _).trans C_f.out.len)).mono ?_
        rintro e w10 ⟨A_b, c_b, rfl, s_b, l_b, bb10⟩
        have b10 := belLit0 b9 bb10
        replace s_f := slLit0 s_f bb10
        replace s_a := slLit0 s_a bb10
        clear b9 bb10
        have C_b := Lib.hid (pwL_C C_f.out _ H2.out)
        go_wp2_with fail
        refine (times_any A_f (n_f) c_f (f) (1 + (p : Int) + (1 + (q : Int))) _ (s_f) (by omega) C_f.out (by omega) (by omega) (pwL f (p + q + 1)) (0) (n_f) (by rw [N3.out, fit_yes H3.out]) ((pwL_len _ _).trans C_f.out.len)).mono ?_
        rintro e w11 ⟨A_c, c_c, rfl, s_c, l_c, bb11⟩
        have b11 := belLit0 b10 bb11
        replace s_f := slLit0 s_f bb11
        replace s_a := slLit0 s_a bb11
        replace s_b := slLit0 s_b bb11
        clear b10 bb11
        have C_c := Lib.hid (pwL_C C_f.out _ H3.out)
        go_wp2_with fail
        refine (times_any A_f (n_f) c_f (f) (1) _ (s_f) (by omega) C_f.out (by omega) (by omega) (f) (0) (n_f) (by rw [show (1 : Int).toNat - 1 = 0 from rfl, pwL, fit_yes (fits_C C_f.out)]) (C_f.out.len)).mono ?_
        rintro e w12 ⟨A_one, c_one, rfl, s_one, l_one, bb12⟩
        have b12 := belLit0 b11 bb12
        replace s_f := slLit0 s_f bb12
        replace s_a := slLit0 s_a bb12
        replace s_b := slLit0 s_b bb12
        replace s_c := slLit0 s_c bb12
        clear b11 bb12
        go_wp2_with fail
        refine (equal_t A_one (n_f) c_one (f) A_f (n_f) c_f (f) _ (s_one) (s_f) (by omega) (by omega)  (true) (dec_true (rfl))).mono ?_
        rintro e w13 ⟨rfl, bb13⟩
        have b13 := belLit0 b12 bb13
        replace s_f := slLit0 s_f bb13
        replace s_a := slLit0 s_a bb13
        replace s_b := slLit0 s_b bb13
        replace s_c := slLit0 s_c bb13
        replace s_one := slLit0 s_one bb13
        clear b12 bb13
        go_wp2_with fail
        refine (conv_any A_a (n_f) c_a (pwL f (p)) A_b (n_f) c_b (pwL f (q)) _ (s_a) (s_b) (by omega) (by omega)  (pwL f (p + q + 1)) (0) (n_f) (conv_yes C_a.out C_b.out (by rw [E.out]; exact H3.out) E.out) (C_c.out.len)).mono ?_
        rintro e w14 ⟨A_x, c_x, rfl, s_x, l_x, bb14⟩
        have b14 := belLit0 b13 bb14
        replace s_f := slLit0 s_f bb14
        replace s_a := slLit0 s_a bb14
        replace s_b := slLit0 s_b bb14
        replace s_c := slLit0 s_c bb14
        replace s_one := slLit0 s_one bb14
        clear b13 bb14
        go_wp2_with fail
        refine (same_t A_x (n_f) c_x (pwL f (p + q + 1)) (0) A_c (n_f) c_c (pwL f (p + q + 1)) (0) _ (s_x) (s_c) (by omega) (by omega) (.inl rfl) (.inl rfl) (true) (by unfold sameB; simp)).mono ?_
        rintro e w15 ⟨rfl, bb15⟩
        have b15 := belLit0 b14 bb15
        replace s_f := slLit0 s_f bb15
        replace s_a := slLit0 s_a bb15
        replace s_b := slLit0 s_b bb15
        replace s_c := slLit0 s_c bb15
        replace s_one := slLit0 s_one bb15
        replace s_x := slLit0 s_x bb15
        clear b14 bb15
        clear s_f s_a s_b s_c s_one s_x
        go_wp2_with fail
        go_ret
        exact ⟨rfl, b15⟩
      · have H3 := Lib.hid h3
        clear h3
        go_wp2_with fail
        refine (times_any A_f (n_f) c_f (f) (1 + (p : Int)) _ (s_f) (by omega) C_f.out (by omega) (by omega) (pwL f (p)) (0) (n_f) (by rw [N1.out, fit_yes H1.out]) ((pwL_len _ _).trans C_f.out.len)).mono ?_
        rintro e w16 ⟨A_a, c_a, rfl, s_a, l_a, bb16⟩
        have b16 := belLit0 b4 bb16
        replace s_f := slLit0 s_f bb16
        clear b4 bb16
        have C_a := Lib.hid (pwL_C C_f.out _ H1.out)
        go_wp2_with fail
        refine (times_any A_f (n_f) c_f (f) (1 + (q : Int)) _ (s_f) (by omega) C_f.out (by omega) (by omega) (pwL f (q)) (0) (n_f) (by rw [N2.out, fit_yes H2.out]) ((pwL_len _ _).trans C_f.out.len)).mono ?_
        rintro e w17 ⟨A_b, c_b, rfl, s_b, l_b, bb17⟩
        have b17 := belLit0 b16 bb17
        replace s_f := slLit0 s_f bb17
        replace s_a := slLit0 s_a bb17
        clear b16 bb17
        have C_b := Lib.hid (pwL_C C_f.out _ H2.out)
        go_wp2_with fail
        refine (times_any A_f (n_f) c_f (f) (1 + (p : Int) + (1 + (q : Int))) _ (s_f) (by omega) C_f.out (by omega) (by omega) ([]) (2) (0) (by rw [N3.out, fit_no H3.out]) (rfl)).mono ?_
        rintro e w18 ⟨A_c, c_c, rfl, s_c, l_c, bb18⟩
        have b18 := belLit0 b17 bb18
        replace s_f := slLit0 s_f bb18
        replace s_a := slLit0 s_a bb18
        replace s_b := slLit0 s_b bb18
        clear b17 bb18
        go_wp2_with fail
        refine (times_any A_f (n_f) c_f (f) (1) _ (s_f) (by omega) C_f.out (by omega) (by omega) (f) (0) (n_f) (by rw [show (1 : Int).toNat - 1 = 0 from rfl, pwL, fit_yes (fits_C C_f.out)]) (C_f.out.len)).mono ?_
        rintro e w19 ⟨A_one, c_one, rfl, s_one, l_one, bb19⟩
        have b19 := belLit0 b18 bb19
        replace s_f := slLit0 s_f bb19
        replace s_a := slLit0 s_a bb19
        replace s_b := slLit0 s_b bb19
        replace s_c := slLit0 s_c bb19
        clear b18 bb19
        go_wp2_with fail
        refine (equal_t A_one (n_f) c_one (f) A_f (n_f) c_f (f) _ (s_one) (s_f) (by omega) (by omega)  (true) (dec_true (rfl))).mono ?_
        rintro e w20 ⟨rfl, bb20⟩
        have b20 := belLit0 b19 bb20
        replace s_f := slLit0 s_f bb20
        replace s_a := slLit0 s_a bb20
        replace s_b := slLit0 s_b bb20
        replace s_c := slLit0 s_c bb20
        replace s_one := slLit0 s_one bb20
        clear b19 bb20
        go_wp2_with fail
        refine (conv_any A_a (n_f) c_a (pwL f (p)) A_b (n_f) c_b (pwL f (q)) _ (s_a) (s_b) (by omega) (by omega)  ([]) (2) (0) (conv_no C_a.out C_b.out (by rw [E.out]; exact H3.out)) (rfl)).mono ?_
        rintro e w21 ⟨A_x, c_x, rfl, s_x, l_x, bb21⟩
        have b21 := belLit0 b20 bb21
        replace s_f := slLit0 s_f bb21
        replace s_a := slLit0 s_a bb21
        replace s_b := slLit0 s_b bb21
        replace s_c := slLit0 s_c bb21
        replace s_one := slLit0 s_one bb21
        clear b20 bb21
        go_wp2_with fail
        refine (same_t A_x (0) c_x ([]) (2) A_c (0) c_c ([]) (2) _ (s_x) (s_c) (by omega) (by omega) (.inr rfl) (.inr rfl) (true) (rfl)).mono ?_
        rintro e w22 ⟨rfl, bb22⟩
        have b22 := belLit0 b21 bb22
        replace s_f := slLit0 s_f bb22
        replace s_a := slLit0 s_a bb22
        replace s_b := slLit0 s_b bb22
        replace s_c := slLit0 s_c bb22
        replace s_one := slLit0 s_one bb22
        replace s_x := slLit0 s_x bb22
        clear b21 bb22
        clear s_f s_a s_b s_c s_one s_x
        go_wp2_with fail
        go_ret
        exact ⟨rfl, b22⟩
    · have H2 := Lib.hid h2
      clear h2
      by_cases h3 : fits (pwL f (p + q + 1)) = true
      · have H3 := Lib.hid h3
        clear h3
        go_wp2_with fail
        refine (times_any A_f (n_f) c_f (f) (1 + (p : Int)) _ (s_f) (by omega) C_f.out (by omega) (by omega) (pwL f (p)) (0) (n_f) (by rw [N1.out, fit_yes H1.out]) ((pwL_len _ _).trans C_f.out.len)).mono ?_
        rintro e w23 ⟨A_a, c_a, rfl, s_a, l_a, bb23⟩
        have b23 := belLit0 b4 bb23
        replace s_f := slLit0 s_f bb23
        clear b4 bb23
        have C_a := Lib.hid (pwL_C C_f.out _ H1.out)
        go_wp2_with fail
        refine (times_any A_f (n_f) c_f (f) (1 + (q : Int)) _ (s_f) (by omega) C_f.out (by omega) (by omega) ([]) (2) (0) (by rw [N2.out, fit_no H2.out]) (rfl)).mono ?_
        rintro e w24 ⟨A_b, c_b, rfl, s_b, l_b, bb24⟩
        have b24 := belLit0 b23 bb24
        replace s_f := slLit0 s_f bb24
        replace s_a := slLit0 s_a bb24
        clear b23 bb24
        go_wp2_with fail
        refine (times_any A_f (n_f) c_f (f) (1 + (p : Int) + (1 + (q : Int))) _ (s_f) (by omega) C_f.out (by omega) (by omega) (pwL f (p + q + 1)) (0) (n_f) (by rw [N3.out, fit_yes H3.out]) ((pwL_len _ _).trans C_f.out.len)).mono ?_
        rintro e w25 ⟨A_c, c_c, rfl, s_c, l_c, bb25⟩
        have b25 := belLit0 b24 bb25
        replace s_f := slLit0 s_f bb25
        replace s_a := slLit0 s_a bb25
        replace s_b := slLit0 s_b bb25
        clear b24 bb25
        have C_c := Lib.hid (pwL_C C_f.out _ H3.out)
        go_wp2_with fail
        refine (times_any A_f (n_f) c_f (f) (1) _ (s_f) (by omega) C_f.out (by omega) (by omega) (f) (0) (n_f) (by rw [show (1 : Int).toNat - 1 = 0 from rfl, pwL, fit_yes (fits_C C_f.out)]) (C_f.out.len)).mono ?_
        rintro e w26 ⟨A_one, c_one, rfl, s_one, l_one, bb26⟩
        have b26 := belLit0 b25 bb26
        replace s_f := slLit0 s_f bb26
        replace s_a := slLit0 s_a bb26
        replace s_b := slLit0 s_b bb26
        replace s_c := slLit0 s_c bb26
        clear b25 bb26
        go_wp2_with fail
        refine (equal_t A_one (n_f) c_one (f) A_f (n_f) c_f (f) _ (s_one) (s_f) (by omega) (by omega)  (true) (dec_true (rfl))).mono ?_
        rintro e w27 ⟨rfl, bb27⟩
        have b27 := belLit0 b26 bb27
        replace s_f := slLit0 s_f bb27
        replace s_a := slLit0 s_a bb27
        replace s_b := slLit0 s_b bb27
        replace s_c := slLit0 s_c bb27
        replace s_one := slLit0 s_one bb27
        clear b26 bb27
        clear s_f s_a s_b s_c s_one
        go_wp2_with fail
        go_ret
        exact ⟨rfl, b27⟩
      · have H3 := Lib.hid h3
        clear h3
        go_wp2_with fail
        refine (times_any A_f (n_f) c_f (f) (1 + (p : Int)) _ (s_f) (by omega) C_f.out (by omega) (by omega) (pwL f (p)) (0) (n_f) (by rw [N1.out, fit_yes H1.out]) ((pwL_len _ _).trans C_f.out.len)).mono ?_
        rintro e w28 ⟨A_a, c_a, rfl, s_a, l_a, bb28⟩
        have b28 := belLit0 b4 bb28
        replace s_f := slLit0 s_f bb28
        clear b4 bb28
        have C_a := Lib.hid (pwL_C C_f.out _ H1.out)
        go_wp2_with fail
        refine (times_any A_f (n_f) c_f (f) (1 + (q : Int)) _ (s_f) (by omega) C_f.out (by omega) (by omega) ([]) (2) (0) (by rw [N2.out, fit_no H2.out]) (rfl)).mono ?_
        rintro e w29 ⟨A_b, c_b, rfl, s_b, l_b, bb29⟩
        have b29 := belLit0 b28 bb29
        replace s_f := slLit0 s_f bb29
        replace s_a := slLit0 s_a bb29
        clear b28 bb29
        go_wp2_with fail
        refine (times_any A_f (n_f) c_f (f) (1 + (p : Int) + (1 + (q : Int))) _ (s_f) (by omega) C_f.out (by omega) (by omega) ([]) (2) (0) (by rw [N3.out, fit_no H3.out]) (rfl)).mono ?_
        rintro e w30 ⟨A_c, c_c, rfl, s_c, l_c, bb30⟩
        have b30 := belLit0 b29 bb30
        replace s_f := slLit0 s_f bb30
        replace s_a := slLit0 s_a bb30
        replace s_b := slLit0 s_b bb30
        clear b29 bb30
        go_wp2_with fail
        refine (times_any A_f (n_f) c_f (f) (1) _ (s_f) (by omega) C_f.out (by omega) (by omega) (f) (0) (n_f) (by rw [show (1 : Int).toNat - 1 = 0 from rfl, pwL, fit_yes (fits_C C_f.out)]) (C_f.out.len)).mono ?_
        rintro e w31 ⟨A_one, c_one, rfl, s_one, l_one, bb31⟩
        have b31 := belLit0 b30 bb31
        replace s_f := slLit0 s_f bb31
        replace s_a := slLit0 s_a bb31
        replace s_b := slLit0 s_b bb31
        replace s_c := slLit0 s_c bb31
        clear b30 bb31
        go_wp2_with fail
        refine (equal_t A_one (n_f) c_one (f) A_f (n_f) c_f (f) _ (s_one) (s_f) (by omega) (by omega)  (true) (dec_true (rfl))).mono ?_
        rintro e w32 ⟨rfl, bb32⟩
        have b32 := belLit0 b31 bb32
        replace s_f := slLit0 s_f bb32
        replace s_a := slLit0 s_a bb32
        replace s_b := slLit0 s_b bb32
        replace s_c := slLit0 s_c bb32
        replace s_one := slLit0 s_one bb32
        clear b31 bb32
        clear s_f s_a s_b s_c s_one
        go_wp2_with fail
        go_ret
        exact ⟨rfl, b32⟩
  · have H1 := Lib.hid h1
    clear h1
    by_cases h2 : fits (pwL f q) = true
    · have H2 := Lib.hid h2
      clear h2
      by_cases h3 : fits (pwL f (p + q + 1)) = true
      · have H3 := Lib.hid h3
        clear h3
        go_wp2_with fail
        refine (times_any A_f (n_f) c_f (f) (1 + (p : Int)) _ (s_f) (by omega) C_f.out (by omega) (by omega) ([]) (2) (0) (by rw [N1.out, fit_no H1.out]) (rfl)).mono ?_
        rintro e w33 ⟨A_a, c_a, rfl, s_a, l_a, bb33⟩
        have b33 := belLit0 b4 bb33
        replace s_f := slLit0 s_f bb33
        clear b4 bb33
        go_wp2_with fail
        refine (times_any A_f (n_f) c_f (f) (1 + (q : Int)) _ (s_f) (by omega) C_f.out (by omega) (by omega) (pwL f (q)) (0) (n_f) (by rw [N2.out, fit_yes H2.out]) ((pwL_len _ _).trans C_f.out.len)).mono ?_
        rintro e w34 ⟨A_b, c_b, rfl, s_b, l_b, bb34⟩
        have b34 := belLit0 b33 bb34
        replace s_f := slLit0 s_f bb34
        replace s_a := slLit0 s_a bb34
        clear b33 bb34
        have C_b := Lib.hid (pwL_C C_f.out _ H2.out)
        go_wp2_with fail
        refine (times_any A_f (n_f) c_f (f) (1 + (p : Int) + (1 + (q : Int))) _ (s_f) (by omega) C_f.out (by omega) (by omega) (pwL f (p + q + 1)) (0) (n_f) (by rw [N3.out, fit_yes H3.out]) ((pwL_len _ _).trans C_f.out.len)).mono ?_
        rintro e w35 ⟨A_c, c_c, rfl, s_c, l_c, bb35⟩
        have b35 := belLit0 b34 bb35
        replace s_f := slLit0 s_f bb35
        replace s_a := slLit0 s_a bb35
        replace s_b := slLit0 s_b bb35
        clear b34 bb35
        have C_c := Lib.hid (pwL_C C_f.out _ H3.out)
        go_wp2_with fail
        refine (times_any A_f (n_f) c_f (f) (1) _ (s_f) (by omega) C_f.out (by omega) (by omega) (f) (0) (n_f) (by rw [show (1 : Int).toNat - 1 = 0 from rfl, pwL, fit_yes (fits_C C_f.out)]) (C_f.out.len)).mono ?_
        rintro e w36 ⟨A_one, c_one, rfl, s_one, l_one, bb36⟩
        have b36 := belLit0 b35 bb36
        replace s_f := slLit0 s_f bb36
        replace s_a := slLit0 s_a bb36
        replace s_b := slLit0 s_b bb36
        replace s_c := slLit0 s_c bb36
        clear b35 bb36
        go_wp2_with fail
        refine (equal_t A_one (n_f) c_one (f) A_f (n_f) c_f (f) _ (s_one) (s_f) (by omega) (by omega)  (true) (dec_true (rfl))).mono ?_
        rintro e w37 ⟨rfl, bb37⟩
        have b37 := belLit0 b36 bb37
        replace s_f := slLit0 s_f bb37
        replace s_a := slLit0 s_a bb37
        replace s_b := slLit0 s_b bb37
        replace s_c := slLit0 s_c bb37
        replace s_one := slLit0 s_one bb37
        clear b36 bb37
        clear s_f s_a s_b s_c s_one
        go_wp2_with fail
        go_ret
        exact ⟨rfl, b37⟩
      · have H3 := Lib.hid h3
        clear h3
        go_wp2_with fail
        refine (times_any A_f (n_f) c_f (f) (1 + (p : Int)) _ (s_f) (by omega) C_f.out (by omega) (by omega) ([]) (2) (0) (by rw [N1.out, fit_no H1.out]) (rfl)).mono ?_
        rintro e w38 ⟨A_a, c_a, rfl, s_a, l_a, bb38⟩
        have b38 := belLit0 b4 bb38
        replace s_f := slLit0 s_f bb38
        clear b4 bb38
        go_wp2_with fail
        refine (times_any A_f (n_f) c_f (f) (1 + (q : Int)) _ (s_f) (by omega) C_f.out (by omega) (by omega) (pwL f (q)) (0) (n_f) (by rw [N2.out, fit_yes H2.out]) ((pwL_len _ _).trans C_f.out.len)).mono ?_
        rintro e w39 ⟨A_b, c_b, rfl, s_b, l_b, bb39⟩
        have b39 := belLit0 b38 bb39
        replace s_f := slLit0 s_f bb39
        replace s_a := slLit0 s_a bb39
        clear b38 bb39
        have C_b := Lib.hid (pwL_C C_f.out _ H2.out)
        go_wp2_with fail
        refine (times_any A_f (n_f) c_f (f) (1 + (p : Int) + (1 + (q : Int))) _ (s_f) (by omega) C_f.out (by omega) (by omega) ([]) (2) (0) (by rw [N3.out, fit_no H3.out]) (rfl)).mono ?_
        rintro e w40 ⟨A_c, c_c, rfl, s_c, l_c, bb40⟩
        have b40 := belLit0 b39 bb40
        replace s_f := slLit0 s_f bb40
        replace s_a := slLit0 s_a bb40
        replace s_b := slLit0 s_b bb40
        clear b39 bb40
        go_wp2_with fail
        refine (times_any A_f (n_f) c_f (f) (1) _ (s_f) (by omega) C_f.out (by omega) (by omega) (f) (0) (n_f) (by rw [show (1 : Int).toNat - 1 = 0 from rfl, pwL, fit_yes (fits_C C_f.out)]) (C_f.out.len)).mono ?_
        rintro e w41 ⟨A_one, c_one, rfl, s_one, l_one, bb41⟩
        have b41 := belLit0 b40 bb41
        replace s_f := slLit0 s_f bb41
        replace s_a := slLit0 s_a bb41
        replace s_b := slLit0 s_b bb41
        replace s_c := slLit0 s_c bb41
        clear b40 bb41
        go_wp2_with fail
        refine (equal_t A_one (n_f) c_one (f) A_f (n_f) c_f (f) _ (s_one) (s_f) (by omega) (by omega)  (true) (dec_true (rfl))).mono ?_
        rintro e w42 ⟨rfl, bb42⟩
        have b42 := belLit0 b41 bb42
        replace s_f := slLit0 s_f bb42
        replace s_a := slLit0 s_a bb42
        replace s_b := slLit0 s_b bb42
        replace s_c := slLit0 s_c bb42
        replace s_one := slLit0 s_one bb42
        clear b41 bb42
        clear s_f s_a s_b s_c s_one
        go_wp2_with fail
        go_ret
        exact ⟨rfl, b42⟩
    · have H2 := Lib.hid h2
      clear h2
      by_cases h3 : fits (pwL f (p + q + 1)) = true
      · have H3 := Lib.hid h3
        clear h3
        go_wp2_with fail
        refine (times_any A_f (n_f) c_f (f) (1 + (p : Int)) _ (s_f) (by omega) C_f.out (by omega) (by omega) ([]) (2) (0) (by rw [N1.out, fit_no H1.out]) (rfl)).mono ?_
        rintro e w43 ⟨A_a, c_a, rfl, s_a, l_a, bb43⟩
        have b43 := belLit0 b4 bb43
        replace s_f := slLit0 s_f bb43
        clear b4 bb43
        go_wp2_with fail
        refine (times_any A_f (n_f) c_f (f) (1 + (q : Int)) _ (s_f) (by omega) C_f.out (by omega) (by omega) ([]) (2) (0) (by rw [N2.out, fit_no H2.out]) (rfl)).mono ?_
        rintro e w44 ⟨A_b, c_b, rfl, s_b, l_b, bb44⟩
        have b44 := belLit0 b43 bb44
        replace s_f := slLit0 s_f bb44
        replace s_a := slLit0 s_a bb44
        clear b43 bb44
        go_wp2_with fail
        refine (times_any A_f (n_f) c_f (f) (1 + (p : Int) + (1 + (q : Int))) _ (s_f) (by omega) C_f.out (by omega) (by omega) (pwL f (p + q + 1)) (0) (n_f) (by rw [N3.out, fit_yes H3.out]) ((pwL_len _ _).trans C_f.out.len)).mono ?_
        rintro e w45 ⟨A_c, c_c, rfl, s_c, l_c, bb45⟩
        have b45 := belLit0 b44 bb45
        replace s_f := slLit0 s_f bb45
        replace s_a := slLit0 s_a bb45
        replace s_b := slLit0 s_b bb45
        clear b44 bb45
        have C_c := Lib.hid (pwL_C C_f.out _ H3.out)
        go_wp2_with fail
        refine (times_any A_f (n_f) c_f (f) (1) _ (s_f) (by omega) C_f.out (by omega) (by omega) (f) (0) (n_f) (by rw [show (1 : Int).toNat - 1 = 0 from rfl, pwL, fit_yes (fits_C C_f.out)]) (C_f.out.len)).mono ?_
        rintro e w46 ⟨A_one, c_one, rfl, s_one, l_one, bb46⟩
        have b46 := belLit0 b45 bb46
        replace s_f := slLit0 s_f bb46
        replace s_a := slLit0 s_a bb46
        replace s_b := slLit0 s_b bb46
        replace s_c := slLit0 s_c bb46
        clear b45 bb46
        go_wp2_with fail
        refine (equal_t A_one (n_f) c_one (f) A_f (n_f) c_f (f) _ (s_one) (s_f) (by omega) (by omega)  (true) (dec_true (rfl))).mono ?_
        rintro e w47 ⟨rfl, bb47⟩
        have b47 := belLit0 b46 bb47
        replace s_f := slLit0 s_f bb47
        replace s_a := slLit0 s_a bb47
        replace s_b := slLit0 s_b bb47
        replace s_c := slLit0 s_c bb47
        replace s_one := slLit0 s_one bb47
        clear b46 bb47
        clear s_f s_a s_b s_c s_one
        go_wp2_with fail
        go_ret
        exact ⟨rfl, b47⟩
      · have H3 := Lib.hid h3
        clear h3
        go_wp2_with fail
        refine (times_any A_f (n_f) c_f (f) (1 + (p : Int)) _ (s_f) (by omega) C_f.out (by omega) (by omega) ([]) (2) (0) (by rw [N1.out, fit_no H1.out]) (rfl)).mono ?_
        rintro e w48 ⟨A_a, c_a, rfl, s_a, l_a, bb48⟩
        have b48 := belLit0 b4 bb48
        replace s_f := slLit0 s_f bb48
        clear b4 bb48
        go_wp2_with fail
        refine (times_any A_f (n_f) c_f (f) (1 + (q : Int)) _ (s_f) (by omega) C_f.out (by omega) (by omega) ([]) (2) (0) (by rw [N2.out, fit_no H2.out]) (rfl)).mono ?_
        rintro e w49 ⟨A_b, c_b, rfl, s_b, l_b, bb49⟩
        have b49 := belLit0 b48 bb49
        replace s_f := slLit0 s_f bb49
        replace s_a := slLit0 s_a bb49
        clear b48 bb49
        go_wp2_with fail
        refine (times_any A_f (n_f) c_f (f) (1 + (p : Int) + (1 + (q : Int))) _ (s_f) (by omega) C_f.out (by omega) (by omega) ([]) (2) (0) (by rw [N3.out, fit_no H3.out]) (rfl)).mono ?_
        rintro e w50 ⟨A_c, c_c, rfl, s_c, l_c, bb50⟩
        have b50 := belLit0 b49 bb50
        replace s_f := slLit0 s_f bb50
        replace s_a := slLit0 s_a bb50
        replace s_b := slLit0 s_b bb50
        clear b49 bb50
        go_wp2_with fail
        refine (times_any A_f (n_f) c_f (f) (1) _ (s_f) (by omega) C_f.out (by omega) (by omega) (f) (0) (n_f) (by rw [show (1 : Int).toNat - 1 = 0 from rfl, pwL, fit_yes (fits_C C_f.out)]) (C_f.out.len)).mono ?_
        rintro e w51 ⟨A_one, c_one, rfl, s_one, l_one, bb51⟩
        have b51 := belLit0 b50 bb51
        replace s_f := slLit0 s_f bb51
        replace s_a := slLit0 s_a bb51
        replace s_b := slLit0 s_b bb51
        replace s_c := slLit0 s_c bb51
        clear b50 bb51
        go_wp2_with fail
        refine (equal_t A_one (n_f) c_one (f) A_f (n_f) c_f (f) _ (s_one) (s_f) (by omega) (by omega)  (true) (dec_true (rfl))).mono ?_
        rintro e w52 ⟨rfl, bb52⟩
        have b52 := belLit0 b51 bb52
        replace s_f := slLit0 s_f bb52
        replace s_a := slLit0 s_a bb52
        replace s_b := slLit0 s_b bb52
        replace s_c := slLit0 s_c bb52
        replace s_one := slLit0 s_one bb52
        clear b51 bb52
        clear s_f s_a s_b s_c s_one
        go_wp2_with fail
        go_ret
        exact ⟨rfl, b52⟩
end Go.Proofs.Ytkofgejkicjdoaa
