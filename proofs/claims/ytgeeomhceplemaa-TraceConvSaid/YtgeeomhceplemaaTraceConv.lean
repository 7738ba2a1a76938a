/- TraceConv: conformance is equivalent to being below the convolution with the curve, and to conformance to its closure. -/
import Derived.Test.YtgeeomhceplemaaClosA
import Derived.Test.YtgeeomhceplemaaConvA
import Derived.Test.YtgeeomhceplemaaBoundA
import Derived.Test.YtgeeomhceplemaaCurveR
import Derived.Test.YtgeeomhceplemaaLawKit
set_option linter.unusedVariables false
namespace Go.Proofs.Ytgeeomhceplemaa
open Go.RowKit
theorem fitB_clo {n : Nat} {f l : List Int} (hl : IsC n l) : fitB n f (closureL l) = fitB n f l := by
  unfold fitB
  rw [Bool.eq_iff_iff, decide_eq_true_iff, decide_eq_true_iff]
  exact (fit_clo hl).symm
theorem fitB_conv {n : Nat} {f l : List Int} (hf : IsC n f) (hc : IsC n (convL f l)) : leT f (convL f l) = fitB n f l := by
  unfold fitB
  rw [Bool.eq_iff_iff, leT_iff hf hc, decide_eq_true_iff]
  exact (fit_conv hf).symm
set_option maxRecDepth 100000 in
set_option maxHeartbeats 3200000 in
theorem traceConv_walk (A_f : Option Addr) (n_f c_f : Nat) (f : List Int) (A_l : Option Addr) (n_l c_l : Nat) (l : List Int) (W : World) (w_f : InInts W A_f n_f c_f f) (w_l : InInts W A_l n_l c_l l) :
    Calls Try.prog 13 #[.slice A_f n_f c_f, .slice A_l n_l c_l] W fun e w' => e = .returned (.bool true) ∧ Below W.heap.size W w' := by
  obtain ⟨s_f, l_f, r_f, _⟩ := w_f
  obtain ⟨s_l, l_l, r_l, _⟩ := w_l
  have b0 := Below.refl W.heap.size W
  go_enter Try.func13, Try.ntmps13
  go_wp2_with fail
  refine (fits_any _ 3 _ [0, 5, 6] _ 3 _ [0, 4, 9] _ (slMore (Sl.built_ _ (ints [0, 5, 6]) 3 _ rfl rfl) _) (Sl.built_ _ (ints [0, 4, 9]) 3 _ (by simp) rfl) (by omega) (by omega) (isC_iff.2 ⟨by decide +kernel, rfl⟩) (isC_iff.2 ⟨by decide +kernel, rfl⟩) rfl (false) (0) (by decide)).mono ?_
  rintro e w1 ⟨rfl, bb1⟩
  have b1 := belLit2 b0 bb1
  replace s_f := slLit2 s_f bb1
  replace s_l := slLit2 s_l bb1
  clear b0 bb1
  go_wp2_with fail
  refine (fits_any _ 3 _ [0, 5, 6] _ 3 _ [0, 5, 9] _ (slMore (Sl.built_ _ (ints [0, 5, 6]) 3 _ rfl rfl) _) (Sl.built_ _ (ints [0, 5, 9]) 3 _ (by simp) rfl) (by omega) (by omega) (isC_iff.2 ⟨by decide +kernel, rfl⟩) (isC_iff.2 ⟨by decide +kernel, rfl⟩) rfl (true) (0) (by decide)).mono ?_
  rintro e w2 ⟨rfl, bb2⟩
  have b2 := belLit2 b1 bb2
  replace s_f := slLit2 s_f bb2
  replace s_l := slLit2 s_l bb2
  clear b1 bb2
  have hl_f := s_f.int_len
  have hl_l := s_l.int_len
  by_cases hok : bothB f l = true
  case neg =>
    have HOK := Lib.hid (Bool.eq_false_iff.2 hok)
    clear hok hl_f hl_l
    go_wp2_with fail
    refine (hboth_t A_f (n_f) c_f (f) A_l (n_l) c_l (l) _ (s_f) (s_l) (by omega) (by omega)  (false) (HOK.out)).mono ?_
    rintro e w3 ⟨rfl, bb3⟩
    have b3 := belLit0 b2 bb3
    replace s_f := slLit0 s_f bb3
    replace s_l := slLit0 s_l bb3
    clear b2 bb3
    clear s_f s_l
    go_wp2_with fail
    go_ret
    exact ⟨rfl, b3⟩
  obtain ⟨e1, c_1, c_2⟩ := both_C hok hl_f hl_l
  subst e1
  have HOK := Lib.hid hok
  have C_f := Lib.hid c_1
  have t_f := c_1.top
  have C_l := Lib.hid c_2
  have t_l := c_2.top
  clear hok c_1 c_2 hl_f hl_l
  go_wp2_with fail
  refine (hboth_t A_f (n_f) c_f (f) A_l (n_f) c_l (l) _ (s_f) (s_l) (by omega) (by omega)  (true) (HOK.out)).mono ?_
  rintro e w4 ⟨rfl, bb4⟩
  have b4 := belLit0 b2 bb4
  replace s_f := slLit0 s_f bb4
  replace s_l := slLit0 s_l bb4
  clear b2 bb4
  obtain ⟨v, hv⟩ : ∃ v, fitB n_f f l = v := ⟨_, rfl⟩
  have HV := Lib.hid hv
  clear hv
  have hvv : (v == v) = true := by simp
  have hvn : (v != v) = false := by simp
  go_wp2_with fail
  refine (fits_any A_f (n_f) c_f (f) A_l (n_f) c_l (l) _ (s_f) (s_l) (by omega) (by omega) C_f.out C_l.out rfl (v) (0) (by rw [HV.out])).mono ?_
  rintro e w5 ⟨rfl, bb5⟩
  have b5 := belLit0 b4 bb5
  replace s_f := slLit0 s_f bb5
  replace s_l := slLit0 s_l bb5
  clear b4 bb5
  go_wp2_with fail
  refine (closure_any A_l (n_f) c_l (l) _ (s_l) (by omega)  (closureL l) (0) (n_f) (of1_ok C_l.out _) ((closure_C C_l.out).len)).mono ?_
  rintro e w6 ⟨A_c, c_c, rfl, s_c, l_c, bb6⟩
  have b6 := belLit0 b5 bb6
  replace s_f := slLit0 s_f bb6
  replace s_l := slLit0 s_l bb6
  clear b5 bb6
  have C_c := Lib.hid (closure_C C_l.out)
  go_wp2_with fail
  refine (fits_any A_f (n_f) c_f (f) A_c (n_f) c_c (closureL l) _ (s_f) (s_c) (by omega) (by omega) C_f.out C_c.out rfl (v) (0) (by rw [fitB_clo C_l.out, HV.out])).mono ?_
  rintro e w7 ⟨rfl, bb7⟩
  have b7 := belLit0 b6 bb7
  replace s_f := slLit0 s_f bb7
  replace s_l := slLit0 s_l bb7
  replace s_c := slLit0 s_c bb7
  clear b6 bb7
  by_cases h1 : fits (convL f l) = true
  · have H1 := Lib.hid h1
    clear h1
    go_wp2_with fail
    refine (conv_any A_f (n_f) c_f (f) A_l (n_f) c_l (l) _ (s_f) (s_l) (by omega) (by omega)  (convL (f) (l)) (0) (n_f) (conv_yes C_f.out C_l.out H1.out (rfl)) ((tab_len _ _).trans C_f.out.len)).mono ?_
    rintro e w8 ⟨A_x, c_x, rfl, s_x, l_x, bb8⟩
    have b8 := belLit0 b7 bb8
    replace s_f := slLit0 s_f bb8
    replace s_l := slLit0 s_l bb8
    replace s_c := slLit0 s_c bb8
    clear b7 bb8
    have C_x := Lib.hid (conv_C C_f.out C_l.out H1.out)
    go_wp2_with fail
    refine (hle_t A_f (n_f) c_f (f) A_x (n_f) c_x (convL (f) (l)) _ (s_f) (s_x) (by omega) (by omega)  (v) ((fitB_conv C_f.out C_x.out).trans HV.out)).mono ?_
    rintro e w9 ⟨rfl, bb9⟩
    have b9 := belLit0 b8 bb9
    replace s_f := slLit0 s_f bb9
    replace s_l := slLit0 s_l bb9
    replace s_c := slLit0 s_c bb9
    replace s_x := slLit0 s_x bb9
    clear b8 bb9
    clear s_f s_l s_c s_x
    go_wp2_with fail
    go_ret
    exact ⟨rfl, b9⟩
  · have H1 := Lib.hid h1
    clear h1
    go_wp2_with fail
    refine (conv_any A_f (n_f) c_f (f) A_l (n_f) c_l (l) _ (s_f) (s_l) (by omega) (by omega)  ([]) (2) (0) (conv_no C_f.out C_l.out H1.out) (rfl)).mono ?_
    rintro e w10 ⟨A_x, c_x, rfl, s_x, l_x, bb10⟩
    have b10 := belLit0 b7 bb10
    replace s_f := slLit0 s_f bb10
    replace s_l := slLit0 s_l bb10
    replace s_c := slLit0 s_c bb10
    clear b7 bb10
    clear s_f s_l s_c s_x
    go_wp2_with fail
    go_ret
    exact ⟨rfl, b10⟩
end Go.Proofs.Ytgeeomhceplemaa
