/- TraceLeast: arrivals conform to a curve if and only if their envelope is below it; envelopes are subadditive. -/
import Derived.Test.YtgeeomhceplemaaShaperA
import Derived.Test.YtgeeomhceplemaaDecA
import Derived.Test.YtgeeomhceplemaaClosI
import Derived.Test.YtgeeomhceplemaaBoundA
import Derived.Test.YtgeeomhceplemaaLawKit
set_option linter.unusedVariables false
namespace Go.Proofs.Ytgeeomhceplemaa
open Go.RowKit
theorem env_fit {n : Nat} {f l : List Int} (hf : IsC n f) (hl : IsC n l) : leT (deconvL f f) l = fitB n f l := by
  unfold fitB
  rw [Bool.eq_iff_iff, leT_iff (deconv_C hf hf) hl, decide_eq_true_iff]
  constructor
  · intro h t ht s hs
    have a := h (t - s) (by omega)
    rw [deconv_get hf.len (by omega)] at a
    have b := dcv_le (n := n) (F := gi f) (G := gi f) (t := t - s) (u := s) (by omega)
    rw [show t - s + s = t by omega] at b
    omega
  · intro h i hi
    rw [deconv_get hf.len hi]
    refine le_dcv (hl.lo i hi) fun u hu => ?_
    have := h (i + u) hu u (by omega)
    rwa [show i + u - u = i by omega] at this
theorem env_self {n : Nat} {f : List Int} (hf : IsC n f) : fitB n f (deconvL f f) = true := by
  rw [← env_fit hf (deconv_C hf hf)]
  exact leT_yes (deconv_C hf hf) (deconv_C hf hf) fun _ _ => Int.le_refl _
theorem env_sub {n : Nat} {f : List Int} (hf : IsC n f) : subB n (deconvL f f) = true := by
  refine subB_iff.2 ⟨fun t ht s hs => ?_, ?_⟩
  · rw [deconv_get hf.len ht, deconv_get hf.len (by omega), deconv_get hf.len (by omega)]
    refine le_dcv (by have a := dcv_nonneg (n := n) (F := gi f) (G := gi f) (t := s); have b := dcv_nonneg (n := n) (F := gi f) (G := gi f) (t := t - s); omega) fun u hu => ?_
    have a := dcv_le (n := n) (F := gi f) (G := gi f) (t := s) (u := t - s + u) (by omega)
    have b := dcv_le (n := n) (F := gi f) (G := gi f) (t := t - s) (u := u) (by omega)
    rw [show s + (t - s + u) = t + u by omega] at a
    omega
  · rw [deconv_get hf.len hf.pos]
    exact Int.le_antisymm (le_dcv (Int.le_refl _) fun u hu => by rw [Nat.zero_add]; omega) dcv_nonneg
set_option maxRecDepth 100000 in
set_option maxHeartbeats 3200000 in
theorem traceLeast_walk (A_f : Option Addr) (n_f c_f : Nat) (f : List Int) (A_l : Option Addr) (n_l c_l : Nat) (l : List Int) (W : World) (w_f : InInts W A_f n_f c_f f) (w_l : InInts W A_l n_l c_l l) :
    Calls Try.prog 12 #[.slice A_f n_f c_f, .slice A_l n_l c_l] W fun e w' => e = .returned (.bool true) ∧ Below W.heap.size W w' := by
  obtain ⟨s_f, l_f, r_f, _⟩ := w_f
  obtain ⟨s_l, l_l, r_l, _⟩ := w_l
  have b0 := Below.refl W.heap.size W
  go_enter Try.func12, Try.ntmps12
  go_wp2_with fail
  refine (env_any _ 3 _ [0, 5, 6] _ (Sl.built_ _ (ints [0, 5, 6]) 3 _ rfl rfl) (by omega) (isC_iff.2 ⟨by decide +kernel, rfl⟩) ([0, 5, 6]) (0) (3) (by decide +kernel) (rfl)).mono ?_
  rintro e w1 ⟨A_t0, c_t0, rfl, s_t0, l_t0, bb1⟩
  have b1 := belLit1 b0 bb1
  replace s_f := slLit1 s_f bb1
  replace s_l := slLit1 s_l bb1
  clear b0 bb1
  go_wp2_with fail
  refine (equal_t A_t0 (3) c_t0 ([0, 5, 6]) _ 3 _ [0, 5, 6] _ (slMore (s_t0) _) (Sl.built_ _ (ints [0, 5, 6]) 3 _ rfl rfl) (by omega) (by omega)  (true) (by decide)).mono ?_
  rintro e w2 ⟨rfl, bb2⟩
  have b2 := belLit1 b1 bb2
  replace s_f := slLit1 s_f bb2
  replace s_l := slLit1 s_l bb2
  replace s_t0 := slLit1 s_t0 bb2
  clear b1 bb2
  clear s_t0 l_t0
  have hl_f := s_f.int_len
  have hl_l := s_l.int_len
  by_cases hok : bothB f l = true
  case neg =>
    have HOK := Lib.hid (Bool.eq_false_iff.2 hok)
    clear hok hl_f hl_l
    go_wp2_with fail
    refine (hboth_t A_f (n_f) c_f (f) A_l (n_l) c_l (l) _ (s_f) (s_l) (by omega) (by omega)  (false) (HOK.out)).mono ?_
    rintro e w3 ⟨rfl, bb3⟩
    have b3 := belLit0 b2 bb3
    replace s_f := slLit0 s_f bb3
    replace s_l := slLit0 s_l bb3
    clear b2 bb3
    clear s_f s_l
    go_wp2_with fail
    go_ret
    exact ⟨rfl, b3⟩
  obtain ⟨e1, c_1, c_2⟩ := both_C hok hl_f hl_l
  subst e1
  have HOK := Lib.hid hok
  have C_f := Lib.hid c_1
  have t_f := c_1.top
  have C_l := Lib.hid c_2
  have t_l := c_2.top
  clear hok c_1 c_2 hl_f hl_l
  go_wp2_with fail
  refine (hboth_t A_f (n_f) c_f (f) A_l (n_f) c_l (l) _ (s_f) (s_l) (by omega) (by omega)  (true) (HOK.out)).mono ?_
  rintro e w4 ⟨rfl, bb4⟩
  have b4 := belLit0 b2 bb4
  replace s_f := slLit0 s_f bb4
  replace s_l := slLit0 s_l bb4
  clear b2 bb4
  have C_x := Lib.hid (deconv_C C_f.out C_f.out)
  go_wp2_with fail
  refine (env_any A_f (n_f) c_f (f) _ (s_f) (by omega) C_f.out (deconvL f f) (0) (n_f) (rfl) (C_x.out.len)).mono ?_
  rintro e w5 ⟨A_x, c_x, rfl, s_x, l_x, bb5⟩
  have b5 := belLit0 b4 bb5
  replace s_f := slLit0 s_f bb5
  replace s_l := slLit0 s_l bb5
  clear b4 bb5
  obtain ⟨v, hv⟩ : ∃ v, fitB n_f f l = v := ⟨_, rfl⟩
  have HV := Lib.hid hv
  clear hv
  have hvv : (v == v) = true := by simp
  go_wp2_with fail
  refine (fits_any A_f (n_f) c_f (f) A_l (n_f) c_l (l) _ (s_f) (s_l) (by omega) (by omega) C_f.out C_l.out rfl (v) (0) (by rw [HV.out])).mono ?_
  rintro e w6 ⟨rfl, bb6⟩
  have b6 := belLit0 b5 bb6
  replace s_f := slLit0 s_f bb6
  replace s_l := slLit0 s_l bb6
  replace s_x := slLit0 s_x bb6
  clear b5 bb6
  go_wp2_with fail
  refine (cis_any A_x (n_f) c_x (deconvL f f) _ (s_x) (by omega) C_x.out (true) (0) (by rw [env_sub C_f.out])).mono ?_
  rintro e w7 ⟨rfl, bb7⟩
  have b7 := belLit0 b6 bb7
  replace s_f := slLit0 s_f bb7
  replace s_l := slLit0 s_l bb7
  replace s_x := slLit0 s_x bb7
  clear b6 bb7
  go_wp2_with fail
  refine (fits_any A_f (n_f) c_f (f) A_x (n_f) c_x (deconvL f f) _ (s_f) (s_x) (by omega) (by omega) C_f.out C_x.out rfl (true) (0) (by rw [env_self C_f.out])).mono ?_
  rintro e w8 ⟨rfl, bb8⟩
  have b8 := belLit0 b7 bb8
  replace s_f := slLit0 s_f bb8
  replace s_l := slLit0 s_l bb8
  replace s_x := slLit0 s_x bb8
  clear b7 bb8
  go_wp2_with fail
  refine (hle_t A_x (n_f) c_x (deconvL f f) A_l (n_f) c_l (l) _ (s_x) (s_l) (by omega) (by omega)  (v) ((env_fit C_f.out C_l.out).trans HV.out)).mono ?_
  rintro e w9 ⟨rfl, bb9⟩
  have b9 := belLit0 b8 bb9
  replace s_f := slLit0 s_f bb9
  replace s_l := slLit0 s_l bb9
  replace s_x := slLit0 s_x bb9
  clear b8 bb9
  clear s_f s_l s_x
  go_wp2_with fail
  go_ret
  exact ⟨rfl, b9⟩
end Go.Proofs.Ytgeeomhceplemaa
