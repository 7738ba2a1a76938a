/- ShaperTwice: shaping is idempotent, and conforming input is unchanged. -/
import Derived.Test.YtgeeomhceplemaaShaperA
import Derived.Test.YtgeeomhceplemaaBoundA
import Derived.Test.YtgeeomhceplemaaLawKit
set_option linter.unusedVariables false
namespace Go.Proofs.Ytgeeomhceplemaa
open Go.RowKit
theorem shaper_same {n : Nat} {a l : List Int} (ha : IsC n a) (hl : IsC n l) : decide (shaperL a l = a) = fitB n a l := by
  unfold fitB
  rw [Bool.eq_iff_iff, decide_eq_true_iff, decide_eq_true_iff]
  constructor
  · intro h
    refine (fit_clo hl).2 fun t ht s hs => ?_
    have := shaper_sub ha hl hs ht
    rw [h] at this
    omega
  · intro h
    exact ext_n (n := n) (shaper_C ha hl).len ha.len fun i hi => Int.le_antisymm (shaper_le ha hl hi) (shaper_most ha hl (fun _ _ => Int.le_refl _) ((fit_clo hl).1 h) i hi)
set_option maxRecDepth 100000 in
set_option maxHeartbeats 3200000 in
theorem shaperTwice_walk (A_a : Option Addr) (n_a c_a : Nat) (a : List Int) (A_l : Option Addr) (n_l c_l : Nat) (l : List Int) (W : World) (w_a : InInts W A_a n_a c_a a) (w_l : InInts W A_l n_l c_l l) :
    Calls Try.prog 14 #[.slice A_a n_a c_a, .slice A_l n_l c_l] W fun e w' => e = .returned (.bool true) ∧ Below W.heap.size W w' := by
  obtain ⟨s_a, l_a, r_a, _⟩ := w_a
  obtain ⟨s_l, l_l, r_l, _⟩ := w_l
  have b0 := Below.refl W.heap.size W
  go_enter Try.func14, Try.ntmps14
  go_wp2_with fail
  refine (shaper_any _ 3 _ [0, 2, 4] _ 3 _ [0, 2, 9] _ (slMore (Sl.built_ _ (ints [0, 2, 4]) 3 _ rfl rfl) _) (Sl.built_ _ (ints [0, 2, 9]) 3 _ (by simp) rfl) (by omega) (by omega) (isC_iff.2 ⟨by decide +kernel, rfl⟩) (isC_iff.2 ⟨by decide +kernel, rfl⟩) rfl ([0, 2, 4]) (0) (3) (by decide +kernel) (rfl)).mono ?_
  rintro e w1 ⟨A_t0, c_t0, rfl, s_t0, l_t0, bb1⟩
  have b1 := belLit2 b0 bb1
  replace s_a := slLit2 s_a bb1
  replace s_l := slLit2 s_l bb1
  clear b0 bb1
  go_wp2_with fail
  refine (equal_t A_t0 (3) c_t0 ([0, 2, 4]) _ 3 _ [0, 2, 4] _ (slMore (s_t0) _) (Sl.built_ _ (ints [0, 2, 4]) 3 _ rfl rfl) (by omega) (by omega)  (true) (by decide)).mono ?_
  rintro e w2 ⟨rfl, bb2⟩
  have b2 := belLit1 b1 bb2
  replace s_a := slLit1 s_a bb2
  replace s_l := slLit1 s_l bb2
  replace s_t0 := slLit1 s_t0 bb2
  clear b1 bb2
  clear s_t0 l_t0
  have hl_a := s_a.int_len
  have hl_l := s_l.int_len
  by_cases hok : bothB a l = true
  case neg =>
    have HOK := Lib.hid (Bool.eq_false_iff.2 hok)
    clear hok hl_a hl_l
    go_wp2_with fail
    refine (hboth_t A_a (n_a) c_a (a) A_l (n_l) c_l (l) _ (s_a) (s_l) (by omega) (by omega)  (false) (HOK.out)).mono ?_
    rintro e w3 ⟨rfl, bb3⟩
    have b3 := belLit0 b2 bb3
    replace s_a := slLit0 s_a bb3
    replace s_l := slLit0 s_l bb3
    clear b2 bb3
    clear s_a s_l
    go_wp2_with fail
    go_ret
    exact ⟨rfl, b3⟩
  obtain ⟨e1, c_1, c_2⟩ := both_C hok hl_a hl_l
  subst e1
  have HOK := Lib.hid hok
  have C_a := Lib.hid c_1
  have t_a := c_1.top
  have C_l := Lib.hid c_2
  have t_l := c_2.top
  clear hok c_1 c_2 hl_a hl_l
  go_wp2_with fail
  refine (hboth_t A_a (n_a) c_a (a) A_l (n_a) c_l (l) _ (s_a) (s_l) (by omega) (by omega)  (true) (HOK.out)).mono ?_
  rintro e w4 ⟨rfl, bb4⟩
  have b4 := belLit0 b2 bb4
  replace s_a := slLit0 s_a bb4
  replace s_l := slLit0 s_l bb4
  clear b2 bb4
  go_wp2_with fail
  refine (shaper_any A_a (n_a) c_a (a) A_l (n_a) c_l (l) _ (s_a) (s_l) (by omega) (by omega) C_a.out C_l.out rfl (shaperL a l) (0) (n_a) (rfl) ((shaper_C C_a.out C_l.out).len)).mono ?_
  rintro e w5 ⟨A_x, c_x, rfl, s_x, l_x, bb5⟩
  have b5 := belLit0 b4 bb5
  replace s_a := slLit0 s_a bb5
  replace s_l := slLit0 s_l bb5
  clear b4 bb5
  have C_x := Lib.hid (shaper_C C_a.out C_l.out)
  go_wp2_with fail
  refine (shaper_any A_x (n_a) c_x (shaperL a l) A_l (n_a) c_l (l) _ (s_x) (s_l) (by omega) (by omega) C_x.out C_l.out rfl (shaperL a l) (0) (n_a) (by rw [shaper_twice C_a.out C_l.out]) (C_x.out.len)).mono ?_
  rintro e w6 ⟨A_y, c_y, rfl, s_y, l_y, bb6⟩
  have b6 := belLit0 b5 bb6
  replace s_a := slLit0 s_a bb6
  replace s_l := slLit0 s_l bb6
  replace s_x := slLit0 s_x bb6
  clear b5 bb6
  obtain ⟨v, hv⟩ : ∃ v, fitB n_a a l = v := ⟨_, rfl⟩
  have HV := Lib.hid hv
  clear hv
  have hvv : (v == v) = true := by simp
  go_wp2_with fail
  refine (fits_any A_a (n_a) c_a (a) A_l (n_a) c_l (l) _ (s_a) (s_l) (by omega) (by omega) C_a.out C_l.out rfl (v) (0) (by rw [HV.out])).mono ?_
  rintro e w7 ⟨rfl, bb7⟩
  have b7 := belLit0 b6 bb7
  replace s_a := slLit0 s_a bb7
  replace s_l := slLit0 s_l bb7
  replace s_x := slLit0 s_x bb7
  replace s_y := slLit0 s_y bb7
  clear b6 bb7
  go_wp2_with fail
  refine (equal_t A_x (n_a) c_x (shaperL a l) A_y (n_a) c_y (shaperL a l) _ (s_x) (s_y) (by omega) (by omega)  (true) (dec_true (rfl))).mono ?_
  rintro e w8 ⟨rfl, bb8⟩
  have b8 := belLit0 b7 bb8
  replace s_a := slLit0 s_a bb8
  replace s_l := slLit0 s_l bb8
  replace s_x := slLit0 s_x bb8
  replace s_y := slLit0 s_y bb8
  clear b7 bb8
  go_wp2_with fail
  refine (equal_t A_x (n_a) c_x (shaperL a l) A_a (n_a) c_a (a) _ (s_x) (s_a) (by omega) (by omega)  (v) ((shaper_same C_a.out C_l.out).trans HV.out)).mono ?_
  rintro e w9 ⟨rfl, bb9⟩
  have b9 := belLit0 b8 bb9
  replace s_a := slLit0 s_a bb9
  replace s_l := slLit0 s_l bb9
  replace s_x := slLit0 s_x bb9
  replace s_y := slLit0 s_y bb9
  clear b8 bb9
  clear s_a s_l s_x s_y
  go_wp2_with fail
  go_ret
  exact ⟨rfl, b9⟩
end Go.Proofs.Ytgeeomhceplemaa
