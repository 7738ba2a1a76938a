/- SuperMost: the superadditive closure is above the curve, superadditive and idempotent. -/
import Derived.Test.YtgeeomhceplemaaDualA
import Derived.Test.YtgeeomhceplemaaTimesA
import Derived.Test.YtgeeomhceplemaaLawKit
set_option linter.unusedVariables false
namespace Go.Proofs.Ytgeeomhceplemaa
open Go.RowKit
theorem super_twice {n : Nat} {f : List Int} (hf : IsC n f) (hc : IsC n (superL f)) : superL (superL f) = superL f :=
  ext_n (n := n) (by unfold superL; rw [tab_len, tab_len, hf.len]) hc.len fun i hi => by
    rw [superL_get hc.len hi]
    refine Int.le_antisymm (sup_le (n := n) (g := gi (superL f)) (hc.lo 0 hc.pos) (fun _ _ _ => Int.le_refl _) (fun s t h1 h2 => ?_) i hi) ?_
    · rw [superL_get hf.len h2, superL_get hf.len (by omega), superL_get hf.len (by omega)]
      exact sup_add _ h1
    · rcases Nat.eq_zero_or_pos i with rfl | hp
      · rw [superL_get hf.len hi, sup_zero, sup_zero]; omega
      · exact sup_ge _ hp
theorem super_dual {n : Nat} {f : List Int} (hf : IsC n f) (hc : IsC n (superL f)) : dualL (superL f) (superL f) = superL f :=
  ext_n (n := n) (by unfold dualL; rw [tab_len, hc.len]) hc.len fun i hi => by
    rw [dualL_get hc.len hi]
    refine Int.le_antisymm (dv_le (hc.lo i hi) fun s hs => ?_) ?_
    · rw [superL_get hf.len (by omega), superL_get hf.len (by omega), superL_get hf.len hi]
      exact sup_add _ hs
    · have := dv_ge (gi (superL f)) (gi (superL f)) (t := i) (s := 0) (by omega)
      rw [Nat.sub_zero, superL_get hf.len hf.pos, sup_zero] at this
      omega
theorem super_nought {n : Nat} {f : List Int} (hf : IsC n f) (hc : IsC n (superL f)) : leT (noughtL f) (superL f) = true := leT_yes (nought_C hf) hc fun i hi => by
  rw [nought_get hf.len hi, superL_get hf.len hi]
  by_cases h : i = 0
  · subst h; rw [if_pos rfl, sup_zero]; omega
  · rw [if_neg h]; exact sup_ge _ (by omega)
set_option maxRecDepth 100000 in
set_option maxHeartbeats 3200000 in
theorem superMost_walk (A_f : Option Addr) (n_f c_f : Nat) (f : List Int) (W : World) (w_f : InInts W A_f n_f c_f f) :
    Calls Try.prog 6 #[.slice A_f n_f c_f] W fun e w' => e = .returned (.bool true) ∧ Below W.heap.size W w' := by
  obtain ⟨s_f, l_f, r_f, _⟩ := w_f
  have b0 := Below.refl W.heap.size W
  go_enter Try.func6, Try.ntmps6
  go_wp2_with fail
  refine (super_any _ 4 _ [0, 3, 4, 9] _ (Sl.built_ _ (ints [0, 3, 4, 9]) 3 _ rfl rfl) (by omega)  ([0, 3, 6, 9]) (0) (4) (by decide +kernel) (rfl)).mono ?_
  rintro e w1 ⟨A_t0, c_t0, rfl, s_t0, l_t0, bb1⟩
  have b1 := belLit1 b0 bb1
  replace s_f := slLit1 s_f bb1
  clear b0 bb1
  go_wp2_with fail
  refine (equal_t A_t0 (4) c_t0 ([0, 3, 6, 9]) _ 4 _ [0, 3, 6, 9] _ (slMore (s_t0) _) (Sl.built_ _ (ints [0, 3, 6, 9]) 3 _ rfl rfl) (by omega) (by omega)  (true) (by decide)).mono ?_
  rintro e w2 ⟨rfl, bb2⟩
  have b2 := belLit1 b1 bb2
  replace s_f := slLit1 s_f bb2
  replace s_t0 := slLit1 s_t0 bb2
  clear b1 bb2
  clear s_t0 l_t0
  have hl_f := s_f.int_len
  by_cases hok : curveErr f = 0
  case neg =>
    have hne : (curveErr f != 0) = true := by simpa using hok
    clear hok hl_f
    go_wp2_with fail
    refine (ccheck_t A_f (n_f) c_f (f) _ (s_f) (by omega)  (curveErr f) (rfl)).mono ?_
    rintro e w3 ⟨rfl, rfl⟩
    clear s_f
    go_wp2_with fail
    go_ret
    exact ⟨rfl, b2⟩
  have cf := isC_of hok
  rw [hl_f] at cf
  have C_f := Lib.hid cf
  have t_f := cf.top
  have u_f := cf.pos
  clear cf hl_f
  have HOK := Lib.hid hok
  clear hok
  go_wp2_with fail
  refine (ccheck_t A_f (n_f) c_f (f) _ (s_f) (by omega)  (0) (HOK.out)).mono ?_
  rintro e w4 ⟨rfl, rfl⟩
  by_cases h1 : fits (superL f) = true
  · have H1 := Lib.hid h1
    clear h1
    have C_x := Lib.hid (super_C C_f.out H1.out)
    go_wp2_with fail
    refine (super_any A_f (n_f) c_f (f) _ (s_f) (by omega)  (superL f) (0) (n_f) (by rw [of1_ok C_f.out, fit_yes H1.out]) (C_x.out.len)).mono ?_
    rintro e w5 ⟨A_x, c_x, rfl, s_x, l_x, bb5⟩
    have b5 := belLit0 b2 bb5
    replace s_f := slLit0 s_f bb5
    clear b2 bb5
    go_wp2_with fail
    refine (super_any A_x (n_f) c_x (superL f) _ (s_x) (by omega)  (superL f) (0) (n_f) (by rw [of1_ok C_x.out, super_twice C_f.out C_x.out, fit_yes H1.out]) (C_x.out.len)).mono ?_
    rintro e w6 ⟨A_y, c_y, rfl, s_y, l_y, bb6⟩
    have b6 := belLit0 b5 bb6
    replace s_f := slLit0 s_f bb6
    replace s_x := slLit0 s_x bb6
    clear b5 bb6
    go_wp2_with fail
    refine (dual_any A_x (n_f) c_x (superL f) A_x (n_f) c_x (superL f) _ (s_x) (s_x) (by omega) (by omega)  (superL f) (0) (n_f) (dual_yes C_x.out C_x.out (by rw [super_dual C_f.out C_x.out]; exact H1.out) (super_dual C_f.out C_x.out)) (C_x.out.len)).mono ?_
    rintro e w7 ⟨A_z, c_z, rfl, s_z, l_z, bb7⟩
    have b7 := belLit0 b6 bb7
    replace s_f := slLit0 s_f bb7
    replace s_x := slLit0 s_x bb7
    replace s_y := slLit0 s_y bb7
    clear b6 bb7
    go_wp2_with fail
    refine (equal_t A_x (n_f) c_x (superL f) A_y (n_f) c_y (superL f) _ (s_x) (s_y) (by omega) (by omega)  (true) (dec_true (rfl))).mono ?_
    rintro e w8 ⟨rfl, bb8⟩
    have b8 := belLit0 b7 bb8
    replace s_f := slLit0 s_f bb8
    replace s_x := slLit0 s_x bb8
    replace s_y := slLit0 s_y bb8
    replace s_z := slLit0 s_z bb8
    clear b7 bb8
    go_wp2_with fail
    refine (equal_t A_x (n_f) c_x (superL f) A_z (n_f) c_z (superL f) _ (s_x) (s_z) (by omega) (by omega)  (true) (dec_true (rfl))).mono ?_
    rintro e w9 ⟨rfl, bb9⟩
    have b9 := belLit0 b8 bb9
    replace s_f := slLit0 s_f bb9
    replace s_x := slLit0 s_x bb9
    replace s_y := slLit0 s_y bb9
    replace s_z := slLit0 s_z bb9
    clear b8 bb9
    go_wp2_with fail
    refine (nought_t A_f (n_f) c_f (f) _ (s_f) (by omega) u_f t_f (noughtL f) (n_f) (rfl) ((nought_C C_f.out).len)).mono ?_
    rintro e w10 ⟨A_w, c_w, rfl, s_w, l_w, bb10⟩
    have b10 := belLit0 b9 bb10
    replace s_f := slLit0 s_f bb10
    replace s_x := slLit0 s_x bb10
    replace s_y := slLit0 s_y bb10
    replace s_z := slLit0 s_z bb10
    clear b9 bb10
    go_wp2_with fail
    refine (hle_t A_w (n_f) c_w (noughtL f) A_x (n_f) c_x (superL f) _ (s_w) (s_x) (by omega) (by omega)  (true) (super_nought C_f.out C_x.out)).mono ?_
    rintro e w11 ⟨rfl, bb11⟩
    have b11 := belLit0 b10 bb11
    replace s_f := slLit0 s_f bb11
    replace s_x := slLit0 s_x bb11
    replace s_y := slLit0 s_y bb11
    replace s_z := slLit0 s_z bb11
    replace s_w := slLit0 s_w bb11
    clear b10 bb11
    clear s_f s_x s_y s_z s_w
    go_wp2_with fail
    go_ret
    exact ⟨rfl, b11⟩
  · have H1 := Lib.hid h1
    clear h1
    go_wp2_with fail
    refine (super_any A_f (n_f) c_f (f) _ (s_f) (by omega)  ([]) (2) (0) (by rw [of1_ok C_f.out, fit_no H1.out]) (rfl)).mono ?_
    rintro e w12 ⟨A_x, c_x, rfl, s_x, l_x, bb12⟩
    have b12 := belLit0 b2 bb12
    replace s_f := slLit0 s_f bb12
    clear b2 bb12
    clear s_f s_x
    go_wp2_with fail
    go_ret
    exact ⟨rfl, b12⟩
end Go.Proofs.Ytgeeomhceplemaa
