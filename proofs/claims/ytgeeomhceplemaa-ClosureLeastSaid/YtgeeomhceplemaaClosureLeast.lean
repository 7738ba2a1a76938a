/- ClosureLeast: the closure is the greatest subadditive curve below a curve, and is idempotent. -/
import Derived.Test.YtgeeomhceplemaaClosA
import Derived.Test.YtgeeomhceplemaaClosI
import Derived.Test.YtgeeomhceplemaaTimesA
import Derived.Test.YtgeeomhceplemaaCurveR
import Derived.Test.YtgeeomhceplemaaLawKit
set_option linter.unusedVariables false
namespace Go.Proofs.Ytgeeomhceplemaa
open Go.RowKit
theorem clo_is {n : Nat} {f : List Int} (hf : IsC n f) : subB n (closureL f) = true := subB_iff.2 ⟨fun t ht s hs => closure_sub hf hs ht, closure_zero hf⟩
theorem clo_nought {n : Nat} {f : List Int} (hf : IsC n f) : leT (closureL f) (noughtL f) = true := leT_yes (closure_C hf) (nought_C hf) fun i hi => by
  rw [nought_get hf.len hi]
  by_cases h : i = 0
  · subst h; rw [if_pos rfl, closure_zero hf]; omega
  · rw [if_neg h]; exact closure_le hf (by omega) hi
theorem clo_top {n : Nat} {f g : List Int} (hf : IsC n f) (hg : IsC n g) (h1 : subB n g = true) (h2 : leT g (noughtL f) = true) : leT g (closureL f) = true := by
  obtain ⟨k1, k2⟩ := subB_iff.1 h1
  exact leT_yes hg (closure_C hf) (closure_most hf hg k2 (fun s t a b => k1 t b s a) fun i h0 hi => by
    have := (leT_iff hg (nought_C hf)).1 h2 i hi
    rwa [nought_get hf.len hi, if_neg (by omega)] at this)
set_option maxRecDepth 100000 in
set_option maxHeartbeats 3200000 in
theorem closureLeast_walk (A_f : Option Addr) (n_f c_f : Nat) (f : List Int) (A_g : Option Addr) (n_g c_g : Nat) (g : List Int) (W : World) (w_f : InInts W A_f n_f c_f f) (w_g : InInts W A_g n_g c_g g) :
    Calls Try.prog 3 #[.slice A_f n_f c_f, .slice A_g n_g c_g] W fun e w' => e = .returned (.bool true) ∧ Below W.heap.size W w' := by
  obtain ⟨s_f, l_f, r_f, _⟩ := w_f
  obtain ⟨s_g, l_g, r_g, _⟩ := w_g
  have b0 := Below.refl W.heap.size W
  go_enter Try.func3, Try.ntmps3
  go_wp2_with fail
  refine (closure_any _ 4 _ [1, 3, 9, 9] _ (Sl.built_ _ (ints [1, 3, 9, 9]) 3 _ rfl rfl) (by omega)  ([0, 3, 6, 9]) (0) (4) (by decide +kernel) (rfl)).mono ?_
  rintro e w1 ⟨A_t0, c_t0, rfl, s_t0, l_t0, bb1⟩
  have b1 := belLit1 b0 bb1
  replace s_f := slLit1 s_f bb1
  replace s_g := slLit1 s_g bb1
  clear b0 bb1
  go_wp2_with fail
  refine (equal_t A_t0 (4) c_t0 ([0, 3, 6, 9]) _ 4 _ [0, 3, 6, 9] _ (slMore (s_t0) _) (Sl.built_ _ (ints [0, 3, 6, 9]) 3 _ rfl rfl) (by omega) (by omega)  (true) (by decide)).mono ?_
  rintro e w2 ⟨rfl, bb2⟩
  have b2 := belLit1 b1 bb2
  replace s_f := slLit1 s_f bb2
  replace s_g := slLit1 s_g bb2
  replace s_t0 := slLit1 s_t0 bb2
  clear b1 bb2
  clear s_t0 l_t0
  have hl_f := s_f.int_len
  have hl_g := s_g.int_len
  by_cases hok : bothB f g = true
  case neg =>
    have HOK := Lib.hid (Bool.eq_false_iff.2 hok)
    clear hok hl_f hl_g
    go_wp2_with fail
    refine (hboth_t A_f (n_f) c_f (f) A_g (n_g) c_g (g) _ (s_f) (s_g) (by omega) (by omega)  (false) (HOK.out)).mono ?_
    rintro e w3 ⟨rfl, bb3⟩
    have b3 := belLit0 b2 bb3
    replace s_f := slLit0 s_f bb3
    replace s_g := slLit0 s_g bb3
    clear b2 bb3
    clear s_f s_g
    go_wp2_with fail
    go_ret
    exact ⟨rfl, b3⟩
  obtain ⟨e1, c_1, c_2⟩ := both_C hok hl_f hl_g
  subst e1
  have HOK := Lib.hid hok
  have C_f := Lib.hid c_1
  have t_f := c_1.top
  have C_g := Lib.hid c_2
  have t_g := c_2.top
  clear hok c_1 c_2 hl_f hl_g
  go_wp2_with fail
  refine (hboth_t A_f (n_f) c_f (f) A_g (n_f) c_g (g) _ (s_f) (s_g) (by omega) (by omega)  (true) (HOK.out)).mono ?_
  rintro e w4 ⟨rfl, bb4⟩
  have b4 := belLit0 b2 bb4
  replace s_f := slLit0 s_f bb4
  replace s_g := slLit0 s_g bb4
  clear b2 bb4
  have u_f := C_f.out.pos
  go_wp2_with fail
  refine (closure_any A_f (n_f) c_f (f) _ (s_f) (by omega)  (closureL f) (0) (n_f) (of1_ok C_f.out _) ((closure_C C_f.out).len)).mono ?_
  rintro e w5 ⟨A_x, c_x, rfl, s_x, l_x, bb5⟩
  have b5 := belLit0 b4 bb5
  replace s_f := slLit0 s_f bb5
  replace s_g := slLit0 s_g bb5
  clear b4 bb5
  have C_x := Lib.hid (closure_C C_f.out)
  go_wp2_with fail
  refine (closure_any A_x (n_f) c_x (closureL f) _ (s_x) (by omega)  (closureL f) (0) (n_f) (by rw [of1_ok C_x.out, closure_twice C_f.out]) ((closure_C C_f.out).len)).mono ?_
  rintro e w6 ⟨A_y, c_y, rfl, s_y, l_y, bb6⟩
  have b6 := belLit0 b5 bb6
  replace s_f := slLit0 s_f bb6
  replace s_g := slLit0 s_g bb6
  replace s_x := slLit0 s_x bb6
  clear b5 bb6
  go_wp2_with fail
  refine (cis_any A_x (n_f) c_x (closureL f) _ (s_x) (by omega) C_x.out (true) (0) (by rw [clo_is C_f.out])).mono ?_
  rintro e w7 ⟨rfl, bb7⟩
  have b7 := belLit0 b6 bb7
  replace s_f := slLit0 s_f bb7
  replace s_g := slLit0 s_g bb7
  replace s_x := slLit0 s_x bb7
  replace s_y := slLit0 s_y bb7
  clear b6 bb7
  by_cases h1 : subB n_f g = true
  · have H1 := Lib.hid h1
    clear h1
    have B := H1
    go_wp2_with fail
    refine (cis_any A_g (n_f) c_g (g) _ (s_g) (by omega) C_g.out (true) (0) (by rw [B.out])).mono ?_
    rintro e w8 ⟨rfl, bb8⟩
    have b8 := belLit0 b7 bb8
    replace s_f := slLit0 s_f bb8
    replace s_g := slLit0 s_g bb8
    replace s_x := slLit0 s_x bb8
    replace s_y := slLit0 s_y bb8
    clear b7 bb8
    go_wp2_with fail
    refine (equal_t A_x (n_f) c_x (closureL f) A_y (n_f) c_y (closureL f) _ (s_x) (s_y) (by omega) (by omega)  (true) (dec_true (rfl))).mono ?_
    rintro e w9 ⟨rfl, bb9⟩
    have b9 := belLit0 b8 bb9
    replace s_f := slLit0 s_f bb9
    replace s_g := slLit0 s_g bb9
    replace s_x := slLit0 s_x bb9
    replace s_y := slLit0 s_y bb9
    clear b8 bb9
    go_wp2_with fail
    refine (nought_t A_f (n_f) c_f (f) _ (s_f) (by omega) u_f t_f (noughtL f) (n_f) (rfl) ((nought_C C_f.out).len)).mono ?_
    rintro e w10 ⟨A_z, c_z, rfl, s_z, l_z, bb10⟩
    have b10 := belLit0 b9 bb10
    replace s_f := slLit0 s_f bb10
    replace s_g := slLit0 s_g bb10
    replace s_x := slLit0 s_x bb10
    replace s_y := slLit0 s_y bb10
    clear b9 bb10
    go_wp2_with fail
    refine (hle_t A_x (n_f) c_x (closureL f) A_z (n_f) c_z (noughtL f) _ (s_x) (s_z) (by omega) (by omega)  (true) (clo_nought C_f.out)).mono ?_
    rintro e w11 ⟨rfl, bb11⟩
    have b11 := belLit0 b10 bb11
    replace s_f := slLit0 s_f bb11
    replace s_g := slLit0 s_g bb11
    replace s_x := slLit0 s_x bb11
    replace s_y := slLit0 s_y bb11
    replace s_z := slLit0 s_z bb11
    clear b10 bb11
    go_wp2_with fail
    refine (nought_t A_f (n_f) c_f (f) _ (s_f) (by omega) u_f t_f (noughtL f) (n_f) (rfl) ((nought_C C_f.out).len)).mono ?_
    rintro e w12 ⟨A_w, c_w, rfl, s_w, l_w, bb12⟩
    have b12 := belLit0 b11 bb12
    replace s_f := slLit0 s_f bb12
    replace s_g := slLit0 s_g bb12
    replace s_x := slLit0 s_x bb12
    replace s_y := slLit0 s_y bb12
    replace s_z := slLit0 s_z bb12
    clear b11 bb12
    by_cases h2 : leT g (noughtL f) = true
    · have H2 := Lib.hid h2
      clear h2
      go_wp2_with fail
      refine (hle_t A_g (n_f) c_g (g) A_w (n_f) c_w (noughtL f) _ (s_g) (s_w) (by omega) (by omega)  (true) (H2.out)).mono ?_
      rintro e w13 ⟨rfl, bb13⟩
      have b13 := belLit0 b12 bb13
      replace s_f := slLit0 s_f bb13
      replace s_g := slLit0 s_g bb13
      replace s_x := slLit0 s_x bb13
      replace s_y := slLit0 s_y bb13
      replace s_z := slLit0 s_z bb13
      replace s_w := slLit0 s_w bb13
      clear b12 bb13
      go_wp2_with fail
      refine (hle_t A_g (n_f) c_g (g) A_x (n_f) c_x (closureL f) _ (s_g) (s_x) (by omega) (by omega)  (true) (clo_top C_f.out C_g.out B.out H2.out)).mono ?_
      rintro e w14 ⟨rfl, bb14⟩
      have b14 := belLit0 b13 bb14
      replace s_f := slLit0 s_f bb14
      replace s_g := slLit0 s_g bb14
      replace s_x := slLit0 s_x bb14
      replace s_y := slLit0 s_y bb14
      replace s_z := slLit0 s_z bb14
      replace s_w := slLit0 s_w bb14
      clear b13 bb14
      clear s_f s_g s_x s_y s_z s_w
      go_wp2_with fail
      go_ret
      exact ⟨rfl, b14⟩
    · have H2 := Lib.hid h2
      clear h2
      have B2 := Lib.hid (Bool.eq_false_iff.2 H2.out)
      go_wp2_with fail
      refine (hle_t A_g (n_f) c_g (g) A_w (n_f) c_w (noughtL f) _ (s_g) (s_w) (by omega) (by omega)  (false) (B2.out)).mono ?_
      rintro e w15 ⟨rfl, bb15⟩
      have b15 := belLit0 b12 bb15
      replace s_f := slLit0 s_f bb15
      replace s_g := slLit0 s_g bb15
      replace s_x := slLit0 s_x bb15
      replace s_y := slLit0 s_y bb15
      replace s_z := slLit0 s_z bb15
      replace s_w := slLit0 s_w bb15
      clear b12 bb15
      clear s_f s_g s_x s_y s_z s_w
      go_wp2_with fail
      go_ret
      exact ⟨rfl, b15⟩
  · have H1 := Lib.hid h1
    clear h1
    have B := Lib.hid (Bool.eq_false_iff.2 H1.out)
    go_wp2_with fail
    refine (cis_any A_g (n_f) c_g (g) _ (s_g) (by omega) C_g.out (false) (0) (by rw [B.out])).mono ?_
    rintro e w16 ⟨rfl, bb16⟩
    have b16 := belLit0 b7 bb16
    replace s_f := slLit0 s_f bb16
    replace s_g := slLit0 s_g bb16
    replace s_x := slLit0 s_x bb16
    replace s_y := slLit0 s_y bb16
    clear b7 bb16
    go_wp2_with fail
    refine (equal_t A_x (n_f) c_x (closureL f) A_y (n_f) c_y (closureL f) _ (s_x) (s_y) (by omega) (by omega)  (true) (dec_true (rfl))).mono ?_
    rintro e w17 ⟨rfl, bb17⟩
    have b17 := belLit0 b16 bb17
    replace s_f := slLit0 s_f bb17
    replace s_g := slLit0 s_g bb17
    replace s_x := slLit0 s_x bb17
    replace s_y := slLit0 s_y bb17
    clear b16 bb17
    go_wp2_with fail
    refine (nought_t A_f (n_f) c_f (f) _ (s_f) (by omega) u_f t_f (noughtL f) (n_f) (rfl) ((nought_C C_f.out).len)).mono ?_
    rintro e w18 ⟨A_z, c_z, rfl, s_z, l_z, bb18⟩
    have b18 := belLit0 b17 bb18
    replace s_f := slLit0 s_f bb18
    replace s_g := slLit0 s_g bb18
    replace s_x := slLit0 s_x bb18
    replace s_y := slLit0 s_y bb18
    clear b17 bb18
    go_wp2_with fail
    refine (hle_t A_x (n_f) c_x (closureL f) A_z (n_f) c_z (noughtL f) _ (s_x) (s_z) (by omega) (by omega)  (true) (clo_nought C_f.out)).mono ?_
    rintro e w19 ⟨rfl, bb19⟩
    have b19 := belLit0 b18 bb19
    replace s_f := slLit0 s_f bb19
    replace s_g := slLit0 s_g bb19
    replace s_x := slLit0 s_x bb19
    replace s_y := slLit0 s_y bb19
    replace s_z := slLit0 s_z bb19
    clear b18 bb19
    clear s_f s_g s_x s_y s_z
    go_wp2_with fail
    go_ret
    exact ⟨rfl, b19⟩
end Go.Proofs.Ytgeeomhceplemaa
