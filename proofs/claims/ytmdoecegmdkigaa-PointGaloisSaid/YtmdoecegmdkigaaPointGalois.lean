/- PointGalois: Less(f, g) <= h if and only if f <= g + h. -/
import Derived.Test.YtmdoecegmdkigaaPointA
import Derived.Test.YtmdoecegmdkigaaPointL
import Derived.Test.YtmdoecegmdkigaaCurveQ
import Derived.Test.YtmdoecegmdkigaaLawKit
set_option linter.unusedVariables false
namespace Go.Proofs.Ytmdoecegmdkigaa
open Go.RowKit
theorem less_galois {n : Nat} {f g h : List Int} (hf : IsC n f) (hg : IsC n g) (hh : IsC n h) (hc : IsC n (csumL g h)) : leT (clessL f g) h = leT f (csumL g h) := by
  rw [Bool.eq_iff_iff, leT_iff (cless_C hf hg) hh, leT_iff hf hc]
  constructor
  · intro k i hi
    have a := k i hi
    rw [cless_get hf.len hi] at a
    rw [csum_get hg.len hi]
    have b : gi f i - gi g i ≤ top (fun j => gi f j - gi g j) (i + 1) := le_top (fun j => gi f j - gi g j) (by omega)
    omega
  · intro k i hi
    rw [cless_get hf.len hi]
    refine top_le (hh.lo i hi) fun j hj => ?_
    have a := k j (by omega)
    rw [csum_get hg.len (by omega)] at a
    have b := hh.up j i (by omega) hi
    omega
set_option maxRecDepth 100000 in
set_option maxHeartbeats 3200000 in
theorem pointGalois_walk (A_f : Option Addr) (n_f c_f : Nat) (f : List Int) (A_g : Option Addr) (n_g c_g : Nat) (g : List Int) (A_h : Option Addr) (n_h c_h : Nat) (h : List Int) (W : World) (w_f : InInts W A_f n_f c_f f) (w_g : InInts W A_g n_g c_g g) (w_h : InInts W A_h n_h c_h h) :
    Calls Try.prog 14 #[.slice A_f n_f c_f, .slice A_g n_g c_g, .slice A_h n_h c_h] W fun e w' => e = .returned (.bool true) ∧ Below W.heap.size W w' := by
  obtain ⟨s_f, l_f, r_f, _⟩ := w_f
  obtain ⟨s_g, l_g, r_g, _⟩ := w_g
  obtain ⟨s_h, l_h, r_h, _⟩ := w_h
  have b0 := Below.refl W.heap.size W
  go_enter Try.func14, Try.ntmps14
  go_wp2_with fail
  refine (pless_any _ 3 _ [0, 5, 6] _ 3 _ [0, 1, 6] _ (slMore (Sl.built_ _ (ints [0, 5, 6]) 3 _ rfl rfl) _) (Sl.built_ _ (ints [0, 1, 6]) 3 _ (by simp) rfl) (by omega) (by omega) (isC_iff.2 ⟨by decide +kernel, rfl⟩) (isC_iff.2 ⟨by decide +kernel, rfl⟩) rfl ([0, 4, 4]) (0) (3) (by decide +kernel) (rfl)).mono ?_
  rintro e w1 ⟨A_t0, c_t0, rfl, s_t0, l_t0, bb1⟩
  have b1 := belLit2 b0 bb1
  replace s_f := slLit2 s_f bb1
  replace s_g := slLit2 s_g bb1
  replace s_h := slLit2 s_h bb1
  clear b0 bb1
  go_wp2_with fail
  refine (equal_t A_t0 (3) c_t0 ([0, 4, 4]) _ 3 _ [0, 4, 4] _ (slMore (s_t0) _) (Sl.built_ _ (ints [0, 4, 4]) 3 _ rfl rfl) (by omega) (by omega)  (true) (by decide)).mono ?_
  rintro e w2 ⟨rfl, bb2⟩
  have b2 := belLit1 b1 bb2
  replace s_f := slLit1 s_f bb2
  replace s_g := slLit1 s_g bb2
  replace s_h := slLit1 s_h bb2
  replace s_t0 := slLit1 s_t0 bb2
  clear b1 bb2
  clear s_t0 l_t0
  have hl_f := s_f.int_len
  have hl_g := s_g.int_len
  have hl_h := s_h.int_len
  by_cases hok : (bothB f g && bothB g h) = true
  case neg =>
    have HOK := Lib.hid (Bool.eq_false_iff.2 hok)
    clear hok hl_f hl_g hl_h
    go_wp2_with fail
    refine (hthree_t A_f (n_f) c_f (f) A_g (n_g) c_g (g) A_h (n_h) c_h (h) _ (s_f) (s_g) (s_h) (by omega) (by omega) (by omega)  (false) (HOK.out)).mono ?_
    rintro e w3 ⟨rfl, bb3⟩
    have b3 := belLit0 b2 bb3
    replace s_f := slLit0 s_f bb3
    replace s_g := slLit0 s_g bb3
    replace s_h := slLit0 s_h bb3
    clear b2 bb3
    clear s_f s_g s_h
    go_wp2_with fail
    go_ret
    exact ⟨rfl, b3⟩
  obtain ⟨e1, e2, c_1, c_2, c_3⟩ := three_C hok hl_f hl_g hl_h
  subst e1 e2
  have HOK := Lib.hid hok
  have C_f := Lib.hid c_1
  have t_f := c_1.top
  have C_g := Lib.hid c_2
  have t_g := c_2.top
  have C_h := Lib.hid c_3
  have t_h := c_3.top
  clear hok c_1 c_2 c_3 hl_f hl_g hl_h
  go_wp2_with fail
  refine (hthree_t A_f (n_f) c_f (f) A_g (n_f) c_g (g) A_h (n_f) c_h (h) _ (s_f) (s_g) (s_h) (by omega) (by omega) (by omega)  (true) (HOK.out)).mono ?_
  rintro e w4 ⟨rfl, bb4⟩
  have b4 := belLit0 b2 bb4
  replace s_f := slLit0 s_f bb4
  replace s_g := slLit0 s_g bb4
  replace s_h := slLit0 s_h bb4
  clear b2 bb4
  go_wp2_with fail
  refine (pless_any A_f (n_f) c_f (f) A_g (n_f) c_g (g) _ (s_f) (s_g) (by omega) (by omega) C_f.out C_g.out rfl (clessL f g) (0) (n_f) (by rw [fit_yes (fits_C (cless_C C_f.out C_g.out))]) ((cless_C C_f.out C_g.out).len)).mono ?_
  rintro e w5 ⟨A_x, c_x, rfl, s_x, l_x, bb5⟩
  have b5 := belLit0 b4 bb5
  replace s_f := slLit0 s_f bb5
  replace s_g := slLit0 s_g bb5
  replace s_h := slLit0 s_h bb5
  clear b4 bb5
  have C_x := Lib.hid (cless_C C_f.out C_g.out)
  by_cases h1 : fits (csumL g h) = true
  · have H1 := Lib.hid h1
    clear h1
    go_wp2_with fail
    refine (psum_any A_g (n_f) c_g (g) A_h (n_f) c_h (h) _ (s_g) (s_h) (by omega) (by omega)  (csumL (g) (h)) (0) (n_f) (csum_yes C_g.out C_h.out H1.out (rfl)) ((tab_len _ _).trans C_g.out.len)).mono ?_
    rintro e w6 ⟨A_y, c_y, rfl, s_y, l_y, bb6⟩
    have b6 := belLit0 b5 bb6
    replace s_f := slLit0 s_f bb6
    replace s_g := slLit0 s_g bb6
    replace s_h := slLit0 s_h bb6
    replace s_x := slLit0 s_x bb6
    clear b5 bb6
    have C_y := Lib.hid (csum_C C_g.out C_h.out H1.out)
    obtain ⟨v, hv⟩ : ∃ v, leT f (csumL g h) = v := ⟨_, rfl⟩
    have HV := Lib.hid hv
    clear hv
    have hvv : (v == v) = true := by simp
    go_wp2_with fail
    refine (hle_t A_x (n_f) c_x (clessL f g) A_h (n_f) c_h (h) _ (s_x) (s_h) (by omega) (by omega)  (v) ((less_galois C_f.out C_g.out C_h.out C_y.out).trans HV.out)).mono ?_
    rintro e w7 ⟨rfl, bb7⟩
    have b7 := belLit0 b6 bb7
    replace s_f := slLit0 s_f bb7
    replace s_g := slLit0 s_g bb7
    replace s_h := slLit0 s_h bb7
    replace s_x := slLit0 s_x bb7
    replace s_y := slLit0 s_y bb7
    clear b6 bb7
    go_wp2_with fail
    refine (hle_t A_f (n_f) c_f (f) A_y (n_f) c_y (csumL (g) (h)) _ (s_f) (s_y) (by omega) (by omega)  (v) (HV.out)).mono ?_
    rintro e w8 ⟨rfl, bb8⟩
    have b8 := belLit0 b7 bb8
    replace s_f := slLit0 s_f bb8
    replace s_g := slLit0 s_g bb8
    replace s_h := slLit0 s_h bb8
    replace s_x := slLit0 s_x bb8
    replace s_y := slLit0 s_y bb8
    clear b7 bb8
    clear s_f s_g s_h s_x s_y
    go_wp2_with fail
    go_ret
    exact ⟨rfl, b8⟩
  · have H1 := Lib.hid h1
    clear h1
    go_wp2_with fail
    refine (psum_any A_g (n_f) c_g (g) A_h (n_f) c_h (h) _ (s_g) (s_h) (by omega) (by omega)  ([]) (2) (0) (csum_no C_g.out C_h.out H1.out) (rfl)).mono ?_
    rintro e w9 ⟨A_y, c_y, rfl, s_y, l_y, bb9⟩
    have b9 := belLit0 b5 bb9
    replace s_f := slLit0 s_f bb9
    replace s_g := slLit0 s_g bb9
    replace s_h := slLit0 s_h bb9
    replace s_x := slLit0 s_x bb9
    clear b5 bb9
    clear s_f s_g s_h s_x s_y
    go_wp2_with fail
    go_ret
    exact ⟨rfl, b9⟩
end Go.Proofs.Ytmdoecegmdkigaa
