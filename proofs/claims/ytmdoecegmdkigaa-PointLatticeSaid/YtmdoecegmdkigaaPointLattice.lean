/- PointLattice: Min and Max form a distributive lattice. -/
import Derived.Test.YtmdoecegmdkigaaPointA
import Derived.Test.YtmdoecegmdkigaaCurveQ
import Derived.Test.YtmdoecegmdkigaaLawKit
set_option linter.unusedVariables false
namespace Go.Proofs.Ytmdoecegmdkigaa
open Go.RowKit
theorem lat_c {n : Nat} {f g : List Int} (hf : IsC n f) (hg : IsC n g) : cmaxL f (cminL f g) = f :=
  ext_n (n := n) (cmax_C hf (cmin_C hf hg)).len hf.len fun i hi => by rw [cmax_get hf.len hi, cmin_get hf.len hi]; unfold mx mn; (repeat' split) <;> omega
theorem lat_d {n : Nat} {f g : List Int} (hf : IsC n f) (hg : IsC n g) : cminL f (cmaxL f g) = f :=
  ext_n (n := n) (cmin_C hf (cmax_C hf hg)).len hf.len fun i hi => by rw [cmin_get hf.len hi, cmax_get hf.len hi]; unfold mx mn; (repeat' split) <;> omega
theorem lat_x {n : Nat} {f g h : List Int} (hf : IsC n f) (hg : IsC n g) (hh : IsC n h) : cminL f (cmaxL g h) = cmaxL (cminL f g) (cminL f h) :=
  ext_n (n := n) (cmin_C hf (cmax_C hg hh)).len (cmax_C (cmin_C hf hg) (cmin_C hf hh)).len fun i hi => by
    rw [cmin_get hf.len hi, cmax_get hg.len hi, cmax_get (cmin_C hf hg).len hi, cmin_get hf.len hi, cmin_get hf.len hi]
    unfold mx mn; (repeat' split) <;> omega
theorem lat_le1 {n : Nat} {f g : List Int} (hf : IsC n f) (hg : IsC n g) : leT (cminL f g) f = true := leT_yes (cmin_C hf hg) hf fun i hi => by rw [cmin_get hf.len hi]; exact (mn_le _ _).1
theorem lat_le2 {n : Nat} {f g : List Int} (hf : IsC n f) (hg : IsC n g) : leT f (cmaxL f g) = true := leT_yes hf (cmax_C hf hg) fun i hi => by rw [cmax_get hf.len hi]; exact (mx_le _ _).1
theorem lat_iff {n : Nat} {f g h : List Int} (hf : IsC n f) (hg : IsC n g) (hh : IsC n h) : leT h (cminL f g) = (leT h f && leT h g) := by
  rw [Bool.eq_iff_iff, Bool.and_eq_true, leT_iff hh (cmin_C hf hg), leT_iff hh hf, leT_iff hh hg]
  constructor
  · intro k
    refine ⟨fun i hi => ?_, fun i hi => ?_⟩ <;> (have := k i hi; rw [cmin_get hf.len hi] at this; have := mn_le (gi f i) (gi g i); omega)
  · intro ⟨k1, k2⟩ i hi
    rw [cmin_get hf.len hi]
    have := k1 i hi
    have := k2 i hi
    have := mn_le (gi f i) (gi g i)
    omega
set_option maxRecDepth 100000 in
set_option maxHeartbeats 3200000 in
theorem pointLattice_walk (A_f : Option Addr) (n_f c_f : Nat) (f : List Int) (A_g : Option Addr) (n_g c_g : Nat) (g : List Int) (A_h : Option Addr) (n_h c_h : Nat) (h : List Int) (W : World) (w_f : InInts W A_f n_f c_f f) (w_g : InInts W A_g n_g c_g g) (w_h : InInts W A_h n_h c_h h) :
    Calls Try.prog 12 #[.slice A_f n_f c_f, .slice A_g n_g c_g, .slice A_h n_h c_h] W fun e w' => e = .returned (.bool true) ∧ Below W.heap.size W w' := by
  obtain ⟨s_f, l_f, r_f, _⟩ := w_f
  obtain ⟨s_g, l_g, r_g, _⟩ := w_g
  obtain ⟨s_h, l_h, r_h, _⟩ := w_h
  have b0 := Below.refl W.heap.size W
  go_enter Try.func12, Try.ntmps12
  go_wp2_with fail
  refine (pmin_any _ 2 _ [0, 3] _ 2 _ [1, 2] _ (slMore (Sl.built_ _ (ints [0, 3]) 3 _ rfl rfl) _) (Sl.built_ _ (ints [1, 2]) 3 _ (by simp) rfl) (by omega) (by omega)  ([0, 2]) (0) (2) (by decide +kernel) (rfl)).mono ?_
  rintro e w1 ⟨A_t0, c_t0, rfl, s_t0, l_t0, bb1⟩
  have b1 := belLit2 b0 bb1
  replace s_f := slLit2 s_f bb1
  replace s_g := slLit2 s_g bb1
  replace s_h := slLit2 s_h bb1
  clear b0 bb1
  go_wp2_with fail
  refine (equal_t A_t0 2 c_t0 ([0, 2]) _ 2 _ [0, 2] _ (slMore (s_t0) _) (Sl.built_ _ (ints [0, 2]) 3 _ rfl rfl) (by omega) (by omega)  (true) (by decide)).mono ?_
  rintro e w2 ⟨rfl, bb2⟩
  have b2 := belLit1 b1 bb2
  replace s_f := slLit1 s_f bb2
  replace s_g := slLit1 s_g bb2
  replace s_h := slLit1 s_h bb2
  replace s_t0 := slLit1 s_t0 bb2
  clear b1 bb2
  clear s_t0 l_t0
  have hl_f := s_f.int_len
  have hl_g := s_g.int_len
  have hl_h := s_h.int_len
  by_cases hok : (bothB f g && bothB g h) = true
  case neg =>
    have HOK := Lib.hid (Bool.eq_false_iff.2 hok)
    clear hok hl_f hl_g hl_h
    go_wp2_with fail
    refine (hthree_t A_f n_f c_f (f) A_g n_g c_g (g) A_h n_h c_h (h) _ (s_f) (s_g) (s_h) (by omega) (by omega) (by omega)  (false) (HOK.out)).mono ?_
    rintro e w3 ⟨rfl, bb3⟩
    have b3 := belLit0 b2 bb3
    replace s_f := slLit0 s_f bb3
    replace s_g := slLit0 s_g bb3
    replace s_h := slLit0 s_h bb3
    clear b2 bb3
    clear s_f s_g s_h
    go_wp2_with fail
    go_ret
    exact ⟨rfl, b3⟩
  obtain ⟨e1, e2, c_1, c_2, c_3⟩ := three_C hok hl_f hl_g hl_h
  subst e1 e2
  have HOK := Lib.hid hok
  have C_f := Lib.hid c_1
  have t_f := c_1.top
  have C_g := Lib.hid c_2
  have t_g := c_2.top
  have C_h := Lib.hid c_3
  have t_h := c_3.top
  clear hok c_1 c_2 c_3 hl_f hl_g hl_h
  go_wp2_with fail
  refine (hthree_t A_f n_f c_f (f) A_g n_f c_g (g) A_h n_f c_h (h) _ (s_f) (s_g) (s_h) (by omega) (by omega) (by omega)  (true) (HOK.out)).mono ?_
  rintro e w4 ⟨rfl, bb4⟩
  have b4 := belLit0 b2 bb4
  replace s_f := slLit0 s_f bb4
  replace s_g := slLit0 s_g bb4
  replace s_h := slLit0 s_h bb4
  clear b2 bb4
  go_wp2_with fail
  refine (pmin_any A_f n_f c_f (f) A_g n_f c_g (g) _ (s_f) (s_g) (by omega) (by omega)  (cminL (f) (g)) (0) (n_f) (cmin_yes C_f.out C_g.out (rfl)) ((tab_len _ _).trans C_f.out.len)).mono ?_
  rintro e w5 ⟨A_a, c_a, rfl, s_a, l_a, bb5⟩
  have b5 := belLit0 b4 bb5
  replace s_f := slLit0 s_f bb5
  replace s_g := slLit0 s_g bb5
  replace s_h := slLit0 s_h bb5
  clear b4 bb5
  have C_a := Lib.hid (cmin_C C_f.out C_g.out)
  go_wp2_with fail
  refine (pmax_any A_f n_f c_f (f) A_g n_f c_g (g) _ (s_f) (s_g) (by omega) (by omega)  (cmaxL (f) (g)) (0) (n_f) (cmax_yes C_f.out C_g.out (rfl)) ((tab_len _ _).trans C_f.out.len)).mono ?_
  rintro e w6 ⟨A_b, c_b, rfl, s_b, l_b, bb6⟩
  have b6 := belLit0 b5 bb6
  replace s_f := slLit0 s_f bb6
  replace s_g := slLit0 s_g bb6
  replace s_h := slLit0 s_h bb6
  replace s_a := slLit0 s_a bb6
  clear b5 bb6
  have C_b := Lib.hid (cmax_C C_f.out C_g.out)
  go_wp2_with fail
  refine (pmax_any A_f n_f c_f (f) A_a n_f c_a (cminL (f) (g)) _ (s_f) (s_a) (by omega) (by omega)  (cmaxL (f) (cminL (f) (g))) (0) (n_f) (cmax_yes C_f.out C_a.out (rfl)) ((tab_len _ _).trans C_f.out.len)).mono ?_
  rintro e w7 ⟨A_c, c_c, rfl, s_c, l_c, bb7⟩
  have b7 := belLit0 b6 bb7
  replace s_f := slLit0 s_f bb7
  replace s_g := slLit0 s_g bb7
  replace s_h := slLit0 s_h bb7
  replace s_a := slLit0 s_a bb7
  replace s_b := slLit0 s_b bb7
  clear b6 bb7
  have C_c := Lib.hid (cmax_C C_f.out C_a.out)
  go_wp2_with fail
  refine (pmin_any A_f n_f c_f (f) A_b n_f c_b (cmaxL (f) (g)) _ (s_f) (s_b) (by omega) (by omega)  (cminL (f) (cmaxL (f) (g))) (0) (n_f) (cmin_yes C_f.out C_b.out (rfl)) ((tab_len _ _).trans C_f.out.len)).mono ?_
  rintro e w8 ⟨A_d, c_d, rfl, s_d, l_d, bb8⟩
  have b8 := belLit0 b7 bb8
  replace s_f := slLit0 s_f bb8
  replace s_g := slLit0 s_g bb8
  replace s_h := slLit0 s_h bb8
  replace s_a := slLit0 s_a bb8
  replace s_b := slLit0 s_b bb8
  replace s_c := slLit0 s_c bb8
  clear b7 bb8
  have C_d := Lib.hid (cmin_C C_f.out C_b.out)
  go_wp2_with fail
  refine (pmax_any A_g n_f c_g (g) A_h n_f c_h (h) _ (s_g) (s_h) (by omega) (by omega)  (cmaxL (g) (h)) (0) (n_f) (cmax_yes C_g.out C_h.out (rfl)) ((tab_len _ _).trans C_g.out.len)).mono ?_
  rintro e w9 ⟨A_gh, c_gh, rfl, s_gh, l_gh, bb9⟩
  have b9 := belLit0 b8 bb9
  replace s_f := slLit0 s_f bb9
  replace s_g := slLit0 s_g bb9
  replace s_h := slLit0 s_h bb9
  replace s_a := slLit0 s_a bb9
  replace s_b := slLit0 s_b bb9
  replace s_c := slLit0 s_c bb9
  replace s_d := slLit0 s_d bb9
  clear b8 bb9
  have C_gh := Lib.hid (cmax_C C_g.out C_h.out)
  go_wp2_with fail
  refine (pmin_any A_f n_f c_f (f) A_gh n_f c_gh (cmaxL (g) (h)) _ (s_f) (s_gh) (by omega) (by omega)  (cminL (f) (cmaxL (g) (h))) (0) (n_f) (cmin_yes C_f.out C_gh.out (rfl)) ((tab_len _ _).trans C_f.out.len)).mono ?_
  rintro e w10 ⟨A_x, c_x, rfl, s_x, l_x, bb10⟩
  have b10 := belLit0 b9 bb10
  replace s_f := slLit0 s_f bb10
  replace s_g := slLit0 s_g bb10
  replace s_h := slLit0 s_h bb10
  replace s_a := slLit0 s_a bb10
  replace s_b := slLit0 s_b bb10
  replace s_c := slLit0 s_c bb10
  replace s_d := slLit0 s_d bb10
  replace s_gh := slLit0 s_gh bb10
  clear b9 bb10
  have C_x := Lib.hid (cmin_C C_f.out C_gh.out)
  go_wp2_with fail
  refine (pmin_any A_f n_f c_f (f) A_h n_f c_h (h) _ (s_f) (s_h) (by omega) (by omega)  (cminL (f) (h)) (0) (n_f) (cmin_yes C_f.out C_h.out (rfl)) ((tab_len _ _).trans C_f.out.len)).mono ?_
  rintro e w11 ⟨A_fh, c_fh, rfl, s_fh, l_fh, bb11⟩
  have b11 := belLit0 b10 bb11
  replace s_f := slLit0 s_f bb11
  replace s_g := slLit0 s_g bb11
  replace s_h := slLit0 s_h bb11
  replace s_a := slLit0 s_a bb11
  replace s_b := slLit0 s_b bb11
  replace s_c := slLit0 s_c bb11
  replace s_d := slLit0 s_d bb11
  replace s_gh := slLit0 s_gh bb11
  replace s_x := slLit0 s_x bb11
  clear b10 bb11
  have C_fh := Lib.hid (cmin_C C_f.out C_h.out)
  go_wp2_with fail
  refine (pmax_any A_a n_f c_a (cminL (f) (g)) A_fh n_f c_fh (cminL (f) (h)) _ (s_a) (s_fh) (by omega) (by omega)  (cmaxL (cminL (f) (g)) (cminL (f) (h))) (0) (n_f) (cmax_yes C_a.out C_fh.out (rfl)) ((tab_len _ _).trans C_a.out.len)).mono ?_
  rintro e w12 ⟨A_y, c_y, rfl, s_y, l_y, bb12⟩
  have b12 := belLit0 b11 bb12
  replace s_f := slLit0 s_f bb12
  replace s_g := slLit0 s_g bb12
  replace s_h := slLit0 s_h bb12
  replace s_a := slLit0 s_a bb12
  replace s_b := slLit0 s_b bb12
  replace s_c := slLit0 s_c bb12
  replace s_d := slLit0 s_d bb12
  replace s_gh := slLit0 s_gh bb12
  replace s_x := slLit0 s_x bb12
  replace s_fh := slLit0 s_fh bb12
  clear b11 bb12
  have C_y := Lib.hid (cmax_C C_a.out C_fh.out)
  go_wp2_with fail
  refine (equal_t A_c n_f c_c (cmaxL (f) (cminL (f) (g))) A_f n_f c_f (f) _ (s_c) (s_f) (by omega) (by omega)  (true) (dec_true (lat_c C_f.out C_g.out))).mono ?_
  rintro e w13 ⟨rfl, bb13⟩
  have b13 := belLit0 b12 bb13
  replace s_f := slLit0 s_f bb13
  replace s_g := slLit0 s_g bb13
  replace s_h := slLit0 s_h bb13
  replace s_a := slLit0 s_a bb13
  replace s_b := slLit0 s_b bb13
  replace s_c := slLit0 s_c bb13
  replace s_d := slLit0 s_d bb13
  replace s_gh := slLit0 s_gh bb13
  replace s_x := slLit0 s_x bb13
  replace s_fh := slLit0 s_fh bb13
  replace s_y := slLit0 s_y bb13
  clear b12 bb13
  go_wp2_with fail
  refine (equal_t A_d n_f c_d (cminL (f) (cmaxL (f) (g))) A_f n_f c_f (f) _ (s_d) (s_f) (by omega) (by omega)  (true) (dec_true (lat_d C_f.out C_g.out))).mono ?_
  rintro e w14 ⟨rfl, bb14⟩
  have b14 := belLit0 b13 bb14
  replace s_f := slLit0 s_f bb14
  replace s_g := slLit0 s_g bb14
  replace s_h := slLit0 s_h bb14
  replace s_a := slLit0 s_a bb14
  replace s_b := slLit0 s_b bb14
  replace s_c := slLit0 s_c bb14
  replace s_d := slLit0 s_d bb14
  replace s_gh := slLit0 s_gh bb14
  replace s_x := slLit0 s_x bb14
  replace s_fh := slLit0 s_fh bb14
  replace s_y := slLit0 s_y bb14
  clear b13 bb14
  go_wp2_with fail
  refine (equal_t A_x n_f c_x (cminL (f) (cmaxL (g) (h))) A_y n_f c_y (cmaxL (cminL (f) (g)) (cminL (f) (h))) _ (s_x) (s_y) (by omega) (by omega)  (true) (dec_true (lat_x C_f.out C_g.out C_h.out))).mono ?_
  rintro e w15 ⟨rfl, bb15⟩
  have b15 := belLit0 b14 bb15
  replace s_f := slLit0 s_f bb15
  replace s_g := slLit0 s_g bb15
  replace s_h := slLit0 s_h bb15
  replace s_a := slLit0 s_a bb15
  replace s_b := slLit0 s_b bb15
  replace s_c := slLit0 s_c bb15
  replace s_d := slLit0 s_d bb15
  replace s_gh := slLit0 s_gh bb15
  replace s_x := slLit0 s_x bb15
  replace s_fh := slLit0 s_fh bb15
  replace s_y := slLit0 s_y bb15
  clear b14 bb15
  go_wp2_with fail
  refine (hle_t A_a n_f c_a (cminL (f) (g)) A_f n_f c_f (f) _ (s_a) (s_f) (by omega) (by omega)  (true) (lat_le1 C_f.out C_g.out)).mono ?_
  rintro e w16 ⟨rfl, bb16⟩
  have b16 := belLit0 b15 bb16
  replace s_f := slLit0 s_f bb16
  replace s_g := slLit0 s_g bb16
  replace s_h := slLit0 s_h bb16
  replace s_a := slLit0 s_a bb16
  replace s_b := slLit0 s_b bb16
  replace s_c := slLit0 s_c bb16
  replace s_d := slLit0 s_d bb16
  replace s_gh := slLit0 s_gh bb16
  replace s_x := slLit0 s_x bb16
  replace s_fh := slLit0 s_fh bb16
  replace s_y := slLit0 s_y bb16
  clear b15 bb16
  go_wp2_with fail
  refine (hle_t A_f n_f c_f (f) A_b n_f c_b (cmaxL (f) (g)) _ (s_f) (s_b) (by omega) (by omega)  (true) (lat_le2 C_f.out C_g.out)).mono ?_
  rintro e w17 ⟨rfl, bb17⟩
  have b17 := belLit0 b16 bb17
  replace s_f := slLit0 s_f bb17
  replace s_g := slLit0 s_g bb17
  replace s_h := slLit0 s_h bb17
  replace s_a := slLit0 s_a bb17
  replace s_b := slLit0 s_b bb17
  replace s_c := slLit0 s_c bb17
  replace s_d := slLit0 s_d bb17
  replace s_gh := slLit0 s_gh bb17
  replace s_x := slLit0 s_x bb17
  replace s_fh := slLit0 s_fh bb17
  replace s_y := slLit0 s_y bb17
  clear b16 bb17
  by_cases h1 : leT h f = true
  · have H1 := Lib.hid h1
    clear h1
    obtain ⟨v, hv⟩ : ∃ v, leT h g = v := ⟨_, rfl⟩
    have HV := Lib.hid hv
    clear hv
    have hvv : (v == v) = true := by simp
    go_wp2_with fail
    refine (hle_t A_h n_f c_h (h) A_f n_f c_f (f) _ (s_h) (s_f) (by omega) (by omega)  (true) (H1.out)).mono ?_
    rintro e w18 ⟨rfl, bb18⟩
    have b18 := belLit0 b17 bb18
    replace s_f := slLit0 s_f bb18
    replace s_g := slLit0 s_g bb18
    replace s_h := slLit0 s_h bb18
    replace s_a := slLit0 s_a bb18
    replace s_b := slLit0 s_b bb18
    replace s_c := slLit0 s_c bb18
    replace s_d := slLit0 s_d bb18
    replace s_gh := slLit0 s_gh bb18
    replace s_x := slLit0 s_x bb18
    replace s_fh := slLit0 s_fh bb18
    replace s_y := slLit0 s_y bb18
    clear b17 bb18
    go_wp2_with fail
    refine (hle_t A_h n_f c_h (h) A_g n_f c_g (g) _ (s_h) (s_g) (by omega) (by omega)  (v) (HV.out)).mono ?_
    rintro e w19 ⟨rfl, bb19⟩
    have b19 := belLit0 b18 bb19
    replace s_f := slLit0 s_f bb19
    replace s_g := slLit0 s_g bb19
    replace s_h := slLit0 s_h bb19
    replace s_a := slLit0 s_a bb19
    replace s_b := slLit0 s_b bb19
    replace s_c := slLit0 s_c bb19
    replace s_d := slLit0 s_d bb19
    replace s_gh := slLit0 s_gh bb19
    replace s_x := slLit0 s_x bb19
    replace s_fh := slLit0 s_fh bb19
    replace s_y := slLit0 s_y bb19
    clear b18 bb19
    go_wp2_with fail
    refine (hle_t A_h n_f c_h (h) A_a n_f c_a (cminL (f) (g)) _ (s_h) (s_a) (by omega) (by omega)  (v) (by rw [lat_iff C_f.out C_g.out C_h.out, H1.out, HV.out]; rfl)).mono ?_
    rintro e w20 ⟨rfl, bb20⟩
    have b20 := belLit0 b19 bb20
    replace s_f := slLit0 s_f bb20
    replace s_g := slLit0 s_g bb20
    replace s_h := slLit0 s_h bb20
    replace s_a := slLit0 s_a bb20
    replace s_b := slLit0 s_b bb20
    replace s_c := slLit0 s_c bb20
    replace s_d := slLit0 s_d bb20
    replace s_gh := slLit0 s_gh bb20
    replace s_x := slLit0 s_x bb20
    replace s_fh := slLit0 s_fh bb20
    replace s_y := slLit0 s_y bb20
    clear b19 bb20
    clear s_f s_g s_h s_a s_b s_c s_d s_gh s_x s_fh s_y
    go_wp2_with fail
    go_ret
    exact ⟨rfl, b20⟩
  · have H1 := Lib.hid h1
    clear h1
    have H5 := Lib.hid (Bool.eq_false_iff.2 H1.out)
    go_wp2_with fail
    refine (hle_t A_h n_f c_h (h) A_f n_f c_f (f) _ (s_h) (s_f) (by omega) (by omega)  (false) (H5.out)).mono ?_
    rintro e w21 ⟨rfl, bb21⟩
    have b21 := belLit0 b17 bb21
    replace s_f := slLit0 s_f bb21
    replace s_g := slLit0 s_g bb21
    replace s_h := slLit0 s_h bb21
    replace s_a := slLit0 s_a bb21
    replace s_b := slLit0 s_b bb21
    replace s_c := slLit0 s_c bb21
    replace s_d := slLit0 s_d bb21
    replace s_gh := slLit0 s_gh bb21
    replace s_x := slLit0 s_x bb21
    replace s_fh := slLit0 s_fh bb21
    replace s_y := slLit0 s_y bb21
    clear b17 bb21
    go_wp2_with fail
    refine (hle_t A_h n_f c_h (h) A_a n_f c_a (cminL (f) (g)) _ (s_h) (s_a) (by omega) (by omega)  (false) (by rw [lat_iff C_f.out C_g.out C_h.out, H5.out]; rfl)).mono ?_
    rintro e w22 ⟨rfl, bb22⟩
    have b22 := belLit0 b21 bb22
    replace s_f := slLit0 s_f bb22
    replace s_g := slLit0 s_g bb22
    replace s_h := slLit0 s_h bb22
    replace s_a := slLit0 s_a bb22
    replace s_b := slLit0 s_b bb22
    replace s_c := slLit0 s_c bb22
    replace s_d := slLit0 s_d bb22
    replace s_gh := slLit0 s_gh bb22
    replace s_x := slLit0 s_x bb22
    replace s_fh := slLit0 s_fh bb22
    replace s_y := slLit0 s_y bb22
    clear b21 bb22
    clear s_f s_g s_h s_a s_b s_c s_d s_gh s_x s_fh s_y
    go_wp2_with fail
    go_ret
    exact ⟨rfl, b22⟩
end Go.Proofs.Ytmdoecegmdkigaa
