/- ShaperMost: the shaper output is the greatest conforming curve below the input. -/
import Derived.Test.YtgenfiokplmgoaaShaperA
import Derived.Test.YtgenfiokplmgoaaBoundA
import Derived.Test.YtgenfiokplmgoaaLawKit
set_option linter.unusedVariables false
namespace Go.Proofs.Ytgenfiokplmgoaa
open Go.RowKit
theorem most_fits {n : Nat} {a l : List Int} (ha : IsC n a) (hl : IsC n l) : fitB n (shaperL a l) l = true :=
  decide_eq_true ((fit_clo hl).2 fun t ht s hs => by have := shaper_sub ha hl hs ht; omega)
theorem most_le {n : Nat} {a l : List Int} (ha : IsC n a) (hl : IsC n l) : leT (shaperL a l) a = true := leT_yes (shaper_C ha hl) ha fun i hi => shaper_le ha hl hi
theorem most_top {n : Nat} {a l d : List Int} (ha : IsC n a) (hl : IsC n l) (hd : IsC n d) (h1 : fitB n d l = true) (h2 : leT d a = true) : leT d (shaperL a l) = true :=
  leT_yes hd (shaper_C ha hl) (shaper_most ha hl ((leT_iff hd ha).1 h2) ((fit_clo hl).1 (show fitP n (gi d) (gi l) from of_decide_eq_true h1)))
set_option maxRecDepth 100000 in
set_option maxHeartbeats 3200000 in
theorem shaperMost_walk (A_a : Option Addr) (n_a c_a : Nat) (a : List Int) (A_l : Option Addr) (n_l c_l : Nat) (l : List Int) (A_d : Option Addr) (n_d c_d : Nat) (d : List Int) (W : World) (w_a : InInts W A_a n_a c_a a) (w_l : InInts W A_l n_l c_l l) (w_d : InInts W A_d n_d c_d d) :
    Calls Try.prog 4 #[.slice A_a n_a c_a, .slice A_l n_l c_l, .slice A_d n_d c_d] W fun e w' => e = .returned (.bool true) ∧ Below W.heap.size W w' := by
  obtain ⟨s_a, l_a, r_a, _⟩ := w_a
  obtain ⟨s_l, l_l, r_l, _⟩ := w_l
  obtain ⟨s_d, l_d, r_d, _⟩ := w_d
  have b0 := Below.refl W.heap.size W
  go_enter Try.func4, Try.ntmps4
  go_wp2_with fail
  refine (shaper_any _ 4 _ [0, 9, 9, 9] _ 4 _ [0, 2, 9, 9] _ (slMore (Sl.built_ _ (ints [0, 9, 9, 9]) 3 _ rfl rfl) _) (Sl.built_ _ (ints [0, 2, 9, 9]) 3 _ (by simp) rfl) (by omega) (by omega) (isC_iff.2 ⟨by decide +kernel, rfl⟩) (isC_iff.2 ⟨by decide +kernel, rfl⟩) rfl ([0, 2, 4, 6]) (0) (4) (by decide +kernel) (rfl)).mono ?_
  rintro e w1 ⟨A_t0, c_t0, rfl, s_t0, l_t0, bb1⟩
  have b1 := belLit2 b0 bb1
  replace s_a := slLit2 s_a bb1
  replace s_l := slLit2 s_l bb1
  replace s_d := slLit2 s_d bb1
  clear b0 bb1
  go_wp2_with fail
  refine (equal_t A_t0 (4) c_t0 ([0, 2, 4, 6]) _ 4 _ [0, 2, 4, 6] _ (slMore (s_t0) _) (Sl.built_ _ (ints [0, 2, 4, 6]) 3 _ rfl rfl) (by omega) (by omega)  (true) (by decide)).mono ?_
  rintro e w2 ⟨rfl, bb2⟩
  have b2 := belLit1 b1 bb2
  replace s_a := slLit1 s_a bb2
  replace s_l := slLit1 s_l bb2
  replace s_d := slLit1 s_d bb2
  replace s_t0 := slLit1 s_t0 bb2
  clear b1 bb2
  clear s_t0 l_t0
  have hl_a := s_a.int_len
  have hl_l := s_l.int_len
  have hl_d := s_d.int_len
  by_cases hok : (bothB a l && bothB l d) = true
  case neg =>
    have HOK := Lib.hid (Bool.eq_false_iff.2 hok)
    clear hok hl_a hl_l hl_d
    go_wp2_with fail
    refine (hthree_t A_a (n_a) c_a (a) A_l (n_l) c_l (l) A_d (n_d) c_d (d) _ (s_a) (s_l) (s_d) (by omega) (by omega) (by omega)  (false) (HOK.out)).mono ?_
    rintro e w3 ⟨rfl, bb3⟩
    have b3 := belLit0 b2 bb3
    replace s_a := slLit0 s_a bb3
    replace s_l := slLit0 s_l bb3
    replace s_d := slLit0 s_d bb3
    clear b2 bb3
    clear s_a s_l s_d
    go_wp2_with fail
    go_ret
    exact ⟨rfl, b3⟩
  obtain ⟨e1, e2, c_1, c_2, c_3⟩ := three_C hok hl_a hl_l hl_d
  subst e1 e2
  have HOK := Lib.hid hok
  have C_a := Lib.hid c_1
  have t_a := c_1.top
  have C_l := Lib.hid c_2
  have t_l := c_2.top
  have C_d := Lib.hid c_3
  have t_d := c_3.top
  clear hok c_1 c_2 c_3 hl_a hl_l hl_d
  go_wp2_with fail
  refine (hthree_t A_a (n_a) c_a (a) A_l (n_a) c_l (l) A_d (n_a) c_d (d) _ (s_a) (s_l) (s_d) (by omega) (by omega) (by omega)  (true) (HOK.out)).mono ?_
  rintro e w4 ⟨rfl, bb4⟩
  have b4 := belLit0 b2 bb4
  replace s_a := slLit0 s_a bb4
  replace s_l := slLit0 s_l bb4
  replace s_d := slLit0 s_d bb4
  clear b2 bb4
  go_wp2_with fail
  refine (shaper_any A_a (n_a) c_a (a) A_l (n_a) c_l (l) _ (s_a) (s_l) (by omega) (by omega) C_a.out C_l.out rfl (shaperL a l) (0) (n_a) (rfl) ((shaper_C C_a.out C_l.out).len)).mono ?_
  rintro e w5 ⟨A_x, c_x, rfl, s_x, l_x, bb5⟩
  have b5 := belLit0 b4 bb5
  replace s_a := slLit0 s_a bb5
  replace s_l := slLit0 s_l bb5
  replace s_d := slLit0 s_d bb5
  clear b4 bb5
  have C_x := Lib.hid (shaper_C C_a.out C_l.out)
  go_wp2_with fail
  refine (fits_any A_x (n_a) c_x (shaperL a l) A_l (n_a) c_l (l) _ (s_x) (s_l) (by omega) (by omega) C_x.out C_l.out rfl (true) (0) (by rw [most_fits C_a.out C_l.out])).mono ?_
  rintro e w6 ⟨rfl, bb6⟩
  have b6 := belLit0 b5 bb6
  replace s_a := slLit0 s_a bb6
  replace s_l := slLit0 s_l bb6
  replace s_d := slLit0 s_d bb6
  replace s_x := slLit0 s_x bb6
  clear b5 bb6
  by_cases h1 : fitB n_a d l = true
  · have H1 := Lib.hid h1
    clear h1
    go_wp2_with fail
    refine (fits_any A_d (n_a) c_d (d) A_l (n_a) c_l (l) _ (s_d) (s_l) (by omega) (by omega) C_d.out C_l.out rfl (true) (0) (by rw [H1.out])).mono ?_
    rintro e w7 ⟨rfl, bb7⟩
    have b7 := belLit0 b6 bb7
    replace s_a := slLit0 s_a bb7
    replace s_l := slLit0 s_l bb7
    replace s_d := slLit0 s_d bb7
    replace s_x := slLit0 s_x bb7
    clear b6 bb7
    go_wp2_with fail
    refine (hle_t A_x (n_a) c_x (shaperL a l) A_a (n_a) c_a (a) _ (s_x) (s_a) (by omega) (by omega)  (true) (most_le C_a.out C_l.out)).mono ?_
    rintro e w8 ⟨rfl, bb8⟩
    have b8 := belLit0 b7 bb8
    replace s_a := slLit0 s_a bb8
    replace s_l := slLit0 s_l bb8
    replace s_d := slLit0 s_d bb8
    replace s_x := slLit0 s_x bb8
    clear b7 bb8
    by_cases h2 : leT d a = true
    · have H2 := Lib.hid h2
      clear h2
      go_wp2_with fail
      refine (hle_t A_d (n_a) c_d (d) A_a (n_a) c_a (a) _ (s_d) (s_a) (by omega) (by omega)  (true) (H2.out)).mono ?_
      rintro e w9 ⟨rfl, bb9⟩
      have b9 := belLit0 b8 bb9
      replace s_a := slLit0 s_a bb9
      replace s_l := slLit0 s_l bb9
      replace s_d := slLit0 s_d bb9
      replace s_x := slLit0 s_x bb9
      clear b8 bb9
      go_wp2_with fail
      refine (hle_t A_d (n_a) c_d (d) A_x (n_a) c_x (shaperL a l) _ (s_d) (s_x) (by omega) (by omega)  (true) (most_top C_a.out C_l.out C_d.out H1.out H2.out)).mono ?_
      rintro e w10 ⟨rfl, bb10⟩
      have b10 := belLit0 b9 bb10
      replace s_a := slLit0 s_a bb10
      replace s_l := slLit0 s_l bb10
      replace s_d := slLit0 s_d bb10
      replace s_x := slLit0 s_x bb10
      clear b9 bb10
      clear s_a s_l s_d s_x
      go_wp2_with fail
      go_ret
      exact ⟨rfl, b10⟩
    · have H2 := Lib.hid h2
      clear h2
      have B2 := Lib.hid (Bool.eq_false_iff.2 H2.out)
      go_wp2_with fail
      refine (hle_t A_d (n_a) c_d (d) A_a (n_a) c_a (a) _ (s_d) (s_a) (by omega) (by omega)  (false) (B2.out)).mono ?_
      rintro e w11 ⟨rfl, bb11⟩
      have b11 := belLit0 b8 bb11
      replace s_a := slLit0 s_a bb11
      replace s_l := slLit0 s_l bb11
      replace s_d := slLit0 s_d bb11
      replace s_x := slLit0 s_x bb11
      clear b8 bb11
      clear s_a s_l s_d s_x
      go_wp2_with fail
      go_ret
      exact ⟨rfl, b11⟩
  · have H1 := Lib.hid h1
    clear h1
    have B1 := Lib.hid (Bool.eq_false_iff.2 H1.out)
    go_wp2_with fail
    refine (fits_any A_d (n_a) c_d (d) A_l (n_a) c_l (l) _ (s_d) (s_l) (by omega) (by omega) C_d.out C_l.out rfl (false) (0) (by rw [B1.out])).mono ?_
    rintro e w12 ⟨rfl, bb12⟩
    have b12 := belLit0 b6 bb12
    replace s_a := slLit0 s_a bb12
    replace s_l := slLit0 s_l bb12
    replace s_d := slLit0 s_d bb12
    replace s_x := slLit0 s_x bb12
    clear b6 bb12
    go_wp2_with fail
    refine (hle_t A_x (n_a) c_x (shaperL a l) A_a (n_a) c_a (a) _ (s_x) (s_a) (by omega) (by omega)  (true) (most_le C_a.out C_l.out)).mono ?_
    rintro e w13 ⟨rfl, bb13⟩
    have b13 := belLit0 b12 bb13
    replace s_a := slLit0 s_a bb13
    replace s_l := slLit0 s_l bb13
    replace s_d := slLit0 s_d bb13
    replace s_x := slLit0 s_x bb13
    clear b12 bb13
    clear s_a s_l s_d s_x
    go_wp2_with fail
    go_ret
    exact ⟨rfl, b13⟩
end Go.Proofs.Ytgenfiokplmgoaa
