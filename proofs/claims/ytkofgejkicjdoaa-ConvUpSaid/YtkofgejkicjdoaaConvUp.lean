/- ConvUp: convolution commutes with vertical shifts, and convolution with zero yields the first value. -/
import Derived.Test.YtkofgejkicjdoaaConvA
import Derived.Test.YtkofgejkicjdoaaPointU
import Derived.Test.YtkofgejkicjdoaaCurveQ
import Derived.Test.YtkofgejkicjdoaaLawKit
set_option linter.unusedVariables false
namespace Go.Proofs.Ytkofgejkicjdoaa
open Go.RowKit
theorem conv_up {n : Nat} {f g : List Int} {m : Int} (hf : IsC n f) : convL (cupL f m) g = cupL (convL f g) m := by
  have e0 : (cupL f m).length = n := by unfold cupL; rw [tab_len, hf.len]
  have e1 : (convL f g).length = n := by rw [convL_len, hf.len]
  refine ext_n (n := n) (by rw [convL_len, e0]) (by unfold cupL; rw [tab_len, e1]) fun i hi => ?_
  rw [convL_get e0 hi, cup_get e1 hi, convL_get hf.len hi]
  refine Int.le_antisymm ?_ (le_cv fun s hs => ?_)
  · obtain ⟨s, hs, e⟩ := cv_ex (gi f) (gi g) i
    have := cv_le (gi (cupL f m)) (gi g) hs
    rw [cup_get hf.len (by omega)] at this
    omega
  · have := cv_le (gi f) (gi g) hs
    rw [cup_get hf.len (by omega)]
    omega
theorem zero_C {n : Nat} (h1 : 0 < n) (h2 : n ≤ 61) : IsC n (tab n fun _ => 0) := isC_tab h1 h2 (fun _ _ => by omega) (fun _ _ => by omega) fun _ _ => by omega
theorem conv_zero {n : Nat} {f : List Int} (hf : IsC n f) {i : Nat} (hi : i < n) : gi (convL f (tab n fun _ => 0)) i = gi f 0 := by
  rw [convL_get hf.len hi]
  refine Int.le_antisymm ?_ (le_cv fun s hs => ?_)
  · have := cv_le (gi f) (gi (tab n fun _ => 0)) (t := i) (s := 0) (by omega)
    rw [tab_get _ (by omega)] at this
    omega
  · rw [tab_get _ (by omega)]
    have := hf.up 0 s (by omega) (by omega)
    omega
theorem conv_zero_fits {n : Nat} {f : List Int} (hf : IsC n f) : fits (convL f (tab n fun _ => 0)) = true := fits_iff.2 fun i hi => by
  rw [convL_len, hf.len] at hi
  rw [conv_zero hf hi]
  exact hf.hi 0 (by omega)
set_option maxRecDepth 100000 in
set_option maxHeartbeats 3200000 in
theorem convUp_walk (A_f : Option Addr) (n_f c_f : Nat) (f : List Int) (A_g : Option Addr) (n_g c_g : Nat) (g : List Int) (k : Int) (W : World) (w_f : InInts W A_f n_f c_f f) (w_g : InInts W A_g n_g c_g g) (w_k : -9223372036854775808 ≤ k ∧ k ≤ 9223372036854775807) :
    Calls Try.prog 6 #[.slice A_f n_f c_f, .slice A_g n_g c_g, .int .i64 k] W fun e w' => e = .returned (.bool true) ∧ Below W.heap.size W w' := by
  obtain ⟨s_f, l_f, r_f, _⟩ := w_f
  obtain ⟨s_g, l_g, r_g, _⟩ := w_g
  have b0 := Below.refl W.heap.size W
  go_enter Try.func6, Try.ntmps6
  go_wp2_with fail
  refine (conv_any _ 2 _ [2, 3] _ 2 _ [0, 0] _ (slMore (Sl.built_ _ (ints [2, 3]) 3 _ rfl rfl) _) (Sl.built_ _ (ints [0, 0]) 3 _ (by simp) rfl) (by omega) (by omega)  ([2, 2]) (0) (2) (by decide +kernel) (rfl)).mono ?_
  rintro e w1 ⟨A_t0, c_t0, rfl, s_t0, l_t0, bb1⟩
  have b1 := belLit2 b0 bb1
  replace s_f := slLit2 s_f bb1
  replace s_g := slLit2 s_g bb1
  clear b0 bb1
  go_wp2_with fail
  refine (equal_t A_t0 (2) c_t0 ([2, 2]) _ 2 _ [2, 2] _ (slMore (s_t0) _) (Sl.built_ _ (ints [2, 2]) 3 _ rfl rfl) (by omega) (by omega)  (true) (by decide)).mono ?_
  rintro e w2 ⟨rfl, bb2⟩
  have b2 := belLit1 b1 bb2
  replace s_f := slLit1 s_f bb2
  replace s_g := slLit1 s_g bb2
  replace s_t0 := slLit1 s_t0 bb2
  clear b1 bb2
  clear s_t0 l_t0
  have hl_f := s_f.int_len
  have hl_g := s_g.int_len
  by_cases hok : bothB f g = true
  case neg =>
    have HOK := Lib.hid (Bool.eq_false_iff.2 hok)
    clear hok hl_f hl_g
    go_wp2_with fail
    refine (hboth_t A_f (n_f) c_f (f) A_g (n_g) c_g (g) _ (s_f) (s_g) (by omega) (by omega)  (false) (HOK.out)).mono ?_
    rintro e w3 ⟨rfl, bb3⟩
    have b3 := belLit0 b2 bb3
    replace s_f := slLit0 s_f bb3
    replace s_g := slLit0 s_g bb3
    clear b2 bb3
    clear s_f s_g
    go_wp2_with fail
    go_ret
    exact ⟨rfl, b3⟩
  obtain ⟨e1, c_1, c_2⟩ := both_C hok hl_f hl_g
  subst e1
  have HOK := Lib.hid hok
  have C_f := Lib.hid c_1
  have t_f := c_1.top
  have C_g := Lib.hid c_2
  have t_g := c_2.top
  clear hok c_1 c_2 hl_f hl_g
  go_wp2_with fail
  refine (hboth_t A_f (n_f) c_f (f) A_g (n_f) c_g (g) _ (s_f) (s_g) (by omega) (by omega)  (true) (HOK.out)).mono ?_
  rintro e w4 ⟨rfl, bb4⟩
  have b4 := belLit0 b2 bb4
  replace s_f := slLit0 s_f bb4
  replace s_g := slLit0 s_g bb4
  clear b2 bb4
  have u3 := C_f.out.pos
  go_wp2_with fail
  refine (within_t (k) (1000) _   (by omega) (by omega) (within k 1000) (rfl)).mono ?_
  rintro e w5 ⟨rfl, rfl⟩
  have m1 := within_lo k 1000 (by omega)
  have m2 := within_hi k 1000 (by omega)
  generalize within k 1000 = a at *
  by_cases h1 : fits (cupL f a) = true
  · have H1 := Lib.hid h1
    clear h1
    go_wp2_with fail
    refine (pup_any A_f (n_f) c_f (f) (a) _ (s_f) (by omega) m1 (by omega) (cupL f a) (0) (n_f) (cup_yes C_f.out H1.out rfl) ((tab_len _ _).trans C_f.out.len)).mono ?_
    rintro e w6 ⟨A_up, c_up, rfl, s_up, l_up, bb6⟩
    have b6 := belLit0 b4 bb6
    replace s_f := slLit0 s_f bb6
    replace s_g := slLit0 s_g bb6
    clear b4 bb6
    have C_up := Lib.hid (cup_C C_f.out m1 H1.out)
    have E := Lib.hid (conv_up (g := g) (m := a) C_f.out)
    by_cases h2 : fits (cupL (convL f g) a) = true
    · have H2 := Lib.hid h2
      clear h2
      by_cases h3 : fits (convL f g) = true
      · have H3 := Lib.hid h3
        clear h3
        go_wp2_with fail
        refine (conv_any A_up (n_f) c_up (cupL f a) A_g (n_f) c_g (g) _ (s_up) (s_g) (by omega) (by omega)  (cupL (convL f g) a) (0) (n_f) (conv_yes C_up.out C_g.out (by rw [E.out]; exact H2.out) E.out) ((tab_len _ _).trans ((tab_len _ _).trans C_f.out.len))).mono ?_
        rintro e w7 ⟨A_x, c_x, rfl, s_x, l_x, bb7⟩
        have b7 := belLit0 b6 bb7
        replace s_f := slLit0 s_f bb7
        replace s_g := slLit0 s_g bb7
        replace s_up := slLit0 s_up bb7
        clear b6 bb7
        go_wp2_with fail
        refine (conv_any A_f (n_f) c_f (f) A_g (n_f) c_g (g) _ (s_f) (s_g) (by omega) (by omega)  (convL (f) (g)) (0) (n_f) (conv_yes C_f.out C_g.out H3.out (rfl)) ((tab_len _ _).trans C_f.out.len)).mono ?_
        rintro e w8 ⟨A_y, c_y, rfl, s_y, l_y, bb8⟩
        have b8 := belLit0 b7 bb8
        replace s_f := slLit0 s_f bb8
        replace s_g := slLit0 s_g bb8
        replace s_up := slLit0 s_up bb8
        replace s_x := slLit0 s_x bb8
        clear b7 bb8
        have C_y := Lib.hid (conv_C C_f.out C_g.out H3.out)
        go_wp2_with fail
        refine (pup_any A_y (n_f) c_y (convL (f) (g)) (a) _ (s_y) (by omega) m1 (by omega) (cupL (convL f g) a) (0) (n_f) (cup_yes C_y.out H2.out rfl) ((tab_len _ _).trans C_y.out.len)).mono ?_
        rintro e w9 ⟨A_z, c_z, rfl, s_z, l_z, bb9⟩
        have b9 := belLit0 b8 bb9
        replace s_f := slLit0 s_f bb9
        replace s_g := slLit0 s_g bb9
        replace s_up := slLit0 s_up bb9
        replace s_x := slLit0 s_x bb9
        replace s_y := slLit0 s_y bb9
        clear b8 bb9
        go_wp2_with (at_make; refine wpList_makeInts rfl _ _ rfl (n_f : Int) (n_f : Int) n_f rfl rfl rfl rfl (by omega) ?_; intro w10 ho10)
        have b10 := belLit0 b9 ho10.bel
        replace s_f := slLit0 s_f ho10.bel
        replace s_g := slLit0 s_g ho10.bel
        replace s_up := slLit0 s_up ho10.bel
        replace s_x := slLit0 s_x ho10.bel
        replace s_y := slLit0 s_y ho10.bel
        replace s_z := slLit0 s_z ho10.bel
        have s_zz := ho10.sl
        have l_zz : n_f ≤ n_f := Nat.le_refl _
        clear b9 ho10
        have C_zz := Lib.hid (zero_C u3 t_f)
        go_wp2_with fail
        refine (conv_any A_f (n_f) c_f (f) _ (n_f) n_f (tab n_f fun _ => 0) _ (s_f) (s_zz) (by omega) (by omega)  (convL f (tab n_f fun _ => 0)) (0) (n_f) (conv_yes C_f.out C_zz.out (conv_zero_fits C_f.out) rfl) ((convL_len _ _).trans C_f.out.len)).mono ?_
        rintro e w11 ⟨A_none, c_none, rfl, s_none, l_none, bb11⟩
        have b11 := belLit0 b10 bb11
        replace s_f := slLit0 s_f bb11
        replace s_g := slLit0 s_g bb11
        replace s_up := slLit0 s_up bb11
        replace s_x := slLit0 s_x bb11
        replace s_y := slLit0 s_y bb11
        replace s_z := slLit0 s_z bb11
        replace s_zz := slLit0 s_zz bb11
        clear b10 bb11
        obtain ⟨bk_none, of_none, eA_none, -, -⟩ := s_none.int_at (k := 0) (by omega)
        subst eA_none
        have hc_none := s_none.int_cell (k := 0) (by omega)
        rw [Nat.add_zero] at hc_none
        obtain ⟨bk_f, of_f, eA_f, -, -⟩ := s_f.int_at (k := 0) (by omega)
        subst eA_f
        have hc_f := s_f.int_cell (k := 0) (by omega)
        rw [Nat.add_zero] at hc_f
        have hc_none2 := s_none.int_cell (k := n_f - 1) (by omega)
        rw [conv_zero C_f.out u3] at hc_none
        rw [conv_zero C_f.out (show n_f - 1 < n_f by omega)] at hc_none2
        have f1 : IntKind.i64.wrap ((n_f : Int) - 1) = (n_f : Int) - 1 := IntWalk.i64_in _ ⟨by omega, by omega⟩
        have f2 : ((n_f : Int) - 1).toNat = n_f - 1 := by omega
        have f3 : 0 ≤ (n_f : Int) - 1 := by omega
        have f4 : (n_f : Int) - 1 < n_f := by omega
        have f5 : (0 : Int) < n_f := by omega
        have f6 : (1 : Int) ≤ n_f := by omega
        have f7 : 1 ≤ n_f := by omega
        have f8 : (gi f 0 == gi f 0) = true := by simp
        have S_x := Lib.hid s_x
        have S_z := Lib.hid s_z
        clear s_f s_g s_up s_x s_y s_z s_zz s_none
        go_wp2_with fail
        go_quiet ((go_at_call 18; exact Calls.quiet_of (same_q A_x n_f c_x _ 0 A_z n_f c_z _ 0 _ _ _ (S_x.out.drewN _) (S_z.out.drewN _) (by omega) (.inl rfl) (.inl rfl) true (by unfold sameB; simp))))
        go_wp2_with fail
        go_ret
        exact ⟨rfl, below_drewN b11 _⟩
      · have H3 := Lib.hid h3
        clear h3
        go_wp2_with fail
        refine (conv_any A_up (n_f) c_up (cupL f a) A_g (n_f) c_g (g) _ (s_up) (s_g) (by omega) (by omega)  (cupL (convL f g) a) (0) (n_f) (conv_yes C_up.out C_g.out (by rw [E.out]; exact H2.out) E.out) ((tab_len _ _).trans ((tab_len _ _).trans C_f.out.len))).mono ?_
        rintro e w12 ⟨A_x, c_x, rfl, s_x, l_x, bb12⟩
        have b12 := belLit0 b6 bb12
        replace s_f := slLit0 s_f bb12
        replace s_g := slLit0 s_g bb12
        replace s_up := slLit0 s_up bb12
        clear b6 bb12
        go_wp2_with fail
        refine (conv_any A_f (n_f) c_f (f) A_g (n_f) c_g (g) _ (s_f) (s_g) (by omega) (by omega)  ([]) (2) (0) (conv_no C_f.out C_g.out H3.out) (rfl)).mono ?_
        rintro e w13 ⟨A_y, c_y, rfl, s_y, l_y, bb13⟩
        have b13 := belLit0 b12 bb13
        replace s_f := slLit0 s_f bb13
        replace s_g := slLit0 s_g bb13
        replace s_up := slLit0 s_up bb13
        replace s_x := slLit0 s_x bb13
        clear b12 bb13
        clear s_f s_g s_up s_x s_y
        go_wp2_with fail
        go_ret
        exact ⟨rfl, b13⟩
    · have H2 := Lib.hid h2
      clear h2
      by_cases h3 : fits (convL f g) = true
      · have H3 := Lib.hid h3
        clear h3
        go_wp2_with fail
        refine (conv_any A_up (n_f) c_up (cupL f a) A_g (n_f) c_g (g) _ (s_up) (s_g) (by omega) (by omega)  ([]) (2) (0) (conv_no C_up.out C_g.out (by rw [E.out]; exact H2.out)) (rfl)).mono ?_
        rintro e w14 ⟨A_x, c_x, rfl, s_x, l_x, bb14⟩
        have b14 := belLit0 b6 bb14
        replace s_f := slLit0 s_f bb14
        replace s_g := slLit0 s_g bb14
        replace s_up := slLit0 s_up bb14
        clear b6 bb14
        go_wp2_with fail
        refine (conv_any A_f (n_f) c_f (f) A_g (n_f) c_g (g) _ (s_f) (s_g) (by omega) (by omega)  (convL (f) (g)) (0) (n_f) (conv_yes C_f.out C_g.out H3.out (rfl)) ((tab_len _ _).trans C_f.out.len)).mono ?_
        rintro e w15 ⟨A_y, c_y, rfl, s_y, l_y, bb15⟩
        have b15 := belLit0 b14 bb15
        replace s_f := slLit0 s_f bb15
        replace s_g := slLit0 s_g bb15
        replace s_up := slLit0 s_up bb15
        replace s_x := slLit0 s_x bb15
        clear b14 bb15
        have C_y := Lib.hid (conv_C C_f.out C_g.out H3.out)
        go_wp2_with fail
        refine (pup_any A_y (n_f) c_y (convL (f) (g)) (a) _ (s_y) (by omega) m1 (by omega) ([]) (2) (0) (cup_no C_y.out H2.out) (rfl)).mono ?_
        rintro e w16 ⟨A_z, c_z, rfl, s_z, l_z, bb16⟩
        have b16 := belLit0 b15 bb16
        replace s_f := slLit0 s_f bb16
        replace s_g := slLit0 s_g bb16
        replace s_up := slLit0 s_up bb16
        replace s_x := slLit0 s_x bb16
        replace s_y := slLit0 s_y bb16
        clear b15 bb16
        go_wp2_with (at_make; refine wpList_makeInts rfl _ _ rfl (n_f : Int) (n_f : Int) n_f rfl rfl rfl rfl (by omega) ?_; intro w17 ho17)
        have b17 := belLit0 b16 ho17.bel
        replace s_f := slLit0 s_f ho17.bel
        replace s_g := slLit0 s_g ho17.bel
        replace s_up := slLit0 s_up ho17.bel
        replace s_x := slLit0 s_x ho17.bel
        replace s_y := slLit0 s_y ho17.bel
        replace s_z := slLit0 s_z ho17.bel
        have s_zz := ho17.sl
        have l_zz : n_f ≤ n_f := Nat.le_refl _
        clear b16 ho17
        have C_zz := Lib.hid (zero_C u3 t_f)
        go_wp2_with fail
        refine (conv_any A_f (n_f) c_f (f) _ (n_f) n_f (tab n_f fun _ => 0) _ (s_f) (s_zz) (by omega) (by omega)  (convL f (tab n_f fun _ => 0)) (0) (n_f) (conv_yes C_f.out C_zz.out (conv_zero_fits C_f.out) rfl) ((convL_len _ _).trans C_f.out.len)).mono ?_
        rintro e w18 ⟨A_none, c_none, rfl, s_none, l_none, bb18⟩
        have b18 := belLit0 b17 bb18
        replace s_f := slLit0 s_f bb18
        replace s_g := slLit0 s_g bb18
        replace s_up := slLit0 s_up bb18
        replace s_x := slLit0 s_x bb18
        replace s_y := slLit0 s_y bb18
        replace s_z := slLit0 s_z bb18
        replace s_zz := slLit0 s_zz bb18
        clear b17 bb18
        obtain ⟨bk_none, of_none, eA_none, -, -⟩ := s_none.int_at (k := 0) (by omega)
        subst eA_none
        have hc_none := s_none.int_cell (k := 0) (by omega)
        rw [Nat.add_zero] at hc_none
        obtain ⟨bk_f, of_f, eA_f, -, -⟩ := s_f.int_at (k := 0) (by omega)
        subst eA_f
        have hc_f := s_f.int_cell (k := 0) (by omega)
        rw [Nat.add_zero] at hc_f
        have hc_none2 := s_none.int_cell (k := n_f - 1) (by omega)
        rw [conv_zero C_f.out u3] at hc_none
        rw [conv_zero C_f.out (show n_f - 1 < n_f by omega)] at hc_none2
        have f1 : IntKind.i64.wrap ((n_f : Int) - 1) = (n_f : Int) - 1 := IntWalk.i64_in _ ⟨by omega, by omega⟩
        have f2 : ((n_f : Int) - 1).toNat = n_f - 1 := by omega
        have f3 : 0 ≤ (n_f : Int) - 1 := by omega
        have f4 : (n_f : Int) - 1 < n_f := by omega
        have f5 : (0 : Int) < n_f := by omega
        have f6 : (1 : Int) ≤ n_f := by omega
        have f7 : 1 ≤ n_f := by omega
        have f8 : (gi f 0 == gi f 0) = true := by simp
        have S_x := Lib.hid s_x
        have S_z := Lib.hid s_z
        clear s_f s_g s_up s_x s_y s_z s_zz s_none
        go_wp2_with fail
        go_quiet ((go_at_call 18; exact Calls.quiet_of (same_q A_x 0 c_x [] 2 A_z 0 c_z [] 2 _ _ _ (S_x.out.drewN _) (S_z.out.drewN _) (by omega) (.inr rfl) (.inr rfl) true rfl)))
        go_wp2_with fail
        go_ret
        exact ⟨rfl, below_drewN b18 _⟩
      · have H3 := Lib.hid h3
        clear h3
        go_wp2_with fail
        refine (conv_any A_up (n_f) c_up (cupL f a) A_g (n_f) c_g (g) _ (s_up) (s_g) (by omega) (by omega)  ([]) (2) (0) (conv_no C_up.out C_g.out (by rw [E.out]; exact H2.out)) (rfl)).mono ?_
        rintro e w19 ⟨A_x, c_x, rfl, s_x, l_x, bb19⟩
        have b19 := belLit0 b6 bb19
        replace s_f := slLit0 s_f bb19
        replace s_g := slLit0 s_g bb19
        replace s_up := slLit0 s_up bb19
        clear b6 bb19
        go_wp2_with fail
        refine (conv_any A_f (n_f) c_f (f) A_g (n_f) c_g (g) _ (s_f) (s_g) (by omega) (by omega)  ([]) (2) (0) (conv_no C_f.out C_g.out H3.out) (rfl)).mono ?_
        rintro e w20 ⟨A_y, c_y, rfl, s_y, l_y, bb20⟩
        have b20 := belLit0 b19 bb20
        replace s_f := slLit0 s_f bb20
        replace s_g := slLit0 s_g bb20
        replace s_up := slLit0 s_up bb20
        replace s_x := slLit0 s_x bb20
        clear b19 bb20
        clear s_f s_g s_up s_x s_y
        go_wp2_with fail
        go_ret
        exact ⟨rfl, b20⟩
  · have H1 := Lib.hid h1
    clear h1
    go_wp2_with fail
    refine (pup_any A_f (n_f) c_f (f) (a) _ (s_f) (by omega) m1 (by omega) ([]) (2) (0) (cup_no C_f.out H1.out) (rfl)).mono ?_
    rintro e w21 ⟨A_up, c_up, rfl, s_up, l_up, bb21⟩
    have b21 := belLit0 b4 bb21
    replace s_f := slLit0 s_f bb21
    replace s_g := slLit0 s_g bb21
    clear b4 bb21
    clear s_f s_g s_up
    go_wp2_with fail
    go_ret
    exact ⟨rfl, b21⟩
end Go.Proofs.Ytkofgejkicjdoaa
