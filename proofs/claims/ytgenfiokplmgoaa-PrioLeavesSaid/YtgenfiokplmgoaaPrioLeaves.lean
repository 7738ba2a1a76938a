/- PrioLeaves: the second trace is guaranteed the residual service curve. -/
import Derived.Test.YtgenfiokplmgoaaPrioB
import Derived.Test.YtgenfiokplmgoaaConvA
import Derived.Test.YtgenfiokplmgoaaBoundA
import Derived.Test.YtgenfiokplmgoaaLawKit
set_option linter.unusedVariables false
namespace Go.Proofs.Ytgenfiokplmgoaa
open Go.RowKit
theorem leaves_fits {n : Nat} {g l : List Int} (hg : IsC n g) (hl : IsC n l) (h0 : gi l 0 = 0) : fits (convL g l) = true := fits_le hg (by rw [convL_len, hg.len]) fun i hi => by
  rw [convL_get hg.len hi]
  have := cv_le (gi g) (gi l) (Nat.le_refl i)
  rw [Nat.sub_self, h0] at this
  omega
theorem left_zero {n : Nat} {l : List Int} {r : Int} (hl : IsC n l) : gi (leftL l r n) 0 = 0 := by
  unfold leftL
  rw [cless_get (tab_len _ _) hl.pos]
  show mx 0 (gi (tab n (linU r 0)) 0 - gi l 0) = 0
  rw [tab_get _ hl.pos]
  have := hl.lo 0 hl.pos
  have e : linU r 0 0 = 0 := by unfold linU mx; rw [if_neg (by omega)]; omega
  rw [e]
  unfold mx
  split <;> omega
theorem leaves_le {a b l : List Int} {r : Int} {n : Nat} (h : prioOk a b r) (hn : a.length = n) (hl : IsC (n + 1) l) (hf : fitB (n + 1) (cumul a) l = true) (hx : IsC (n + 1) (convL (cumul b) (leftL l r (n + 1)))) (hd : IsC (n + 1) (cumul (tab n (pout a b r)))) : leT (convL (cumul b) (leftL l r (n + 1))) (cumul (tab n (pout a b r))) = true :=
  leT_yes hx hd fun i hi => by
    have hb : b.length = n := by rw [h.2.2, hn]
    rw [convL_get (by rw [cumul_len, hb]) hi, cumul_get (by rw [tab_len]; omega)]
    rw [cv_congr (n := n + 1) hi (f' := psum b) (g' := gi (leftL l r (n + 1))) (fun j hj => cumul_get (by omega)) fun j _ => rfl]
    refine prio_leaves h hn.symm hl h.1.2.1 h.1.2.2 (fun t ht s hs => ?_) hi
    have := of_decide_eq_true hf t ht s hs
    rwa [cumul_get (by omega), cumul_get (by omega)] at this
set_option maxRecDepth 100000 in
set_option maxHeartbeats 3200000 in
theorem prioLeaves_walk (A_a : Option Addr) (n_a c_a : Nat) (a : List Int) (A_b : Option Addr) (n_b c_b : Nat) (b : List Int) (A_l : Option Addr) (n_l c_l : Nat) (l : List Int) (r : Int) (W : World) (w_a : InInts W A_a n_a c_a a) (w_b : InInts W A_b n_b c_b b) (w_l : InInts W A_l n_l c_l l) (w_r : -9223372036854775808 ≤ r ∧ r ≤ 9223372036854775807) :
    Calls Try.prog 11 #[.slice A_a n_a c_a, .slice A_b n_b c_b, .slice A_l n_l c_l, .int .i64 r] W fun e w' => e = .returned (.bool true) ∧ Below W.heap.size W w' := by
  obtain ⟨s_a, l_a, r_a, _⟩ := w_a
  obtain ⟨s_b, l_b, r_b, _⟩ := w_b
  obtain ⟨s_l, l_l, r_l, _⟩ := w_l
  have b0 := Below.refl W.heap.size W
  go_enter Try.func11, Try.ntmps11
  go_wp2_with fail
  refine (pleft_any _ 3 _ [0, 3, 4] (2) _ (Sl.built_ _ (ints [0, 3, 4]) 3 _ rfl rfl) (by omega) (isC_iff.2 ⟨by decide +kernel, rfl⟩) (by omega) (by omega) ([0, 0, 0]) (0) (3) (by decide +kernel) (rfl)).mono ?_
  rintro e w1 ⟨A_t0, c_t0, rfl, s_t0, l_t0, bb1⟩
  have b1 := belLit1 b0 bb1
  replace s_a := slLit1 s_a bb1
  replace s_b := slLit1 s_b bb1
  replace s_l := slLit1 s_l bb1
  clear b0 bb1
  go_wp2_with fail
  refine (equal_t A_t0 (3) c_t0 ([0, 0, 0]) _ 3 _ [0, 0, 0] _ (slMore (s_t0) _) (Sl.built_ _ (ints [0, 0, 0]) 3 _ rfl rfl) (by omega) (by omega)  (true) (by decide)).mono ?_
  rintro e w2 ⟨rfl, bb2⟩
  have b2 := belLit1 b1 bb2
  replace s_a := slLit1 s_a bb2
  replace s_b := slLit1 s_b bb2
  replace s_l := slLit1 s_l bb2
  replace s_t0 := slLit1 s_t0 bb2
  clear b1 bb2
  clear s_t0 l_t0
  go_wp2_with fail
  refine (pleft_any _ 3 _ [0, 1, 1] (2) _ (Sl.built_ _ (ints [0, 1, 1]) 3 _ rfl rfl) (by omega) (isC_iff.2 ⟨by decide +kernel, rfl⟩) (by omega) (by omega) ([0, 1, 3]) (0) (3) (by decide +kernel) (rfl)).mono ?_
  rintro e w3 ⟨A_t0, c_t0, rfl, s_t0, l_t0, bb3⟩
  have b3 := belLit1 b2 bb3
  replace s_a := slLit1 s_a bb3
  replace s_b := slLit1 s_b bb3
  replace s_l := slLit1 s_l bb3
  clear b2 bb3
  go_wp2_with fail
  refine (equal_t A_t0 (3) c_t0 ([0, 1, 3]) _ 3 _ [0, 1, 3] _ (slMore (s_t0) _) (Sl.built_ _ (ints [0, 1, 3]) 3 _ rfl rfl) (by omega) (by omega)  (true) (by decide)).mono ?_
  rintro e w4 ⟨rfl, bb4⟩
  have b4 := belLit1 b3 bb4
  replace s_a := slLit1 s_a bb4
  replace s_b := slLit1 s_b bb4
  replace s_l := slLit1 s_l bb4
  replace s_t0 := slLit1 s_t0 bb4
  clear b3 bb4
  clear s_t0 l_t0
  have hl_a := s_a.int_len
  have hl_b := s_b.int_len
  have hl_l := s_l.int_len
  by_cases hok : prioOk a b r
  case neg =>
    have HOK := Lib.hid hok
    clear hok hl_l
    go_wp2_with fail
    refine (prun_bad A_a n_a c_a a A_b n_b c_b b r _ HOK.out s_a s_b (by omega) (by omega)).mono ?_
    rintro e wq ⟨⟨er, her, rfl⟩, bbq⟩
    have bq := belLit0 b4 bbq
    have hne : (er != 0) = true := by simpa using her
    have HER := Lib.hid her
    clear her
    replace s_a := slLit0 s_a bbq
    replace s_b := slLit0 s_b bbq
    replace s_l := slLit0 s_l bbq
    clear b4 bbq
    have HLA := Lib.hid hl_a
    have HLB := Lib.hid hl_b
    clear hl_a hl_b
    by_cases ha : traceOk a
    ·
      have HA := Lib.hid ha
      clear ha
      go_wp2_with fail
      refine (tsum_ok A_a (n_a) c_a (a) _ (s_a) (by omega) HA.out (cumul a) (0) (n_a + 1) (rfl) ((cumul_len a).trans (by rw [HLA.out]))).mono ?_
      rintro e w5 ⟨A_f, c_f, rfl, s_f, l_f, bb5⟩
      have b5 := belLit0 bq bb5
      replace s_a := slLit0 s_a bb5
      replace s_b := slLit0 s_b bb5
      replace s_l := slLit0 s_l bb5
      clear bq bb5
      by_cases hb : traceOk b
      ·
        have HB := Lib.hid hb
        clear hb
        go_wp2_with fail
        refine (tsum_ok A_b (n_b) c_b (b) _ (s_b) (by omega) HB.out (cumul b) (0) (n_b + 1) (rfl) ((cumul_len b).trans (by rw [HLB.out]))).mono ?_
        rintro e w6 ⟨A_g, c_g, rfl, s_g, l_g, bb6⟩
        have b6 := belLit0 b5 bb6
        replace s_a := slLit0 s_a bb6
        replace s_b := slLit0 s_b bb6
        replace s_l := slLit0 s_l bb6
        replace s_f := slLit0 s_f bb6
        clear b5 bb6
        clear s_a s_b s_l s_f s_g
        go_wp2_with fail
        go_ret
        exact ⟨rfl, b6⟩
      ·
        have HB := Lib.hid hb
        clear hb
        have neb := traceErr_ne b
        go_wp2_with fail
        refine (tsum_no A_b (n_b) c_b (b) _ (s_b) (by omega) HB.out ([]) (traceErr b) (0) (rfl) (rfl)).mono ?_
        rintro e w7 ⟨A_g, c_g, rfl, s_g, l_g, bb7⟩
        have b7 := belLit0 b5 bb7
        replace s_a := slLit0 s_a bb7
        replace s_b := slLit0 s_b bb7
        replace s_l := slLit0 s_l bb7
        replace s_f := slLit0 s_f bb7
        clear b5 bb7
        clear s_a s_b s_l s_f s_g
        go_wp2_with fail
        go_ret
        exact ⟨rfl, b7⟩
    ·
      have HA := Lib.hid ha
      clear ha
      have nea := traceErr_ne a
      go_wp2_with fail
      refine (tsum_no A_a (n_a) c_a (a) _ (s_a) (by omega) HA.out ([]) (traceErr a) (0) (rfl) (rfl)).mono ?_
      rintro e w8 ⟨A_f, c_f, rfl, s_f, l_f, bb8⟩
      have b8 := belLit0 bq bb8
      replace s_a := slLit0 s_a bb8
      replace s_b := slLit0 s_b bb8
      replace s_l := slLit0 s_l bb8
      clear bq bb8
      by_cases hb : traceOk b
      ·
        have HB := Lib.hid hb
        clear hb
        go_wp2_with fail
        refine (tsum_ok A_b (n_b) c_b (b) _ (s_b) (by omega) HB.out (cumul b) (0) (n_b + 1) (rfl) ((cumul_len b).trans (by rw [HLB.out]))).mono ?_
        rintro e w9 ⟨A_g, c_g, rfl, s_g, l_g, bb9⟩
        have b9 := belLit0 b8 bb9
        replace s_a := slLit0 s_a bb9
        replace s_b := slLit0 s_b bb9
        replace s_l := slLit0 s_l bb9
        replace s_f := slLit0 s_f bb9
        clear b8 bb9
        clear s_a s_b s_l s_f s_g
        go_wp2_with fail
        go_ret
        exact ⟨rfl, b9⟩
      ·
        have HB := Lib.hid hb
        clear hb
        have neb := traceErr_ne b
        go_wp2_with fail
        refine (tsum_no A_b (n_b) c_b (b) _ (s_b) (by omega) HB.out ([]) (traceErr b) (0) (rfl) (rfl)).mono ?_
        rintro e w10 ⟨A_g, c_g, rfl, s_g, l_g, bb10⟩
        have b10 := belLit0 b8 bb10
        replace s_a := slLit0 s_a bb10
        replace s_b := slLit0 s_b bb10
        replace s_l := slLit0 s_l bb10
        replace s_f := slLit0 s_f bb10
        clear b8 bb10
        clear s_a s_b s_l s_f s_g
        go_wp2_with fail
        go_ret
        exact ⟨rfl, b10⟩
  have hab : n_a = n_b := by rw [← hl_a, ← hl_b]; exact hok.2.2.symm
  subst hab
  have HOK := Lib.hid hok
  have t_a := hok.1.1.1
  rw [hl_a] at t_a
  have c_1 := cumul_C hok.1.1
  rw [hl_a] at c_1
  have C_f := Lib.hid c_1
  have c_2 := cumul_C hok.2.1
  rw [hl_b] at c_2
  have C_g := Lib.hid c_2
  have dk := pout_ok hok
  rw [hl_a] at dk
  have DK := Lib.hid dk
  have c_3 := cumul_C dk
  rw [tab_len] at c_3
  have C_d := Lib.hid c_3
  have r0 := hok.1.2.1
  have r1 := hok.1.2.2
  have HLA := Lib.hid hl_a
  have HLB := Lib.hid hl_b
  have HLL := Lib.hid hl_l
  clear hok hl_a hl_b hl_l c_1 c_2 dk c_3
  go_wp2_with fail
  refine (prun_t A_a (n_a) c_a (a) A_b (n_a) c_b (b) (r) _ (s_a) (s_b) (by omega) (by omega) HOK.out rfl (tab n_a (ldep a r)) (tab n_a (pout a b r)) (0) (n_a) (rfl) (rfl)).mono ?_
  rintro e w11 ⟨A_u, c_u, A_y, c_y, rfl, s_u, s_y, bb11⟩
  have l_u : True := trivial
  have l_y : True := trivial
  have b11 := belLit0 b4 bb11
  replace s_a := slLit0 s_a bb11
  replace s_b := slLit0 s_b bb11
  replace s_l := slLit0 s_l bb11
  clear b4 bb11
  clear s_u l_u
  go_wp2_with fail
  refine (tsum_ok A_a (n_a) c_a (a) _ (s_a) (by omega) HOK.out.1.1 (cumul a) (0) (n_a + 1) (rfl) (C_f.out.len)).mono ?_
  rintro e w12 ⟨A_f, c_f, rfl, s_f, l_f, bb12⟩
  have b12 := belLit0 b11 bb12
  replace s_a := slLit0 s_a bb12
  replace s_b := slLit0 s_b bb12
  replace s_l := slLit0 s_l bb12
  replace s_y := slLit0 s_y bb12
  clear b11 bb12
  go_wp2_with fail
  refine (tsum_ok A_b (n_a) c_b (b) _ (s_b) (by omega) HOK.out.2.1 (cumul b) (0) (n_a + 1) (rfl) (C_g.out.len)).mono ?_
  rintro e w13 ⟨A_g, c_g, rfl, s_g, l_g, bb13⟩
  have b13 := belLit0 b12 bb13
  replace s_a := slLit0 s_a bb13
  replace s_b := slLit0 s_b bb13
  replace s_l := slLit0 s_l bb13
  replace s_y := slLit0 s_y bb13
  replace s_f := slLit0 s_f bb13
  clear b12 bb13
  by_cases hb : bothB (cumul a) l = true
  case neg =>
    have HB := Lib.hid (Bool.eq_false_iff.2 hb)
    clear hb
    go_wp2_with fail
    refine (hboth_t A_f (n_a + 1) c_f (cumul a) A_l (n_l) c_l (l) _ (s_f) (s_l) (by omega) (by omega)  (false) (HB.out)).mono ?_
    rintro e w14 ⟨rfl, bb14⟩
    have b14 := belLit0 b13 bb14
    replace s_a := slLit0 s_a bb14
    replace s_b := slLit0 s_b bb14
    replace s_l := slLit0 s_l bb14
    replace s_y := slLit0 s_y bb14
    replace s_f := slLit0 s_f bb14
    replace s_g := slLit0 s_g bb14
    clear b13 bb14
    clear s_a s_b s_l s_y s_f s_g
    go_wp2_with fail
    go_ret
    exact ⟨rfl, b14⟩
  obtain ⟨e1, -, c_l⟩ := both_C hb C_f.out.len HLL.out
  have HB := Lib.hid hb
  subst e1
  have C_l := Lib.hid c_l
  clear hb c_l
  go_wp2_with fail
  refine (hboth_t A_f (n_a + 1) c_f (cumul a) A_l (n_a + 1) c_l (l) _ (s_f) (s_l) (by omega) (by omega)  (true) (HB.out)).mono ?_
  rintro e w15 ⟨rfl, bb15⟩
  have b15 := belLit0 b13 bb15
  replace s_a := slLit0 s_a bb15
  replace s_b := slLit0 s_b bb15
  replace s_l := slLit0 s_l bb15
  replace s_y := slLit0 s_y bb15
  replace s_f := slLit0 s_f bb15
  replace s_g := slLit0 s_g bb15
  clear b13 bb15
  have C_e := Lib.hid (left_C C_l.out r0 r1)
  have C_x := Lib.hid (conv_C C_g.out C_e.out (leaves_fits C_g.out C_e.out (left_zero C_l.out)))
  by_cases h1 : fitB (n_a + 1) (cumul a) l = true
  · have H1 := Lib.hid h1
    clear h1
    go_wp2_with fail
    refine (fits_any A_f (n_a + 1) c_f (cumul a) A_l (n_a + 1) c_l (l) _ (s_f) (s_l) (by omega) (by omega) C_f.out C_l.out rfl (true) (0) (by rw [H1.out])).mono ?_
    rintro e w16 ⟨rfl, bb16⟩
    have b16 := belLit0 b15 bb16
    replace s_a := slLit0 s_a bb16
    replace s_b := slLit0 s_b bb16
    replace s_l := slLit0 s_l bb16
    replace s_y := slLit0 s_y bb16
    replace s_f := slLit0 s_f bb16
    replace s_g := slLit0 s_g bb16
    clear b15 bb16
    go_wp2_with fail
    refine (pleft_any A_l (n_a + 1) c_l (l) (r) _ (s_l) (by omega) C_l.out r0 r1 (leftL l r (n_a + 1)) (0) (n_a + 1) (rfl) (C_e.out.len)).mono ?_
    rintro e w17 ⟨A_e, c_e, rfl, s_e, l_e, bb17⟩
    have b17 := belLit0 b16 bb17
    replace s_a := slLit0 s_a bb17
    replace s_b := slLit0 s_b bb17
    replace s_l := slLit0 s_l bb17
    replace s_y := slLit0 s_y bb17
    replace s_f := slLit0 s_f bb17
    replace s_g := slLit0 s_g bb17
    clear b16 bb17
    go_wp2_with fail
    refine (tsum_ok A_y (n_a) c_y (tab n_a (pout a b r)) _ (s_y) (by omega) DK.out (cumul (tab n_a (pout a b r))) (0) (n_a + 1) (rfl) (C_d.out.len)).mono ?_
    rintro e w18 ⟨A_d, c_d, rfl, s_d, l_d, bb18⟩
    have b18 := belLit0 b17 bb18
    replace s_a := slLit0 s_a bb18
    replace s_b := slLit0 s_b bb18
    replace s_l := slLit0 s_l bb18
    replace s_y := slLit0 s_y bb18
    replace s_f := slLit0 s_f bb18
    replace s_g := slLit0 s_g bb18
    replace s_e := slLit0 s_e bb18
    clear b17 bb18
    go_wp2_with fail
    refine (conv_any A_g (n_a + 1) c_g (cumul b) A_e (n_a + 1) c_e (leftL l r (n_a + 1)) _ (s_g) (s_e) (by omega) (by omega)  (convL (cumul b) (leftL l r (n_a + 1))) (0) (n_a + 1) (conv_yes C_g.out C_e.out (leaves_fits C_g.out C_e.out (left_zero C_l.out)) rfl) (C_x.out.len)).mono ?_
    rintro e w19 ⟨A_x, c_x, rfl, s_x, l_x, bb19⟩
    have b19 := belLit0 b18 bb19
    replace s_a := slLit0 s_a bb19
    replace s_b := slLit0 s_b bb19
    replace s_l := slLit0 s_l bb19
    replace s_y := slLit0 s_y bb19
    replace s_f := slLit0 s_f bb19
    replace s_g := slLit0 s_g bb19
    replace s_e := slLit0 s_e bb19
    replace s_d := slLit0 s_d bb19
    clear b18 bb19
    go_wp2_with fail
    refine (hle_t A_x (n_a + 1) c_x (convL (cumul b) (leftL l r (n_a + 1))) A_d (n_a + 1) c_d (cumul (tab n_a (pout a b r))) _ (s_x) (s_d) (by omega) (by omega)  (true) (leaves_le HOK.out HLA.out C_l.out H1.out C_x.out C_d.out)).mono ?_
    rintro e w20 ⟨rfl, bb20⟩
    have b20 := belLit0 b19 bb20
    replace s_a := slLit0 s_a bb20
    replace s_b := slLit0 s_b bb20
    replace s_l := slLit0 s_l bb20
    replace s_y := slLit0 s_y bb20
    replace s_f := slLit0 s_f bb20
    replace s_g := slLit0 s_g bb20
    replace s_e := slLit0 s_e bb20
    replace s_d := slLit0 s_d bb20
    replace s_x := slLit0 s_x bb20
    clear b19 bb20
    clear s_a s_b s_l s_y s_f s_g s_e s_d s_x
    go_wp2_with fail
    go_ret
    exact ⟨rfl, b20⟩
  · have H1 := Lib.hid h1
    clear h1
    have B1 := Lib.hid (Bool.eq_false_iff.2 H1.out)
    go_wp2_with fail
    refine (fits_any A_f (n_a + 1) c_f (cumul a) A_l (n_a + 1) c_l (l) _ (s_f) (s_l) (by omega) (by omega) C_f.out C_l.out rfl (false) (0) (by rw [B1.out])).mono ?_
    rintro e w21 ⟨rfl, bb21⟩
    have b21 := belLit0 b15 bb21
    replace s_a := slLit0 s_a bb21
    replace s_b := slLit0 s_b bb21
    replace s_l := slLit0 s_l bb21
    replace s_y := slLit0 s_y bb21
    replace s_f := slLit0 s_f bb21
    replace s_g := slLit0 s_g bb21
    clear b15 bb21
    go_wp2_with fail
    refine (pleft_any A_l (n_a + 1) c_l (l) (r) _ (s_l) (by omega) C_l.out r0 r1 (leftL l r (n_a + 1)) (0) (n_a + 1) (rfl) (C_e.out.len)).mono ?_
    rintro e w22 ⟨A_e, c_e, rfl, s_e, l_e, bb22⟩
    have b22 := belLit0 b21 bb22
    replace s_a := slLit0 s_a bb22
    replace s_b := slLit0 s_b bb22
    replace s_l := slLit0 s_l bb22
    replace s_y := slLit0 s_y bb22
    replace s_f := slLit0 s_f bb22
    replace s_g := slLit0 s_g bb22
    clear b21 bb22
    go_wp2_with fail
    refine (tsum_ok A_y (n_a) c_y (tab n_a (pout a b r)) _ (s_y) (by omega) DK.out (cumul (tab n_a (pout a b r))) (0) (n_a + 1) (rfl) (C_d.out.len)).mono ?_
    rintro e w23 ⟨A_d, c_d, rfl, s_d, l_d, bb23⟩
    have b23 := belLit0 b22 bb23
    replace s_a := slLit0 s_a bb23
    replace s_b := slLit0 s_b bb23
    replace s_l := slLit0 s_l bb23
    replace s_y := slLit0 s_y bb23
    replace s_f := slLit0 s_f bb23
    replace s_g := slLit0 s_g bb23
    replace s_e := slLit0 s_e bb23
    clear b22 bb23
    go_wp2_with fail
    refine (conv_any A_g (n_a + 1) c_g (cumul b) A_e (n_a + 1) c_e (leftL l r (n_a + 1)) _ (s_g) (s_e) (by omega) (by omega)  (convL (cumul b) (leftL l r (n_a + 1))) (0) (n_a + 1) (conv_yes C_g.out C_e.out (leaves_fits C_g.out C_e.out (left_zero C_l.out)) rfl) (C_x.out.len)).mono ?_
    rintro e w24 ⟨A_x, c_x, rfl, s_x, l_x, bb24⟩
    have b24 := belLit0 b23 bb24
    replace s_a := slLit0 s_a bb24
    replace s_b := slLit0 s_b bb24
    replace s_l := slLit0 s_l bb24
    replace s_y := slLit0 s_y bb24
    replace s_f := slLit0 s_f bb24
    replace s_g := slLit0 s_g bb24
    replace s_e := slLit0 s_e bb24
    replace s_d := slLit0 s_d bb24
    clear b23 bb24
    clear s_a s_b s_l s_y s_f s_g s_e s_d s_x
    go_wp2_with fail
    go_ret
    exact ⟨rfl, b24⟩
end Go.Proofs.Ytgenfiokplmgoaa
