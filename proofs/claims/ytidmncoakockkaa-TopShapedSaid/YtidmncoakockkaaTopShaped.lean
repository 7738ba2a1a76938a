/- TopShaped: shaped traffic needs no more buffer than the bound, and departures are never later than without shaping in total. -/
import Derived.Test.YtidmncoakockkaaTopA
import Derived.Test.YtidmncoakockkaaShaperA
import Derived.Test.YtidmncoakockkaaSlotsA
import Derived.Test.YtidmncoakockkaaShapeA
import Derived.Test.YtidmncoakockkaaShapeP
import Derived.Test.YtidmncoakockkaaLineK
import Derived.Test.YtidmncoakockkaaBoundA
set_option linter.unusedVariables false
namespace Go.Proofs.Ytidmncoakockkaa
open Go.RowKit
/-- What waits behind a shaper is within the bound. -/
theorem shaped_wait {n : Nat} {f l s : List Int} {r : Int} (hf : IsC (n + 1) f) (hl : IsC (n + 1) l) (hx : cumul s = shaperL f l) (hs : lineOk s r) (hn : s.length = n) {t : Nat} (ht : t < n) :
    lbuf s r (t + 1) ≤ top (fun i => gi l i - gi (tab (n + 1) (linU r 0)) i) (n + 1) := by
  have a1 := psum_line (a := s) (r := r) n (t + 1) (by omega)
  rw [dep_conv hs n (t + 1) (by omega)] at a1
  obtain ⟨u, hu, e⟩ := cv_ex (psum s) (fun t => r * (t : Int)) (t + 1)
  have x1 : gi (shaperL f l) (t + 1) = psum s (t + 1) := by rw [← hx]; exact cumul_get (by omega)
  have x2 : gi (shaperL f l) u = psum s u := by rw [← hx]; exact cumul_get (by omega)
  have b := shaper_sub hf hl hu (show t + 1 < n + 1 by omega)
  have c : gi (closureL l) (t + 1 - u) ≤ gi l (t + 1 - u) := by
    rcases Nat.eq_zero_or_pos (t + 1 - u) with h | h
    · rw [h, closure_zero hl]; exact hl.lo 0 hl.pos
    · exact closure_le hl h (by omega)
  have d : gi l (t + 1 - u) - gi (tab (n + 1) (linU r 0)) (t + 1 - u) ≤ top (fun i => gi l i - gi (tab (n + 1) (linU r 0)) i) (n + 1) := le_top (fun i => gi l i - gi (tab (n + 1) (linU r 0)) i) (by omega)
  rw [tab_get _ (show t + 1 - u < n + 1 by omega)] at d
  have e2 : linU r 0 (t + 1 - u) = r * ((t + 1 - u : Nat) : Int) := by
    unfold linU mx
    split
    · simp
    · rename_i h2; rw [show ((t + 1 - u : Nat) : Int) = 0 by omega]
  rw [e2] at d
  try simp only at e
  omega
theorem conv_le1 {n : Nat} {x f g : List Int} (hx : IsC n x) (hf : IsC n f) (hg : IsC n g) (cx : IsC n (convL x g)) (cf : IsC n (convL f g)) (h : ∀ i, i < n → gi x i ≤ gi f i) : leT (convL x g) (convL f g) = true :=
  leT_yes cx cf fun i hi => by
    rw [convL_get hx.len hi, convL_get hf.len hi]
    exact cv_le_cv hi h fun _ _ => Int.le_refl _
theorem line_fits {n : Nat} {f : List Int} {r : Int} (hf : IsC n f) (hl : IsC n (tab n (linU r 0))) : fits (convL f (tab n (linU r 0))) = true := fits_le hf (by rw [convL_len, hf.len]) fun i hi => by
  rw [convL_get hf.len hi]
  have := cv_le (gi f) (gi (tab n (linU r 0))) (Nat.le_refl i)
  rw [Nat.sub_self, tab_get _ hf.pos] at this
  have e : linU r 0 0 = 0 := by unfold linU mx; rw [if_neg (by omega)]; omega
  rw [e] at this
  omega
set_option maxRecDepth 100000 in
set_option maxHeartbeats 20000000 in
theorem topShaped_walk (A_a : Option Addr) (n_a c_a : Nat) (a : List Int) (A_l : Option Addr) (n_l c_l : Nat) (l : List Int) (r : Int) (W : World) (w_a : InInts W A_a n_a c_a a) (w_l : InInts W A_l n_l c_l l) (w_r : -9223372036854775808 ≤ r ∧ r ≤ 9223372036854775807) :
    Calls Try.prog 4 #[.slice A_a n_a c_a, .slice A_l n_l c_l, .int .i64 r] W fun e w' => e = .returned (.bool true) ∧ Below W.heap.size W w' := by
  obtain ⟨s_a, l_a, r_a, _⟩ := w_a
  obtain ⟨s_l, l_l, r_l, _⟩ := w_l
  have b0 := Below.refl W.heap.size W
  go_enter Try.func4, Try.ntmps4
  have hl_a := s_a.int_len
  have hl_l := s_l.int_len
  by_cases hok : traceOk a
  case neg =>
    have hne := traceErr_ne a
    have HOK := Lib.hid hok
    clear hok hl_a hl_l
    go_wp2_with fail
    refine (tsum_no A_a (n_a) c_a (a) _ (s_a) (by omega) HOK.out ([]) (traceErr a) (0) (rfl) (rfl)).mono ?_
    rintro e w1 ⟨A_f, c_f, rfl, s_f, l_f, bb1⟩
    have b1 := belLit0 b0 bb1
    replace s_a := slLit0 s_a bb1
    replace s_l := slLit0 s_l bb1
    clear b0 bb1
    go_wp2_with fail
    refine (begun_any  _    (true) (rfl)).mono ?_
    rintro e w2 ⟨rfl, bb2⟩
    have b2 := belLit0 b1 bb2
    replace s_a := slLit0 s_a bb2
    replace s_l := slLit0 s_l bb2
    replace s_f := slLit0 s_f bb2
    clear b1 bb2
    go_wp2_with fail
    refine (begun_any  _    (true) (rfl)).mono ?_
    rintro e w3 ⟨rfl, bb3⟩
    have b3 := belLit0 b2 bb3
    replace s_a := slLit0 s_a bb3
    replace s_l := slLit0 s_l bb3
    replace s_f := slLit0 s_f bb3
    clear b2 bb3
    clear s_a s_l s_f
    go_wp2_with fail
    go_ret
    exact ⟨rfl, b3⟩
  have HOK := Lib.hid hok
  have t_a := hok.1
  rw [hl_a] at t_a
  have c_1 := cumul_C hok
  rw [hl_a] at c_1
  have C_f := Lib.hid c_1
  have HLA := Lib.hid hl_a
  clear hok c_1
  go_wp2_with fail
  refine (tsum_ok A_a (n_a) c_a (a) _ (s_a) (by omega) HOK.out (cumul a) (0) (n_a + 1) (rfl) (C_f.out.len)).mono ?_
  rintro e w4 ⟨A_f, c_f, rfl, s_f, l_f, bb4⟩
  have b4 := belLit0 b0 bb4
  replace s_a := slLit0 s_a bb4
  replace s_l := slLit0 s_l bb4
  clear b0 bb4
  go_wp2_with fail
  refine (begun_any  _    (true) (rfl)).mono ?_
  rintro e w5 ⟨rfl, bb5⟩
  have b5 := belLit0 b4 bb5
  replace s_a := slLit0 s_a bb5
  replace s_l := slLit0 s_l bb5
  replace s_f := slLit0 s_f bb5
  clear b4 bb5
  by_cases hc : curveErr l = 0
  case neg =>
    have hne : (curveErr l != 0) = true := by simpa using hc
    clear hc hl_a hl_l
    go_wp2_with fail
    refine (ccheck_t A_l (n_l) c_l (l) _ (s_l) (by omega)  (curveErr l) (rfl)).mono ?_
    rintro e w6 ⟨rfl, rfl⟩
    go_wp2_with fail
    refine (begun_any  _    (true) (rfl)).mono ?_
    rintro e w7 ⟨rfl, bb7⟩
    have b7 := belLit0 b5 bb7
    replace s_a := slLit0 s_a bb7
    replace s_l := slLit0 s_l bb7
    replace s_f := slLit0 s_f bb7
    clear b5 bb7
    clear s_a s_l s_f
    go_wp2_with fail
    go_ret
    exact ⟨rfl, b7⟩
  have HC := Lib.hid hc
  have hcl := isC_of hc
  rw [hl_l] at hcl
  clear hc
  go_wp2_with fail
  refine (ccheck_t A_l (n_l) c_l (l) _ (s_l) (by omega)  (0) (HC.out)).mono ?_
  rintro e w8 ⟨rfl, rfl⟩
  by_cases hn : n_l = n_a + 1
  case neg =>
    have hx : ((n_l : Int) != ((n_a + 1 : Nat) : Int)) = true := by simp; omega
    have hx2 : ((n_l : Int) != (n_a : Int) + 1) = true := by simp; omega
    clear hn hl_a hl_l hcl
    go_wp2_with fail
    refine (begun_any  _    (true) (rfl)).mono ?_
    rintro e w9 ⟨rfl, bb9⟩
    have b9 := belLit0 b5 bb9
    replace s_a := slLit0 s_a bb9
    replace s_l := slLit0 s_l bb9
    replace s_f := slLit0 s_f bb9
    clear b5 bb9
    clear s_a s_l s_f
    go_wp2_with fail
    go_ret
    exact ⟨rfl, b9⟩
  subst hn
  have C_l := Lib.hid hcl
  have hx2 : ((n_a : Int) + 1 != (n_a : Int) + 1) = false := by simp
  clear hcl hl_a hl_l
  go_wp2_with fail
  refine (within_t (r) (10001) _   (by omega) (by omega) (within r 10001) (rfl)).mono ?_
  rintro e w10 ⟨rfl, rfl⟩
  have r0 := within_lo r 10001 (by omega)
  have r1 := within_hi r 10001 (by omega)
  generalize within r 10001 = r' at *
  have C_x := Lib.hid (shaper_C C_f.out C_l.out)
  have C_g := Lib.hid (lin_C (n := n_a + 1) (r := r') (l := 0) (by omega) (by omega) r0 (by omega) (by omega))
  go_wp2_with fail
  refine (shaper_any A_f (n_a + 1) c_f (cumul a) A_l (n_a + 1) c_l (l) _ (s_f) (s_l) (by omega) (by omega) C_f.out C_l.out rfl (shaperL (cumul a) l) (0) (n_a + 1) (rfl) (C_x.out.len)).mono ?_
  rintro e w11 ⟨A_x, c_x, rfl, s_x, l_x, bb11⟩
  have b11 := belLit0 b5 bb11
  replace s_a := slLit0 s_a bb11
  replace s_l := slLit0 s_l bb11
  replace s_f := slLit0 s_f bb11
  clear b5 bb11
  rcases slotsIs_ex (shaperL (cumul a) l) with ⟨h, hne⟩ | h | h | ⟨h, h1, h2, h3⟩
  · exact absurd C_x.out.err hne
  · have HS := Lib.hid h
    clear h
    go_wp2_with fail
    refine (slots_any A_x (n_a + 1) c_x (shaperL (cumul a) l) _ (s_x) (by omega)  ([]) (3) (0) (HS.out) (rfl)).mono ?_
    rintro e w12 ⟨A_s, c_s, rfl, s_s, l_s, bb12⟩
    have b12 := belLit0 b11 bb12
    replace s_a := slLit0 s_a bb12
    replace s_l := slLit0 s_l bb12
    replace s_f := slLit0 s_f bb12
    replace s_x := slLit0 s_x bb12
    clear b11 bb12
    go_wp2_with fail
    refine (sline_any ((n_a : Int)) (r') (0) _   (by omega) (by omega) r0 (by omega) (by omega) (by omega) (tab (n_a + 1) (linU r' 0)) (0) (n_a + 1) (sline_yes (by omega) C_g.out) (C_g.out.len)).mono ?_
    rintro e w13 ⟨A_g, c_g, rfl, s_g, l_g, bb13⟩
    have b13 := belLit0 b12 bb13
    replace s_a := slLit0 s_a bb13
    replace s_l := slLit0 s_l bb13
    replace s_f := slLit0 s_f bb13
    replace s_x := slLit0 s_x bb13
    replace s_s := slLit0 s_s bb13
    clear b12 bb13
    clear s_a s_l s_f s_x s_s s_g
    go_wp2_with fail
    go_ret
    exact ⟨rfl, b13⟩
  · have HS := Lib.hid h
    clear h
    go_wp2_with fail
    refine (slots_any A_x (n_a + 1) c_x (shaperL (cumul a) l) _ (s_x) (by omega)  ([]) (2) (0) (HS.out) (rfl)).mono ?_
    rintro e w14 ⟨A_s, c_s, rfl, s_s, l_s, bb14⟩
    have b14 := belLit0 b11 bb14
    replace s_a := slLit0 s_a bb14
    replace s_l := slLit0 s_l bb14
    replace s_f := slLit0 s_f bb14
    replace s_x := slLit0 s_x bb14
    clear b11 bb14
    go_wp2_with fail
    refine (sline_any ((n_a : Int)) (r') (0) _   (by omega) (by omega) r0 (by omega) (by omega) (by omega) (tab (n_a + 1) (linU r' 0)) (0) (n_a + 1) (sline_yes (by omega) C_g.out) (C_g.out.len)).mono ?_
    rintro e w15 ⟨A_g, c_g, rfl, s_g, l_g, bb15⟩
    have b15 := belLit0 b14 bb15
    replace s_a := slLit0 s_a bb15
    replace s_l := slLit0 s_l bb15
    replace s_f := slLit0 s_f bb15
    replace s_x := slLit0 s_x bb15
    replace s_s := slLit0 s_s bb15
    clear b14 bb15
    clear s_a s_l s_f s_x s_s s_g
    go_wp2_with fail
    go_ret
    exact ⟨rfl, b15⟩
  · have HS := Lib.hid h
    have HD := Lib.hid (diffs_ok h1 h3)
    have HE := Lib.hid (cumul_diffs h1 h2)
    obtain ⟨s, hs⟩ : ∃ s, diffs (shaperL (cumul a) l) = s := ⟨_, rfl⟩
    have hsl : s.length = n_a := by rw [← hs, diffs_len, C_x.out.len]; omega
    have HSL := Lib.hid hsl
    have HSS := Lib.hid hs
    clear h h1 h2 h3 hsl hs
    have LOK : Hid (lineOk s r') := ⟨by rw [← HSS.out]; exact HD.out, r0, by omega⟩
    go_wp2_with fail
    refine (slots_any A_x (n_a + 1) c_x (shaperL (cumul a) l) _ (s_x) (by omega)  (s) (0) (n_a) (by rw [← HSS.out]; exact HS.out) (HSL.out)).mono ?_
    rintro e w16 ⟨A_s, c_s, rfl, s_s, l_s, bb16⟩
    have b16 := belLit0 b11 bb16
    replace s_a := slLit0 s_a bb16
    replace s_l := slLit0 s_l bb16
    replace s_f := slLit0 s_f bb16
    replace s_x := slLit0 s_x bb16
    clear b11 bb16
    go_wp2_with fail
    refine (sline_any ((n_a : Int)) (r') (0) _   (by omega) (by omega) r0 (by omega) (by omega) (by omega) (tab (n_a + 1) (linU r' 0)) (0) (n_a + 1) (sline_yes (by omega) C_g.out) (C_g.out.len)).mono ?_
    rintro e w17 ⟨A_g, c_g, rfl, s_g, l_g, bb17⟩
    have b17 := belLit0 b16 bb17
    replace s_a := slLit0 s_a bb17
    replace s_l := slLit0 s_l bb17
    replace s_f := slLit0 s_f bb17
    replace s_x := slLit0 s_x bb17
    replace s_s := slLit0 s_s bb17
    clear b16 bb17
    go_wp2_with fail
    refine (lrun_t A_s (n_a) c_s (s) (r') _ (s_s) (by omega) LOK.out (tab n_a (ldep s r')) (tab n_a fun k => lbuf s r' (k + 1)) (0) (n_a) (rfl) (rfl)).mono ?_
    rintro e w18 ⟨A_u, c_u, A_w, c_w, rfl, s_u, s_w, bb18⟩
    have l_u : True := trivial
    have l_w : True := trivial
    have b18 := belLit0 b17 bb18
    replace s_a := slLit0 s_a bb18
    replace s_l := slLit0 s_l bb18
    replace s_f := slLit0 s_f bb18
    replace s_x := slLit0 s_x bb18
    replace s_s := slLit0 s_s bb18
    replace s_g := slLit0 s_g bb18
    clear b17 bb18
    have C_o := Lib.hid (conv_C C_x.out C_g.out (line_fits C_x.out C_g.out))
    have C_v := Lib.hid (conv_C C_f.out C_g.out (line_fits C_f.out C_g.out))
    go_wp2_with fail
    refine (conv_any A_x (n_a + 1) c_x (shaperL (cumul a) l) A_g (n_a + 1) c_g (tab (n_a + 1) (linU r' 0)) _ (s_x) (s_g) (by omega) (by omega)  (convL (shaperL (cumul a) l) (tab (n_a + 1) (linU r' 0))) (0) (n_a + 1) (conv_yes C_x.out C_g.out (line_fits C_x.out C_g.out) rfl) (C_o.out.len)).mono ?_
    rintro e w19 ⟨A_o, c_o, rfl, s_o, l_o, bb19⟩
    have b19 := belLit0 b18 bb19
    replace s_a := slLit0 s_a bb19
    replace s_l := slLit0 s_l bb19
    replace s_f := slLit0 s_f bb19
    replace s_x := slLit0 s_x bb19
    replace s_s := slLit0 s_s bb19
    replace s_g := slLit0 s_g bb19
    replace s_u := slLit0 s_u bb19
    replace s_w := slLit0 s_w bb19
    clear b18 bb19
    go_wp2_with fail
    refine (conv_any A_f (n_a + 1) c_f (cumul a) A_g (n_a + 1) c_g (tab (n_a + 1) (linU r' 0)) _ (s_f) (s_g) (by omega) (by omega)  (convL (cumul a) (tab (n_a + 1) (linU r' 0))) (0) (n_a + 1) (conv_yes C_f.out C_g.out (line_fits C_f.out C_g.out) rfl) (C_v.out.len)).mono ?_
    rintro e w20 ⟨A_v, c_v, rfl, s_v, l_v, bb20⟩
    have b20 := belLit0 b19 bb20
    replace s_a := slLit0 s_a bb20
    replace s_l := slLit0 s_l bb20
    replace s_f := slLit0 s_f bb20
    replace s_x := slLit0 s_x bb20
    replace s_s := slLit0 s_s bb20
    replace s_g := slLit0 s_g bb20
    replace s_u := slLit0 s_u bb20
    replace s_w := slLit0 s_w bb20
    replace s_o := slLit0 s_o bb20
    clear b19 bb20
    obtain ⟨m, hv_m⟩ : ∃ z, top (fun i => gi l i - gi (tab (n_a + 1) (linU r' 0)) i) (n_a + 1) = z := ⟨_, rfl⟩
    have V_m := Lib.hid hv_m
    clear hv_m
    go_wp2_with fail
    refine (back_any A_l (n_a + 1) c_l (l) A_g (n_a + 1) c_g (tab (n_a + 1) (linU r' 0)) _ (s_l) (s_g) (by omega) (by omega) C_l.out C_g.out rfl (m) (0) (by rw [V_m.out])).mono ?_
    rintro e w21 ⟨rfl, bb21⟩
    have b21 := belLit0 b20 bb21
    replace s_a := slLit0 s_a bb21
    replace s_l := slLit0 s_l bb21
    replace s_f := slLit0 s_f bb21
    replace s_x := slLit0 s_x bb21
    replace s_s := slLit0 s_s bb21
    replace s_g := slLit0 s_g bb21
    replace s_u := slLit0 s_u bb21
    replace s_w := slLit0 s_w bb21
    replace s_o := slLit0 s_o bb21
    replace s_v := slLit0 s_v bb21
    clear b20 bb21
    go_wp2_with fail
    refine (tle_t A_o (n_a + 1) c_o (convL (shaperL (cumul a) l) (tab (n_a + 1) (linU r' 0))) A_v (n_a + 1) c_v (convL (cumul a) (tab (n_a + 1) (linU r' 0))) _ (s_o) (s_v) (by omega) (by omega) C_o.out C_v.out rfl (true) (conv_le1 C_x.out C_f.out C_g.out C_o.out C_v.out fun i hi => shaper_le C_f.out C_l.out hi)).mono ?_
    rintro e w22 ⟨rfl, bb22⟩
    have b22 := belLit0 b21 bb22
    replace s_a := slLit0 s_a bb22
    replace s_l := slLit0 s_l bb22
    replace s_f := slLit0 s_f bb22
    replace s_x := slLit0 s_x bb22
    replace s_s := slLit0 s_s bb22
    replace s_g := slLit0 s_g bb22
    replace s_u := slLit0 s_u bb22
    replace s_w := slLit0 s_w bb22
    replace s_o := slLit0 s_o bb22
    replace s_v := slLit0 s_v bb22
    clear b21 bb22
    by_cases h0 : n_a = 0
    ·
      have z0 : ((n_a : Int) == 0) = true := by simp; omega
      clear h0
      clear s_a s_l s_f s_x s_s s_g s_u s_w s_o s_v
      go_wp2_with fail
      go_ret
      exact ⟨rfl, b22⟩
    · have z0 : ((n_a : Int) == 0) = false := by simp; omega
      have zp : 0 < n_a := by omega
      obtain ⟨q, hq⟩ : ∃ q, hi (gi (tab n_a fun k => lbuf s r' (k + 1))) (n_a - 1) = q := ⟨_, rfl⟩
      have Q := Lib.hid hq
      have qm : q ≤ m := by
        rw [← hq, ← V_m.out]
        refine hi_le fun i hi => ?_
        rw [tab_get _ (show i < n_a by omega)]
        exact shaped_wait C_f.out C_l.out (by rw [← HSS.out]; exact HE.out) LOK.out HSL.out (by omega)
      clear h0 hq
      go_wp2_with fail
      refine (smax_any A_w (n_a) c_w (tab n_a fun k => lbuf s r' (k + 1)) _ (s_w) (by omega) zp (q) (Q.out)).mono ?_
      rintro e w23 ⟨rfl, bb23⟩
      have b23 := belLit0 b22 bb23
      replace s_a := slLit0 s_a bb23
      replace s_l := slLit0 s_l bb23
      replace s_f := slLit0 s_f bb23
      replace s_x := slLit0 s_x bb23
      replace s_s := slLit0 s_s bb23
      replace s_g := slLit0 s_g bb23
      replace s_u := slLit0 s_u bb23
      replace s_w := slLit0 s_w bb23
      replace s_o := slLit0 s_o bb23
      replace s_v := slLit0 s_v bb23
      clear b22 bb23
      clear s_a s_l s_f s_x s_s s_g s_u s_w s_o s_v
      go_wp2_with fail
      go_ret
      exact ⟨rfl, b23⟩
end Go.Proofs.Ytidmncoakockkaa
