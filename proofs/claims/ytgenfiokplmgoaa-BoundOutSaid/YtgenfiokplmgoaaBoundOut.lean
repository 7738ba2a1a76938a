/- BoundOut: the output conforms to the deconvolution of arrival and service curve. -/
import Derived.Test.YtgenfiokplmgoaaServedA
import Derived.Test.YtgenfiokplmgoaaBoundA
import Derived.Test.YtgenfiokplmgoaaLawKit
import Derived.Test.YtgenfiokplmgoaaDecA
set_option linter.unusedVariables false
namespace Go.Proofs.Ytgenfiokplmgoaa
open Go.RowKit
theorem served_le {n : Nat} {f b more : List Int} (hf : IsC n f) {i : Nat} (hi : i < n) : gi (servedL f b more) i ≤ gi f i := by unfold servedL; rw [cmin_get hf.len hi]; exact (mn_le _ _).1
theorem served_ge {n : Nat} {f b more : List Int} (hf : IsC n f) (h : leT (convL f b) (servedL f b more) = true) (cx : IsC n (convL f b)) (cz : IsC n (servedL f b more)) {i : Nat} (hi : i < n) : cv (gi f) (gi b) i ≤ gi (servedL f b more) i := by
  have := (leT_iff cx cz).1 h i hi
  rwa [convL_get hf.len hi] at this
theorem served_C {n : Nat} {f b more : List Int} (hf : IsC n f) (hb : IsC n b) (h1 : fits (convL f b) = true) (h2 : bothB f more = true) (h3 : fits (csumL (convL f b) more) = true) : IsC n (convL f b) ∧ IsC n (servedL f b more) := by
  have cx := conv_C hf hb h1
  have cm : IsC n more := (bothB_isC h2 hf.len).2
  exact ⟨cx, cmin_C hf (csum_C cx cm h3)⟩
theorem bound_out {n : Nat} {f l b more : List Int} (hf : IsC n f) (hl : IsC n l) (h1 : fitB n f l = true) (h : leT (convL f b) (servedL f b more) = true) (cx : IsC n (convL f b)) (cz : IsC n (servedL f b more)) : fitB n (servedL f b more) (deconvL l b) = true := by
  refine decide_eq_true fun t ht s hs => ?_
  rw [deconv_get hl.len (by omega)]
  have a := served_le (b := b) (more := more) hf ht
  have a2 := served_ge hf h cx cz (i := s) (by omega)
  obtain ⟨r, hr, e⟩ := cv_ex (gi f) (gi b) s
  have c := of_decide_eq_true h1 t ht r (by omega)
  have d := dcv_le (n := n) (F := gi l) (G := gi b) (t := t - s) (u := s - r) (by omega)
  rw [show t - s + (s - r) = t - r by omega] at d
  omega
set_option maxRecDepth 100000 in
set_option maxHeartbeats 3200000 in
theorem boundOut_walk (A_f : Option Addr) (n_f c_f : Nat) (f : List Int) (A_l : Option Addr) (n_l c_l : Nat) (l : List Int) (A_b : Option Addr) (n_b c_b : Nat) (b : List Int) (A_m : Option Addr) (n_m c_m : Nat) (m : List Int) (W : World) (w_f : InInts W A_f n_f c_f f) (w_l : InInts W A_l n_l c_l l) (w_b : InInts W A_b n_b c_b b) (w_m : InInts W A_m n_m c_m m) :
    Calls Try.prog 7 #[.slice A_f n_f c_f, .slice A_l n_l c_l, .slice A_b n_b c_b, .slice A_m n_m c_m] W fun e w' => e = .returned (.bool true) ∧ Below W.heap.size W w' := by
  obtain ⟨s_f, l_f, r_f, _⟩ := w_f
  obtain ⟨s_l, l_l, r_l, _⟩ := w_l
  obtain ⟨s_b, l_b, r_b, _⟩ := w_b
  obtain ⟨s_m, l_m, r_m, _⟩ := w_m
  have b0 := Below.refl W.heap.size W
  go_enter Try.func7, Try.ntmps7
  go_wp2_with fail
  refine (deconv_any _ 3 _ [0, 5, 6] _ 3 _ [0, 0, 4] _ (slMore (Sl.built_ _ (ints [0, 5, 6]) 3 _ rfl rfl) _) (Sl.built_ _ (ints [0, 0, 4]) 3 _ (by simp) rfl) (by omega) (by omega)  ([5, 6, 6]) (0) (3) (by decide +kernel) (rfl)).mono ?_
  rintro e w1 ⟨A_t0, c_t0, rfl, s_t0, l_t0, bb1⟩
  have b1 := belLit2 b0 bb1
  replace s_f := slLit2 s_f bb1
  replace s_l := slLit2 s_l bb1
  replace s_b := slLit2 s_b bb1
  replace s_m := slLit2 s_m bb1
  clear b0 bb1
  go_wp2_with fail
  refine (equal_t A_t0 (3) c_t0 ([5, 6, 6]) _ 3 _ [5, 6, 6] _ (slMore (s_t0) _) (Sl.built_ _ (ints [5, 6, 6]) 3 _ rfl rfl) (by omega) (by omega)  (true) (by decide)).mono ?_
  rintro e w2 ⟨rfl, bb2⟩
  have b2 := belLit1 b1 bb2
  replace s_f := slLit1 s_f bb2
  replace s_l := slLit1 s_l bb2
  replace s_b := slLit1 s_b bb2
  replace s_m := slLit1 s_m bb2
  replace s_t0 := slLit1 s_t0 bb2
  clear b1 bb2
  clear s_t0 l_t0
  have hl_f := s_f.int_len
  have hl_l := s_l.int_len
  have hl_b := s_b.int_len
  by_cases hok : (bothB f l && bothB l b) = true
  case neg =>
    have HOK := Lib.hid (Bool.eq_false_iff.2 hok)
    clear hok hl_f hl_l hl_b
    go_wp2_with fail
    refine (hthree_t A_f (n_f) c_f (f) A_l (n_l) c_l (l) A_b (n_b) c_b (b) _ (s_f) (s_l) (s_b) (by omega) (by omega) (by omega)  (false) (HOK.out)).mono ?_
    rintro e w3 ⟨rfl, bb3⟩
    have b3 := belLit0 b2 bb3
    replace s_f := slLit0 s_f bb3
    replace s_l := slLit0 s_l bb3
    replace s_b := slLit0 s_b bb3
    replace s_m := slLit0 s_m bb3
    clear b2 bb3
    clear s_f s_l s_b s_m
    go_wp2_with fail
    go_ret
    exact ⟨rfl, b3⟩
  obtain ⟨e1, e2, c_1, c_2, c_3⟩ := three_C hok hl_f hl_l hl_b
  subst e1 e2
  have HOK := Lib.hid hok
  have C_f := Lib.hid c_1
  have t_f := c_1.top
  have C_l := Lib.hid c_2
  have t_l := c_2.top
  have C_b := Lib.hid c_3
  have t_b := c_3.top
  clear hok c_1 c_2 c_3 hl_f hl_l hl_b
  go_wp2_with fail
  refine (hthree_t A_f (n_f) c_f (f) A_l (n_f) c_l (l) A_b (n_f) c_b (b) _ (s_f) (s_l) (s_b) (by omega) (by omega) (by omega)  (true) (HOK.out)).mono ?_
  rintro e w4 ⟨rfl, bb4⟩
  have b4 := belLit0 b2 bb4
  replace s_f := slLit0 s_f bb4
  replace s_l := slLit0 s_l bb4
  replace s_b := slLit0 s_b bb4
  replace s_m := slLit0 s_m bb4
  clear b2 bb4
  by_cases h1 : fitB n_f f l = true
  · have H1 := Lib.hid h1
    clear h1
    go_wp2_with fail
    refine (fits_any A_f (n_f) c_f (f) A_l (n_f) c_l (l) _ (s_f) (s_l) (by omega) (by omega) C_f.out C_l.out rfl (true) (0) (by rw [H1.out])).mono ?_
    rintro e w5 ⟨rfl, bb5⟩
    have b5 := belLit0 b4 bb5
    replace s_f := slLit0 s_f bb5
    replace s_l := slLit0 s_l bb5
    replace s_b := slLit0 s_b bb5
    replace s_m := slLit0 s_m bb5
    clear b4 bb5
    rcases servedIs_ex f b m with hs | ⟨h1, h2, h3, hs⟩
    · have SV := Lib.hid hs
      clear hs
      go_wp2_with fail
      refine (served_any A_f (n_f) c_f (f) A_b (n_f) c_b (b) A_m (n_m) c_m (m) _ (s_f) (s_b) (s_m) (by omega) (by omega) (by omega) C_f.out C_b.out rfl ([]) (false) (0) (SV.out) (rfl)).mono ?_
      rintro e w6 ⟨A_d, c_d, rfl, s_d, l_d, bb6⟩
      have b6 := belLit0 b5 bb6
      replace s_f := slLit0 s_f bb6
      replace s_l := slLit0 s_l bb6
      replace s_b := slLit0 s_b bb6
      replace s_m := slLit0 s_m bb6
      clear b5 bb6
      go_wp2_with fail
      refine (deconv_any A_l (n_f) c_l (l) A_b (n_f) c_b (b) _ (s_l) (s_b) (by omega) (by omega)  (deconvL l b) (0) (n_f) (deconv_yes C_l.out C_b.out rfl) ((deconv_C C_l.out C_b.out).len)).mono ?_
      rintro e w7 ⟨A_x, c_x, rfl, s_x, l_x, bb7⟩
      have b7 := belLit0 b6 bb7
      replace s_f := slLit0 s_f bb7
      replace s_l := slLit0 s_l bb7
      replace s_b := slLit0 s_b bb7
      replace s_m := slLit0 s_m bb7
      replace s_d := slLit0 s_d bb7
      clear b6 bb7
      have C_o := Lib.hid (deconv_C C_l.out C_b.out)
      clear s_f s_l s_b s_m s_d s_x
      go_wp2_with fail
      go_ret
      exact ⟨rfl, b7⟩
    · obtain ⟨cx, cz⟩ := served_C C_f.out C_b.out h1 h2 h3
      have SV := Lib.hid hs
      have C_x := Lib.hid cx
      have C_d := Lib.hid cz
      clear hs h1 h2 h3 cx cz
      cases hle : leT (convL f b) (servedL f b m) with
      | false =>
        have HL := Lib.hid hle
        clear hle
        go_wp2_with fail
        refine (served_any A_f (n_f) c_f (f) A_b (n_f) c_b (b) A_m (n_m) c_m (m) _ (s_f) (s_b) (s_m) (by omega) (by omega) (by omega) C_f.out C_b.out rfl (servedL f b m) (false) (n_f) (by rw [← HL.out]; exact SV.out) (C_d.out.len)).mono ?_
        rintro e w8 ⟨A_d, c_d, rfl, s_d, l_d, bb8⟩
        have b8 := belLit0 b5 bb8
        replace s_f := slLit0 s_f bb8
        replace s_l := slLit0 s_l bb8
        replace s_b := slLit0 s_b bb8
        replace s_m := slLit0 s_m bb8
        clear b5 bb8
        go_wp2_with fail
        refine (deconv_any A_l (n_f) c_l (l) A_b (n_f) c_b (b) _ (s_l) (s_b) (by omega) (by omega)  (deconvL l b) (0) (n_f) (deconv_yes C_l.out C_b.out rfl) ((deconv_C C_l.out C_b.out).len)).mono ?_
        rintro e w9 ⟨A_x, c_x, rfl, s_x, l_x, bb9⟩
        have b9 := belLit0 b8 bb9
        replace s_f := slLit0 s_f bb9
        replace s_l := slLit0 s_l bb9
        replace s_b := slLit0 s_b bb9
        replace s_m := slLit0 s_m bb9
        replace s_d := slLit0 s_d bb9
        clear b8 bb9
        have C_o := Lib.hid (deconv_C C_l.out C_b.out)
        clear s_f s_l s_b s_m s_d s_x
        go_wp2_with fail
        go_ret
        exact ⟨rfl, b9⟩
      | true =>
        have HL := Lib.hid hle
        clear hle
        go_wp2_with fail
        refine (served_any A_f (n_f) c_f (f) A_b (n_f) c_b (b) A_m (n_m) c_m (m) _ (s_f) (s_b) (s_m) (by omega) (by omega) (by omega) C_f.out C_b.out rfl (servedL f b m) (true) (n_f) (by rw [← HL.out]; exact SV.out) (C_d.out.len)).mono ?_
        rintro e w10 ⟨A_d, c_d, rfl, s_d, l_d, bb10⟩
        have b10 := belLit0 b5 bb10
        replace s_f := slLit0 s_f bb10
        replace s_l := slLit0 s_l bb10
        replace s_b := slLit0 s_b bb10
        replace s_m := slLit0 s_m bb10
        clear b5 bb10
        go_wp2_with fail
        refine (deconv_any A_l (n_f) c_l (l) A_b (n_f) c_b (b) _ (s_l) (s_b) (by omega) (by omega)  (deconvL l b) (0) (n_f) (deconv_yes C_l.out C_b.out rfl) ((deconv_C C_l.out C_b.out).len)).mono ?_
        rintro e w11 ⟨A_x, c_x, rfl, s_x, l_x, bb11⟩
        have b11 := belLit0 b10 bb11
        replace s_f := slLit0 s_f bb11
        replace s_l := slLit0 s_l bb11
        replace s_b := slLit0 s_b bb11
        replace s_m := slLit0 s_m bb11
        replace s_d := slLit0 s_d bb11
        clear b10 bb11
        have C_o := Lib.hid (deconv_C C_l.out C_b.out)
        go_wp2_with fail
        refine (fits_any A_d (n_f) c_d (servedL f b m) A_x (n_f) c_x (deconvL l b) _ (s_d) (s_x) (by omega) (by omega) C_d.out C_o.out rfl (true) (0) (by rw [bound_out C_f.out C_l.out H1.out HL.out C_x.out C_d.out])).mono ?_
        rintro e w12 ⟨rfl, bb12⟩
        have b12 := belLit0 b11 bb12
        replace s_f := slLit0 s_f bb12
        replace s_l := slLit0 s_l bb12
        replace s_b := slLit0 s_b bb12
        replace s_m := slLit0 s_m bb12
        replace s_d := slLit0 s_d bb12
        replace s_x := slLit0 s_x bb12
        clear b11 bb12
        clear s_f s_l s_b s_m s_d s_x
        go_wp2_with fail
        go_ret
        exact ⟨rfl, b12⟩
  · have H1 := Lib.hid h1
    clear h1
    have B1 := Lib.hid (Bool.eq_false_iff.2 H1.out)
    go_wp2_with fail
    refine (fits_any A_f (n_f) c_f (f) A_l (n_f) c_l (l) _ (s_f) (s_l) (by omega) (by omega) C_f.out C_l.out rfl (false) (0) (by rw [B1.out])).mono ?_
    rintro e w13 ⟨rfl, bb13⟩
    have b13 := belLit0 b4 bb13
    replace s_f := slLit0 s_f bb13
    replace s_l := slLit0 s_l bb13
    replace s_b := slLit0 s_b bb13
    replace s_m := slLit0 s_m bb13
    clear b4 bb13
    rcases servedIs_ex f b m with hs | ⟨h1, h2, h3, hs⟩
    · have SV := Lib.hid hs
      clear hs
      go_wp2_with fail
      refine (served_any A_f (n_f) c_f (f) A_b (n_f) c_b (b) A_m (n_m) c_m (m) _ (s_f) (s_b) (s_m) (by omega) (by omega) (by omega) C_f.out C_b.out rfl ([]) (false) (0) (SV.out) (rfl)).mono ?_
      rintro e w14 ⟨A_d, c_d, rfl, s_d, l_d, bb14⟩
      have b14 := belLit0 b13 bb14
      replace s_f := slLit0 s_f bb14
      replace s_l := slLit0 s_l bb14
      replace s_b := slLit0 s_b bb14
      replace s_m := slLit0 s_m bb14
      clear b13 bb14
      go_wp2_with fail
      refine (deconv_any A_l (n_f) c_l (l) A_b (n_f) c_b (b) _ (s_l) (s_b) (by omega) (by omega)  (deconvL l b) (0) (n_f) (deconv_yes C_l.out C_b.out rfl) ((deconv_C C_l.out C_b.out).len)).mono ?_
      rintro e w15 ⟨A_x, c_x, rfl, s_x, l_x, bb15⟩
      have b15 := belLit0 b14 bb15
      replace s_f := slLit0 s_f bb15
      replace s_l := slLit0 s_l bb15
      replace s_b := slLit0 s_b bb15
      replace s_m := slLit0 s_m bb15
      replace s_d := slLit0 s_d bb15
      clear b14 bb15
      have C_o := Lib.hid (deconv_C C_l.out C_b.out)
      clear s_f s_l s_b s_m s_d s_x
      go_wp2_with fail
      go_ret
      exact ⟨rfl, b15⟩
    · obtain ⟨cx, cz⟩ := served_C C_f.out C_b.out h1 h2 h3
      have SV := Lib.hid hs
      have C_x := Lib.hid cx
      have C_d := Lib.hid cz
      clear hs h1 h2 h3 cx cz
      cases hle : leT (convL f b) (servedL f b m) with
      | false =>
        have HL := Lib.hid hle
        clear hle
        go_wp2_with fail
        refine (served_any A_f (n_f) c_f (f) A_b (n_f) c_b (b) A_m (n_m) c_m (m) _ (s_f) (s_b) (s_m) (by omega) (by omega) (by omega) C_f.out C_b.out rfl (servedL f b m) (false) (n_f) (by rw [← HL.out]; exact SV.out) (C_d.out.len)).mono ?_
        rintro e w16 ⟨A_d, c_d, rfl, s_d, l_d, bb16⟩
        have b16 := belLit0 b13 bb16
        replace s_f := slLit0 s_f bb16
        replace s_l := slLit0 s_l bb16
        replace s_b := slLit0 s_b bb16
        replace s_m := slLit0 s_m bb16
        clear b13 bb16
        go_wp2_with fail
        refine (deconv_any A_l (n_f) c_l (l) A_b (n_f) c_b (b) _ (s_l) (s_b) (by omega) (by omega)  (deconvL l b) (0) (n_f) (deconv_yes C_l.out C_b.out rfl) ((deconv_C C_l.out C_b.out).len)).mono ?_
        rintro e w17 ⟨A_x, c_x, rfl, s_x, l_x, bb17⟩
        have b17 := belLit0 b16 bb17
        replace s_f := slLit0 s_f bb17
        replace s_l := slLit0 s_l bb17
        replace s_b := slLit0 s_b bb17
        replace s_m := slLit0 s_m bb17
        replace s_d := slLit0 s_d bb17
        clear b16 bb17
        have C_o := Lib.hid (deconv_C C_l.out C_b.out)
        clear s_f s_l s_b s_m s_d s_x
        go_wp2_with fail
        go_ret
        exact ⟨rfl, b17⟩
      | true =>
        have HL := Lib.hid hle
        clear hle
        go_wp2_with fail
        refine (served_any A_f (n_f) c_f (f) A_b (n_f) c_b (b) A_m (n_m) c_m (m) _ (s_f) (s_b) (s_m) (by omega) (by omega) (by omega) C_f.out C_b.out rfl (servedL f b m) (true) (n_f) (by rw [← HL.out]; exact SV.out) (C_d.out.len)).mono ?_
        rintro e w18 ⟨A_d, c_d, rfl, s_d, l_d, bb18⟩
        have b18 := belLit0 b13 bb18
        replace s_f := slLit0 s_f bb18
        replace s_l := slLit0 s_l bb18
        replace s_b := slLit0 s_b bb18
        replace s_m := slLit0 s_m bb18
        clear b13 bb18
        go_wp2_with fail
        refine (deconv_any A_l (n_f) c_l (l) A_b (n_f) c_b (b) _ (s_l) (s_b) (by omega) (by omega)  (deconvL l b) (0) (n_f) (deconv_yes C_l.out C_b.out rfl) ((deconv_C C_l.out C_b.out).len)).mono ?_
        rintro e w19 ⟨A_x, c_x, rfl, s_x, l_x, bb19⟩
        have b19 := belLit0 b18 bb19
        replace s_f := slLit0 s_f bb19
        replace s_l := slLit0 s_l bb19
        replace s_b := slLit0 s_b bb19
        replace s_m := slLit0 s_m bb19
        replace s_d := slLit0 s_d bb19
        clear b18 bb19
        have C_o := Lib.hid (deconv_C C_l.out C_b.out)
        clear s_f s_l s_b s_m s_d s_x
        go_wp2_with fail
        go_ret
        exact ⟨rfl, b19⟩
end Go.Proofs.Ytgenfiokplmgoaa
