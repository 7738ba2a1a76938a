/- BoundDelay: the delay bound from arrival and service curves. -/
import Derived.Test.YtgenfiokplmgoaaServedA
import Derived.Test.YtgenfiokplmgoaaBoundA
import Derived.Test.YtgenfiokplmgoaaLawKit
set_option linter.unusedVariables false
namespace Go.Proofs.Ytgenfiokplmgoaa
open Go.RowKit
theorem served_le {n : Nat} {f b more : List Int} (hf : IsC n f) {i : Nat} (hi : i < n) : gi (servedL f b more) i ≤ gi f i := by unfold servedL; rw [cmin_get hf.len hi]; exact (mn_le _ _).1
theorem served_ge {n : Nat} {f b more : List Int} (hf : IsC n f) (h : leT (convL f b) (servedL f b more) = true) (cx : IsC n (convL f b)) (cz : IsC n (servedL f b more)) {i : Nat} (hi : i < n) : cv (gi f) (gi b) i ≤ gi (servedL f b more) i := by
  have := (leT_iff cx cz).1 h i hi
  rwa [convL_get hf.len hi] at this
theorem served_C {n : Nat} {f b more : List Int} (hf : IsC n f) (hb : IsC n b) (h1 : fits (convL f b) = true) (h2 : bothB f more = true) (h3 : fits (csumL (convL f b) more) = true) : IsC n (convL f b) ∧ IsC n (servedL f b more) := by
  have cx := conv_C hf hb h1
  have cm : IsC n more := (bothB_isC h2 hf.len).2
  exact ⟨cx, cmin_C hf (csum_C cx cm h3)⟩
theorem bound_delay {n : Nat} {f l b more : List Int} (hf : IsC n f) (hb : IsC n b) (h1 : fitB n f l = true) (h : leT (convL f b) (servedL f b more) = true) (cx : IsC n (convL f b)) (cz : IsC n (servedL f b more)) {d : Nat} (hd : byP n l b d) : byP n f (servedL f b more) d := by
  intro t ht
  have a := served_ge hf h cx cz (i := t + d) (by omega)
  obtain ⟨s, hs, e⟩ := cv_ex (gi f) (gi b) (t + d)
  rcases Nat.lt_or_ge t s with h2 | h2
  · have := hf.up t s (by omega) (by omega)
    have := hb.lo (t + d - s) (by omega)
    omega
  · have c := of_decide_eq_true h1 t (by omega) s h2
    have k := hd (t - s) (by omega)
    rw [show t - s + d = t + d - s by omega] at k
    omega
set_option maxRecDepth 100000 in
set_option maxHeartbeats 3200000 in
theorem boundDelay_walk (A_f : Option Addr) (n_f c_f : Nat) (f : List Int) (A_l : Option Addr) (n_l c_l : Nat) (l : List Int) (A_b : Option Addr) (n_b c_b : Nat) (b : List Int) (A_m : Option Addr) (n_m c_m : Nat) (m : List Int) (W : World) (w_f : InInts W A_f n_f c_f f) (w_l : InInts W A_l n_l c_l l) (w_b : InInts W A_b n_b c_b b) (w_m : InInts W A_m n_m c_m m) :
    Calls Try.prog 6 #[.slice A_f n_f c_f, .slice A_l n_l c_l, .slice A_b n_b c_b, .slice A_m n_m c_m] W fun e w' => e = .returned (.bool true) ∧ Below W.heap.size W w' := by
  obtain ⟨s_f, l_f, r_f, _⟩ := w_f
  obtain ⟨s_l, l_l, r_l, _⟩ := w_l
  obtain ⟨s_b, l_b, r_b, _⟩ := w_b
  obtain ⟨s_m, l_m, r_m, _⟩ := w_m
  have b0 := Below.refl W.heap.size W
  go_enter Try.func6, Try.ntmps6
  go_wp2_with fail
  refine (delay_any _ 4 _ [0, 5, 6, 6] _ 4 _ [0, 1, 5, 6] _ (slMore (Sl.built_ _ (ints [0, 5, 6, 6]) 3 _ rfl rfl) _) (Sl.built_ _ (ints [0, 1, 5, 6]) 3 _ (by simp) rfl) (by omega) (by omega) (isC_iff.2 ⟨by decide +kernel, rfl⟩) (isC_iff.2 ⟨by decide +kernel, rfl⟩) rfl (((1 : Nat) : Int)) (0) (.inl ⟨1, by omega, by unfold byP; decide, by unfold byP; decide, rfl, rfl⟩)).mono ?_
  rintro e w1 ⟨rfl, bb1⟩
  have b1 := belLit2 b0 bb1
  replace s_f := slLit2 s_f bb1
  replace s_l := slLit2 s_l bb1
  replace s_b := slLit2 s_b bb1
  replace s_m := slLit2 s_m bb1
  clear b0 bb1
  have hl_f := s_f.int_len
  have hl_l := s_l.int_len
  have hl_b := s_b.int_len
  by_cases hok : (bothB f l && bothB l b) = true
  case neg =>
    have HOK := Lib.hid (Bool.eq_false_iff.2 hok)
    clear hok hl_f hl_l hl_b
    go_wp2_with fail
    refine (hthree_t A_f (n_f) c_f (f) A_l (n_l) c_l (l) A_b (n_b) c_b (b) _ (s_f) (s_l) (s_b) (by omega) (by omega) (by omega)  (false) (HOK.out)).mono ?_
    rintro e w2 ⟨rfl, bb2⟩
    have b2 := belLit0 b1 bb2
    replace s_f := slLit0 s_f bb2
    replace s_l := slLit0 s_l bb2
    replace s_b := slLit0 s_b bb2
    replace s_m := slLit0 s_m bb2
    clear b1 bb2
    clear s_f s_l s_b s_m
    go_wp2_with fail
    go_ret
    exact ⟨rfl, b2⟩
  obtain ⟨e1, e2, c_1, c_2, c_3⟩ := three_C hok hl_f hl_l hl_b
  subst e1 e2
  have HOK := Lib.hid hok
  have C_f := Lib.hid c_1
  have t_f := c_1.top
  have C_l := Lib.hid c_2
  have t_l := c_2.top
  have C_b := Lib.hid c_3
  have t_b := c_3.top
  clear hok c_1 c_2 c_3 hl_f hl_l hl_b
  go_wp2_with fail
  refine (hthree_t A_f (n_f) c_f (f) A_l (n_f) c_l (l) A_b (n_f) c_b (b) _ (s_f) (s_l) (s_b) (by omega) (by omega) (by omega)  (true) (HOK.out)).mono ?_
  rintro e w3 ⟨rfl, bb3⟩
  have b3 := belLit0 b1 bb3
  replace s_f := slLit0 s_f bb3
  replace s_l := slLit0 s_l bb3
  replace s_b := slLit0 s_b bb3
  replace s_m := slLit0 s_m bb3
  clear b1 bb3
  by_cases h1 : fitB n_f f l = true
  · have H1 := Lib.hid h1
    clear h1
    go_wp2_with fail
    refine (fits_any A_f (n_f) c_f (f) A_l (n_f) c_l (l) _ (s_f) (s_l) (by omega) (by omega) C_f.out C_l.out rfl (true) (0) (by rw [H1.out])).mono ?_
    rintro e w4 ⟨rfl, bb4⟩
    have b4 := belLit0 b3 bb4
    replace s_f := slLit0 s_f bb4
    replace s_l := slLit0 s_l bb4
    replace s_b := slLit0 s_b bb4
    replace s_m := slLit0 s_m bb4
    clear b3 bb4
    rcases servedIs_ex f b m with hs | ⟨h1, h2, h3, hs⟩
    · have SV := Lib.hid hs
      clear hs
      go_wp2_with fail
      refine (served_any A_f (n_f) c_f (f) A_b (n_f) c_b (b) A_m (n_m) c_m (m) _ (s_f) (s_b) (s_m) (by omega) (by omega) (by omega) C_f.out C_b.out rfl ([]) (false) (0) (SV.out) (rfl)).mono ?_
      rintro e w5 ⟨A_d, c_d, rfl, s_d, l_d, bb5⟩
      have b5 := belLit0 b4 bb5
      replace s_f := slLit0 s_f bb5
      replace s_l := slLit0 s_l bb5
      replace s_b := slLit0 s_b bb5
      replace s_m := slLit0 s_m bb5
      clear b4 bb5
      rcases delayR_ex n_f l b with ⟨n, q1, q2, q3, q4⟩ | ⟨q1, q2⟩
      · have Q4 := Lib.hid q4
        have Q2 := Lib.hid q2
        clear q2 q3 q4
        go_wp2_with fail
        refine (delay_any A_l (n_f) c_l (l) A_b (n_f) c_b (b) _ (s_l) (s_b) (by omega) (by omega) C_l.out C_b.out rfl ((n : Int)) (0) (Q4.out)).mono ?_
        rintro e w6 ⟨rfl, bb6⟩
        have b6 := belLit0 b5 bb6
        replace s_f := slLit0 s_f bb6
        replace s_l := slLit0 s_l bb6
        replace s_b := slLit0 s_b bb6
        replace s_m := slLit0 s_m bb6
        replace s_d := slLit0 s_d bb6
        clear b5 bb6
        clear s_f s_l s_b s_m s_d
        go_wp2_with fail
        go_ret
        exact ⟨rfl, b6⟩
      · have Q4 := Lib.hid q2
        clear q1 q2
        go_wp2_with fail
        refine (delay_any A_l (n_f) c_l (l) A_b (n_f) c_b (b) _ (s_l) (s_b) (by omega) (by omega) C_l.out C_b.out rfl (0) (5) (Q4.out)).mono ?_
        rintro e w7 ⟨rfl, bb7⟩
        have b7 := belLit0 b5 bb7
        replace s_f := slLit0 s_f bb7
        replace s_l := slLit0 s_l bb7
        replace s_b := slLit0 s_b bb7
        replace s_m := slLit0 s_m bb7
        replace s_d := slLit0 s_d bb7
        clear b5 bb7
        clear s_f s_l s_b s_m s_d
        go_wp2_with fail
        go_ret
        exact ⟨rfl, b7⟩
    · obtain ⟨cx, cz⟩ := served_C C_f.out C_b.out h1 h2 h3
      have SV := Lib.hid hs
      have C_x := Lib.hid cx
      have C_d := Lib.hid cz
      clear hs h1 h2 h3 cx cz
      cases hle : leT (convL f b) (servedL f b m) with
      | false =>
        have HL := Lib.hid hle
        clear hle
        go_wp2_with fail
        refine (served_any A_f (n_f) c_f (f) A_b (n_f) c_b (b) A_m (n_m) c_m (m) _ (s_f) (s_b) (s_m) (by omega) (by omega) (by omega) C_f.out C_b.out rfl (servedL f b m) (false) (n_f) (by rw [← HL.out]; exact SV.out) (C_d.out.len)).mono ?_
        rintro e w8 ⟨A_d, c_d, rfl, s_d, l_d, bb8⟩
        have b8 := belLit0 b4 bb8
        replace s_f := slLit0 s_f bb8
        replace s_l := slLit0 s_l bb8
        replace s_b := slLit0 s_b bb8
        replace s_m := slLit0 s_m bb8
        clear b4 bb8
        rcases delayR_ex n_f l b with ⟨n, q1, q2, q3, q4⟩ | ⟨q1, q2⟩
        · have Q4 := Lib.hid q4
          have Q2 := Lib.hid q2
          clear q2 q3 q4
          go_wp2_with fail
          refine (delay_any A_l (n_f) c_l (l) A_b (n_f) c_b (b) _ (s_l) (s_b) (by omega) (by omega) C_l.out C_b.out rfl ((n : Int)) (0) (Q4.out)).mono ?_
          rintro e w9 ⟨rfl, bb9⟩
          have b9 := belLit0 b8 bb9
          replace s_f := slLit0 s_f bb9
          replace s_l := slLit0 s_l bb9
          replace s_b := slLit0 s_b bb9
          replace s_m := slLit0 s_m bb9
          replace s_d := slLit0 s_d bb9
          clear b8 bb9
          clear s_f s_l s_b s_m s_d
          go_wp2_with fail
          go_ret
          exact ⟨rfl, b9⟩
        · have Q4 := Lib.hid q2
          clear q1 q2
          go_wp2_with fail
          refine (delay_any A_l (n_f) c_l (l) A_b (n_f) c_b (b) _ (s_l) (s_b) (by omega) (by omega) C_l.out C_b.out rfl (0) (5) (Q4.out)).mono ?_
          rintro e w10 ⟨rfl, bb10⟩
          have b10 := belLit0 b8 bb10
          replace s_f := slLit0 s_f bb10
          replace s_l := slLit0 s_l bb10
          replace s_b := slLit0 s_b bb10
          replace s_m := slLit0 s_m bb10
          replace s_d := slLit0 s_d bb10
          clear b8 bb10
          clear s_f s_l s_b s_m s_d
          go_wp2_with fail
          go_ret
          exact ⟨rfl, b10⟩
      | true =>
        have HL := Lib.hid hle
        clear hle
        go_wp2_with fail
        refine (served_any A_f (n_f) c_f (f) A_b (n_f) c_b (b) A_m (n_m) c_m (m) _ (s_f) (s_b) (s_m) (by omega) (by omega) (by omega) C_f.out C_b.out rfl (servedL f b m) (true) (n_f) (by rw [← HL.out]; exact SV.out) (C_d.out.len)).mono ?_
        rintro e w11 ⟨A_d, c_d, rfl, s_d, l_d, bb11⟩
        have b11 := belLit0 b4 bb11
        replace s_f := slLit0 s_f bb11
        replace s_l := slLit0 s_l bb11
        replace s_b := slLit0 s_b bb11
        replace s_m := slLit0 s_m bb11
        clear b4 bb11
        rcases delayR_ex n_f l b with ⟨n, q1, q2, q3, q4⟩ | ⟨q1, q2⟩
        · have Q4 := Lib.hid q4
          have Q2 := Lib.hid q2
          clear q2 q3 q4
          go_wp2_with fail
          refine (delay_any A_l (n_f) c_l (l) A_b (n_f) c_b (b) _ (s_l) (s_b) (by omega) (by omega) C_l.out C_b.out rfl ((n : Int)) (0) (Q4.out)).mono ?_
          rintro e w12 ⟨rfl, bb12⟩
          have b12 := belLit0 b11 bb12
          replace s_f := slLit0 s_f bb12
          replace s_l := slLit0 s_l bb12
          replace s_b := slLit0 s_b bb12
          replace s_m := slLit0 s_m bb12
          replace s_d := slLit0 s_d bb12
          clear b11 bb12
          have BY := bound_delay C_f.out C_b.out H1.out HL.out C_x.out C_d.out Q2.out
          rcases delayR_ex n_f f (servedL f b m) with ⟨k, p1, p2, p3, p4⟩ | ⟨p1, p2⟩
          · have hkn : k ≤ n := by
              rcases Nat.lt_or_ge n k with h | h
              · exact absurd BY (p3 n h)
              · exact h
            have hkn2 : (k : Int) ≤ n := by omega
            have P4 := Lib.hid p4
            clear p2 p3 p4 BY hkn
            go_wp2_with fail
            refine (delay_any A_f (n_f) c_f (f) A_d (n_f) c_d (servedL f b m) _ (s_f) (s_d) (by omega) (by omega) C_f.out C_d.out rfl ((k : Int)) (0) (P4.out)).mono ?_
            rintro e w13 ⟨rfl, bb13⟩
            have b13 := belLit0 b12 bb13
            replace s_f := slLit0 s_f bb13
            replace s_l := slLit0 s_l bb13
            replace s_b := slLit0 s_b bb13
            replace s_m := slLit0 s_m bb13
            replace s_d := slLit0 s_d bb13
            clear b12 bb13
            clear s_f s_l s_b s_m s_d
            go_wp2_with fail
            go_ret
            exact ⟨rfl, b13⟩
          · exact absurd BY (p1 n q1)
        · have Q4 := Lib.hid q2
          clear q1 q2
          go_wp2_with fail
          refine (delay_any A_l (n_f) c_l (l) A_b (n_f) c_b (b) _ (s_l) (s_b) (by omega) (by omega) C_l.out C_b.out rfl (0) (5) (Q4.out)).mono ?_
          rintro e w14 ⟨rfl, bb14⟩
          have b14 := belLit0 b11 bb14
          replace s_f := slLit0 s_f bb14
          replace s_l := slLit0 s_l bb14
          replace s_b := slLit0 s_b bb14
          replace s_m := slLit0 s_m bb14
          replace s_d := slLit0 s_d bb14
          clear b11 bb14
          clear s_f s_l s_b s_m s_d
          go_wp2_with fail
          go_ret
          exact ⟨rfl, b14⟩
  · have H1 := Lib.hid h1
    clear h1
    have B1 := Lib.hid (Bool.eq_false_iff.2 H1.out)
    go_wp2_with fail
    refine (fits_any A_f (n_f) c_f (f) A_l (n_f) c_l (l) _ (s_f) (s_l) (by omega) (by omega) C_f.out C_l.out rfl (false) (0) (by rw [B1.out])).mono ?_
    rintro e w15 ⟨rfl, bb15⟩
    have b15 := belLit0 b3 bb15
    replace s_f := slLit0 s_f bb15
    replace s_l := slLit0 s_l bb15
    replace s_b := slLit0 s_b bb15
    replace s_m := slLit0 s_m bb15
    clear b3 bb15
    rcases servedIs_ex f b m with hs | ⟨h1, h2, h3, hs⟩
    · have SV := Lib.hid hs
      clear hs
      go_wp2_with fail
      refine (served_any A_f (n_f) c_f (f) A_b (n_f) c_b (b) A_m (n_m) c_m (m) _ (s_f) (s_b) (s_m) (by omega) (by omega) (by omega) C_f.out C_b.out rfl ([]) (false) (0) (SV.out) (rfl)).mono ?_
      rintro e w16 ⟨A_d, c_d, rfl, s_d, l_d, bb16⟩
      have b16 := belLit0 b15 bb16
      replace s_f := slLit0 s_f bb16
      replace s_l := slLit0 s_l bb16
      replace s_b := slLit0 s_b bb16
      replace s_m := slLit0 s_m bb16
      clear b15 bb16
      rcases delayR_ex n_f l b with ⟨n, q1, q2, q3, q4⟩ | ⟨q1, q2⟩
      · have Q4 := Lib.hid q4
        have Q2 := Lib.hid q2
        clear q2 q3 q4
        go_wp2_with fail
        refine (delay_any A_l (n_f) c_l (l) A_b (n_f) c_b (b) _ (s_l) (s_b) (by omega) (by omega) C_l.out C_b.out rfl ((n : Int)) (0) (Q4.out)).mono ?_
        rintro e w17 ⟨rfl, bb17⟩
        have b17 := belLit0 b16 bb17
        replace s_f := slLit0 s_f bb17
        replace s_l := slLit0 s_l bb17
        replace s_b := slLit0 s_b bb17
        replace s_m := slLit0 s_m bb17
        replace s_d := slLit0 s_d bb17
        clear b16 bb17
        clear s_f s_l s_b s_m s_d
        go_wp2_with fail
        go_ret
        exact ⟨rfl, b17⟩
      · have Q4 := Lib.hid q2
        clear q1 q2
        go_wp2_with fail
        refine (delay_any A_l (n_f) c_l (l) A_b (n_f) c_b (b) _ (s_l) (s_b) (by omega) (by omega) C_l.out C_b.out rfl (0) (5) (Q4.out)).mono ?_
        rintro e w18 ⟨rfl, bb18⟩
        have b18 := belLit0 b16 bb18
        replace s_f := slLit0 s_f bb18
        replace s_l := slLit0 s_l bb18
        replace s_b := slLit0 s_b bb18
        replace s_m := slLit0 s_m bb18
        replace s_d := slLit0 s_d bb18
        clear b16 bb18
        clear s_f s_l s_b s_m s_d
        go_wp2_with fail
        go_ret
        exact ⟨rfl, b18⟩
    · obtain ⟨cx, cz⟩ := served_C C_f.out C_b.out h1 h2 h3
      have SV := Lib.hid hs
      have C_x := Lib.hid cx
      have C_d := Lib.hid cz
      clear hs h1 h2 h3 cx cz
      cases hle : leT (convL f b) (servedL f b m) with
      | false =>
        have HL := Lib.hid hle
        clear hle
        go_wp2_with fail
        refine (served_any A_f (n_f) c_f (f) A_b (n_f) c_b (b) A_m (n_m) c_m (m) _ (s_f) (s_b) (s_m) (by omega) (by omega) (by omega) C_f.out C_b.out rfl (servedL f b m) (false) (n_f) (by rw [← HL.out]; exact SV.out) (C_d.out.len)).mono ?_
        rintro e w19 ⟨A_d, c_d, rfl, s_d, l_d, bb19⟩
        have b19 := belLit0 b15 bb19
        replace s_f := slLit0 s_f bb19
        replace s_l := slLit0 s_l bb19
        replace s_b := slLit0 s_b bb19
        replace s_m := slLit0 s_m bb19
        clear b15 bb19
        rcases delayR_ex n_f l b with ⟨n, q1, q2, q3, q4⟩ | ⟨q1, q2⟩
        · have Q4 := Lib.hid q4
          have Q2 := Lib.hid q2
          clear q2 q3 q4
          go_wp2_with fail
          refine (delay_any A_l (n_f) c_l (l) A_b (n_f) c_b (b) _ (s_l) (s_b) (by omega) (by omega) C_l.out C_b.out rfl ((n : Int)) (0) (Q4.out)).mono ?_
          rintro e w20 ⟨rfl, bb20⟩
          have b20 := belLit0 b19 bb20
          replace s_f := slLit0 s_f bb20
          replace s_l := slLit0 s_l bb20
          replace s_b := slLit0 s_b bb20
          replace s_m := slLit0 s_m bb20
          replace s_d := slLit0 s_d bb20
          clear b19 bb20
          clear s_f s_l s_b s_m s_d
          go_wp2_with fail
          go_ret
          exact ⟨rfl, b20⟩
        · have Q4 := Lib.hid q2
          clear q1 q2
          go_wp2_with fail
          refine (delay_any A_l (n_f) c_l (l) A_b (n_f) c_b (b) _ (s_l) (s_b) (by omega) (by omega) C_l.out C_b.out rfl (0) (5) (Q4.out)).mono ?_
          rintro e w21 ⟨rfl, bb21⟩
          have b21 := belLit0 b19 bb21
          replace s_f := slLit0 s_f bb21
          replace s_l := slLit0 s_l bb21
          replace s_b := slLit0 s_b bb21
          replace s_m := slLit0 s_m bb21
          replace s_d := slLit0 s_d bb21
          clear b19 bb21
          clear s_f s_l s_b s_m s_d
          go_wp2_with fail
          go_ret
          exact ⟨rfl, b21⟩
      | true =>
        have HL := Lib.hid hle
        clear hle
        go_wp2_with fail
        refine (served_any A_f (n_f) c_f (f) A_b (n_f) c_b (b) A_m (n_m) c_m (m) _ (s_f) (s_b) (s_m) (by omega) (by omega) (by omega) C_f.out C_b.out rfl (servedL f b m) (true) (n_f) (by rw [← HL.out]; exact SV.out) (C_d.out.len)).mono ?_
        rintro e w22 ⟨A_d, c_d, rfl, s_d, l_d, bb22⟩
        have b22 := belLit0 b15 bb22
        replace s_f := slLit0 s_f bb22
        replace s_l := slLit0 s_l bb22
        replace s_b := slLit0 s_b bb22
        replace s_m := slLit0 s_m bb22
        clear b15 bb22
        rcases delayR_ex n_f l b with ⟨n, q1, q2, q3, q4⟩ | ⟨q1, q2⟩
        · have Q4 := Lib.hid q4
          have Q2 := Lib.hid q2
          clear q2 q3 q4
          go_wp2_with fail
          refine (delay_any A_l (n_f) c_l (l) A_b (n_f) c_b (b) _ (s_l) (s_b) (by omega) (by omega) C_l.out C_b.out rfl ((n : Int)) (0) (Q4.out)).mono ?_
          rintro e w23 ⟨rfl, bb23⟩
          have b23 := belLit0 b22 bb23
          replace s_f := slLit0 s_f bb23
          replace s_l := slLit0 s_l bb23
          replace s_b := slLit0 s_b bb23
          replace s_m := slLit0 s_m bb23
          replace s_d := slLit0 s_d bb23
          clear b22 bb23
          clear s_f s_l s_b s_m s_d
          go_wp2_with fail
          go_ret
          exact ⟨rfl, b23⟩
        · have Q4 := Lib.hid q2
          clear q1 q2
          go_wp2_with fail
          refine (delay_any A_l (n_f) c_l (l) A_b (n_f) c_b (b) _ (s_l) (s_b) (by omega) (by omega) C_l.out C_b.out rfl (0) (5) (Q4.out)).mono ?_
          rintro e w24 ⟨rfl, bb24⟩
          have b24 := belLit0 b22 bb24
          replace s_f := slLit0 s_f bb24
          replace s_l := slLit0 s_l bb24
          replace s_b := slLit0 s_b bb24
          replace s_m := slLit0 s_m bb24
          replace s_d := slLit0 s_d bb24
          clear b22 bb24
          clear s_f s_l s_b s_m s_d
          go_wp2_with fail
          go_ret
          exact ⟨rfl, b24⟩
end Go.Proofs.Ytgenfiokplmgoaa
