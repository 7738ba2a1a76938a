/- BoundGrows: backlog and delay are monotonic in the arrivals and antitonic in the service. -/
import Derived.Test.YtmdoecegmdkigaaBoundA
import Derived.Test.YtmdoecegmdkigaaLawKit
set_option linter.unusedVariables false
namespace Go.Proofs.Ytmdoecegmdkigaa
open Go.RowKit
theorem top_mono {u v : Nat → Int} {n : Nat} (h : ∀ i, i < n → u i ≤ v i) : top u n ≤ top v n :=
  top_le (top_nonneg _ _) fun i hi => by have := h i hi; have := le_top v hi; omega
theorem by_mono {n : Nat} {a c b : List Int} (h : ∀ i, i < n → gi a i ≤ gi c i) {d : Nat} (k : byP n c b d) : byP n a b d := fun t ht => by have := k t ht; have := h t (by omega); omega
set_option maxRecDepth 100000 in
set_option maxHeartbeats 3200000 in
theorem boundGrows_walk (A_a : Option Addr) (n_a c_a : Nat) (a : List Int) (A_c : Option Addr) (n_c c_c : Nat) (c : List Int) (A_b : Option Addr) (n_b c_b : Nat) (b : List Int) (W : World) (w_a : InInts W A_a n_a c_a a) (w_c : InInts W A_c n_c c_c c) (w_b : InInts W A_b n_b c_b b) :
    Calls Try.prog 8 #[.slice A_a n_a c_a, .slice A_c n_c c_c, .slice A_b n_b c_b] W fun e w' => e = .returned (.bool true) ∧ Below W.heap.size W w' := by
  obtain ⟨s_a, l_a, r_a, _⟩ := w_a
  obtain ⟨s_c, l_c, r_c, _⟩ := w_c
  obtain ⟨s_b, l_b, r_b, _⟩ := w_b
  have b0 := Below.refl W.heap.size W
  go_enter Try.func8, Try.ntmps8
  go_wp2_with fail
  refine (delay_any _ 2 _ [1, 1] _ 2 _ [0, 0] _ (slMore (Sl.built_ _ (ints [1, 1]) 3 _ rfl rfl) _) (Sl.built_ _ (ints [0, 0]) 3 _ (by simp) rfl) (by omega) (by omega) (isC_iff.2 ⟨by decide +kernel, rfl⟩) (isC_iff.2 ⟨by decide +kernel, rfl⟩) rfl (0) (5) (.inr ⟨by unfold byP; decide, rfl, rfl⟩)).mono ?_
  rintro e w1 ⟨rfl, bb1⟩
  have b1 := belLit2 b0 bb1
  replace s_a := slLit2 s_a bb1
  replace s_c := slLit2 s_c bb1
  replace s_b := slLit2 s_b bb1
  clear b0 bb1
  go_wp2_with fail
  refine (back_any _ 2 _ [1, 1] _ 2 _ [0, 0] _ (slMore (Sl.built_ _ (ints [1, 1]) 3 _ rfl rfl) _) (Sl.built_ _ (ints [0, 0]) 3 _ (by simp) rfl) (by omega) (by omega) (isC_iff.2 ⟨by decide +kernel, rfl⟩) (isC_iff.2 ⟨by decide +kernel, rfl⟩) rfl (1) (0) (by decide)).mono ?_
  rintro e w2 ⟨rfl, bb2⟩
  have b2 := belLit2 b1 bb2
  replace s_a := slLit2 s_a bb2
  replace s_c := slLit2 s_c bb2
  replace s_b := slLit2 s_b bb2
  clear b1 bb2
  have hl_a := s_a.int_len
  have hl_c := s_c.int_len
  have hl_b := s_b.int_len
  by_cases hok : (bothB a c && bothB c b) = true
  case neg =>
    have HOK := Lib.hid (Bool.eq_false_iff.2 hok)
    clear hok hl_a hl_c hl_b
    go_wp2_with fail
    refine (hthree_t A_a n_a c_a (a) A_c n_c c_c (c) A_b n_b c_b (b) _ (s_a) (s_c) (s_b) (by omega) (by omega) (by omega)  (false) (HOK.out)).mono ?_
    rintro e w3 ⟨rfl, bb3⟩
    have b3 := belLit0 b2 bb3
    replace s_a := slLit0 s_a bb3
    replace s_c := slLit0 s_c bb3
    replace s_b := slLit0 s_b bb3
    clear b2 bb3
    clear s_a s_c s_b
    go_wp2_with fail
    go_ret
    exact ⟨rfl, b3⟩
  obtain ⟨e1, e2, c_1, c_2, c_3⟩ := three_C hok hl_a hl_c hl_b
  subst e1 e2
  have HOK := Lib.hid hok
  have C_a := Lib.hid c_1
  have t_a := c_1.top
  have C_c := Lib.hid c_2
  have t_c := c_2.top
  have C_b := Lib.hid c_3
  have t_b := c_3.top
  clear hok c_1 c_2 c_3 hl_a hl_c hl_b
  go_wp2_with fail
  refine (hthree_t A_a n_a c_a (a) A_c n_a c_c (c) A_b n_a c_b (b) _ (s_a) (s_c) (s_b) (by omega) (by omega) (by omega)  (true) (HOK.out)).mono ?_
  rintro e w4 ⟨rfl, bb4⟩
  have b4 := belLit0 b2 bb4
  replace s_a := slLit0 s_a bb4
  replace s_c := slLit0 s_c bb4
  replace s_b := slLit0 s_b bb4
  clear b2 bb4
  by_cases h1 : leT a c = true
  · have H1 := Lib.hid h1
    clear h1
    go_wp2_with fail
    refine (hle_t A_a n_a c_a (a) A_c n_a c_c (c) _ (s_a) (s_c) (by omega) (by omega)  (true) (H1.out)).mono ?_
    rintro e w5 ⟨rfl, bb5⟩
    have b5 := belLit0 b4 bb5
    replace s_a := slLit0 s_a bb5
    replace s_c := slLit0 s_c bb5
    replace s_b := slLit0 s_b bb5
    clear b4 bb5
    have LE := Lib.hid ((leT_iff C_a.out C_c.out).1 H1.out)
    have x1 := top_mono (u := fun i => gi a i - gi b i) (v := fun i => gi c i - gi b i) (n := n_a) fun i hi => by have := LE.out i hi; omega
    have x2 := top_mono (u := fun i => gi b i - gi c i) (v := fun i => gi b i - gi a i) (n := n_a) fun i hi => by have := LE.out i hi; omega
    obtain ⟨m, hv_m⟩ : ∃ z, top (fun i => gi a i - gi b i) n_a = z := ⟨_, rfl⟩
    have V_m := Lib.hid hv_m
    clear hv_m
    obtain ⟨n, hv_n⟩ : ∃ z, top (fun i => gi c i - gi b i) n_a = z := ⟨_, rfl⟩
    have V_n := Lib.hid hv_n
    clear hv_n
    obtain ⟨p, hv_p⟩ : ∃ z, top (fun i => gi b i - gi c i) n_a = z := ⟨_, rfl⟩
    have V_p := Lib.hid hv_p
    clear hv_p
    obtain ⟨q, hv_q⟩ : ∃ z, top (fun i => gi b i - gi a i) n_a = z := ⟨_, rfl⟩
    have V_q := Lib.hid hv_q
    clear hv_q
    rw [V_m.out, V_n.out] at x1
    rw [V_p.out, V_q.out] at x2
    go_wp2_with fail
    refine (back_any A_a n_a c_a (a) A_b n_a c_b (b) _ (s_a) (s_b) (by omega) (by omega) C_a.out C_b.out rfl (m) (0) (by rw [V_m.out])).mono ?_
    rintro e w6 ⟨rfl, bb6⟩
    have b6 := belLit0 b5 bb6
    replace s_a := slLit0 s_a bb6
    replace s_c := slLit0 s_c bb6
    replace s_b := slLit0 s_b bb6
    clear b5 bb6
    go_wp2_with fail
    refine (back_any A_c n_a c_c (c) A_b n_a c_b (b) _ (s_c) (s_b) (by omega) (by omega) C_c.out C_b.out rfl (n) (0) (by rw [V_n.out])).mono ?_
    rintro e w7 ⟨rfl, bb7⟩
    have b7 := belLit0 b6 bb7
    replace s_a := slLit0 s_a bb7
    replace s_c := slLit0 s_c bb7
    replace s_b := slLit0 s_b bb7
    clear b6 bb7
    go_wp2_with fail
    refine (back_any A_b n_a c_b (b) A_c n_a c_c (c) _ (s_b) (s_c) (by omega) (by omega) C_b.out C_c.out rfl (p) (0) (by rw [V_p.out])).mono ?_
    rintro e w8 ⟨rfl, bb8⟩
    have b8 := belLit0 b7 bb8
    replace s_a := slLit0 s_a bb8
    replace s_c := slLit0 s_c bb8
    replace s_b := slLit0 s_b bb8
    clear b7 bb8
    go_wp2_with fail
    refine (back_any A_b n_a c_b (b) A_a n_a c_a (a) _ (s_b) (s_a) (by omega) (by omega) C_b.out C_a.out rfl (q) (0) (by rw [V_q.out])).mono ?_
    rintro e w9 ⟨rfl, bb9⟩
    have b9 := belLit0 b8 bb9
    replace s_a := slLit0 s_a bb9
    replace s_c := slLit0 s_c bb9
    replace s_b := slLit0 s_b bb9
    clear b8 bb9
    rcases delayR_ex n_a c b with ⟨x, h1, h2, h3, h4⟩ | ⟨h1, h2⟩
    ·
      have X2 := Lib.hid (by_mono LE.out h2)
      have X4 := Lib.hid h4
      clear h2 h3 h4
      rcases delayR_ex n_a a b with ⟨d, k1, k2, k3, k4⟩ | ⟨k1, k2⟩
      ·
        have hdx : d ≤ x := by
          rcases Nat.lt_or_ge x d with h | h
          · exact absurd X2.out (k3 x h)
          · exact h
        have hdx2 : (d : Int) ≤ x := by omega
        have K4 := Lib.hid k4
        clear k2 k3 k4 hdx
        go_wp2_with fail
        refine (delay_any A_a n_a c_a (a) A_b n_a c_b (b) _ (s_a) (s_b) (by omega) (by omega) C_a.out C_b.out rfl (d) (0) (K4.out)).mono ?_
        rintro e w10 ⟨rfl, bb10⟩
        have b10 := belLit0 b9 bb10
        replace s_a := slLit0 s_a bb10
        replace s_c := slLit0 s_c bb10
        replace s_b := slLit0 s_b bb10
        clear b9 bb10
        go_wp2_with fail
        refine (delay_any A_c n_a c_c (c) A_b n_a c_b (b) _ (s_c) (s_b) (by omega) (by omega) C_c.out C_b.out rfl (x) (0) (X4.out)).mono ?_
        rintro e w11 ⟨rfl, bb11⟩
        have b11 := belLit0 b10 bb11
        replace s_a := slLit0 s_a bb11
        replace s_c := slLit0 s_c bb11
        replace s_b := slLit0 s_b bb11
        clear b10 bb11
        clear s_a s_c s_b
        go_wp2_with fail
        go_ret
        exact ⟨rfl, b11⟩
      · exact absurd X2.out (k1 x h1)
    ·
      have X2 := Lib.hid h2
      clear h1 h2
      rcases delayR_ex n_a a b with ⟨d, k1, k2, k3, k4⟩ | ⟨k1, k2⟩
      ·
        have K4 := Lib.hid k4
        clear k2 k3 k4
        go_wp2_with fail
        refine (delay_any A_a n_a c_a (a) A_b n_a c_b (b) _ (s_a) (s_b) (by omega) (by omega) C_a.out C_b.out rfl (d) (0) (K4.out)).mono ?_
        rintro e w12 ⟨rfl, bb12⟩
        have b12 := belLit0 b9 bb12
        replace s_a := slLit0 s_a bb12
        replace s_c := slLit0 s_c bb12
        replace s_b := slLit0 s_b bb12
        clear b9 bb12
        go_wp2_with fail
        refine (delay_any A_c n_a c_c (c) A_b n_a c_b (b) _ (s_c) (s_b) (by omega) (by omega) C_c.out C_b.out rfl (0) (5) (X2.out)).mono ?_
        rintro e w13 ⟨rfl, bb13⟩
        have b13 := belLit0 b12 bb13
        replace s_a := slLit0 s_a bb13
        replace s_c := slLit0 s_c bb13
        replace s_b := slLit0 s_b bb13
        clear b12 bb13
        clear s_a s_c s_b
        go_wp2_with fail
        go_ret
        exact ⟨rfl, b13⟩
      ·
        have K4 := Lib.hid k2
        clear k1 k2
        go_wp2_with fail
        refine (delay_any A_a n_a c_a (a) A_b n_a c_b (b) _ (s_a) (s_b) (by omega) (by omega) C_a.out C_b.out rfl (0) (5) (K4.out)).mono ?_
        rintro e w14 ⟨rfl, bb14⟩
        have b14 := belLit0 b9 bb14
        replace s_a := slLit0 s_a bb14
        replace s_c := slLit0 s_c bb14
        replace s_b := slLit0 s_b bb14
        clear b9 bb14
        go_wp2_with fail
        refine (delay_any A_c n_a c_c (c) A_b n_a c_b (b) _ (s_c) (s_b) (by omega) (by omega) C_c.out C_b.out rfl (0) (5) (X2.out)).mono ?_
        rintro e w15 ⟨rfl, bb15⟩
        have b15 := belLit0 b14 bb15
        replace s_a := slLit0 s_a bb15
        replace s_c := slLit0 s_c bb15
        replace s_b := slLit0 s_b bb15
        clear b14 bb15
        clear s_a s_c s_b
        go_wp2_with fail
        go_ret
        exact ⟨rfl, b15⟩
  · have H1 := Lib.hid h1
    clear h1
    have H5 := Lib.hid (Bool.eq_false_iff.2 H1.out)
    go_wp2_with fail
    refine (hle_t A_a n_a c_a (a) A_c n_a c_c (c) _ (s_a) (s_c) (by omega) (by omega)  (false) (H5.out)).mono ?_
    rintro e w16 ⟨rfl, bb16⟩
    have b16 := belLit0 b4 bb16
    replace s_a := slLit0 s_a bb16
    replace s_c := slLit0 s_c bb16
    replace s_b := slLit0 s_b bb16
    clear b4 bb16
    clear s_a s_c s_b
    go_wp2_with fail
    go_ret
    exact ⟨rfl, b16⟩
end Go.Proofs.Ytmdoecegmdkigaa
