/- BoundNone: backlog and delay are zero exactly if arrivals never exceed departures. -/
import Derived.Test.YtmdoecegmdkigaaBoundA
import Derived.Test.YtmdoecegmdkigaaLawKit
set_option linter.unusedVariables false
namespace Go.Proofs.Ytmdoecegmdkigaa
open Go.RowKit
theorem back_zero {n : Nat} {a b : List Int} (ha : IsC n a) (hb : IsC n b) : (top (fun i => gi a i - gi b i) n == 0) = leT a b := by
  rw [Bool.eq_iff_iff, beq_iff_eq, leT_iff ha hb]
  constructor
  · intro h i hi
    have h2 : gi a i - gi b i ≤ top (fun i => gi a i - gi b i) n := le_top (fun i => gi a i - gi b i) hi
    omega
  · intro h
    exact Int.le_antisymm (top_le (Int.le_refl _) fun i hi => by have := h i hi; omega) (top_nonneg _ _)
theorem by_zero {n : Nat} {a b : List Int} (ha : IsC n a) (hb : IsC n b) : byP n a b 0 ↔ leT a b = true := by
  rw [leT_iff ha hb]
  exact Iff.rfl
set_option maxRecDepth 100000 in
set_option maxHeartbeats 3200000 in
theorem boundNone_walk (A_a : Option Addr) (n_a c_a : Nat) (a : List Int) (A_b : Option Addr) (n_b c_b : Nat) (b : List Int) (W : World) (w_a : InInts W A_a n_a c_a a) (w_b : InInts W A_b n_b c_b b) :
    Calls Try.prog 9 #[.slice A_a n_a c_a, .slice A_b n_b c_b] W fun e w' => e = .returned (.bool true) ∧ Below W.heap.size W w' := by
  obtain ⟨s_a, l_a, r_a, _⟩ := w_a
  obtain ⟨s_b, l_b, r_b, _⟩ := w_b
  have b0 := Below.refl W.heap.size W
  go_enter Try.func9, Try.ntmps9
  go_wp2_with fail
  refine (delay_any _ 2 _ [0, 3] _ 2 _ [0, 3] _ (slMore (Sl.built_ _ (ints [0, 3]) 3 _ rfl rfl) _) (Sl.built_ _ (ints [0, 3]) 3 _ (by simp) rfl) (by omega) (by omega) (isC_iff.2 ⟨by decide +kernel, rfl⟩) (isC_iff.2 ⟨by decide +kernel, rfl⟩) rfl (0) (0) (.inl ⟨0, by omega, by unfold byP; decide, by omega, rfl, rfl⟩)).mono ?_
  rintro e w1 ⟨rfl, bb1⟩
  have b1 := belLit2 b0 bb1
  replace s_a := slLit2 s_a bb1
  replace s_b := slLit2 s_b bb1
  clear b0 bb1
  go_wp2_with fail
  refine (back_any _ 2 _ [0, 4] _ 2 _ [0, 3] _ (slMore (Sl.built_ _ (ints [0, 4]) 3 _ rfl rfl) _) (Sl.built_ _ (ints [0, 3]) 3 _ (by simp) rfl) (by omega) (by omega) (isC_iff.2 ⟨by decide +kernel, rfl⟩) (isC_iff.2 ⟨by decide +kernel, rfl⟩) rfl (1) (0) (by decide)).mono ?_
  rintro e w2 ⟨rfl, bb2⟩
  have b2 := belLit2 b1 bb2
  replace s_a := slLit2 s_a bb2
  replace s_b := slLit2 s_b bb2
  clear b1 bb2
  have hl_a := s_a.int_len
  have hl_b := s_b.int_len
  by_cases hok : bothB a b = true
  case neg =>
    have HOK := Lib.hid (Bool.eq_false_iff.2 hok)
    clear hok hl_a hl_b
    go_wp2_with fail
    refine (hboth_t A_a n_a c_a (a) A_b n_b c_b (b) _ (s_a) (s_b) (by omega) (by omega)  (false) (HOK.out)).mono ?_
    rintro e w3 ⟨rfl, bb3⟩
    have b3 := belLit0 b2 bb3
    replace s_a := slLit0 s_a bb3
    replace s_b := slLit0 s_b bb3
    clear b2 bb3
    clear s_a s_b
    go_wp2_with fail
    go_ret
    exact ⟨rfl, b3⟩
  obtain ⟨e1, c_1, c_2⟩ := both_C hok hl_a hl_b
  subst e1
  have HOK := Lib.hid hok
  have C_a := Lib.hid c_1
  have t_a := c_1.top
  have C_b := Lib.hid c_2
  have t_b := c_2.top
  clear hok c_1 c_2 hl_a hl_b
  go_wp2_with fail
  refine (hboth_t A_a n_a c_a (a) A_b n_a c_b (b) _ (s_a) (s_b) (by omega) (by omega)  (true) (HOK.out)).mono ?_
  rintro e w4 ⟨rfl, bb4⟩
  have b4 := belLit0 b2 bb4
  replace s_a := slLit0 s_a bb4
  replace s_b := slLit0 s_b bb4
  clear b2 bb4
  obtain ⟨n, hv_n⟩ : ∃ z, top (fun i => gi a i - gi b i) n_a = z := ⟨_, rfl⟩
  have V_n := Lib.hid hv_n
  clear hv_n
  have BZ := back_zero C_a.out C_b.out
  rw [V_n.out] at BZ
  by_cases h1 : leT a b = true
  · have H1 := Lib.hid h1
    clear h1
    rw [H1.out] at BZ
    rcases delayR_ex n_a a b with ⟨d, k1, k2, k3, k4⟩ | ⟨k1, k2⟩
    ·
      have hd0 : d = 0 := by
        rcases Nat.eq_zero_or_pos d with h | h
        · exact h
        · exact absurd ((by_zero C_a.out C_b.out).2 H1.out) (k3 0 h)
      subst hd0
      have K4 := Lib.hid k4
      clear k2 k3 k4
      go_wp2_with fail
      refine (back_any A_a n_a c_a (a) A_b n_a c_b (b) _ (s_a) (s_b) (by omega) (by omega) C_a.out C_b.out rfl (n) (0) (by rw [V_n.out])).mono ?_
      rintro e w5 ⟨rfl, bb5⟩
      have b5 := belLit0 b4 bb5
      replace s_a := slLit0 s_a bb5
      replace s_b := slLit0 s_b bb5
      clear b4 bb5
      go_wp2_with fail
      refine (delay_any A_a n_a c_a (a) A_b n_a c_b (b) _ (s_a) (s_b) (by omega) (by omega) C_a.out C_b.out rfl (((0 : Nat) : Int)) (0) (K4.out)).mono ?_
      rintro e w6 ⟨rfl, bb6⟩
      have b6 := belLit0 b5 bb6
      replace s_a := slLit0 s_a bb6
      replace s_b := slLit0 s_b bb6
      clear b5 bb6
      go_wp2_with fail
      refine (hle_t A_a n_a c_a (a) A_b n_a c_b (b) _ (s_a) (s_b) (by omega) (by omega)  (true) (H1.out)).mono ?_
      rintro e w7 ⟨rfl, bb7⟩
      have b7 := belLit0 b6 bb7
      replace s_a := slLit0 s_a bb7
      replace s_b := slLit0 s_b bb7
      clear b6 bb7
      clear s_a s_b
      go_wp2_with fail
      go_ret
      exact ⟨rfl, b7⟩
    ·
      exact absurd ((by_zero C_a.out C_b.out).2 H1.out) (k1 0 C_a.out.pos)
  · have H1 := Lib.hid h1
    clear h1
    have H5 := Lib.hid (Bool.eq_false_iff.2 H1.out)
    rw [H5.out] at BZ
    rcases delayR_ex n_a a b with ⟨d, k1, k2, k3, k4⟩ | ⟨k1, k2⟩
    ·
      have hd0 : 0 < d := by
        rcases Nat.eq_zero_or_pos d with h | h
        · subst h; exact absurd ((by_zero C_a.out C_b.out).1 k2) H1.out
        · exact h
      have hd1 : ((d : Int) == 0) = false := by simp; omega
      have K4 := Lib.hid k4
      clear k2 k3 k4
      go_wp2_with fail
      refine (back_any A_a n_a c_a (a) A_b n_a c_b (b) _ (s_a) (s_b) (by omega) (by omega) C_a.out C_b.out rfl (n) (0) (by rw [V_n.out])).mono ?_
      rintro e w8 ⟨rfl, bb8⟩
      have b8 := belLit0 b4 bb8
      replace s_a := slLit0 s_a bb8
      replace s_b := slLit0 s_b bb8
      clear b4 bb8
      go_wp2_with fail
      refine (delay_any A_a n_a c_a (a) A_b n_a c_b (b) _ (s_a) (s_b) (by omega) (by omega) C_a.out C_b.out rfl (((d : Nat) : Int)) (0) (K4.out)).mono ?_
      rintro e w9 ⟨rfl, bb9⟩
      have b9 := belLit0 b8 bb9
      replace s_a := slLit0 s_a bb9
      replace s_b := slLit0 s_b bb9
      clear b8 bb9
      go_wp2_with fail
      refine (hle_t A_a n_a c_a (a) A_b n_a c_b (b) _ (s_a) (s_b) (by omega) (by omega)  (false) (H5.out)).mono ?_
      rintro e w10 ⟨rfl, bb10⟩
      have b10 := belLit0 b9 bb10
      replace s_a := slLit0 s_a bb10
      replace s_b := slLit0 s_b bb10
      clear b9 bb10
      clear s_a s_b
      go_wp2_with fail
      go_ret
      exact ⟨rfl, b10⟩
    ·
      have K4 := Lib.hid k2
      clear k1 k2
      go_wp2_with fail
      refine (back_any A_a n_a c_a (a) A_b n_a c_b (b) _ (s_a) (s_b) (by omega) (by omega) C_a.out C_b.out rfl (n) (0) (by rw [V_n.out])).mono ?_
      rintro e w11 ⟨rfl, bb11⟩
      have b11 := belLit0 b4 bb11
      replace s_a := slLit0 s_a bb11
      replace s_b := slLit0 s_b bb11
      clear b4 bb11
      go_wp2_with fail
      refine (delay_any A_a n_a c_a (a) A_b n_a c_b (b) _ (s_a) (s_b) (by omega) (by omega) C_a.out C_b.out rfl (0) (5) (K4.out)).mono ?_
      rintro e w12 ⟨rfl, bb12⟩
      have b12 := belLit0 b11 bb12
      replace s_a := slLit0 s_a bb12
      replace s_b := slLit0 s_b bb12
      clear b11 bb12
      go_wp2_with fail
      refine (hle_t A_a n_a c_a (a) A_b n_a c_b (b) _ (s_a) (s_b) (by omega) (by omega)  (false) (H5.out)).mono ?_
      rintro e w13 ⟨rfl, bb13⟩
      have b13 := belLit0 b12 bb13
      replace s_a := slLit0 s_a bb13
      replace s_b := slLit0 s_b bb13
      clear b12 bb13
      clear s_a s_b
      go_wp2_with fail
      go_ret
      exact ⟨rfl, b13⟩
end Go.Proofs.Ytmdoecegmdkigaa
