/- PlanLeast: the computed rate suffices, and one less does not. -/
import Derived.Test.YtbadhngjkjoiiaaPlanA
import Derived.Test.YtbadhngjkjoiiaaLawKit
set_option linter.unusedVariables false
namespace Go.Proofs.Ytbadhngjkjoiiaa
open Go.RowKit
set_option maxRecDepth 100000 in
set_option maxHeartbeats 3200000 in
theorem planLeast_walk (A_f : Option Addr) (n_f c_f : Nat) (f : List Int) (g : Int) (d : Int) (W : World) (w_f : InInts W A_f n_f c_f f) (w_g : -9223372036854775808 ≤ g ∧ g ≤ 9223372036854775807) (w_d : -9223372036854775808 ≤ d ∧ d ≤ 9223372036854775807) :
    Calls Try.prog 8 #[.slice A_f n_f c_f, .int .i64 g, .int .i64 d] W fun e w' => e = .returned (.bool true) ∧ Below W.heap.size W w' := by
  obtain ⟨s_f, l_f, r_f, _⟩ := w_f
  have b0 := Below.refl W.heap.size W
  go_enter Try.func8, Try.ntmps8
  go_wp2_with fail
  refine (rate_any _ 4 _ [0, 3, 4, 5] (4) (3) _ (Sl.built_ _ (ints [0, 3, 4, 5]) 3 _ rfl rfl) (by omega) (isC_iff.2 ⟨by decide +kernel, rfl⟩) (by omega) (by omega) (by omega) (by omega) (3) (0) (by decide +kernel)).mono ?_
  rintro e w1 ⟨rfl, bb1⟩
  have b1 := belLit1 b0 bb1
  replace s_f := slLit1 s_f bb1
  clear b0 bb1
  have hl_f := s_f.int_len
  by_cases hok : planE n_f f d = 0
  case neg =>
    have HE : Hid (planE n_f f d ≠ 0) := hok
    have hne : (planE n_f f d != 0) = true := by simpa using hok
    clear hok hl_f
    go_wp2_with fail
    refine (rate_bad A_f (n_f) c_f (f) (g) (d) _ (s_f) (by omega) HE.out (0) (planE n_f f d) (rfl)).mono ?_
    rintro e w2 ⟨rfl, bb2⟩
    have b2 := belLit0 b1 bb2
    replace s_f := slLit0 s_f bb2
    clear b1 bb2
    clear s_f
    go_wp2_with fail
    go_ret
    exact ⟨rfl, b2⟩
  have HE := Lib.hid hok
  by_cases hr : g < 0 ∨ 1000000 < g
  case pos =>
    have HR := Lib.hid hr
    clear hr hok hl_f
    go_wp2_with fail
    refine (rate_arg A_f (n_f) c_f (f) (g) (d) _ (s_f) (by omega) HE.out HR.out (0) (1) (rfl)).mono ?_
    rintro e w3 ⟨rfl, bb3⟩
    have b3 := belLit0 b1 bb3
    replace s_f := slLit0 s_f bb3
    clear b1 bb3
    clear s_f
    go_wp2_with fail
    go_ret
    exact ⟨rfl, b3⟩
  obtain ⟨h1, d0, d1⟩ := planE_ok hok
  have cf := isC_of h1
  rw [hl_f] at cf
  have C_f := Lib.hid cf
  have t_f := cf.top
  have u_f := cf.pos
  clear cf hl_f h1 hok
  have g0 : 0 ≤ g := by omega
  have g1 : g ≤ 1000000 := by omega
  clear hr
  obtain ⟨k, rfl⟩ := Int.eq_ofNat_of_zero_le d0
  have hk : k < n_f := by omega
  by_cases h0 : g + gi f 0 = 0
  case pos =>
    have RV : Hid (rateV f g k = (0, 0)) := by show _ = _; unfold rateV; rw [if_pos h0]
    have R1 : Hid (rateOk 0 g) := ⟨by omega, by omega, g0, g1⟩
    have P1 : Hid (boundP f 0 g 0) := by show boundP f 0 g 0; unfold boundP; omega
    clear h0
    go_wp2_with fail
    refine (rate_any A_f (n_f) c_f (f) (g) ((k : Int)) _ (s_f) (by omega) C_f.out g0 g1 (by omega) d1 (0) (0) (RV.out)).mono ?_
    rintro e w4 ⟨rfl, bb4⟩
    have b4 := belLit0 b1 bb4
    replace s_f := slLit0 s_f bb4
    clear b1 bb4
    rcases boundR_ex n_f f 0 g with ⟨x, q1, q2, q3, q4⟩ | ⟨q1, q2⟩
    · have xk : x ≤ 0 := by
        rcases Nat.lt_or_ge 0 x with h | h
        · exact absurd P1.out (q3 _ h)
        · exact h
      have xk2 : (x : Int) ≤ k := by omega
      have Q4 := Lib.hid q4
      clear q2 q3 q4 xk
      go_wp2_with fail
      refine (bound_any A_f (n_f) c_f (f) (0) (g) _ (s_f) (by omega) C_f.out R1.out ((x : Int)) (0) (Q4.out)).mono ?_
      rintro e w5 ⟨rfl, bb5⟩
      have b5 := belLit0 b4 bb5
      replace s_f := slLit0 s_f bb5
      clear b4 bb5
      clear s_f
      go_wp2_with fail
      go_ret
      exact ⟨rfl, b5⟩
    · exact absurd P1.out (q1 _ (by omega))
  obtain ⟨v, hv⟩ : ∃ v, rb (gi f) g k = v := ⟨_, rfl⟩
  have V := Lib.hid hv
  obtain ⟨i0, i1, i2, i3⟩ := rb_spec g0 C_f.out.lo k hk
  rw [hv] at i0 i1 i2 i3
  clear hv
  by_cases hneg : v < 0 ∨ 10000 < v
  case pos =>
    have RV : Hid (rateV f g k = (0, 5)) := by show _ = _; unfold rateV; rw [if_neg h0, V.out, if_pos hneg]
    clear i0 i1 i2 i3 h0 hneg
    go_wp2_with fail
    refine (rate_any A_f (n_f) c_f (f) (g) ((k : Int)) _ (s_f) (by omega) C_f.out g0 g1 (by omega) d1 (0) (5) (RV.out)).mono ?_
    rintro e w6 ⟨rfl, bb6⟩
    have b6 := belLit0 b1 bb6
    replace s_f := slLit0 s_f bb6
    clear b1 bb6
    clear s_f
    go_wp2_with fail
    go_ret
    exact ⟨rfl, b6⟩
  have RV : Hid (rateV f g k = (v, 0)) := by show _ = _; unfold rateV; rw [if_neg h0, V.out, if_neg hneg]
  have v0 : 0 ≤ v := by omega
  have v1 : v ≤ 10000 := by omega
  have kp : 0 < k := by
    rcases Nat.eq_zero_or_pos k with h | h
    · have := i0 h; omega
    · exact h
  obtain ⟨t, t1, t2, t3⟩ := i3 kp
  have R1 : Hid (rateOk v g) := ⟨v0, v1, g0, g1⟩
  have P1 : Hid (boundP f v g t) := (rt_le t1).1 (by omega)
  have P2 : Hid (0 < v → ∀ j, j < k + 1 → ¬ boundP f (v - 1) g j) := by
    show 0 < v → ∀ j, j < k + 1 → ¬ boundP f (v - 1) g j
    intro hv j hj h
    rcases Nat.eq_zero_or_pos j with rfl | hj0
    · unfold boundP at h
      have := C_f.out.lo 0 u_f
      rw [show (v - 1) * ((0 : Nat) : Int) = 0 by simp] at h
      omega
    · have a := (rt_le hj0).2 h
      have b := i2 j hj0 (by omega)
      omega
  clear i0 i1 i2 i3 h0 hneg t3
  go_wp2_with fail
  refine (rate_any A_f (n_f) c_f (f) (g) ((k : Int)) _ (s_f) (by omega) C_f.out g0 g1 (by omega) d1 (v) (0) (RV.out)).mono ?_
  rintro e w7 ⟨rfl, bb7⟩
  have b7 := belLit0 b1 bb7
  replace s_f := slLit0 s_f bb7
  clear b1 bb7
  rcases boundR_ex n_f f v g with ⟨x, q1, q2, q3, q4⟩ | ⟨q1, q2⟩
  · have xk : x ≤ t := by
      rcases Nat.lt_or_ge t x with h | h
      · exact absurd P1.out (q3 _ h)
      · exact h
    have xk2 : (x : Int) ≤ k := by omega
    have Q4 := Lib.hid q4
    clear q2 q3 q4 xk
    go_wp2_with fail
    refine (bound_any A_f (n_f) c_f (f) (v) (g) _ (s_f) (by omega) C_f.out R1.out ((x : Int)) (0) (Q4.out)).mono ?_
    rintro e w8 ⟨rfl, bb8⟩
    have b8 := belLit0 b7 bb8
    replace s_f := slLit0 s_f bb8
    clear b7 bb8
    by_cases hv0 : v = 0
    ·
      have z : (v == 0) = true := by simp; omega
      clear hv0
      clear s_f
      go_wp2_with fail
      go_ret
      exact ⟨rfl, b8⟩
    · have z : (v == 0) = false := by simp; omega
      have vp : 0 < v := by omega
      have P3 := Lib.hid (P2.out vp)
      have R2 : Hid (rateOk (v - 1) g) := ⟨by omega, by omega, g0, g1⟩
      clear hv0
      rcases boundR_ex n_f f (v - 1) g with ⟨y, p1, p2, p3, p4⟩ | ⟨p1, p2⟩
      · have yk : (k : Int) < y := by
          rcases Nat.lt_or_ge k y with h | h
          · omega
          · exact absurd p2 (P3.out y (by omega))
        have P4 := Lib.hid p4
        clear p2 p3 p4
        go_wp2_with fail
        refine (bound_any A_f (n_f) c_f (f) (v - 1) (g) _ (s_f) (by omega) C_f.out R2.out ((y : Int)) (0) (P4.out)).mono ?_
        rintro e w9 ⟨rfl, bb9⟩
        have b9 := belLit0 b8 bb9
        replace s_f := slLit0 s_f bb9
        clear b8 bb9
        clear s_f
        go_wp2_with fail
        go_ret
        exact ⟨rfl, b9⟩
      · have P4 := Lib.hid p2
        clear p1 p2
        go_wp2_with fail
        refine (bound_any A_f (n_f) c_f (f) (v - 1) (g) _ (s_f) (by omega) C_f.out R2.out (0) (5) (P4.out)).mono ?_
        rintro e w10 ⟨rfl, bb10⟩
        have b10 := belLit0 b8 bb10
        replace s_f := slLit0 s_f bb10
        clear b8 bb10
        clear s_f
        go_wp2_with fail
        go_ret
        exact ⟨rfl, b10⟩
  · exact absurd P1.out (q1 _ (by omega))
end Go.Proofs.Ytbadhngjkjoiiaa
