/- PlanRoom: the computed backlog can be cleared in time, and one more cannot. -/
import Derived.Test.YtbadhngjkjoiiaaPlanA
import Derived.Test.YtbadhngjkjoiiaaLawKit
set_option linter.unusedVariables false
namespace Go.Proofs.Ytbadhngjkjoiiaa
open Go.RowKit
theorem room_lit {f : List Int} {r : Int} {d : Nat} {v er : Int} (h : roomV f r d = (v, er)) : roomV f r d = (v, er) := h
set_option maxRecDepth 100000 in
set_option maxHeartbeats 3200000 in
theorem planRoom_walk (A_f : Option Addr) (n_f c_f : Nat) (f : List Int) (r : Int) (d : Int) (W : World) (w_f : InInts W A_f n_f c_f f) (w_r : -9223372036854775808 ≤ r ∧ r ≤ 9223372036854775807) (w_d : -9223372036854775808 ≤ d ∧ d ≤ 9223372036854775807) :
    Calls Try.prog 6 #[.slice A_f n_f c_f, .int .i64 r, .int .i64 d] W fun e w' => e = .returned (.bool true) ∧ Below W.heap.size W w' := by
  obtain ⟨s_f, l_f, r_f, _⟩ := w_f
  have b0 := Below.refl W.heap.size W
  go_enter Try.func6, Try.ntmps6
  go_wp2_with fail
  refine (room_any _ 4 _ [0, 3, 4, 5] (3) (3) _ (Sl.built_ _ (ints [0, 3, 4, 5]) 3 _ rfl rfl) (by omega) (isC_iff.2 ⟨by decide +kernel, rfl⟩) (by omega) (by omega) (by omega) (by omega) (4) (0) (by decide +kernel)).mono ?_
  rintro e w1 ⟨rfl, bb1⟩
  have b1 := belLit1 b0 bb1
  replace s_f := slLit1 s_f bb1
  clear b0 bb1
  have hl_f := s_f.int_len
  by_cases hok : planE n_f f d = 0
  case neg =>
    have HE : Hid (planE n_f f d ≠ 0) := hok
    have hne : (planE n_f f d != 0) = true := by simpa using hok
    clear hok hl_f
    go_wp2_with fail
    refine (room_bad A_f (n_f) c_f (f) (r) (d) _ (s_f) (by omega) HE.out (0) (planE n_f f d) (rfl)).mono ?_
    rintro e w2 ⟨rfl, bb2⟩
    have b2 := belLit0 b1 bb2
    replace s_f := slLit0 s_f bb2
    clear b1 bb2
    clear s_f
    go_wp2_with fail
    go_ret
    exact ⟨rfl, b2⟩
  have HE := Lib.hid hok
  by_cases hr : r < 0 ∨ 10000 < r
  case pos =>
    have HR := Lib.hid hr
    clear hr hok hl_f
    go_wp2_with fail
    refine (room_arg A_f (n_f) c_f (f) (r) (d) _ (s_f) (by omega) HE.out HR.out (0) (1) (rfl)).mono ?_
    rintro e w3 ⟨rfl, bb3⟩
    have b3 := belLit0 b1 bb3
    replace s_f := slLit0 s_f bb3
    clear b1 bb3
    clear s_f
    go_wp2_with fail
    go_ret
    exact ⟨rfl, b3⟩
  obtain ⟨h1, d0, d1⟩ := planE_ok hok
  have cf := isC_of h1
  rw [hl_f] at cf
  have C_f := Lib.hid cf
  have t_f := cf.top
  clear cf hl_f h1 hok
  have r0 : 0 ≤ r := by omega
  have r1 : r ≤ 10000 := by omega
  clear hr
  obtain ⟨k, rfl⟩ := Int.eq_ofNat_of_zero_le d0
  have hk : k < n_f := by omega
  obtain ⟨v, hv⟩ : ∃ v, rm (gi f) r (k + 1) = v := ⟨_, rfl⟩
  have V := Lib.hid hv
  have vb := rm_bd r0 r1 C_f.out (k := k + 1) (by omega)
  rw [hv] at vb
  clear hv
  by_cases hneg : v < 0
  case pos =>
    have RV : Hid (roomV f r k = (0, 5)) := by show _ = _; unfold roomV; rw [V.out, if_pos hneg]
    go_wp2_with fail
    refine (room_any A_f (n_f) c_f (f) (r) ((k : Int)) _ (s_f) (by omega) C_f.out r0 r1 (by omega) d1 (0) (5) (RV.out)).mono ?_
    rintro e w4 ⟨rfl, bb4⟩
    have b4 := belLit0 b1 bb4
    replace s_f := slLit0 s_f bb4
    clear b1 bb4
    clear s_f
    go_wp2_with fail
    go_ret
    exact ⟨rfl, b4⟩
  have RV : Hid (roomV f r k = (v, 0)) := by show _ = _; unfold roomV; rw [V.out, if_neg hneg]
  go_wp2_with fail
  refine (room_any A_f (n_f) c_f (f) (r) ((k : Int)) _ (s_f) (by omega) C_f.out r0 r1 (by omega) d1 (v) (0) (RV.out)).mono ?_
  rintro e w5 ⟨rfl, bb5⟩
  have b5 := belLit0 b1 bb5
  replace s_f := slLit0 s_f bb5
  clear b1 bb5
  have vlt : ¬ (1000000 ≤ v) := by omega
  have ro : rateOk r v := ⟨r0, r1, by omega, by omega⟩
  have ro2 : rateOk r (v + 1) := ⟨r0, r1, by omega, by omega⟩
  have R1 := Lib.hid ro
  have R2 := Lib.hid ro2
  clear ro ro2
  obtain ⟨t, t1, t2⟩ : ∃ t, t < k + 1 ∧ v = r * t - gi f t := by
    rcases rm_ex (gi f) r (k + 1) with e | ⟨t, h1, e⟩
    · rw [V.out] at e; omega
    · exact ⟨t, h1, by rw [← V.out, e]⟩
  have P1 : Hid (boundP f r v t) := by show boundP f r v t; unfold boundP; omega
  have P2 : Hid (∀ j, j < k + 1 → ¬ boundP f r (v + 1) j) := by
    show ∀ j, j < k + 1 → ¬ boundP f r (v + 1) j
    intro j hj h
    unfold boundP at h
    have := le_rm (gi f) r hj
    rw [V.out] at this
    omega
  clear t2
  rcases boundR_ex n_f f r v with ⟨x, q1, q2, q3, q4⟩ | ⟨q1, q2⟩
  · have xk : x ≤ t := by
      rcases Nat.lt_or_ge t x with h | h
      · exact absurd P1.out (q3 t h)
      · exact h
    have xk2 : (x : Int) ≤ k := by omega
    have Q4 := Lib.hid q4
    clear q2 q3 q4 xk
    go_wp2_with fail
    refine (bound_any A_f (n_f) c_f (f) (r) (v) _ (s_f) (by omega) C_f.out R1.out ((x : Int)) (0) (Q4.out)).mono ?_
    rintro e w6 ⟨rfl, bb6⟩
    have b6 := belLit0 b5 bb6
    replace s_f := slLit0 s_f bb6
    clear b5 bb6
    rcases boundR_ex n_f f r (v + 1) with ⟨y, p1, p2, p3, p4⟩ | ⟨p1, p2⟩
    · have yk : (k : Int) < y := by
        rcases Nat.lt_or_ge k y with h | h
        · omega
        · exact absurd p2 (P2.out y (by omega))
      have P4 := Lib.hid p4
      clear p2 p3 p4
      go_wp2_with fail
      refine (bound_any A_f (n_f) c_f (f) (r) (v + 1) _ (s_f) (by omega) C_f.out R2.out ((y : Int)) (0) (P4.out)).mono ?_
      rintro e w7 ⟨rfl, bb7⟩
      have b7 := belLit0 b6 bb7
      replace s_f := slLit0 s_f bb7
      clear b6 bb7
      clear s_f
      go_wp2_with fail
      go_ret
      exact ⟨rfl, b7⟩
    · have P4 := Lib.hid p2
      clear p1 p2
      go_wp2_with fail
      refine (bound_any A_f (n_f) c_f (f) (r) (v + 1) _ (s_f) (by omega) C_f.out R2.out (0) (5) (P4.out)).mono ?_
      rintro e w8 ⟨rfl, bb8⟩
      have b8 := belLit0 b6 bb8
      replace s_f := slLit0 s_f bb8
      clear b6 bb8
      clear s_f
      go_wp2_with fail
      go_ret
      exact ⟨rfl, b8⟩
  · exact absurd P1.out (q1 t (by omega))
end Go.Proofs.Ytbadhngjkjoiiaa
