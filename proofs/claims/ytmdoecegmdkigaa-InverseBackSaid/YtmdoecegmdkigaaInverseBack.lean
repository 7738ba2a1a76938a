/- InverseBack: the pseudo-inverses are attained exactly. -/
import Derived.Test.YtmdoecegmdkigaaInvA
import Derived.Test.YtmdoecegmdkigaaLawKit
set_option linter.unusedVariables false
namespace Go.Proofs.Ytmdoecegmdkigaa
open Go.RowKit
set_option maxRecDepth 100000 in
set_option maxHeartbeats 3200000 in
theorem inverseBack_walk (A_f : Option Addr) (n_f c_f : Nat) (f : List Int) (y : Int) (W : World) (w_f : InInts W A_f n_f c_f f) (w_y : -9223372036854775808 ≤ y ∧ y ≤ 9223372036854775807) :
    Calls Try.prog 6 #[.slice A_f n_f c_f, .int .i64 y] W fun e w' => e = .returned (.bool true) ∧ Below W.heap.size W w' := by
  obtain ⟨s_f, l_f, r_f, _⟩ := w_f
  have b0 := Below.refl W.heap.size W
  go_enter Try.func6, Try.ntmps6
  go_wp2_with fail
  refine (upper_any _ 2 _ [4, 5] (3) _ (Sl.built_ _ (ints [4, 5]) 3 _ rfl rfl) (by omega) (isC_iff.2 ⟨by decide +kernel, rfl⟩) (by omega) (by omega) 0 (firstIs_lit (by omega) (by decide)) ((0 : Int) - 1) (0) (rfl)).mono ?_
  rintro e w1 ⟨rfl, bb1⟩
  have b1 := belLit1 b0 bb1
  replace s_f := slLit1 s_f bb1
  clear b0 bb1
  by_cases hok : lookE f y = 0
  case neg =>
    have HE : Hid (lookE f y ≠ 0) := hok
    have hne : (lookE f y != 0) = true := by simpa using hok
    have hee : (lookE f y == lookE f y) = true := by simp
    clear hok
    go_wp2_with fail
    refine (lower_bad A_f (n_f) c_f (f) (y) _ (s_f) (by omega) HE.out (0) (lookE f y) (rfl)).mono ?_
    rintro e w2 ⟨rfl, bb2⟩
    have b2 := belLit0 b1 bb2
    replace s_f := slLit0 s_f bb2
    clear b1 bb2
    go_wp2_with fail
    refine (upper_bad A_f (n_f) c_f (f) (y) _ (s_f) (by omega) HE.out (0) (lookE f y) (rfl)).mono ?_
    rintro e w3 ⟨rfl, bb3⟩
    have b3 := belLit0 b2 bb3
    replace s_f := slLit0 s_f bb3
    clear b2 bb3
    clear s_f
    go_wp2_with fail
    go_ret
    exact ⟨rfl, b3⟩
  have hl_f := s_f.int_len
  obtain ⟨h1, y0, y1⟩ := lookE_ok hok
  have cf := isC_of h1
  rw [hl_f] at cf
  have C_f := Lib.hid cf
  have t_f := cf.top
  have u_f := cf.pos
  clear cf hl_f h1 hok
  obtain ⟨a, ha⟩ := lower_ex C_f.out y
  obtain ⟨b, hb⟩ := upper_ex C_f.out y
  have A1 := Lib.hid ha
  have B1 := Lib.hid hb
  have hab : a ≤ b := by
    rcases Nat.lt_or_ge b a with h | h
    · have h1 := ha.2.1 b h
      have h2 := hb.2.2 b (Nat.le_refl _) (by have := ha.1; omega)
      have := of_decide_eq_false h1
      have := of_decide_eq_true h2
      omega
    · exact h
  have a9 := ha.1
  have b9 := hb.1
  clear ha hb
  go_wp2_with fail
  refine (lower_any A_f (n_f) c_f (f) (y) _ (s_f) (by omega) C_f.out y0 y1 a A1.out ((a : Int)) (0) (rfl)).mono ?_
  rintro e w4 ⟨rfl, bb4⟩
  have b4 := belLit0 b1 bb4
  replace s_f := slLit0 s_f bb4
  clear b1 bb4
  go_wp2_with fail
  refine (upper_any A_f (n_f) c_f (f) (y) _ (s_f) (by omega) C_f.out y0 y1 b B1.out ((b : Int) - 1) (0) (rfl)).mono ?_
  rintro e w5 ⟨rfl, bb5⟩
  have b5 := belLit0 b4 bb5
  replace s_f := slLit0 s_f bb5
  clear b4 bb5
  obtain ⟨bk, of, eA, -, -⟩ := s_f.int_at (k := 0) u_f
  subst eA
  have q1 : ¬ ((a : Int) < 0) := by omega
  have q2 : ¬ ((n_f : Int) < a) := by omega
  have q3 : ¬ ((b : Int) - 1 < -1) := by omega
  have q4 : ¬ ((n_f : Int) ≤ (b : Int) - 1) := by omega
  have f1 : IntKind.i64.wrap ((a : Int) - 1) = (a : Int) - 1 := IntWalk.i64_in _ ⟨by omega, by omega⟩
  have f2 : IntKind.i64.wrap ((b : Int) - 1 + 1) = (b : Int) - 1 + 1 := IntWalk.i64_in _ ⟨by omega, by omega⟩
  have f3 : ((b : Int) - 1 + 1).toNat = b := by omega
  have f3' : (b : Int) - 1 + 1 = b := by omega
  have f4 : ((a : Int) - 1).toNat = a - 1 := by omega
  have f5 : ((b : Int) - 1).toNat = b - 1 := by omega
  by_cases h0 : a = n_f
  · skip
    by_cases h1 : a = 0
    · skip
      by_cases h2 : b = 0
      · skip
        by_cases h3 : b = n_f
        · skip
          omega
        · skip
          omega
      · skip
        by_cases h3 : b = n_f
        · skip
          omega
        · skip
          omega
    · skip
      by_cases h2 : b = 0
      · skip
        by_cases h3 : b = n_f
        · skip
          omega
        · skip
          omega
      · skip
        by_cases h3 : b = n_f
        · skip
          have e1 : ((a : Int) == n_f) = true := by simp; omega
          have e2 : ((a : Int) == 0) = false := by simp; omega
          have i2 : 0 ≤ (a : Int) - 1 := by omega
          have i2b : (1 : Int) ≤ a := by omega
          have i2d : 1 ≤ a := by omega
          have i2c : (a : Int) - 1 < n_f := by omega
          have c2 := s_f.int_cell (k := a - 1) (by omega)
          have v2 : gi f (a - 1) < y := by have := of_decide_eq_false (A1.out.2.1 (a - 1) (by omega)); omega
          have e3 : ¬ (b : Int) - 1 < 0 := by omega
          have i3 : 0 ≤ (b : Int) - 1 := by omega
          have i3b : (1 : Int) ≤ b := by omega
          have i3d : 1 ≤ b := by omega
          have i3c : (b : Int) - 1 < n_f := by omega
          have c3 := s_f.int_cell (k := b - 1) (by omega)
          have v3 : gi f (b - 1) ≤ y := by have := of_decide_eq_false (B1.out.2.1 (b - 1) (by omega)); omega
          have e4 : ((b : Int) - 1 == (n_f : Int) - 1) = true := by simp; omega
          clear h0 h1 h2 h3
          clear s_f
          go_wp2_with fail
          go_ret
          exact ⟨rfl, b5⟩
        · skip
          omega
  · skip
    by_cases h1 : a = 0
    · skip
      by_cases h2 : b = 0
      · skip
        by_cases h3 : b = n_f
        · skip
          omega
        · skip
          have e1 : ((a : Int) == n_f) = false := by simp; omega
          have i1 : (a : Int) < n_f := by omega
          have c1 := s_f.int_cell (k := a) (by omega)
          have v1 : y ≤ gi f a := of_decide_eq_true (A1.out.2.2 a (Nat.le_refl _) (by omega))
          have e2 : ((a : Int) == 0) = true := by simp; omega
          have e3 : (b : Int) - 1 < 0 := by omega
          have e4 : ((b : Int) - 1 == (n_f : Int) - 1) = false := by simp; omega
          have i4 : 0 ≤ (b : Int) - 1 + 1 := by omega
          have i4c : (b : Int) - 1 + 1 < n_f := by omega
          have i4d : (b : Int) < n_f := by omega
          have i4e : (0 : Int) ≤ b := by omega
          have c4 := s_f.int_cell (k := b) (by omega)
          have v4 : y < gi f b := of_decide_eq_true (B1.out.2.2 b (Nat.le_refl _) (by omega))
          clear h0 h1 h2 h3
          clear s_f
          go_wp2_with fail
          go_ret
          exact ⟨rfl, b5⟩
      · skip
        by_cases h3 : b = n_f
        · skip
          have e1 : ((a : Int) == n_f) = false := by simp; omega
          have i1 : (a : Int) < n_f := by omega
          have c1 := s_f.int_cell (k := a) (by omega)
          have v1 : y ≤ gi f a := of_decide_eq_true (A1.out.2.2 a (Nat.le_refl _) (by omega))
          have e2 : ((a : Int) == 0) = true := by simp; omega
          have e3 : ¬ (b : Int) - 1 < 0 := by omega
          have i3 : 0 ≤ (b : Int) - 1 := by omega
          have i3b : (1 : Int) ≤ b := by omega
          have i3d : 1 ≤ b := by omega
          have i3c : (b : Int) - 1 < n_f := by omega
          have c3 := s_f.int_cell (k := b - 1) (by omega)
          have v3 : gi f (b - 1) ≤ y := by have := of_decide_eq_false (B1.out.2.1 (b - 1) (by omega)); omega
          have e4 : ((b : Int) - 1 == (n_f : Int) - 1) = true := by simp; omega
          clear h0 h1 h2 h3
          clear s_f
          go_wp2_with fail
          go_ret
          exact ⟨rfl, b5⟩
        · skip
          have e1 : ((a : Int) == n_f) = false := by simp; omega
          have i1 : (a : Int) < n_f := by omega
          have c1 := s_f.int_cell (k := a) (by omega)
          have v1 : y ≤ gi f a := of_decide_eq_true (A1.out.2.2 a (Nat.le_refl _) (by omega))
          have e2 : ((a : Int) == 0) = true := by simp; omega
          have e3 : ¬ (b : Int) - 1 < 0 := by omega
          have i3 : 0 ≤ (b : Int) - 1 := by omega
          have i3b : (1 : Int) ≤ b := by omega
          have i3d : 1 ≤ b := by omega
          have i3c : (b : Int) - 1 < n_f := by omega
          have c3 := s_f.int_cell (k := b - 1) (by omega)
          have v3 : gi f (b - 1) ≤ y := by have := of_decide_eq_false (B1.out.2.1 (b - 1) (by omega)); omega
          have e4 : ((b : Int) - 1 == (n_f : Int) - 1) = false := by simp; omega
          have i4 : 0 ≤ (b : Int) - 1 + 1 := by omega
          have i4c : (b : Int) - 1 + 1 < n_f := by omega
          have i4d : (b : Int) < n_f := by omega
          have i4e : (0 : Int) ≤ b := by omega
          have c4 := s_f.int_cell (k := b) (by omega)
          have v4 : y < gi f b := of_decide_eq_true (B1.out.2.2 b (Nat.le_refl _) (by omega))
          clear h0 h1 h2 h3
          clear s_f
          go_wp2_with fail
          go_ret
          exact ⟨rfl, b5⟩
    · skip
      by_cases h2 : b = 0
      · skip
        by_cases h3 : b = n_f
        · skip
          omega
        · skip
          omega
      · skip
        by_cases h3 : b = n_f
        · skip
          have e1 : ((a : Int) == n_f) = false := by simp; omega
          have i1 : (a : Int) < n_f := by omega
          have c1 := s_f.int_cell (k := a) (by omega)
          have v1 : y ≤ gi f a := of_decide_eq_true (A1.out.2.2 a (Nat.le_refl _) (by omega))
          have e2 : ((a : Int) == 0) = false := by simp; omega
          have i2 : 0 ≤ (a : Int) - 1 := by omega
          have i2b : (1 : Int) ≤ a := by omega
          have i2d : 1 ≤ a := by omega
          have i2c : (a : Int) - 1 < n_f := by omega
          have c2 := s_f.int_cell (k := a - 1) (by omega)
          have v2 : gi f (a - 1) < y := by have := of_decide_eq_false (A1.out.2.1 (a - 1) (by omega)); omega
          have e3 : ¬ (b : Int) - 1 < 0 := by omega
          have i3 : 0 ≤ (b : Int) - 1 := by omega
          have i3b : (1 : Int) ≤ b := by omega
          have i3d : 1 ≤ b := by omega
          have i3c : (b : Int) - 1 < n_f := by omega
          have c3 := s_f.int_cell (k := b - 1) (by omega)
          have v3 : gi f (b - 1) ≤ y := by have := of_decide_eq_false (B1.out.2.1 (b - 1) (by omega)); omega
          have e4 : ((b : Int) - 1 == (n_f : Int) - 1) = true := by simp; omega
          clear h0 h1 h2 h3
          clear s_f
          go_wp2_with fail
          go_ret
          exact ⟨rfl, b5⟩
        · skip
          have e1 : ((a : Int) == n_f) = false := by simp; omega
          have i1 : (a : Int) < n_f := by omega
          have c1 := s_f.int_cell (k := a) (by omega)
          have v1 : y ≤ gi f a := of_decide_eq_true (A1.out.2.2 a (Nat.le_refl _) (by omega))
          have e2 : ((a : Int) == 0) = false := by simp; omega
          have i2 : 0 ≤ (a : Int) - 1 := by omega
          have i2b : (1 : Int) ≤ a := by omega
          have i2d : 1 ≤ a := by omega
          have i2c : (a : Int) - 1 < n_f := by omega
          have c2 := s_f.int_cell (k := a - 1) (by omega)
          have v2 : gi f (a - 1) < y := by have := of_decide_eq_false (A1.out.2.1 (a - 1) (by omega)); omega
          have e3 : ¬ (b : Int) - 1 < 0 := by omega
          have i3 : 0 ≤ (b : Int) - 1 := by omega
          have i3b : (1 : Int) ≤ b := by omega
          have i3d : 1 ≤ b := by omega
          have i3c : (b : Int) - 1 < n_f := by omega
          have c3 := s_f.int_cell (k := b - 1) (by omega)
          have v3 : gi f (b - 1) ≤ y := by have := of_decide_eq_false (B1.out.2.1 (b - 1) (by omega)); omega
          have e4 : ((b : Int) - 1 == (n_f : Int) - 1) = false := by simp; omega
          have i4 : 0 ≤ (b : Int) - 1 + 1 := by omega
          have i4c : (b : Int) - 1 + 1 < n_f := by omega
          have i4d : (b : Int) < n_f := by omega
          have i4e : (0 : Int) ≤ b := by omega
          have c4 := s_f.int_cell (k := b) (by omega)
          have v4 : y < gi f b := of_decide_eq_true (B1.out.2.2 b (Nat.le_refl _) (by omega))
          clear h0 h1 h2 h3
          clear s_f
          go_wp2_with fail
          go_ret
          exact ⟨rfl, b5⟩
end Go.Proofs.Ytmdoecegmdkigaa
