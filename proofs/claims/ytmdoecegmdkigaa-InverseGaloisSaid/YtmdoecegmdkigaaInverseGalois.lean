/- InverseGalois: Galois connections of the pseudo-inverses. -/
import Derived.Test.YtmdoecegmdkigaaInvA
import Derived.Test.YtmdoecegmdkigaaLawKit
set_option linter.unusedVariables false
namespace Go.Proofs.Ytmdoecegmdkigaa
open Go.RowKit
theorem first_le {n k t : Nat} {p : Nat → Bool} (h : firstIs n p k) (ht : t < n) : p t = decide (k ≤ t) := by
  rcases Nat.lt_or_ge t k with h' | h'
  · rw [h.2.1 t h']; exact (decide_eq_false (by omega)).symm
  · rw [h.2.2 t h' ht]; exact (decide_eq_true h').symm
set_option maxRecDepth 100000 in
set_option maxHeartbeats 3200000 in
theorem inverseGalois_walk (A_f : Option Addr) (n_f c_f : Nat) (f : List Int) (y : Int) (t : Int) (W : World) (w_f : InInts W A_f n_f c_f f) (w_y : -9223372036854775808 ≤ y ∧ y ≤ 9223372036854775807) (w_t : -9223372036854775808 ≤ t ∧ t ≤ 9223372036854775807) :
    Calls Try.prog 5 #[.slice A_f n_f c_f, .int .i64 y, .int .i64 t] W fun e w' => e = .returned (.bool true) ∧ Below W.heap.size W w' := by
  obtain ⟨s_f, l_f, r_f, _⟩ := w_f
  have b0 := Below.refl W.heap.size W
  go_enter Try.func5, Try.ntmps5
  go_wp2_with fail
  refine (lower_any _ 4 _ [0, 3, 3, 5] (3) _ (Sl.built_ _ (ints [0, 3, 3, 5]) 3 _ rfl rfl) (by omega) (isC_iff.2 ⟨by decide +kernel, rfl⟩) (by omega) (by omega) 1 (firstIs_lit (by omega) (by decide)) (1) (0) (rfl)).mono ?_
  rintro e w1 ⟨rfl, bb1⟩
  have b1 := belLit1 b0 bb1
  replace s_f := slLit1 s_f bb1
  clear b0 bb1
  go_wp2_with fail
  refine (upper_any _ 4 _ [0, 3, 3, 5] (3) _ (Sl.built_ _ (ints [0, 3, 3, 5]) 3 _ rfl rfl) (by omega) (isC_iff.2 ⟨by decide +kernel, rfl⟩) (by omega) (by omega) 3 (firstIs_lit (by omega) (by decide)) (2) (0) (rfl)).mono ?_
  rintro e w2 ⟨rfl, bb2⟩
  have b2 := belLit1 b1 bb2
  replace s_f := slLit1 s_f bb2
  clear b1 bb2
  have hl_f := s_f.int_len
  by_cases hok : curveErr f = 0
  case neg =>
    have hne : (curveErr f != 0) = true := by simpa using hok
    clear hok hl_f
    go_wp2_with fail
    refine (ccheck_t A_f (n_f) c_f (f) _ (s_f) (by omega)  (curveErr f) (rfl)).mono ?_
    rintro e w3 ⟨rfl, rfl⟩
    clear s_f
    go_wp2_with fail
    go_ret
    exact ⟨rfl, b2⟩
  have cf := isC_of hok
  rw [hl_f] at cf
  have C_f := Lib.hid cf
  have t_f := cf.top
  have u_f := cf.pos
  clear cf hl_f
  have HOK := Lib.hid hok
  clear hok
  go_wp2_with fail
  refine (ccheck_t A_f (n_f) c_f (f) _ (s_f) (by omega)  (0) (HOK.out)).mono ?_
  rintro e w4 ⟨rfl, rfl⟩
  go_wp2_with fail
  refine (within_t (y) (1000001) _   (by omega) (by omega) (within y 1000001) (rfl)).mono ?_
  rintro e w5 ⟨rfl, rfl⟩
  go_wp2_with fail
  refine (within_t (t) (n_f) _   (by omega) (by omega) (within t n_f) (rfl)).mono ?_
  rintro e w6 ⟨rfl, rfl⟩
  have m1 := within_lo y 1000001 (by omega)
  have m2 := within_hi y 1000001 (by omega)
  have k1 := within_lo t n_f (by omega)
  have k2 := within_hi t n_f (by omega)
  generalize within y 1000001 = z at *
  generalize within t n_f = t' at *
  obtain ⟨t, rfl⟩ := Int.eq_ofNat_of_zero_le k1
  have htn : t < n_f := by omega
  obtain ⟨a, ha⟩ := lower_ex C_f.out z
  obtain ⟨b, hb⟩ := upper_ex C_f.out z
  have x1 := first_le ha htn
  have x2 := first_le hb htn
  have A1 := Lib.hid ha
  have B1 := Lib.hid hb
  have hab : a ≤ b := by
    rcases Nat.lt_or_ge b a with h | h
    · have h1 := ha.2.1 b h
      have h2 := hb.2.2 b (Nat.le_refl _) (by have := ha.1; omega)
      have := of_decide_eq_false h1
      have := of_decide_eq_true h2
      omega
    · exact h
  have u1 := C_f.out.lo t htn
  have u2 := C_f.out.hi t htn
  have a9 := ha.1
  have b9 := hb.1
  clear ha hb
  go_wp2_with fail
  refine (lower_any A_f (n_f) c_f (f) (z) _ (s_f) (by omega) C_f.out m1 (by omega) a A1.out ((a : Int)) (0) (rfl)).mono ?_
  rintro e w7 ⟨rfl, bb7⟩
  have b7 := belLit0 b2 bb7
  replace s_f := slLit0 s_f bb7
  clear b2 bb7
  go_wp2_with fail
  refine (upper_any A_f (n_f) c_f (f) (z) _ (s_f) (by omega) C_f.out m1 (by omega) b B1.out ((b : Int) - 1) (0) (rfl)).mono ?_
  rintro e w8 ⟨rfl, bb8⟩
  have b8 := belLit0 b7 bb8
  replace s_f := slLit0 s_f bb8
  clear b7 bb8
  obtain ⟨bk_f, of_f, eA_f, -, -⟩ := s_f.int_at (k := 0) (by omega)
  subst eA_f
  have hc_f := s_f.int_cell (k := t) (by omega)
  have y1 : decide (z ≤ gi f t) = decide ((a : Int) ≤ t) := by rw [x1]; by_cases h : a ≤ t <;> simp [h]
  have y2 : decide (gi f t ≤ z) = decide ((t : Int) ≤ (b : Int) - 1) := by
    have e : decide (gi f t ≤ z) = !decide (z < gi f t) := by by_cases h : z < gi f t <;> simp [h]; omega
    rw [e, x2]
    by_cases h : b ≤ t <;> simp [h] <;> omega
  obtain ⟨v1, hv1⟩ : ∃ v, decide ((a : Int) ≤ t) = v := ⟨_, rfl⟩
  obtain ⟨v2, hv2⟩ : ∃ v, decide ((t : Int) ≤ (b : Int) - 1) = v := ⟨_, rfl⟩
  rw [hv1] at y1
  have hv1n : decide (a ≤ t) = v1 := by rw [← hv1]; by_cases h : a ≤ t <;> simp [h]
  rw [hv2] at y2
  have y3 : decide ((a : Int) ≤ (b : Int) - 1 + 1) = true := by simp; omega
  have y5 : (a : Int) ≤ (b : Int) - 1 + 1 := by omega
  have y4 : (v1 == v1) = true := by simp
  have y6 : (v2 == v2) = true := by simp
  have f1 : IntKind.i64.wrap ((b : Int) - 1 + 1) = (b : Int) - 1 + 1 := IntWalk.i64_in _ ⟨by omega, by omega⟩
  clear x1 x2
  clear s_f
  go_wp2_with fail
  go_ret
  exact ⟨rfl, b8⟩
end Go.Proofs.Ytmdoecegmdkigaa
