/- InverseGrows: pseudo-inverses are monotonic in the value and antitonic in the curve. -/
import Derived.Test.YtmdoecegmdkigaaInvA
import Derived.Test.YtmdoecegmdkigaaLawKit
set_option linter.unusedVariables false
namespace Go.Proofs.Ytmdoecegmdkigaa
open Go.RowKit
theorem first_mono {n k j : Nat} {p q : Nat → Bool} (h : firstIs n p k) (h' : firstIs n q j) (hpq : ∀ i, i < n → q i = true → p i = true) : k ≤ j := by
  rcases Nat.lt_or_ge j k with x | x
  · have h1 := h.2.1 j x
    have h2 := hpq j (by have := h.1; omega) (h'.2.2 j (Nat.le_refl _) (by have := h.1; omega))
    rw [h1] at h2
    cases h2
  · exact x
set_option maxRecDepth 100000 in
set_option maxHeartbeats 3200000 in
theorem inverseGrows_walk (A_f : Option Addr) (n_f c_f : Nat) (f : List Int) (A_g : Option Addr) (n_g c_g : Nat) (g : List Int) (a : Int) (b : Int) (W : World) (w_f : InInts W A_f n_f c_f f) (w_g : InInts W A_g n_g c_g g) (w_a : -9223372036854775808 ≤ a ∧ a ≤ 9223372036854775807) (w_b : -9223372036854775808 ≤ b ∧ b ≤ 9223372036854775807) :
    Calls Try.prog 7 #[.slice A_f n_f c_f, .slice A_g n_g c_g, .int .i64 a, .int .i64 b] W fun e w' => e = .returned (.bool true) ∧ Below W.heap.size W w' := by
  obtain ⟨s_f, l_f, r_f, _⟩ := w_f
  obtain ⟨s_g, l_g, r_g, _⟩ := w_g
  have b0 := Below.refl W.heap.size W
  go_enter Try.func7, Try.ntmps7
  go_wp2_with fail
  refine (lower_any _ 2 _ [0, 3] (9) _ (Sl.built_ _ (ints [0, 3]) 3 _ rfl rfl) (by omega) (isC_iff.2 ⟨by decide +kernel, rfl⟩) (by omega) (by omega) 2 (firstIs_lit (by omega) (by decide)) (2) (0) (rfl)).mono ?_
  rintro e w1 ⟨rfl, bb1⟩
  have b1 := belLit1 b0 bb1
  replace s_f := slLit1 s_f bb1
  replace s_g := slLit1 s_g bb1
  clear b0 bb1
  have hl_f := s_f.int_len
  have hl_g := s_g.int_len
  by_cases hok : bothB f g = true
  case neg =>
    have HOK := Lib.hid (Bool.eq_false_iff.2 hok)
    clear hok hl_f hl_g
    go_wp2_with fail
    refine (hboth_t A_f (n_f) c_f (f) A_g (n_g) c_g (g) _ (s_f) (s_g) (by omega) (by omega)  (false) (HOK.out)).mono ?_
    rintro e w2 ⟨rfl, bb2⟩
    have b2 := belLit0 b1 bb2
    replace s_f := slLit0 s_f bb2
    replace s_g := slLit0 s_g bb2
    clear b1 bb2
    clear s_f s_g
    go_wp2_with fail
    go_ret
    exact ⟨rfl, b2⟩
  obtain ⟨e1, c_1, c_2⟩ := both_C hok hl_f hl_g
  subst e1
  have HOK := Lib.hid hok
  have C_f := Lib.hid c_1
  have t_f := c_1.top
  have C_g := Lib.hid c_2
  have t_g := c_2.top
  clear hok c_1 c_2 hl_f hl_g
  go_wp2_with fail
  refine (hboth_t A_f (n_f) c_f (f) A_g (n_f) c_g (g) _ (s_f) (s_g) (by omega) (by omega)  (true) (HOK.out)).mono ?_
  rintro e w3 ⟨rfl, bb3⟩
  have b3 := belLit0 b1 bb3
  replace s_f := slLit0 s_f bb3
  replace s_g := slLit0 s_g bb3
  clear b1 bb3
  have u3 := C_f.out.pos
  go_wp2_with fail
  refine (within_t (a) (1000001) _   (by omega) (by omega) (within a 1000001) (rfl)).mono ?_
  rintro e w4 ⟨rfl, rfl⟩
  go_wp2_with fail
  refine (within_t (b) (1000001) _   (by omega) (by omega) (within b 1000001) (rfl)).mono ?_
  rintro e w5 ⟨rfl, rfl⟩
  have m1 := within_lo a 1000001 (by omega)
  have m2 := within_hi a 1000001 (by omega)
  have k1 := within_lo b 1000001 (by omega)
  have k2 := within_hi b 1000001 (by omega)
  generalize within a 1000001 = a' at *
  generalize within b 1000001 = b' at *
  obtain ⟨x, hx⟩ : ∃ x, (if b' < a' then b' else a') = x := ⟨_, rfl⟩
  obtain ⟨y, hy⟩ : ∃ y, (if a' < b' then b' else a') = y := ⟨_, rfl⟩
  have x0 : 0 ≤ x := by rw [← hx]; split <;> omega
  have x1 : x ≤ y := by rw [← hx, ← hy]; split <;> split <;> omega
  have y1 : y ≤ 1000000 := by rw [← hy]; split <;> omega
  obtain ⟨p, hp⟩ := lower_ex C_f.out x
  obtain ⟨q, hq⟩ := lower_ex C_f.out y
  obtain ⟨r, hr⟩ := upper_ex C_f.out x
  obtain ⟨s, hs⟩ := upper_ex C_f.out y
  obtain ⟨u, hu⟩ := lower_ex C_g.out x
  have z1 : (p : Int) ≤ q := by have := first_mono hp hq fun i hi h => decide_eq_true (by have := of_decide_eq_true h; omega); omega
  have z2 : (r : Int) - 1 ≤ (s : Int) - 1 := by have := first_mono hr hs fun i hi h => decide_eq_true (by have := of_decide_eq_true h; omega); omega
  have z3 : leT f g = true → (u : Int) ≤ p := fun hle => by have := first_mono hu hp fun i hi h => decide_eq_true (by have := of_decide_eq_true h; have := (leT_iff C_f.out C_g.out).1 hle i hi; omega); omega
  have Z3 := Lib.hid z3
  have P1 := Lib.hid hp
  have Q1 := Lib.hid hq
  have R1 := Lib.hid hr
  have S1 := Lib.hid hs
  have U1 := Lib.hid hu
  have p9 := hp.1
  have q9 := hq.1
  have r9 := hr.1
  have s9 := hs.1
  have u9 := hu.1
  clear hp hq hr hs hu z3
  go_wp2_with fail
  refine (lower_any A_f (n_f) c_f (f) (x) _ (s_f) (by omega) C_f.out (by omega) (by omega) p P1.out ((p : Int)) (0) (rfl)).mono ?_
  rintro e w6 ⟨rfl, bb6⟩
  have b6 := belLit0 b3 bb6
  replace s_f := slLit0 s_f bb6
  replace s_g := slLit0 s_g bb6
  clear b3 bb6
  go_wp2_with fail
  refine (lower_any A_f (n_f) c_f (f) (y) _ (s_f) (by omega) C_f.out (by omega) (by omega) q Q1.out ((q : Int)) (0) (rfl)).mono ?_
  rintro e w7 ⟨rfl, bb7⟩
  have b7 := belLit0 b6 bb7
  replace s_f := slLit0 s_f bb7
  replace s_g := slLit0 s_g bb7
  clear b6 bb7
  go_wp2_with fail
  refine (upper_any A_f (n_f) c_f (f) (x) _ (s_f) (by omega) C_f.out (by omega) (by omega) r R1.out ((r : Int) - 1) (0) (rfl)).mono ?_
  rintro e w8 ⟨rfl, bb8⟩
  have b8 := belLit0 b7 bb8
  replace s_f := slLit0 s_f bb8
  replace s_g := slLit0 s_g bb8
  clear b7 bb8
  go_wp2_with fail
  refine (upper_any A_f (n_f) c_f (f) (y) _ (s_f) (by omega) C_f.out (by omega) (by omega) s S1.out ((s : Int) - 1) (0) (rfl)).mono ?_
  rintro e w9 ⟨rfl, bb9⟩
  have b9 := belLit0 b8 bb9
  replace s_f := slLit0 s_f bb9
  replace s_g := slLit0 s_g bb9
  clear b8 bb9
  go_wp2_with fail
  refine (lower_any A_g (n_f) c_g (g) (x) _ (s_g) (by omega) C_g.out (by omega) (by omega) u U1.out ((u : Int)) (0) (rfl)).mono ?_
  rintro e w10 ⟨rfl, bb10⟩
  have b10 := belLit0 b9 bb10
  replace s_f := slLit0 s_f bb10
  replace s_g := slLit0 s_g bb10
  clear b9 bb10
  by_cases h1 : leT f g = true
  · have H1 := Lib.hid h1
    clear h1
    have z4 := Z3.out H1.out
    go_wp2_with fail
    refine (hle_t A_f (n_f) c_f (f) A_g (n_f) c_g (g) _ (s_f) (s_g) (by omega) (by omega)  (true) (H1.out)).mono ?_
    rintro e w11 ⟨rfl, bb11⟩
    have b11 := belLit0 b10 bb11
    replace s_f := slLit0 s_f bb11
    replace s_g := slLit0 s_g bb11
    clear b10 bb11
    clear s_f s_g
    go_wp2_with fail
    go_ret
    exact ⟨rfl, b11⟩
  · have H1 := Lib.hid h1
    clear h1
    have H5 := Lib.hid (Bool.eq_false_iff.2 H1.out)
    go_wp2_with fail
    refine (hle_t A_f (n_f) c_f (f) A_g (n_f) c_g (g) _ (s_f) (s_g) (by omega) (by omega)  (false) (H5.out)).mono ?_
    rintro e w12 ⟨rfl, bb12⟩
    have b12 := belLit0 b10 bb12
    replace s_f := slLit0 s_f bb12
    replace s_g := slLit0 s_g bb12
    clear b10 bb12
    clear s_f s_g
    go_wp2_with fail
    go_ret
    exact ⟨rfl, b12⟩
end Go.Proofs.Ytmdoecegmdkigaa
