/- CurveCuts: cutting twice equals cutting at the earlier time, and Cut is monotonic. -/
import Derived.Test.YtmdoecegmdkigaaPointU
import Derived.Test.YtmdoecegmdkigaaCurveQ
import Derived.Test.YtmdoecegmdkigaaLawKit
set_option linter.unusedVariables false
namespace Go.Proofs.Ytmdoecegmdkigaa
open Go.RowKit
theorem cut_le {n d : Nat} {f g : List Int} (hf : IsC n f) (hg : IsC n g) (hd : d < n) (h : leT f g = true) : leT (ccutL f d) (ccutL g d) = true :=
  leT_yes (ccut_C hf hd) (ccut_C hg hd) fun i hi => by rw [ccut_get hi, ccut_get hi]; exact (leT_iff hf hg).1 h i (by omega)
set_option maxRecDepth 100000 in
set_option maxHeartbeats 3200000 in
theorem curveCuts_walk (A_f : Option Addr) (n_f c_f : Nat) (f : List Int) (A_g : Option Addr) (n_g c_g : Nat) (g : List Int) (a : Int) (b : Int) (W : World) (w_f : InInts W A_f n_f c_f f) (w_g : InInts W A_g n_g c_g g) (w_a : -9223372036854775808 ≤ a ∧ a ≤ 9223372036854775807) (w_b : -9223372036854775808 ≤ b ∧ b ≤ 9223372036854775807) :
    Calls Try.prog 4 #[.slice A_f n_f c_f, .slice A_g n_g c_g, .int .i64 a, .int .i64 b] W fun e w' => e = .returned (.bool true) ∧ Below W.heap.size W w' := by
  obtain ⟨s_f, l_f, r_f, _⟩ := w_f
  obtain ⟨s_g, l_g, r_g, _⟩ := w_g
  have b0 := Below.refl W.heap.size W
  go_enter Try.func4, Try.ntmps4
  go_wp2_with fail
  refine (ccut_t _ 3 _ [0, 1, 2] (1) _ (Sl.built_ _ (ints [0, 1, 2]) 3 _ rfl rfl) (by omega) (by decide) (by decide) (isC_iff.2 ⟨by decide +kernel, rfl⟩) (by omega) ([0, 1]) (0) (2) (by decide) (rfl)).mono ?_
  rintro e w1 ⟨A_t0, c_t0, rfl, s_t0, l_t0, bb1⟩
  have b1 := belLit1 b0 bb1
  replace s_f := slLit1 s_f bb1
  replace s_g := slLit1 s_g bb1
  clear b0 bb1
  go_wp2_with fail
  refine (equal_t A_t0 (2) c_t0 ([0, 1]) _ 2 _ [0, 1] _ (slMore (s_t0) _) (Sl.built_ _ (ints [0, 1]) 3 _ rfl rfl) (by omega) (by omega)  (true) (by decide)).mono ?_
  rintro e w2 ⟨rfl, bb2⟩
  have b2 := belLit1 b1 bb2
  replace s_f := slLit1 s_f bb2
  replace s_g := slLit1 s_g bb2
  replace s_t0 := slLit1 s_t0 bb2
  clear b1 bb2
  clear s_t0 l_t0
  have hl_f := s_f.int_len
  have hl_g := s_g.int_len
  by_cases hok : bothB f g = true
  case neg =>
    have HOK := Lib.hid (Bool.eq_false_iff.2 hok)
    clear hok hl_f hl_g
    go_wp2_with fail
    refine (hboth_t A_f (n_f) c_f (f) A_g (n_g) c_g (g) _ (s_f) (s_g) (by omega) (by omega)  (false) (HOK.out)).mono ?_
    rintro e w3 ⟨rfl, bb3⟩
    have b3 := belLit0 b2 bb3
    replace s_f := slLit0 s_f bb3
    replace s_g := slLit0 s_g bb3
    clear b2 bb3
    clear s_f s_g
    go_wp2_with fail
    go_ret
    exact ⟨rfl, b3⟩
  obtain ⟨e1, c_1, c_2⟩ := both_C hok hl_f hl_g
  subst e1
  have HOK := Lib.hid hok
  have C_f := Lib.hid c_1
  have t_f := c_1.top
  have C_g := Lib.hid c_2
  have t_g := c_2.top
  clear hok c_1 c_2 hl_f hl_g
  go_wp2_with fail
  refine (hboth_t A_f (n_f) c_f (f) A_g (n_f) c_g (g) _ (s_f) (s_g) (by omega) (by omega)  (true) (HOK.out)).mono ?_
  rintro e w4 ⟨rfl, bb4⟩
  have b4 := belLit0 b2 bb4
  replace s_f := slLit0 s_f bb4
  replace s_g := slLit0 s_g bb4
  clear b2 bb4
  have u3 := C_f.out.pos
  go_wp2_with fail
  refine (within_t (a) (n_f) _   (by omega) (by omega) (within a n_f) (rfl)).mono ?_
  rintro e w5 ⟨rfl, rfl⟩
  go_wp2_with fail
  refine (within_t (b) (n_f) _   (by omega) (by omega) (within b n_f) (rfl)).mono ?_
  rintro e w6 ⟨rfl, rfl⟩
  have m1 := within_lo a n_f (by omega)
  have m2 := within_hi a n_f (by omega)
  have k1 := within_lo b n_f (by omega)
  have k2 := within_hi b n_f (by omega)
  generalize within a n_f = a' at *
  generalize within b n_f = b' at *
  obtain ⟨p, rfl⟩ := Int.eq_ofNat_of_zero_le m1
  obtain ⟨q, rfl⟩ := Int.eq_ofNat_of_zero_le k1
  obtain ⟨M, hM⟩ : ∃ M : Nat, (if (p : Int) < q then (q : Int) else p) = M := by
    by_cases h : (p : Int) < q
    · exact ⟨q, if_pos h⟩
    · exact ⟨p, if_neg h⟩
  obtain ⟨m, hm⟩ : ∃ m : Nat, (if (q : Int) < p then (q : Int) else p) = m := by
    by_cases h : (q : Int) < p
    · exact ⟨q, if_pos h⟩
    · exact ⟨p, if_neg h⟩
  have hMn : M < n_f := by revert hM; split <;> omega
  have hmM : m ≤ M := by revert hM hm; split <;> split <;> omega
  have x1 : (M : Int) < n_f := by omega
  have x2 : (m : Int) < n_f := by omega
  have x3 : (m : Int) < ((M + 1 : Nat) : Int) := by omega
  have x4 : (0 : Int) ≤ M := by omega
  have x5 : (0 : Int) ≤ m := by omega
  have hM' : (if p < q then (q : Int) else p) = M := by rw [← hM]; by_cases h : p < q <;> simp [h]
  have hm' : (if q < p then (q : Int) else p) = m := by rw [← hm]; by_cases h : q < p <;> simp [h]
  go_wp2_with fail
  refine (ccut_t A_f (n_f) c_f (f) ((M : Int)) _ (s_f) (by omega) x4 x1 C_f.out l_f (ccutL f M) (0) (M + 1) (rfl) ((ccut_C C_f.out hMn).len)).mono ?_
  rintro e w7 ⟨A_x, c_x, rfl, s_x, l_x, bb7⟩
  have b7 := belLit0 b4 bb7
  replace s_f := slLit0 s_f bb7
  replace s_g := slLit0 s_g bb7
  clear b4 bb7
  have C_x := Lib.hid (ccut_C C_f.out hMn)
  go_wp2_with fail
  refine (ccut_t A_x (M + 1) c_x (ccutL f M) ((m : Int)) _ (s_x) (by omega) x5 x3 C_x.out l_x (ccutL f m) (0) (m + 1) (by rw [Int.toNat_natCast, ccut_ccut hmM]) ((ccut_C C_f.out (by omega)).len)).mono ?_
  rintro e w8 ⟨A_y, c_y, rfl, s_y, l_y, bb8⟩
  have b8 := belLit0 b7 bb8
  replace s_f := slLit0 s_f bb8
  replace s_g := slLit0 s_g bb8
  replace s_x := slLit0 s_x bb8
  clear b7 bb8
  go_wp2_with fail
  refine (ccut_t A_f (n_f) c_f (f) ((m : Int)) _ (s_f) (by omega) x5 x2 C_f.out l_f (ccutL f m) (0) (m + 1) (rfl) ((ccut_C C_f.out (by omega)).len)).mono ?_
  rintro e w9 ⟨A_z, c_z, rfl, s_z, l_z, bb9⟩
  have b9 := belLit0 b8 bb9
  replace s_f := slLit0 s_f bb9
  replace s_g := slLit0 s_g bb9
  replace s_x := slLit0 s_x bb9
  replace s_y := slLit0 s_y bb9
  clear b8 bb9
  go_wp2_with fail
  refine (ccut_t A_g (n_f) c_g (g) ((m : Int)) _ (s_g) (by omega) x5 x2 C_g.out l_g (ccutL g m) (0) (m + 1) (rfl) ((ccut_C C_g.out (by omega)).len)).mono ?_
  rintro e w10 ⟨A_w, c_w, rfl, s_w, l_w, bb10⟩
  have b10 := belLit0 b9 bb10
  replace s_f := slLit0 s_f bb10
  replace s_g := slLit0 s_g bb10
  replace s_x := slLit0 s_x bb10
  replace s_y := slLit0 s_y bb10
  replace s_z := slLit0 s_z bb10
  clear b9 bb10
  have hle : (((m + 1 : Nat) : Int) == (m : Int) + 1) = true := by simp
  go_wp2_with fail
  refine (equal_t A_y (m + 1) c_y (ccutL f m) A_z (m + 1) c_z (ccutL f m) _ (s_y) (s_z) (by omega) (by omega)  (true) (dec_true (rfl))).mono ?_
  rintro e w11 ⟨rfl, bb11⟩
  have b11 := belLit0 b10 bb11
  replace s_f := slLit0 s_f bb11
  replace s_g := slLit0 s_g bb11
  replace s_x := slLit0 s_x bb11
  replace s_y := slLit0 s_y bb11
  replace s_z := slLit0 s_z bb11
  replace s_w := slLit0 s_w bb11
  clear b10 bb11
  by_cases h1 : leT f g = true
  · have H1 := Lib.hid h1
    clear h1
    go_wp2_with fail
    refine (hle_t A_f (n_f) c_f (f) A_g (n_f) c_g (g) _ (s_f) (s_g) (by omega) (by omega)  (true) (H1.out)).mono ?_
    rintro e w12 ⟨rfl, bb12⟩
    have b12 := belLit0 b11 bb12
    replace s_f := slLit0 s_f bb12
    replace s_g := slLit0 s_g bb12
    replace s_x := slLit0 s_x bb12
    replace s_y := slLit0 s_y bb12
    replace s_z := slLit0 s_z bb12
    replace s_w := slLit0 s_w bb12
    clear b11 bb12
    go_wp2_with fail
    refine (hle_t A_z (m + 1) c_z (ccutL f m) A_w (m + 1) c_w (ccutL g m) _ (s_z) (s_w) (by omega) (by omega)  (true) (cut_le C_f.out C_g.out (by omega) H1.out)).mono ?_
    rintro e w13 ⟨rfl, bb13⟩
    have b13 := belLit0 b12 bb13
    replace s_f := slLit0 s_f bb13
    replace s_g := slLit0 s_g bb13
    replace s_x := slLit0 s_x bb13
    replace s_y := slLit0 s_y bb13
    replace s_z := slLit0 s_z bb13
    replace s_w := slLit0 s_w bb13
    clear b12 bb13
    clear s_f s_g s_x s_y s_z s_w
    go_wp2_with fail
    go_ret
    exact ⟨rfl, b13⟩
  · have H1 := Lib.hid h1
    clear h1
    have H5 := Lib.hid (Bool.eq_false_iff.2 H1.out)
    go_wp2_with fail
    refine (hle_t A_f (n_f) c_f (f) A_g (n_f) c_g (g) _ (s_f) (s_g) (by omega) (by omega)  (false) (H5.out)).mono ?_
    rintro e w14 ⟨rfl, bb14⟩
    have b14 := belLit0 b11 bb14
    replace s_f := slLit0 s_f bb14
    replace s_g := slLit0 s_g bb14
    replace s_x := slLit0 s_x bb14
    replace s_y := slLit0 s_y bb14
    replace s_z := slLit0 s_z bb14
    replace s_w := slLit0 s_w bb14
    clear b11 bb14
    clear s_f s_g s_x s_y s_z s_w
    go_wp2_with fail
    go_ret
    exact ⟨rfl, b14⟩
end Go.Proofs.Ytmdoecegmdkigaa
