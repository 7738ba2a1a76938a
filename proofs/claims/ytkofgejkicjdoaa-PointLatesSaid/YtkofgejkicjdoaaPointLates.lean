/- PointLates: delays add up, a delay of 0 is the identity, and delays distribute over Min. -/
import Derived.Test.YtkofgejkicjdoaaPointA
import Derived.Test.YtkofgejkicjdoaaPointU
import Derived.Test.YtkofgejkicjdoaaCurveQ
import Derived.Test.YtkofgejkicjdoaaLawKit
set_option linter.unusedVariables false
namespace Go.Proofs.Ytkofgejkicjdoaa
open Go.RowKit
theorem late_late {n : Nat} {f : List Int} (hf : IsC n f) (p q : Nat) : clateL (clateL f p) q = clateL f (p + q) :=
  ext_n (n := n) (clate_C (clate_C hf)).len (clate_C hf).len fun i hi => by
    rw [clate_get (clate_C hf).len hi, clate_get hf.len hi]
    by_cases h : q ≤ i
    · rw [if_pos h, clate_get hf.len (by omega)]
      by_cases h2 : p + q ≤ i
      · rw [if_pos h2, if_pos (by omega), show i - q - p = i - (p + q) by omega]
      · rw [if_neg h2, if_neg (by omega)]
    · rw [if_neg h, if_neg (by omega)]
theorem late_le {n : Nat} {f : List Int} (hf : IsC n f) (p : Nat) : leT (clateL f p) f = true := leT_yes (clate_C hf) hf fun i hi => by
  rw [clate_get hf.len hi]
  split
  · exact hf.up _ _ (by omega) hi
  · exact hf.lo i hi
theorem late_min {n : Nat} {f g : List Int} (hf : IsC n f) (hg : IsC n g) (p : Nat) : clateL (cminL f g) p = cminL (clateL f p) (clateL g p) :=
  ext_n (n := n) (clate_C (cmin_C hf hg)).len (cmin_C (clate_C hf) (clate_C hg)).len fun i hi => by
    rw [clate_get (cmin_C hf hg).len hi, cmin_get (clate_C hf).len hi, clate_get hf.len hi, clate_get hg.len hi]
    by_cases h : p ≤ i
    · rw [if_pos h, if_pos h, if_pos h, cmin_get hf.len (by omega)]
    · rw [if_neg h, if_neg h, if_neg h]; rfl
set_option maxRecDepth 100000 in
set_option maxHeartbeats 3200000 in
theorem pointLates_walk (A_f : Option Addr) (n_f c_f : Nat) (f : List Int) (A_g : Option Addr) (n_g c_g : Nat) (g : List Int) (a : Int) (b : Int) (W : World) (w_f : InInts W A_f n_f c_f f) (w_g : InInts W A_g n_g c_g g) (w_a : -9223372036854775808 ≤ a ∧ a ≤ 9223372036854775807) (w_b : -9223372036854775808 ≤ b ∧ b ≤ 9223372036854775807) :
    Calls Try.prog 13 #[.slice A_f n_f c_f, .slice A_g n_g c_g, .int .i64 a, .int .i64 b] W fun e w' => e = .returned (.bool true) ∧ Below W.heap.size W w' := by
  obtain ⟨s_f, l_f, r_f, _⟩ := w_f
  obtain ⟨s_g, l_g, r_g, _⟩ := w_g
  have b0 := Below.refl W.heap.size W
  go_enter Try.func13, Try.ntmps13
  go_wp2_with fail
  refine (plate_any _ 3 _ [1, 2, 3] (1) _ (Sl.built_ _ (ints [1, 2, 3]) 3 _ rfl rfl) (by omega) (by omega) (by omega) ([0, 1, 2]) (0) (3) (by decide +kernel) (rfl)).mono ?_
  rintro e w1 ⟨A_t0, c_t0, rfl, s_t0, l_t0, bb1⟩
  have b1 := belLit1 b0 bb1
  replace s_f := slLit1 s_f bb1
  replace s_g := slLit1 s_g bb1
  clear b0 bb1
  go_wp2_with fail
  refine (equal_t A_t0 (3) c_t0 ([0, 1, 2]) _ 3 _ [0, 1, 2] _ (slMore (s_t0) _) (Sl.built_ _ (ints [0, 1, 2]) 3 _ rfl rfl) (by omega) (by omega)  (true) (by decide)).mono ?_
  rintro e w2 ⟨rfl, bb2⟩
  have b2 := belLit1 b1 bb2
  replace s_f := slLit1 s_f bb2
  replace s_g := slLit1 s_g bb2
  replace s_t0 := slLit1 s_t0 bb2
  clear b1 bb2
  clear s_t0 l_t0
  have hl_f := s_f.int_len
  have hl_g := s_g.int_len
  by_cases hok : bothB f g = true
  case neg =>
    have HOK := Lib.hid (Bool.eq_false_iff.2 hok)
    clear hok hl_f hl_g
    go_wp2_with fail
    refine (hboth_t A_f (n_f) c_f (f) A_g (n_g) c_g (g) _ (s_f) (s_g) (by omega) (by omega)  (false) (HOK.out)).mono ?_
    rintro e w3 ⟨rfl, bb3⟩
    have b3 := belLit0 b2 bb3
    replace s_f := slLit0 s_f bb3
    replace s_g := slLit0 s_g bb3
    clear b2 bb3
    clear s_f s_g
    go_wp2_with fail
    go_ret
    exact ⟨rfl, b3⟩
  obtain ⟨e1, c_1, c_2⟩ := both_C hok hl_f hl_g
  subst e1
  have HOK := Lib.hid hok
  have C_f := Lib.hid c_1
  have t_f := c_1.top
  have C_g := Lib.hid c_2
  have t_g := c_2.top
  clear hok c_1 c_2 hl_f hl_g
  go_wp2_with fail
  refine (hboth_t A_f (n_f) c_f (f) A_g (n_f) c_g (g) _ (s_f) (s_g) (by omega) (by omega)  (true) (HOK.out)).mono ?_
  rintro e w4 ⟨rfl, bb4⟩
  have b4 := belLit0 b2 bb4
  replace s_f := slLit0 s_f bb4
  replace s_g := slLit0 s_g bb4
  clear b2 bb4
  go_wp2_with fail
  refine (within_t (a) (70) _   (by omega) (by omega) (within a 70) (rfl)).mono ?_
  rintro e w5 ⟨rfl, rfl⟩
  go_wp2_with fail
  refine (within_t (b) (70) _   (by omega) (by omega) (within b 70) (rfl)).mono ?_
  rintro e w6 ⟨rfl, rfl⟩
  have m1 := within_lo a 70 (by omega)
  have m2 := within_hi a 70 (by omega)
  have k1 := within_lo b 70 (by omega)
  have k2 := within_hi b 70 (by omega)
  generalize within a 70 = a' at *
  generalize within b 70 = b' at *
  obtain ⟨p, rfl⟩ := Int.eq_ofNat_of_zero_le m1
  obtain ⟨q, rfl⟩ := Int.eq_ofNat_of_zero_le k1
  have N3 : Hid (((p : Int) + q).toNat = p + q) := by show ((p : Int) + q).toNat = p + q; omega
  go_wp2_with fail
  refine (plate_any A_f (n_f) c_f (f) ((p : Int)) _ (s_f) (by omega) (by omega) (by omega) (clateL f p) (0) (n_f) (clate_yes C_f.out rfl) ((clate_C C_f.out).len)).mono ?_
  rintro e w7 ⟨A_x, c_x, rfl, s_x, l_x, bb7⟩
  have b7 := belLit0 b4 bb7
  replace s_f := slLit0 s_f bb7
  replace s_g := slLit0 s_g bb7
  clear b4 bb7
  have C_x := Lib.hid (show IsC n_f (clateL f p) from clate_C C_f.out)
  go_wp2_with fail
  refine (plate_any A_x (n_f) c_x (clateL f p) ((q : Int)) _ (s_x) (by omega) (by omega) (by omega) (clateL f (p + q)) (0) (n_f) (clate_yes C_x.out (late_late C_f.out p q)) ((clate_C C_f.out).len)).mono ?_
  rintro e w8 ⟨A_y, c_y, rfl, s_y, l_y, bb8⟩
  have b8 := belLit0 b7 bb8
  replace s_f := slLit0 s_f bb8
  replace s_g := slLit0 s_g bb8
  replace s_x := slLit0 s_x bb8
  clear b7 bb8
  have C_y := Lib.hid (show IsC n_f (clateL f (p + q)) from clate_C C_f.out)
  go_wp2_with fail
  refine (plate_any A_f (n_f) c_f (f) ((p : Int) + q) _ (s_f) (by omega) (by omega) (by omega) (clateL f (p + q)) (0) (n_f) (by rw [N3.out]; exact clate_yes C_f.out rfl) ((clate_C C_f.out).len)).mono ?_
  rintro e w9 ⟨A_z, c_z, rfl, s_z, l_z, bb9⟩
  have b9 := belLit0 b8 bb9
  replace s_f := slLit0 s_f bb9
  replace s_g := slLit0 s_g bb9
  replace s_x := slLit0 s_x bb9
  replace s_y := slLit0 s_y bb9
  clear b8 bb9
  have C_z := Lib.hid (show IsC n_f (clateL f (p + q)) from clate_C C_f.out)
  go_wp2_with fail
  refine (plate_any A_g (n_f) c_g (g) ((p : Int)) _ (s_g) (by omega) (by omega) (by omega) (clateL g p) (0) (n_f) (clate_yes C_g.out rfl) ((clate_C C_g.out).len)).mono ?_
  rintro e w10 ⟨A_w, c_w, rfl, s_w, l_w, bb10⟩
  have b10 := belLit0 b9 bb10
  replace s_f := slLit0 s_f bb10
  replace s_g := slLit0 s_g bb10
  replace s_x := slLit0 s_x bb10
  replace s_y := slLit0 s_y bb10
  replace s_z := slLit0 s_z bb10
  clear b9 bb10
  have C_w := Lib.hid (show IsC n_f (clateL g p) from clate_C C_g.out)
  go_wp2_with fail
  refine (pmin_any A_f (n_f) c_f (f) A_g (n_f) c_g (g) _ (s_f) (s_g) (by omega) (by omega)  (cminL (f) (g)) (0) (n_f) (cmin_yes C_f.out C_g.out (rfl)) ((tab_len _ _).trans C_f.out.len)).mono ?_
  rintro e w11 ⟨A_s, c_s, rfl, s_s, l_s, bb11⟩
  have b11 := belLit0 b10 bb11
  replace s_f := slLit0 s_f bb11
  replace s_g := slLit0 s_g bb11
  replace s_x := slLit0 s_x bb11
  replace s_y := slLit0 s_y bb11
  replace s_z := slLit0 s_z bb11
  replace s_w := slLit0 s_w bb11
  clear b10 bb11
  have C_s := Lib.hid (cmin_C C_f.out C_g.out)
  go_wp2_with fail
  refine (plate_any A_s (n_f) c_s (cminL (f) (g)) ((p : Int)) _ (s_s) (by omega) (by omega) (by omega) (clateL (cminL f g) p) (0) (n_f) (clate_yes C_s.out rfl) ((clate_C C_s.out).len)).mono ?_
  rintro e w12 ⟨A_pp, c_pp, rfl, s_pp, l_pp, bb12⟩
  have b12 := belLit0 b11 bb12
  replace s_f := slLit0 s_f bb12
  replace s_g := slLit0 s_g bb12
  replace s_x := slLit0 s_x bb12
  replace s_y := slLit0 s_y bb12
  replace s_z := slLit0 s_z bb12
  replace s_w := slLit0 s_w bb12
  replace s_s := slLit0 s_s bb12
  clear b11 bb12
  go_wp2_with fail
  refine (pmin_any A_x (n_f) c_x (clateL f p) A_w (n_f) c_w (clateL g p) _ (s_x) (s_w) (by omega) (by omega)  (cminL (clateL f p) (clateL g p)) (0) (n_f) (cmin_yes C_x.out C_w.out (rfl)) ((tab_len _ _).trans C_x.out.len)).mono ?_
  rintro e w13 ⟨A_q, c_q, rfl, s_q, l_q, bb13⟩
  have b13 := belLit0 b12 bb13
  replace s_f := slLit0 s_f bb13
  replace s_g := slLit0 s_g bb13
  replace s_x := slLit0 s_x bb13
  replace s_y := slLit0 s_y bb13
  replace s_z := slLit0 s_z bb13
  replace s_w := slLit0 s_w bb13
  replace s_s := slLit0 s_s bb13
  replace s_pp := slLit0 s_pp bb13
  clear b12 bb13
  have C_q := Lib.hid (cmin_C C_x.out C_w.out)
  go_wp2_with fail
  refine (equal_t A_y (n_f) c_y (clateL f (p + q)) A_z (n_f) c_z (clateL f (p + q)) _ (s_y) (s_z) (by omega) (by omega)  (true) (dec_true (rfl))).mono ?_
  rintro e w14 ⟨rfl, bb14⟩
  have b14 := belLit0 b13 bb14
  replace s_f := slLit0 s_f bb14
  replace s_g := slLit0 s_g bb14
  replace s_x := slLit0 s_x bb14
  replace s_y := slLit0 s_y bb14
  replace s_z := slLit0 s_z bb14
  replace s_w := slLit0 s_w bb14
  replace s_s := slLit0 s_s bb14
  replace s_pp := slLit0 s_pp bb14
  replace s_q := slLit0 s_q bb14
  clear b13 bb14
  go_wp2_with fail
  refine (hle_t A_x (n_f) c_x (clateL f p) A_f (n_f) c_f (f) _ (s_x) (s_f) (by omega) (by omega)  (true) (late_le C_f.out p)).mono ?_
  rintro e w15 ⟨rfl, bb15⟩
  have b15 := belLit0 b14 bb15
  replace s_f := slLit0 s_f bb15
  replace s_g := slLit0 s_g bb15
  replace s_x := slLit0 s_x bb15
  replace s_y := slLit0 s_y bb15
  replace s_z := slLit0 s_z bb15
  replace s_w := slLit0 s_w bb15
  replace s_s := slLit0 s_s bb15
  replace s_pp := slLit0 s_pp bb15
  replace s_q := slLit0 s_q bb15
  clear b14 bb15
  go_wp2_with fail
  refine (equal_t A_pp (n_f) c_pp (clateL (cminL f g) p) A_q (n_f) c_q (cminL (clateL f p) (clateL g p)) _ (s_pp) (s_q) (by omega) (by omega)  (true) (dec_true (late_min C_f.out C_g.out p))).mono ?_
  rintro e w16 ⟨rfl, bb16⟩
  have b16 := belLit0 b15 bb16
  replace s_f := slLit0 s_f bb16
  replace s_g := slLit0 s_g bb16
  replace s_x := slLit0 s_x bb16
  replace s_y := slLit0 s_y bb16
  replace s_z := slLit0 s_z bb16
  replace s_w := slLit0 s_w bb16
  replace s_s := slLit0 s_s bb16
  replace s_pp := slLit0 s_pp bb16
  replace s_q := slLit0 s_q bb16
  clear b15 bb16
  clear s_f s_g s_x s_y s_z s_w s_s s_pp s_q
  go_wp2_with fail
  go_ret
  exact ⟨rfl, b16⟩
end Go.Proofs.Ytkofgejkicjdoaa
