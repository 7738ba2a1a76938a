/- CatchBy: a backlog with conforming arrivals is cleared by the computed time. -/
import Derived.Test.YtbadhngjkjoiiaaPlanA
import Derived.Test.YtbadhngjkjoiiaaSlotsA
import Derived.Test.YtbadhngjkjoiiaaBoundA
import Derived.Test.YtbadhngjkjoiiaaLawKit
set_option linter.unusedVariables false
namespace Go.Proofs.Ytbadhngjkjoiiaa
open Go.RowKit
theorem cdone_t (A : Option Addr) (n c : Nat) (a : List Int) (r g : Int) (W : World) (hs : Sl W W.heap.size A n (ints a)) (hn : n ≤ 9223372036854775807) (h : catchOk a r g) (t : Nat) (ht : firstZ (clag a r g) (n + 1) t) (v er : Int) (hv : (((t : Int), (0 : Int)) : Int × Int) = (v, er)) :
    Calls Try.prog 15 #[.slice A n c, .int .i64 r, .int .i64 g] W fun e w' => e = .returned (.tuple #[.int .i64 v, .int .i64 er]) ∧ Below W.heap.size W w' := by
  injection hv with e1 e2
  subst e1 e2
  refine (cdone_ok A n c a r g W h hs).mono ?_
  rintro e w' ⟨h1, h2⟩
  refine ⟨?_, h2⟩
  rcases h1 with ⟨u, rfl, hu⟩ | ⟨rfl, hu⟩
  · have : u = t := by
      rcases Nat.lt_trichotomy u t with h | h | h
      · exact absurd hu.2.1 (ht.2.2 u h)
      · exact h
      · exact absurd ht.2.1 (hu.2.2 t h)
    rw [this]
  · exact absurd ht.2.1 (hu t ht.1)
theorem clag_line {a : List Int} {r g : Int} (h : ∀ i, clag a r g i ≠ 0 ∨ True) (n : Nat) (hn : ∀ i, i ≤ n → clag a r g i ≠ 0) : clag a r g n = g + psum a n - r * n := by
  induction n with
  | zero => show g = g + 0 - r * ((0 : Nat) : Int); simp
  | succ n ih =>
    have e := ih fun i hi => hn i (by omega)
    have z := hn (n + 1) (Nat.le_refl _)
    rw [clag_succ] at z ⊢
    have m := mx_le 0 (clag a r g n + gi a n - r)
    rcases m.2.2 with k | k
    · exact absurd k z
    · rw [k, e, psum_succ]
      rw [show ((n + 1 : Nat) : Int) = (n : Int) + 1 by omega, Int.mul_add, Int.mul_one]
      omega
/-- Cleared by the computed time. -/
theorem catch_by {a l : List Int} {n : Nat} {r g : Int} (hl : IsC n l) (hn : n = a.length + 1) (hf : fitB n (cumul a) l = true) (hc : catchOk a r g) {x : Nat} (hx : x < n) (hb : boundP l r g x) : ∃ t, t ≤ x ∧ firstZ (clag a r g) (a.length + 1) t := by
  have key : ¬ ∀ i, i ≤ x → clag a r g i ≠ 0 := by
    intro h
    have e := clag_line (fun i => .inr trivial) x h
    have f := of_decide_eq_true hf x hx 0 (Nat.zero_le _)
    rw [cumul_get (by omega), cumul_get (by omega), Nat.sub_zero] at f
    have b := (clag_bd hc x (by omega)).1
    have z := h x (Nat.le_refl _)
    unfold boundP at hb
    have p0 : psum a 0 = 0 := rfl
    omega
  rcases firstZ_or (clag a r g) (x + 1) with ⟨t, h1, h2, h3⟩ | h
  · exact ⟨t, by omega, by omega, h2, h3⟩
  · exact absurd (fun i hi => h i (by omega)) key
theorem bound_bad (A : Option Addr) (n c : Nat) (f : List Int) (r g : Int) (W : World) (hs : Sl W W.heap.size A n (ints f)) (hn : n ≤ 9223372036854775807) (hf : IsC n f) (hr : ¬ rateOk r g) (v er : Int) (h : (((0 : Int), (1 : Int)) : Int × Int) = (v, er)) :
    Calls Try.prog 23 #[.slice A n c, .int .i64 r, .int .i64 g] W fun e w' => e = .returned (.tuple #[.int .i64 v, .int .i64 er]) ∧ Below W.heap.size W w' := by
  injection h with e1 e2
  subst e1 e2
  have HE := Lib.hid hf.err
  have R := Lib.hid hr
  clear hf hr
  go_enter Try.func23, Try.ntmps23
  go_wp2_with fail
  refine (ccheck_any A n c f _ _ hs hn).mono ?_
  rintro e w' ⟨rfl, rfl⟩
  rw [HE.out]
  go_wp2_with fail
  refine (clook_bad r g _ R.out).mono ?_
  rintro e w' ⟨rfl, rfl⟩
  clear hs
  go_wp2_with fail
  go_ret2
  exact ⟨rfl, Below.refl _ _⟩
set_option maxRecDepth 100000 in
set_option maxHeartbeats 3200000 in
theorem catchBy_walk (A_a : Option Addr) (n_a c_a : Nat) (a : List Int) (A_l : Option Addr) (n_l c_l : Nat) (l : List Int) (r : Int) (g : Int) (W : World) (w_a : InInts W A_a n_a c_a a) (w_l : InInts W A_l n_l c_l l) (w_r : -9223372036854775808 ≤ r ∧ r ≤ 9223372036854775807) (w_g : -9223372036854775808 ≤ g ∧ g ≤ 9223372036854775807) :
    Calls Try.prog 14 #[.slice A_a n_a c_a, .slice A_l n_l c_l, .int .i64 r, .int .i64 g] W fun e w' => e = .returned (.bool true) ∧ Below W.heap.size W w' := by
  obtain ⟨s_a, l_a, r_a, _⟩ := w_a
  obtain ⟨s_l, l_l, r_l, _⟩ := w_l
  have b0 := Below.refl W.heap.size W
  go_enter Try.func14, Try.ntmps14
  have r1 : Hid (rateOk 3 4) := ⟨by omega, by omega, by omega, by omega⟩
  go_wp2_with fail
  refine (bound_any _ 4 _ [0, 3, 4, 5] (3) (4) _ (Sl.built_ _ (ints [0, 3, 4, 5]) 3 _ rfl rfl) (by omega) (isC_iff.2 ⟨by decide +kernel, rfl⟩) r1.out (((3 : Nat) : Int)) (0) (.inl ⟨3, by omega, by unfold boundP; decide, by unfold boundP; decide, rfl, rfl⟩)).mono ?_
  rintro e w1 ⟨rfl, bb1⟩
  have b1 := belLit1 b0 bb1
  replace s_a := slLit1 s_a bb1
  replace s_l := slLit1 s_l bb1
  clear b0 bb1
  go_wp2_with fail
  refine (cdone_t _ 3 _ [3, 1, 1] (3) (4) _ (Sl.built_ _ (ints [3, 1, 1]) 3 _ rfl rfl) (by omega) ⟨⟨by decide, by decide⟩, r1.out⟩ 3 ⟨by omega, by decide, by decide⟩ (((3 : Nat) : Int)) (0) (rfl)).mono ?_
  rintro e w2 ⟨rfl, bb2⟩
  have b2 := belLit1 b1 bb2
  replace s_a := slLit1 s_a bb2
  replace s_l := slLit1 s_l bb2
  clear b1 bb2
  have hl_a := s_a.int_len
  have hl_l := s_l.int_len
  by_cases hok : traceOk a
  case neg =>
    have hne := traceErr_ne a
    have HOK := Lib.hid hok
    clear hok hl_a hl_l
    go_wp2_with fail
    refine (tsum_no A_a (n_a) c_a (a) _ (s_a) (by omega) HOK.out ([]) (traceErr a) (0) (rfl) (rfl)).mono ?_
    rintro e w3 ⟨A_x, c_x, rfl, s_x, l_x, bb3⟩
    have b3 := belLit0 b2 bb3
    replace s_a := slLit0 s_a bb3
    replace s_l := slLit0 s_l bb3
    clear b2 bb3
    clear s_a s_l s_x
    go_wp2_with fail
    go_ret
    exact ⟨rfl, b3⟩
  have HOK := Lib.hid hok
  have t_a := hok.1
  rw [hl_a] at t_a
  have c_1 := cumul_C hok
  rw [hl_a] at c_1
  have C_x := Lib.hid c_1
  have HLA := Lib.hid hl_a
  clear hok c_1
  go_wp2_with fail
  refine (tsum_ok A_a (n_a) c_a (a) _ (s_a) (by omega) HOK.out (cumul a) (0) (n_a + 1) (rfl) (C_x.out.len)).mono ?_
  rintro e w4 ⟨A_x, c_x, rfl, s_x, l_x, bb4⟩
  have b4 := belLit0 b2 bb4
  replace s_a := slLit0 s_a bb4
  replace s_l := slLit0 s_l bb4
  clear b2 bb4
  by_cases hb : bothB (cumul a) l = true
  case neg =>
    have HB := Lib.hid (Bool.eq_false_iff.2 hb)
    clear hb hl_a hl_l
    go_wp2_with fail
    refine (hboth_t A_x (n_a + 1) c_x (cumul a) A_l (n_l) c_l (l) _ (s_x) (s_l) (by omega) (by omega)  (false) (HB.out)).mono ?_
    rintro e w5 ⟨rfl, bb5⟩
    have b5 := belLit0 b4 bb5
    replace s_a := slLit0 s_a bb5
    replace s_l := slLit0 s_l bb5
    replace s_x := slLit0 s_x bb5
    clear b4 bb5
    clear s_a s_l s_x
    go_wp2_with fail
    go_ret
    exact ⟨rfl, b5⟩
  obtain ⟨e1, -, c_l⟩ := both_C hb C_x.out.len hl_l
  have HB := Lib.hid hb
  subst e1
  have C_l := Lib.hid c_l
  clear hb hl_a hl_l c_l
  go_wp2_with fail
  refine (hboth_t A_x (n_a + 1) c_x (cumul a) A_l (n_a + 1) c_l (l) _ (s_x) (s_l) (by omega) (by omega)  (true) (HB.out)).mono ?_
  rintro e w6 ⟨rfl, bb6⟩
  have b6 := belLit0 b4 bb6
  replace s_a := slLit0 s_a bb6
  replace s_l := slLit0 s_l bb6
  replace s_x := slLit0 s_x bb6
  clear b4 bb6
  by_cases h1 : fitB (n_a + 1) (cumul a) l = true
  · have H1 := Lib.hid h1
    clear h1
    go_wp2_with fail
    refine (fits_any A_x (n_a + 1) c_x (cumul a) A_l (n_a + 1) c_l (l) _ (s_x) (s_l) (by omega) (by omega) C_x.out C_l.out rfl (true) (0) (by rw [H1.out])).mono ?_
    rintro e w7 ⟨rfl, bb7⟩
    have b7 := belLit0 b6 bb7
    replace s_a := slLit0 s_a bb7
    replace s_l := slLit0 s_l bb7
    replace s_x := slLit0 s_x bb7
    clear b6 bb7
    by_cases hr : rateOk r g
    case neg =>
      have HR := Lib.hid hr
      clear hr
      go_wp2_with fail
      refine (bound_bad A_l (n_a + 1) c_l (l) (r) (g) _ (s_l) (by omega) C_l.out HR.out (0) (1) (rfl)).mono ?_
      rintro e w8 ⟨rfl, bb8⟩
      have b8 := belLit0 b7 bb8
      replace s_a := slLit0 s_a bb8
      replace s_l := slLit0 s_l bb8
      replace s_x := slLit0 s_x bb8
      clear b7 bb8
      clear s_a s_l s_x
      go_wp2_with fail
      go_ret
      exact ⟨rfl, b8⟩
    have HR := Lib.hid hr
    clear hr
    rcases boundR_ex (n_a + 1) l r g with ⟨x, q1, q2, q3, q4⟩ | ⟨q1, q2⟩
    · have Q4 := Lib.hid q4
      have Q2 := Lib.hid q2
      clear q2 q3 q4
      go_wp2_with fail
      refine (bound_any A_l (n_a + 1) c_l (l) (r) (g) _ (s_l) (by omega) C_l.out HR.out ((x : Int)) (0) (Q4.out)).mono ?_
      rintro e w9 ⟨rfl, bb9⟩
      have b9 := belLit0 b7 bb9
      replace s_a := slLit0 s_a bb9
      replace s_l := slLit0 s_l bb9
      replace s_x := slLit0 s_x bb9
      clear b7 bb9
      obtain ⟨d, d1, d2⟩ := catch_by C_l.out (by rw [HLA.out]) H1.out ⟨HOK.out, HR.out⟩ q1 Q2.out
      rw [HLA.out] at d2
      have D2 := Lib.hid d2
      have d3 : (d : Int) ≤ x := by omega
      clear d2
      go_wp2_with fail
      refine (cdone_t A_a (n_a) c_a (a) (r) (g) _ (s_a) (by omega) ⟨HOK.out, HR.out⟩ d D2.out ((d : Int)) (0) (rfl)).mono ?_
      rintro e w10 ⟨rfl, bb10⟩
      have b10 := belLit0 b9 bb10
      replace s_a := slLit0 s_a bb10
      replace s_l := slLit0 s_l bb10
      replace s_x := slLit0 s_x bb10
      clear b9 bb10
      clear s_a s_l s_x
      go_wp2_with fail
      go_ret
      exact ⟨rfl, b10⟩
    · have Q4 := Lib.hid q2
      clear q1 q2
      go_wp2_with fail
      refine (bound_any A_l (n_a + 1) c_l (l) (r) (g) _ (s_l) (by omega) C_l.out HR.out (0) (5) (Q4.out)).mono ?_
      rintro e w11 ⟨rfl, bb11⟩
      have b11 := belLit0 b7 bb11
      replace s_a := slLit0 s_a bb11
      replace s_l := slLit0 s_l bb11
      replace s_x := slLit0 s_x bb11
      clear b7 bb11
      clear s_a s_l s_x
      go_wp2_with fail
      go_ret
      exact ⟨rfl, b11⟩
  · have H1 := Lib.hid h1
    clear h1
    have B1 := Lib.hid (Bool.eq_false_iff.2 H1.out)
    go_wp2_with fail
    refine (fits_any A_x (n_a + 1) c_x (cumul a) A_l (n_a + 1) c_l (l) _ (s_x) (s_l) (by omega) (by omega) C_x.out C_l.out rfl (false) (0) (by rw [B1.out])).mono ?_
    rintro e w12 ⟨rfl, bb12⟩
    have b12 := belLit0 b6 bb12
    replace s_a := slLit0 s_a bb12
    replace s_l := slLit0 s_l bb12
    replace s_x := slLit0 s_x bb12
    clear b6 bb12
    by_cases hr : rateOk r g
    case neg =>
      have HR := Lib.hid hr
      clear hr
      go_wp2_with fail
      refine (bound_bad A_l (n_a + 1) c_l (l) (r) (g) _ (s_l) (by omega) C_l.out HR.out (0) (1) (rfl)).mono ?_
      rintro e w13 ⟨rfl, bb13⟩
      have b13 := belLit0 b12 bb13
      replace s_a := slLit0 s_a bb13
      replace s_l := slLit0 s_l bb13
      replace s_x := slLit0 s_x bb13
      clear b12 bb13
      clear s_a s_l s_x
      go_wp2_with fail
      go_ret
      exact ⟨rfl, b13⟩
    have HR := Lib.hid hr
    clear hr
    rcases boundR_ex (n_a + 1) l r g with ⟨x, q1, q2, q3, q4⟩ | ⟨q1, q2⟩
    · have Q4 := Lib.hid q4
      have Q2 := Lib.hid q2
      clear q2 q3 q4
      go_wp2_with fail
      refine (bound_any A_l (n_a + 1) c_l (l) (r) (g) _ (s_l) (by omega) C_l.out HR.out ((x : Int)) (0) (Q4.out)).mono ?_
      rintro e w14 ⟨rfl, bb14⟩
      have b14 := belLit0 b12 bb14
      replace s_a := slLit0 s_a bb14
      replace s_l := slLit0 s_l bb14
      replace s_x := slLit0 s_x bb14
      clear b12 bb14
      clear s_a s_l s_x
      go_wp2_with fail
      go_ret
      exact ⟨rfl, b14⟩
    · have Q4 := Lib.hid q2
      clear q1 q2
      go_wp2_with fail
      refine (bound_any A_l (n_a + 1) c_l (l) (r) (g) _ (s_l) (by omega) C_l.out HR.out (0) (5) (Q4.out)).mono ?_
      rintro e w15 ⟨rfl, bb15⟩
      have b15 := belLit0 b12 bb15
      replace s_a := slLit0 s_a bb15
      replace s_l := slLit0 s_l bb15
      replace s_x := slLit0 s_x bb15
      clear b12 bb15
      clear s_a s_l s_x
      go_wp2_with fail
      go_ret
      exact ⟨rfl, b15⟩
end Go.Proofs.Ytbadhngjkjoiiaa
