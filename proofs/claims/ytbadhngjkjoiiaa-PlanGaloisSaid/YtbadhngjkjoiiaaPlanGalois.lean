/- PlanGalois: Galois connection between backlog and rate. -/
import Derived.Test.YtbadhngjkjoiiaaPlanA
import Derived.Test.YtbadhngjkjoiiaaLawKit
set_option linter.unusedVariables false
namespace Go.Proofs.Ytbadhngjkjoiiaa
open Go.RowKit
/-- Room for the lag at the rate, or the rate at least the one reckoned for it: one of both, both. -/
theorem plan_galois {n : Nat} {f : List Int} (hf : IsC n f) {r g : Int} (r0 : 0 ≤ r) (r1 : r ≤ 10000) (g0 : 0 ≤ g) {k : Nat} (hk : k < n) :
    (0 ≤ rm (gi f) r (k + 1) ∧ g ≤ rm (gi f) r (k + 1)) ↔ (g + gi f 0 = 0 ∨ (0 ≤ rb (gi f) g k ∧ rb (gi f) g k ≤ r)) := by
  obtain ⟨i0, i1, i2, i3⟩ := rb_spec g0 hf.lo k hk
  constructor
  · rintro ⟨h1, h2⟩
    rcases rm_ex (gi f) r (k + 1) with e | ⟨t, t1, e⟩
    · omega
    · rcases Nat.eq_zero_or_pos t with rfl | ht
      · have := hf.lo 0 hf.pos
        rw [show r * ((0 : Nat) : Int) = 0 by simp] at e
        exact .inl (by omega)
      · refine .inr ⟨i1 (by omega), ?_⟩
        have a := i2 t ht (by omega)
        have b := (rt_le (f := gi f) (lag := g) (c := r) ht).2 (by omega)
        omega
  · intro h
    rcases h with h | ⟨h1, h2⟩
    · have a := le_rm (gi f) r (k := k + 1) (t := 0) (by omega)
      rw [show r * ((0 : Nat) : Int) = 0 by simp] at a
      have := hf.lo 0 hf.pos
      omega
    · have kp : 0 < k := by
        rcases Nat.eq_zero_or_pos k with h | h
        · have := i0 h; omega
        · exact h
      obtain ⟨t, t1, t2, t3⟩ := i3 kp
      have a := (rt_le (f := gi f) (lag := g) (c := r) t1).1 (by omega)
      have b := le_rm (gi f) r (k := k + 1) (t := t) (by omega)
      omega
set_option maxRecDepth 100000 in
set_option maxHeartbeats 3200000 in
theorem planGalois_walk (A_f : Option Addr) (n_f c_f : Nat) (f : List Int) (r : Int) (g : Int) (d : Int) (W : World) (w_f : InInts W A_f n_f c_f f) (w_r : -9223372036854775808 ≤ r ∧ r ≤ 9223372036854775807) (w_g : -9223372036854775808 ≤ g ∧ g ≤ 9223372036854775807) (w_d : -9223372036854775808 ≤ d ∧ d ≤ 9223372036854775807) :
    Calls Try.prog 7 #[.slice A_f n_f c_f, .int .i64 r, .int .i64 g, .int .i64 d] W fun e w' => e = .returned (.bool true) ∧ Below W.heap.size W w' := by
  obtain ⟨s_f, l_f, r_f, _⟩ := w_f
  have b0 := Below.refl W.heap.size W
  go_enter Try.func7, Try.ntmps7
  go_wp2_with fail
  refine (room_any _ 2 _ [0, 9] (2) (1) _ (Sl.built_ _ (ints [0, 9]) 3 _ rfl rfl) (by omega) (isC_iff.2 ⟨by decide +kernel, rfl⟩) (by omega) (by omega) (by omega) (by omega) (0) (0) (by decide +kernel)).mono ?_
  rintro e w1 ⟨rfl, bb1⟩
  have b1 := belLit1 b0 bb1
  replace s_f := slLit1 s_f bb1
  clear b0 bb1
  go_wp2_with fail
  refine (rate_any _ 2 _ [0, 9] (1) (1) _ (Sl.built_ _ (ints [0, 9]) 3 _ rfl rfl) (by omega) (isC_iff.2 ⟨by decide +kernel, rfl⟩) (by omega) (by omega) (by omega) (by omega) (10) (0) (by decide +kernel)).mono ?_
  rintro e w2 ⟨rfl, bb2⟩
  have b2 := belLit1 b1 bb2
  replace s_f := slLit1 s_f bb2
  clear b1 bb2
  go_wp2_with fail
  refine (within_t (r) (10001) _   (by omega) (by omega) (within r 10001) (rfl)).mono ?_
  rintro e w3 ⟨rfl, rfl⟩
  go_wp2_with fail
  refine (within_t (g) (1000001) _   (by omega) (by omega) (within g 1000001) (rfl)).mono ?_
  rintro e w4 ⟨rfl, rfl⟩
  have lo_r := within_lo r 10001 (by omega)
  have hi_r := within_hi r 10001 (by omega)
  generalize within r 10001 = r' at *
  have lo_g := within_lo g 1000001 (by omega)
  have hi_g := within_hi g 1000001 (by omega)
  generalize within g 1000001 = g' at *
  have hl_f := s_f.int_len
  by_cases hok : planE n_f f d = 0
  case neg =>
    have HE : Hid (planE n_f f d ≠ 0) := hok
    obtain ⟨e, he⟩ : ∃ e, planE n_f f d = e := ⟨_, rfl⟩
    have EE := Lib.hid he
    have he3 : e = 1 ∨ e = 2 ∨ e = 3 := by
      rw [← he]
      unfold planE at hok ⊢
      split at hok
      · rename_i h1
        split at hok
        · rename_i h2; rw [if_pos h1, if_pos h2]; exact .inl rfl
        · exact absurd rfl hok
      · rename_i h1; rw [if_neg h1]; exact curveErr_123 h1
    clear hok hl_f he
    rcases he3 with h3 | h3 | h3
    · subst h3
      go_wp2_with fail
      refine (room_bad A_f (n_f) c_f (f) (r') (d) _ (s_f) (by omega) HE.out (0) (_) (by rw [EE.out])).mono ?_
      rintro e w5 ⟨rfl, bb5⟩
      have b5 := belLit0 b2 bb5
      replace s_f := slLit0 s_f bb5
      clear b2 bb5
      go_wp2_with fail
      refine (rate_bad A_f (n_f) c_f (f) (g') (d) _ (s_f) (by omega) HE.out (0) (_) (by rw [EE.out])).mono ?_
      rintro e w6 ⟨rfl, bb6⟩
      have b6 := belLit0 b5 bb6
      replace s_f := slLit0 s_f bb6
      clear b5 bb6
      clear s_f
      go_wp2_with fail
      go_ret
      exact ⟨rfl, b6⟩
    · subst h3
      go_wp2_with fail
      refine (room_bad A_f (n_f) c_f (f) (r') (d) _ (s_f) (by omega) HE.out (0) (_) (by rw [EE.out])).mono ?_
      rintro e w7 ⟨rfl, bb7⟩
      have b7 := belLit0 b2 bb7
      replace s_f := slLit0 s_f bb7
      clear b2 bb7
      go_wp2_with fail
      refine (rate_bad A_f (n_f) c_f (f) (g') (d) _ (s_f) (by omega) HE.out (0) (_) (by rw [EE.out])).mono ?_
      rintro e w8 ⟨rfl, bb8⟩
      have b8 := belLit0 b7 bb8
      replace s_f := slLit0 s_f bb8
      clear b7 bb8
      clear s_f
      go_wp2_with fail
      go_ret
      exact ⟨rfl, b8⟩
    · subst h3
      go_wp2_with fail
      refine (room_bad A_f (n_f) c_f (f) (r') (d) _ (s_f) (by omega) HE.out (0) (_) (by rw [EE.out])).mono ?_
      rintro e w9 ⟨rfl, bb9⟩
      have b9 := belLit0 b2 bb9
      replace s_f := slLit0 s_f bb9
      clear b2 bb9
      go_wp2_with fail
      refine (rate_bad A_f (n_f) c_f (f) (g') (d) _ (s_f) (by omega) HE.out (0) (_) (by rw [EE.out])).mono ?_
      rintro e w10 ⟨rfl, bb10⟩
      have b10 := belLit0 b9 bb10
      replace s_f := slLit0 s_f bb10
      clear b9 bb10
      clear s_f
      go_wp2_with fail
      go_ret
      exact ⟨rfl, b10⟩
  have HE := Lib.hid hok
  obtain ⟨h1, d0, d1⟩ := planE_ok hok
  have cf := isC_of h1
  rw [hl_f] at cf
  have C_f := Lib.hid cf
  have t_f := cf.top
  have u_f := cf.pos
  clear cf hl_f h1 hok
  obtain ⟨k, rfl⟩ := Int.eq_ofNat_of_zero_le d0
  have hk : k < n_f := by omega
  have PG := plan_galois C_f.out lo_r (by omega) lo_g hk
  obtain ⟨v, hv⟩ : ∃ v, rm (gi f) r' (k + 1) = v := ⟨_, rfl⟩
  obtain ⟨c, hc⟩ : ∃ c, rb (gi f) g' k = c := ⟨_, rfl⟩
  have V := Lib.hid hv
  have C := Lib.hid hc
  rw [hv, hc] at PG
  clear hv hc
  by_cases hneg : v < 0
  ·
    have RV : Hid (roomV f r' k = (0, 5)) := by show _ = _; unfold roomV; rw [V.out, if_pos hneg]
    by_cases h0 : g' + gi f 0 = 0
    ·
      have QV : Hid (rateV f g' k = (0, 0)) := by show _ = _; unfold rateV; rw [if_pos h0]
      have := PG.2 (.inl h0)
      omega
    ·
      by_cases hbad : c < 0 ∨ 10000 < c
      ·
        have QV : Hid (rateV f g' k = (0, 5)) := by show _ = _; unfold rateV; rw [if_neg h0, C.out, if_pos hbad]
        clear PG h0 hbad
        go_wp2_with fail
        refine (room_any A_f (n_f) c_f (f) (r') ((k : Int)) _ (s_f) (by omega) C_f.out lo_r (by omega) (by omega) d1 (0) (5) (RV.out)).mono ?_
        rintro e w11 ⟨rfl, bb11⟩
        have b11 := belLit0 b2 bb11
        replace s_f := slLit0 s_f bb11
        clear b2 bb11
        go_wp2_with fail
        refine (rate_any A_f (n_f) c_f (f) (g') ((k : Int)) _ (s_f) (by omega) C_f.out lo_g (by omega) (by omega) d1 (0) (5) (QV.out)).mono ?_
        rintro e w12 ⟨rfl, bb12⟩
        have b12 := belLit0 b11 bb12
        replace s_f := slLit0 s_f bb12
        clear b11 bb12
        clear s_f
        go_wp2_with fail
        go_ret
        exact ⟨rfl, b12⟩
      ·
        have QV : Hid (rateV f g' k = (c, 0)) := by show _ = _; unfold rateV; rw [if_neg h0, C.out, if_neg hbad]
        have x1 : decide (c ≤ r') = false := decide_eq_false fun h => by have := PG.2 (.inr ⟨by omega, h⟩); omega
        clear PG h0 hbad
        go_wp2_with fail
        refine (room_any A_f (n_f) c_f (f) (r') ((k : Int)) _ (s_f) (by omega) C_f.out lo_r (by omega) (by omega) d1 (0) (5) (RV.out)).mono ?_
        rintro e w13 ⟨rfl, bb13⟩
        have b13 := belLit0 b2 bb13
        replace s_f := slLit0 s_f bb13
        clear b2 bb13
        go_wp2_with fail
        refine (rate_any A_f (n_f) c_f (f) (g') ((k : Int)) _ (s_f) (by omega) C_f.out lo_g (by omega) (by omega) d1 (c) (0) (QV.out)).mono ?_
        rintro e w14 ⟨rfl, bb14⟩
        have b14 := belLit0 b13 bb14
        replace s_f := slLit0 s_f bb14
        clear b13 bb14
        clear s_f
        go_wp2_with fail
        go_ret
        exact ⟨rfl, b14⟩
  ·
    have RV : Hid (roomV f r' k = (v, 0)) := by show _ = _; unfold roomV; rw [V.out, if_neg hneg]
    by_cases h0 : g' + gi f 0 = 0
    ·
      have QV : Hid (rateV f g' k = (0, 0)) := by show _ = _; unfold rateV; rw [if_pos h0]
      have x1 := decide_eq_true (PG.2 (.inl h0)).2
      have x2 := decide_eq_true lo_r
      clear PG h0
      go_wp2_with fail
      refine (room_any A_f (n_f) c_f (f) (r') ((k : Int)) _ (s_f) (by omega) C_f.out lo_r (by omega) (by omega) d1 (v) (0) (RV.out)).mono ?_
      rintro e w15 ⟨rfl, bb15⟩
      have b15 := belLit0 b2 bb15
      replace s_f := slLit0 s_f bb15
      clear b2 bb15
      go_wp2_with fail
      refine (rate_any A_f (n_f) c_f (f) (g') ((k : Int)) _ (s_f) (by omega) C_f.out lo_g (by omega) (by omega) d1 (0) (0) (QV.out)).mono ?_
      rintro e w16 ⟨rfl, bb16⟩
      have b16 := belLit0 b15 bb16
      replace s_f := slLit0 s_f bb16
      clear b15 bb16
      clear s_f
      go_wp2_with fail
      go_ret
      exact ⟨rfl, b16⟩
    ·
      by_cases hbad : c < 0 ∨ 10000 < c
      ·
        have QV : Hid (rateV f g' k = (0, 5)) := by show _ = _; unfold rateV; rw [if_neg h0, C.out, if_pos hbad]
        have x1 : decide (g' ≤ v) = false := decide_eq_false fun h => by have := PG.1 ⟨by omega, h⟩; omega
        clear PG h0 hbad
        go_wp2_with fail
        refine (room_any A_f (n_f) c_f (f) (r') ((k : Int)) _ (s_f) (by omega) C_f.out lo_r (by omega) (by omega) d1 (v) (0) (RV.out)).mono ?_
        rintro e w17 ⟨rfl, bb17⟩
        have b17 := belLit0 b2 bb17
        replace s_f := slLit0 s_f bb17
        clear b2 bb17
        go_wp2_with fail
        refine (rate_any A_f (n_f) c_f (f) (g') ((k : Int)) _ (s_f) (by omega) C_f.out lo_g (by omega) (by omega) d1 (0) (5) (QV.out)).mono ?_
        rintro e w18 ⟨rfl, bb18⟩
        have b18 := belLit0 b17 bb18
        replace s_f := slLit0 s_f bb18
        clear b17 bb18
        clear s_f
        go_wp2_with fail
        go_ret
        exact ⟨rfl, b18⟩
      ·
        have QV : Hid (rateV f g' k = (c, 0)) := by show _ = _; unfold rateV; rw [if_neg h0, C.out, if_neg hbad]
        by_cases hx : g' ≤ v
        ·
          have x1 : decide (c ≤ r') = true := decide_eq_true (by have := PG.1 ⟨by omega, hx⟩; omega)
          have x2 := decide_eq_true hx
          clear hx
          clear PG h0 hbad
          go_wp2_with fail
          refine (room_any A_f (n_f) c_f (f) (r') ((k : Int)) _ (s_f) (by omega) C_f.out lo_r (by omega) (by omega) d1 (v) (0) (RV.out)).mono ?_
          rintro e w19 ⟨rfl, bb19⟩
          have b19 := belLit0 b2 bb19
          replace s_f := slLit0 s_f bb19
          clear b2 bb19
          go_wp2_with fail
          refine (rate_any A_f (n_f) c_f (f) (g') ((k : Int)) _ (s_f) (by omega) C_f.out lo_g (by omega) (by omega) d1 (c) (0) (QV.out)).mono ?_
          rintro e w20 ⟨rfl, bb20⟩
          have b20 := belLit0 b19 bb20
          replace s_f := slLit0 s_f bb20
          clear b19 bb20
          clear s_f
          go_wp2_with fail
          go_ret
          exact ⟨rfl, b20⟩
        ·
          have x1 : decide (c ≤ r') = false := decide_eq_false fun h => by have := PG.2 (.inr ⟨by omega, h⟩); omega
          have x2 := decide_eq_false hx
          clear PG h0 hbad hx
          go_wp2_with fail
          refine (room_any A_f (n_f) c_f (f) (r') ((k : Int)) _ (s_f) (by omega) C_f.out lo_r (by omega) (by omega) d1 (v) (0) (RV.out)).mono ?_
          rintro e w21 ⟨rfl, bb21⟩
          have b21 := belLit0 b2 bb21
          replace s_f := slLit0 s_f bb21
          clear b2 bb21
          go_wp2_with fail
          refine (rate_any A_f (n_f) c_f (f) (g') ((k : Int)) _ (s_f) (by omega) C_f.out lo_g (by omega) (by omega) d1 (c) (0) (QV.out)).mono ?_
          rintro e w22 ⟨rfl, bb22⟩
          have b22 := belLit0 b21 bb22
          replace s_f := slLit0 s_f bb22
          clear b21 bb22
          clear s_f
          go_wp2_with fail
          go_ret
          exact ⟨rfl, b22⟩
end Go.Proofs.Ytbadhngjkjoiiaa
