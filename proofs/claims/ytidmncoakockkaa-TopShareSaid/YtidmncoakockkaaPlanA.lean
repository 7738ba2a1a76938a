/- plan.look, Rate, Room, catch.Bound. -/
import Derived.Test.YtidmncoakockkaaCurveB
import Derived.Test.YtidmncoakockkaaPlanP
import Derived.Test.YtidmncoakockkaaCatchA
set_option linter.unusedVariables false
namespace Go.Proofs.Ytidmncoakockkaa
open Go.RowKit
theorem plook_ok (A : Option Addr) (n c : Nat) (f : List Int) (d : Nat) (W : World) (B : Nat) (hs : Sl W B A n (ints f)) (hf : IsC n f) (hd : d < n) :
    Calls Try.prog 53 #[.slice A n c, .int .i64 d] W fun e w' => e = .returned (.int .i64 0) ∧ W = w' := by
  have H := Lib.hid hf.err
  have hn := hf.top
  have h0 : (0 : Int) ≤ d := by omega
  have h1 : (d : Int) < n := by omega
  clear hf
  go_enter Try.func53, Try.ntmps53
  go_wp2_with fail
  refine (ccheck_any A n c f _ _ hs (by omega)).mono ?_
  rintro e w' ⟨rfl, rfl⟩
  rw [H.out]
  clear hs
  go_wp2_with fail
  go_ret
  exact ⟨rfl, rfl⟩
theorem plook_any (A : Option Addr) (n c : Nat) (f : List Int) (d : Int) (W : World) (B : Nat) (hs : Sl W B A n (ints f)) (hn : n ≤ 9223372036854775807) :
    Calls Try.prog 53 #[.slice A n c, .int .i64 d] W fun e w' => e = .returned (.int .i64 (planE n f d)) ∧ W = w' := by
  by_cases h : curveErr f = 0
  · have H := Lib.hid h
    by_cases h1 : d < 0
    · have e : Hid (planE n f d = 1) := by show _ = _; unfold planE; rw [if_pos h, if_pos (.inl h1)]
      clear h
      go_enter Try.func53, Try.ntmps53
      go_wp2_with fail
      refine (ccheck_any A n c f _ _ hs hn).mono ?_
      rintro e w' ⟨rfl, rfl⟩
      rw [H.out]
      clear hs
      go_wp2_with fail
      go_ret
      exact ⟨by rw [e.out]; rfl, rfl⟩
    · by_cases h2 : (n : Int) ≤ d
      · have e : Hid (planE n f d = 1) := by show _ = _; unfold planE; rw [if_pos h, if_pos (.inr h2)]
        clear h
        go_enter Try.func53, Try.ntmps53
        go_wp2_with fail
        refine (ccheck_any A n c f _ _ hs hn).mono ?_
        rintro e w' ⟨rfl, rfl⟩
        rw [H.out]
        clear hs
        go_wp2_with fail
        go_ret
        exact ⟨by rw [e.out]; rfl, rfl⟩
      · have e : planE n f d = 0 := by unfold planE; rw [if_pos h, if_neg (by omega)]
        rw [e]
        obtain ⟨k, rfl⟩ := Int.eq_ofNat_of_zero_le (show 0 ≤ d by omega)
        exact plook_ok A n c f k W B hs (by have := isC_of h; rwa [hs.int_len] at this) (by omega)
  · have hne : (curveErr f != 0) = true := by simpa using h
    have e : Hid (planE n f d = curveErr f) := by show _ = _; unfold planE; rw [if_neg h]
    clear h
    go_enter Try.func53, Try.ntmps53
    go_wp2_with fail
    refine (ccheck_any A n c f _ _ hs hn).mono ?_
    rintro e w' ⟨rfl, rfl⟩
    clear hs
    go_wp2_with fail
    go_ret
    exact ⟨by rw [e.out]; rfl, rfl⟩
/-- Rate and Room refuse what look refuses. -/
theorem rate_bad (A : Option Addr) (n c : Nat) (f : List Int) (lag d : Int) (W : World) (hs : Sl W W.heap.size A n (ints f)) (hn : n ≤ 9223372036854775807) (h : planE n f d ≠ 0) (v er : Int) (hv : (((0 : Int), planE n f d) : Int × Int) = (v, er)) :
    Calls Try.prog 29 #[.slice A n c, .int .i64 lag, .int .i64 d] W fun e w' => e = .returned (.tuple #[.int .i64 v, .int .i64 er]) ∧ Below W.heap.size W w' := by
  injection hv with e1 e2
  subst e1 e2
  have hne : (planE n f d != 0) = true := by simpa using h
  clear h
  go_enter Try.func29, Try.ntmps29
  go_wp2_with fail
  refine (plook_any A n c f d _ _ hs hn).mono ?_
  rintro e w' ⟨rfl, rfl⟩
  clear hs
  go_wp2_with fail
  go_ret2
  exact ⟨rfl, Below.refl _ _⟩
/-- The lag, the rate out of their bounds. -/
theorem rate_arg (A : Option Addr) (n c : Nat) (f : List Int) (lag d : Int) (W : World) (hs : Sl W W.heap.size A n (ints f)) (hn : n ≤ 9223372036854775807) (h : planE n f d = 0) (hl : lag < 0 ∨ 1000000 < lag) (v er : Int) (hv : (((0 : Int), (1 : Int)) : Int × Int) = (v, er)) :
    Calls Try.prog 29 #[.slice A n c, .int .i64 lag, .int .i64 d] W fun e w' => e = .returned (.tuple #[.int .i64 v, .int .i64 er]) ∧ Below W.heap.size W w' := by
  injection hv with e1 e2
  subst e1 e2
  have H := Lib.hid h
  clear h
  rcases hl with hl | hl
  · go_enter Try.func29, Try.ntmps29
    go_wp2_with fail
    refine (plook_any A n c f d _ _ hs hn).mono ?_
    rintro e w' ⟨rfl, rfl⟩
    rw [H.out]
    clear hs
    go_wp2_with fail
    go_ret2
    exact ⟨rfl, Below.refl _ _⟩
  · go_enter Try.func29, Try.ntmps29
    go_wp2_with fail
    refine (plook_any A n c f d _ _ hs hn).mono ?_
    rintro e w' ⟨rfl, rfl⟩
    rw [H.out]
    clear hs
    go_wp2_with fail
    go_ret2
    exact ⟨rfl, Below.refl _ _⟩
set_option maxHeartbeats 1600000 in
theorem rate_any (A : Option Addr) (n c : Nat) (f : List Int) (lag x : Int) (W : World) (hs : Sl W W.heap.size A n (ints f)) (hn : n ≤ 9223372036854775807) (hf : IsC n f) (hl : 0 ≤ lag) (hl2 : lag ≤ 1000000) (hx0 : 0 ≤ x) (hx : x < n) (v er : Int) (h : rateV f lag x.toNat = (v, er)) :
    Calls Try.prog 29 #[.slice A n c, .int .i64 lag, .int .i64 x] W fun e w' => e = .returned (.tuple #[.int .i64 v, .int .i64 er]) ∧ Below W.heap.size W w' := by
  obtain ⟨d, rfl⟩ := Int.eq_ofNat_of_zero_le hx0
  rw [Int.toNat_natCast] at h
  have hd : d < n := by omega
  have F := Lib.hid hf
  have ht := hf.top
  have hp := hf.pos
  have hpI : (0 : Int) < n := by omega
  have x0 := hf.lo 0 hp
  have x1 := hf.hi 0 hp
  have hb := rb_bd hl hl2 hf d hd
  obtain ⟨b, off, rfl, hbl, -⟩ := hs.int_at hp
  have hc0 := hs.int_cell hp
  rw [Nat.add_zero] at hc0
  clear hf
  by_cases h0 : lag + gi f 0 = 0
  · have hv : (((0 : Int), (0 : Int)) : Int × Int) = (v, er) := by rw [← h]; unfold rateV; rw [if_pos h0]
    injection hv with e1 e2
    subst e1 e2
    have hz : (lag + gi f 0 == 0) = true := by simpa using h0
    clear h h0
    go_enter Try.func29, Try.ntmps29
    go_wp2_with fail
    refine (plook_ok _ n c f d _ _ hs F.out hd).mono ?_
    rintro e w' ⟨rfl, rfl⟩
    clear hs
    go_wp2_with fail
    go_ret2
    exact ⟨rfl, Below.refl _ _⟩
  · have hz : (lag + gi f 0 == 0) = false := by simpa using h0
    have HV : Hid ((if rb (gi f) lag d < 0 ∨ 10000 < rb (gi f) lag d then (((0 : Int), (5 : Int)) : Int × Int) else (rb (gi f) lag d, 0)) = (v, er)) := by show _ = _; rw [← h]; unfold rateV; rw [if_neg h0]
    clear h h0
    go_enter Try.func29, Try.ntmps29
    go_wp2_with fail
    refine (plook_ok _ n c f d _ _ hs F.out hd).mono ?_
    rintro e w' ⟨rfl, rfl⟩
    go_wp2_with fail
    go_loop [10, 9, 11] (fun i o _ => ∃ k : Nat, k ≤ d ∧ i = .int .i64 (k + 1) ∧ o = .int .i64 (rb (gi f) lag k)) (fun i _ _ => d + 1 - (intOf i).toNat)
    case atStart => exact ⟨0, Nat.zero_le _, rfl, rfl⟩
    case round =>
      obtain ⟨k, hk, rfl, rfl⟩ := hrel
      have bb := rb_bd hl hl2 F.out k (by omega)
      by_cases hlt : k < d
      · have hc := hs.int_cell (k := k + 1) (by omega)
        have y0 := F.out.lo (k + 1) (by omega)
        have y1 := F.out.hi (k + 1) (by omega)
        have rr := rt_bd hl hl2 F.out (t := k + 1) (by omega) (by omega)
        have hsu := rb_succ (gi f) lag k
        obtain ⟨cur, hcur⟩ : ∃ z, rb (gi f) lag k = z := ⟨_, rfl⟩
        obtain ⟨nx, hnx⟩ : ∃ z, rt (gi f) lag (k + 1) = z := ⟨_, rfl⟩
        have hnx2 : (lag + gi f (k + 1) + ((k : Int) + 1) - 1) / ((k : Int) + 1) = nx := hnx
        have hnx3 : (lag + gi f (k + 1) + ((k : Int) + 1) - 1).tdiv ((k : Int) + 1) = nx := by rw [Int.tdiv_eq_ediv_of_nonneg (by omega)]; exact hnx2
        rw [hcur, hnx] at hsu
        rw [hcur] at bb ⊢
        rw [hnx] at rr
        have HS := Lib.hid hsu
        have g1 : (k : Int) + 1 ≤ d := by omega
        have g2 : (0 : Int) ≤ (k : Int) + 1 := by omega
        have g3 : (k : Int) + 1 < n := by omega
        have g4 : ((k : Int) + 1).toNat = k + 1 := by omega
        have g5 : ((k : Int) + 1 == 0) = false := by simp; omega
        have g6 : (k : Int) + 1 ≠ 0 := by omega
        clear hs hcur hnx hsu
        by_cases hw : cur < 0 ∨ nx < cur
        · have HS2 : Hid (rb (gi f) lag (k + 1) = nx) := by show _ = _; rw [HS.out, if_pos hw]
          by_cases hw1 : cur < 0
          · clear hw
            go_wp2_with fail
            go_round
            case rel => exact ⟨k + 1, by omega, by go_num, by rw [HS2.out]⟩
            case measure => simp [intOf]; omega
          · have hw2 : nx < cur := by omega
            clear hw
            go_wp2_with fail
            go_round
            case rel => exact ⟨k + 1, by omega, by go_num, by rw [HS2.out]⟩
            case measure => simp [intOf]; omega
        · have HS2 : Hid (rb (gi f) lag (k + 1) = cur) := by show _ = _; rw [HS.out, if_neg hw]
          have hw1 : ¬ cur < 0 := by omega
          have hw2 : ¬ nx < cur := by omega
          clear hw
          go_wp2_with fail
          go_round
          case rel => exact ⟨k + 1, by omega, by go_num, by rw [HS2.out]⟩
          case measure => simp [intOf]; omega
      · have hkd : k = d := by omega
        subst hkd
        have g1 : ¬ ((k : Int) + 1 ≤ k) := by omega
        have g0 : (k : Int) < (k : Int) + 1 := by omega
        obtain ⟨cur, hcur⟩ : ∃ z, rb (gi f) lag k = z := ⟨_, rfl⟩
        have HV2 := HV.out
        rw [hcur] at bb HV2 ⊢
        clear hcur HV hb hs
        by_cases hw : cur < 0 ∨ 10000 < cur
        · rw [if_pos hw] at HV2
          injection HV2 with e1 e2
          subst e1 e2
          by_cases hw1 : cur < 0
          · clear hw
            go_wp2_with fail
            go_ret2
            exact ⟨rfl, Below.refl _ _⟩
          · have hw2 : 10000 < cur := by omega
            clear hw
            go_wp2_with fail
            go_ret2
            exact ⟨rfl, Below.refl _ _⟩
        · rw [if_neg hw] at HV2
          injection HV2 with e1 e2
          subst e1 e2
          have hw1 : ¬ cur < 0 := by omega
          have hw2 : ¬ 10000 < cur := by omega
          clear hw
          go_wp2_with fail
          go_ret2
          exact ⟨rfl, Below.refl _ _⟩
set_option maxHeartbeats 1600000 in
theorem bound_any (A : Option Addr) (n c : Nat) (f : List Int) (r g : Int) (W : World) (hs : Sl W W.heap.size A n (ints f)) (hn : n ≤ 9223372036854775807) (hf : IsC n f) (hr : rateOk r g) (v er : Int) (h : boundR n f r g v er) :
    Calls Try.prog 11 #[.slice A n c, .int .i64 r, .int .i64 g] W fun e w' => e = .returned (.tuple #[.int .i64 v, .int .i64 er]) ∧ Below W.heap.size W w' := by
  have F := Lib.hid hf
  have ht := hf.top
  have HE := Lib.hid hf.err
  have R := Lib.hid hr
  obtain ⟨r0, r1, g0, g1⟩ := hr
  obtain ⟨m, hm, good, fin⟩ : ∃ m : Nat, m ≤ n ∧ (∀ j, j < m → ¬ boundP f r g j) ∧ ((m < n ∧ boundP f r g m ∧ v = m ∧ er = 0) ∨ (m = n ∧ v = 0 ∧ er = 5)) := by
    rcases h with ⟨d, h1, h2, h3, h4, h5⟩ | ⟨h1, h2, h3⟩
    · exact ⟨d, by omega, h3, .inl ⟨h1, h2, h4, h5⟩⟩
    · exact ⟨n, Nat.le_refl _, h1, .inr ⟨rfl, h2, h3⟩⟩
  have G := Lib.hid good
  have FIN := Lib.hid fin
  clear hf h good fin
  go_enter Try.func11, Try.ntmps11
  go_wp2_with fail
  refine (ccheck_any A n c f _ _ hs hn).mono ?_
  rintro e w' ⟨rfl, rfl⟩
  rw [HE.out]
  go_wp2_with fail
  refine (clook_ok r g _ R.out).mono ?_
  rintro e w' ⟨rfl, rfl⟩
  go_wp2_with fail
  go_loop [25, 10, 11] (fun i _ _ => ∃ k : Nat, k ≤ m ∧ i = .int .i64 k) (fun i _ _ => m - (intOf i).toNat)
  case atStart => exact ⟨0, Nat.zero_le _, rfl⟩
  case round =>
    obtain ⟨k, hk, rfl⟩ := hrel
    have q2 : (0 : Int) ≤ k := by omega
    by_cases hkn : k < n
    · obtain ⟨b, off, rfl, hbl, hc⟩ := hs.int_at hkn
      have y0 := F.out.lo k hkn
      have y1 := F.out.hi k hkn
      have q3 : (k : Int) < n := by omega
      obtain ⟨z, hz⟩ : ∃ z, r * (k : Int) = z := ⟨_, rfl⟩
      have m0 : 0 ≤ z := by rw [← hz]; exact Int.mul_nonneg r0 (by omega)
      have m1 : z ≤ 610000 := by
        rw [← hz]
        have : r * (k : Int) ≤ 10000 * k := Int.mul_le_mul_of_nonneg_right r1 (by omega)
        omega
      have fw : wrap64 (r * (k : Int)) = z := by rw [hz]; exact IntWalk.wrap64_in _ ⟨by omega, by omega⟩
      by_cases hlt : k < m
      · have t1 : ¬ (g + gi f k ≤ z) := by rw [← hz]; exact G.out k hlt
        clear hs hz
        go_wp2_with fail
        go_round
        case rel => exact ⟨k + 1, by omega, by go_num⟩
        case measure => simp [intOf]; omega
      · have hkm : Hid (k = m) := by show k = m; omega
        have t0 : g + gi f k ≤ z ∧ v = k ∧ er = 0 := by
          rw [← hz]
          rcases FIN.out with h | h
          · have e := hkm.out
            subst e
            exact ⟨h.2.1, h.2.2⟩
          · have := hkm.out; omega
        obtain ⟨t1, t2, t3⟩ := t0
        subst t2 t3
        clear hs hz
        go_wp2_with fail
        go_ret2
        exact ⟨rfl, Below.refl _ _⟩
    · have t0 : v = 0 ∧ er = 5 := by
        rcases FIN.out with h | h
        · omega
        · exact h.2
      obtain ⟨t2, t3⟩ := t0
      subst t2 t3
      have q3 : ¬ (k : Int) < n := by omega
      clear hs
      go_wp2_with fail
      go_ret2
      exact ⟨rfl, Below.refl _ _⟩
end Go.Proofs.Ytidmncoakockkaa
