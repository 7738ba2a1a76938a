/- BucketAll: conforming packets all pass an initially full bucket. -/
import Derived.Test.YtihhldphpoddhaaBucketFits
set_option linter.unusedVariables false
namespace Go.Proofs.Ytihhldphpoddhaa
open Go.RowKit
theorem indexNone (A : Option Addr) (n c : Nat) (bs : List Bool) (W : World) (B : Nat) (hs : Sl W B A n (bools bs)) (hk : ∀ k, k < n → gb bs k = true) (hn : n ≤ 9223372036854775807) :
    Calls Try.prog 39 #[.slice A n c, .bool false] W fun e w' => e = .returned (.int .i64 (-1)) ∧ W = w' := by
  have K := Lib.hid hk
  clear hk
  go_enter Try.func39, Try.ntmps39
  go_wp2
  go_loop [8, 5] (fun i _ => ∃ j : Nat, j ≤ n ∧ i = .int .i64 j) (fun i _ => n - (intOf i).toNat)
  case atStart => exact ⟨0, Nat.zero_le _, rfl⟩
  case round =>
    obtain ⟨j, hj, rfl⟩ := hrel
    have hj0 : (0 : Int) ≤ j := by omega
    by_cases hlt : j < n
    · obtain ⟨b, off, rfl, hbl, hc⟩ := hs.bool_at (k := j) (by omega)
      have hj1 : (j : Int) < n := by omega
      rw [K.out j hlt] at hc
      clear hs
      go_wp2
      go_round
      case rel => exact ⟨j + 1, by omega, by go_num⟩
      case measure => simp [intOf]; omega
    · have hj1 : ¬ (j : Int) < n := by omega
      clear hs
      go_wp2
      go_ret
      exact ⟨rfl, rfl⟩
theorem containsNone (A : Option Addr) (n c : Nat) (bs : List Bool) (W : World) (B : Nat) (hs : Sl W B A n (bools bs)) (hk : ∀ k, k < n → gb bs k = true) (hn : n ≤ 9223372036854775807) :
    Calls Try.prog 30 #[.slice A n c, .bool false] W fun e w' => e = .returned (.bool false) ∧ W = w' := by
  have K := Lib.hid hk
  clear hk
  go_enter Try.func30, Try.ntmps30
  go_wp2_with fail
  refine (indexNone A n c bs _ B hs K.out hn).mono ?_
  rintro e w1 ⟨rfl, rfl⟩
  clear hs
  go_wp2_with fail
  go_ret
  exact ⟨rfl, rfl⟩
/-- No interval that begins ahead of i, and none from i that ends ahead of j, holds too much. -/
def calm (R B : Int) (zs : List Int) (n i j : Nat) : Prop := ∀ a k, a ≤ k → k < n → (a < i ∨ (a = i ∧ k < j)) → psz zs (k + 1) - psz zs a ≤ B + R * (fd zs k 0 - fd zs a 0)
set_option maxRecDepth 100000 in
set_option maxHeartbeats 3200000 in
theorem bucketAll_walk (R B : Int) (A : Option Addr) (n c : Nat) (zs : List Int) (W : World) (_ : -9223372036854775808 ≤ R ∧ R ≤ 9223372036854775807) (_ : -9223372036854775808 ≤ B ∧ B ≤ 9223372036854775807) (w0 : In3 W A n c zs) :
    Calls Try.prog 13 #[.int .i64 R, .int .i64 B, .slice A n c] W fun e w' => e = .returned (.bool true) ∧ Below W.heap.size W w' := by
  obtain ⟨s0, l0, r0, _⟩ := w0
  go_enter Try.func13, Try.ntmps13
  go_wp2_with fail
  refine (brun_ok 1 2 2 _ 2 _ [0, 2, 0, 2, 2, 0] _ (Sl.built_ _ (ints [0, 2, 0, 2, 2, 0]) 40 _ rfl rfl) (by omega) ⟨by omega, by omega, by omega, by omega, by omega, by omega⟩ (by decide +kernel)).mono ?_
  rintro e w1 ⟨A1, c1, rfl, s1, l1, bb1⟩
  rw [show btab 2 (bpass 1 2 2 [0, 2, 0, 2, 2, 0]) = [true, true] by decide +kernel] at s1
  have b1 := belLit1 (Below.refl W.heap.size W) bb1
  replace s0 := slLit1 s0 bb1
  clear bb1
  go_wp2_with fail
  refine (equalB_t A1 2 c1 [true, true] _ 2 _ [true, true] _ (slMore s1 _) (Sl.built_ _ (bools [true, true]) 4 _ rfl rfl) (by omega) (by omega) true (by decide)).mono ?_
  rintro e w2 ⟨rfl, bb2⟩
  have b2 := belLit1 b1 bb2
  replace s0 := slLit1 s0 bb2
  clear b1 s1 bb2
  go_wp2_with fail
  refine (within_t R 1001 _ (by omega) (by omega) _ rfl).mono ?_
  rintro e _ ⟨rfl, rfl⟩
  go_wp2_with fail
  refine (within_t B 20001 _ (by omega) (by omega) _ rfl).mono ?_
  rintro e _ ⟨rfl, rfl⟩
  have R0 := within_lo R 1001 (by omega)
  have R1 := within_hi R 1001 (by omega)
  have B0 := within_lo B 20001 (by omega)
  have B1 := within_hi B 20001 (by omega)
  generalize within R 1001 = R' at *
  generalize within B 20001 = B' at *
  have HB : Hid (bktOk R' B' B') := ⟨by omega, by omega, by omega, by omega, by omega, by omega⟩
  by_cases h0 : packErr zs n = 0
  case neg =>
    have hne : (packErr zs n != 0) = true := by simpa using h0
    have H0 := Lib.hid h0
    clear h0
    go_wp2_with fail
    refine (brun_bad R' B' B' A n c zs _ s0 (by omega) HB.out H0.out).mono ?_
    rintro e w3 ⟨A3, c3, rfl, s3, l3, bb3⟩
    have b3 := belLit0 b2 bb3
    replace s0 := slLit0 s0 bb3
    clear b2 s3 bb3
    go_wp2_with fail
    refine (packets_any A n c zs _ s0 (by omega)).mono ?_
    rintro e w4 ⟨rfl, bb4⟩
    have b4 := belLit0 b3 bb4
    clear b3 s0 bb4
    go_wp2_with fail
    go_ret
    exact ⟨rfl, b4⟩
  have P := Lib.hid (packs_of h0)
  have H0 := Lib.hid h0
  have n60 := P.out.top
  clear h0
  go_wp2_with fail
  refine (brun_ok R' B' B' A n c zs _ s0 (by omega) HB.out H0.out).mono ?_
  rintro e w3 ⟨A3, c3, rfl, s3, l3, bb3⟩
  have b3 := belLit0 b2 bb3
  replace s0 := slLit0 s0 bb3
  have S3 := Lib.hid s3
  have S0 := Lib.hid s0
  have B3 := Lib.hid b3
  clear b2 s0 s3 bb3 b3
  go_wp2_with fail
  go_loopw [51, 11, 12, 13] (fun i _ _ _ wr => ∃ k : Nat, k ≤ n ∧ i = .int .i64 k ∧ Hid (calm R' B' zs n k k) ∧ Below w3.heap.size w3 wr) (fun i _ _ _ _ => n - (intOf i).toNat)
  case atStart => exact ⟨0, Nat.zero_le _, rfl, Lib.hid (fun a k h1 h2 h3 => by omega), Below.refl _ _⟩
  case round =>
    obtain ⟨i, hi, rfl, hcm, hb⟩ := hrel
    have HBo := Lib.hid hb
    have hi0 : (0 : Int) ≤ i := by omega
    by_cases hlt : i < n
    · have hn1 : (i : Int) < n := by omega
      clear hb
      go_wp2_with fail
      go_loopw [13, 12] (fun k s wr' => ∃ j : Nat, i ≤ j ∧ j ≤ n ∧ k = .int .i64 j ∧ s = .int .i64 (psz zs j - psz zs i) ∧ Hid (calm R' B' zs n i j) ∧ Below w3.heap.size w3 wr') (fun k _ _ => n - (intOf k).toNat)
      case atStart => exact ⟨i, Nat.le_refl _, hi, rfl, by simp, hcm, HBo.out⟩
      case round =>
        obtain ⟨j, hj, hjn, rfl, rfl, hcj, hb⟩ := hrel
        have HBI := Lib.hid hb
        have hj0 : (0 : Int) ≤ j := by omega
        by_cases hlt2 : j < n
        · obtain ⟨b, off, hA, hbl, -⟩ := S0.out.int_at (k := j * 3) (by omega)
          subst hA
          obtain ⟨c0, c1, c2⟩ := (S0.out.below hb).three hlt2
          obtain ⟨e0, e1, e2⟩ := (S0.out.below hb).three (k := i) (by omega)
          have ps := psz_bd P.out j (by omega)
          have pi := psz_bd P.out i (by omega)
          have pu := psz_up P.out hj (by omega)
          have SU := psz_succ zs j
          have q0 := P.out.at0 j hlt2
          have q1 := P.out.sz j hlt2
          have qi := P.out.at0 i hlt
          have qu := packs_up P.out hj hlt2
          have mb := rmul_bd R0 (show R' ≤ 10000 by omega) (show 0 ≤ fd zs j 0 - fd zs i 0 by omega) (by omega)
          have hm1 : (j : Int) < n := by omega
          have f1 : wrap64 (fd zs j 0 - fd zs i 0) = fd zs j 0 - fd zs i 0 := IntWalk.wrap64_in _ ⟨by omega, by omega⟩
          have f2 : wrap64 (R' * (fd zs j 0 - fd zs i 0)) = R' * (fd zs j 0 - fd zs i 0) := IntWalk.wrap64_in _ ⟨by omega, by omega⟩
          have f3 : wrap64 (B' + R' * (fd zs j 0 - fd zs i 0)) = B' + R' * (fd zs j 0 - fd zs i 0) := IntWalk.wrap64_in _ ⟨by omega, by omega⟩
          obtain ⟨q, hq⟩ : ∃ q, psz zs j - psz zs i = q := ⟨_, rfl⟩
          have N1 : Hid (psz zs (j + 1) - psz zs i = q + fd zs j 1) := by show _ = _; omega
          rw [hq] at ⊢
          have q0 : 0 ≤ q := by omega
          have q9 : q ≤ 60000 := by omega
          clear hb hq ps pi pu SU
          by_cases hr : B' + R' * (fd zs j 0 - fd zs i 0) < q + fd zs j 1
          · have r1 : decide (B' + R' * (fd zs j 0 - fd zs i 0) < q + fd zs j 1) = true := decide_eq_true hr
            clear hr
            go_wp2_with fail
            go_quiet (fail)
            go_wp2_with fail
            go_ret
            exact ⟨rfl, B3.out.trans ((bel_drewN HBI.out _).mono B3.out.size)⟩
          · have r1 : decide (B' + R' * (fd zs j 0 - fd zs i 0) < q + fd zs j 1) = false := decide_eq_false hr
            have CN : Hid (calm R' B' zs n i (j + 1)) := Lib.hid (fun a k h1 h2 h3 => by
              rcases h3 with h3 | ⟨h3, h4⟩
              · exact hcj.out a k h1 h2 (.inl h3)
              · rcases Nat.lt_or_ge k j with h5 | h5
                · exact hcj.out a k h1 h2 (.inr ⟨h3, h5⟩)
                · obtain rfl : k = j := by omega
                  subst h3
                  have := N1.out
                  omega)
            clear hr
            go_wp2_with fail
            go_quiet (fail)
            go_wp2_with fail
            go_roundw
            case rel => exact ⟨j + 1, by omega, by omega, by go_num, by rw [N1.out], CN, bel_drewN HBI.out _⟩
            case measure => simp [intOf]; omega
        · have hm1 : ¬ (j : Int) < n := by omega
          have CN : Hid (calm R' B' zs n (i + 1) (i + 1)) := Lib.hid (fun a k h1 h2 h3 => by
            rcases Nat.lt_or_ge a i with h4 | h4
            · exact hcj.out a k h1 h2 (.inl h4)
            · rcases Nat.lt_or_ge i a with h5 | h5
              · omega
              · exact hcj.out a k h1 h2 (.inr ⟨by omega, by omega⟩))
          clear hb
          obtain ⟨q, hq⟩ : ∃ q, psz zs j - psz zs i = q := ⟨_, rfl⟩
          rw [hq]
          clear hq
          go_wp2_with fail
          go_roundw
          case rel => exact ⟨i + 1, by omega, by go_num, CN, HBI.out⟩
          case measure => simp [intOf]; omega
    · have hn1 : ¬ (i : Int) < n := by omega
      have hin : i = n := by omega
      have FP := Lib.hid (full_pass P.out HB.out fun a k h1 h2 => hcm.out a k h1 h2 (by omega))
      have s3 := S3.out.below hb
      have hnn : ((n : Int) == n) = true := by simp
      clear hb
      go_wp2_with fail
      refine (containsNone A3 n c3 _ _ _ s3 (fun k hk => by rw [btab_get _ hk]; exact FP.out k hk) (by omega)).mono ?_
      rintro e _ ⟨rfl, rfl⟩
      clear s3
      go_wp2_with fail
      go_ret
      exact ⟨rfl, B3.out.trans (HBo.out.mono B3.out.size)⟩
end Go.Proofs.Ytihhldphpoddhaa
