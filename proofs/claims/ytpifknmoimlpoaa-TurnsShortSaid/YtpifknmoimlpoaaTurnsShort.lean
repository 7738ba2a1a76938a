/- TurnsShort: a flow that has packets yet has sent as much as its turns say, but for less than its largest packet. -/
import Derived.Test.YtpifknmoimlpoaaTurnF
import Derived.Test.YtpifknmoimlpoaaMaxMin
set_option linter.unusedVariables false
namespace Go.Proofs.Ytpifknmoimlpoaa
open Go.RowKit
set_option maxRecDepth 100000 in
set_option maxHeartbeats 6400000 in
theorem turnsShort_walk (A : Option Addr) (n c : Nat) (q : Nat → Int) (hd : Nat → Option Addr × Nat × Nat) (ls : Nat → List Int) (a : Int) (W : World) (w0 : InFl W A n c q hd ls) (w1 : -9223372036854775808 ≤ a ∧ a ≤ 9223372036854775807) :
    Calls Try.prog 5 #[.slice A n c, .int .i64 a] W fun e w' => e = .returned (.bool true) ∧ Below W.heap.size W w' := by
  obtain ⟨sl, lc, rc, nums, inn⟩ := w0
  have FS := Lib.hid (FlS.mk sl fun i hi => (inn i hi).1)
  have hdb : ∀ i, i < n → (hd i).2.1 ≤ 9223372036854775807 := fun i hi => Nat.le_trans (inn i hi).2.1 (inn i hi).2.2.1
  have DB := Lib.hid hdb
  have hnn : n ≤ 9223372036854775807 := by omega
  clear sl lc rc nums inn hdb
  clear w1
  go_enter Try.func5, Try.ntmps5
  go_wp2_with fail
  refine (flow_any 2 _ 2 2 _).mono ?_
  rintro e wa0 ⟨rfl, rfl⟩
  go_wp2_with fail
  refine (after_i _ 1 _ (fun _ => 2) (fun _ => (some ⟨W.heap.size, 0, none⟩, 2, 2)) (fun _ => [3, 1]) 1 _ (FlS.one 2 [3, 1] _ W.heap.size (by simp <;> omega) (slMore (Sl.built_ W (ints [3, 1]) 3 _ rfl rfl) _) 2 _ (by simp)) (by decide) (by omega) 1 rfl).mono ?_
  rintro e u0 ⟨D0, d0, rfl, s0, bb0, l0⟩
  rw [show (tab 1 fun i => tpre ((fun _ => [3, 1]) i) (tst ((fun _ => 2) i) ((fun _ => [3, 1]) i) 1).1) = [0] from (by decide +kernel)] at s0
  have U0 := Lib.hid (belLit2 (below_alloc (Below.refl W.heap.size W) _) bb0)
  have S0 := Lib.hid s0
  clear bb0 s0
  go_wp2_with fail
  refine (equal_t D0 1 d0 [0] _ 1 _ [0] _ (slMore S0.out _) (Sl.built_ _ (ints [0]) 3 _ rfl rfl) (by omega) (by omega) true (by decide)).mono ?_
  rintro e v0 ⟨rfl, bb0⟩
  have V0 := Lib.hid (belLit1 U0.out bb0)
  clear bb0 S0 U0
  go_wp2_with fail
  refine (flow_any 2 _ 2 2 _).mono ?_
  rintro e wa1 ⟨rfl, rfl⟩
  go_wp2_with fail
  refine (after_i _ 1 _ (fun _ => 2) (fun _ => (some ⟨v0.heap.size, 0, none⟩, 2, 2)) (fun _ => [3, 1]) 2 _ (FlS.one 2 [3, 1] _ v0.heap.size (by simp <;> omega) (slMore (Sl.built_ v0 (ints [3, 1]) 3 _ rfl rfl) _) 2 _ (by simp)) (by decide) (by omega) 2 rfl).mono ?_
  rintro e u1 ⟨D1, d1, rfl, s1, bb1, l1⟩
  rw [show (tab 1 fun i => tpre ((fun _ => [3, 1]) i) (tst ((fun _ => 2) i) ((fun _ => [3, 1]) i) 2).1) = [4] from (by decide +kernel)] at s1
  have U1 := Lib.hid (belLit2 (below_alloc V0.out _) bb1)
  have S1 := Lib.hid s1
  clear bb1 s1
  go_wp2_with fail
  refine (equal_t D1 1 d1 [4] _ 1 _ [4] _ (slMore S1.out _) (Sl.built_ _ (ints [4]) 3 _ rfl rfl) (by omega) (by omega) true (by decide)).mono ?_
  rintro e v1 ⟨rfl, bb1⟩
  have V1 := Lib.hid (belLit1 U1.out bb1)
  clear bb1 S1 U1
  go_wp2_with fail
  have p0 := within_lo a 61 (by omega)
  have p1 := within_hi a 61 (by omega)
  obtain ⟨a1, ha'⟩ : ∃ x, within a 61 = x := ⟨_, rfl⟩
  rw [ha'] at p0 p1
  have HA := Lib.hid ha'
  clear ha'
  refine (within_t a 61 _ (by omega) (by omega) a1 HA.out).mono ?_
  rintro e _ ⟨rfl, rfl⟩
  obtain ⟨r, hr⟩ := Int.eq_ofNat_of_zero_le p0
  have HR := Lib.hid hr
  have r60 : r ≤ 60 := by omega
  clear hr
  have FS2 := Lib.hid ((FS.out.below V1.out).more V1.out.size)
  obtain ⟨ck, hck⟩ : ∃ ck, tchk n q ls = ck := ⟨_, rfl⟩
  have HCK := Lib.hid hck
  clear hck
  go_wp2_with fail
  by_cases h0 : ck = 0
  case neg =>
    have hne : (ck != 0) = true := by simpa using h0
    have H0 := Lib.hid h0
    clear h0
    refine (turns_bad A n c q hd ls a1 _ FS2.out hnn DB.out ck HCK.out H0.out).mono ?_
    rintro e w5 ⟨rfl, bb5⟩
    have B5 := Lib.hid (V1.out.trans (bb5.mono V1.out.size))
    have FS5 := Lib.hid (FS2.out.on bb5)
    clear bb5
    go_wp2_with fail
    refine (tcheck_t A n c q hd ls _ FS5.out hnn DB.out).mono ?_
    rintro e w6 ⟨rfl, bb6⟩
    have B6 := Lib.hid (B5.out.trans (bb6.mono B5.out.size))
    clear bb6
    rw [HCK.out]
    have hee : (ck == ck) = true := by simp
    go_wp2_with fail
    go_ret
    exact ⟨rfl, B6.out⟩
  subst h0
  obtain ⟨n8, qok⟩ := tchk_ok HCK.out
  have QO := Lib.hid qok
  clear qok
  refine (after_i A n c q hd ls r _ FS2.out HCK.out (by omega) a1 HR.out).mono ?_
  rintro e w5 ⟨X, cx, rfl, sx, bb5, lx⟩
  have B5 := Lib.hid (V1.out.trans (bb5.mono V1.out.size))
  have FS5 := Lib.hid (FS2.out.on bb5)
  have SX := Lib.hid sx
  clear bb5 sx
  go_wp2_with fail
  go_loopw [72] (fun vi wr => ∃ k : Nat, k ≤ n ∧ vi = .int .i64 (k : Int) ∧ Hid (Below w5.heap.size w5 wr)) (fun vi _ => n - (intOf vi).toNat)
  case atStart => exact ⟨0, Nat.zero_le _, rfl, Lib.hid (Below.refl _ _)⟩
  case round =>
    obtain ⟨k, hk, rfl, HB⟩ := hrel
    have hz := HB.out.size
    have hk0 : (0 : Int) ≤ k := by omega
    by_cases hlt : k < n
    · have hn1 : (k : Int) < n := by omega
      have FK := Lib.hid (FS5.out.below HB.out)
      obtain ⟨b, off, rfl, hbl, c0, c1⟩ := FK.out.at_ hlt
      have SI := Lib.hid ((FK.out.inner k hlt).more hz)
      have lk := FK.out.len hlt
      obtain ⟨bx, ox, rfl, hbx, cx1⟩ := (SX.out.below HB.out).int_at hlt
      rw [tab_get _ hlt] at cx1
      have OK := Lib.hid (QO.out k hlt)
      obtain ⟨qk, hq⟩ : ∃ x, q k = x := ⟨_, rfl⟩
      obtain ⟨⟨sa, sn, sc⟩, hsd⟩ : ∃ x, hd k = x := ⟨_, rfl⟩
      obtain ⟨l, hl⟩ : ∃ x, ls k = x := ⟨_, rfl⟩
      rw [hsd] at SI c1 lk
      rw [hl] at SI lk OK cx1
      rw [hq] at c0 OK cx1
      have LK := Lib.hid lk
      have hsn : sn ≤ 60 := by have := OK.out.len; rw [lk] at this; exact this
      have q1 := OK.out.q1
      have q2 := OK.out.q2
      clear hq hsd hl lk
      dsimp only at c1
      have BA := Lib.hid (HB.out.alloc hz (.cells #[.int .i64 qk, .slice sa sn sc] 29))
      have SA := Lib.hid ((SI.out.alloc (Nat.le_refl _) (.cells #[.int .i64 qk, .slice sa sn sc] 29)))
      have g0 : (wr.alloc (.cells #[.int .i64 qk, .slice sa sn sc] 29)).cell? ⟨wr.heap.size, 0, none⟩ = some (.int .i64 qk) := World.cell?_alloc_at _ _ _ _ rfl
      have g1 : (wr.alloc (.cells #[.int .i64 qk, .slice sa sn sc] 29)).cell? ⟨wr.heap.size, 1, none⟩ = some (.slice sa sn sc) := World.cell?_alloc_at _ _ _ _ rfl
      have gx : (wr.alloc (.cells #[.int .i64 qk, .slice sa sn sc] 29)).cell? ⟨bx, ox + k, none⟩ = some (.int .i64 (tpre l (tst qk l r).1)) := by
        rw [World.cell?_alloc_lt _ _ _ (show bx < wr.heap.size by omega)]; exact cx1
      go_wp2_with fail
      obtain ⟨g, hg⟩ : ∃ g, wr.heap.size = g := ⟨_, rfl⟩
      obtain ⟨wa, hwa⟩ : ∃ wa, wr.alloc (.cells #[.int .i64 qk, .slice sa sn sc] 29) = wa := ⟨_, rfl⟩
      rw [hwa] at BA SA g0 g1 gx ⊢
      rw [hg] at SA g0 g1 hz
      try rw [hg]
      clear c0 c1 cx1 hwa SI hg
      go_loopw [80, 13] (fun vj vs w => ∃ j : Nat, j ≤ sn ∧ vj = .int .i64 (j : Int) ∧ vs = .int .i64 (tpre l j) ∧ w = wa) (fun vj _ _ => sn - (intOf vj).toNat)
      case atStart => exact ⟨0, Nat.zero_le _, rfl, rfl, rfl⟩
      case round =>
        obtain ⟨j, hj, rfl, rfl, rfl⟩ := hrel
        have hj0 : (0 : Int) ≤ j := by omega
        by_cases hjl : j < sn
        · obtain ⟨b2, o2, rfl, hb2, c2⟩ := SA.out.int_at hjl
          have hn2 : (j : Int) < sn := by omega
          have tb := tpre_bd OK.out (a := j) (by rw [LK.out]; omega)
          have z1 := OK.out.lo j (by rw [LK.out]; exact hjl)
          have z2 := OK.out.hi j (by rw [LK.out]; exact hjl)
          have TS : Hid (tpre l (j + 1) = tpre l j + gi l j) := Lib.hid rfl
          obtain ⟨z, hz'⟩ : ∃ z, gi l j = z := ⟨_, rfl⟩
          obtain ⟨t, ht⟩ : ∃ z, tpre l j = z := ⟨_, rfl⟩
          rw [hz'] at c2 z1 z2 TS
          rw [ht] at tb TS
          rw [ht]
          clear hz' ht
          go_wp2_with fail
          go_roundw
          case rel => exact ⟨j + 1, by omega, by go_num, by rw [TS.out], by first | trivial | rfl⟩
          case measure => simp [intOf]; omega
        · have hje : j = sn := by omega
          subst hje
          have hn2 : ¬ (j : Int) < j := by omega
          have hlen : l.length = j := LK.out
          have tb := tpre_bd OK.out (a := j) (by omega)
          have xb := tpre_bd OK.out (tst_ok OK.out r).le
          have KEY := Lib.hid (fun M hM => tst_short OK.out r (M := M) hM)
          have pb : 0 ≤ a1 * qk ∧ a1 * qk ≤ 60 * 1000 := ⟨Int.mul_nonneg p0 (by omega), by
            have h1 := Int.mul_le_mul_of_nonneg_left q2 p0
            omega⟩
          have k1 := (tst_short OK.out r (M := 1000) OK.out.hi)
          rw [← HR.out, hlen] at k1
          have K3 : Hid (tpre l (tst qk l r).1 < tpre l j → ∀ M, (∀ i, i < l.length → gi l i ≤ M) → a1 * qk - M < tpre l (tst qk l r).1) := Lib.hid fun h M hM => by
            have := (tst_short OK.out r hM).2.2
            rw [← HR.out, hlen] at this
            exact this h
          have hs0 : j = 0 → tpre l j = 0 := fun h => by rw [h]; rfl
          obtain ⟨x, hx⟩ : ∃ x, tpre l (tst qk l r).1 = x := ⟨_, rfl⟩
          obtain ⟨sm, hsm⟩ : ∃ x, tpre l j = x := ⟨_, rfl⟩
          obtain ⟨P, hP⟩ : ∃ x, a1 * qk = x := ⟨_, rfl⟩
          rw [hx, hsm, hP] at k1 K3
          rw [hsm] at hs0
          rw [hx] at gx xb
          rw [hsm] at tb
          rw [hP] at pb
          rw [hsm]
          have hw : IntKind.i64.wrap (a1 * qk) = P := by rw [hP]; exact IntWalk.i64_in _ ⟨by omega, by omega⟩
          have hw2 : wrap64 (a1 * qk) = P := by rw [hP]; exact IntWalk.wrap64_in _ ⟨by omega, by omega⟩
          have t1 : decide (P < x) = false := decide_eq_false (by omega)
          have t2 : decide (sm < x) = false := decide_eq_false (by omega)
          clear hP hx hsm KEY
          by_cases hxs : x < sm
          · have t3 : decide (x < sm) = true := decide_eq_true hxs
            have hj1 : 0 < j := by
              rcases Nat.eq_zero_or_pos j with h | h
              · exfalso
                have := hs0 h
                omega
              · exact h
            obtain ⟨M, hM⟩ := isMax_ex (l := l) (by omega)
            have HM := Lib.hid hM
            have k4 := K3.out hxs M hM.2
            have mb : 1 ≤ M ∧ M ≤ 1000 := by
              obtain ⟨⟨i, hi, e⟩, _⟩ := hM
              rw [← e]
              exact ⟨OK.out.lo i hi, OK.out.hi i hi⟩
            obtain ⟨D, hD⟩ : ∃ D, P - M = D := ⟨_, rfl⟩
            have hw3 : IntKind.i64.wrap (P - M) = D := by rw [hD]; exact IntWalk.i64_in _ ⟨by omega, by omega⟩
            have hw4 : wrap64 (P - M) = D := by rw [hD]; exact IntWalk.wrap64_in _ ⟨by omega, by omega⟩
            have t4 : decide (x ≤ D) = false := decide_eq_false (by omega)
            clear hM k1 k4 hs0 hD mb
            go_wp2_with fail
            go_quiet (fail)
            have SQ := Lib.hid (SA.out.drewN nq)
            have BQ : Hid (Below w5.heap.size w5 (wr.drewN nq)) := Lib.hid (bel_drewN BA.out nq)
            have e0 : (wr.drewN nq).cell? ⟨g, 0, none⟩ = some (.int .i64 qk) := g0
            have e1 : (wr.drewN nq).cell? ⟨g, 1, none⟩ = some (.slice sa j sc) := g1
            have ex : (wr.drewN nq).cell? ⟨bx, ox + k, none⟩ = some (.int .i64 x) := gx
            generalize wr.drewN nq = wq at SQ BQ e0 e1 ex ⊢
            clear g0 g1 gx SA BA t1 t2
            go_wp2_with fail
            go_quiet ((go_at_call 20; exact Calls.quiet_of_same (smax_t _ _ _ _ l _ (SQ.out.drewN _) (by omega) hj1 M HM.out)))
            go_wp2_with fail
            go_roundw
            case rel => exact ⟨k + 1, by omega, by go_num, Lib.hid (bel_drewN BQ.out _)⟩
            case measure => simp [intOf]; omega
          · have t3 : decide (x < sm) = false := decide_eq_false hxs
            clear k1 hs0
            go_wp2_with fail
            go_quiet (fail)
            have BQ : Hid (Below w5.heap.size w5 (wr.drewN nq)) := Lib.hid (bel_drewN BA.out nq)
            have ex : (wr.drewN nq).cell? ⟨bx, ox + k, none⟩ = some (.int .i64 x) := gx
            generalize wr.drewN nq = wq at BQ ex ⊢
            clear g0 g1 gx SA BA t1 t2
            go_wp2_with fail
            go_quiet (fail)
            go_wp2_with fail
            go_roundw
            case rel => exact ⟨k + 1, by omega, by go_num, Lib.hid (bel_drewN BQ.out _)⟩
            case measure => simp [intOf]; omega
    · have hkn : k = n := by omega
      subst hkn
      have hn1 : ¬ (k : Int) < k := by omega
      go_wp2_with fail
      go_ret
      exact ⟨rfl, B5.out.trans (HB.out.mono B5.out.size)⟩
end Go.Proofs.Ytpifknmoimlpoaa
