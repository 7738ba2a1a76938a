/- TurnsFair: two flows that have packets yet have sent the same by their quanta, but for less than their largest packets. -/
import Derived.Test.YtpifknmoimlpoaaTurnF
import Derived.Test.YtpifknmoimlpoaaMaxMin
import Derived.Test.YtpifknmoimlpoaaIdx2
import Derived.Deep.RegionWith
set_option linter.unusedVariables false
namespace Go.Proofs.Ytpifknmoimlpoaa
open Go.RowKit
set_option maxRecDepth 100000 in
set_option maxHeartbeats 6400000 in
theorem turnsFair_walk (A : Option Addr) (n c : Nat) (q : Nat → Int) (hd : Nat → Option Addr × Nat × Nat) (ls : Nat → List Int) (a i k : Int) (W : World) (w0 : InFl W A n c q hd ls) (w1 : -9223372036854775808 ≤ a ∧ a ≤ 9223372036854775807) (w2 : -9223372036854775808 ≤ i ∧ i ≤ 9223372036854775807) (w3 : -9223372036854775808 ≤ k ∧ k ≤ 9223372036854775807) :
    Calls Try.prog 6 #[.slice A n c, .int .i64 a, .int .i64 i, .int .i64 k] W fun e w' => e = .returned (.bool true) ∧ Below W.heap.size W w' := by
  obtain ⟨sl, lc, rc, nums, inn⟩ := w0
  have FS := Lib.hid (FlS.mk sl fun i hi => (inn i hi).1)
  have hdb : ∀ i, i < n → (hd i).2.1 ≤ 9223372036854775807 := fun i hi => Nat.le_trans (inn i hi).2.1 (inn i hi).2.2.1
  have DB := Lib.hid hdb
  have hnn : n ≤ 9223372036854775807 := by omega
  clear sl lc rc nums inn hdb
  clear w1 w2 w3
  go_enter Try.func6, Try.ntmps6
  go_wp2_with fail
  refine (flow_any 2 _ 2 2 _).mono ?_
  rintro e wa0 ⟨rfl, rfl⟩
  go_wp2_with fail
  refine (flow_any 1 _ 3 3 _).mono ?_
  rintro e wb0 ⟨rfl, rfl⟩
  go_wp2_with fail
  refine (after_i _ 2 _ (fun i => if i = 0 then 2 else 1) (fun i => if i = 0 then (some ⟨_, 0, none⟩, 2, 2) else (some ⟨_, 0, none⟩, 3, 3)) (fun i => if i = 0 then [3, 1] else [1, 1, 1]) 2 _ (FlS.two 2 1 [3, 1] [1, 1, 1] _ _ _ (slMore (slMore (slMore (Sl.built_ W (ints [3, 1]) 3 _ rfl rfl) _) _) _) (slMore (Sl.built_ _ (ints [1, 1, 1]) 3 _ (by simp) rfl) _) 2 3 _ (by simp)) (by decide) (by omega) 2 rfl).mono ?_
  rintro e u0 ⟨D0, d0, rfl, s0, bb0, l0⟩
  rw [show (tab 2 fun i => tpre ((fun i => if i = 0 then [3, 1] else [1, 1, 1]) i) (tst ((fun i => if i = 0 then 2 else 1) i) ((fun i => if i = 0 then [3, 1] else [1, 1, 1]) i) 2).1) = [4, 2] from (by decide +kernel)] at s0
  have U0 := Lib.hid (belLit2 (below_alloc (below_alloc (below_alloc (Below.refl W.heap.size W) _) _) _) bb0)
  have S0 := Lib.hid s0
  clear bb0 s0
  go_wp2_with fail
  refine (equal_t D0 2 d0 [4, 2] _ 2 _ [4, 2] _ (slMore S0.out _) (Sl.built_ _ (ints [4, 2]) 3 _ rfl rfl) (by omega) (by omega) true (by decide)).mono ?_
  rintro e v0 ⟨rfl, bb0⟩
  have V0 := Lib.hid (belLit1 U0.out bb0)
  clear bb0 S0 U0
  go_wp2_with fail
  have p0 := within_lo a 61 (by omega)
  have p1 := within_hi a 61 (by omega)
  obtain ⟨a1, ha'⟩ : ∃ x, within a 61 = x := ⟨_, rfl⟩
  rw [ha'] at p0 p1
  have HA := Lib.hid ha'
  clear ha'
  refine (within_t a 61 _ (by omega) (by omega) a1 HA.out).mono ?_
  rintro e _ ⟨rfl, rfl⟩
  obtain ⟨r, hr⟩ := Int.eq_ofNat_of_zero_le p0
  have HR := Lib.hid hr
  have r60 : r ≤ 60 := by omega
  clear hr p0 p1
  have FS2 := Lib.hid ((FS.out.below V0.out).more V0.out.size)
  obtain ⟨ck, hck⟩ : ∃ ck, tchk n q ls = ck := ⟨_, rfl⟩
  have HCK := Lib.hid hck
  clear hck
  go_wp2_with fail
  by_cases h0 : ck = 0
  case neg =>
    have hne : (ck != 0) = true := by simpa using h0
    have H0 := Lib.hid h0
    clear h0
    refine (turns_bad A n c q hd ls a1 _ FS2.out hnn DB.out ck HCK.out H0.out).mono ?_
    rintro e w5 ⟨rfl, bb5⟩
    have B5 := Lib.hid (V0.out.trans (bb5.mono V0.out.size))
    clear bb5
    go_wp2_with fail
    go_ret
    exact ⟨rfl, B5.out⟩
  subst h0
  obtain ⟨n8, qok⟩ := tchk_ok HCK.out
  have QO := Lib.hid qok
  clear qok
  refine (after_i A n c q hd ls r _ FS2.out HCK.out (by omega) a1 HR.out).mono ?_
  rintro e w5 ⟨X, cx, rfl, sx, bb5, lx⟩
  have B5 := Lib.hid (V0.out.trans (bb5.mono V0.out.size))
  have FS5 := Lib.hid (FS2.out.on bb5)
  have SX := Lib.hid sx
  clear bb5 sx
  rcases Nat.eq_zero_or_pos n with hn0 | hn0
  · subst hn0
    go_wp2_with fail
    go_ret
    exact ⟨rfl, B5.out⟩
  have hnz : ((n : Int) == 0) = false := by simp; omega
  go_wp2_with fail
  have p0 := within_lo i n (by omega)
  have p1 := within_hi i n (by omega)
  obtain ⟨i', hi'⟩ := Int.eq_ofNat_of_zero_le p0
  have ilt : i' < n := by omega
  have Hi := Lib.hid hi'
  clear p0 p1 hi'
  refine (within_t i n _ (by omega) (by omega) i' Hi.out).mono ?_
  rintro e _ ⟨rfl, rfl⟩
  go_wp2_with fail
  have p0 := within_lo k n (by omega)
  have p1 := within_hi k n (by omega)
  obtain ⟨k', hk'⟩ := Int.eq_ofNat_of_zero_le p0
  have klt : k' < n := by omega
  have Hk := Lib.hid hk'
  clear p0 p1 hk'
  refine (within_t k n _ (by omega) (by omega) k' Hk.out).mono ?_
  rintro e _ ⟨rfl, rfl⟩
  go_wp2_with fail
  obtain ⟨b, off, hAe, hbl, -⟩ := FS5.out.at_ hn0
  subst hAe
  obtain ⟨bx, ox, hXe, hbx, -⟩ := SX.out.int_at hn0
  subst hXe
  obtain ⟨ic0, ic1⟩ := FS5.out.cells ilt rfl
  have iS := Lib.hid (FS5.out.inner i' ilt)
  have ilk := FS5.out.len ilt
  have icx := SX.out.int_cell ilt
  rw [tab_get _ ilt] at icx
  have iOK := Lib.hid (QO.out i' ilt)
  have ip0 : (0 : Int) ≤ i' := by omega
  have ip1 : (i' : Int) < n := by omega
  obtain ⟨kc0, kc1⟩ := FS5.out.cells klt rfl
  have kS := Lib.hid (FS5.out.inner k' klt)
  have klk := FS5.out.len klt
  have kcx := SX.out.int_cell klt
  rw [tab_get _ klt] at kcx
  have kOK := Lib.hid (QO.out k' klt)
  have kp0 : (0 : Int) ≤ k' := by omega
  have kp1 : (k' : Int) < n := by omega
  obtain ⟨iq, hiq⟩ : ∃ x, q i' = x := ⟨_, rfl⟩
  obtain ⟨⟨ia, isz, ic_⟩, hid⟩ : ∃ x, hd i' = x := ⟨_, rfl⟩
  obtain ⟨il, hil⟩ : ∃ x, ls i' = x := ⟨_, rfl⟩
  rw [hid] at iS ic1 ilk
  rw [hil] at iS ilk iOK icx
  rw [hiq] at ic0 iOK icx
  have iLK := Lib.hid ilk
  have isn : isz ≤ 60 := by have := iOK.out.len; rw [ilk] at this; exact this
  have iq1 := iOK.out.q1
  have iq2 := iOK.out.q2
  have ixb := tpre_bd iOK.out (tst_ok iOK.out r).le
  have ill := (tst_ok iOK.out r).le
  have ixb' : 0 ≤ tpre il (tst iq il r).1 ∧ tpre il (tst iq il r).1 ≤ 60000 := by have := iOK.out.len; omega
  clear hiq hid hil ilk ixb ill
  dsimp only at ic1
  obtain ⟨kq, hkq⟩ : ∃ x, q k' = x := ⟨_, rfl⟩
  obtain ⟨⟨ka, ksz, kc_⟩, hkd⟩ : ∃ x, hd k' = x := ⟨_, rfl⟩
  obtain ⟨kl, hkl⟩ : ∃ x, ls k' = x := ⟨_, rfl⟩
  rw [hkd] at kS kc1 klk
  rw [hkl] at kS klk kOK kcx
  rw [hkq] at kc0 kOK kcx
  have kLK := Lib.hid klk
  have ksn : ksz ≤ 60 := by have := kOK.out.len; rw [klk] at this; exact this
  have kq1 := kOK.out.q1
  have kq2 := kOK.out.q2
  have kxb := tpre_bd kOK.out (tst_ok kOK.out r).le
  have kll := (tst_ok kOK.out r).le
  have kxb' : 0 ≤ tpre kl (tst kq kl r).1 ∧ tpre kl (tst kq kl r).1 ≤ 60000 := by have := kOK.out.len; omega
  clear hkq hkd hkl klk kxb kll
  dsimp only at kc1
  obtain ⟨ix, hix⟩ : ∃ x, tpre il (tst iq il r).1 = x := ⟨_, rfl⟩
  rw [hix] at icx ixb'
  have iX := Lib.hid hix
  clear hix
  obtain ⟨kx, hkx⟩ : ∃ x, tpre kl (tst kq kl r).1 = x := ⟨_, rfl⟩
  rw [hkx] at kcx kxb'
  have kX := Lib.hid hkx
  clear hkx
  go_wp2_with fail
  go_loopw [72] (fun vt w => ∃ t : Int, (t = 0 ∨ t = 1 ∨ t = 2) ∧ vt = .int .i64 t ∧ Hid (1 ≤ t → ix ≠ tpre il il.length) ∧ Hid (2 ≤ t → kx ≠ tpre kl kl.length) ∧ w = w5) (fun vt _ => 2 - (intOf vt).toNat)
  case atStart => exact ⟨0, .inl rfl, rfl, Lib.hid (fun h => absurd h (by omega)), Lib.hid (fun h => absurd h (by omega)), rfl⟩
  case round =>
    obtain ⟨t, ht3, rfl, hI, hK, rfl⟩ := hrel
    rcases ht3 with rfl | rfl | rfl
    · have hix := idx2_0 (i' : Int) (k' : Int)
      go_wp2_with fail
      clear hix
      go_loopw [81, 15] (fun vj vs w => ∃ j : Nat, j ≤ isz ∧ vj = .int .i64 (j : Int) ∧ vs = .int .i64 (tpre il j) ∧ w = wr) (fun vj _ _ => isz - (intOf vj).toNat)
      case atStart => exact ⟨0, Nat.zero_le _, rfl, rfl, rfl⟩
      case round =>
        obtain ⟨j, hj, rfl, rfl, rfl⟩ := hrel
        have hj0 : (0 : Int) ≤ j := by omega
        by_cases hjl : j < isz
        · obtain ⟨b2, o2, rfl, hb2, c2⟩ := iS.out.int_at hjl
          have hn2 : (j : Int) < isz := by omega
          have tb := tpre_bd iOK.out (a := j) (by rw [iLK.out]; omega)
          have z1 := iOK.out.lo j (by rw [iLK.out]; exact hjl)
          have z2 := iOK.out.hi j (by rw [iLK.out]; exact hjl)
          have TS : Hid (tpre il (j + 1) = tpre il j + gi il j) := Lib.hid rfl
          obtain ⟨z, hz'⟩ : ∃ z, gi il j = z := ⟨_, rfl⟩
          obtain ⟨t, ht⟩ : ∃ z, tpre il j = z := ⟨_, rfl⟩
          rw [hz'] at c2 z1 z2 TS
          rw [ht] at tb TS
          rw [ht]
          clear hz' ht
          go_wp2_with fail
          go_roundw
          case rel => exact ⟨j + 1, by omega, by go_num, by rw [TS.out], by first | trivial | rfl⟩
          case measure => simp [intOf]; omega
        · have hje : j = isz := by omega
          subst hje
          have hn2 : ¬ (j : Int) < j := by omega
          have hlen : tpre il il.length = tpre il j := by rw [iLK.out]
          have HL := Lib.hid hlen
          obtain ⟨sm, hsm⟩ : ∃ x, tpre il j = x := ⟨_, rfl⟩
          have HS := Lib.hid hsm
          rw [hsm]
          clear hlen hsm
          by_cases hxs : ix = sm
          · have hb : (ix == sm) = true := by simpa using hxs
            clear hxs
            go_wp2_with fail
            go_ret
            exact ⟨rfl, B5.out⟩
          · have hb : (ix == sm) = false := by simpa using hxs
            have HX := Lib.hid hxs
            clear hxs
            go_wp2_with fail
            go_roundw
            case rel => exact ⟨1, by omega, by go_num, Lib.hid (fun _ => by rw [HL.out, HS.out]; exact HX.out), Lib.hid (fun h => absurd h (by omega)), by first | trivial | rfl⟩
            case measure => simp [intOf]
    · have hix := idx2_1 (i' : Int) (k' : Int)
      go_wp2_with fail
      clear hix
      go_loopw [81, 15] (fun vj vs w => ∃ j : Nat, j ≤ ksz ∧ vj = .int .i64 (j : Int) ∧ vs = .int .i64 (tpre kl j) ∧ w = wr) (fun vj _ _ => ksz - (intOf vj).toNat)
      case atStart => exact ⟨0, Nat.zero_le _, rfl, rfl, rfl⟩
      case round =>
        obtain ⟨j, hj, rfl, rfl, rfl⟩ := hrel
        have hj0 : (0 : Int) ≤ j := by omega
        by_cases hjl : j < ksz
        · obtain ⟨b2, o2, rfl, hb2, c2⟩ := kS.out.int_at hjl
          have hn2 : (j : Int) < ksz := by omega
          have tb := tpre_bd kOK.out (a := j) (by rw [kLK.out]; omega)
          have z1 := kOK.out.lo j (by rw [kLK.out]; exact hjl)
          have z2 := kOK.out.hi j (by rw [kLK.out]; exact hjl)
          have TS : Hid (tpre kl (j + 1) = tpre kl j + gi kl j) := Lib.hid rfl
          obtain ⟨z, hz'⟩ : ∃ z, gi kl j = z := ⟨_, rfl⟩
          obtain ⟨t, ht⟩ : ∃ z, tpre kl j = z := ⟨_, rfl⟩
          rw [hz'] at c2 z1 z2 TS
          rw [ht] at tb TS
          rw [ht]
          clear hz' ht
          go_wp2_with fail
          go_roundw
          case rel => exact ⟨j + 1, by omega, by go_num, by rw [TS.out], by first | trivial | rfl⟩
          case measure => simp [intOf]; omega
        · have hje : j = ksz := by omega
          subst hje
          have hn2 : ¬ (j : Int) < j := by omega
          have hlen : tpre kl kl.length = tpre kl j := by rw [kLK.out]
          have HL := Lib.hid hlen
          obtain ⟨sm, hsm⟩ : ∃ x, tpre kl j = x := ⟨_, rfl⟩
          have HS := Lib.hid hsm
          rw [hsm]
          clear hlen hsm
          by_cases hxs : kx = sm
          · have hb : (kx == sm) = true := by simpa using hxs
            clear hxs
            go_wp2_with fail
            go_ret
            exact ⟨rfl, B5.out⟩
          · have hb : (kx == sm) = false := by simpa using hxs
            have HX := Lib.hid hxs
            clear hxs
            go_wp2_with fail
            go_roundw
            case rel => exact ⟨2, by omega, by go_num, Lib.hid (fun _ => hI.out (by omega)), Lib.hid (fun _ => by rw [HL.out, HS.out]; exact HX.out), by first | trivial | rfl⟩
            case measure => simp [intOf]
    · have iN := hI.out (by omega)
      have kN := hK.out (by omega)
      rw [← iX.out] at iN
      rw [← kX.out] at kN
      have i1 : 0 < isz := by
        rcases Nat.eq_zero_or_pos isz with h | h
        · exfalso
          have e : il.length = 0 := by rw [iLK.out]; exact h
          have l0 := (tst_ok iOK.out r).le
          rw [e] at l0
          have : (tst iq il r).1 = 0 := by omega
          rw [this, e] at iN
          exact iN rfl
        · exact h
      have k1 : 0 < ksz := by
        rcases Nat.eq_zero_or_pos ksz with h | h
        · exfalso
          have e : kl.length = 0 := by rw [kLK.out]; exact h
          have l0 := (tst_ok kOK.out r).le
          rw [e] at l0
          have : (tst kq kl r).1 = 0 := by omega
          rw [this, e] at kN
          exact kN rfl
        · exact h
      obtain ⟨iM, hiM⟩ := isMax_ex (l := il) (by rw [iLK.out]; exact i1)
      obtain ⟨kM, hkM⟩ := isMax_ex (l := kl) (by rw [kLK.out]; exact k1)
      have ff := tst_fair iOK.out kOK.out r hiM.2 hkM.2 iN kN
      rw [iX.out, kX.out] at ff
      have imb : 1 ≤ iM ∧ iM ≤ 1000 := by
        obtain ⟨⟨j, hj, e⟩, _⟩ := hiM
        rw [← e]
        exact ⟨iOK.out.lo j hj, iOK.out.hi j hj⟩
      have kmb : 1 ≤ kM ∧ kM ≤ 1000 := by
        obtain ⟨⟨j, hj, e⟩, _⟩ := hkM
        rw [← e]
        exact ⟨kOK.out.lo j hj, kOK.out.hi j hj⟩
      have IM := Lib.hid hiM
      have KM := Lib.hid hkM
      have prod : ∀ {x y B : Int}, 0 ≤ x → x ≤ B → 1 ≤ y → y ≤ 1000 → 0 ≤ x * y ∧ x * y ≤ 1000 * B := fun {x y B} h0 h1 h2 h3 => ⟨Int.mul_nonneg h0 (by omega), by
        have a1 := Int.mul_le_mul_of_nonneg_left h3 h0
        omega⟩
      have P1 := prod ixb'.1 ixb'.2 kq1 kq2
      have P2 := prod kxb'.1 kxb'.2 iq1 iq2
      have P3 := prod (show 0 ≤ iM by omega) imb.2 kq1 kq2
      have P4 := prod (show 0 ≤ kM by omega) kmb.2 iq1 iq2
      have h1 : ∃ D, wrap64 (ix * kq) = D ∧ D = ix * kq := ⟨_, IntWalk.wrap64_in _ ⟨by omega, by omega⟩, rfl⟩
      have h2 : ∃ D, wrap64 (kx * iq) = D ∧ D = kx * iq := ⟨_, IntWalk.wrap64_in _ ⟨by omega, by omega⟩, rfl⟩
      have h3 : ∃ D, wrap64 (wrap64 (iM * kq) + wrap64 (kM * iq)) = D ∧ D = iM * kq + kM * iq := ⟨_, by
        rw [IntWalk.wrap64_in (iM * kq) ⟨by omega, by omega⟩, IntWalk.wrap64_in (kM * iq) ⟨by omega, by omega⟩]
        exact IntWalk.wrap64_in _ ⟨by omega, by omega⟩, rfl⟩
      obtain ⟨D1, e1, f1⟩ := h1
      obtain ⟨D2, e2, f2⟩ := h2
      obtain ⟨D3, e3, f3⟩ := h3
      rw [← f1, ← f2, ← f3] at ff
      rw [← f1] at P1
      rw [← f2] at P2
      have d3 : 0 ≤ D3 ∧ D3 ≤ 2000000 := by omega
      have E1 := Lib.hid e1
      have E2 := Lib.hid e2
      have E3 := Lib.hid e3
      have hn0' : 0 < n := hn0
      clear iN kN hiM hkM imb kmb prod P3 P4 e1 e2 e3 f1 f2 f3
      go_wp2_with fail
      go_quiet (fail)
      rw [E1.out, E2.out]
      have iSq := Lib.hid (iS.out.drewN nq)
      have kSq := Lib.hid (kS.out.drewN nq)
      have BQ := Lib.hid (bel_drewN B5.out nq)
      have j0 : (wr.drewN nq).cell? ⟨b, off + i' * 2, none⟩ = some (.int .i64 iq) := ic0
      have j1 : (wr.drewN nq).cell? ⟨b, off + i' * 2 + 1, none⟩ = some (.slice ia isz ic_) := ic1
      have l0' : (wr.drewN nq).cell? ⟨b, off + k' * 2, none⟩ = some (.int .i64 kq) := kc0
      have l1' : (wr.drewN nq).cell? ⟨b, off + k' * 2 + 1, none⟩ = some (.slice ka ksz kc_) := kc1
      generalize wr.drewN nq = wq at iSq kSq BQ j0 j1 l0' l1' ⊢
      clear ic0 ic1 kc0 kc1 icx kcx iS kS B5 SX FS5
      go_wp2_with fail
      go_quiet (first
        | (go_at_call_of 20 (Value.slice ia isz ic_); exact Calls.quiet_of_same (smax_t _ _ _ _ il _ (iSq.out.drewN _) (by omega) i1 iM IM.out))
        | (go_at_call_of 20 (Value.slice ka ksz kc_); exact Calls.quiet_of_same (smax_t _ _ _ _ kl _ (kSq.out.drewN _) (by omega) k1 kM KM.out)))
      rw [E3.out]
      have t1 : D1 - D2 < D3 := by omega
      have t2 : D2 - D1 < D3 := by omega
      clear ff
      go_wp2_with fail
      go_ret
      exact ⟨rfl, bel_drewN BQ.out _⟩
end Go.Proofs.Ytpifknmoimlpoaa
