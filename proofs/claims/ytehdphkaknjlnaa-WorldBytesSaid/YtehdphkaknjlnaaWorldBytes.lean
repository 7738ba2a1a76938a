/- WorldBytes: bytes sent equal the reduction of lags plus partial pieces, the link is work-conserving, and peer states are consistent. -/
import Derived.Test.YtehdphkaknjlnaaWorldF
import Derived.Test.YtehdphkaknjlnaaOpenLL
set_option linter.unusedVariables false
namespace Go.Proofs.Ytehdphkaknjlnaa
open Go.RowKit
set_option maxRecDepth 100000 in
set_option maxHeartbeats 12800000 in
theorem worldBytes_walk (n rate unit : Int) (A : Option Addr) (k c : Nat) (hd : Nat → Option Addr × Nat × Nat) (ls : Nat → List Int) (W : World) (w0 : -9223372036854775808 ≤ n ∧ n ≤ 9223372036854775807) (w1 : -9223372036854775808 ≤ rate ∧ rate ≤ 9223372036854775807) (w2 : -9223372036854775808 ≤ unit ∧ unit ≤ 9223372036854775807) (w3 : InLL W A k c hd ls) :
    Calls Try.prog 3 #[.int .i64 n, .int .i64 rate, .int .i64 unit, .slice A k c] W fun e w' => e = .returned (.bool true) ∧ Below W.heap.size W w' := by
  have W3 := Lib.hid w3
  obtain ⟨sl0, le0, rc0, inn0⟩ := w3
  go_enter Try.func3, Try.ntmps3
  go_wp2_with fail
  refine (within_any n 8 _ (by omega) (by omega)).mono ?_
  rintro e _ ⟨rfl, rfl⟩
  have a0 := within_lo n 8 (by omega)
  have a1 := within_hi n 8 (by omega)
  generalize within n 8 = n' at *
  obtain ⟨nn, rfl⟩ := Int.eq_ofNat_of_zero_le a0
  go_wp2_with fail
  refine (within_any rate 50 _ (by omega) (by omega)).mono ?_
  rintro e _ ⟨rfl, rfl⟩
  have b0 := within_lo rate 50 (by omega)
  have b1 := within_hi rate 50 (by omega)
  generalize within rate 50 = r' at *
  obtain ⟨r, rfl⟩ := Int.eq_ofNat_of_zero_le b0
  go_wp2_with fail
  refine (within_any unit 20 _ (by omega) (by omega)).mono ?_
  rintro e _ ⟨rfl, rfl⟩
  have c0 := within_lo unit 20 (by omega)
  have c1 := within_hi unit 20 (by omega)
  generalize within unit 20 = u' at *
  have hm8 : nn + 1 ≤ 8 := by omega
  have hm1 : 1 ≤ nn + 1 := by omega
  obtain ⟨m, hm⟩ : ∃ m, nn + 1 = m := ⟨_, rfl⟩
  rw [hm] at hm8 hm1
  have hmI := Lib.hid (show 1 + (nn : Int) = m by omega)
  have hu1 : 1 ≤ 1 + u' := by omega
  have hu2 : 1 + u' ≤ 20 := by omega
  obtain ⟨ut, hut⟩ : ∃ ut, 1 + u' = ut := ⟨_, rfl⟩
  rw [hut] at hu1 hu2
  have hutI := Lib.hid hut
  have hr8 : r ≤ 50 := by omega
  clear hm hut w0 w1 w2
  go_wp2_with fail
  rw [hmI.out, hutI.out]
  clear hmI hutI a0 a1 b0 b1 c0 c1
  refine (wnew_ok m r ut W hm1 hm8 (by omega) (by omega) (by omega) (by omega)).mono ?_
  rintro e w1 ⟨rfl, ok1, b1'⟩
  obtain ⟨bw, hbw⟩ : ∃ bw, W.heap.size + 1 = bw := ⟨_, rfl⟩
  obtain ⟨bp, hbp⟩ : ∃ bp, W.heap.size = bp := ⟨_, rfl⟩
  have LO : Hid (W.heap.size ≤ bw ∧ W.heap.size ≤ bp) := by show _ ∧ _; omega
  rw [hbw] at ok1 ⊢
  rw [hbp] at ok1
  have OK1 := Lib.hid ok1
  have B1 := Lib.hid b1'
  have INN := Lib.hid inn0
  have SL0 := Lib.hid sl0
  clear ok1 b1' hbw hbp inn0 sl0
  go_wp2_with fail
  refine (wpeers_ok w1 bw bp m r ut _ OK1.out hm8).mono ?_
  rintro e w2 ⟨g2, c2, rfl, hg2, hown2, hb2⟩
  have BV := Lib.hid (B1.out.trans (hb2.mono B1.out.size))
  have OKV : Hid (WOk w2 bw bp m r ut ⟨fun _ => 0, fun _ => 0, 0⟩) := Lib.hid ⟨OK1.out.1.on hb2, OK1.out.2⟩
  clear hown2 hb2
  go_wp2_with fail
  have ap := wappend_ok w2 bw bp m r ut 3 _ OKV.out hm8 (by omega) (by omega)
  rw [app_three] at ap
  have AP := Lib.hid ap
  clear ap
  refine AP.out.mono ?_
  rintro e w3 ⟨rfl, ok3, on3⟩
  have B3 := Lib.hid (BV.out.trans (on3.below LO.out.1 LO.out.2 BV.out.size))
  have OK3 : Hid (WOk w3 bw bp m r ut ⟨fun _ => 3, fun _ => 0, 0⟩) := ok3
  clear ok3 on3
  go_wp2_with fail
  have TOT := Lib.hid (wtot_c 3 0 m)
  have lg := wlags_ok w3 bw bp m r ut _ OK3.out hm8
  rw [TOT.out] at lg
  have LG := Lib.hid lg
  clear lg
  refine LG.out.mono ?_
  rintro e w4 ⟨rfl, hb4⟩
  have B4 := Lib.hid (B3.out.trans (hb4.mono B3.out.size))
  have OK4 : Hid (WOk w4 bw bp m r ut ⟨fun _ => 3, fun _ => 0, 0⟩) := Lib.hid ⟨OK3.out.1.on hb4, OK3.out.2⟩
  clear hb4
  go_wp2_with fail
  go_loopw [60] (fun vi wr => ∃ i : Nat, ∃ s : WS, i ≤ k ∧ vi = .int .i64 i ∧ Hid (WOk wr bw bp m r ut s) ∧ Hid (Below W.heap.size W wr)) (fun vi _ => k - (intOf vi).toNat)
  case atStart => exact ⟨0, _, Nat.zero_le _, rfl, OK4, B4⟩
  case round =>
    obtain ⟨i, s, hi, rfl, hok, hb⟩ := hrel
    have hi0 : (0 : Int) ≤ i := by omega
    by_cases hlt : i < k
    · have hn1 : (i : Int) < k := by omega
      obtain ⟨ba, oa, rfl, hba, hcell⟩ := W3.out.at_ hlt
      have hcell2 : wr.cell? ⟨ba, oa + i, none⟩ = some (.slice (hd i).1 (hd i).2.1 (hd i).2.2) := (hb.out.cell (p := ⟨ba, oa + i, none⟩) hba).trans hcell
      obtain ⟨i1, i2, i3, i4⟩ := INN.out i hlt
      have HI1 := Lib.hid i1
      have HI4 := Lib.hid i4
      obtain ⟨Ai, mi, ci, hhd⟩ : ∃ Ai mi ci, hd i = (Ai, mi, ci) := ⟨_, _, _, rfl⟩
      rw [hhd] at hcell2 HI1 i2 i3
      simp only at hcell2 i2 i3
      obtain ⟨l, hl⟩ : ∃ l, ls i = l := ⟨_, rfl⟩
      rw [hl] at HI1 HI4
      have INV := Lib.hid hok.out.2
      have tb := tot_nonneg INV.out m (Nat.le_refl _)
      have tb2 : wtot s m ≤ 8000000 := by omega
      clear hcell i1 i4 hhd hl
      go_wp2_with fail
      refine (wlags_ok wr bw bp m r ut s hok.out hm8).mono ?_
      rintro e w5 ⟨rfl, hb5⟩
      have B5 := Lib.hid (hb.out.trans (hb5.mono hb.out.size))
      have OK5 : Hid (WOk w5 bw bp m r ut s) := Lib.hid ⟨hok.out.1.on hb5, hok.out.2⟩
      have SL5 : Hid (Sl w5 W.heap.size Ai mi (ints l)) := Lib.hid (HI1.out.below B5.out)
      have hlen := SL5.out.int_len
      clear hb5 hcell2
      obtain ⟨T, hT⟩ : ∃ T, wtot s m = T := ⟨_, rfl⟩
      have HT := Lib.hid hT
      rw [hT] at tb tb2 ⊢
      clear hT
      by_cases hm0 : mi = 0
      case' pos =>
        have E : Hid (wact m r ut s l = (s, 0)) := if_pos (by rw [hlen, hm0])
        have g0 : ¬ (0 : Int) < mi := by omega
        have AC := Lib.hid (wact_ok w5 bw bp m r ut s Ai mi ci _ l OK5.out hm8 (by omega) (by omega) SL5.out (by omega) HI4.out 0 (by rw [E.out]))
        clear hm0
        go_wp2_with fail
        refine AC.out.mono ?_
        rintro e w6 ⟨rfl, ok6, on6⟩
        have B6 := Lib.hid (B5.out.trans (on6.below LO.out.1 LO.out.2 B5.out.size))
        have OK6 : Hid (WOk w6 bw bp m r ut s) := Lib.hid (by rw [E.out] at ok6; exact ok6)
        clear ok6 on6
        go_wp2_with fail
        obtain ⟨s', hs'⟩ : ∃ s', s = s' := ⟨_, rfl⟩
        rw [hs'] at OK6
        have OKz := OK6
        have Bz := B6
      case' neg =>
        obtain ⟨b, off, rfl, hbb, d0⟩ := SL5.out.int_at (k := 0) (by omega)
        rw [Nat.add_zero] at d0
        have g0 : (0 : Int) < mi := by omega
        obtain ⟨q, hq⟩ : ∃ q, within (gi l 0) 3 = q := ⟨_, rfl⟩
        have q0 := within_lo (gi l 0) 3 (by omega)
        have q1 := within_hi (gi l 0) 3 (by omega)
        rw [hq] at q0 q1
        have zb := HI4.out _ (gi_mem (zs := l) (k := 0) (by omega))
        have WI : Hid (∀ w, Calls Try.prog 14 #[.int .i64 (gi l 0), .int .i64 3] w fun e w' => e = .returned (.int .i64 q) ∧ w = w') := by
          show ∀ w, _
          intro w
          rw [← hq]
          exact within_any _ 3 w (by omega) (by omega)
        have AC := Lib.hid (wact_ok w5 bw bp m r ut s _ mi ci _ l OK5.out hm8 (by omega) (by omega) SL5.out (by omega) HI4.out _ rfl)
        have IA := Lib.hid (inv_wact (r := r) INV.out l)
        have HQ := Lib.hid hq
        clear hq zb
        go_wp2_with fail
        refine (WI.out _).mono ?_
        rintro e _ ⟨rfl, rfl⟩
        rcases (show q = 1 ∨ q = 0 ∨ q = 2 by omega) with rfl | rfl | rfl
        case' inl =>
          go_wp2_with fail
          refine (wtick_ok w5 bw bp m r ut s OK5.out hm8 (by omega) (by omega)).mono ?_
          rintro e w6 ⟨rfl, ok6, on6⟩
          have TT := Lib.hid (tot_tick (r := r) INV.out)
          have gdef : wgot m s r = if (r : Int) ≤ wtot s m then (r : Int) else wtot s m := rfl
          rw [HT.out] at gdef TT
          obtain ⟨G, hG⟩ : ∃ G, wgot m s r = G := ⟨_, rfl⟩
          rw [hG] at gdef TT ⊢
          have G0 : 0 ≤ G ∧ G ≤ T := by rw [gdef]; split <;> omega
          obtain ⟨G1, G2⟩ := G0
          have hmin : min (r : Int) T = G := by rw [gdef]; split <;> omega
          have hmin2 : (if T < (r : Int) then T else (r : Int)) = G := by rw [gdef]; split <;> split <;> omega
          have B6 := Lib.hid (B5.out.trans (on6.below LO.out.1 LO.out.2 B5.out.size))
          have OK6 := Lib.hid ok6
          clear ok6 on6 gdef hG d0
          go_wp2_with fail
          refine (wlags_ok w6 bw bp m r ut _ OK6.out hm8).mono ?_
          rintro e w7 ⟨rfl, hb7⟩
          rw [TT.out]
          have B7 := Lib.hid (B6.out.trans (hb7.mono B6.out.size))
          have OK7 : Hid (WOk w7 bw bp m r ut (wit m ut s r)) := Lib.hid ⟨OK6.out.1.on hb7, OK6.out.2⟩
          clear hb7 hmin hmin2
          go_wp2_with fail
          obtain ⟨s', hs'⟩ : ∃ s', wit m ut s r = s' := ⟨_, rfl⟩
          rw [hs'] at OK7
          have OKz := OK7
          have Bz := B7
        case' inr.inl =>
          go_wp2_with fail
          refine AC.out.mono ?_
          rintro e w6 ⟨rfl, ok6, on6⟩
          have B7 := Lib.hid (B5.out.trans (on6.below LO.out.1 LO.out.2 B5.out.size))
          have OK7 := Lib.hid ok6
          have d1 := (((HI1.out.below B7.out)).int_cell (k := 0) (by omega))
          rw [Nat.add_zero] at d1
          generalize (wact m r ut s l).2 = v at *
          clear ok6 on6 d0
          go_wp2_with fail
          refine (WI.out _).mono ?_
          rintro e _ ⟨rfl, rfl⟩
          go_wp2_with fail
          obtain ⟨s', hs'⟩ : ∃ s', (wact m r ut s l).1 = s' := ⟨_, rfl⟩
          rw [hs'] at OK7
          have OKz := OK7
          have Bz := B7
        case' inr.inr =>
          have CR := Lib.hid (act_crash (r := r) INV.out (by omega) HQ.out)
          have tb7 := tot_nonneg IA.out m (Nat.le_refl _)
          go_wp2_with fail
          refine AC.out.mono ?_
          rintro e w6 ⟨rfl, ok6, on6⟩
          have B6 := Lib.hid (B5.out.trans (on6.below LO.out.1 LO.out.2 B5.out.size))
          have OK6 := Lib.hid ok6
          have d1 := (((HI1.out.below B6.out)).int_cell (k := 0) (by omega))
          rw [Nat.add_zero] at d1
          rw [HT.out] at CR
          rw [CR.out] at tb7
          generalize (wact m r ut s l).2 = v at *
          clear ok6 on6 d0
          go_wp2_with fail
          refine (WI.out _).mono ?_
          rintro e _ ⟨rfl, rfl⟩
          go_wp2_with fail
          refine (wlags_ok w6 bw bp m r ut _ OK6.out hm8).mono ?_
          rintro e w7 ⟨rfl, hb7⟩
          rw [CR.out]
          have B7 := Lib.hid (B6.out.trans (hb7.mono B6.out.size))
          have OK7 : Hid (WOk w7 bw bp m r ut (wact m r ut s l).1) := Lib.hid ⟨OK6.out.1.on hb7, OK6.out.2⟩
          have fv : IntKind.i64.wrap (T + v) = T + v := IntWalk.i64_in _ ⟨by omega, by omega⟩
          clear hb7
          go_wp2_with fail
          obtain ⟨s', hs'⟩ : ∃ s', (wact m r ut s l).1 = s' := ⟨_, rfl⟩
          rw [hs'] at OK7
          have OKz := OK7
          have Bz := B7
      all_goals
        have INVz := Lib.hid OKz.out.2
        refine (wpeers_ok _ bw bp m r ut s' OKz.out hm8).mono ?_
        rintro e w8 ⟨g8, c8, rfl, hg8, hown8, hb8⟩
        have B8 := Lib.hid (Bz.out.trans (hb8.mono Bz.out.size))
        have OK8 : Hid (WOk w8 bw bp m r ut s') := Lib.hid ⟨OKz.out.1.on hb8, OKz.out.2⟩
        have CL := Lib.hid (peers_at (by omega) hown8)
        clear hown8 hb8
        go_wp2_with fail
        go_loopw [116] (fun vi wr' => ∃ j : Nat, j ≤ m ∧ vi = .int .i64 j ∧ Below w8.heap.size w8 wr') (fun vi _ => m - (intOf vi).toNat)
        case atStart => exact ⟨0, Nat.zero_le _, rfl, Below.refl _ _⟩
        case round =>
          obtain ⟨j, hj, rfl, hb9⟩ := hrel
          have HB9 := Lib.hid hb9
          have hz9 := hb9.size
          have hj0 : (0 : Int) ≤ j := by omega
          by_cases hlt2 : j < m
          · have hn2 : (j : Int) < m := by omega
            obtain ⟨d0, d1, d2⟩ := CL.out wr hb9 j hlt2
            have lag := INVz.out.lag j hlt2
            have part := INVz.out.part j hlt2
            have f1 : decide (s'.P j < 0) = false := decide_eq_false (by omega)
            have f2 : decide (ut ≤ s'.P j) = false := decide_eq_false (by omega)
            have f5 : decide (s'.L j < 0) = false := decide_eq_false (by omega)
            by_cases hP : 0 < s'.P j
            · have f3 := decide_eq_true hP
              have f4 : decide (s'.L j ≤ s'.P j) = false := decide_eq_false (by omega)
              clear hb9 lag part hP
              go_wp2_with fail
              go_roundw
              case rel => exact ⟨j + 1, by omega, by go_num, HB9.out.alloc hz9 _⟩
              case measure => simp [intOf]; omega
            · have f3 := decide_eq_false hP
              clear hb9 lag part hP
              go_wp2_with fail
              go_roundw
              case rel => exact ⟨j + 1, by omega, by go_num, HB9.out.alloc hz9 _⟩
              case measure => simp [intOf]; omega
          · have hjm : j = m := by omega
            subst hjm
            have hn2 : ¬ (j : Int) < j := by omega
            have OK9 : Hid (WOk wr bw bp j r ut s') := Lib.hid ⟨OK8.out.1.on hb9, OK8.out.2⟩
            have B9 := Lib.hid (B8.out.trans (hb9.mono B8.out.size))
            clear hb9
            go_wp2_with fail
            go_roundw
            case rel => exact ⟨i + 1, s', by omega, by go_num, OK9, B9⟩
            case measure => simp [intOf]; omega
    · have hik : i = k := by omega
      subst hik
      have hn1 : ¬ (i : Int) < i := by omega
      go_wp2_with fail
      go_ret
      exact ⟨rfl, hb.out⟩
end Go.Proofs.Ytehdphkaknjlnaa
