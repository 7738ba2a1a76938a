/- WorldCalm: without new data all peers finish when all lag and all bytes lost in crashes have been sent. -/
import Derived.Test.YtehdphkaknjlnaaWorldF
import Derived.Test.YtehdphkaknjlnaaOpenLL
set_option linter.unusedVariables false
namespace Go.Proofs.Ytehdphkaknjlnaa
open Go.RowKit
theorem calm_end {n r k : Nat} {u : Int} {s : WS} (h : WInv n u s) (hk : wtot s n ≤ ((r * k : Nat) : Int)) : wtot (wit n u s (r * k)) n = 0 := by
  rw [tot_tick h]
  unfold wgot
  split <;> omega
set_option maxRecDepth 100000 in
set_option maxHeartbeats 12800000 in
theorem worldCalm_walk (n rate unit : Int) (A : Option Addr) (k c : Nat) (hd : Nat → Option Addr × Nat × Nat) (ls : Nat → List Int) (W : World) (w0 : -9223372036854775808 ≤ n ∧ n ≤ 9223372036854775807) (w1 : -9223372036854775808 ≤ rate ∧ rate ≤ 9223372036854775807) (w2 : -9223372036854775808 ≤ unit ∧ unit ≤ 9223372036854775807) (w3 : InLL W A k c hd ls) :
    Calls Try.prog 4 #[.int .i64 n, .int .i64 rate, .int .i64 unit, .slice A k c] W fun e w' => e = .returned (.bool true) ∧ Below W.heap.size W w' := by
  have W3 := Lib.hid w3
  obtain ⟨sl0, le0, rc0, inn0⟩ := w3
  go_enter Try.func4, Try.ntmps4
  go_wp2_with fail
  refine (within_any n 8 _ (by omega) (by omega)).mono ?_
  rintro e _ ⟨rfl, rfl⟩
  have a0 := within_lo n 8 (by omega)
  have a1 := within_hi n 8 (by omega)
  generalize within n 8 = n' at *
  obtain ⟨nn, rfl⟩ := Int.eq_ofNat_of_zero_le a0
  go_wp2_with fail
  refine (within_any rate 50 _ (by omega) (by omega)).mono ?_
  rintro e _ ⟨rfl, rfl⟩
  have b0 := within_lo rate 50 (by omega)
  have b1 := within_hi rate 50 (by omega)
  generalize within rate 50 = r' at *
  obtain ⟨rr, rfl⟩ := Int.eq_ofNat_of_zero_le b0
  go_wp2_with fail
  refine (within_any unit 20 _ (by omega) (by omega)).mono ?_
  rintro e _ ⟨rfl, rfl⟩
  have c0 := within_lo unit 20 (by omega)
  have c1 := within_hi unit 20 (by omega)
  generalize within unit 20 = u' at *
  have hm8 : nn + 1 ≤ 8 := by omega
  have hm1 : 1 ≤ nn + 1 := by omega
  obtain ⟨m, hm⟩ : ∃ m, nn + 1 = m := ⟨_, rfl⟩
  rw [hm] at hm8 hm1
  have hmI := Lib.hid (show 1 + (nn : Int) = m by omega)
  have hu1 : 1 ≤ 1 + u' := by omega
  have hu2 : 1 + u' ≤ 20 := by omega
  obtain ⟨ut, hut⟩ : ∃ ut, 1 + u' = ut := ⟨_, rfl⟩
  rw [hut] at hu1 hu2
  have hutI := Lib.hid hut
  have hr8 : rr + 1 ≤ 50 := by omega
  have hr1 : 1 ≤ rr + 1 := by omega
  obtain ⟨r, hr⟩ : ∃ r, rr + 1 = r := ⟨_, rfl⟩
  rw [hr] at hr8 hr1
  have hrI := Lib.hid (show 1 + (rr : Int) = r by omega)
  clear hm hut hr w0 w1 w2
  go_wp2_with fail
  rw [hmI.out, hrI.out, hutI.out]
  clear hmI hrI hutI a0 a1 b0 b1 c0 c1
  refine (wnew_ok m r ut W hm1 hm8 (by omega) (by omega) (by omega) (by omega)).mono ?_
  rintro e w1 ⟨rfl, ok1, b1'⟩
  obtain ⟨bw, hbw⟩ : ∃ bw, W.heap.size + 1 = bw := ⟨_, rfl⟩
  obtain ⟨bp, hbp⟩ : ∃ bp, W.heap.size = bp := ⟨_, rfl⟩
  have LO : Hid (W.heap.size ≤ bw ∧ W.heap.size ≤ bp) := by show _ ∧ _; omega
  rw [hbw] at ok1 ⊢
  rw [hbp] at ok1
  have OK1 := Lib.hid ok1
  have B1 := Lib.hid b1'
  have INN := Lib.hid inn0
  have SL0 := Lib.hid sl0
  clear ok1 b1' hbw hbp inn0 sl0
  go_wp2_with fail
  have ap := wappend_ok w1 bw bp m r ut 3 _ OK1.out hm8 (by omega) (by omega)
  rw [app_three] at ap
  have AP := Lib.hid ap
  clear ap
  refine AP.out.mono ?_
  rintro e w3 ⟨rfl, ok3, on3⟩
  have B3 := Lib.hid (B1.out.trans (on3.below LO.out.1 LO.out.2 B1.out.size))
  have OK3 : Hid (WOk w3 bw bp m r ut ⟨fun _ => 3, fun _ => 0, 0⟩) := ok3
  clear ok3 on3
  go_wp2_with fail
  refine (wpeers_ok w3 bw bp m r ut _ OK3.out hm8).mono ?_
  rintro e w4 ⟨g4, c4, rfl, hg4, hown4, hb4⟩
  have B4 := Lib.hid (B3.out.trans (hb4.mono B3.out.size))
  have OK4 : Hid (WOk w4 bw bp m r ut ⟨fun _ => 3, fun _ => 0, 0⟩) := Lib.hid ⟨OK3.out.1.on hb4, OK3.out.2⟩
  obtain ⟨-, -, d2⟩ := peers_at (by omega) hown4 w4 (Below.refl _ _) 0 (by omega)
  have d2' : w4.cell? ⟨g4, 2, none⟩ = some (.bool false) := by
    rw [Nat.zero_mul, Nat.zero_add] at d2
    exact d2
  have m0 : (0 : Int) < m := by omega
  clear hown4 hb4 d2
  obtain ⟨kk, hkk⟩ : ∃ kk, (if k ≤ 40 then k else 40) = kk := ⟨_, rfl⟩
  have kk1 : kk ≤ k := by rw [← hkk]; split <;> omega
  have kk2 : kk ≤ 40 := by rw [← hkk]; split <;> omega
  have kmin : min (k : Int) 40 = (kk : Int) := by rw [← hkk]; split <;> omega
  have kmin2 : (if (40 : Int) < (k : Int) then (40 : Int) else (k : Int)) = (kk : Int) := by rw [← hkk]; split <;> split <;> omega
  have kk3 : (kk : Int) ≤ c := by omega
  have kk4 : (0 : Int) ≤ kk := by omega
  clear hkk
  go_wp2_with fail
  clear d2' kmin kmin2
  go_loopw [57] (fun vi wr => ∃ i : Nat, ∃ s : WS, i ≤ kk ∧ vi = .int .i64 i ∧ Hid (WOk wr bw bp m r ut s) ∧ Hid (Below W.heap.size W wr)) (fun vi _ => kk - (intOf vi).toNat)
  case atStart => exact ⟨0, _, Nat.zero_le _, rfl, OK4, B4⟩
  case round =>
    obtain ⟨i, s, hi, rfl, hok, hb⟩ := hrel
    have hi0 : (0 : Int) ≤ i := by omega
    by_cases hlt : i < kk
    · have hn1 : (i : Int) < kk := by omega
      obtain ⟨ba, oa, rfl, hba, hcell⟩ := W3.out.at_ (show i < k by omega)
      have hcell2 : wr.cell? ⟨ba, oa + i, none⟩ = some (.slice (hd i).1 (hd i).2.1 (hd i).2.2) := (hb.out.cell (p := ⟨ba, oa + i, none⟩) hba).trans hcell
      obtain ⟨i1, i2, i3, i4⟩ := INN.out i (show i < k by omega)
      have HI1 := Lib.hid i1
      have HI4 := Lib.hid i4
      obtain ⟨Ai, mi, ci, hhd⟩ : ∃ Ai mi ci, hd i = (Ai, mi, ci) := ⟨_, _, _, rfl⟩
      rw [hhd] at hcell2 HI1 i2 i3
      simp only at hcell2 i2 i3
      obtain ⟨l, hl⟩ : ∃ l, ls i = l := ⟨_, rfl⟩
      rw [hl] at HI1 HI4
      clear hcell i1 i4 hhd hl
      go_wp2_with fail
      refine (wact_ok wr bw bp m r ut s Ai mi ci _ l hok.out hm8 (by omega) (by omega) (HI1.out.below hb.out) (by omega) HI4.out _ rfl).mono ?_
      rintro e w6 ⟨rfl, ok6, on6⟩
      have B6 := Lib.hid (hb.out.trans (on6.below LO.out.1 LO.out.2 hb.out.size))
      have OK6 := Lib.hid ok6
      clear ok6 on6 hcell2
      generalize (wact m r ut s l).2 = v1
      obtain ⟨s', hs'⟩ : ∃ s', (wact m r ut s l).1 = s' := ⟨_, rfl⟩
      rw [hs'] at OK6
      clear hs'
      go_wp2_with fail
      go_roundw
      case rel => exact ⟨i + 1, s', by omega, by go_num, OK6, B6⟩
      case measure => simp [intOf]; omega
    · have hik : i = kk := by omega
      subst hik
      have hn1 : ¬ (i : Int) < i := by omega
      have INV := Lib.hid hok.out.2
      have tb := tot_nonneg INV.out m (Nat.le_refl _)
      go_wp2_with fail
      refine (wlags_ok wr bw bp m r ut s hok.out hm8).mono ?_
      rintro e w5 ⟨rfl, hb5⟩
      have B5 := Lib.hid (hb.out.trans (hb5.mono hb.out.size))
      have OK5 : Hid (WOk w5 bw bp m r ut s) := Lib.hid ⟨hok.out.1.on hb5, hok.out.2⟩
      obtain ⟨T, hT⟩ := Int.eq_ofNat_of_zero_le tb.1
      have CE := Lib.hid (fun (q : Nat) => calm_end (r := r) (k := q) INV.out)
      rw [hT] at tb CE ⊢
      have tb2 : T ≤ 8000000 := by omega
      clear hb5 hT tb
      go_wp2_with fail
      go_loopw [14] (fun vt w' => ∃ t : Nat, r * t ≤ T + 50 ∧ vt = .int .i64 t ∧ Hid (WOk w' bw bp m r ut (wit m ut s (r * t))) ∧ Hid (Below W.heap.size W w')) (fun vt _ => T + 60 - (intOf vt).toNat)
      case atStart => exact ⟨0, by rw [Nat.mul_zero]; omega, rfl, by rw [Nat.mul_zero]; exact OK5, B5⟩
      case round =>
        obtain ⟨t, ht, rfl, hok2, hb2⟩ := hrel
        have ht0 : (0 : Int) ≤ t := by omega
        have tle : t ≤ r * t := Nat.le_mul_of_pos_left t hr1
        obtain ⟨y, hy⟩ : ∃ y, r * t = y := ⟨_, rfl⟩
        rw [hy] at ht tle
        have fy : IntKind.i64.wrap ((t : Int) * (r : Int)) = (y : Int) := by
          rw [show (t : Int) * (r : Int) = (y : Int) by rw [← hy]; push_cast; exact Int.mul_comm _ _]
          exact IntWalk.i64_in _ ⟨by omega, by omega⟩
        have HY := Lib.hid hy
        clear hy
        by_cases hl : y < T
        · have hn2 : (y : Int) < T := by omega
          go_wp2_with fail
          refine (wtick_ok _ bw bp m r ut _ hok2.out hm8 (by omega) (by omega)).mono ?_
          rintro e w7 ⟨rfl, ok7, on7⟩
          have OK7 : Hid (WOk w7 bw bp m r ut (wit m ut s (r * (t + 1)))) := by show WOk _ _ _ _ _ _ _; rw [Nat.mul_succ, wit_add]; exact ok7
          have B7 := Lib.hid (hb2.out.trans (on7.below LO.out.1 LO.out.2 hb2.out.size))
          have ny : r * (t + 1) ≤ T + 50 := by rw [Nat.mul_succ, HY.out]; omega
          have tb3 : t < 8000000 := by omega
          clear ok7 on7 fy
          go_wp2_with fail
          go_roundw
          case rel => exact ⟨t + 1, ny, by go_num, OK7, B7⟩
          case measure => simp [intOf]; omega
        · have hn2 : ¬ (y : Int) < T := by omega
          have Z := Lib.hid (CE.out t (by rw [HY.out]; omega))
          have INV2 := Lib.hid hok2.out.2
          obtain ⟨s2, hs2⟩ : ∃ s2, wit m ut s (r * t) = s2 := ⟨_, rfl⟩
          rw [hs2] at hok2 Z INV2
          have ALL := Lib.hid (tot_all INV2.out Z.out)
          clear hs2
          go_wp2_with fail
          refine (wpeers_ok _ bw bp m r ut s2 hok2.out hm8).mono ?_
          rintro e w8 ⟨g8, c8, rfl, hg8, hown8, hb8⟩
          have B8 := Lib.hid (hb2.out.trans (hb8.mono hb2.out.size))
          have OK8 : Hid (WOk w8 bw bp m r ut s2) := Lib.hid ⟨hok2.out.1.on hb8, hok2.out.2⟩
          have CL := Lib.hid (peers_at (by omega) hown8)
          clear hown8 hb8 fy
          go_wp2_with fail
          go_loopw [80] (fun vi wr' => ∃ j : Nat, j ≤ m ∧ vi = .int .i64 j ∧ Below w8.heap.size w8 wr') (fun vi _ => m - (intOf vi).toNat)
          case atStart => exact ⟨0, Nat.zero_le _, rfl, Below.refl _ _⟩
          case round =>
            obtain ⟨j, hj, rfl, hb9⟩ := hrel
            have HB9 := Lib.hid hb9
            have hz9 := hb9.size
            have hj0 : (0 : Int) ≤ j := by omega
            by_cases hlt2 : j < m
            · have hn3 : (j : Int) < m := by omega
              obtain ⟨d0, d1, d2⟩ := CL.out _ hb9 j hlt2
              obtain ⟨z0, z1⟩ := ALL.out j hlt2
              rw [z0] at d0 d2
              rw [z1] at d1
              have bt : ((0 : Int) == 0) = true := rfl
              rw [bt] at d2
              clear hb9 z0 z1 bt
              go_wp2_with fail
              go_roundw
              case rel => exact ⟨j + 1, by omega, by go_num, HB9.out.alloc hz9 _⟩
              case measure => simp [intOf]; omega
            · have hjm : j = m := by omega
              subst hjm
              have hn3 : ¬ (j : Int) < j := by omega
              have OK9 : Hid (WOk wr bw bp j r ut s2) := Lib.hid ⟨OK8.out.1.on hb9, OK8.out.2⟩
              have B9 := Lib.hid (B8.out.trans (hb9.mono B8.out.size))
              have G0 : Hid (wgot j s2 r = 0) := by
                show _ = _
                unfold wgot
                rw [Z.out, if_neg (by omega)]
              have lg := wlags_ok wr bw bp j r ut s2 OK9.out hm8
              rw [Z.out] at lg
              have LG := Lib.hid lg
              clear hb9 lg
              go_wp2_with fail
              refine LG.out.mono ?_
              rintro e wa ⟨rfl, hba⟩
              have OKa : Hid (WOk wa bw bp j r ut s2) := Lib.hid ⟨OK9.out.1.on hba, OK9.out.2⟩
              have Ba := Lib.hid (B9.out.trans (hba.mono B9.out.size))
              clear hba
              go_wp2_with fail
              refine (wtick_ok wa bw bp j r ut s2 OKa.out hm8 (by omega) (by omega)).mono ?_
              rintro e wb ⟨rfl, okb, onb⟩
              rw [G0.out]
              have Bb := Lib.hid (Ba.out.trans (onb.below LO.out.1 LO.out.2 Ba.out.size))
              clear okb onb
              go_wp2_with fail
              go_ret
              exact ⟨rfl, Bb.out⟩
end Go.Proofs.Ytehdphkaknjlnaa
