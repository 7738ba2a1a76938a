/- WorldOwn: results of a World are copies. -/
import Derived.Test.YtehdphkaknjlnaaWorldF
import Derived.Test.YtehdphkaknjlnaaOpenLL
import Derived.Test.YtehdphkaknjlnaaSetL
set_option linter.unusedVariables false
namespace Go.Proofs.Ytehdphkaknjlnaa
open Go.RowKit
theorem WB.only {w w' : World} {bv bq bw bp n : Nat} {rate unit : Int} {L P : Nat → Int} {D : Nat → Bool} {t : Nat} (h : WB w bv bq n rate unit L P D t) (ho : Only bw bp w w') (h1 : bv ≠ bw) (h2 : bv ≠ bp) (h3 : bq ≠ bw) (h4 : bq ≠ bp) : WB w' bv bq n rate unit L P D t := by
  have eb := ho.block bv h.hw h1 h2
  have ep := ho.block bq h.hp h3 h4
  exact ⟨(World.cell?_of_block (w := w) eb).trans h.c0, (World.cell?_of_block (w := w) eb).trans h.c1, (World.cell?_of_block (w := w) eb).trans h.c2, (World.cell?_of_block (w := w) eb).trans h.c3,
    fun i hi => (World.cell?_of_block (w := w) ep).trans (h.p0 i hi), fun i hi => (World.cell?_of_block (w := w) ep).trans (h.p1 i hi), fun i hi => (World.cell?_of_block (w := w) ep).trans (h.p2 i hi),
    fun q => (World.frozen?_of_block (w := w) eb).trans (h.fw q), fun q => (World.frozen?_of_block (w := w) ep).trans (h.fp q), h.ne, Nat.lt_of_lt_of_le h.hw ho.size, Nat.lt_of_lt_of_le h.hp ho.size⟩
set_option maxHeartbeats 1600000 in
theorem spoilP (base g n cap : Nat) (xs : List Value) (w : World) (x0 x1 : Int) (x2 : Bool) (hown : w.ownsRow base 36 3 (.slice (some ⟨g, 0, none⟩) n cap) n xs) (hg : g < w.heap.size) :
    Calls Try.prog 21 #[.slice (some ⟨g, 0, none⟩) n cap, .agg #[.int .i64 x0, .int .i64 x1, .bool x2]] w fun e w' => e = .returned (.tuple #[]) ∧ Only g g w w' := by
  obtain ⟨cur, hbg, hgc, hnc, hcm, hcs, hct⟩ := own_parts hown
  obtain ⟨rest, hrl, ol⟩ := own_longer hown hnc (Nat.le_refl cap)
  obtain ⟨bx, hbx⟩ : ∃ bx : Obj, bx = .cells #[.int .i64 x0, .int .i64 x1, .bool x2] 36 := ⟨_, rfl⟩
  have OL := Lib.hid (World.ownsRow.alloc ol bx)
  have O0 : Hid (Only g g w (w.alloc bx)) := Lib.hid ((Only.refl g g w).alloc bx)
  have BX : Hid (∀ j, (w.alloc bx).cell? ⟨w.heap.size, j, none⟩ = #[Value.int .i64 x0, .int .i64 x1, .bool x2][j]?) := Lib.hid fun j => by rw [hbx]; exact World.cell?_alloc_at _ _ _ _ rfl
  have hz : Hid (w.heap.size < (w.alloc bx).heap.size) := by show _ < _; simp
  have c1 : (0 : Int) ≤ cap := by omega
  have c2 : cap ≤ 9223372036854775807 := by unfold maxLen at hcm; omega
  clear hown hgc hct ol
  go_enter Try.func21, Try.ntmps21
  go_wp2_with fail
  rw [← hbx]
  obtain ⟨V, hV⟩ : ∃ V, w.alloc bx = V := ⟨_, rfl⟩
  rw [hV] at OL O0 BX hz ⊢
  clear hbx hV
  go_loopw [11] (fun vi wr => ∃ i : Nat, ∃ ys : List Value, i ≤ cap ∧ vi = .int .i64 i ∧ wr.ownsRow base 36 3 (.slice (some ⟨g, 0, none⟩) cap cap) cap ys ∧ Only g g V wr) (fun vi _ => cap - (intOf vi).toNat)
  case atStart => exact ⟨0, _, Nat.zero_le _, rfl, OL.out, Only.refl _ _ _⟩
  case round =>
    obtain ⟨i, ys, hi, rfl, hown, hon⟩ := hrel
    have HO := Lib.hid hown
    have HN := Lib.hid hon
    have hi0 : (0 : Int) ≤ i := by omega
    by_cases hlt : i < cap
    · have hn1 : (i : Int) < cap := by omega
      have yl := hown.1
      have e0 := hown.cellAt (i * 3) (by omega)
      have e1 := hown.cellAt (i * 3 + 1) (by omega)
      have e2 := hown.cellAt (i * 3 + 2) (by omega)
      rw [List.getElem?_eq_getElem (by omega)] at e0 e1 e2
      have fz : ∀ q, wr.frozen? ⟨g, q, none⟩ = false := hown.frozenAt
      have xb : ∀ j, wr.cell? ⟨w.heap.size, j, none⟩ = #[Value.int .i64 x0, .int .i64 x1, .bool x2][j]? := fun j => (World.cell?_of_block (w := V) (hon.block w.heap.size hz.out (by omega) (by omega))).trans (BX.out j)
      have x0c : wr.cell? ⟨w.heap.size, 0, none⟩ = some (.int .i64 x0) := xb 0
      have x1c : wr.cell? ⟨w.heap.size, 1, none⟩ = some (.int .i64 x1) := xb 1
      have x2c : wr.cell? ⟨w.heap.size, 2, none⟩ = some (.bool x2) := xb 2
      have O6 := Lib.hid ((((hown.stored (i * 3) (.int .i64 x0)).1.stored (i * 3 + 1) (.int .i64 x1)).1.stored (i * 3 + 2) (.bool x2)).1)
      have N6 := Lib.hid (((hon.set ⟨g, i * 3, none⟩ (.inl rfl) (.int .i64 x0)).set ⟨g, i * 3 + 1, none⟩ (.inl rfl) (.int .i64 x1)).set ⟨g, i * 3 + 2, none⟩ (.inl rfl) (.bool x2))
      generalize ys[i * 3] = y0 at e0
      generalize ys[i * 3 + 1] = y1 at e1
      generalize ys[i * 3 + 2] = y2 at e2
      clear hown hon xb
      go_wp2_with fail
      go_roundw
      case rel => exact ⟨i + 1, _, by omega, by go_num, O6.out, N6.out⟩
      case measure => simp [intOf]; omega
    · have hin : i = cap := by omega
      subst hin
      have hn1 : ¬ (i : Int) < i := by omega
      clear hown hon
      go_wp2_with fail
      go_end0
      exact ⟨rfl, O0.out.trans HN.out⟩
set_option maxHeartbeats 1600000 in
theorem equalP (g h n c d : Nat) (s : WS) (W : World) (hx : ∀ i, i < n → W.cell? ⟨g, i * 3, none⟩ = some (.int .i64 (s.L i)) ∧ W.cell? ⟨g, i * 3 + 1, none⟩ = some (.int .i64 (s.P i)) ∧ W.cell? ⟨g, i * 3 + 2, none⟩ = some (.bool (s.L i == 0))) (hy : ∀ i, i < n → W.cell? ⟨h, i * 3, none⟩ = some (.int .i64 (s.L i)) ∧ W.cell? ⟨h, i * 3 + 1, none⟩ = some (.int .i64 (s.P i)) ∧ W.cell? ⟨h, i * 3 + 2, none⟩ = some (.bool (s.L i == 0))) (hn : n ≤ 8) :
    Calls Try.prog 22 #[.slice (some ⟨g, 0, none⟩) n c, .slice (some ⟨h, 0, none⟩) n d] W fun e w' => e = .returned (.bool true) ∧ Below W.heap.size W w' := by
  have hne : ((n : Int) != n) = false := by simp
  have HX := Lib.hid hx
  have HY := Lib.hid hy
  clear hx hy
  go_enter Try.func22, Try.ntmps22
  go_wp2
  go_loopw [13, 5] (fun i _ wr => ∃ k : Nat, k ≤ n ∧ i = .int .i64 k ∧ ∃ q, wr = W.drewN q) (fun i _ _ => n - (intOf i).toNat)
  case atStart => exact ⟨0, Nat.zero_le _, rfl, 0, rfl⟩
  case round =>
    obtain ⟨k, hk, rfl, q, rfl⟩ := hrel
    have h0 : (0 : Int) ≤ k := by omega
    by_cases hlt : k < n
    · obtain ⟨c0, c1, c2⟩ := HX.out k hlt
      obtain ⟨d0, d1, d2⟩ := HY.out k hlt
      have hn1 : (k : Int) < n := by omega
      obtain ⟨b, hb⟩ : ∃ b, (s.L k == 0) = b := ⟨_, rfl⟩
      rw [hb] at c2 d2
      clear hb
      go_wp2
      go_quiet (fail)
      go_wp2
      go_roundw
      case rel => exact ⟨k + 1, by omega, by go_num, _, rfl⟩
      case measure => simp [intOf]; omega
    · have hn1 : ¬ (k : Int) < n := by omega
      go_wp2
      go_ret
      exact ⟨rfl, bel_drewN (Below.refl _ _) _⟩
theorem app_two (m : Nat) : wapp m 2 ⟨fun _ => 0, fun _ => 0, 0⟩ = (⟨fun _ => 2, fun _ => 0, 0⟩, 0) := by
  unfold wapp
  rw [if_pos (fun i _ => by show (0 : Int) + 2 ≤ 1000000; omega)]
  rfl
set_option maxRecDepth 100000 in
set_option maxHeartbeats 12800000 in
theorem worldOwn_walk (n rate unit : Int) (A : Option Addr) (k c : Nat) (hd : Nat → Option Addr × Nat × Nat) (ls : Nat → List Int) (W : World) (w0 : -9223372036854775808 ≤ n ∧ n ≤ 9223372036854775807) (w1 : -9223372036854775808 ≤ rate ∧ rate ≤ 9223372036854775807) (w2 : -9223372036854775808 ≤ unit ∧ unit ≤ 9223372036854775807) (w3 : InLL W A k c hd ls) :
    Calls Try.prog 5 #[.int .i64 n, .int .i64 rate, .int .i64 unit, .slice A k c] W fun e w' => e = .returned (.bool true) ∧ Below W.heap.size W w' := by
  have W3 := Lib.hid w3
  obtain ⟨sl0, le0, rc0, inn0⟩ := w3
  go_enter Try.func5, Try.ntmps5
  go_wp2_with fail
  refine (within_any n 8 _ (by omega) (by omega)).mono ?_
  rintro e _ ⟨rfl, rfl⟩
  have a0 := within_lo n 8 (by omega)
  have a1 := within_hi n 8 (by omega)
  generalize within n 8 = n' at *
  obtain ⟨nn, rfl⟩ := Int.eq_ofNat_of_zero_le a0
  go_wp2_with fail
  refine (within_any rate 50 _ (by omega) (by omega)).mono ?_
  rintro e _ ⟨rfl, rfl⟩
  have b0 := within_lo rate 50 (by omega)
  have b1 := within_hi rate 50 (by omega)
  generalize within rate 50 = r' at *
  obtain ⟨r, rfl⟩ := Int.eq_ofNat_of_zero_le b0
  go_wp2_with fail
  refine (within_any unit 20 _ (by omega) (by omega)).mono ?_
  rintro e _ ⟨rfl, rfl⟩
  have c0 := within_lo unit 20 (by omega)
  have c1 := within_hi unit 20 (by omega)
  generalize within unit 20 = u' at *
  have hm8 : nn + 1 ≤ 8 := by omega
  have hm1 : 1 ≤ nn + 1 := by omega
  obtain ⟨m, hm⟩ : ∃ m, nn + 1 = m := ⟨_, rfl⟩
  rw [hm] at hm8 hm1
  have hmI := Lib.hid (show 1 + (nn : Int) = m by omega)
  have hu1 : 1 ≤ 1 + u' := by omega
  have hu2 : 1 + u' ≤ 20 := by omega
  obtain ⟨ut, hut⟩ : ∃ ut, 1 + u' = ut := ⟨_, rfl⟩
  rw [hut] at hu1 hu2
  have hutI := Lib.hid hut
  have hr8 : r ≤ 50 := by omega
  clear hm hut w0 w1 w2
  go_wp2_with fail
  rw [hmI.out, hutI.out]
  clear hmI hutI a0 a1 b0 b1 c0 c1
  refine (wnew_ok m r ut W hm1 hm8 (by omega) (by omega) (by omega) (by omega)).mono ?_
  rintro e w1 ⟨rfl, ok1, b1'⟩
  obtain ⟨bw, hbw⟩ : ∃ bw, W.heap.size + 1 = bw := ⟨_, rfl⟩
  obtain ⟨bp, hbp⟩ : ∃ bp, W.heap.size = bp := ⟨_, rfl⟩
  have LO : Hid (W.heap.size ≤ bw ∧ W.heap.size ≤ bp) := by show _ ∧ _; omega
  rw [hbw] at ok1 ⊢
  rw [hbp] at ok1
  have OK1 := Lib.hid ok1
  have B1 := Lib.hid b1'
  have INN := Lib.hid inn0
  have SL0 := Lib.hid sl0
  clear ok1 b1' hbw hbp inn0 sl0
  go_wp2_with fail
  have hbl1 := OK1.out.1.hw
  have hbl2 := OK1.out.1.hp
  refine (wnew_ok m r ut w1 hm1 hm8 (by omega) (by omega) (by omega) (by omega)).mono ?_
  rintro e w2 ⟨rfl, okv, bv'⟩
  obtain ⟨bv, hbv⟩ : ∃ bv, w1.heap.size + 1 = bv := ⟨_, rfl⟩
  obtain ⟨bq, hbq⟩ : ∃ bq, w1.heap.size = bq := ⟨_, rfl⟩
  have hz1 := B1.out.size
  have LV : Hid (W.heap.size ≤ bv ∧ W.heap.size ≤ bq) := by show _ ∧ _; omega
  have n1 : bv ≠ bw := by omega
  have n2 : bv ≠ bp := by omega
  have n3 : bq ≠ bw := by omega
  have n4 : bq ≠ bp := by omega
  have OK2 : Hid (WOk w2 bw bp m r ut ⟨fun _ => 0, fun _ => 0, 0⟩) := Lib.hid ⟨OK1.out.1.on bv', OK1.out.2⟩
  have B2 := Lib.hid (B1.out.trans (bv'.mono hz1))
  rw [hbv] at okv ⊢
  rw [hbq] at okv
  have OV2 := Lib.hid okv
  clear okv bv' hbv hbq hbl1 hbl2
  go_wp2_with fail
  have ap := wappend_ok w2 bw bp m r ut 2 _ OK2.out hm8 (by omega) (by omega)
  rw [app_two] at ap
  have AP := Lib.hid ap
  clear ap
  refine AP.out.mono ?_
  rintro e w3 ⟨rfl, ok3, on3⟩
  have B3 := Lib.hid (B2.out.trans (on3.below LO.out.1 LO.out.2 B2.out.size))
  have OK3 : Hid (WOk w3 bw bp m r ut ⟨fun _ => 2, fun _ => 0, 0⟩) := ok3
  have OV3 : Hid (WOk w3 bv bq m r ut ⟨fun _ => 0, fun _ => 0, 0⟩) := Lib.hid ⟨OV2.out.1.only on3 n1 n2 n3 n4, OV2.out.2⟩
  clear ok3 on3
  go_wp2_with fail
  have aq := wappend_ok w3 bv bq m r ut 2 _ OV3.out hm8 (by omega) (by omega)
  rw [app_two] at aq
  have AQ := Lib.hid aq
  clear aq
  refine AQ.out.mono ?_
  rintro e w4 ⟨rfl, ok4, on4⟩
  have B4 := Lib.hid (B3.out.trans (on4.below LV.out.1 LV.out.2 B3.out.size))
  have OV4 : Hid (WOk w4 bv bq m r ut ⟨fun _ => 2, fun _ => 0, 0⟩) := ok4
  have OK4 : Hid (WOk w4 bw bp m r ut ⟨fun _ => 2, fun _ => 0, 0⟩) := Lib.hid ⟨OK3.out.1.only on4 n1.symm n3.symm n2.symm n4.symm, OK3.out.2⟩
  clear ok4 on4
  go_wp2_with fail
  refine (wpeers_ok w4 bw bp m r ut _ OK4.out hm8).mono ?_
  rintro e w5 ⟨g5, c5, rfl, hg5, hown5, hb5⟩
  have B5 := Lib.hid (B4.out.trans (hb5.mono B4.out.size))
  have OK5 : Hid (WOk w5 bw bp m r ut ⟨fun _ => 2, fun _ => 0, 0⟩) := Lib.hid ⟨OK4.out.1.on hb5, OK4.out.2⟩
  have OV5 : Hid (WOk w5 bv bq m r ut ⟨fun _ => 2, fun _ => 0, 0⟩) := Lib.hid ⟨OV4.out.1.on hb5, OV4.out.2⟩
  clear hown5 hb5
  go_wp2_with fail
  go_loopw [70] (fun vi wr => ∃ i : Nat, ∃ s : WS, i ≤ k ∧ vi = .int .i64 i ∧ Hid (WOk wr bw bp m r ut s) ∧ Hid (WOk wr bv bq m r ut s) ∧ Hid (Below W.heap.size W wr)) (fun vi _ => k - (intOf vi).toNat)
  case atStart => exact ⟨0, _, Nat.zero_le _, rfl, OK5, OV5, B5⟩
  case round =>
    obtain ⟨i, s, hi, rfl, hok, hov, hb⟩ := hrel
    have hi0 : (0 : Int) ≤ i := by omega
    by_cases hlt : i < k
    · have hn1 : (i : Int) < k := by omega
      obtain ⟨ba, oa, rfl, hba, hcell⟩ := W3.out.at_ hlt
      have hcell2 : wr.cell? ⟨ba, oa + i, none⟩ = some (.slice (hd i).1 (hd i).2.1 (hd i).2.2) := (hb.out.cell (p := ⟨ba, oa + i, none⟩) hba).trans hcell
      obtain ⟨i1, i2, i3, i4⟩ := INN.out i hlt
      have HI1 := Lib.hid i1
      have HI4 := Lib.hid i4
      obtain ⟨Ai, mi, ci, hhd⟩ : ∃ Ai mi ci, hd i = (Ai, mi, ci) := ⟨_, _, _, rfl⟩
      rw [hhd] at hcell2 HI1 i2 i3
      simp only at hcell2 i2 i3
      obtain ⟨l, hl⟩ : ∃ l, ls i = l := ⟨_, rfl⟩
      rw [hl] at HI1 HI4
      clear hcell i1 i4 hhd hl
      go_wp2_with fail
      refine (wact_ok wr bw bp m r ut s Ai mi ci _ l hok.out hm8 (by omega) (by omega) (HI1.out.below hb.out) (by omega) HI4.out _ rfl).mono ?_
      rintro e w6 ⟨rfl, ok6, on6⟩
      have B6 := Lib.hid (hb.out.trans (on6.below LO.out.1 LO.out.2 hb.out.size))
      have OK6 := Lib.hid ok6
      have OV6 : Hid (WOk w6 bv bq m r ut s) := Lib.hid ⟨hov.out.1.only on6 n1 n2 n3 n4, hov.out.2⟩
      clear ok6 on6 hcell2
      generalize (wact m r ut s l).2 = v1
      go_wp2_with fail
      refine (wact_ok w6 bv bq m r ut s Ai mi ci _ l OV6.out hm8 (by omega) (by omega) (HI1.out.below B6.out) (by omega) HI4.out _ rfl).mono ?_
      rintro e w7 ⟨rfl, ok7, on7⟩
      have B7 := Lib.hid (B6.out.trans (on7.below LV.out.1 LV.out.2 B6.out.size))
      have OV7 := Lib.hid ok7
      have OK7 : Hid (WOk w7 bw bp m r ut (wact m r ut s l).1) := Lib.hid ⟨OK6.out.1.only on7 n1.symm n3.symm n2.symm n4.symm, OK6.out.2⟩
      clear ok7 on7
      obtain ⟨s', hs'⟩ : ∃ s', (wact m r ut s l).1 = s' := ⟨_, rfl⟩
      rw [hs'] at OK7 OV7
      generalize (wact m r ut s l).2 = v2
      clear hs'
      go_wp2_with fail
      refine (wpeers_ok w7 bw bp m r ut s' OK7.out hm8).mono ?_
      rintro e w8 ⟨g8, c8, rfl, hg8, hown8, hb8⟩
      have hgw : g8 < w8.heap.size := by
        obtain ⟨g', cap, hv, hg1, hg2⟩ := hown8.form (by omega)
        injection hv with e1 e2 e3
        injection e1 with e1
        injection e1 with e1
        omega
      have HO8 := Lib.hid hown8
      have B8 := Lib.hid hb8
      clear hown8 hb8
      go_wp2_with fail
      refine (spoilP w7.heap.size g8 m c8 _ w8 77 0 false HO8.out hgw).mono ?_
      rintro e w9 ⟨rfl, on9⟩
      have B9 := Lib.hid (B8.out.trans (on9.below hg8 hg8 B8.out.size))
      have OK9 : Hid (WOk w9 bw bp m r ut s') := Lib.hid ⟨OK7.out.1.on B9.out, OK7.out.2⟩
      have OV9 : Hid (WOk w9 bv bq m r ut s') := Lib.hid ⟨OV7.out.1.on B9.out, OV7.out.2⟩
      have C9 := Lib.hid (B7.out.trans (B9.out.mono B7.out.size))
      clear on9
      go_wp2_with fail
      go_roundw
      case rel => exact ⟨i + 1, s', by omega, by go_num, OK9, OV9, C9⟩
      case measure => simp [intOf]; omega
    · have hik : i = k := by omega
      subst hik
      have hn1 : ¬ (i : Int) < i := by omega
      go_wp2_with fail
      refine (wpeers_ok wr bw bp m r ut s hok.out hm8).mono ?_
      rintro e w6 ⟨g6, c6, rfl, hg6, hown6, hb6⟩
      have P6 := Lib.hid (peers_at (by omega) hown6)
      have B6 := Lib.hid hb6
      have OV6 : Hid (WOk w6 bv bq m r ut s) := Lib.hid ⟨hov.out.1.on hb6, hov.out.2⟩
      have OK6 : Hid (WOk w6 bw bp m r ut s) := Lib.hid ⟨hok.out.1.on hb6, hok.out.2⟩
      clear hown6 hb6
      go_wp2_with fail
      refine (wpeers_ok w6 bv bq m r ut s OV6.out hm8).mono ?_
      rintro e w7 ⟨g7, c7, rfl, hg7, hown7, hb7⟩
      have P7 := Lib.hid (peers_at (by omega) hown7)
      have X7 := Lib.hid (P6.out w7 hb7)
      have OK7 : Hid (WOk w7 bw bp m r ut s) := Lib.hid ⟨OK6.out.1.on hb7, OK6.out.2⟩
      have B7 := Lib.hid (B6.out.trans (hb7.mono B6.out.size))
      clear hown7 hb7
      go_wp2_with fail
      refine (equalP g6 g7 m c6 c7 s w7 X7.out (P7.out w7 (Below.refl _ _)) hm8).mono ?_
      rintro e w8 ⟨rfl, hb8⟩
      have OK8 : Hid (WOk w8 bw bp m r ut s) := Lib.hid ⟨OK7.out.1.on hb8, OK7.out.2⟩
      have B8 := Lib.hid (B7.out.trans (hb8.mono B7.out.size))
      clear hb8
      go_wp2_with fail
      refine (wpeers_ok w8 bw bp m r ut s OK8.out hm8).mono ?_
      rintro e w9 ⟨g9, c9, rfl, hg9, hown9, hb9⟩
      have P9 := Lib.hid (peers_at (by omega) hown9)
      have B9 := Lib.hid (B8.out.trans (hb9.mono B8.out.size))
      have OK9 : Hid (WOk w9 bw bp m r ut s) := Lib.hid ⟨OK8.out.1.on hb9, OK8.out.2⟩
      clear hown9 hb9
      go_wp2_with fail
      refine (wpeers_ok w9 bw bp m r ut s OK9.out hm8).mono ?_
      rintro e wa ⟨ga, ca, rfl, hga, howna, hba⟩
      have Pa := Lib.hid (peers_at (by omega) howna)
      have Xa := Lib.hid (P9.out wa hba)
      have Ba := Lib.hid (B9.out.trans (hba.mono B9.out.size))
      clear howna hba
      go_wp2_with fail
      refine (equalP g9 ga m c9 ca s wa Xa.out (Pa.out wa (Below.refl _ _)) hm8).mono ?_
      rintro e wb ⟨rfl, hbb⟩
      have Bb := Lib.hid (hb.out.trans ((Ba.out.trans (hbb.mono Ba.out.size)).mono hb.out.size))
      clear hbb
      go_wp2_with fail
      go_ret
      exact ⟨rfl, Bb.out⟩
end Go.Proofs.Ytehdphkaknjlnaa
