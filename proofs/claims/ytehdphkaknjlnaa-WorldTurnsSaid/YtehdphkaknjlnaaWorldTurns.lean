/- WorldTurns: two peers that lag throughout receive equal numbers of bytes, to within one. -/
import Derived.Test.YtehdphkaknjlnaaWorldD
import Derived.Test.YtehdphkaknjlnaaMaxMin
import Derived.Test.YtehdphkaknjlnaaWithin
set_option linter.unusedVariables false
namespace Go.Proofs.Ytehdphkaknjlnaa
open Go.RowKit
theorem wtot_const (c : Int) (t k : Nat) : wtot ⟨fun _ => c, fun _ => 0, t⟩ k = c * k := by
  induction k with
  | zero => simp [wtot]
  | succ k ih =>
    rw [wtot_succ, ih]
    show c * (k : Int) + (c - 0) = c * ((k + 1 : Nat) : Int)
    push_cast
    rw [Int.mul_add]
    omega
/-- In turn: T bytes have gone. -/
structure RR (n : Nat) (c : Int) (T : Nat) (s : WS) : Prop where
  le : ∀ i, i < n → c - s.L i + s.P i ≤ T
  eq : ∃ q : Int, ∀ i, i < n → c - s.L i + s.P i = q + if i < s.t then 1 else 0
theorem rr_step {n : Nat} {u c : Int} {T : Nat} {s : WS} (inv : WInv n u s) (h : RR n c T s) (hT : (T : Int) < c) : RR n c (T + 1) (wone n u s) := by
  have ht := inv.turn
  have hs : wscan n s n = some s.t := by
    have := wscan_later (n := n) (s := s) (k := n) (j := 0) (by omega) (fun q hq => by omega) (by
      rw [Nat.add_zero, Nat.mod_eq_of_lt ht]
      have := h.le s.t ht
      have := inv.part s.t ht
      omega)
    rwa [Nat.add_zero, Nat.mod_eq_of_lt ht] at this
  rw [wone_some hs]
  have got : ∀ k, c - (wadv n u s s.t).L k + (wadv n u s s.t).P k = c - s.L k + s.P k + if k = s.t then 1 else 0 := fun k => by
    unfold wadv
    by_cases hk : k = s.t
    · subst hk
      rw [if_pos rfl]
      split
      · show c - updN s.L s.t (s.L s.t - (s.P s.t + 1)) s.t + updN s.P s.t 0 s.t = _
        rw [updN_same, updN_same]; omega
      · show c - s.L s.t + updN s.P s.t (s.P s.t + 1) s.t = _
        rw [updN_same]; omega
    · rw [if_neg hk]
      split
      · show c - updN s.L s.t (s.L s.t - (s.P s.t + 1)) k + updN s.P s.t 0 k = _
        rw [updN_other hk, updN_other hk]; omega
      · show c - s.L k + updN s.P s.t (s.P s.t + 1) k = _
        rw [updN_other hk]; omega
  have tt : (wadv n u s s.t).t = (s.t + 1) % n := by unfold wadv; split <;> rfl
  obtain ⟨q, hq⟩ := h.eq
  refine ⟨fun i hi => ?_, ?_⟩
  · rw [got]
    have := h.le i hi
    push_cast
    split <;> omega
  · rcases Nat.lt_or_ge (s.t + 1) n with h1 | h1
    · refine ⟨q, fun i hi => ?_⟩
      rw [got, hq i hi, tt, Nat.mod_eq_of_lt h1]
      split <;> split <;> split <;> omega
    · refine ⟨q + 1, fun i hi => ?_⟩
      have : s.t + 1 = n := by omega
      rw [got, hq i hi, tt, this, Nat.mod_self]
      split <;> split <;> split <;> omega
theorem rr_wit {n : Nat} {u c : Int} {s : WS} (inv : WInv n u s) (h : RR n c 0 s) (T : Nat) (hT : (T : Int) ≤ c) : RR n c T (wit n u s T) := by
  induction T with
  | zero => exact h
  | succ T ih => exact rr_step (inv_wit inv T) (ih (by push_cast at hT; omega)) (by push_cast at hT; omega)
theorem rr_start (n : Nat) (c : Int) : RR n c 0 ⟨fun _ => c, fun _ => 0, 0⟩ :=
  ⟨fun i _ => by show c - c + 0 ≤ ((0 : Nat) : Int); omega, 0, fun i _ => by show c - c + 0 = _; rw [if_neg (Nat.not_lt_zero i)]; omega⟩
def gotL (s : WS) (k : Nat) : List Int := (List.range k).map fun i => 100000 - s.L i + s.P i
theorem gotL_len (s : WS) (k : Nat) : (gotL s k).length = k := by simp [gotL]
theorem gotL_get {s : WS} {k i : Nat} (h : i < k) : gi (gotL s k) i = 100000 - s.L i + s.P i := by simp [gotL, gi, h]
theorem gotL_push (s : WS) (k : Nat) : ints (gotL s k) ++ [.int .i64 (100000 - s.L k + s.P k)] = ints (gotL s (k + 1)) := by simp [gotL, ints, List.range_succ]
set_option maxRecDepth 100000 in
set_option maxHeartbeats 6400000 in
theorem worldTurns_walk (n rate ticks : Int) (W : World) (w0 : -9223372036854775808 ≤ n ∧ n ≤ 9223372036854775807) (w1 : -9223372036854775808 ≤ rate ∧ rate ≤ 9223372036854775807) (w2 : -9223372036854775808 ≤ ticks ∧ ticks ≤ 9223372036854775807) :
    Calls Try.prog 6 #[.int .i64 n, .int .i64 rate, .int .i64 ticks] W fun e w' => e = .returned (.bool true) ∧ Below W.heap.size W w' := by
  go_enter Try.func6, Try.ntmps6
  go_wp2_with fail
  refine (within_any n 8 _ (by omega) (by omega)).mono ?_
  rintro e _ ⟨rfl, rfl⟩
  have a0 := within_lo n 8 (by omega)
  have a1 := within_hi n 8 (by omega)
  generalize within n 8 = n' at *
  obtain ⟨nn, rfl⟩ := Int.eq_ofNat_of_zero_le a0
  go_wp2_with fail
  refine (within_any rate 100 _ (by omega) (by omega)).mono ?_
  rintro e _ ⟨rfl, rfl⟩
  have b0 := within_lo rate 100 (by omega)
  have b1 := within_hi rate 100 (by omega)
  generalize within rate 100 = r' at *
  obtain ⟨r, rfl⟩ := Int.eq_ofNat_of_zero_le b0
  go_wp2_with fail
  refine (within_any ticks 60 _ (by omega) (by omega)).mono ?_
  rintro e _ ⟨rfl, rfl⟩
  have c0 := within_lo ticks 60 (by omega)
  have c1 := within_hi ticks 60 (by omega)
  generalize within ticks 60 = k' at *
  obtain ⟨kk, rfl⟩ := Int.eq_ofNat_of_zero_le c0
  have hm8 : nn + 1 ≤ 8 := by omega
  have hm1 : 1 ≤ nn + 1 := by omega
  obtain ⟨m, hm⟩ : ∃ m, nn + 1 = m := ⟨_, rfl⟩
  rw [hm] at hm8 hm1
  have hmI := Lib.hid (show 1 + (nn : Int) = m by omega)
  clear hm w0 w1 w2
  go_wp2_with fail
  rw [hmI.out]
  clear hmI a0 a1
  refine (wnew_ok m r 1000 W hm1 hm8 (by omega) (by omega) (by omega) (by omega)).mono ?_
  rintro e w1 ⟨rfl, ok1, b1'⟩
  obtain ⟨bw, hbw⟩ : ∃ bw, W.heap.size + 1 = bw := ⟨_, rfl⟩
  obtain ⟨bp, hbp⟩ : ∃ bp, W.heap.size = bp := ⟨_, rfl⟩
  have LO : Hid (W.heap.size ≤ bw ∧ W.heap.size ≤ bp) := by show _ ∧ _; omega
  rw [hbw] at ok1 ⊢
  rw [hbp] at ok1
  have OK1 := Lib.hid ok1
  have B1 := Lib.hid b1'
  clear ok1 b1' hbw hbp
  go_wp2_with fail
  have app : wapp m 100000 ⟨fun _ => 0, fun _ => 0, 0⟩ = (⟨fun _ => 100000, fun _ => 0, 0⟩, 0) := by
    unfold wapp
    rw [if_pos (fun i _ => by show (0 : Int) + 100000 ≤ 1000000; omega)]
    rfl
  have ap := wappend_ok w1 bw bp m r 1000 100000 _ OK1.out hm8 (by omega) (by omega)
  rw [app] at ap
  have AP := Lib.hid ap
  clear ap app
  refine AP.out.mono ?_
  rintro e w2 ⟨rfl, ok2, on2⟩
  have hz1 := B1.out.size
  have B2 := Lib.hid (B1.out.trans (on2.below LO.out.1 LO.out.2 hz1))
  have OK2 := Lib.hid ok2
  have INV := Lib.hid ok2.2
  clear ok2 on2
  have TOT := Lib.hid (wtot_const 100000 0 m)
  obtain ⟨s0, hs0⟩ : ∃ s0 : WS, ⟨fun _ => 100000, fun _ => 0, 0⟩ = s0 := ⟨_, rfl⟩
  have RR0 : Hid (RR m 100000 0 s0) := by show RR _ _ _ _; rw [← hs0]; exact rr_start m 100000
  simp only [hs0] at OK2 INV TOT
  clear hs0
  go_wp2_with fail
  go_loopw [37] (fun vi wr => ∃ k : Nat, k ≤ kk ∧ vi = .int .i64 k ∧ Hid (WOk wr bw bp m r 1000 (wit m 1000 s0 (r * k))) ∧ Below W.heap.size W wr) (fun vi _ => kk - (intOf vi).toNat)
  case atStart => exact ⟨0, Nat.zero_le _, rfl, OK2, B2.out⟩
  case round =>
    obtain ⟨k, hk, rfl, hok, hb⟩ := hrel
    have HB := Lib.hid hb
    have hk0 : (0 : Int) ≤ k := by omega
    have rk : r * k ≤ 99 * 59 := Nat.mul_le_mul (by omega) (by omega)
    by_cases hlt : k < kk
    · have hn1 : (k : Int) < kk := by omega
      have G : Hid (wgot m (wit m 1000 s0 (r * k)) r = r) := by
        show _ = _
        have t1 := wit_tot INV.out (r * k) (by rw [TOT.out]; omega)
        unfold wgot
        rw [if_pos (by rw [t1, TOT.out]; omega)]
      clear hb
      go_wp2_with fail
      refine (wtick_ok wr bw bp m r 1000 _ hok.out hm8 (by omega) (by omega)).mono ?_
      rintro e w3 ⟨rfl, ok3, on3⟩
      rw [G.out]
      have B3 := Lib.hid (HB.out.trans (on3.below LO.out.1 LO.out.2 HB.out.size))
      have OK3 : Hid (WOk w3 bw bp m r 1000 (wit m 1000 s0 (r * (k + 1)))) := by show WOk _ _ _ _ _ _ _; rw [Nat.mul_succ, wit_add]; exact ok3
      clear ok3 on3
      go_wp2_with fail
      go_roundw
      case rel => exact ⟨k + 1, by omega, by go_num, OK3, B3.out⟩
      case measure => simp [intOf]; omega
    · have hkk : k = kk := by omega
      subst hkk
      have hn1 : ¬ (k : Int) < k := by omega
      have RT := Lib.hid (rr_wit INV.out RR0.out (r * k) (by omega))
      have INV2 := Lib.hid hok.out.2
      obtain ⟨s, hs⟩ : ∃ s, wit m 1000 s0 (r * k) = s := ⟨_, rfl⟩
      rw [hs] at hok RT INV2
      clear hb hs
      go_wp2_with fail
      refine (wpeers_ok wr bw bp m r 1000 s hok.out hm8).mono ?_
      rintro e w4 ⟨g, c, rfl, hg, hown, hb4⟩
      have hgw : g < w4.heap.size := by
        obtain ⟨g', cap, hv, hg1, hg2⟩ := hown.form (by omega)
        injection hv with e1 e2 e3
        injection e1 with e1
        injection e1 with e1
        omega
      have CL : Hid (∀ w', Below w4.heap.size w4 w' → ∀ i, i < m → w'.cell? ⟨g, i * 3, none⟩ = some (.int .i64 (s.L i)) ∧ w'.cell? ⟨g, i * 3 + 1, none⟩ = some (.int .i64 (s.P i)) ∧ w'.cell? ⟨g, i * 3 + 2, none⟩ = some (.bool (s.L i == 0))) := Lib.hid fun w' hb i hi => by
        refine ⟨(hb.cell (p := ⟨g, i * 3, none⟩) hgw).trans ?_, (hb.cell (p := ⟨g, i * 3 + 1, none⟩) hgw).trans ?_, (hb.cell (p := ⟨g, i * 3 + 2, none⟩) hgw).trans ?_⟩
        · rw [hown.cellAt _ (by omega)]; exact peersV_0 s hi
        · rw [hown.cellAt _ (by omega)]; exact peersV_1 s hi
        · rw [hown.cellAt _ (by omega)]; exact peersV_2 s hi
      have B4 := Lib.hid (HB.out.trans (hb4.mono HB.out.size))
      clear hown hb4
      go_wp2_with fail
      go_loopw [47, 9] (fun vi vo wr' => ∃ i : Nat, i ≤ m ∧ vi = .int .i64 i ∧ wr'.ownsRow w4.heap.size 3 1 vo i (ints (gotL s i)) ∧ Below w4.heap.size w4 wr') (fun vi _ _ => m - (intOf vi).toNat)
      case atStart => exact ⟨0, Nat.zero_le _, rfl, World.ownsRow_nil _ _ _ _, Below.refl _ _⟩
      case round =>
        obtain ⟨i, hi, rfl, hown, hb⟩ := hrel
        have HB5 := Lib.hid hb
        have HO5 := Lib.hid hown
        have hz := hb.size
        have hi0 : (0 : Int) ≤ i := by omega
        by_cases hlt2 : i < m
        · have hn2 : (i : Int) < m := by omega
          obtain ⟨d0, d1, d2⟩ := CL.out wr hb i hlt2
          have lag := INV2.out.lag i hlt2
          have part := INV2.out.part i hlt2
          have f2 : IntKind.i64.wrap (100000 - s.L i) = 100000 - s.L i := IntWalk.i64_in _ ⟨by omega, by omega⟩
          have f3 : IntKind.i64.wrap (100000 - s.L i + s.P i) = 100000 - s.L i + s.P i := IntWalk.i64_in _ ⟨by omega, by omega⟩
          have O6 := Lib.hid (World.ownsRow.alloc hown (.cells #[.int .i64 (s.L i), .int .i64 (s.P i), .bool (s.L i == 0)] 36))
          have B6 := Lib.hid (hb.alloc hz (.cells #[.int .i64 (s.L i), .int .i64 (s.P i), .bool (s.L i == 0)] 36))
          have hz6 : w4.heap.size ≤ (wr.alloc (.cells #[.int .i64 (s.L i), .int .i64 (s.P i), .bool (s.L i == 0)] 36)).heap.size := B6.out.size
          have GP := Lib.hid (gotL_push s i)
          clear hown hb
          go_wp2_with (at_builtin; refine wpList_push_ rfl (.tmp 51) (.tmp 58) _ rfl elemInt _ (by simp) w4.heap.size _ i _ _ rfl rfl O6.out B6.out hz6 rfl (by omega) ?_; intro v1 w3 hown3 hb3 hz3)
          go_roundw
          case rel => exact ⟨i + 1, by omega, by go_num, by rw [← GP.out]; exact hown3, hb3⟩
          case measure => simp [intOf]; omega
        · have him : i = m := by omega
          subst him
          have hn2 : ¬ (i : Int) < i := by omega
          obtain ⟨Ao, co, rfl, hco⟩ := own_form hown
          have SO := Lib.hid (Sl.of_own hown)
          have B7 := Lib.hid (B4.out.trans (hb.mono B4.out.size))
          clear hown hb
          go_wp2_with fail
          refine (smaxP Ao i co _ (gotL s i) _ SO.out (by omega) (by omega)).mono ?_
          rintro e _ ⟨⟨mx, rfl, ⟨j1, j2, j3⟩, j4⟩, rfl⟩
          go_wp2_with fail
          refine (sminP Ao i co _ (gotL s i) _ SO.out (by omega) (by omega)).mono ?_
          rintro e _ ⟨⟨mn, rfl, ⟨k1, k2, k3⟩, k4⟩, rfl⟩
          rw [gotL_get j2] at j3
          rw [gotL_get k2] at k3
          obtain ⟨q, hq⟩ := RT.out.eq
          have q1 := hq j1 j2
          have q2 := hq k1 k2
          have l1 := RT.out.le j1 j2
          have l2 := RT.out.le k1 k2
          have p1 := INV2.out.part j1 j2
          have p2 := INV2.out.part k1 k2
          have g1 := INV2.out.lag j1 j2
          have g2 := INV2.out.lag k1 k2
          have dd : mx - mn ≤ 1 := by
            rw [← j3, ← k3, q1, q2]
            split <;> split <;> omega
          have bx : -1000000 ≤ mx ∧ mx ≤ 1000000 ∧ -1000000 ≤ mn ∧ mn ≤ 1000000 := by omega
          have f4 : IntKind.i64.wrap (mx - mn) = mx - mn := IntWalk.i64_in _ ⟨by omega, by omega⟩
          have f5 : decide (mx - mn ≤ 1) = true := decide_eq_true dd
          clear j3 j4 k3 k4 q1 q2 l1 l2 p1 p2 g1 g2 hq dd
          go_wp2_with fail
          go_ret
          exact ⟨rfl, B7.out⟩
end Go.Proofs.Ytehdphkaknjlnaa
