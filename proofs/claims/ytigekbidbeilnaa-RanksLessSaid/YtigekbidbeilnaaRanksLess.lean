/- RanksLess: removing the last task or reducing work preserves feasibility, and a feasible set does not exceed the capacity. -/
import Derived.Test.YtigekbidbeilnaaRanksF
import Derived.Test.YtigekbidbeilnaaCloneTask
import Derived.Test.YtigekbidbeilnaaKit0
import Derived.StillTailTactics
set_option linter.unusedVariables false
namespace Go.Proofs.Ytigekbidbeilnaa
open Go.RowKit
theorem rank_ok : ranksOk [4, 1, 4, 6, 3, 6] 2 := ⟨by omega, fun i hi => by
  match i, hi with
  | 0, _ => decide
  | 1, _ => decide⟩
theorem rank_fits : fitsR [4, 1, 4, 6, 3, 6] 2 := fun i hi => by
  match i, hi with
  | 0, _ => exact ⟨1, by decide, by decide, by decide⟩
  | 1, _ => exact ⟨4, by decide, by decide, by decide⟩
theorem two_ok : ranksOk [2, 1, 2, 2, 2, 2] 2 := ⟨by omega, fun i hi => by
  match i, hi with
  | 0, _ => decide
  | 1, _ => decide⟩
theorem two_no : ¬ fitsR [2, 1, 2, 2, 2, 2] 2 := fun h => by
  obtain ⟨x, x0, x1, x2⟩ := h 1 (by omega)
  have e2 : fd [2, 1, 2, 2, 2, 2] 1 2 = 2 := rfl
  rw [e2] at x1
  rcases (show x = 0 ∨ x = 1 ∨ x = 2 by omega) with rfl | rfl | rfl
  · exact absurd x2 (by decide)
  · exact absurd x2 (by decide)
  · exact absurd x2 (by decide)
/-- The table with the work of task i set to v. -/
def lessT (zs : List Int) (n i : Nat) (v : Int) : List Int := flat3 n (fun a b => if a = i ∧ b = 1 then v else fd zs a b)
theorem lessT_eq {zs : List Int} {n i : Nat} (hl : zs.length = n * 3) (hi : i < n) (v : Int) : zs.set (i * 3 + 1) v = lessT zs n i v := by
  have := flat3_set (n := n) (f := fd zs) hi (show 1 < 3 by omega) v
  rw [flat3_of hl] at this
  exact this
theorem lessT_fd {zs : List Int} {n i : Nat} {v : Int} (j q : Nat) (hj : j < n) (hq : q < 3) : fd (lessT zs n i v) j q = if j = i ∧ q = 1 then v else fd zs j q := fd_flat3 hj hq
set_option maxRecDepth 100000 in
set_option maxHeartbeats 6400000 in
theorem ranksLess_walk (A : Option Addr) (n c : Nat) (zs : List Int) (i by' : Int) (W : World) (w0 : In3 W A n c zs) (_ : -9223372036854775808 ≤ i ∧ i ≤ 9223372036854775807) (_ : -9223372036854775808 ≤ by' ∧ by' ≤ 9223372036854775807) :
    Calls Try.prog 9 #[.slice A n c, .int .i64 i, .int .i64 by'] W fun e w' => e = .returned (.bool true) ∧ Below W.heap.size W w' := by
  obtain ⟨s0, l0, r0, _⟩ := w0
  go_enter Try.func9, Try.ntmps9
  go_wp2_with fail
  refine (fits_ok _ 2 _ [2, 1, 2, 2, 2, 2] _ two_ok (Nat.le_refl _) (Sl.built_ _ (ints [2, 1, 2, 2, 2, 2]) 48 _ rfl rfl) false (by simp [two_no])).mono ?_
  rintro e w1 ⟨rfl, bb1⟩
  have b1 := belLit1 (Below.refl W.heap.size W) bb1
  replace s0 := slLit1 s0 bb1
  clear bb1
  go_wp2_with fail
  refine (rank_any _).mono ?_
  rintro e w2 ⟨rfl, s2, bb2⟩
  have b2 := belLit0 b1 bb2
  replace s0 := slLit0 s0 bb2
  clear b1 bb2
  go_wp2_with fail
  refine (fits_ok _ 2 2 [4, 1, 4, 6, 3, 6] _ rank_ok (Nat.le_refl _) s2 true (by simp [rank_fits])).mono ?_
  rintro e w3 ⟨rfl, bb3⟩
  have b3 := belLit0 b2 bb3
  replace s0 := slLit0 s0 bb3
  clear b2 bb3 s2
  by_cases hok : ranksOk zs n
  case neg =>
    have hne := ranksErr_ne n
    have hne2 : (ranksErr n == 0) = false := by simpa using hne
    have HOK := Lib.hid hok
    clear hok
    go_wp2_with fail
    refine (fits_bad A n c zs _ HOK.out s0 (by omega)).mono ?_
    rintro e w4 ⟨rfl, bb4⟩
    have b4 := belLit0 b3 bb4
    clear b3 bb4 s0
    go_wp2_with fail
    go_ret
    exact ⟨rfl, b4⟩
  have OK := Lib.hid hok
  by_cases hft : fitsR zs n
  case neg =>
    have HF := Lib.hid hft
    clear hft hok
    go_wp2_with fail
    refine (fits_ok A n c zs _ OK.out l0 s0 false (by simp [HF.out])).mono ?_
    rintro e w4 ⟨rfl, bb4⟩
    have b4 := belLit0 b3 bb4
    clear b3 bb4 s0
    go_wp2_with fail
    go_ret
    exact ⟨rfl, b4⟩
  have HF := Lib.hid hft
  have n5 := hok.1
  clear hft hok
  go_wp2_with fail
  refine (fits_ok A n c zs _ OK.out l0 s0 true (by simp [HF.out])).mono ?_
  rintro e w4 ⟨rfl, bb4⟩
  have b4 := belLit0 b3 bb4
  replace s0 := slLit0 s0 bb4
  clear b3 bb4
  by_cases hn0 : n = 0
  case pos =>
    have e0 : ((n : Int) == 0) = true := by simp; omega
    clear s0 hn0
    go_wp2_with fail
    go_ret
    exact ⟨rfl, b4⟩
  have e0 : ((n : Int) == 0) = false := by simp; omega
  have np : 0 < n := by omega
  clear hn0
  go_wp2_with fail
  refine (within_t i n _ (by omega) (by omega) _ rfl).mono ?_
  rintro e _ ⟨rfl, rfl⟩
  have i0 := within_lo i n (by omega)
  have i1 := within_hi i n (by omega)
  generalize within i n = i' at *
  obtain ⟨k, rfl⟩ := Int.eq_ofNat_of_zero_le i0
  have hk : k < n := by omega
  go_wp2_with fail
  refine (cloneTask A n c (ints zs) _ s0 (ints_one _) (by omega)).mono ?_
  rintro e w5 ⟨v, rfl, own5, bb5, z5⟩
  have b5 := belLit0 b4 bb5
  have S0pre := s0
  replace s0 := slLit0 s0 bb5
  obtain ⟨g, cap, rfl, hg1, hg2⟩ := own5.form np
  have hcap : n ≤ cap := by
    obtain ⟨A', c', e, h⟩ := own_form own5
    injection e with e1 e2 e3
    omega
  have hl := s0.int_len
  have hcj := own5.cellAt (k * 3 + 1) (by omega)
  rw [ints_get (by rw [hl]; omega), show gi zs (k * 3 + 1) = fd zs k 1 from rfl] at hcj
  have hfj := own5.frozenAt (k * 3 + 1)
  obtain ⟨t0, t1, t2, t3, t4⟩ := OK.out.2 k hk
  have k5 := within_lo by' (fd zs k 1) (by omega)
  have k6 := within_hi by' (fd zs k 1) (by omega)
  have WT : Hid (∀ w : World, Calls Try.prog 15 #[.int .i64 by', .int .i64 (fd zs k 1)] w fun e w' => e = .returned (.int .i64 (within by' (fd zs k 1))) ∧ w' = w) := Lib.hid fun w => (within_any by' (fd zs k 1) w (by omega) (by omega)).mono fun _ _ ⟨h1, h2⟩ => ⟨h1, h2.symm⟩
  generalize within by' (fd zs k 1) = u at *
  have f2 : IntKind.i64.wrap (fd zs k 1 - u) = fd zs k 1 - u := IntWalk.i64_in _ ⟨by omega, by omega⟩
  have HO := Lib.hid own5
  have HB5 := Lib.hid b5
  have HBB5 := Lib.hid bb5
  have S0 := Lib.hid s0
  have HL := Lib.hid hl
  have HB4 := Lib.hid b4
  have S4 := Lib.hid S0pre
  clear b4 b5 bb5 s0 S0pre own5 hl
  go_wp2_with fail
  refine wp_region_still_tail 15 (by kernel_rfl) (by kernel_rfl) ?_
  simp only [List.take_succ_cons, List.take_zero, List.drop_succ_cons, List.drop_zero]
  repeat still_step
  still_call (WT.out w5.drew)
  repeat still_step
  refine wpStill_nil ?_
  change wpList _ _ _ _ _ w5.drew
  go_wp2_with fail
  have own6 := (HO.out.stored (k * 3 + 1) (.int .i64 (fd zs k 1 - u))).1
  rw [ints_set, lessT_eq HL.out hk] at own6
  have hb6 : Below w4.heap.size w4 (w5.setCell ⟨g, k * 3 + 1, none⟩ (.int .i64 (fd zs k 1 - u))).drew := (HBB5.out.setCell (p := ⟨g, k * 3 + 1, none⟩) hg1 _).drew
  have hb7 : Below W.heap.size W (w5.setCell ⟨g, k * 3 + 1, none⟩ (.int .i64 (fd zs k 1 - u))).drew := (HB5.out.setCell (p := ⟨g, k * 3 + 1, none⟩) (Nat.le_trans HB4.out.size hg1) _).drew
  have hs6 : Sl (w5.setCell ⟨g, k * 3 + 1, none⟩ (.int .i64 (fd zs k 1 - u))).drew (w5.setCell ⟨g, k * 3 + 1, none⟩ (.int .i64 (fd zs k 1 - u))).drew.heap.size (some ⟨g, 0, none⟩) (n * 3) (ints (lessT zs n k (fd zs k 1 - u))) := Sl.of_own3 own6
  generalize (w5.setCell ⟨g, k * 3 + 1, none⟩ (.int .i64 (fd zs k 1 - u))).drew = w6 at hs6 hb6 hb7 ⊢
  have s6 := S4.out.on hb6
  obtain ⟨LO, LF⟩ := fits_less (ys := lessT zs n k (fd zs k 1 - u)) OK.out HF.out fun j hj => by
    obtain ⟨p0, p1, p2, p3, p4⟩ := OK.out.2 j hj
    rw [lessT_fd j 0 hj (by omega), lessT_fd j 1 hj (by omega), lessT_fd j 2 hj (by omega), if_neg (by omega), if_neg (show ¬ (j = k ∧ (2 : Nat) = 1) by omega)]
    refine ⟨rfl, ?_, ?_, rfl⟩
    · split
      · omega
      · omega
    · split
      · rename_i e; obtain ⟨e, -⟩ := e; subst e; omega
      · omega
  have LO' := Lib.hid LO
  have LF' := Lib.hid LF
  clear own6 hb6 LO LF hcj hfj f2 HO HBB5
  refine (fits_ok _ n cap (lessT zs n k (fd zs k 1 - u)) _ LO'.out hcap hs6 true (by simp [LF'.out])).mono ?_
  rintro e w7 ⟨rfl, bb7⟩
  have b7 := belLit0 hb7 bb7
  replace s6 := slLit0 s6 bb7
  clear hb7 bb7 hs6
  obtain ⟨b, off, hA, hbl, -⟩ := s6.int_at (k := 0) (by omega)
  subst hA
  have g1 : IntKind.i64.wrap ((n : Int) - 1) = (n : Int) - 1 := IntWalk.i64_in _ ⟨by omega, by omega⟩
  have g2 : ((n : Int) - 1).toNat = n - 1 := by omega
  have g3 : 0 ≤ (n : Int) - 1 := by omega
  have g4 : (n : Int) - 1 ≤ c := by omega
  have S6 := Lib.hid s6
  have B7 := Lib.hid b7
  have st : Sl w7 w7.heap.size (some ⟨b, off, none⟩) ((n - 1) * 3) (ints (zs.take ((n - 1) * 3))) := by rw [← ints_take]; exact s6.take (by omega)
  obtain ⟨TO, TF⟩ := fits_congr (ys := zs.take ((n - 1) * 3)) (m := n - 1) (by omega) OK.out HF.out fun j hj q hq => by
    unfold fd
    exact gi_take (by omega)
  have TO' := Lib.hid TO
  have TF' := Lib.hid TF
  clear s6 b7 TO TF
  go_wp2_with fail
  refine (fits_ok _ (n - 1) c (zs.take ((n - 1) * 3)) _ TO'.out (by omega) st true (by simp [TF'.out])).mono ?_
  rintro e w8 ⟨rfl, bb8⟩
  have B8 := Lib.hid (belLit0 B7.out bb8)
  have S8 := Lib.hid (slLit0 S6.out bb8)
  clear bb8 st
  go_wp2_with fail
  go_loopw [106, 18, 21] (fun i a _ wr => ∃ m : Nat, m ≤ n ∧ i = .int .i64 m ∧ a = .int .i64 (prodP zs m) ∧ Below w8.heap.size w8 wr) (fun i _ _ _ => n - (intOf i).toNat)
  case atStart => exact ⟨0, Nat.zero_le _, rfl, rfl, Below.refl _ _⟩
  case round =>
    obtain ⟨m, hm, rfl, rfl, hb⟩ := hrel
    have HB := Lib.hid hb
    have hm0 : (0 : Int) ≤ m := by omega
    by_cases hlt : m < n
    · obtain ⟨c0, c1, c2⟩ := (S8.out.below hb).three hlt
      have hz := hb.size
      have hm1 : (m : Int) < n := by omega
      have pb := prodP_bd5 OK.out m (by omega)
      have pb2 := prodP_bd5 OK.out (m + 1) (by omega)
      have PS := prodP_succ zs m
      obtain ⟨q, hq⟩ : ∃ q, prodP zs m = q := ⟨_, rfl⟩
      rw [hq] at pb PS ⊢
      obtain ⟨x, hx⟩ : ∃ x, q * fd zs m 0 = x := ⟨_, rfl⟩
      rw [PS, hx] at pb2
      have HP : Hid (prodP zs (m + 1) = x) := by show _ = _; rw [PS, hx]
      have f1 : IntKind.i64.wrap (q * fd zs m 0) = x := by rw [hx]; exact IntWalk.i64_in _ ⟨by omega, by omega⟩
      clear hb hq PS hx
      go_wp2_with fail
      go_roundw
      case rel => exact ⟨m + 1, by omega, by go_num, by rw [HP.out], HB.out.alloc hz _⟩
      case measure => simp [intOf]; omega
    · have hmn : m = n := by omega
      subst hmn
      have hm1 : ¬ (m : Int) < m := by omega
      have ab := prodP_bd5 OK.out m (Nat.le_refl _)
      have AL := Lib.hid (asked_le OK.out HF.out (all := prodP zs m) (by omega) np)
      have AB := fun j hj => asked_bd OK.out (all := prodP zs m) (by omega) j hj
      have AK := fun j hj => ask_bd OK.out (all := prodP zs m) (by omega) j hj
      obtain ⟨all, hall⟩ : ∃ all, prodP zs m = all := ⟨_, rfl⟩
      rw [hall] at ab AL AB AK ⊢
      have AB' := Lib.hid AB
      have AK' := Lib.hid AK
      clear hb hall AB AK
      go_wp2_with fail
      go_loopw [117, 19, 23] (fun i a _ wr' => ∃ j : Nat, j ≤ m ∧ i = .int .i64 j ∧ a = .int .i64 (asked zs all j) ∧ Below w8.heap.size w8 wr') (fun i _ _ _ => m - (intOf i).toNat)
      case atStart => exact ⟨0, Nat.zero_le _, rfl, rfl, HB.out⟩
      case round =>
        obtain ⟨j, hj, rfl, rfl, hb⟩ := hrel
        have HBJ := Lib.hid hb
        have hj0 : (0 : Int) ≤ j := by omega
        by_cases hlt2 : j < m
        · obtain ⟨c0, c1, c2⟩ := (S8.out.below hb).three hlt2
          have hz := hb.size
          have hj1 : (j : Int) < m := by omega
          obtain ⟨p0, p1, p2, p3, p4⟩ := OK.out.2 j hlt2
          obtain ⟨a1, a2⟩ := AB'.out j (by omega)
          have a3 : all * (j : Int) ≤ 777600000 * 5 := Int.mul_le_mul ab.2 (by omega) (by omega) (by omega)
          obtain ⟨k1, k2, k3, k4⟩ := AK'.out j hlt2
          have AS := asked_succ zs all j
          obtain ⟨d, hd⟩ : ∃ d, all / fd zs j 0 = d := ⟨_, rfl⟩
          have hdt : all.tdiv (fd zs j 0) = d := by rw [Int.tdiv_eq_ediv_of_nonneg (by omega)]; exact hd
          rw [hd] at k1 k2 k3 k4 AS
          obtain ⟨x, hx⟩ : ∃ x, d * fd zs j 1 = x := ⟨_, rfl⟩
          rw [hx] at k3 k4 AS
          obtain ⟨q, hq⟩ : ∃ q, asked zs all j = q := ⟨_, rfl⟩
          rw [hq] at a1 a2 AS ⊢
          have g5 : (fd zs j 0 == 0) = false := by simp; omega
          have g6 : fd zs j 0 ≠ 0 := by omega
          have f0 : wrap64 d = d := IntWalk.wrap64_in _ ⟨by omega, by omega⟩
          have f0' : IntKind.i64.wrap d = d := IntWalk.i64_in _ ⟨by omega, by omega⟩
          have f1 : wrap64 (d * fd zs j 1) = x := by rw [hx]; exact IntWalk.wrap64_in _ ⟨by omega, by omega⟩
          have f1' : IntKind.i64.wrap (d * fd zs j 1) = x := by rw [hx]; exact IntWalk.i64_in _ ⟨by omega, by omega⟩
          have f2 : wrap64 (q + x) = q + x := IntWalk.wrap64_in _ ⟨by omega, by omega⟩
          have f2' : IntKind.i64.wrap (q + x) = q + x := IntWalk.i64_in _ ⟨by omega, by omega⟩
          have HA := Lib.hid AS
          clear hb hd hx hq AS
          go_wp2_with fail
          go_quiet (fail)
          go_wp2_with fail
          go_roundw
          case rel => exact ⟨j + 1, by omega, by go_num, by rw [HA.out], bel_drewN (HBJ.out.alloc hz _) _⟩
          case measure => simp [intOf]; omega
        · have hjm : j = m := by omega
          subst hjm
          have hj1 : ¬ (j : Int) < j := by omega
          have hal := AL.out
          obtain ⟨q, hq⟩ : ∃ q, asked zs all j = q := ⟨_, rfl⟩
          rw [hq] at hal ⊢
          clear hb hq
          go_wp2_with fail
          go_ret
          exact ⟨rfl, B8.out.trans (HBJ.out.mono B8.out.size)⟩
end Go.Proofs.Ytigekbidbeilnaa
