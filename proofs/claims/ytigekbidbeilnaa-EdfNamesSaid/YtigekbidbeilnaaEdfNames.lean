/- EdfNames: feasibility does not depend on the order of jobs or on a time shift. -/
import Derived.Test.YtigekbidbeilnaaEdfP
import Derived.Test.YtigekbidbeilnaaCloneJob
import Derived.Test.YtigekbidbeilnaaKit0
import Derived.StillTailTactics
import Derived.Deep.RegionLaw
set_option linter.unusedVariables false
namespace Go.Proofs.Ytigekbidbeilnaa
open Go.RowKit
theorem lateJ {w : World} {base g n cap : Nat} {zs : List Int} {d : Int} {k : Nat} {e : TypeId} (hl : zs.length = n * 3) (h : w.ownsRow base e 3 (.slice (some ⟨g, 0, none⟩) n cap) n (ints (laterT zs n d k))) (hk : k < n) (j : Nat) (hj : j < 3) : w.cell? ⟨g, k * 3 + j, none⟩ = some (.int .i64 (fd zs k j)) := by
  have := h.cellAt (k * 3 + j) (by omega)
  rw [ints_get (by unfold laterT; rw [flat3_len]; omega)] at this
  rw [this]
  show some (Value.int .i64 (fd (laterT zs n d k) k j)) = _
  rw [laterT_fd hk hj, if_neg (by omega)]
set_option maxRecDepth 100000 in
set_option maxHeartbeats 6400000 in
theorem edfNames_walk (A : Option Addr) (n c : Nat) (zs : List Int) (O : Option Addr) (p c2 : Nat) (ord : List Int) (d : Int) (W : World) (w0 : In3 W A n c zs) (w1 : InInts W O p c2 ord) (_ : -9223372036854775808 ≤ d ∧ d ≤ 9223372036854775807) :
    Calls Try.prog 3 #[.slice A n c, .slice O p c2, .int .i64 d] W fun e w' => e = .returned (.bool true) ∧ Below W.heap.size W w' := by
  obtain ⟨s0, l0, r0, _⟩ := w0
  obtain ⟨so, lo, ro, _⟩ := w1
  go_enter Try.func3, Try.ntmps3
  go_wp2_with fail
  refine (efits_ok _ 1 _ [3, 2, 4] _ (by decide) (Sl.built_ _ (ints [3, 2, 4]) 28 _ rfl rfl) false (by decide)).mono ?_
  rintro e w1 ⟨rfl, bb1⟩
  have b1 := belLit1 (Below.refl W.heap.size W) bb1
  replace s0 := slLit1 s0 bb1
  replace so := slLit1 so bb1
  clear bb1
  go_wp2_with fail
  refine (efits_ok _ 1 _ [3, 1, 4] _ (by decide) (Sl.built_ _ (ints [3, 1, 4]) 28 _ rfl rfl) true (by decide)).mono ?_
  rintro e w2 ⟨rfl, bb2⟩
  have b2 := belLit1 b1 bb2
  replace s0 := slLit1 s0 bb2
  replace so := slLit1 so bb2
  clear b1 bb2
  by_cases hok : edfOk zs n
  case neg =>
    have hne := edfErr_ne n
    have hne2 : (edfErr n == 0) = false := by simpa using hne
    have HOK := Lib.hid hok
    clear hok
    go_wp2_with fail
    refine (efits_bad A n c zs _ HOK.out s0 (by omega)).mono ?_
    rintro e w4 ⟨rfl, bb4⟩
    have b4 := belLit0 b2 bb4
    clear b2 bb4 s0 so
    go_wp2_with fail
    go_ret
    exact ⟨rfl, b4⟩
  have OK := Lib.hid hok
  have n12 := hok.1
  obtain ⟨v, hv⟩ : ∃ v, decide (fitsE zs n) = v := ⟨_, rfl⟩
  have HV : Hid (v = true ↔ fitsE zs n) := by show _ ↔ _; rw [← hv, decide_eq_true_iff]
  clear hok hv
  go_wp2_with fail
  refine (efits_ok A n c zs _ OK.out s0 v HV.out).mono ?_
  rintro e w3 ⟨rfl, bb3⟩
  have b3 := belLit0 b2 bb3
  replace s0 := slLit0 s0 bb3
  replace so := slLit0 so bb3
  clear b2 bb3
  by_cases hn0 : n = 0
  case pos =>
    have e0 : ((n : Int) == 0) = true := by simp; omega
    clear s0 so hn0
    go_wp2_with fail
    go_ret
    exact ⟨rfl, b3⟩
  have e0 : ((n : Int) == 0) = false := by simp; omega
  have np : 0 < n := by omega
  have HL := Lib.hid s0.int_len
  clear hn0
  go_wp2_with fail
  refine (cloneJob A n c (ints zs) _ s0 (ints_one _) (by omega)).mono ?_
  rintro e w4 ⟨x, rfl, own4, bb4, z4⟩
  have b4 := belLit0 b3 bb4
  obtain ⟨g, cap, rfl, hg1, hg2⟩ := own4.form np
  have S3 := Lib.hid s0
  have SO := Lib.hid so
  have B3 := Lib.hid b3
  have O4 := Lib.hid own4
  have BB4 := Lib.hid bb4
  clear b3 b4 bb4 s0 so own4
  go_wp2_with fail
  go_loopw [68, 15, 16, 14] (fun i _ _ r wr => ∃ m : Nat, ∃ rm : Int, ∃ ys : List Int, m ≤ n ∧ i = .int .i64 m ∧ r = .int .i64 rm ∧ 0 ≤ rm ∧ rm ≤ 200 ∧ Hid (∀ j, j < m → rm + fd zs j 2 ≤ 200) ∧ Hid (ys.length = n * 3) ∧ Hid (edfOk ys n) ∧ Hid (∀ x y, dem ys x y n = dem zs x y n) ∧ wr.ownsRow w3.heap.size 28 3 (.slice (some ⟨g, 0, none⟩) n cap) n (ints ys) ∧ Below w3.heap.size w3 wr) (fun i _ _ _ _ => n - (intOf i).toNat)
  case atStart => exact ⟨0, 200, zs, Nat.zero_le _, rfl, rfl, by omega, by omega, Lib.hid (fun j hj => by omega), HL, OK, Lib.hid (fun _ _ => rfl), O4.out, BB4.out⟩
  case round =>
    obtain ⟨m, rm, ys, hm, rfl, rfl, rm0, rm1, hrm, hyl, hyo, hyd, hown, hb⟩ := hrel
    have HB := Lib.hid hb
    have hm0 : (0 : Int) ≤ m := by omega
    by_cases hlt : m < n
    · have hn1 : (m : Int) < n := by omega
      obtain ⟨b, off, hA, hbl, -⟩ := S3.out.int_at (k := m * 3) (by omega)
      subst hA
      obtain ⟨t0, t1, t2, t3, t4⟩ := OK.out.2 m hlt
      have f1 : IntKind.i64.wrap (200 - fd zs m 2) = 200 - fd zs m 2 := IntWalk.i64_in _ ⟨by omega, by omega⟩
      obtain ⟨nr, hnr⟩ : ∃ nr, (if 200 - fd zs m 2 < rm then 200 - fd zs m 2 else rm) = nr := ⟨_, rfl⟩
      have nr0 : 0 ≤ nr := by rw [← hnr]; split <;> omega
      have nr1 : nr ≤ 200 := by rw [← hnr]; split <;> omega
      have NR : Hid (∀ j, j < m + 1 → nr + fd zs j 2 ≤ 200) := Lib.hid fun j hj => by
        rcases Nat.lt_or_ge j m with h | h
        · have := hrm.out j h
          rw [← hnr]; split <;> omega
        · obtain rfl : j = m := by omega
          rw [← hnr]; split <;> omega
      by_cases hp : m < p
      · have hp1 : (m : Int) < p := by omega
        obtain ⟨bo, oo, hAo, hbo, hco⟩ := (SO.out.below hb).int_at hp
        subst hAo
        clear hb
        have HO := Lib.hid hown
        clear hown
        go_wp2_with fail
        refine (within_t (gi ord m) n _ (by omega) (by omega) _ rfl).mono ?_
        rintro e _ ⟨rfl, rfl⟩
        have k0 := within_lo (gi ord m) n (by omega)
        have k1 := within_hi (gi ord m) n (by omega)
        generalize within (gi ord m) n = kk at *
        obtain ⟨k, rfl⟩ := Int.eq_ofNat_of_zero_le k0
        have hk : k < n := by omega
        have ci : ∀ q, q < 3 → wr.cell? ⟨g, m * 3 + q, none⟩ = some (.int .i64 (fd ys m q)) := fun q hq => by
          have := HO.out.cellAt (m * 3 + q) (by omega)
          rwa [ints_get (by rw [hyl.out]; omega)] at this
        have ck : ∀ q, q < 3 → wr.cell? ⟨g, k * 3 + q, none⟩ = some (.int .i64 (fd ys k q)) := fun q hq => by
          have := HO.out.cellAt (k * 3 + q) (by omega)
          rwa [ints_get (by rw [hyl.out]; omega)] at this
        have ci0 := ci 0 (by omega)
        have ci1 := ci 1 (by omega)
        have ci2 := ci 2 (by omega)
        have ck0 := ck 0 (by omega)
        have ck1 := ck 1 (by omega)
        have ck2 := ck 2 (by omega)
        rw [Nat.add_zero] at ci0 ck0
        have fz : ∀ q, wr.drew.frozen? ⟨g, q, none⟩ = false := HO.out.frozenAt
        have ownd : wr.drew.ownsRow w3.heap.size 28 3 (.slice (some ⟨g, 0, none⟩) n cap) n (ints ys) := HO.out.drew
        have BD : Hid (Below w3.heap.size w3 wr.drew) := Lib.hid HB.out.drew
        have OD := Lib.hid ownd
        have FZ := Lib.hid fz
        have K0 : Hid (wr.drew.cell? ⟨g, m * 3, none⟩ = some (.int .i64 (fd ys m 0))) := Lib.hid ci0
        have K1 : Hid (wr.drew.cell? ⟨g, m * 3 + 1, none⟩ = some (.int .i64 (fd ys m 1))) := Lib.hid ci1
        have K2 : Hid (wr.drew.cell? ⟨g, m * 3 + 2, none⟩ = some (.int .i64 (fd ys m 2))) := Lib.hid ci2
        clear ci ck hco ownd fz
        go_wp2_with fail
        have q3 : ∀ q, wr.frozen? ⟨g, q, none⟩ = false := HO.out.frozenAt
        have o3 := (((HO.out.stored (m * 3 + 0) (.int .i64 (fd ys k 0))).1.stored (m * 3 + 1) (.int .i64 (fd ys k 1))).1.stored (m * 3 + 2) (.int .i64 (fd ys k 2))).1
        rw [ints_set, ints_set, ints_set] at o3
        have o3' : (((wr.setCell ⟨g, m * 3, none⟩ (.int .i64 (fd ys k 0))).setCell ⟨g, m * 3 + 1, none⟩ (.int .i64 (fd ys k 1))).setCell ⟨g, m * 3 + 2, none⟩ (.int .i64 (fd ys k 2))).ownsRow w3.heap.size 28 3 (.slice (some ⟨g, 0, none⟩) n cap) n (ints (((ys.set (m * 3 + 0) (fd ys k 0)).set (m * 3 + 1) (fd ys k 1)).set (m * 3 + 2) (fd ys k 2))) := o3
        have e1 := o3'.cellAt (k * 3) (by omega)
        have e2 := o3'.cellAt (k * 3 + 1) (by omega)
        have e3 := o3'.cellAt (k * 3 + 2) (by omega)
        rw [ints_get (by simp [hyl.out]; omega)] at e1 e2 e3
        have o6 := (((o3'.stored (k * 3 + 0) (.int .i64 (fd ys m 0))).1.stored (k * 3 + 1) (.int .i64 (fd ys m 1))).1.stored (k * 3 + 2) (.int .i64 (fd ys m 2))).1
        rw [ints_set, ints_set, ints_set, swap_stores hyl.out hlt hk] at o6
        have b6 : Below w3.heap.size w3 ((((((wr.setCell ⟨g, m * 3, none⟩ (.int .i64 (fd ys k 0))).setCell ⟨g, m * 3 + 1, none⟩ (.int .i64 (fd ys k 1))).setCell ⟨g, m * 3 + 2, none⟩ (.int .i64 (fd ys k 2))).setCell ⟨g, k * 3, none⟩ (.int .i64 (fd ys m 0))).setCell ⟨g, k * 3 + 1, none⟩ (.int .i64 (fd ys m 1))).setCell ⟨g, k * 3 + 2, none⟩ (.int .i64 (fd ys m 2))).drew := ((((((HB.out.setCell (p := ⟨g, m * 3, none⟩) hg1 _).setCell (p := ⟨g, m * 3 + 1, none⟩) hg1 _).setCell (p := ⟨g, m * 3 + 2, none⟩) hg1 _).setCell (p := ⟨g, k * 3, none⟩) hg1 _).setCell (p := ⟨g, k * 3 + 1, none⟩) hg1 _).setCell (p := ⟨g, k * 3 + 2, none⟩) hg1 _).drew
        have o7 := World.ownsRow.drew o6
        simp only [Nat.add_zero] at o7
        have O7 := Lib.hid o7
        have B7 := Lib.hid b6
        generalize gi (((ys.set (m * 3 + 0) (fd ys k 0)).set (m * 3 + 1) (fd ys k 1)).set (m * 3 + 2) (fd ys k 2)) (k * 3) = G1 at *
        generalize gi (((ys.set (m * 3 + 0) (fd ys k 0)).set (m * 3 + 1) (fd ys k 1)).set (m * 3 + 2) (fd ys k 2)) (k * 3 + 1) = G2 at *
        generalize gi (((ys.set (m * 3 + 0) (fd ys k 0)).set (m * 3 + 1) (fd ys k 1)).set (m * 3 + 2) (fd ys k 2)) (k * 3 + 2) = G3 at *
        clear o3 o3' o6 b6 o7
        go_region_law (fail)
        all_goals
          clear e1 e2 e3 q3 ci0 ci1 ci2 ck0 ck1 ck2 OD K0 K1 K2 FZ BD
          obtain ⟨wz, hwz⟩ : ∃ wz, ((((((wr.setCell ⟨g, m * 3, none⟩ (.int .i64 (fd ys k 0))).setCell ⟨g, m * 3 + 1, none⟩ (.int .i64 (fd ys k 1))).setCell ⟨g, m * 3 + 2, none⟩ (.int .i64 (fd ys k 2))).setCell ⟨g, k * 3, none⟩ (.int .i64 (fd ys m 0))).setCell ⟨g, k * 3 + 1, none⟩ (.int .i64 (fd ys m 1))).setCell ⟨g, k * 3 + 2, none⟩ (.int .i64 (fd ys m 2))).drew = wz := ⟨_, rfl⟩
          rw [hwz] at O7 B7 ⊢
          clear hwz
          obtain ⟨dm0, dm1, dm2⟩ := (S3.out.below B7.out).three hlt
          go_wp2_with fail
          go_roundw
          case rel => exact ⟨m + 1, nr, swapT ys n m k, by omega, by go_num, rfl, nr0, nr1, NR, Lib.hid (swapT_len _ _ _ _), Lib.hid (swap_ok hyo.out hlt hk), Lib.hid (fun x y => (swap_dem hlt hk x y).trans (hyd.out x y)), O7.out, B7.out⟩
          case measure => simp [intOf]; omega
      · have hp1 : ¬ (m : Int) < p := by omega
        obtain ⟨dm0, dm1, dm2⟩ := (S3.out.below hb).three hlt
        have HO := Lib.hid hown
        clear hb hown
        go_wp2_with fail
        go_roundw
        case rel => exact ⟨m + 1, nr, ys, by omega, by go_num, rfl, nr0, nr1, NR, hyl, hyo, hyd, HO.out, HB.out⟩
        case measure => simp [intOf]; omega
    · have hmn : m = n := by omega
      subst hmn
      have hn1 : ¬ (m : Int) < m := by omega
      have hcap : m ≤ cap := by
        obtain ⟨A', c', e, h⟩ := own_form hown
        injection e with e1 e2 e3
        omega
      have s5 := Lib.hid (Sl.of_own3 hown)
      have S5 := Lib.hid (S3.out.on hb)
      have B5 := Lib.hid (belLit0 B3.out hb)
      clear hb hown
      go_wp2_with fail
      refine (cloneJob A m c (ints zs) _ S5.out (ints_one _) (by omega)).mono ?_
      rintro e w6 ⟨x, rfl, own6, bb6, z6⟩
      obtain ⟨g2, cap2, rfl, hg3, hg4⟩ := own6.form np
      have f2 : IntKind.i64.wrap (rm + 1) = rm + 1 := IntWalk.i64_in _ ⟨by omega, by omega⟩
      have O6 := Lib.hid own6
      have BB6 := Lib.hid bb6
      clear own6 bb6
      go_wp2_with fail
      refine (within_t d (rm + 1) _ (by omega) (by omega) _ rfl).mono ?_
      rintro e _ ⟨rfl, rfl⟩
      have d0 := within_lo d (rm + 1) (by omega)
      have d1 := within_hi d (rm + 1) (by omega)
      generalize within d (rm + 1) = d' at *
      have O7 : Hid (w6.ownsRow wr.heap.size 28 3 (.slice (some ⟨g2, 0, none⟩) m cap2) m (ints (laterT zs m d' 0))) := by show World.ownsRow _ _ _ _ _ _ _; rw [laterT_zero HL.out]; exact O6.out
      go_wp2_with fail
      generalize hwb : wr.heap.size = wb at *
      have HG3 := Lib.hid hg3
      go_loopw [113, 18] (fun i _ w' => ∃ k : Nat, k ≤ m ∧ i = .int .i64 k ∧ w'.ownsRow wb 28 3 (.slice (some ⟨g2, 0, none⟩) m cap2) m (ints (laterT zs m d' k)) ∧ Below wb wr w') (fun i _ _ => m - (intOf i).toNat)
      case atStart => exact ⟨0, Nat.zero_le _, rfl, O7.out, BB6.out⟩
      case round =>
        obtain ⟨k, hk, rfl, hown, hb⟩ := hrel
        have HB := Lib.hid hb
        have HO := Lib.hid hown
        have hk0 : (0 : Int) ≤ k := by omega
        by_cases hlt : k < m
        · have e0 := lateJ HL.out hown hlt 0 (by omega)
          have e2 := lateJ HL.out hown hlt 2 (by omega)
          rw [Nat.add_zero] at e0
          have fz := hown.frozenAt
          have hn2 : (k : Int) < m := by omega
          obtain ⟨t0, t1, t2, t3, t4⟩ := OK.out.2 k hlt
          have e2' : (wr.setCell ⟨g2, k * 3, none⟩ (.int .i64 (fd zs k 0 + d'))).cell? ⟨g2, k * 3 + 2, none⟩ = some (.int .i64 (fd zs k 2)) := by rw [World.cell?_setCell_other _ _ _ _ (by simp)]; exact e2
          have o1 := ((HO.out.stored (k * 3 + 0) (.int .i64 (fd zs k 0 + d'))).1.stored (k * 3 + 2) (.int .i64 (fd zs k 2 + d'))).1
          rw [ints_set, ints_set, laterT_set d' hlt] at o1
          simp only [Nat.add_zero] at o1
          have O1 := Lib.hid o1
          have b1 : Hid (Below wb _ _) := Lib.hid ((HB.out.setCell (p := ⟨g2, k * 3, none⟩) HG3.out (.int .i64 (fd zs k 0 + d'))).setCell (p := ⟨g2, k * 3 + 2, none⟩) HG3.out (.int .i64 (fd zs k 2 + d')))
          clear hown hb o1
          go_wp2_with fail
          go_roundw
          case rel => exact ⟨k + 1, by omega, by go_num, O1.out, b1.out⟩
          case measure => simp [intOf]; omega
        · have hkm : k = m := by omega
          subst hkm
          have hn2 : ¬ (k : Int) < k := by omega
          have hcap2 : k ≤ cap2 := by
            obtain ⟨A', c', e, h⟩ := own_form hown
            injection e with e1 e2 e3
            omega
          have s8 := Sl.of_own3 hown
          have hb' := hb
          rw [← hwb] at hb'
          have s7 := (s5.out.below hb).more (B' := wr.heap.size) (by have := hb.size; omega)
          have b8 := belLit0 B5.out hb'
          have LO := Lib.hid (later_ok (d := d') OK.out d0 fun i hi => by have := hrm.out i hi; omega)
          have F1 := Lib.hid (HV.out.trans (same_fits OK.out hyo.out hyd.out).symm)
          have F2 := Lib.hid (HV.out.trans (later_fits OK.out LO.out).symm)
          clear hown hb hb' hwb
          go_wp2_with fail
          refine (efits_ok _ k cap ys _ hyo.out s7 v F1.out).mono ?_
          rintro e w9 ⟨rfl, bb9⟩
          have b9 := belLit0 b8 bb9
          replace s8 := slLit0 s8 bb9
          clear s7 b8 bb9
          go_wp2_with fail
          refine (efits_ok _ k cap2 (laterT zs k d' k) _ LO.out s8 v F2.out).mono ?_
          rintro e w10 ⟨rfl, bb10⟩
          have b10 := belLit0 b9 bb10
          clear s8 b9 bb10
          cases v
          all_goals
            go_wp2_with fail
            go_ret
            exact ⟨rfl, b10⟩
end Go.Proofs.Ytigekbidbeilnaa
