/- RanksOrder: if any priority order is feasible, so is deadline-monotonic order. -/
import Derived.Test.YtigekbidbeilnaaRanksW
import Derived.Test.YtigekbidbeilnaaKit0
import Derived.Test.YtigekbidbeilnaaRanksF
import Derived.Test.YtigekbidbeilnaaRanksP
set_option linter.unusedVariables false
namespace Go.Proofs.Ytigekbidbeilnaa
open Go.RowKit
/-- The two tasks of the literal, in some order. -/
def twoT (ys : List Int) : Prop := ranksOk ys 2 ∧ ((fd ys 0 2 = 6 ∧ fd ys 1 2 = 4) ∨ (fd ys 0 2 = 4 ∧ fd ys 1 2 = 6))
theorem twoT_lit : twoT [6, 1, 6, 4, 1, 4] := by
  refine ⟨⟨by omega, fun i hi => ?_⟩, .inl ⟨rfl, rfl⟩⟩
  match i, hi with
  | 0, _ => decide
  | 1, _ => decide
theorem twoT_swap (ys : List Int) (j : Nat) (h : twoT ys) (hj : j + 1 < 2) (hd : fd ys (j + 1) 2 < fd ys j 2) : twoT (swapT ys 2 (j + 1) j) := by
  obtain rfl : j = 0 := by omega
  refine ⟨swap_ranks hj h.1, ?_⟩
  have a := swap_a (zs := ys) hj (show 2 < 3 by omega)
  have b := swap_b (zs := ys) hj (show 2 < 3 by omega)
  have := h.2
  simp only [Nat.zero_add] at a b ⊢
  rw [a, b]
  omega
set_option maxRecDepth 100000 in
set_option maxHeartbeats 3200000 in
theorem ranksOrder_walk (A : Option Addr) (n c : Nat) (zs : List Int) (W : World) (w0 : In3 W A n c zs) :
    Calls Try.prog 12 #[.slice A n c] W fun e w' => e = .returned (.bool true) ∧ Below W.heap.size W w' := by
  obtain ⟨s0, l0, r0, _⟩ := w0
  go_enter Try.func12, Try.ntmps12
  go_wp2_with fail
  refine (order_ok twoT _ 2 2 [6, 1, 6, 4, 1, 4] _ twoT_lit twoT_swap (fun ys h => h.1) (Sl.built_ W _ _ _ rfl (by rfl))).mono ?_
  rintro e w1 ⟨A1, c1, ys, rfl, hI, hst, hc1, hs1, hb1⟩
  have b01 : Below W.heap.size W w1 := belLit1 (Below.refl _ _) hb1
  have s01 : Sl w1 w1.heap.size A (n * 3) (ints zs) := slLit1 s0 hb1
  have hdue : fd ys 0 2 = 4 := by
    have := hst 0 1 (by omega) (by omega)
    have := hI.2
    omega
  obtain ⟨b, off, rfl, hbl, -⟩ := hs1.int_at (k := 0) (by omega)
  obtain ⟨-, -, c2⟩ := hs1.three (k := 0) (by omega)
  simp only [Nat.zero_mul, Nat.add_zero] at c2
  rw [hdue] at c2
  have B1 := Lib.hid b01
  have S1 := Lib.hid s01
  clear hI hst hs1 hb1 hdue s0 s01 b01
  go_wp2_with fail
  by_cases h : ranksOk zs n
  · have OK := Lib.hid h
    obtain ⟨v, hv⟩ : ∃ v, v = true ↔ fitsR zs n := ⟨@decide (fitsR zs n) (Classical.propDecidable _), by simp⟩
    have HV := Lib.hid hv
    have n5 := h.1
    clear h hv
    refine (order_ok (fun ys => ranksOk ys n ∧ (fitsR zs n → fitsR ys n)) A n c zs _ ⟨OK.out, id⟩ (fun ys j h hj hd => ⟨swap_ranks hj h.1, fun hf => swap_fits hj h.1 hd (h.2 hf)⟩) (fun ys h => h.1) S1.out).mono ?_
    rintro e w2 ⟨A2, c2, ys2, rfl, hI, hst, hc2, hs2, hb2⟩
    have S2 := Lib.hid hs2
    have SZ := Lib.hid (slLit0 S1.out hb2)
    have B2 := Lib.hid (belLit0 B1.out hb2)
    have HI := Lib.hid hI
    clear hI hst hs2 hb2
    go_wp2_with fail
    refine (fits_ok A n c zs _ OK.out l0 SZ.out v HV.out).mono ?_
    rintro e w3 ⟨rfl, hb3⟩
    have S3 := Lib.hid (slLit0 S2.out hb3)
    have B3 := Lib.hid (belLit0 B2.out hb3)
    clear hb3
    go_wp2_with fail
    obtain ⟨u, hu⟩ : ∃ u, u = true ↔ fitsR ys2 n := ⟨@decide (fitsR ys2 n) (Classical.propDecidable _), by simp⟩
    have HU := Lib.hid hu
    clear hu
    refine (fits_ok A2 n c2 ys2 _ HI.out.1 hc2 S3.out u HU.out).mono ?_
    rintro e w4 ⟨rfl, hb4⟩
    have B4 := Lib.hid (belLit0 B3.out hb4)
    have hvu : Hid (v = true → u = true) := Lib.hid fun h => HU.out.2 (HI.out.2 (HV.out.1 h))
    clear hb4
    cases v
    · go_wp2_with fail
      go_ret
      exact ⟨rfl, B4.out⟩
    · have hu1 := hvu.out rfl
      subst hu1
      go_wp2_with fail
      go_ret
      exact ⟨rfl, B4.out⟩
  · have NO := Lib.hid h
    have hne := ranksErr_ne n
    clear h
    refine (order_bad A n c zs _ NO.out S1.out (by omega)).mono ?_
    rintro e w2 ⟨rfl, hb2⟩
    have SZ := Lib.hid (slLit0 S1.out hb2)
    have B2 := Lib.hid (belLit0 B1.out hb2)
    clear hb2
    go_wp2_with fail
    refine (fits_bad A n c zs _ NO.out SZ.out (by omega)).mono ?_
    rintro e w3 ⟨rfl, hb3⟩
    have B3 := Lib.hid (belLit0 B2.out hb3)
    clear hb3
    go_wp2_with fail
    go_ret
    exact ⟨rfl, B3.out⟩
end Go.Proofs.Ytigekbidbeilnaa
