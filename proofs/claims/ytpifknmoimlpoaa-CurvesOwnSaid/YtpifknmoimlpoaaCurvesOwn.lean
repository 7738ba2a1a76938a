/- CurvesOwn: curves that are handed in stay as they are, and what is answered shares nothing with them, or with each other. -/
import Derived.Test.YtpifknmoimlpoaaOwnC
set_option linter.unusedVariables false
namespace Go.Proofs.Ytpifknmoimlpoaa
open Go.RowKit
set_option maxRecDepth 100000 in
set_option maxHeartbeats 12800000 in
theorem curvesOwn_walk (A : Option Addr) (n c : Nat) (f : List Int) (M : Option Addr) (m d : Nat) (g : List Int) (k : Int) (W : World) (w0 : InInts W A n c f) (w1 : InInts W M m d g) (w2 : -9223372036854775808 ≤ k ∧ k ≤ 9223372036854775807) :
    Calls Try.prog 10 #[.slice A n c, .slice M m d, .int .i64 k] W fun e w' => e = .returned (.bool true) ∧ Below W.heap.size W w' := by
  obtain ⟨sf, lf, rf, _⟩ := w0
  obtain ⟨sg, lg, rg, _⟩ := w1
  have SF := Lib.hid sf
  have SG := Lib.hid sg
  have hn : n ≤ 9223372036854775807 := by omega
  have hm : m ≤ 9223372036854775807 := by omega
  have RN : Hid ((n + 3) * 8 ≤ 140737488355328 ∧ (m + 3) * 8 ≤ 140737488355328) := Lib.hid (by omega)
  have hn1 : n + 3 ≤ 9223372036854775807 := by omega
  have hm1 : m + 3 ≤ 9223372036854775807 := by omega
  have LF := Lib.hid sf.int_len
  have LG := Lib.hid sg.int_len
  clear sf sg lf lg rf rg w2
  go_enter Try.func10, Try.ntmps10
  go_wp2_with fail
  refine (plate_any _ 2 2 [1, 2] 0 _ (Sl.built_ W (ints [1, 2]) 3 _ rfl rfl) (by omega) (by omega) (by omega) [1, 2] 0 2 (by decide) rfl).mono ?_
  rintro e x0 ⟨D0, d0, rfl, s0, _, bb0, -⟩
  have U0 := Lib.hid (belLit1 (Below.refl W.heap.size W) bb0)
  have S0 := Lib.hid s0
  clear bb0 s0
  go_wp2_with fail
  refine (equal_t D0 2 d0 [1, 2] _ 2 _ [1, 2] _ (slMore S0.out _) (Sl.built_ _ (ints [1, 2]) 3 _ rfl rfl) (by omega) (by omega) true (by decide)).mono ?_
  rintro e v0 ⟨rfl, bb0⟩
  have V0 := Lib.hid (belLit1 U0.out bb0)
  clear bb0 S0 U0
  have SF0 := Lib.hid ((SF.out.below V0.out).more V0.out.size)
  go_wp2_with fail
  refine (roomyInt A n c (ints f) _ (by rw [Nat.mul_one]; exact SF0.out) (ints_one _) RN.out.1 (-7)).mono ?_
  rintro e va ⟨ga, rfl, oa, ba⟩
  have VA := Lib.hid (V0.out.trans (ba.mono V0.out.size))
  have SG0 := Lib.hid ((SG.out.below VA.out).more VA.out.size)
  have OA := Lib.hid oa
  have BA := Lib.hid ba
  clear oa ba
  go_wp2_with fail
  refine (roomyInt M m d (ints g) _ (by rw [Nat.mul_one]; exact SG0.out) (ints_one _) RN.out.2 (-8)).mono ?_
  rintro e vb ⟨gb, rfl, ob, bb⟩
  have VB := Lib.hid (VA.out.trans (bb.mono VA.out.size))
  have AS : Hid (AB vb W.heap.size vb.heap.size ga gb n m f g) := Lib.hid (by
    have la := (OA.out.lt ga rfl).2
    have lb := ob.lt gb rfl
    exact ⟨own_onR (own_lower OA.out V0.out.size) bb, own_lower ob VA.out.size, LF.out, LG.out, Nat.lt_of_lt_of_le la bb.size, lb.2, by omega⟩)
  have KK := Lib.hid (KS.start vb)
  have BK := Lib.hid (VB.out.alloc VB.out.size (.cells #[.slice none 0 0] 77))
  have AK := Lib.hid (AS.out.on ((Below.refl _ _).alloc (Nat.le_refl _) (.cells #[.slice none 0 0] 77)))
  have HD : Hid (W.heap.size ≤ vb.heap.size) := VB.out.size
  clear ob bb AS OA BA
  go_wp2_with fail
  obtain ⟨D, hD⟩ : ∃ D, vb.heap.size = D := ⟨_, rfl⟩
  obtain ⟨y0, hy0⟩ : ∃ y, vb.alloc (.cells #[.slice none 0 0] 77) = y := ⟨_, rfl⟩
  rw [hy0, hD] at KK
  rw [hy0] at BK
  rw [hy0, hD] at AK
  rw [hD] at HD
  rw [hy0]
  try rw [hD]
  clear hy0 hD
  obtain ⟨R0, hR0⟩ : ∃ R : List (Value × List Int), [] = R := ⟨_, rfl⟩
  have L0 : Hid (R0.length = 0) := Lib.hid (by rw [← hR0]; rfl)
  rw [hR0] at KK
  clear hR0
  go_wp2_with fail
  refine (fr_cut _ n _ f _ AK.out.sa hn (by omega)).mono ?_
  rintro e x1 ⟨A1, n1, c1, z1, er1, rfl, o1, l1, _, b1⟩
  have KC := Lib.hid (keepC er1 KK.out b1 o1 l1 (by rw [L0.out]; omega))
  have BX : Hid (Below D y0 x1) := Lib.hid (b1.mono (Nat.le_of_lt KK.out.lt))
  clear o1 l1 b1
  go_wp2_with fail
  refine KC.out.mono ?_
  rintro e y1 ⟨rfl, k1, d1⟩
  have BY := Lib.hid (BX.out.trans d1)
  have AK' := Lib.hid (AK.out.on BY.out)
  have BK' := Lib.hid (BK.out.trans (BY.out.mono HD.out))
  obtain ⟨R1, hR⟩ : ∃ R, R0 ++ [(Value.slice A1 n1 c1, z1)] = R := ⟨_, rfl⟩
  have L1 : Hid (R1.length = 1) := Lib.hid (by rw [← hR, List.length_append, L0.out]; rfl)
  rw [hR] at k1
  clear KK AK BK BY BX KC d1 hR
  have KK := Lib.hid k1
  have AK := AK'
  have BK := BK'
  clear k1 AK' BK' L0
  go_wp2_with fail
  refine (fr_min _ n _ f _ m _ g _ AK.out.sa AK.out.sb hn hm).mono ?_
  rintro e x2 ⟨A1, n1, c1, z1, er1, rfl, o1, l1, _, b1⟩
  have KC := Lib.hid (keepC er1 KK.out b1 o1 l1 (by rw [L1.out]; omega))
  have BX : Hid (Below D y1 x2) := Lib.hid (b1.mono (Nat.le_of_lt KK.out.lt))
  clear o1 l1 b1
  go_wp2_with fail
  refine KC.out.mono ?_
  rintro e y2 ⟨rfl, k1, d1⟩
  have BY := Lib.hid (BX.out.trans d1)
  have AK' := Lib.hid (AK.out.on BY.out)
  have BK' := Lib.hid (BK.out.trans (BY.out.mono HD.out))
  obtain ⟨R2, hR⟩ : ∃ R, R1 ++ [(Value.slice A1 n1 c1, z1)] = R := ⟨_, rfl⟩
  have L2 : Hid (R2.length = 2) := Lib.hid (by rw [← hR, List.length_append, L1.out]; rfl)
  rw [hR] at k1
  clear KK AK BK BY BX KC d1 hR
  have KK := Lib.hid k1
  have AK := AK'
  have BK := BK'
  clear k1 AK' BK' L1
  go_wp2_with fail
  refine (fr_max _ n _ f _ m _ g _ AK.out.sa AK.out.sb hn hm).mono ?_
  rintro e x3 ⟨A1, n1, c1, z1, er1, rfl, o1, l1, _, b1⟩
  have KC := Lib.hid (keepC er1 KK.out b1 o1 l1 (by rw [L2.out]; omega))
  have BX : Hid (Below D y2 x3) := Lib.hid (b1.mono (Nat.le_of_lt KK.out.lt))
  clear o1 l1 b1
  go_wp2_with fail
  refine KC.out.mono ?_
  rintro e y3 ⟨rfl, k1, d1⟩
  have BY := Lib.hid (BX.out.trans d1)
  have AK' := Lib.hid (AK.out.on BY.out)
  have BK' := Lib.hid (BK.out.trans (BY.out.mono HD.out))
  obtain ⟨R3, hR⟩ : ∃ R, R2 ++ [(Value.slice A1 n1 c1, z1)] = R := ⟨_, rfl⟩
  have L3 : Hid (R3.length = 3) := Lib.hid (by rw [← hR, List.length_append, L2.out]; rfl)
  rw [hR] at k1
  clear KK AK BK BY BX KC d1 hR
  have KK := Lib.hid k1
  have AK := AK'
  have BK := BK'
  clear k1 AK' BK' L2
  go_wp2_with fail
  refine (fr_sum _ n _ f _ m _ g _ AK.out.sa AK.out.sb hn hm).mono ?_
  rintro e x4 ⟨A1, n1, c1, z1, er1, rfl, o1, l1, _, b1⟩
  have KC := Lib.hid (keepC er1 KK.out b1 o1 l1 (by rw [L3.out]; omega))
  have BX : Hid (Below D y3 x4) := Lib.hid (b1.mono (Nat.le_of_lt KK.out.lt))
  clear o1 l1 b1
  go_wp2_with fail
  refine KC.out.mono ?_
  rintro e y4 ⟨rfl, k1, d1⟩
  have BY := Lib.hid (BX.out.trans d1)
  have AK' := Lib.hid (AK.out.on BY.out)
  have BK' := Lib.hid (BK.out.trans (BY.out.mono HD.out))
  obtain ⟨R4, hR⟩ : ∃ R, R3 ++ [(Value.slice A1 n1 c1, z1)] = R := ⟨_, rfl⟩
  have L4 : Hid (R4.length = 4) := Lib.hid (by rw [← hR, List.length_append, L3.out]; rfl)
  rw [hR] at k1
  clear KK AK BK BY BX KC d1 hR
  have KK := Lib.hid k1
  have AK := AK'
  have BK := BK'
  clear k1 AK' BK' L3
  go_wp2_with fail
  refine (fr_less _ n _ f _ m _ g _ AK.out.sa AK.out.sb hn hm).mono ?_
  rintro e x5 ⟨A1, n1, c1, z1, er1, rfl, o1, l1, _, b1⟩
  have KC := Lib.hid (keepC er1 KK.out b1 o1 l1 (by rw [L4.out]; omega))
  have BX : Hid (Below D y4 x5) := Lib.hid (b1.mono (Nat.le_of_lt KK.out.lt))
  clear o1 l1 b1
  go_wp2_with fail
  refine KC.out.mono ?_
  rintro e y5 ⟨rfl, k1, d1⟩
  have BY := Lib.hid (BX.out.trans d1)
  have AK' := Lib.hid (AK.out.on BY.out)
  have BK' := Lib.hid (BK.out.trans (BY.out.mono HD.out))
  obtain ⟨R5, hR⟩ : ∃ R, R4 ++ [(Value.slice A1 n1 c1, z1)] = R := ⟨_, rfl⟩
  have L5 : Hid (R5.length = 5) := Lib.hid (by rw [← hR, List.length_append, L4.out]; rfl)
  rw [hR] at k1
  clear KK AK BK BY BX KC d1 hR
  have KK := Lib.hid k1
  have AK := AK'
  have BK := BK'
  clear k1 AK' BK' L4
  go_wp2_with fail
  refine (fr_late _ n _ f _ AK.out.sa hn).mono ?_
  rintro e x6 ⟨A1, n1, c1, z1, er1, rfl, o1, l1, _, b1⟩
  have KC := Lib.hid (keepC er1 KK.out b1 o1 l1 (by rw [L5.out]; omega))
  have BX : Hid (Below D y5 x6) := Lib.hid (b1.mono (Nat.le_of_lt KK.out.lt))
  clear o1 l1 b1
  go_wp2_with fail
  refine KC.out.mono ?_
  rintro e y6 ⟨rfl, k1, d1⟩
  have BY := Lib.hid (BX.out.trans d1)
  have AK' := Lib.hid (AK.out.on BY.out)
  have BK' := Lib.hid (BK.out.trans (BY.out.mono HD.out))
  obtain ⟨R6, hR⟩ : ∃ R, R5 ++ [(Value.slice A1 n1 c1, z1)] = R := ⟨_, rfl⟩
  have L6 : Hid (R6.length = 6) := Lib.hid (by rw [← hR, List.length_append, L5.out]; rfl)
  rw [hR] at k1
  clear KK AK BK BY BX KC d1 hR
  have KK := Lib.hid k1
  have AK := AK'
  have BK := BK'
  clear k1 AK' BK' L5
  go_wp2_with fail
  refine (fr_up _ n _ f _ AK.out.sa hn).mono ?_
  rintro e x7 ⟨A1, n1, c1, z1, er1, rfl, o1, l1, _, b1⟩
  have KC := Lib.hid (keepC er1 KK.out b1 o1 l1 (by rw [L6.out]; omega))
  have BX : Hid (Below D y6 x7) := Lib.hid (b1.mono (Nat.le_of_lt KK.out.lt))
  clear o1 l1 b1
  go_wp2_with fail
  refine KC.out.mono ?_
  rintro e y7 ⟨rfl, k1, d1⟩
  have BY := Lib.hid (BX.out.trans d1)
  have AK' := Lib.hid (AK.out.on BY.out)
  have BK' := Lib.hid (BK.out.trans (BY.out.mono HD.out))
  obtain ⟨R7, hR⟩ : ∃ R, R6 ++ [(Value.slice A1 n1 c1, z1)] = R := ⟨_, rfl⟩
  have L7 : Hid (R7.length = 7) := Lib.hid (by rw [← hR, List.length_append, L6.out]; rfl)
  rw [hR] at k1
  clear KK AK BK BY BX KC d1 hR
  have KK := Lib.hid k1
  have AK := AK'
  have BK := BK'
  clear k1 AK' BK' L6
  go_wp2_with fail
  refine (fr_conv _ n _ f _ m _ g _ AK.out.sa AK.out.sb hn hm).mono ?_
  rintro e x8 ⟨A1, n1, c1, z1, er1, rfl, o1, l1, _, b1⟩
  have KC := Lib.hid (keepC er1 KK.out b1 o1 l1 (by rw [L7.out]; omega))
  have BX : Hid (Below D y7 x8) := Lib.hid (b1.mono (Nat.le_of_lt KK.out.lt))
  clear o1 l1 b1
  go_wp2_with fail
  refine KC.out.mono ?_
  rintro e y8 ⟨rfl, k1, d1⟩
  have BY := Lib.hid (BX.out.trans d1)
  have AK' := Lib.hid (AK.out.on BY.out)
  have BK' := Lib.hid (BK.out.trans (BY.out.mono HD.out))
  obtain ⟨R8, hR⟩ : ∃ R, R7 ++ [(Value.slice A1 n1 c1, z1)] = R := ⟨_, rfl⟩
  have L8 : Hid (R8.length = 8) := Lib.hid (by rw [← hR, List.length_append, L7.out]; rfl)
  rw [hR] at k1
  clear KK AK BK BY BX KC d1 hR
  have KK := Lib.hid k1
  have AK := AK'
  have BK := BK'
  clear k1 AK' BK' L7
  go_wp2_with fail
  refine (fr_times _ n _ f _ AK.out.sa hn).mono ?_
  rintro e x9 ⟨A1, n1, c1, z1, er1, rfl, o1, l1, _, b1⟩
  have KC := Lib.hid (keepC er1 KK.out b1 o1 l1 (by rw [L8.out]; omega))
  have BX : Hid (Below D y8 x9) := Lib.hid (b1.mono (Nat.le_of_lt KK.out.lt))
  clear o1 l1 b1
  go_wp2_with fail
  refine KC.out.mono ?_
  rintro e y9 ⟨rfl, k1, d1⟩
  have BY := Lib.hid (BX.out.trans d1)
  have AK' := Lib.hid (AK.out.on BY.out)
  have BK' := Lib.hid (BK.out.trans (BY.out.mono HD.out))
  obtain ⟨R9, hR⟩ : ∃ R, R8 ++ [(Value.slice A1 n1 c1, z1)] = R := ⟨_, rfl⟩
  have L9 : Hid (R9.length = 9) := Lib.hid (by rw [← hR, List.length_append, L8.out]; rfl)
  rw [hR] at k1
  clear KK AK BK BY BX KC d1 hR
  have KK := Lib.hid k1
  have AK := AK'
  have BK := BK'
  clear k1 AK' BK' L8
  go_wp2_with fail
  refine (fr_deconv _ n _ f _ m _ g _ AK.out.sa AK.out.sb hn hm).mono ?_
  rintro e x10 ⟨A1, n1, c1, z1, er1, rfl, o1, l1, _, b1⟩
  have KC := Lib.hid (keepC er1 KK.out b1 o1 l1 (by rw [L9.out]; omega))
  have BX : Hid (Below D y9 x10) := Lib.hid (b1.mono (Nat.le_of_lt KK.out.lt))
  clear o1 l1 b1
  go_wp2_with fail
  refine KC.out.mono ?_
  rintro e y10 ⟨rfl, k1, d1⟩
  have BY := Lib.hid (BX.out.trans d1)
  have AK' := Lib.hid (AK.out.on BY.out)
  have BK' := Lib.hid (BK.out.trans (BY.out.mono HD.out))
  obtain ⟨R10, hR⟩ : ∃ R, R9 ++ [(Value.slice A1 n1 c1, z1)] = R := ⟨_, rfl⟩
  have L10 : Hid (R10.length = 10) := Lib.hid (by rw [← hR, List.length_append, L9.out]; rfl)
  rw [hR] at k1
  clear KK AK BK BY BX KC d1 hR
  have KK := Lib.hid k1
  have AK := AK'
  have BK := BK'
  clear k1 AK' BK' L9
  go_wp2_with fail
  refine (fr_clos _ n _ f _ AK.out.sa hn).mono ?_
  rintro e x11 ⟨A1, n1, c1, z1, er1, rfl, o1, l1, _, b1⟩
  have KC := Lib.hid (keepC er1 KK.out b1 o1 l1 (by rw [L10.out]; omega))
  have BX : Hid (Below D y10 x11) := Lib.hid (b1.mono (Nat.le_of_lt KK.out.lt))
  clear o1 l1 b1
  go_wp2_with fail
  refine KC.out.mono ?_
  rintro e y11 ⟨rfl, k1, d1⟩
  have BY := Lib.hid (BX.out.trans d1)
  have AK' := Lib.hid (AK.out.on BY.out)
  have BK' := Lib.hid (BK.out.trans (BY.out.mono HD.out))
  obtain ⟨R11, hR⟩ : ∃ R, R10 ++ [(Value.slice A1 n1 c1, z1)] = R := ⟨_, rfl⟩
  have L11 : Hid (R11.length = 11) := Lib.hid (by rw [← hR, List.length_append, L10.out]; rfl)
  rw [hR] at k1
  clear KK AK BK BY BX KC d1 hR
  have KK := Lib.hid k1
  have AK := AK'
  have BK := BK'
  clear k1 AK' BK' L10
  go_wp2_with fail
  refine (fr_dual _ n _ f _ m _ g _ AK.out.sa AK.out.sb hn hm).mono ?_
  rintro e x12 ⟨A1, n1, c1, z1, er1, rfl, o1, l1, _, b1⟩
  have KC := Lib.hid (keepC er1 KK.out b1 o1 l1 (by rw [L11.out]; omega))
  have BX : Hid (Below D y11 x12) := Lib.hid (b1.mono (Nat.le_of_lt KK.out.lt))
  clear o1 l1 b1
  go_wp2_with fail
  refine KC.out.mono ?_
  rintro e y12 ⟨rfl, k1, d1⟩
  have BY := Lib.hid (BX.out.trans d1)
  have AK' := Lib.hid (AK.out.on BY.out)
  have BK' := Lib.hid (BK.out.trans (BY.out.mono HD.out))
  obtain ⟨R12, hR⟩ : ∃ R, R11 ++ [(Value.slice A1 n1 c1, z1)] = R := ⟨_, rfl⟩
  have L12 : Hid (R12.length = 12) := Lib.hid (by rw [← hR, List.length_append, L11.out]; rfl)
  rw [hR] at k1
  clear KK AK BK BY BX KC d1 hR
  have KK := Lib.hid k1
  have AK := AK'
  have BK := BK'
  clear k1 AK' BK' L11
  go_wp2_with fail
  refine (fr_super _ n _ f _ AK.out.sa hn).mono ?_
  rintro e x13 ⟨A1, n1, c1, z1, er1, rfl, o1, l1, _, b1⟩
  have KC := Lib.hid (keepC er1 KK.out b1 o1 l1 (by rw [L12.out]; omega))
  have BX : Hid (Below D y12 x13) := Lib.hid (b1.mono (Nat.le_of_lt KK.out.lt))
  clear o1 l1 b1
  go_wp2_with fail
  refine KC.out.mono ?_
  rintro e y13 ⟨rfl, k1, d1⟩
  have BY := Lib.hid (BX.out.trans d1)
  have AK' := Lib.hid (AK.out.on BY.out)
  have BK' := Lib.hid (BK.out.trans (BY.out.mono HD.out))
  obtain ⟨R13, hR⟩ : ∃ R, R12 ++ [(Value.slice A1 n1 c1, z1)] = R := ⟨_, rfl⟩
  have L13 : Hid (R13.length = 13) := Lib.hid (by rw [← hR, List.length_append, L12.out]; rfl)
  rw [hR] at k1
  clear KK AK BK BY BX KC d1 hR
  have KK := Lib.hid k1
  have AK := AK'
  have BK := BK'
  clear k1 AK' BK' L12
  go_wp2_with fail
  refine (fr_tsum _ n _ f _ AK.out.sa hn).mono ?_
  rintro e x14 ⟨A1, n1, c1, z1, er1, rfl, o1, l1, _, b1⟩
  have KC := Lib.hid (keepC er1 KK.out b1 o1 l1 (by rw [L13.out]; omega))
  have BX : Hid (Below D y13 x14) := Lib.hid (b1.mono (Nat.le_of_lt KK.out.lt))
  clear o1 l1 b1
  go_wp2_with fail
  refine KC.out.mono ?_
  rintro e y14 ⟨rfl, k1, d1⟩
  have BY := Lib.hid (BX.out.trans d1)
  have AK' := Lib.hid (AK.out.on BY.out)
  have BK' := Lib.hid (BK.out.trans (BY.out.mono HD.out))
  obtain ⟨R14, hR⟩ : ∃ R, R13 ++ [(Value.slice A1 n1 c1, z1)] = R := ⟨_, rfl⟩
  have L14 : Hid (R14.length = 14) := Lib.hid (by rw [← hR, List.length_append, L13.out]; rfl)
  rw [hR] at k1
  clear KK AK BK BY BX KC d1 hR
  have KK := Lib.hid k1
  have AK := AK'
  have BK := BK'
  clear k1 AK' BK' L13
  go_wp2_with fail
  refine (fr_slots _ n _ f _ AK.out.sa hn).mono ?_
  rintro e x15 ⟨A1, n1, c1, z1, er1, rfl, o1, l1, _, b1⟩
  have KC := Lib.hid (keepC er1 KK.out b1 o1 l1 (by rw [L14.out]; omega))
  have BX : Hid (Below D y14 x15) := Lib.hid (b1.mono (Nat.le_of_lt KK.out.lt))
  clear o1 l1 b1
  go_wp2_with fail
  refine KC.out.mono ?_
  rintro e y15 ⟨rfl, k1, d1⟩
  have BY := Lib.hid (BX.out.trans d1)
  have AK' := Lib.hid (AK.out.on BY.out)
  have BK' := Lib.hid (BK.out.trans (BY.out.mono HD.out))
  obtain ⟨R15, hR⟩ : ∃ R, R14 ++ [(Value.slice A1 n1 c1, z1)] = R := ⟨_, rfl⟩
  have L15 : Hid (R15.length = 15) := Lib.hid (by rw [← hR, List.length_append, L14.out]; rfl)
  rw [hR] at k1
  clear KK AK BK BY BX KC d1 hR
  have KK := Lib.hid k1
  have AK := AK'
  have BK := BK'
  clear k1 AK' BK' L14
  go_wp2_with fail
  refine (fr_env _ n _ f _ AK.out.sa hn).mono ?_
  rintro e x16 ⟨A1, n1, c1, z1, er1, rfl, o1, l1, _, b1⟩
  have KC := Lib.hid (keepC er1 KK.out b1 o1 l1 (by rw [L15.out]; omega))
  have BX : Hid (Below D y15 x16) := Lib.hid (b1.mono (Nat.le_of_lt KK.out.lt))
  clear o1 l1 b1
  go_wp2_with fail
  refine KC.out.mono ?_
  rintro e y16 ⟨rfl, k1, d1⟩
  have BY := Lib.hid (BX.out.trans d1)
  have AK' := Lib.hid (AK.out.on BY.out)
  have BK' := Lib.hid (BK.out.trans (BY.out.mono HD.out))
  obtain ⟨R16, hR⟩ : ∃ R, R15 ++ [(Value.slice A1 n1 c1, z1)] = R := ⟨_, rfl⟩
  have L16 : Hid (R16.length = 16) := Lib.hid (by rw [← hR, List.length_append, L15.out]; rfl)
  rw [hR] at k1
  clear KK AK BK BY BX KC d1 hR
  have KK := Lib.hid k1
  have AK := AK'
  have BK := BK'
  clear k1 AK' BK' L15
  go_wp2_with fail
  refine (fr_shaper _ n _ f _ m _ g _ AK.out.sa AK.out.sb hn hm).mono ?_
  rintro e x17 ⟨A1, n1, c1, z1, er1, rfl, o1, l1, _, b1⟩
  have KC := Lib.hid (keepC er1 KK.out b1 o1 l1 (by rw [L16.out]; omega))
  have BX : Hid (Below D y16 x17) := Lib.hid (b1.mono (Nat.le_of_lt KK.out.lt))
  clear o1 l1 b1
  go_wp2_with fail
  refine KC.out.mono ?_
  rintro e y17 ⟨rfl, k1, d1⟩
  have BY := Lib.hid (BX.out.trans d1)
  have AK' := Lib.hid (AK.out.on BY.out)
  have BK' := Lib.hid (BK.out.trans (BY.out.mono HD.out))
  obtain ⟨R17, hR⟩ : ∃ R, R16 ++ [(Value.slice A1 n1 c1, z1)] = R := ⟨_, rfl⟩
  have L17 : Hid (R17.length = 17) := Lib.hid (by rw [← hR, List.length_append, L16.out]; rfl)
  rw [hR] at k1
  clear KK AK BK BY BX KC d1 hR
  have KK := Lib.hid k1
  have AK := AK'
  have BK := BK'
  clear k1 AK' BK' L16
  go_wp2_with fail
  obtain ⟨r, hr⟩ : ∃ x, within k 100 = x := ⟨_, rfl⟩
  have HR := Lib.hid hr
  clear hr
  refine (within_t k 100 _ (by omega) (by omega) r HR.out).mono ?_
  rintro e _ ⟨rfl, rfl⟩
  go_wp2_with fail
  refine (fr_line _ n _ f r _ AK.out.sa hn).mono ?_
  rintro e xl ⟨A1, n1, c1, z1, A2, n2, c2, z2, er1, rfl, o1, o2, ap, l1, l2, b1⟩
  have KL := Lib.hid (KK.out.on b1)
  have BX : Hid (Below D y17 xl) := Lib.hid (b1.mono (Nat.le_of_lt KK.out.lt))
  have TR := Lib.hid (two_rows (v := .slice A1 n1 c1) (v2 := .slice A2 n2 c2) ⟨A1, n1, c1, rfl, l1, o1⟩ ⟨A2, n2, c2, rfl, l2, o2⟩ ap)
  have B1 := Lib.hid b1
  obtain ⟨A0, c0, hc, hr⟩ := KL.out.is
  have of := KL.out.of
  have HC := Lib.hid hc
  have RW := Lib.hid hr
  have dl := KL.out.lt
  rw [L17.out] at hc
  have ROW : Hid (xl.ownsRow (D + 1) 27 1 (.slice A0 17 c0) 17 (R17.map (·.1))) := Lib.hid (by have := hr.row; rw [L17.out] at this; exact this)
  clear o1 o2 ap b1 hr
  go_wp2_with (at_builtin; refine wpList_pushE rfl (.tmp 160) (.tmp 163) _ rfl elemLL _ (by first | rfl | simp) (D + 1) 2 (.slice A0 17 c0) 17 (R17.map (·.1)) [.slice A1 n1 c1, .slice A2 n2 c2] rfl (by intro u hu; simp at hu; rcases hu with rfl | rfl <;> rfl) (by rfl) (by rfl) ROW.out (by omega) (by unfold maxLen; omega) (by omega) ?_; intro v' w1' o1 g1 b1; obtain ⟨A', c', rfl, hc'⟩ := own_form o1; have o1' : w1'.ownsRow (D + 1) 27 1 (.slice A' (R17.length + 2) c') (R17.length + 2) (R17.map (·.1) ++ [.slice A1 n1 c1, .slice A2 n2 c2]) := (by rw [L17.out]; exact o1); rw [← L17.out] at g1 b1; obtain ⟨k1, k2, k3, k4⟩ := KL.out.sent (N := [(.slice A1 n1 c1, z1), (.slice A2 n2 c2, z2)]) TR.out.1 TR.out.2 KK.out.lt KK.out B1.out (Nat.le_refl _) HC.out RW.out o1' g1 b1; have K3 := Lib.hid k3; have K4 := Lib.hid k4; clear k3 k4 o1 o1' g1 b1; rw [L17.out] at k1)
  have h19 : R17.length + [((Value.slice A1 n1 c1, z1) : Value × List Int), (Value.slice A2 n2 c2, z2)].length = 19 := by rw [L17.out]; rfl
  have k3 := K3.out
  have k4 := K4.out
  rw [h19] at k3 k4
  obtain ⟨w2, hw2⟩ : ∃ w2, w1'.setCell ⟨D, 0, none⟩ (.slice A' 19 c') = w2 := ⟨_, rfl⟩
  rw [hw2] at k3 k4 ⊢
  obtain ⟨R, hR⟩ : ∃ R, R17 ++ [((Value.slice A1 n1 c1, z1) : Value × List Int), (Value.slice A2 n2 c2, z2)] = R := ⟨_, rfl⟩
  have LR : Hid (R.length = 19) := Lib.hid (by rw [← hR, List.length_append]; exact h19)
  rw [hR] at k3
  have BY := Lib.hid (BX.out.trans k4)
  have AK' := Lib.hid (AK.out.on BY.out)
  have BK' := Lib.hid (BK.out.trans (BY.out.mono HD.out))
  clear KK AK BK BY BX K3 K4 k4 hR h19 hw2 k1 k2 KL TR B1 HC RW ROW L17 hc of dl
  have KK := Lib.hid k3
  have AK := AK'
  have BK := BK'
  clear k3 AK' BK'
  have SW := Lib.hid ((SF.out.below BK.out).more BK.out.size)
  refine (equal_t _ n _ f _ n _ f _ AK.out.sa SW.out hn hn true (by simp)).mono ?_
  rintro e q1 ⟨rfl, bb⟩
  have K1 := Lib.hid (KK.out.on bb)
  have A1 := Lib.hid (AK.out.on (bb.mono (Nat.le_of_lt KK.out.lt)))
  have B1 := Lib.hid (BK.out.trans (bb.mono BK.out.size))
  clear bb KK AK BK SW
  go_wp2_with fail
  have SW := Lib.hid ((SG.out.below B1.out).more B1.out.size)
  refine (equal_t _ m _ g _ m _ g _ A1.out.sb SW.out hm hm true (by simp)).mono ?_
  rintro e q2 ⟨rfl, bb⟩
  have K2 := Lib.hid (K1.out.on bb)
  have A2 := Lib.hid (A1.out.on (bb.mono (Nat.le_of_lt K1.out.lt)))
  have B2 := Lib.hid (B1.out.trans (bb.mono B1.out.size))
  clear bb K1 A1 B1 SW
  go_wp2_with fail
  refine (markedInt ga n _ (ints f) (-7) _ A2.out.a (by rw [ints_len, LF.out, Nat.mul_one])).mono ?_
  rintro e q3 ⟨rfl, bb⟩
  have K3 := Lib.hid (K2.out.on bb)
  have A3 := Lib.hid (A2.out.on (bb.mono (Nat.le_of_lt K2.out.lt)))
  have B3 := Lib.hid (B2.out.trans (bb.mono B2.out.size))
  clear bb K2 A2 B2
  go_wp2_with fail
  refine (markedInt gb m _ (ints g) (-8) _ A3.out.b (by rw [ints_len, LG.out, Nat.mul_one])).mono ?_
  rintro e wE ⟨rfl, bb⟩
  have KE := Lib.hid (K3.out.on bb)
  have AE := Lib.hid (A3.out.on (bb.mono (Nat.le_of_lt K3.out.lt)))
  have BE := Lib.hid (B3.out.trans (bb.mono B3.out.size))
  clear bb K3 A3 B3
  obtain ⟨A0, c0, hc, hr⟩ := KE.out.is
  rw [LR.out] at hc hr
  have HC := Lib.hid hc
  have HRW := Lib.hid hr
  have HE : Hid (∀ i, i < 19 → ∀ b, (ansV R i).ownBlock = some b → b < wE.heap.size) := Lib.hid fun i hi b hb => ((hr.own i (by omega) (by rw [LR.out]; exact hi)).lt b hb).2
  have dE := KE.out.lt
  obtain ⟨D2, hD2⟩ : ∃ D2, wE.heap.size = D2 + 1 := ⟨wE.heap.size - 1, by omega⟩
  have HD2 := Lib.hid hD2
  have DD : Hid (D ≤ D2) := Lib.hid (show D ≤ D2 by omega)
  clear hr hD2
  go_wp2_with fail
  clear hc
  go_loopw [187, 16] (fun vi vq wr => ∃ (j : Nat) (Q : List (Value × List Int)), j ≤ 19 ∧ vi = .int .i64 (j : Int) ∧ Hid (Q.length = j) ∧ Hid (∀ i, i < j → ansZ Q i = ansZ R i) ∧ Hid (Rows wr D2 vq Q 0) ∧ Hid (Below wE.heap.size wE wr)) (fun vi _ _ => 19 - (intOf vi).toNat)
  case atStart => exact ⟨0, [], by omega, rfl, Lib.hid rfl, Lib.hid (fun i hi => absurd hi (by omega)), Lib.hid (Rows.nil _ _), Lib.hid (Below.refl _ _)⟩
  case round =>
    obtain ⟨j, Q, hj, rfl, hQL, hQZ, hQ, hB⟩ := hrel
    have hj0 : (0 : Int) ≤ j := by omega
    by_cases hlt : j < 19
    · have hnI : (j : Int) < 19 := by omega
      have RW := Lib.hid (HRW.out.on hB.out)
      obtain ⟨bq, oq, rfl, hbq, cq⟩ := RW.out.at_ LR.out hlt
      obtain ⟨Al, nl, cl, hv, hnl, hol⟩ := RW.out.own j (by omega) (by rw [LR.out]; exact hlt)
      rw [hv] at cq
      have OL := Lib.hid hol
      obtain ⟨zs, hzs⟩ : ∃ zs, ansZ R j = zs := ⟨_, rfl⟩
      have HZS := Lib.hid hzs
      rw [hzs] at OL
      have hE2 : Hid (D2 + 1 ≤ wr.heap.size) := Lib.hid (by have := hB.out.size; have := HD2.out; omega)
      clear hol hv hzs
      go_wp2_with fail
      refine (cloneInt Al nl cl (ints zs) _ (Sl.of_own OL.out) (ints_one _) (by omega)).mono ?_
      rintro e wc ⟨v, rfl, ow, bc, zc⟩
      obtain ⟨Av, cv, rfl, hcv⟩ := own_form ow
      have IV : Hid (IsRow wc wr.heap.size (.slice Av nl cv) zs) := Lib.hid ⟨Av, nl, cv, rfl, hnl, ow⟩
      have BC := Lib.hid bc
      have RQ : Hid (wc.ownsRow (D2 + 1) 27 1 u16 j (Q.map (·.1))) := Lib.hid (by have := (hQ.out.on bc).row; rw [hQL.out] at this; exact this)
      have zC : D2 + 1 ≤ wc.heap.size := Nat.le_trans hE2.out zc
      have BEc := Lib.hid (hB.out.trans (bc.mono hB.out.size))
      clear ow bc zc cq
      go_wp2_with (at_builtin; refine wpList_pushE rfl (.tmp 191) (.tmp 194) _ rfl elemLL _ (by first | rfl | simp) (D2 + 1) 1 u16 j (Q.map (·.1)) [.slice Av nl cv] rfl (by intro u hu; simp at hu; subst hu; rfl) (by rfl) (by rfl) RQ.out zC (by unfold maxLen; omega) (by omega) ?_; intro v' w5 o1 g1 b1; have RN5 := Lib.hid (hQ.out.fresh hE2.out BC.out IV.out (by rw [hQL.out]; exact o1) g1 b1); have B5 := Lib.hid ((BEc.out.alloc BEc.out.size (.cells #[.slice Av nl cv] 27)).grown g1 (by have := BEc.out.size; simp; omega) (fun b hb => by have := (RQ.out.lt b hb).1; have := HD2.out; omega)); clear o1 g1 b1)
      go_roundw
      case rel => exact ⟨j + 1, Q ++ [(.slice Av nl cv, zs)], by omega, by go_num, Lib.hid (by rw [List.length_append, hQL.out]; rfl), Lib.hid (fun i hi => by
        rcases Nat.lt_or_ge i j with h | h
        · rw [ansZ_app1 (by rw [hQL.out]; exact h)]; exact hQZ.out i h
        · have : i = j := by omega
          subst this
          have e := ansZ_last (R := Q) (x := (Value.slice Av nl cv, zs))
          rw [hQL.out] at e
          rw [e]; exact HZS.out.symm), RN5, B5⟩
      case measure => simp [intOf]; omega
    · have hj19 : j = 19 := by omega
      subst hj19
      have hq := hQ.out.row
      rw [hQL.out] at hq
      obtain ⟨Aq, cq, rfl, hcq⟩ := own_form hq
      have RW := Lib.hid (HRW.out.on hB.out)
      have AW := Lib.hid (AE.out.on (hB.out.mono (by have := DD.out; have := HD2.out; omega)))
      have BW := Lib.hid (BE.out.trans (hB.out.mono BE.out.size))
      have CW : Hid (wr.cell? ⟨D, 0, none⟩ = some (.slice A0 19 c0)) := Lib.hid ((hB.out.cell (p := ⟨D, 0, none⟩) KE.out.lt).trans HC.out)
      have IN : Hid (W.heap.size ≤ ga ∧ W.heap.size ≤ gb ∧ ga < D ∧ gb < D ∧ ga ≠ gb) := Lib.hid ⟨(AW.out.a.lt ga rfl).1, (AW.out.b.lt gb rfl).1, AW.out.la, AW.out.lb, AW.out.ne⟩
      clear hq
      go_wp2_with fail
      refine (spoilInt W.heap.size _ n (ints f) 5 _ AW.out.ra).mono ?_
      rintro e w7 ⟨rfl, g7⟩
      have G7 : Hid (wr.grownBy w7 (some ga)) := Lib.hid g7
      have R7 := Lib.hid (RW.out.aside G7.out (fun b hb => by injection hb with hb; have := IN.out; omega))
      have Q7 := Lib.hid (hQ.out.aside G7.out (fun b hb => by injection hb with hb; have := IN.out; have := DD.out; omega))
      have O7 := Lib.hid (AW.out.rb.kept G7.out (.inr (fun e => by injection e with e; exact IN.out.2.2.2.2 e.symm)))
      have C7 := Lib.hid (G7.out.cell CW.out (by intro e; injection e with e; have := IN.out; have e' : D = ga := e; omega))
      have B7 := Lib.hid (BW.out.grown G7.out BW.out.size (fun b hb => by injection hb with hb; have := IN.out; omega))
      clear g7 RW AW BW CW G7
      go_wp2_with fail
      refine (spoilInt W.heap.size _ m (ints g) 6 _ O7.out).mono ?_
      rintro e w8 ⟨rfl, g8⟩
      have G8 : Hid (w7.grownBy w8 (some gb)) := Lib.hid g8
      have R8 := Lib.hid (R7.out.aside G8.out (fun b hb => by injection hb with hb; have := IN.out; omega))
      have Q8 := Lib.hid (Q7.out.aside G8.out (fun b hb => by injection hb with hb; have := IN.out; have := DD.out; omega))
      have c8 := G8.out.cell C7.out (by intro e; injection e with e; have := IN.out; have e' : D = gb := e; omega)
      have B8 := Lib.hid (B7.out.grown G8.out B7.out.size (fun b hb => by injection hb with hb; have := IN.out; omega))
      clear g8 R7 Q7 C7 B7 G8 O7
      go_wp2_with fail
      clear c8
      go_loopw [203] (fun vi w => ∃ j : Nat, j ≤ 19 ∧ vi = .int .i64 (j : Int) ∧ Hid (Rows w D (.slice A0 19 c0) R j) ∧ Hid (Rows w D2 (.slice Aq 19 cq) Q 0) ∧ Hid (Below W.heap.size W w)) (fun vi _ => 19 - (intOf vi).toNat)
      case atStart => exact ⟨0, by omega, rfl, R8, Q8, B8⟩
      case round =>
        clear R8 Q8 B8 hQ hB
        obtain ⟨j, hj, rfl, hR, hQ, hB⟩ := hrel
        have hj0 : (0 : Int) ≤ j := by omega
        by_cases hlt : j < 19
        · have hnI : (j : Int) < 19 := by omega
          obtain ⟨bq, oq, rfl, hbq, ca⟩ := hR.out.at_ LR.out hlt
          obtain ⟨bw, ow, rfl, hbw, cb⟩ := hQ.out.at_ hQL.out hlt
          obtain ⟨Al, nl, cl, hv, hnl, hol⟩ := hR.out.own j (Nat.le_refl _) (by rw [LR.out]; exact hlt)
          obtain ⟨Am, nm, cm, hv2, hnm, hom⟩ := hQ.out.own j (Nat.zero_le _) (by rw [hQL.out]; exact hlt)
          rw [hQZ.out j hlt] at hom
          rw [hv] at ca
          rw [hv2] at cb
          obtain ⟨zs, hzs⟩ : ∃ zs, ansZ R j = zs := ⟨_, rfl⟩
          rw [hzs] at hol hom
          have OL := Lib.hid hol
          have OM := Lib.hid hom
          have HV := Lib.hid hv
          clear hol hom hv hv2 hzs
          go_wp2_with fail
          refine (equal_t Al nl cl zs Am nm cm zs _ (Sl.of_own OL.out) (Sl.of_own OM.out) (by omega) (by omega) true (by simp)).mono ?_
          rintro e w9 ⟨rfl, bb⟩
          have BB := Lib.hid bb
          have OL9 := Lib.hid (own_onR OL.out bb)
          clear bb ca cb
          go_wp2_with fail
          refine (spoilInt (D + 1) (.slice Al nl cl) nl (ints zs) 9 _ OL9.out).mono ?_
          rintro e w10 ⟨rfl, g10⟩
          have R10 := Lib.hid ((hR.out.on BB.out).spoil (by rw [LR.out]; exact hlt) (by rw [HV.out]; exact g10))
          have Q10 := Lib.hid ((hQ.out.on BB.out).aside g10 (fun b hb => by have := HE.out j hlt b (by rw [HV.out]; exact hb); have := HD2.out; omega))
          have B9 := Lib.hid (hB.out.trans (BB.out.mono hB.out.size))
          have B10 := Lib.hid (B9.out.grown g10 B9.out.size (fun b hb => by have := (OL9.out.lt b hb).1; have := HD.out; omega))
          clear g10
          go_wp2_with fail
          go_roundw
          case rel => exact ⟨j + 1, by omega, by go_num, R10, Q10, B10⟩
          case measure => simp [intOf]; omega
        · have hj19 : j = 19 := by omega
          subst hj19
          go_wp2_with fail
          go_ret
          exact ⟨rfl, hB.out⟩
end Go.Proofs.Ytpifknmoimlpoaa
