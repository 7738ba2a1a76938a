/- LeaseTurns: the last lease of a holder counts, leases of different holders commute, and fewer leases are live later. -/
import Derived.Test.YtjgkcokffpbgnaaTakeA
import Derived.Test.YtjgkcokffpbgnaaTurnsL
import Derived.Test.YtjgkcokffpbgnaaEqualL
set_option linter.unusedVariables false
namespace Go.Proofs.Ytjgkcokffpbgnaa
open Go.RowKit
theorem take_nil (x0 x1 x2 : Int) (W : World) :
    Calls Try.prog 14 #[.slice none 0 0, .agg #[.int .i64 x0, .int .i64 x1, .int .i64 x2]] W fun e w' => (∃ A' n' c' er, e = .returned (.tuple #[.slice A' n' c', .int .i64 er])) ∧ Below W.heap.size W w' := by
  by_cases h : oneOk x0 x1 x2
  · refine (take_ok none 0 0 [] (x0, x1, x2) W rfl trivial h Sl.nil).mono ?_
    rintro e w1 ⟨A1, c1, rfl, s1, l1, b1⟩
    exact ⟨⟨_, _, _, _, rfl⟩, b1⟩
  · refine (take_arg none 0 0 [] x0 x1 x2 W Sl.nil (by omega) rfl h).mono ?_
    rintro e w1 ⟨rfl, b1⟩
    exact ⟨⟨_, _, _, _, rfl⟩, b1⟩
theorem lit_lease : leaseT [(2, 0, 0)] := ⟨by decide, fun b hb => by simp at hb, trivial⟩
theorem live_sub (zs : List Int) (n : Nat) {a b : Int} (h : a ≤ b) (j : Nat) (hj : j < liveC zs b n) : ∃ k, k < liveC zs a n ∧ ∀ q, q < 3 → fd (liveL zs a n) k q = fd (liveL zs b n) j q := by
  obtain ⟨i, i1, i2, i3⟩ := live_in zs b n j hj
  obtain ⟨k, k1, k2⟩ := live_has zs a n i i1 (by omega)
  exact ⟨k, k1, fun q hq => by rw [k2 q hq, i3 q hq]⟩
set_option maxRecDepth 100000 in
set_option maxHeartbeats 6400000 in
theorem leaseTurns_walk (A : Option Addr) (n c : Nat) (zs : List Int) (x0 x1 x2 y0 y1 y2 : Int) (a b : Int) (W : World) (w0 : In3 W A n c zs) (w1 : -9223372036854775808 ≤ a ∧ a ≤ 9223372036854775807) (w2 : -9223372036854775808 ≤ b ∧ b ≤ 9223372036854775807) :
    Calls Try.prog 6 #[.slice A n c, .agg #[.int .i64 x0, .int .i64 x1, .int .i64 x2], .agg #[.int .i64 y0, .int .i64 y1, .int .i64 y2], .int .i64 a, .int .i64 b] W fun e w' => e = .returned (.bool true) ∧ Below W.heap.size W w' := by
  obtain ⟨s0, l0, r0, _⟩ := w0
  obtain ⟨mn, hmn⟩ : ∃ mn, min a b = mn := ⟨_, rfl⟩
  obtain ⟨mx, hmx⟩ : ∃ mx, max a b = mx := ⟨_, rfl⟩
  have MM : Hid (mn ≤ mx) := by show mn ≤ mx; omega
  obtain ⟨bx, hbx⟩ : ∃ bx : Obj, bx = .cells #[.int .i64 x0, .int .i64 x1, .int .i64 x2] 27 := ⟨_, rfl⟩
  obtain ⟨bY, hby⟩ : ∃ bY : Obj, bY = .cells #[.int .i64 y0, .int .i64 y1, .int .i64 y2] 27 := ⟨_, rfl⟩
  have S0 := Lib.hid (slMore (slMore s0 bx) bY)
  have B0 := Lib.hid (((Below.refl W.heap.size W).alloc (Nat.le_refl _) bx).alloc (by simp) bY)
  have hVz : ((W.alloc bx).alloc bY).heap.size = W.heap.size + 2 := by simp
  have d0 : ((W.alloc bx).alloc bY).cell? ⟨W.heap.size, 0, none⟩ = some (.int .i64 x0) := by rw [World.cell?_alloc_lt _ _ _ (by simp), hbx]; exact World.cell?_alloc_at _ _ _ _ rfl
  have d1 : ((W.alloc bx).alloc bY).cell? ⟨W.heap.size, 1, none⟩ = some (.int .i64 x1) := by rw [World.cell?_alloc_lt _ _ _ (by simp), hbx]; exact World.cell?_alloc_at _ _ _ _ rfl
  have d2 : ((W.alloc bx).alloc bY).cell? ⟨W.heap.size, 2, none⟩ = some (.int .i64 x2) := by rw [World.cell?_alloc_lt _ _ _ (by simp), hbx]; exact World.cell?_alloc_at _ _ _ _ rfl
  have d3 : ((W.alloc bx).alloc bY).cell? ⟨W.heap.size + 1, 0, none⟩ = some (.int .i64 y0) := by rw [hby]; exact World.cell?_alloc_at _ _ _ _ (by simp)
  have d4 : ((W.alloc bx).alloc bY).cell? ⟨W.heap.size + 1, 1, none⟩ = some (.int .i64 y1) := by rw [hby]; exact World.cell?_alloc_at _ _ _ _ (by simp)
  have d5 : ((W.alloc bx).alloc bY).cell? ⟨W.heap.size + 1, 2, none⟩ = some (.int .i64 y2) := by rw [hby]; exact World.cell?_alloc_at _ _ _ _ (by simp)
  obtain ⟨V, hV⟩ : ∃ V, (W.alloc bx).alloc bY = V := ⟨_, rfl⟩
  rw [hV] at S0 B0 d0 d1 d2 d3 d4 d5 hVz
  have VZ := Lib.hid hVz
  have C : Hid (∀ w', Below V.heap.size V w' → (w'.cell? ⟨W.heap.size, 0, none⟩ = some (.int .i64 x0) ∧ w'.cell? ⟨W.heap.size, 1, none⟩ = some (.int .i64 x1) ∧ w'.cell? ⟨W.heap.size, 2, none⟩ = some (.int .i64 x2)) ∧ w'.cell? ⟨W.heap.size + 1, 0, none⟩ = some (.int .i64 y0) ∧ w'.cell? ⟨W.heap.size + 1, 1, none⟩ = some (.int .i64 y1) ∧ w'.cell? ⟨W.heap.size + 1, 2, none⟩ = some (.int .i64 y2)) :=
    Lib.hid fun w' hb => ⟨⟨(hb.cell (p := ⟨W.heap.size, 0, none⟩) (by rw [hVz]; show W.heap.size < W.heap.size + 2; omega)).trans d0, (hb.cell (p := ⟨W.heap.size, 1, none⟩) (by rw [hVz]; show W.heap.size < W.heap.size + 2; omega)).trans d1, (hb.cell (p := ⟨W.heap.size, 2, none⟩) (by rw [hVz]; show W.heap.size < W.heap.size + 2; omega)).trans d2⟩, (hb.cell (p := ⟨W.heap.size + 1, 0, none⟩) (by rw [hVz]; exact Nat.lt_succ_self _)).trans d3, (hb.cell (p := ⟨W.heap.size + 1, 1, none⟩) (by rw [hVz]; exact Nat.lt_succ_self _)).trans d4, (hb.cell (p := ⟨W.heap.size + 1, 2, none⟩) (by rw [hVz]; exact Nat.lt_succ_self _)).trans d5⟩
  clear s0 d0 d1 d2 d3 d4 d5 hVz
  have HMN := Lib.hid hmn
  have HMX := Lib.hid hmx
  clear hmn hmx
  go_enter Try.func6, Try.ntmps6
  go_wp2_with fail
  rw [← hbx, ← hby, hV]
  clear hbx hby hV
  refine (take_ok _ 1 1 [(2, 0, 0)] (1, 0, 5) _ rfl lit_lease (by decide) (Sl.built_ V (ints [2, 0, 0]) 27 (W.heap.size + 1 + 1) (by rw [VZ.out]) rfl)).mono ?_
  rintro e w1 ⟨A1, c1, rfl, s1, l1, bb1⟩
  have B1 : Hid (Below V.heap.size V w1) := Lib.hid (belLit1 (Below.refl V.heap.size V) bb1)
  have SL1 := Lib.hid (show Sl w1 w1.heap.size A1 (2 * 3) (ints [1, 0, 5, 2, 0, 0]) from s1)
  rw [show (takeT [(2, 0, 0)] (1, 0, 5)).length = 2 from rfl]
  clear s1 bb1
  go_wp2_with fail
  refine (equalL_same A1 _ 2 c1 2 [1, 0, 5, 2, 0, 0] _ w1.heap.size _ (SL1.out.alloc (Nat.le_refl _) _) (Sl.built_ w1 (ints [1, 0, 5, 2, 0, 0]) 27 _ rfl rfl) (by omega)).mono ?_
  rintro e w2 ⟨rfl, bb2⟩
  have B2 : Hid (Below V.heap.size V w2) := Lib.hid (belLit1 B1.out bb2)
  have S2 : Hid (Sl w2 w2.heap.size A (n * 3) (ints zs)) := Lib.hid (S0.out.on B2.out)
  clear bb2
  obtain ⟨⟨d0, d1, d2⟩, d3, d4, d5⟩ := C.out w2 B2.out
  go_wp2_with fail
  clear d0 d1 d2 d3 d4 d5
  by_cases h0 : lfirst zs n = 0 ∧ oneOk x0 x1 x2
  case neg =>
    have H0 := Lib.hid h0
    have key : Hid (∃ er, (er != 0) = true ∧ Calls Try.prog 14 #[.slice A n c, .agg #[.int .i64 x0, .int .i64 x1, .int .i64 x2]] w2 fun e w' => e = .returned (.tuple #[.slice none 0 0, .int .i64 er]) ∧ Below w2.heap.size w2 w') := by
      show ∃ er, _
      by_cases h1 : lfirst zs n = 0
      · exact ⟨1, rfl, take_arg A n c zs x0 x1 x2 _ S2.out (by omega) h1 fun h2 => H0.out ⟨h1, h2⟩⟩
      · exact ⟨_, by simpa using h1, take_bad A n c zs x0 x1 x2 _ _ S2.out (by omega) rfl h1⟩
    clear h0
    obtain ⟨er, hne, hcall⟩ := key.out
    have HCL := Lib.hid hcall
    clear hcall
    refine HCL.out.mono ?_
    rintro e w3 ⟨rfl, b3⟩
    have B3 := Lib.hid (belLit0 B2.out b3)
    clear b3
    obtain ⟨⟨d0, d1, d2⟩, d3, d4, d5⟩ := C.out w3 B3.out
    go_wp2_with fail
    clear d0 d1 d2 d3 d4 d5
    refine (take_nil x0 x1 x2 _).mono ?_
    rintro e w4 ⟨⟨A4, n4, c4, e4, rfl⟩, b4⟩
    have B4 := Lib.hid (B0.out.trans ((belLit0 B3.out b4).mono B0.out.size))
    clear b4
    go_wp2_with fail
    go_ret
    exact ⟨rfl, B4.out⟩
  obtain ⟨l, hl, hfl⟩ := flatT_of n zs S2.out.int_len
  have HL := Lib.hid hl
  have LT : Hid (leaseT l) := Lib.hid ((leaseT_iff l).2 (by rw [hfl, hl]; exact h0.1))
  have HX := Lib.hid h0.2
  rw [← hfl] at S2
  clear hl hfl h0
  refine (take_ok A n c l (x0, x1, x2) _ HL.out LT.out HX.out S2.out).mono ?_
  rintro e w3 ⟨A3, c3, rfl, s3, l3, b3⟩
  have B3 := Lib.hid (belLit0 B2.out b3)
  have Z3 := Lib.hid (slLit0 S2.out b3)
  have LP : Hid (leaseT (takeT l (x0, x1, x2))) := Lib.hid (leaseT_take HX.out LT.out)
  have TW := Lib.hid (takeT_twice l (x0, x1, x2))
  have SW := Lib.hid (takeT_swap l (x0, x1, x2) (y0, y1, y2))
  obtain ⟨ps, hps⟩ : ∃ ps, takeT l (x0, x1, x2) = ps := ⟨_, rfl⟩
  rw [hps] at s3 l3 LP TW SW ⊢
  obtain ⟨m, hm⟩ : ∃ m, ps.length = m := ⟨_, rfl⟩
  rw [hm] at s3 l3 ⊢
  have HM := Lib.hid hm
  have m8 : m ≤ 8 := by rw [← hm]; exact leases_8 (leaseT_idx LP.out)
  have S3 := Lib.hid s3
  clear b3 s3 hm hps
  obtain ⟨⟨d0, d1, d2⟩, d3, d4, d5⟩ := C.out w3 B3.out
  go_wp2_with fail
  clear d0 d1 d2 d3 d4 d5
  refine (take_ok A3 m c3 ps (x0, x1, x2) _ HM.out LP.out HX.out S3.out).mono ?_
  rintro e w4 ⟨A4, c4, rfl, s4, l4, b4⟩
  rw [TW.out] at s4 l4 ⊢
  rw [HM.out] at s4 l4 ⊢
  have B4 := Lib.hid (belLit0 B3.out b4)
  have Z4 := Lib.hid (slLit0 Z3.out b4)
  have P4 := Lib.hid (slLit0 S3.out b4)
  have S4 := Lib.hid s4
  clear b4 s4
  go_wp2_with fail
  refine (equalL_same A3 A4 m c3 c4 (flatT ps) _ _ _ P4.out S4.out (by omega)).mono ?_
  rintro e w5 ⟨rfl, b5⟩
  have B5 := Lib.hid (belLit0 B4.out b5)
  have Z5 := Lib.hid (slLit0 Z4.out b5)
  have P5 := Lib.hid (slLit0 P4.out b5)
  clear b5
  obtain ⟨⟨d0, d1, d2⟩, d3, d4, d5⟩ := C.out w5 B5.out
  go_wp2_with fail
  clear d0 d1 d2 d3 d4 d5
  by_cases hy : oneOk y0 y1 y2
  case neg =>
    have HY := Lib.hid hy
    have LP0 := Lib.hid ((leaseT_iff ps).1 LP.out)
    have L0 := Lib.hid ((leaseT_iff l).1 LT.out)
    rw [HM.out] at LP0
    rw [HL.out] at L0
    clear hy
    refine (take_arg A3 m c3 (flatT ps) y0 y1 y2 _ P5.out (by omega) LP0.out HY.out).mono ?_
    rintro e w6 ⟨rfl, b6⟩
    have B6 := Lib.hid (belLit0 B5.out b6)
    have Z6 := Lib.hid (slLit0 Z5.out b6)
    clear b6
    obtain ⟨⟨d0, d1, d2⟩, d3, d4, d5⟩ := C.out w6 B6.out
    go_wp2_with fail
    clear d0 d1 d2 d3 d4 d5
    refine (take_arg A n c (flatT l) y0 y1 y2 _ Z6.out (by omega) L0.out HY.out).mono ?_
    rintro e w7 ⟨rfl, b7⟩
    have B7 := Lib.hid (B0.out.trans ((belLit0 B6.out b7).mono B0.out.size))
    clear b7
    go_wp2_with fail
    go_ret
    exact ⟨rfl, B7.out⟩
  have HY := Lib.hid hy
  clear hy
  refine (take_ok A3 m c3 ps (y0, y1, y2) _ HM.out LP.out HY.out P5.out).mono ?_
  rintro e w6 ⟨A6, c6, rfl, s6, l6, b6⟩
  have LU : Hid (leaseT (takeT ps (y0, y1, y2))) := Lib.hid (leaseT_take HY.out LP.out)
  obtain ⟨us, hus⟩ : ∃ us, takeT ps (y0, y1, y2) = us := ⟨_, rfl⟩
  rw [hus] at s6 l6 LU SW ⊢
  obtain ⟨k, hk⟩ : ∃ k, us.length = k := ⟨_, rfl⟩
  have HK := Lib.hid hk
  have k8 : k ≤ 8 := by rw [← hk]; exact leases_8 (leaseT_idx LU.out)
  rw [hk] at s6 l6 ⊢
  have B6 := Lib.hid (belLit0 B5.out b6)
  have Z6 := Lib.hid (slLit0 Z5.out b6)
  have U6 := Lib.hid s6
  clear b6 s6 hus hk
  obtain ⟨⟨d0, d1, d2⟩, d3, d4, d5⟩ := C.out w6 B6.out
  go_wp2_with fail
  clear d0 d1 d2 d3 d4 d5
  refine (take_ok A n c l (y0, y1, y2) _ HL.out LT.out HY.out Z6.out).mono ?_
  rintro e w7 ⟨A7, c7, rfl, s7, l7, b7⟩
  have LV : Hid (leaseT (takeT l (y0, y1, y2))) := Lib.hid (leaseT_take HY.out LT.out)
  obtain ⟨vs, hvs⟩ : ∃ vs, takeT l (y0, y1, y2) = vs := ⟨_, rfl⟩
  rw [hvs] at s7 l7 LV SW ⊢
  obtain ⟨v, hv⟩ : ∃ v, vs.length = v := ⟨_, rfl⟩
  have HV := Lib.hid hv
  rw [hv] at s7 l7 ⊢
  have B7 := Lib.hid (belLit0 B6.out b7)
  have U7 := Lib.hid (slLit0 U6.out b7)
  have V7 := Lib.hid s7
  clear b7 s7 hvs hv
  obtain ⟨⟨d0, d1, d2⟩, d3, d4, d5⟩ := C.out w7 B7.out
  go_wp2_with fail
  clear d0 d1 d2 d3 d4 d5
  refine (take_ok A7 v c7 vs (x0, x1, x2) _ HV.out LV.out HX.out V7.out).mono ?_
  rintro e w8 ⟨A8, c8, rfl, s8, l8, b8⟩
  have B8 := Lib.hid (belLit0 B7.out b8)
  have U8 := Lib.hid (slLit0 U7.out b8)
  have S8 := Lib.hid s8
  clear b8 s8
  obtain ⟨⟨d0, d1, d2⟩, d3, d4, d5⟩ := C.out w8 B8.out
  have U0 := Lib.hid ((leaseT_iff us).1 LU.out)
  rw [HK.out] at U0
  have LS := Lib.hid (live_sub (flatT us) k MM.out)
  have lm := live_le (flatT us) mn k
  have lx := live_le (flatT us) mx k
  have EQ : Hid (x0 ≠ y0 → takeT vs (x0, x1, x2) = us) := Lib.hid fun h => (SW.out h).symm
  generalize takeT vs (x0, x1, x2) = ws at *
  have hmn := HMN.out
  have hmx := HMX.out
  by_cases hxy : x0 = y0
  case' pos =>
    have e1 : (x0 != y0) = false := by simpa using hxy
    clear hxy
    go_wp2_with fail
    clear d0 d1 d2 d3 d4 d5
    have B9 := B8
    have U9 := U8
  case' neg =>
    have e1 : (x0 != y0) = true := by simpa using hxy
    have ew := EQ.out hxy
    rw [ew] at S8 l8 ⊢
    rw [HK.out] at S8 l8 ⊢
    clear hxy ew
    go_wp2_with fail
    clear d0 d1 d2 d3 d4 d5
    refine (equalL_same A6 A8 k c6 c8 (flatT us) _ _ _ U8.out S8.out (by omega)).mono ?_
    rintro e w9 ⟨rfl, b9⟩
    have B9 := Lib.hid (belLit0 B8.out b9)
    have U9 := Lib.hid (slLit0 U8.out b9)
    clear b9
    go_wp2_with fail
  all_goals
    refine (live_ok A6 k c6 (flatT us) mn _ U9.out (by omega) U0.out).mono ?_
    rintro e w10 ⟨As, cs, rfl, s10, l10, b10⟩
    have B10 := Lib.hid (belLit0 B9.out b10)
    have U10 := Lib.hid (slLit0 U9.out b10)
    have S10 := Lib.hid s10
    clear b10 s10
    go_wp2_with fail
    refine (live_ok A6 k c6 (flatT us) mx _ (slMore U10.out _) (by omega) U0.out).mono ?_
    rintro e w11 ⟨At, ct, rfl, s11, l11, b11⟩
    have cb : Hid (w11.cell? ⟨w10.heap.size, 0, none⟩ = some (.slice As (liveC (flatT us) mn k) cs)) := Lib.hid ((b11.cell (p := ⟨w10.heap.size, 0, none⟩) (by simp)).trans (World.cell?_alloc_at _ _ _ _ rfl))
    have hlt : w10.heap.size < w11.heap.size := by have := b11.size; simp at this; omega
    have B11 := Lib.hid (belLit1 B10.out b11)
    have S11 := Lib.hid (slLit1 S10.out b11)
    have T11 := Lib.hid s11
    clear b11 s11
    go_wp2_with fail
    refine (noneL As At (liveC (flatT us) mn k) cs (liveC (flatT us) mx k) ct w10.heap.size _ _ w11 S11.out T11.out (by omega) (by omega) hlt cb.out LS.out).mono ?_
    rintro e w12 ⟨rfl, b12⟩
    have B12 := Lib.hid (B0.out.trans ((belLit0 B11.out b12).mono B0.out.size))
    clear b12
    go_wp2_with fail
    go_ret
    exact ⟨rfl, B12.out⟩
end Go.Proofs.Ytjgkcokffpbgnaa
