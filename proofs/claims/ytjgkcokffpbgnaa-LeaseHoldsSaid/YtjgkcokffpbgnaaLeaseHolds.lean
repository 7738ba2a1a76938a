/- LeaseHolds: positions protected by a live lease are not truncated, and expired leases have no effect. -/
import Derived.Test.YtjgkcokffpbgnaaTakeA
import Derived.Test.YtjgkcokffpbgnaaKit0
set_option linter.unusedVariables false
namespace Go.Proofs.Ytjgkcokffpbgnaa
open Go.RowKit
theorem not_cut {l : List (Int × Int × Int)} {x : Int × Int × Int} {now to : Int} (h1 : now < x.2.1) (h2 : x.2.2 < to) : ¬ cutOk (flatT (takeT l x)) (takeT l x).length now to := fun h => by
  obtain ⟨i, hi⟩ := List.getElem?_of_mem (takeT_in l x)
  obtain ⟨e0, e1, e2⟩ := fd_at hi
  have := h i (List.getElem?_eq_some_iff.1 hi).1 (by rw [e1]; exact h1)
  rw [e2] at this
  omega
theorem lit_first : lfirst [0, 5, 2] 1 = 0 := by decide +kernel
theorem lit_cut4 : cutR [0, 5, 2] 1 4 3 = (0, [], 7) := by
  refine if_neg fun h => ?_
  have := h 0 (by omega) (by decide)
  exact absurd this (by decide)
theorem lit_cut5 : cutR [0, 5, 2] 1 5 3 = (0, [], 0) := by
  refine (if_pos fun i hi h => ?_).trans (by decide +kernel)
  obtain rfl : i = 0 := by omega
  exact absurd h (by decide)
set_option maxRecDepth 100000 in
set_option maxHeartbeats 3200000 in
theorem leaseHolds_walk (A : Option Addr) (n c : Nat) (zs : List Int) (x0 x1 x2 : Int) (now to : Int) (W : World) (w0 : In3 W A n c zs) (w1 : -9223372036854775808 ≤ now ∧ now ≤ 9223372036854775807) (w2 : -9223372036854775808 ≤ to ∧ to ≤ 9223372036854775807) :
    Calls Try.prog 5 #[.slice A n c, .agg #[.int .i64 x0, .int .i64 x1, .int .i64 x2], .int .i64 now, .int .i64 to] W fun e w' => e = .returned (.bool true) ∧ Below W.heap.size W w' := by
  obtain ⟨s0, l0, r0, _⟩ := w0
  obtain ⟨bx, hbx⟩ : ∃ bx : Obj, bx = .cells #[.int .i64 x0, .int .i64 x1, .int .i64 x2] 27 := ⟨_, rfl⟩
  have S0 := Lib.hid (slMore s0 bx)
  have B0 := Lib.hid ((Below.refl W.heap.size W).alloc (Nat.le_refl _) bx)
  have d0 : (W.alloc bx).cell? ⟨W.heap.size, 0, none⟩ = some (.int .i64 x0) := by rw [hbx]; exact World.cell?_alloc_at _ _ _ _ rfl
  have d1 : (W.alloc bx).cell? ⟨W.heap.size, 1, none⟩ = some (.int .i64 x1) := by rw [hbx]; exact World.cell?_alloc_at _ _ _ _ rfl
  have d2 : (W.alloc bx).cell? ⟨W.heap.size, 2, none⟩ = some (.int .i64 x2) := by rw [hbx]; exact World.cell?_alloc_at _ _ _ _ rfl
  have hz : W.heap.size + 1 ≤ (W.alloc bx).heap.size := by simp
  have hVz : (W.alloc bx).heap.size = W.heap.size + 1 := by simp
  obtain ⟨V, hV⟩ : ∃ V, W.alloc bx = V := ⟨_, rfl⟩
  rw [hV] at S0 B0 d0 d1 d2 hz hVz
  have VZ := Lib.hid hVz
  have C : Hid (∀ w', Below V.heap.size V w' → w'.cell? ⟨W.heap.size, 0, none⟩ = some (.int .i64 x0) ∧ w'.cell? ⟨W.heap.size, 1, none⟩ = some (.int .i64 x1) ∧ w'.cell? ⟨W.heap.size, 2, none⟩ = some (.int .i64 x2)) := Lib.hid fun w' hb => ⟨(hb.cell (p := ⟨W.heap.size, 0, none⟩) hz).trans d0, (hb.cell (p := ⟨W.heap.size, 1, none⟩) hz).trans d1, (hb.cell (p := ⟨W.heap.size, 2, none⟩) hz).trans d2⟩
  clear s0 d0 d1 d2 hVz
  go_enter Try.func5, Try.ntmps5
  go_wp2_with fail
  rw [← hbx, hV]
  clear hbx hV
  refine (cut_any _ 1 _ [0, 5, 2] 4 3 _ (Sl.built_ V (ints [0, 5, 2]) 27 (W.heap.size + 1) VZ.out.symm rfl) (by omega) lit_first (by omega) (by omega) 0 [] 7 lit_cut4).mono ?_
  rintro e w1 ⟨A1, c1, rfl, s1, l1, bb1⟩
  have B1 : Hid (Below V.heap.size V w1) := Lib.hid (belLit1 (Below.refl V.heap.size V) bb1)
  clear s1 bb1
  go_wp2_with fail
  refine (cut_any _ 1 _ [0, 5, 2] 5 3 _ (Sl.built_ _ (ints [0, 5, 2]) 27 _ rfl rfl) (by omega) lit_first (by omega) (by omega) 0 [] 0 lit_cut5).mono ?_
  rintro e w2 ⟨A2, c2, rfl, s2, l2, bb2⟩
  have B2 : Hid (Below V.heap.size V w2) := Lib.hid (belLit1 B1.out bb2)
  have S2 : Hid (Sl w2 w2.heap.size A (n * 3) (ints zs)) := Lib.hid (S0.out.on B2.out)
  clear s2 bb2
  obtain ⟨d0, d1, d2⟩ := C.out w2 B2.out
  go_wp2_with fail
  clear d0 d1 d2
  by_cases h0 : lfirst zs n = 0
  case neg =>
    have H0 := Lib.hid h0
    have hne : (lfirst zs n != 0) = true := by simpa using h0
    clear h0
    refine (take_bad A n c zs x0 x1 x2 _ _ S2.out (by omega) rfl H0.out).mono ?_
    rintro e w3 ⟨rfl, b3⟩
    have B3 := Lib.hid (B0.out.trans ((belLit0 B2.out b3).mono B0.out.size))
    clear b3
    go_wp2_with fail
    go_ret
    exact ⟨rfl, B3.out⟩
  have H0 := Lib.hid h0
  clear h0
  by_cases hx : oneOk x0 x1 x2
  case neg =>
    have HX := Lib.hid hx
    clear hx
    refine (take_arg A n c zs x0 x1 x2 _ S2.out (by omega) H0.out HX.out).mono ?_
    rintro e w3 ⟨rfl, b3⟩
    have B3 := Lib.hid (B0.out.trans ((belLit0 B2.out b3).mono B0.out.size))
    clear b3
    go_wp2_with fail
    go_ret
    exact ⟨rfl, B3.out⟩
  obtain ⟨l, hl, hfl⟩ := flatT_of n zs S2.out.int_len
  have HL := Lib.hid hl
  have LT : Hid (leaseT l) := Lib.hid ((leaseT_iff l).2 (by rw [hfl, hl]; exact H0.out))
  have HX := Lib.hid hx
  rw [← hfl] at S2
  clear hl hfl hx
  refine (take_ok A n c l (x0, x1, x2) _ HL.out LT.out HX.out S2.out).mono ?_
  rintro e w3 ⟨A3, c3, rfl, s3, l3, b3⟩
  have B3 := Lib.hid (belLit0 B2.out b3)
  have Y0 : Hid (lfirst (flatT (takeT l (x0, x1, x2))) (takeT l (x0, x1, x2)).length = 0) := Lib.hid ((leaseT_iff _).1 (leaseT_take HX.out LT.out))
  have NC := Lib.hid (fun (t : Int) => not_cut (l := l) (x := (x0, x1, x2)) (now := now) (to := t))
  have m8 := leases_8 (leases_of Y0.out)
  generalize takeT l (x0, x1, x2) = ys at s3 l3 Y0 NC m8 ⊢
  obtain ⟨m, hm⟩ : ∃ m, ys.length = m := ⟨_, rfl⟩
  rw [hm] at s3 l3 Y0 m8 NC ⊢
  have S3 := Lib.hid s3
  clear b3 s3 hm
  go_wp2_with fail
  refine (within_t to 1000001 _ (by omega) (by omega) _ rfl).mono ?_
  rintro e _ ⟨rfl, rfl⟩
  have t0 := within_lo to 1000001 (by omega)
  have t1 := within_hi to 1000001 (by omega)
  generalize within to 1000001 = tt at *
  go_wp2_with fail
  by_cases hc : cutOk (flatT ys) m now tt
  case neg =>
    have CR : Hid (cutR (flatT ys) m now tt = (0, [], 7)) := if_neg hc
    clear hc
    refine (cut_any A3 m c3 (flatT ys) now tt _ S3.out (by omega) Y0.out t0 (by omega) 0 [] 7 CR.out).mono ?_
    rintro e w4 ⟨A4, c4, rfl, s4, l4, b4⟩
    have B4 := Lib.hid (belLit0 B3.out b4)
    have B5 := Lib.hid (B0.out.trans (B4.out.mono B0.out.size))
    clear b4 s4
    obtain ⟨d0, d1, d2⟩ := C.out w4 B4.out
    by_cases h1 : now < x1
    · have g1 := decide_eq_true h1
      by_cases h2 : x2 < tt
      · have g2 := decide_eq_true h2
        go_wp2_with fail
        go_ret
        exact ⟨rfl, B5.out⟩
      · have g2 := decide_eq_false h2
        go_wp2_with fail
        go_ret
        exact ⟨rfl, B5.out⟩
    · have g1 := decide_eq_false h1
      go_wp2_with fail
      go_ret
      exact ⟨rfl, B5.out⟩
  have CR : Hid (cutR (flatT ys) m now tt = (liveC (flatT ys) now m, liveL (flatT ys) now m, 0)) := if_pos hc
  have LI := Lib.hid (live_in (flatT ys) now m)
  have CL := Lib.hid (cut_live.1 hc)
  have HC := Lib.hid hc
  have lle := live_le (flatT ys) now m
  clear hc
  generalize liveC (flatT ys) now m = p at *
  generalize liveL (flatT ys) now m = L at *
  refine (cut_any A3 m c3 (flatT ys) now tt _ S3.out (by omega) Y0.out t0 (by omega) p L 0 CR.out).mono ?_
  rintro e w4 ⟨A4, c4, rfl, s4, l4, b4⟩
  have B4 := Lib.hid (belLit0 B3.out b4)
  have B5 := Lib.hid (B0.out.trans (B4.out.mono B0.out.size))
  have S4 := Lib.hid s4
  clear b4 s4
  obtain ⟨d0, d1, d2⟩ := C.out w4 B4.out
  have key : Hid (now < x1 → ¬ x2 < tt) := Lib.hid fun h1 h2 => NC.out tt h1 h2 HC.out
  by_cases h1 : now < x1
  case' pos =>
    have g1 := decide_eq_true h1
    have g2 := decide_eq_false (key.out h1)
  case' neg =>
    have g1 := decide_eq_false h1
  all_goals
    clear h1
    go_wp2_with fail
    clear d0 d1 d2
    go_loopw [82] (fun vi wr => ∃ i : Nat, i ≤ p ∧ vi = .int .i64 i ∧ Below w4.heap.size w4 wr) (fun vi _ => p - (intOf vi).toNat)
    case atStart => exact ⟨0, Nat.zero_le _, rfl, Below.refl _ _⟩
    case round =>
      obtain ⟨i, hi, rfl, hb⟩ := hrel
      have HB := Lib.hid hb
      have hzz := hb.size
      have hi0 : (0 : Int) ≤ i := by omega
      by_cases hlt : i < p
      · obtain ⟨b, off, hA, hbl, -⟩ := S4.out.int_at (k := i * 3) (by omega)
        subst hA
        obtain ⟨e0, e1, e2⟩ := (S4.out.below hb).three hlt
        have hn1 : (i : Int) < p := by omega
        have f1 := decide_eq_false (p := fd L i 2 < tt) (by have := CL.out i hlt; omega)
        have f2 := decide_eq_false (p := fd L i 1 ≤ now) (by obtain ⟨q, q1, q2, q3⟩ := LI.out i hlt; rw [q3 1 (by omega)]; omega)
        clear hb
        go_wp2_with fail
        go_roundw
        case rel => exact ⟨i + 1, by omega, by go_num, HB.out.alloc hzz _⟩
        case measure => simp [intOf]; omega
      · have hip : i = p := by omega
        subst hip
        have hn1 : ¬ (i : Int) < i := by omega
        clear hb
        go_wp2_with fail
        go_ret
        exact ⟨rfl, B5.out.trans (HB.out.mono B5.out.size)⟩
end Go.Proofs.Ytjgkcokffpbgnaa
