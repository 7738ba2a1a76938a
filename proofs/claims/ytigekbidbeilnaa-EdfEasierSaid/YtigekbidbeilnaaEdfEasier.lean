/- EdfEasier: a feasible set remains feasible if a job is removed or relaxed. -/
import Derived.Test.YtigekbidbeilnaaEdfP
import Derived.Test.YtigekbidbeilnaaCloneJob
import Derived.Test.YtigekbidbeilnaaDelJob
import Derived.Test.YtigekbidbeilnaaKit0
import Derived.StillTailTactics
set_option linter.unusedVariables false
namespace Go.Proofs.Ytigekbidbeilnaa
open Go.RowKit
/-- Job k relaxed. -/
def easyT (zs : List Int) (n k : Nat) (x0 x1 x2 : Int) : List Int := flat3 n (fun a b => if a = k then (if b = 0 then x0 else if b = 1 then x1 else x2) else fd zs a b)
theorem easyT_fd {zs : List Int} {n k : Nat} {x0 x1 x2 : Int} {a b : Nat} (ha : a < n) (hb : b < 3) : fd (easyT zs n k x0 x1 x2) a b = if a = k then (if b = 0 then x0 else if b = 1 then x1 else x2) else fd zs a b := fd_flat3 ha hb
theorem easyT_set {zs : List Int} {n k : Nat} (hl : zs.length = n * 3) (hk : k < n) (x0 x1 x2 : Int) : ((zs.set (k * 3 + 0) x0).set (k * 3 + 1) x1).set (k * 3 + 2) x2 = easyT zs n k x0 x1 x2 := by
  have e : zs = flat3 n (fd zs) := (flat3_of hl).symm
  unfold easyT
  rw [show zs.set (k * 3 + 0) x0 = (flat3 n (fd zs)).set (k * 3 + 0) x0 from by rw [← e]]
  rw [flat3_set hk (by omega), flat3_set hk (by omega), flat3_set hk (by omega)]
  refine flat3_congr fun a ha b hb => ?_
  have b3 : b = 0 ∨ b = 1 ∨ b = 2 := by omega
  by_cases h1 : a = k
  · subst h1
    rcases b3 with rfl | rfl | rfl <;> simp
  · simp [h1]
theorem easy_ok {zs : List Int} {n k : Nat} {x0 x1 x2 : Int} (h : edfOk zs n) (hk : k < n) (h0 : 0 ≤ x0) (h1 : x0 ≤ fd zs k 0) (h2 : 1 ≤ x1) (h3 : x1 ≤ fd zs k 1) (h4 : fd zs k 2 ≤ x2) (h5 : x2 ≤ 200) (hf : fitsE zs n) : edfOk (easyT zs n k x0 x1 x2) n ∧ fitsE (easyT zs n k x0 x1 x2) n := by
  have ok : edfOk (easyT zs n k x0 x1 x2) n := by
    refine ⟨h.1, fun a ha => ?_⟩
    obtain ⟨t0, t1, t2, t3, t4⟩ := h.2 a ha
    unfold jobOk
    rw [easyT_fd ha (by omega), easyT_fd ha (by omega), easyT_fd ha (by omega)]
    by_cases e : a = k
    · subst e
      rw [if_pos rfl, if_pos rfl, if_pos rfl, if_pos rfl, if_neg (by omega), if_pos rfl, if_neg (by omega), if_neg (by omega)]
      omega
    · rw [if_neg e, if_neg e, if_neg e]
      omega
  refine ⟨ok, fits_of fun x y hxy => Int.le_trans (dem_le fun a ha => ?_) (fits_all h hf x y hxy)⟩
  have e0 := easyT_fd (zs := zs) (k := k) (x0 := x0) (x1 := x1) (x2 := x2) ha (show 0 < 3 by omega)
  have e1 := easyT_fd (zs := zs) (k := k) (x0 := x0) (x1 := x1) (x2 := x2) ha (show 1 < 3 by omega)
  have e2 := easyT_fd (zs := zs) (k := k) (x0 := x0) (x1 := x1) (x2 := x2) ha (show 2 < 3 by omega)
  by_cases e : a = k
  · subst e
    rw [if_pos rfl, if_pos rfl] at e0
    rw [if_pos rfl, if_neg (by omega), if_pos rfl] at e1
    rw [if_pos rfl, if_neg (by omega), if_neg (by omega)] at e2
    have t3 := (h.2 a ha).2.2.2.1
    unfold demW
    by_cases hin : insideJ (easyT zs n a x0 x1 x2) x y a
    · rw [if_pos hin, if_pos (show insideJ zs x y a from by unfold insideJ at *; omega)]
      omega
    · rw [if_neg hin]
      split <;> omega
  · rw [if_neg e] at e0 e1 e2
    exact Int.le_of_eq (demW_eq (by unfold insideJ; rw [e0, e2]) e1)
theorem sumN_skip (f : Nat → Int) (n i : Nat) (hi : i < n) : sumN (fun a => f (if a < i then a else a + 1)) (n - 1) + f i = sumN f n := by
  induction n with
  | zero => omega
  | succ n ih =>
    rw [Nat.add_sub_cancel, sumN_succ]
    rcases Nat.lt_or_ge i n with h | h
    · obtain ⟨m, rfl⟩ : ∃ m, n = m + 1 := ⟨n - 1, by omega⟩
      have a := ih h
      rw [Nat.add_sub_cancel] at a
      rw [sumN_succ (fun a => f (if a < i then a else a + 1)), if_neg (by omega)]
      omega
    · obtain rfl : i = n := by omega
      rw [sumN_congr (g := f) fun j hj => by rw [if_pos hj]]
theorem del_ok {zs : List Int} {n i : Nat} (h : edfOk zs n) (hi : i < n) (hf : fitsE zs n) : edfOk (delT zs n i) (n - 1) ∧ fitsE (delT zs n i) (n - 1) := by
  have ok : edfOk (delT zs n i) (n - 1) := by
    refine ⟨by have := h.1; omega, fun a ha => ?_⟩
    unfold jobOk
    rw [delT_fd ha (by omega), delT_fd ha (by omega), delT_fd ha (by omega)]
    exact h.2 _ (by split <;> omega)
  refine ⟨ok, fits_of fun x y hxy => ?_⟩
  have a := fits_all h hf x y hxy
  have b := sumN_skip (demW zs x y) n i hi
  have c : 0 ≤ demW zs x y i := by
    have := (h.2 i hi).2.2.2.1
    unfold demW
    split <;> omega
  rw [dem_sum] at a ⊢
  rw [sumN_congr (g := fun a => demW zs x y (if a < i then a else a + 1)) fun q hq => demW_eq (by unfold insideJ; rw [delT_fd hq (by omega), delT_fd hq (by omega)]) (delT_fd hq (by omega))]
  omega
set_option maxRecDepth 100000 in
set_option maxHeartbeats 6400000 in
theorem edfEasier_walk (A : Option Addr) (n c : Nat) (zs : List Int) (i wk at' due : Int) (W : World) (w0 : In3 W A n c zs) (_ : -9223372036854775808 ≤ i ∧ i ≤ 9223372036854775807) (_ : -9223372036854775808 ≤ wk ∧ wk ≤ 9223372036854775807) (_ : -9223372036854775808 ≤ at' ∧ at' ≤ 9223372036854775807) (_ : -9223372036854775808 ≤ due ∧ due ≤ 9223372036854775807) :
    Calls Try.prog 4 #[.slice A n c, .int .i64 i, .int .i64 wk, .int .i64 at', .int .i64 due] W fun e w' => e = .returned (.bool true) ∧ Below W.heap.size W w' := by
  obtain ⟨s0, l0, r0, _⟩ := w0
  go_enter Try.func4, Try.ntmps4
  go_wp2_with fail
  refine (efits_ok _ 1 _ [0, 2, 1] _ (by decide) (Sl.built_ _ (ints [0, 2, 1]) 28 _ rfl rfl) false (by decide)).mono ?_
  rintro e w1 ⟨rfl, bb1⟩
  have b1 := belLit1 (Below.refl W.heap.size W) bb1
  replace s0 := slLit1 s0 bb1
  clear bb1
  go_wp2_with fail
  refine (efits_ok _ 1 _ [0, 1, 1] _ (by decide) (Sl.built_ _ (ints [0, 1, 1]) 28 _ rfl rfl) true (by decide)).mono ?_
  rintro e w2 ⟨rfl, bb2⟩
  have b2 := belLit1 b1 bb2
  replace s0 := slLit1 s0 bb2
  clear b1 bb2
  by_cases hok : edfOk zs n
  case neg =>
    have hne := edfErr_ne n
    have hne2 : (edfErr n == 0) = false := by simpa using hne
    have HOK := Lib.hid hok
    clear hok
    go_wp2_with fail
    refine (efits_bad A n c zs _ HOK.out s0 (by omega)).mono ?_
    rintro e w4 ⟨rfl, bb4⟩
    have b4 := belLit0 b2 bb4
    clear b2 bb4 s0
    go_wp2_with fail
    go_ret
    exact ⟨rfl, b4⟩
  have OK := Lib.hid hok
  by_cases hft : fitsE zs n
  case neg =>
    have HF := Lib.hid hft
    clear hft hok
    go_wp2_with fail
    refine (efits_ok A n c zs _ OK.out s0 false (by simp [HF.out])).mono ?_
    rintro e w4 ⟨rfl, bb4⟩
    have b4 := belLit0 b2 bb4
    clear b2 bb4 s0
    go_wp2_with fail
    go_ret
    exact ⟨rfl, b4⟩
  have HF := Lib.hid hft
  have n12 := hok.1
  clear hft hok
  go_wp2_with fail
  refine (efits_ok A n c zs _ OK.out s0 true (by simp [HF.out])).mono ?_
  rintro e w3 ⟨rfl, bb3⟩
  have b3 := belLit0 b2 bb3
  replace s0 := slLit0 s0 bb3
  clear b2 bb3
  by_cases hn0 : n = 0
  case pos =>
    have e0 : ((n : Int) == 0) = true := by simp; omega
    clear s0 hn0
    go_wp2_with fail
    go_ret
    exact ⟨rfl, b3⟩
  have e0 : ((n : Int) == 0) = false := by simp; omega
  have np : 0 < n := by omega
  have HL := Lib.hid s0.int_len
  clear hn0
  go_wp2_with fail
  refine (within_t i n _ (by omega) (by omega) _ rfl).mono ?_
  rintro e _ ⟨rfl, rfl⟩
  have i0 := within_lo i n (by omega)
  have i1 := within_hi i n (by omega)
  generalize within i n = i' at *
  obtain ⟨k, rfl⟩ := Int.eq_ofNat_of_zero_le i0
  have hk : k < n := by omega
  go_wp2_with fail
  refine (cloneJob A n c (ints zs) _ s0 (ints_one _) (by omega)).mono ?_
  rintro e w4 ⟨x, rfl, own4, bb4, z4⟩
  obtain ⟨g, cap, rfl, hg1, hg2⟩ := own4.form np
  obtain ⟨b, off, hA, hbl, -⟩ := s0.int_at (k := 0) (by omega)
  subst hA
  obtain ⟨y0, y1, y2⟩ := (s0.on bb4).three hk
  obtain ⟨t0, t1, t2, t3, t4⟩ := OK.out.2 k hk
  have ok : ∀ q, q < 3 → w4.cell? ⟨g, k * 3 + q, none⟩ = some (.int .i64 (fd zs k q)) := fun q hq => by
    have := own4.cellAt (k * 3 + q) (by omega)
    rwa [ints_get (by rw [HL.out]; omega)] at this
  have S3 := Lib.hid s0
  have B3 := Lib.hid b3
  have O4 := Lib.hid own4
  have BB4 := Lib.hid bb4
  have FZ : Hid (∀ q, w4.drew.frozen? ⟨g, q, none⟩ = false) := Lib.hid own4.frozenAt
  have C0 : Hid (w4.drew.cell? ⟨g, k * 3, none⟩ = some (.int .i64 (fd zs k 0))) := Lib.hid (ok 0 (by omega))
  have C1 : Hid (w4.drew.cell? ⟨g, k * 3 + 1, none⟩ = some (.int .i64 (fd zs k 1))) := Lib.hid (ok 1 (by omega))
  have C2 : Hid (w4.drew.cell? ⟨g, k * 3 + 2, none⟩ = some (.int .i64 (fd zs k 2))) := Lib.hid (ok 2 (by omega))
  clear b3 bb4 s0 own4 ok
  have p0 := within_lo at' (fd zs k 0 + 1) (by omega)
  have p1 := within_hi at' (fd zs k 0 + 1) (by omega)
  have p2 := within_lo wk (fd zs k 1) (by omega)
  have p3 := within_hi wk (fd zs k 1) (by omega)
  have p4 := within_lo due 50 (by omega)
  have p5 := within_hi due 50 (by omega)
  have W1 : Hid (∀ w : World, Calls Try.prog 15 #[.int .i64 at', .int .i64 (fd zs k 0 + 1)] w fun e w' => e = .returned (.int .i64 (within at' (fd zs k 0 + 1))) ∧ w' = w) := Lib.hid fun w => (within_any _ _ w (by omega) (by omega)).mono fun _ _ ⟨h1, h2⟩ => ⟨h1, h2.symm⟩
  have W2 : Hid (∀ w : World, Calls Try.prog 15 #[.int .i64 wk, .int .i64 (fd zs k 1)] w fun e w' => e = .returned (.int .i64 (within wk (fd zs k 1))) ∧ w' = w) := Lib.hid fun w => (within_any _ _ w (by omega) (by omega)).mono fun _ _ ⟨h1, h2⟩ => ⟨h1, h2.symm⟩
  have W3 : Hid (∀ w : World, Calls Try.prog 15 #[.int .i64 due, .int .i64 50] w fun e w' => e = .returned (.int .i64 (within due 50)) ∧ w' = w) := Lib.hid fun w => (within_any _ _ w (by omega) (by omega)).mono fun _ _ ⟨h1, h2⟩ => ⟨h1, h2.symm⟩
  generalize within at' (fd zs k 0 + 1) = u1 at *
  generalize within wk (fd zs k 1) = u2 at *
  generalize within due 50 = u3 at *
  have f0 : IntKind.i64.wrap (fd zs k 0 + 1) = fd zs k 0 + 1 := IntWalk.i64_in _ ⟨by omega, by omega⟩
  have f1 : IntKind.i64.wrap (fd zs k 0 - u1) = fd zs k 0 - u1 := IntWalk.i64_in _ ⟨by omega, by omega⟩
  have f2 : IntKind.i64.wrap (fd zs k 1 - u2) = fd zs k 1 - u2 := IntWalk.i64_in _ ⟨by omega, by omega⟩
  have f3 : IntKind.i64.wrap (fd zs k 2 + u3) = fd zs k 2 + u3 := IntWalk.i64_in _ ⟨by omega, by omega⟩
  obtain ⟨x2, hx2⟩ : ∃ x2, (if fd zs k 2 + u3 < 200 then fd zs k 2 + u3 else 200) = x2 := ⟨_, rfl⟩
  have q1 : fd zs k 2 ≤ x2 := by rw [← hx2]; split <;> omega
  have q2 : x2 ≤ 200 := by rw [← hx2]; split <;> omega
  obtain ⟨EO, EF⟩ := easy_ok (x0 := fd zs k 0 - u1) (x1 := fd zs k 1 - u2) (x2 := x2) OK.out hk (by omega) (by omega) (by omega) (by omega) q1 q2 HF.out
  obtain ⟨DO, DF⟩ := del_ok OK.out hk HF.out
  have EO' := Lib.hid EO
  have EF' := Lib.hid EF
  have DO' := Lib.hid DO
  have DF' := Lib.hid DF
  have hkI : (k : Int) < n := by omega
  have hk0 : (0 : Int) ≤ k := by omega
  clear EO EF DO DF q1 q2
  go_wp2_with fail
  refine wp_region_still_tail 40 (by kernel_rfl) (by kernel_rfl) ?_
  simp only [List.take_succ_cons, List.take_zero, List.drop_succ_cons, List.drop_zero]
  repeat still_step
  still_call (W1.out w4.drew)
  repeat still_step
  still_call (W2.out w4.drew)
  repeat still_step
  still_call (W3.out w4.drew)
  repeat still_step
  refine wpStill_nil ?_
  change wpList _ _ _ _ _ w4.drew
  refine wpList_putJob rfl (.tmp 112) (.tmp 111) rfl g (k * 3) (fd zs k 0 - u1) (fd zs k 1 - u2) x2 rfl rfl _ _ _ C0.out C1.out C2.out FZ.out ?_
  have o6 := (((O4.out.drew.stored (k * 3 + 0) (.int .i64 (fd zs k 0 - u1))).1.stored (k * 3 + 1) (.int .i64 (fd zs k 1 - u2))).1.stored (k * 3 + 2) (.int .i64 x2)).1
  rw [ints_set, ints_set, ints_set, easyT_set HL.out hk] at o6
  simp only [Nat.add_zero] at o6
  have b6 : Below w3.heap.size w3 (((w4.drew.setCell ⟨g, k * 3, none⟩ (.int .i64 (fd zs k 0 - u1))).setCell ⟨g, k * 3 + 1, none⟩ (.int .i64 (fd zs k 1 - u2))).setCell ⟨g, k * 3 + 2, none⟩ (.int .i64 x2)) := (((BB4.out.drew.setCell (p := ⟨g, k * 3, none⟩) hg1 _).setCell (p := ⟨g, k * 3 + 1, none⟩) hg1 _).setCell (p := ⟨g, k * 3 + 2, none⟩) hg1 _)
  generalize (((w4.drew.setCell ⟨g, k * 3, none⟩ (.int .i64 (fd zs k 0 - u1))).setCell ⟨g, k * 3 + 1, none⟩ (.int .i64 (fd zs k 1 - u2))).setCell ⟨g, k * 3 + 2, none⟩ (.int .i64 x2)) = w6 at o6 b6 ⊢
  have hcap : n ≤ cap := by
    obtain ⟨A', c', e, h⟩ := own_form o6
    injection e with e1 e2 e3
    omega
  have s6 := Sl.of_own3 o6
  have s0 := S3.out.on b6
  have b7 := belLit0 B3.out b6
  clear o6 b6 y0 y1 y2 C0 C1 C2 FZ O4 BB4 hx2
  go_wp2_with fail
  refine (efits_ok _ n cap _ _ EO'.out s6 true (by simp [EF'.out])).mono ?_
  rintro e w8 ⟨rfl, bb8⟩
  have b8 := belLit0 b7 bb8
  replace s0 := slLit0 s0 bb8
  clear b7 bb8 s6
  go_wp2_with fail
  refine (cloneJob _ n c (ints zs) _ s0 (ints_one _) (by omega)).mono ?_
  rintro e w9 ⟨x, rfl, own9, bb9, z9⟩
  obtain ⟨g9, cap9, rfl, hg9, hg99⟩ := own9.form np
  have hcap9 : n ≤ cap9 := by
    obtain ⟨A', c', e, h⟩ := own_form own9
    injection e with e1 e2 e3
    omega
  have hcm9 : cap9 ≤ 9223372036854775807 := by
    rcases own9.2 with ⟨e, _⟩ | ⟨g', cap', cur, e, _, _, _, hm, _⟩
    · cases e
    · injection e with e1 e2 e3
      subst e3
      exact hm
  have b9 : True := trivial
  have f9 : IntKind.i64.wrap ((k : Int) + 1) = (k : Int) + 1 := IntWalk.i64_in _ ⟨by omega, by omega⟩
  have O9 := Lib.hid own9
  have HB8 := Lib.hid b8
  have HBB9 := Lib.hid bb9
  clear b8 b9 bb9 s0 own9
  go_wp2_with fail
  refine (delJob w8.heap.size g9 n cap9 k zs _ O9.out HL.out hk hcap9 hcm9 hg9).mono ?_
  rintro e w10 ⟨rfl, own10, bb10⟩
  have s10 := Sl.of_own3 own10
  have b10 := belLit0 HB8.out (HBB9.out.trans bb10)
  clear own10 bb10
  go_wp2_with fail
  refine (efits_ok _ (n - 1) cap9 _ _ DO'.out s10 true (by simp [DF'.out])).mono ?_
  rintro e w11 ⟨rfl, bb11⟩
  have b11 := belLit0 b10 bb11
  clear b10 bb11 s10
  go_wp2_with fail
  go_ret
  exact ⟨rfl, b11⟩
end Go.Proofs.Ytigekbidbeilnaa
