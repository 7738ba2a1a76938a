/- FifoOrders: packets are completed in order, not before arrival plus size, and completion times have the Lindley form. -/
import Derived.Test.YtihhldphpoddhaaPackA
import Derived.Test.YtihhldphpoddhaaKit0
set_option linter.unusedVariables false
namespace Go.Proofs.Ytihhldphpoddhaa
open Go.RowKit
theorem ffree_ge {zs : List Int} {n : Nat} (h : Packs zs n) (i : Nat) (hi : i < n) (q : Nat) (hq : q ≤ i) : fd zs q 0 + (psz zs (i + 1) - psz zs q) ≤ ffree zs (i + 1) := by
  induction i with
  | zero =>
    obtain rfl : q = 0 := by omega
    have m := mx_le (ffree zs 0) (fd zs 0 0)
    rw [ffree_succ, psz_succ]
    omega
  | succ i ih =>
    have m := mx_le (ffree zs (i + 1)) (fd zs (i + 1) 0)
    rw [ffree_succ, psz_succ]
    rcases Nat.lt_or_ge i q with h' | h'
    · obtain rfl : q = i + 1 := by omega
      omega
    · have := ih (by omega) h'
      omega
theorem ffree_hit {zs : List Int} {n : Nat} (h : Packs zs n) (i : Nat) (hi : i < n) : ∃ q, q ≤ i ∧ ffree zs (i + 1) = fd zs q 0 + (psz zs (i + 1) - psz zs q) := by
  induction i with
  | zero =>
    have m := mx_le (ffree zs 0) (fd zs 0 0)
    have a := (h.at0 0 hi).1
    have z : ffree zs 0 = 0 := rfl
    refine ⟨0, Nat.le_refl _, ?_⟩
    rw [ffree_succ, psz_succ]
    omega
  | succ i ih =>
    obtain ⟨q, hq, e⟩ := ih (by omega)
    have m := mx_le (ffree zs (i + 1)) (fd zs (i + 1) 0)
    rw [ffree_succ, psz_succ]
    rcases m.2.2 with h' | h'
    · exact ⟨q, by omega, by omega⟩
    · exact ⟨i + 1, Nat.le_refl _, by omega⟩
/-- Some packet of those from j to i hits the Lindley form. -/
def hitP (zs : List Int) (i j : Nat) : Prop := ∃ q, j ≤ q ∧ q ≤ i ∧ ffree zs (i + 1) = fd zs q 0 + (psz zs (i + 1) - psz zs q)
set_option maxRecDepth 100000 in
set_option maxHeartbeats 3200000 in
theorem fifoOrders_walk (A : Option Addr) (n c : Nat) (zs : List Int) (W : World) (w0 : In3 W A n c zs) :
    Calls Try.prog 8 #[.slice A n c] W fun e w' => e = .returned (.bool true) ∧ Below W.heap.size W w' := by
  obtain ⟨s0, l0, r0, _⟩ := w0
  go_enter Try.func8, Try.ntmps8
  go_wp2_with fail
  refine (fifo_any _ 1 _ [5, 1, 0] _ (Sl.built_ _ (ints [5, 1, 0]) 40 _ rfl rfl) (by omega) [6] 0 1 (by decide +kernel) rfl).mono ?_
  rintro e w1 ⟨A1, c1, rfl, s1, l1, bb1⟩
  have b1 := belLit1 (Below.refl W.heap.size W) bb1
  replace s0 := slLit1 s0 bb1
  clear bb1
  go_wp2_with fail
  refine (equal_t A1 1 c1 [6] _ 1 _ [6] _ (slMore s1 _) (Sl.built_ _ (ints [6]) 3 _ rfl rfl) (by omega) (by omega) true (by decide)).mono ?_
  rintro e w2 ⟨rfl, bb2⟩
  have b2 := belLit1 b1 bb2
  replace s0 := slLit1 s0 bb2
  clear b1 s1 bb2
  by_cases h0 : packErr zs n = 0
  case neg =>
    have hne : (packErr zs n != 0) = true := by simpa using h0
    have H0 := Lib.hid h0
    clear h0
    go_wp2_with fail
    refine (fifo_any A n c zs _ s0 (by omega) [] (packErr zs n) 0 (if_neg H0.out) rfl).mono ?_
    rintro e w3 ⟨A3, c3, rfl, s3, l3, bb3⟩
    have b3 := belLit0 b2 bb3
    clear b2 s0 s3 bb3
    go_wp2_with fail
    go_ret
    exact ⟨rfl, b3⟩
  have P := Lib.hid (packs_of h0)
  have H0 := Lib.hid h0
  have n60 := P.out.top
  clear h0
  go_wp2_with fail
  refine (fifo_any A n c zs _ s0 (by omega) (fdone zs n) 0 n (if_pos H0.out) (tab_len _ _)).mono ?_
  rintro e w3 ⟨A3, c3, rfl, s3, l3, bb3⟩
  have b3 := belLit0 b2 bb3
  replace s0 := slLit0 s0 bb3
  have S3 := Lib.hid s3
  have S0 := Lib.hid s0
  have B3 := Lib.hid b3
  have hnn : ((n : Int) != n) = false := by simp
  clear b2 s0 s3 bb3 b3
  go_wp2_with fail
  go_loopw [49, 7, 8, 9, 10, 11] (fun i _ _ _ _ _ wr => ∃ k : Nat, k ≤ n ∧ i = .int .i64 k ∧ Below w3.heap.size w3 wr) (fun i _ _ _ _ _ _ => n - (intOf i).toNat)
  case atStart => exact ⟨0, Nat.zero_le _, rfl, Below.refl _ _⟩
  case round =>
    obtain ⟨i, hi, rfl, hb⟩ := hrel
    have HB := Lib.hid hb
    have hz := hb.size
    have hi0 : (0 : Int) ≤ i := by omega
    by_cases hlt : i < n
    · obtain ⟨b, off, hA, hbl, -⟩ := S0.out.int_at (k := i * 3) (by omega)
      subst hA
      obtain ⟨bd, od, hA3, hbl3, -⟩ := S3.out.int_at (k := i) (by omega)
      subst hA3
      obtain ⟨c0, c1, c2⟩ := (S0.out.below hb).three hlt
      have d0 := (S3.out.below hb).int_cell (k := i) hlt
      rw [show gi (fdone zs n) i = ffree zs (i + 1) from tab_get _ hlt] at d0
      have fb := ffree_bd P.out (i + 1) (by omega)
      have p0 := P.out.at0 i hlt
      have p1 := P.out.sz i hlt
      have g1 := ffree_ge P.out i hlt i (Nat.le_refl _)
      rw [psz_succ] at g1
      have HX := Lib.hid (ffree_hit P.out i hlt)
      have hn1 : (i : Int) < n := by omega
      obtain ⟨D, hD⟩ : ∃ z, ffree zs (i + 1) = z := ⟨_, rfl⟩
      have HD := Lib.hid hD
      rw [hD] at d0 fb g1
      have q1 : decide (D < fd zs i 0 + fd zs i 1) = false := decide_eq_false (by omega)
      have f0 : wrap64 (fd zs i 0 + fd zs i 1) = fd zs i 0 + fd zs i 1 := IntWalk.wrap64_in _ ⟨by omega, by omega⟩
      have dd := (World.cell?_alloc_lt wr (.cells #[.int .i64 (fd zs i 0), .int .i64 (fd zs i 1), .int .i64 (fd zs i 2)] 40) ⟨bd, od + i, none⟩ (by show bd < _; omega)).trans d0
      have hb4 := Lib.hid (hb.alloc hz (.cells #[.int .i64 (fd zs i 0), .int .i64 (fd zs i 1), .int .i64 (fd zs i 2)] 40))
      rcases Nat.eq_zero_or_pos i with hi1 | hzp
      · have f6 : decide (0 < i) = false := decide_eq_false (by omega)
        have HB4 := hb4
        clear hb hD d0 hi1
        go_wp2_with fail
        go_quiet (fail)
        go_wp2_with fail
        go_loopw [11, 9, 10] (fun k s h wr' => ∃ j : Nat, ∃ z q : Int, ∃ v : Bool, j ≤ i + 1 ∧ k = .int .i64 z ∧ z = (j : Int) - 1 ∧ s = .int .i64 q ∧ Hid (q = psz zs (i + 1) - psz zs j) ∧ h = .bool v ∧ Hid (v = true ↔ hitP zs i j) ∧ Below w3.heap.size w3 wr') (fun k _ _ _ => (intOf k + 1).toNat)
        case atStart => exact ⟨i + 1, (i : Int), 0, false, Nat.le_refl _, rfl, by omega, rfl, Lib.hid (by omega), rfl, Lib.hid ⟨(fun h => Bool.noConfusion h), (fun hh => by obtain ⟨q, h1, h2, _⟩ := hh; omega)⟩, bel_drewN HB4.out _⟩
        case round =>
          obtain ⟨j, z, q, v, hj, rfl, ez, rfl, hq, rfl, hv, hbi⟩ := hrel
          rcases Nat.eq_zero_or_pos j with hj0 | hjp
          · have ez1 : ¬ 0 ≤ z := by omega
            subst hj0
            obtain ⟨qq, hx1, hx2⟩ := HX.out
            have ev : v = true := hv.out.2 ⟨qq, Nat.zero_le _, hx1, hx2⟩
            subst ev
            have HBI := Lib.hid hbi
            clear hbi hx1 hx2 ez
            go_wp2_with fail
            go_roundw
            case rel => exact ⟨i + 1, by omega, by go_num, HBI.out⟩
            case measure => simp [intOf]; omega
          · obtain ⟨m, rfl⟩ : ∃ m, j = m + 1 := ⟨j - 1, by omega⟩
            have ez1 : z = (m : Int) := by omega
            subst ez1
            have hmi : m ≤ i := by omega
            obtain ⟨e0, e1, e2⟩ := (S0.out.below hbi).three (k := m) (by omega)
            have dm := (S3.out.below hbi).int_cell (k := i) hlt
            rw [show gi (fdone zs n) i = D from by rw [← HD.out]; exact tab_get _ hlt] at dm
            have pm0 := P.out.at0 m (by omega)
            have pm1 := P.out.sz m (by omega)
            have gm := ffree_ge P.out i hlt m hmi
            have ps := psz_succ zs m
            have b1 := psz_bd P.out (i + 1) (by omega)
            have b2 := psz_bd P.out (m + 1) (by omega)
            have b3 := psz_up P.out (show m + 1 ≤ i + 1 by omega) (by omega)
            have hq' := hq.out
            rw [HD.out] at gm
            have HQ : Hid (q + fd zs m 1 = psz zs (i + 1) - psz zs m) := by show _ = _; omega
            have q0 : 0 ≤ q := by omega
            have q9 : q ≤ 60000 := by omega
            have r1 : decide (D < fd zs m 0 + (q + fd zs m 1)) = false := decide_eq_false (by have := HQ.out; omega)
            have r2 : wrap64 (fd zs m 0 + (q + fd zs m 1)) = fd zs m 0 + (q + fd zs m 1) := IntWalk.wrap64_in _ ⟨by omega, by omega⟩
            have r3 : wrap64 (q + fd zs m 1) = q + fd zs m 1 := IntWalk.wrap64_in _ ⟨by omega, by omega⟩
            have hm0 : (0 : Int) ≤ m := by omega
            have hmn : (m : Int) < n := by omega
            have HBI := Lib.hid hbi
            have hzz : -1 < (m : Int) := by omega
            obtain ⟨t, ht⟩ : ∃ t, (D == fd zs m 0 + (q + fd zs m 1)) = t := ⟨_, rfl⟩
            have HV : Hid ((v || t) = true ↔ hitP zs i m) := by
              show _ ↔ _
              rw [Bool.or_eq_true, hv.out, ← ht]
              have e := HQ.out
              constructor
              · rintro (⟨q', h1, h2, h3⟩ | h)
                · exact ⟨q', by omega, h2, h3⟩
                · refine ⟨m, Nat.le_refl _, hmi, ?_⟩
                  rw [HD.out, ← e]
                  simpa using h
              · rintro ⟨q', h1, h2, h3⟩
                rcases Nat.lt_or_ge m q' with h' | h'
                · exact .inl ⟨q', by omega, h2, h3⟩
                · obtain rfl : q' = m := by omega
                  right
                  rw [HD.out, ← e] at h3
                  simpa using h3
            clear hbi hq hq' gm ps b1 b2 b3 ez
            cases v
            · go_wp2_with fail
              go_quiet (fail)
              go_wp2_with fail
              go_quiet (fail)
              go_wp2_with fail
              go_roundw
              case rel => exact ⟨m, _, _, t, by omega, rfl, by go_num, rfl, HQ, rfl, Lib.hid (by simpa using HV.out), bel_drewN HBI.out _⟩
              case measure => simp [intOf]
            · go_wp2_with fail
              go_quiet (fail)
              go_wp2_with fail
              go_quiet (fail)
              go_wp2_with fail
              go_roundw
              case rel => exact ⟨m, _, _, true, by omega, rfl, by go_num, rfl, HQ, rfl, Lib.hid (by simpa using HV.out), bel_drewN HBI.out _⟩
              case measure => simp [intOf]
      · have h3 := (S3.out.below hb).int_cell (k := i - 1) (by omega)
        rw [show gi (fdone zs n) (i - 1) = ffree zs (i - 1 + 1) from tab_get _ (by omega), show i - 1 + 1 = i by omega] at h3
        have hs1 := ffree_succ zs i
        have m1 := mx_le (ffree zs i) (fd zs i 0)
        have fb1 := ffree_bd P.out i (by omega)
        rw [hD] at hs1
        obtain ⟨D1, hD1⟩ : ∃ z, ffree zs i = z := ⟨_, rfl⟩
        rw [hD1] at h3 hs1 m1 fb1
        have q2 : decide (D < D1 + fd zs i 1) = false := decide_eq_false (by omega)
        have f1 : wrap64 (D1 + fd zs i 1) = D1 + fd zs i 1 := IntWalk.wrap64_in _ ⟨by omega, by omega⟩
        have dd1 := (World.cell?_alloc_lt wr (.cells #[.int .i64 (fd zs i 0), .int .i64 (fd zs i 1), .int .i64 (fd zs i 2)] 40) ⟨bd, od + (i - 1), none⟩ (by show bd < _; omega)).trans h3
        have f2 : IntKind.i64.wrap ((i : Int) - 1) = (i : Int) - 1 := IntWalk.i64_in _ ⟨by omega, by omega⟩
        have f3 : ((i : Int) - 1).toNat = i - 1 := by omega
        have f4 : 0 ≤ (i : Int) - 1 := by omega
        have f5 : (i : Int) - 1 < n := by omega
        have f6 : (0 : Int) < i := by omega
        have HB4 := hb4
        clear hb hD h3 d0 hs1 hD1
        go_wp2_with fail
        go_quiet (fail)
        go_wp2_with fail
        go_loopw [11, 9, 10] (fun k s h wr' => ∃ j : Nat, ∃ z q : Int, ∃ v : Bool, j ≤ i + 1 ∧ k = .int .i64 z ∧ z = (j : Int) - 1 ∧ s = .int .i64 q ∧ Hid (q = psz zs (i + 1) - psz zs j) ∧ h = .bool v ∧ Hid (v = true ↔ hitP zs i j) ∧ Below w3.heap.size w3 wr') (fun k _ _ _ => (intOf k + 1).toNat)
        case atStart => exact ⟨i + 1, (i : Int), 0, false, Nat.le_refl _, rfl, by omega, rfl, Lib.hid (by omega), rfl, Lib.hid ⟨(fun h => Bool.noConfusion h), (fun hh => by obtain ⟨q, h1, h2, _⟩ := hh; omega)⟩, bel_drewN HB4.out _⟩
        case round =>
          obtain ⟨j, z, q, v, hj, rfl, ez, rfl, hq, rfl, hv, hbi⟩ := hrel
          rcases Nat.eq_zero_or_pos j with hj0 | hjp
          · have ez1 : ¬ 0 ≤ z := by omega
            subst hj0
            obtain ⟨qq, hx1, hx2⟩ := HX.out
            have ev : v = true := hv.out.2 ⟨qq, Nat.zero_le _, hx1, hx2⟩
            subst ev
            have HBI := Lib.hid hbi
            clear hbi hx1 hx2 ez
            go_wp2_with fail
            go_roundw
            case rel => exact ⟨i + 1, by omega, by go_num, HBI.out⟩
            case measure => simp [intOf]; omega
          · obtain ⟨m, rfl⟩ : ∃ m, j = m + 1 := ⟨j - 1, by omega⟩
            have ez1 : z = (m : Int) := by omega
            subst ez1
            have hmi : m ≤ i := by omega
            obtain ⟨e0, e1, e2⟩ := (S0.out.below hbi).three (k := m) (by omega)
            have dm := (S3.out.below hbi).int_cell (k := i) hlt
            rw [show gi (fdone zs n) i = D from by rw [← HD.out]; exact tab_get _ hlt] at dm
            have pm0 := P.out.at0 m (by omega)
            have pm1 := P.out.sz m (by omega)
            have gm := ffree_ge P.out i hlt m hmi
            have ps := psz_succ zs m
            have b1 := psz_bd P.out (i + 1) (by omega)
            have b2 := psz_bd P.out (m + 1) (by omega)
            have b3 := psz_up P.out (show m + 1 ≤ i + 1 by omega) (by omega)
            have hq' := hq.out
            rw [HD.out] at gm
            have HQ : Hid (q + fd zs m 1 = psz zs (i + 1) - psz zs m) := by show _ = _; omega
            have q0 : 0 ≤ q := by omega
            have q9 : q ≤ 60000 := by omega
            have r1 : decide (D < fd zs m 0 + (q + fd zs m 1)) = false := decide_eq_false (by have := HQ.out; omega)
            have r2 : wrap64 (fd zs m 0 + (q + fd zs m 1)) = fd zs m 0 + (q + fd zs m 1) := IntWalk.wrap64_in _ ⟨by omega, by omega⟩
            have r3 : wrap64 (q + fd zs m 1) = q + fd zs m 1 := IntWalk.wrap64_in _ ⟨by omega, by omega⟩
            have hm0 : (0 : Int) ≤ m := by omega
            have hmn : (m : Int) < n := by omega
            have HBI := Lib.hid hbi
            have hzz : -1 < (m : Int) := by omega
            obtain ⟨t, ht⟩ : ∃ t, (D == fd zs m 0 + (q + fd zs m 1)) = t := ⟨_, rfl⟩
            have HV : Hid ((v || t) = true ↔ hitP zs i m) := by
              show _ ↔ _
              rw [Bool.or_eq_true, hv.out, ← ht]
              have e := HQ.out
              constructor
              · rintro (⟨q', h1, h2, h3⟩ | h)
                · exact ⟨q', by omega, h2, h3⟩
                · refine ⟨m, Nat.le_refl _, hmi, ?_⟩
                  rw [HD.out, ← e]
                  simpa using h
              · rintro ⟨q', h1, h2, h3⟩
                rcases Nat.lt_or_ge m q' with h' | h'
                · exact .inl ⟨q', by omega, h2, h3⟩
                · obtain rfl : q' = m := by omega
                  right
                  rw [HD.out, ← e] at h3
                  simpa using h3
            clear hbi hq hq' gm ps b1 b2 b3 ez
            cases v
            · go_wp2_with fail
              go_quiet (fail)
              go_wp2_with fail
              go_quiet (fail)
              go_wp2_with fail
              go_roundw
              case rel => exact ⟨m, _, _, t, by omega, rfl, by go_num, rfl, HQ, rfl, Lib.hid (by simpa using HV.out), bel_drewN HBI.out _⟩
              case measure => simp [intOf]
            · go_wp2_with fail
              go_quiet (fail)
              go_wp2_with fail
              go_quiet (fail)
              go_wp2_with fail
              go_roundw
              case rel => exact ⟨m, _, _, true, by omega, rfl, by go_num, rfl, HQ, rfl, Lib.hid (by simpa using HV.out), bel_drewN HBI.out _⟩
              case measure => simp [intOf]
    · have hn1 : ¬ (i : Int) < n := by omega
      clear hb
      go_wp2_with fail
      go_ret
      exact ⟨rfl, B3.out.trans (HB.out.mono B3.out.size)⟩
end Go.Proofs.Ytihhldphpoddhaa
